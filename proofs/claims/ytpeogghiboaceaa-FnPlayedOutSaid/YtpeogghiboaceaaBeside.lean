/- BesideOk, of the program and of the reference, by one plain predicate. -/
import Derived.Test.YtpeogghiboaceaaTable
namespace Go.Proofs.Ytpeogghiboaceaa
open Go.RowKit Go.Shelf
set_option linter.unusedVariables false

def cell2 (xss : List (List Int)) (i k : Nat) : Int := (xss.getD i []).getD k 0
theorem cell2_eq {xss : List (List Int)} {i k : Nat} (hi : i < xss.length) (hk : k < xss[i].length) : cell2 xss i k = xss[i][k] := by
  unfold cell2
  simp [List.getD, List.getElem?_eq_getElem hi, List.getElem?_eq_getElem hk]

/-- What row i must be, but for symmetry. -/
def rowB (xss : List (List Int)) (i : Nat) : Prop :=
  (xss.getD i []).length = xss.length ∧ allB (xss.getD i []) 0 1 = true ∧ cell2 xss i i = 0 ∧ (1 < xss.length → sum64 (xss.getD i []) ≠ 0)
def besideP (xss : List (List Int)) : Prop :=
  (1 ≤ xss.length ∧ xss.length ≤ 6) ∧ (∀ i, i < xss.length → rowB xss i) ∧ ∀ i, i < xss.length → ∀ k, k < i → cell2 xss i k = cell2 xss k i
instance (xss : List (List Int)) (i : Nat) : Decidable (rowB xss i) := by unfold rowB; infer_instance
instance (xss : List (List Int)) : Decidable (besideP xss) := by unfold besideP; infer_instance
def besideB (xss : List (List Int)) : Bool := decide (besideP xss)

theorem besideB_yes {xss : List (List Int)} (h : besideP xss) : besideB xss = true := decide_eq_true h
theorem besideB_no {xss : List (List Int)} (h : ¬ besideP xss) : besideB xss = false := decide_eq_false h
theorem getD_get {α : Type} {xs : List α} {d : α} {i : Nat} (h : i < xs.length) : xs.getD i d = xs[i] := by simp [List.getD, List.getElem?_eq_getElem h]

/-- The first k rows are right. -/
def upB (xss : List (List Int)) (k : Nat) : Prop := ∀ i, i < k → rowB xss i ∧ ∀ j, j < i → cell2 xss i j = cell2 xss j i
theorem upB_zero (xss : List (List Int)) : upB xss 0 := fun i h => by omega
theorem upB_step {xss : List (List Int)} {k : Nat} (h : upB xss k) (hr : rowB xss k) (hs : ∀ j, j < k → cell2 xss k j = cell2 xss j k) : upB xss (k + 1) := by
  intro i hi
  by_cases e : i < k
  · exact h i e
  · have e2 : i = k := by omega
    subst e2
    exact ⟨hr, hs⟩
theorem upB_all {xss : List (List Int)} (h : upB xss xss.length) (hn : 1 ≤ xss.length ∧ xss.length ≤ 6) : besideB xss = true :=
  besideB_yes ⟨hn, fun i hi => (h i hi).1, fun i hi => (h i hi).2⟩
theorem besideB_row {xss : List (List Int)} {k : Nat} (hk : k < xss.length) (h : ¬ rowB xss k) : besideB xss = false := besideB_no fun hh => h (hh.2.1 k hk)
theorem besideB_sym {xss : List (List Int)} {k j : Nat} (hk : k < xss.length) (hj : j < k) (h : ¬ cell2 xss k j = cell2 xss j k) : besideB xss = false := besideB_no fun hh => h (hh.2.2 k hk j hj)

theorem sym_step {xss : List (List Int)} {k j : Nat} (h : ∀ t, t < j → cell2 xss k t = cell2 xss t k) (hj : cell2 xss k j = cell2 xss j k) : ∀ t, t < j + 1 → cell2 xss k t = cell2 xss t k := by
  intro t ht
  by_cases e : t < j
  · exact h t e
  · have e2 : t = j := by omega
    subst e2
    exact hj

set_option maxHeartbeats 2000000 in
theorem implBesideOk_any {B : Nat} (v : Value) (xss : List (List Int)) (w : World) (h : Rows2 B w v xss) :
    Calls Try.prog 59 #[v] w fun e w' => e = .returned (.bool (besideB xss)) ∧ Below w.heap.size w w' := by
  obtain ⟨a, cap, rfl, hcap, hmax, V, hcells, hV⟩ := h.opened
  clear h
  by_cases hn : 1 ≤ xss.length ∧ xss.length ≤ 6
  · have hI : inB (xss.length : Int) 1 6 = true := by simp [inB]; omega
    obtain ⟨g, off, rfl, _, hc⟩ := hcells (by omega)
    clear hcells
    go_enter Try.func59, Try.ntmps59
    go_wp2_with (first | (go_at_call 75; refine (in_any _ _ _ _).mono ?_; rintro e w' ⟨rfl, rfl⟩))
    go_loopw [12] (fun i wr => ∃ k : Nat, k ≤ xss.length ∧ i = .int .i64 k ∧ upB xss k ∧ Below w.heap.size w wr) (fun i _ => xss.length - (intOf i).toNat)
    case atStart => exact ⟨0, Nat.zero_le _, rfl, upB_zero _, Below.refl _ _⟩
    case round =>
      obtain ⟨k, hk, rfl, hu, hb⟩ := hrel
      have HU := Lib.hid hu
      have HB := Lib.hid hb
      by_cases hlt : k < xss.length
      · have hck := (Above.of_below (B := 0) hb).cell (Nat.zero_le _) (hc k hlt)
        obtain ⟨ak, ck, hvk, hk1, hk2, hkc⟩ := (hV k hlt).opened
        have hIk := (hV k hlt).below hb
        rw [hvk] at hck hIk
        have eg : xss.getD k [] = xss[k] := getD_get hlt
        have HGd := Lib.hid eg
        clear hvk
        by_cases hl : xss[k].length = xss.length
        · have hl1 : ((xss[k].length : Int) != (xss.length : Int)) = false := by rw [bne_eq_false_iff_eq]; omega
          have hA := allIn_any (.slice ak xss[k].length ck) xss[k] 0 1 wr hIk
          have hS := fun W (hW : Below wr.heap.size wr W) => total_any (.slice ak xss[k].length ck) xss[k] W (hIk.below hW)
          obtain ⟨b2, o2, rfl, _, hx⟩ := hkc (by omega)
          have hxk := (Above.of_below (B := 0) hb).cell (Nat.zero_le _) (hx k (by omega))
          obtain ⟨x, hx2⟩ : ∃ x, x = xss[k][k]'(by omega) := ⟨_, rfl⟩
          rw [← hx2] at hxk
          have HX := Lib.hid (show cell2 xss k k = x by rw [hx2]; exact cell2_eq hlt (by omega))
          have HL := Lib.hid hl
          have hlen0 : xss[k].length ≤ xss.length := by omega
          have hlen1 : xss.length ≤ xss[k].length := by omega
          clear hl hx2 eg hb hkc hIk hu
          cases hal : allB xss[k] 0 1
          · rw [hal] at hA
            have HR := Lib.hid (besideB_row hlt (fun hh => by have := hh.2.1; rw [HGd.out, hal] at this; simp at this))
            clear hal hS
            go_wp2_with (first | (go_at_call 96; refine hA.mono ?_; rintro e w2 ⟨rfl, hb2⟩; have HB2 := Lib.hid hb2; clear hb2))
            go_ret
            exact ⟨ret_bool (by rw [HR.out]), HB.out.trans (HB2.out.mono HB.out.size)⟩
          · rw [hal] at hA
            have HAL := Lib.hid hal
            clear hal
            by_cases hx0 : x = 0
            · have hx01 : (x != 0) = false := by simpa using hx0
              have HX0 := Lib.hid hx0
              clear hx0
              have hcase : (1 < xss.length ∧ sum64 xss[k] = 0) ∨ (1 < xss.length ∧ ¬ sum64 xss[k] = 0) ∨ ¬ 1 < xss.length := by omega
              rcases hcase with ⟨h1, hs⟩ | hgood
              · have hd1 : decide ((1 : Int) < (xss.length : Int)) = true := by simp; omega
                have hs1 : (sum64 xss[k] == 0) = true := by simpa using hs
                have HR := Lib.hid (besideB_row hlt (fun hh => hh.2.2.2 h1 (by rw [HGd.out]; exact hs)))
                clear hs
                go_wp2_with (first | (go_at_call 96; refine hA.mono ?_; rintro e w2 ⟨rfl, hb2⟩; have hxk2 := (Above.of_below (B := 0) hb2).cell (Nat.zero_le _) hxk; have HB2 := Lib.hid hb2; clear hb2) | (go_at_call 92; refine (hS _ HB2.out).mono ?_; rintro e w3 ⟨rfl, rfl⟩))
                go_ret
                exact ⟨ret_bool (by rw [HR.out]), HB.out.trans (HB2.out.mono HB.out.size)⟩
              · have HRow := Lib.hid (show rowB xss k from ⟨by rw [HGd.out]; exact HL.out, by rw [HGd.out]; exact HAL.out, by rw [HX.out, HX0.out], fun h1 => by rw [HGd.out]; rcases hgood with h | h; exact h.2; exact absurd h1 h⟩)
                rcases hgood with ⟨h1, hs⟩ | h1
                · have hd1 : decide ((1 : Int) < (xss.length : Int)) = true := by simp; omega
                  have hs1 : (sum64 xss[k] == 0) = false := by simpa using hs
                  clear hs
                  go_wp2_with (first | (go_at_call 96; refine hA.mono ?_; rintro e w2 ⟨rfl, hb2⟩; have hxk2 := (Above.of_below (B := 0) hb2).cell (Nat.zero_le _) hxk; have HB2 := Lib.hid hb2; clear hb2) | (go_at_call 92; refine (hS _ HB2.out).mono ?_; rintro e w3 ⟨rfl, rfl⟩))
                  have hW := HB.out.trans (HB2.out.mono HB.out.size)
                  clear hxk2 hxk hck hA hS
                  go_loopw [45] (fun i wi => ∃ j : Nat, j ≤ k ∧ i = .int .i64 j ∧ (∀ t, t < j → cell2 xss k t = cell2 xss t k) ∧ Below w.heap.size w wi) (fun i _ => k - (intOf i).toNat)
                  case atStart => exact ⟨0, Nat.zero_le _, rfl, by omega, hW⟩
                  case round =>
                    obtain ⟨j, hj, rfl, hp, hbi⟩ := hrel
                    have HP := Lib.hid hp
                    have HBI := Lib.hid hbi
                    by_cases hjk : j < k
                    · have hrj := (HU.out j hjk).1
                      have ljn : j < xss.length := by omega
                      have egj : xss.getD j [] = xss[j] := getD_get ljn
                      have hlj : xss[j].length = xss.length := by rw [← egj]; exact hrj.1
                      have hcj := (Above.of_below (B := 0) hbi).cell (Nat.zero_le _) (hc j ljn)
                      obtain ⟨aj, cj, hvj, hj1, hj2, hjc⟩ := (hV j ljn).opened
                      obtain ⟨b3, o3, rfl, _, hy⟩ := hjc (by omega)
                      rw [hvj] at hcj
                      have hyk := (Above.of_below (B := 0) hbi).cell (Nat.zero_le _) (hy k (by omega))
                      have hxj := (Above.of_below (B := 0) hbi).cell (Nat.zero_le _) (hx j (by omega))
                      have hne : ((xss[k]'hlt)[j]'(by omega) != xss[j][k]'(by omega)) = decide (¬ cell2 xss k j = cell2 xss j k) := by
                        rw [cell2_eq hlt (by omega), cell2_eq ljn (by omega), Bool.eq_iff_iff]; simp
                      obtain ⟨p, hp1⟩ : ∃ p, p = (xss[k]'hlt)[j]'(by omega) := ⟨_, rfl⟩
                      obtain ⟨q, hq1⟩ : ∃ q, q = xss[j][k]'(by omega) := ⟨_, rfl⟩
                      rw [← hp1] at hxj hne
                      rw [← hq1] at hyk hne
                      have hlj1 : xss[j].length ≤ xss.length := by omega
                      have hlj2 : xss.length ≤ xss[j].length := by omega
                      have hi0 : (0 : Int) ≤ (j : Int) := by omega
                      have hi1 : (j : Int) < (xss[k].length : Int) := by omega
                      have hi2 : (j : Int) < (xss.length : Int) := by omega
                      have hi3 : (0 : Int) ≤ (k : Int) := by omega
                      have hi4 : (k : Int) < (xss[j].length : Int) := by omega
                      have HN := Lib.hid hne
                      clear hp hbi hrj egj hlj hvj hjc hy hp1 hq1 hne hW
                      by_cases hs : cell2 xss k j = cell2 xss j k
                      · have hpq : (p != q) = false := by rw [HN.out]; simp [hs]
                        have HS := Lib.hid hs
                        clear hs
                        go_wp2
                        go_quiet (fail)
                        go_wp2
                        go_roundw
                        case rel => exact ⟨j + 1, by omega, by go_num, sym_step HP.out HS.out, below_drewN HBI.out _⟩
                        case measure => simp [intOf]; omega
                      · have hpq : (p != q) = true := by rw [HN.out]; simp [hs]
                        have HR := Lib.hid (besideB_sym hlt hjk hs)
                        clear hs
                        go_wp2
                        go_quiet (fail)
                        go_wp2
                        go_ret
                        exact ⟨ret_bool (by rw [HR.out]), below_drewN HBI.out _⟩
                    · have e : j = k := by omega
                      subst e
                      clear hp hbi hW
                      go_wp2
                      go_roundw
                      case rel => exact ⟨j + 1, by omega, by go_num, upB_step HU.out HRow.out HP.out, HBI.out⟩
                      case measure => simp [intOf]; omega
                · have hd1 : decide ((1 : Int) < (xss.length : Int)) = false := by simp; omega
                  clear hS
                  go_wp2_with (first | (go_at_call 96; refine hA.mono ?_; rintro e w2 ⟨rfl, hb2⟩; have hxk2 := (Above.of_below (B := 0) hb2).cell (Nat.zero_le _) hxk; have HB2 := Lib.hid hb2; clear hb2))
                  have hW := HB.out.trans (HB2.out.mono HB.out.size)
                  clear hxk2 hxk hck hA
                  go_loopw [45] (fun i wi => ∃ j : Nat, j ≤ k ∧ i = .int .i64 j ∧ (∀ t, t < j → cell2 xss k t = cell2 xss t k) ∧ Below w.heap.size w wi) (fun i _ => k - (intOf i).toNat)
                  case atStart => exact ⟨0, Nat.zero_le _, rfl, by omega, hW⟩
                  case round =>
                    obtain ⟨j, hj, rfl, hp, hbi⟩ := hrel
                    have HP := Lib.hid hp
                    have HBI := Lib.hid hbi
                    by_cases hjk : j < k
                    · have hrj := (HU.out j hjk).1
                      have ljn : j < xss.length := by omega
                      have egj : xss.getD j [] = xss[j] := getD_get ljn
                      have hlj : xss[j].length = xss.length := by rw [← egj]; exact hrj.1
                      have hcj := (Above.of_below (B := 0) hbi).cell (Nat.zero_le _) (hc j ljn)
                      obtain ⟨aj, cj, hvj, hj1, hj2, hjc⟩ := (hV j ljn).opened
                      obtain ⟨b3, o3, rfl, _, hy⟩ := hjc (by omega)
                      rw [hvj] at hcj
                      have hyk := (Above.of_below (B := 0) hbi).cell (Nat.zero_le _) (hy k (by omega))
                      have hxj := (Above.of_below (B := 0) hbi).cell (Nat.zero_le _) (hx j (by omega))
                      have hne : ((xss[k]'hlt)[j]'(by omega) != xss[j][k]'(by omega)) = decide (¬ cell2 xss k j = cell2 xss j k) := by
                        rw [cell2_eq hlt (by omega), cell2_eq ljn (by omega), Bool.eq_iff_iff]; simp
                      obtain ⟨p, hp1⟩ : ∃ p, p = (xss[k]'hlt)[j]'(by omega) := ⟨_, rfl⟩
                      obtain ⟨q, hq1⟩ : ∃ q, q = xss[j][k]'(by omega) := ⟨_, rfl⟩
                      rw [← hp1] at hxj hne
                      rw [← hq1] at hyk hne
                      have hlj1 : xss[j].length ≤ xss.length := by omega
                      have hlj2 : xss.length ≤ xss[j].length := by omega
                      have hi0 : (0 : Int) ≤ (j : Int) := by omega
                      have hi1 : (j : Int) < (xss[k].length : Int) := by omega
                      have hi2 : (j : Int) < (xss.length : Int) := by omega
                      have hi3 : (0 : Int) ≤ (k : Int) := by omega
                      have hi4 : (k : Int) < (xss[j].length : Int) := by omega
                      have HN := Lib.hid hne
                      clear hp hbi hrj egj hlj hvj hjc hy hp1 hq1 hne hW
                      by_cases hs : cell2 xss k j = cell2 xss j k
                      · have hpq : (p != q) = false := by rw [HN.out]; simp [hs]
                        have HS := Lib.hid hs
                        clear hs
                        go_wp2
                        go_quiet (fail)
                        go_wp2
                        go_roundw
                        case rel => exact ⟨j + 1, by omega, by go_num, sym_step HP.out HS.out, below_drewN HBI.out _⟩
                        case measure => simp [intOf]; omega
                      · have hpq : (p != q) = true := by rw [HN.out]; simp [hs]
                        have HR := Lib.hid (besideB_sym hlt hjk hs)
                        clear hs
                        go_wp2
                        go_quiet (fail)
                        go_wp2
                        go_ret
                        exact ⟨ret_bool (by rw [HR.out]), below_drewN HBI.out _⟩
                    · have e : j = k := by omega
                      subst e
                      clear hp hbi hW
                      go_wp2
                      go_roundw
                      case rel => exact ⟨j + 1, by omega, by go_num, upB_step HU.out HRow.out HP.out, HBI.out⟩
                      case measure => simp [intOf]; omega
            · have hx01 : (x != 0) = true := by simpa using hx0
              have HR := Lib.hid (besideB_row hlt (fun hh => hx0 (by rw [← HX.out]; exact hh.2.2.1)))
              clear hx0 hS
              go_wp2_with (first | (go_at_call 96; refine hA.mono ?_; rintro e w2 ⟨rfl, hb2⟩; have hxk2 := (Above.of_below (B := 0) hb2).cell (Nat.zero_le _) hxk; have HB2 := Lib.hid hb2; clear hb2))
              go_ret
              exact ⟨ret_bool (by rw [HR.out]), HB.out.trans (HB2.out.mono HB.out.size)⟩
        · have hl1 : ((xss[k].length : Int) != (xss.length : Int)) = true := by rw [bne_iff_ne]; omega
          have HR := Lib.hid (besideB_row hlt (fun hh => hl (by have := hh.1; rwa [eg] at this)))
          clear hl eg hkc hb hIk hu
          go_wp2
          go_ret
          exact ⟨ret_bool (by rw [HR.out]), HB.out⟩
      · have e : k = xss.length := by omega
        have HE := Lib.hid (upB_all (by rw [← e]; exact HU.out) hn)
        clear hu hb hc hV e
        go_wp2
        go_ret
        exact ⟨ret_bool (by rw [HE.out]), HB.out⟩
  · have hI : inB (xss.length : Int) 1 6 = false := by simp [inB]; omega
    have HT := Lib.hid (besideB_no (xss := xss) fun hh => hn hh.1)
    clear hn hcells hV
    go_enter Try.func59, Try.ntmps59
    go_wp2_with (go_at_call 75; refine (in_any _ _ _ _).mono ?_; rintro e w' ⟨rfl, rfl⟩)
    go_ret
    exact ⟨ret_bool (by rw [HT.out]), Below.refl _ _⟩

end Go.Proofs.Ytpeogghiboaceaa
