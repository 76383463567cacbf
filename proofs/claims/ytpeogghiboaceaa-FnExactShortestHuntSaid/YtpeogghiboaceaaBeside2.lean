/- spec.BesideOk. -/
import Derived.Test.YtpeogghiboaceaaBeside
namespace Go.Proofs.Ytpeogghiboaceaa
open Go.RowKit Go.Shelf
set_option linter.unusedVariables false

theorem l1In_q (n lo hi : Int) (w : World) : ∀ k, Calls Try.prog 62 #[.int .i64 n, .int .i64 lo, .int .i64 hi] (w.drewN k) fun e w' => e = .returned (.bool (inB n lo hi)) ∧ w' = w.drewN k :=
  fun k => (l1In_any n lo hi (w.drewN k)).mono fun _ _ h => ⟨h.1, h.2.symm⟩

/-- The first k rows, each over its whole length. -/
def upS (xss : List (List Int)) (k : Nat) : Prop := ∀ i, i < k → rowB xss i ∧ ∀ j, j < xss.length → cell2 xss i j = cell2 xss j i
/-- Of row k the first j. -/
def inS (xss : List (List Int)) (k j : Nat) : Prop := ∀ t, t < j → inB (cell2 xss k t) 0 1 = true ∧ cell2 xss k t = cell2 xss t k ∧ cell2 xss k k = 0
theorem upS_step {xss : List (List Int)} {k : Nat} (h : upS xss k) (hr : rowB xss k) (hs : inS xss k xss.length) : upS xss (k + 1) := by
  intro i hi
  by_cases e : i < k
  · exact h i e
  · have e2 : i = k := by omega
    subst e2
    exact ⟨hr, fun j hj => (hs j hj).2.1⟩
theorem inS_step {xss : List (List Int)} {k j : Nat} (h : inS xss k j) (h1 : inB (cell2 xss k j) 0 1 = true) (h2 : cell2 xss k j = cell2 xss j k) (h3 : cell2 xss k k = 0) : inS xss k (j + 1) := by
  intro t ht
  by_cases e : t < j
  · exact h t e
  · have e2 : t = j := by omega
    subst e2
    exact ⟨h1, h2, h3⟩
theorem upS_all {xss : List (List Int)} (h : upS xss xss.length) (hn : 1 ≤ xss.length ∧ xss.length ≤ 6) : besideB xss = true :=
  besideB_yes ⟨hn, fun i hi => (h i hi).1, fun i hi k hk => (h i hi).2 k (by omega)⟩
theorem besideB_in {xss : List (List Int)} {k j : Nat} (hk : k < xss.length) (hj : j < xss.length) (hl : xss[k].length = xss.length) (h : inB (cell2 xss k j) 0 1 = false) : besideB xss = false :=
  besideB_row hk fun hh => by
    have h2 := hh.2.1
    rw [getD_get hk] at h2
    have h3 := allB_no (r := xss[k]) (t := j) (by omega) (by rw [cell2_eq hk (by omega)] at h; exact h)
    rw [h3] at h2; simp at h2
theorem besideB_sym2 {xss : List (List Int)} {k j : Nat} (hk : k < xss.length) (hj : j < xss.length) (h : ¬ cell2 xss k j = cell2 xss j k) : besideB xss = false := by
  rcases Nat.lt_trichotomy j k with e | e | e
  · exact besideB_sym hk e h
  · subst e; exact absurd rfl h
  · exact besideB_sym hj e (fun hh => h hh.symm)
theorem row_of_in {xss : List (List Int)} {k : Nat} (hk : k < xss.length) (hl : xss[k].length = xss.length) (h : inS xss k xss.length) (hs : 1 < xss.length → sum64 xss[k] ≠ 0) : rowB xss k := by
  have eg : xss.getD k [] = xss[k] := getD_get hk
  refine ⟨by rw [eg]; exact hl, ?_, (h 0 (by omega)).2.2, by rw [eg]; exact hs⟩
  rw [eg]
  apply allB_upto
  intro t ht
  have := (h t (by omega)).1
  rwa [cell2_eq hk ht] at this

theorem len_step {xss : List (List Int)} {k n : Nat} (hk : k < xss.length) (h : ∀ i (h : i < xss.length), i < k → xss[i].length = n) (hl : xss[k].length = n) : ∀ i (h : i < xss.length), i < k + 1 → xss[i].length = n := by
  intro i hi hik
  by_cases e : i < k
  · exact h i hi e
  · have e2 : i = k := by omega
    subst e2
    exact hl

set_option maxHeartbeats 2000000 in
theorem specBesideOk_any {B : Nat} (v : Value) (xss : List (List Int)) (w : World) (h : Rows2 B w v xss) :
    Calls Try.prog 56 #[v] w (Quiet (.bool (besideB xss)) w) := by
  obtain ⟨a, cap, rfl, hcap, hmax, V, hcells, hV⟩ := h.opened
  clear h
  go_enter Try.func56, Try.ntmps56
  go_wp2
  go_loopw [3] (fun i wr => ∃ k : Nat, k ≤ xss.length ∧ i = .int .i64 k ∧ (∀ i (h : i < xss.length), i < k → xss[i].length = xss.length) ∧ (0 < k → 1 ≤ xss.length ∧ xss.length ≤ 6) ∧ w = wr) (fun i _ => xss.length - (intOf i).toNat)
  case atStart => exact ⟨0, Nat.zero_le _, rfl, by omega, by omega, rfl⟩
  case round =>
    obtain ⟨k, hk, rfl, hg, hn, rfl⟩ := hrel
    have HG := Lib.hid hg
    have HN := Lib.hid hn
    clear hg hn
    by_cases hlt : k < xss.length
    · obtain ⟨g, off, rfl, _, hc⟩ := hcells (by omega)
      have hck := hc k hlt
      obtain ⟨ak, ck, hvk, hk1, hk2⟩ := (hV k hlt).shape
      rw [hvk] at hck
      clear hcells hc hV hvk
      by_cases hl : xss[k].length = xss.length
      · have hl1 : ((xss[k].length : Int) != (xss.length : Int)) = false := by rw [bne_eq_false_iff_eq]; omega
        by_cases h6 : 1 ≤ xss.length ∧ xss.length ≤ 6
        · have hI : inB (xss.length : Int) 1 6 = true := by simp [inB]; omega
          have H6 := Lib.hid h6
          have HL := Lib.hid hl
          clear hl h6
          go_wp2_with (go_at_call 62; refine (l1In_any _ _ _ _).mono ?_; rintro e w' ⟨rfl, rfl⟩)
          go_roundw
          case rel => exact ⟨k + 1, by omega, by go_num, len_step hlt HG.out HL.out, fun _ => H6.out, trivial⟩
          case measure => simp [intOf]; omega
        · have hI : inB (xss.length : Int) 1 6 = false := by simp [inB]; omega
          have HT := Lib.hid (besideB_no (xss := xss) fun hh => h6 hh.1)
          clear hl h6
          go_wp2_with (go_at_call 62; refine (l1In_any _ _ _ _).mono ?_; rintro e w' ⟨rfl, rfl⟩)
          go_ret
          exact ⟨ret_bool (by rw [HT.out]), Drawn.refl _⟩
      · have hl1 : ((xss[k].length : Int) != (xss.length : Int)) = true := by rw [bne_iff_ne]; omega
        have HT := Lib.hid (besideB_row hlt (fun hh => hl (by have := hh.1; rwa [getD_get hlt] at this)))
        clear hl
        go_wp2
        go_ret
        exact ⟨ret_bool (by rw [HT.out]), Drawn.refl _⟩
    · have ek : k = xss.length := by omega
      have hlens : ∀ i (h : i < xss.length), xss[i].length = xss.length := fun i hi => HG.out i hi (by omega)
      have hn6 : 0 < xss.length → 1 ≤ xss.length ∧ xss.length ≤ 6 := fun h => HN.out (by omega)
      have HLens := Lib.hid hlens
      have HN6 := Lib.hid hn6
      clear HG HN hlens hn6 ek
      go_wp2
      go_loopw [4] (fun i wi => ∃ k : Nat, k ≤ xss.length ∧ i = .int .i64 k ∧ upS xss k ∧ Drawn w wi) (fun i _ => xss.length - (intOf i).toNat)
      case atStart => exact ⟨0, Nat.zero_le _, rfl, fun i h => by omega, Drawn.refl _⟩
      case round =>
        obtain ⟨k, hk, rfl, hu, hD⟩ := hrel
        have HU := Lib.hid hu
        clear hu
        by_cases hlt : k < xss.length
        · obtain ⟨g, off, rfl, _, hc⟩ := hcells (by omega)
          obtain ⟨ak, ck, hvk, hk1, hk2, hkc⟩ := (hV k hlt).opened
          have hlk : xss[k].length = xss.length := HLens.out k hlt
          obtain ⟨b2, o2, rfl, _, hx⟩ := hkc (by omega)
          have hIk := hV k hlt
          have hck0 := hc k hlt
          rw [hvk] at hck0 hIk
          have HLK := Lib.hid hlk
          have hlk1 : xss[k].length ≤ xss.length := by omega
          have hlk2 : xss.length ≤ xss[k].length := by omega
          clear hcells hvk hkc hlk
          go_wp2
          obtain ⟨wo, hwo⟩ : ∃ wo : World, wo = wr := ⟨_, rfl⟩
          rw [← hwo] at hD ⊢
          clear hwo
          go_loopw [5] (fun i wi => ∃ j : Nat, j ≤ xss.length ∧ i = .int .i64 j ∧ inS xss k j ∧ Drawn w wi) (fun i _ => xss.length - (intOf i).toNat)
          case atStart => exact ⟨0, Nat.zero_le _, rfl, fun i h => by omega, hD⟩
          case round =>
            obtain ⟨j, hj, rfl, hp, hDi⟩ := hrel
            have HP := Lib.hid hp
            clear hp hD
            by_cases hjn : j < xss.length
            · have hlj : xss[j].length = xss.length := HLens.out j hjn
              obtain ⟨aj, cj, hvj, hj1, hj2, hjc⟩ := (hV j hjn).opened
              obtain ⟨b3, o3, rfl, _, hy⟩ := hjc (by omega)
              have hcj := hDi.cell (hc j hjn)
              have hck := hDi.cell hck0
              rw [hvj] at hcj
              have hxj := hDi.cell (hx j (by omega))
              have hxk := hDi.cell (hx k (by omega))
              have hyk := hDi.cell (hy k (by omega))
              obtain ⟨p, hp1⟩ : ∃ p, p = (xss[k]'hlt)[j]'(by omega) := ⟨_, rfl⟩
              obtain ⟨q, hq1⟩ : ∃ q, q = xss[j][k]'(by omega) := ⟨_, rfl⟩
              obtain ⟨z, hz1⟩ : ∃ z, z = (xss[k]'hlt)[k]'(by omega) := ⟨_, rfl⟩
              rw [← hp1] at hxj
              rw [← hq1] at hyk
              rw [← hz1] at hxk
              have HPV := Lib.hid (show cell2 xss k j = p by rw [hp1]; exact cell2_eq hlt (by omega))
              have HQV := Lib.hid (show cell2 xss j k = q by rw [hq1]; exact cell2_eq hjn (by omega))
              have HZV := Lib.hid (show cell2 xss k k = z by rw [hz1]; exact cell2_eq hlt (by omega))
              have hlj1 : xss[j].length ≤ xss.length := by omega
              have hlj2 : xss.length ≤ xss[j].length := by omega
              have hi0 : (0 : Int) ≤ (j : Int) := by omega
              have hi1 : (j : Int) < (xss[k].length : Int) := by omega
              have hi2 : (j : Int) < (xss.length : Int) := by omega
              have hi3 : (0 : Int) ≤ (k : Int) := by omega
              have hi4 : (k : Int) < (xss[j].length : Int) := by omega
              have hi5 : (k : Int) < (xss.length : Int) := by omega
              have hi6 : (k : Int) < (xss[k].length : Int) := by omega
              have hL := l1In_q p 0 1 wr
              clear hlj hvj hjc hy hp1 hq1 hz1
              cases hb : inB p 0 1
              · rw [hb] at hL
                have HR := Lib.hid (besideB_in hlt hjn HLK.out (by rw [HPV.out]; exact hb))
                clear hb
                go_wp2
                go_quiet ((go_at_call 62; exact Calls.quiet_of_same (hL _)))
                go_wp2
                go_ret
                exact ⟨ret_bool (by rw [HR.out]), hDi.more _⟩
              · rw [hb] at hL
                have HIn := Lib.hid hb
                clear hb
                by_cases hs : p = q
                · have hs1 : (p != q) = false := by simpa using hs
                  have HS := Lib.hid hs
                  clear hs
                  by_cases hz : z = 0
                  · have hz1 : (z != 0) = false := by simpa using hz
                    have HZ := Lib.hid hz
                    clear hz
                    go_wp2
                    go_quiet ((go_at_call 62; exact Calls.quiet_of_same (hL _)))
                    go_wp2
                    go_roundw
                    case rel => exact ⟨j + 1, by omega, by go_num, inS_step HP.out (by rw [HPV.out]; exact HIn.out) (by rw [HPV.out, HQV.out]; exact HS.out) (by rw [HZV.out]; exact HZ.out), hDi.more _⟩
                    case measure => simp [intOf]; omega
                  · have hz1 : (z != 0) = true := by simpa using hz
                    have HR := Lib.hid (besideB_row hlt (fun hh => hz (by rw [← HZV.out]; exact hh.2.2.1)))
                    clear hz
                    go_wp2
                    go_quiet ((go_at_call 62; exact Calls.quiet_of_same (hL _)))
                    go_wp2
                    go_ret
                    exact ⟨ret_bool (by rw [HR.out]), hDi.more _⟩
                · have hs1 : (p != q) = true := by simpa using hs
                  have HR := Lib.hid (besideB_sym2 hlt hjn (fun hh => hs (by rw [← HPV.out, ← HQV.out]; exact hh)))
                  clear hs
                  go_wp2
                  go_quiet ((go_at_call 62; exact Calls.quiet_of_same (hL _)))
                  go_wp2
                  go_ret
                  exact ⟨ret_bool (by rw [HR.out]), hDi.more _⟩
            · have ej : j = xss.length := by omega
              have hck := hDi.cell hck0
              have hIk2 := hIk.below hDi.below
              have HIN := Lib.hid (show inS xss k xss.length by have := HP.out; rwa [ej] at this)
              clear hx ej
              have hcase : (1 < xss.length ∧ sum64 xss[k] = 0) ∨ (1 < xss.length ∧ ¬ sum64 xss[k] = 0) ∨ ¬ 1 < xss.length := by omega
              rcases hcase with ⟨h1, hs⟩ | ⟨h1, hs⟩ | h1
              · have hd1 : decide ((1 : Int) < (xss.length : Int)) = true := by simp; omega
                have hs1 : (sum64 xss[k] == 0) = true := by simpa using hs
                have HR := Lib.hid (besideB_row hlt (fun hh => hh.2.2.2 h1 (by rw [getD_get hlt]; exact hs)))
                clear hs
                go_wp2_with (go_at_call 95; refine (l1Sum_any _ _ _ hIk2).mono ?_; rintro e w' ⟨rfl, rfl⟩)
                go_ret
                exact ⟨ret_bool (by rw [HR.out]), hDi⟩
              · have hd1 : decide ((1 : Int) < (xss.length : Int)) = true := by simp; omega
                have hs1 : (sum64 xss[k] == 0) = false := by simpa using hs
                have HR := Lib.hid (row_of_in hlt HLK.out HIN.out (fun _ => hs))
                clear hs
                go_wp2_with (go_at_call 95; refine (l1Sum_any _ _ _ hIk2).mono ?_; rintro e w' ⟨rfl, rfl⟩)
                go_roundw
                case rel => exact ⟨k + 1, by omega, by go_num, upS_step HU.out HR.out HIN.out, hDi⟩
                case measure => simp [intOf]; omega
              · have hd1 : decide ((1 : Int) < (xss.length : Int)) = false := decide_eq_false (by omega)
                have HR := Lib.hid (row_of_in hlt HLK.out HIN.out (fun h => absurd h h1))
                have h1' : xss.length ≤ 1 := by omega
                clear h1
                go_wp2
                go_roundw
                case rel => exact ⟨k + 1, by omega, by go_num, upS_step HU.out HR.out HIN.out, hDi⟩
                case measure => simp [intOf]; omega
        · have ek2 : k = xss.length := by omega
          clear hcells hV
          by_cases h0 : 0 < xss.length
          · have HT := Lib.hid (upS_all (by rw [← ek2]; exact HU.out) (HN6.out h0))
            have hd : decide ((0 : Int) < (xss.length : Int)) = true := by simp; omega
            go_wp2
            go_ret
            exact ⟨ret_bool (by rw [HT.out]), hD⟩
          · have HT := Lib.hid (besideB_no (xss := xss) fun hh => h0 (by have := hh.1; omega))
            have hd : decide ((0 : Int) < (xss.length : Int)) = false := decide_eq_false (by omega)
            go_wp2
            go_ret
            exact ⟨ret_bool (by rw [HT.out]), hD⟩

end Go.Proofs.Ytpeogghiboaceaa
