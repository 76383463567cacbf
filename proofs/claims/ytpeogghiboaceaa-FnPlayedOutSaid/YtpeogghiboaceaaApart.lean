/- slices.Equal at lists of ints; impl.ApartOk. -/
import Derived.Test.YtpeogghiboaceaaTable
import Derived.Test.YtpeogghiboaceaaBeside
import Derived.Test.YtpeogghiboaceaaLot
namespace Go.Proofs.Ytpeogghiboaceaa
open Go.RowKit Go.Shelf
set_option linter.unusedVariables false

theorem eqSl_any {B C : Nat} (a b : Value) (xs ys : List Int) (w : World) (ha : Ints B w a xs) (hb : Ints C w b ys) :
    Calls Try.prog 73 #[a, b] w (Quiet (.bool (decide (xs = ys))) w) := by
  obtain ⟨a, cap, rfl, hcap, hmax, hcells⟩ := ha.opened
  obtain ⟨b, cap', rfl, hcap', hmax', hcells'⟩ := hb.opened
  clear ha hb
  by_cases hl : xs.length = ys.length
  · have hl1 : ((xs.length : Int) != (ys.length : Int)) = false := by rw [bne_eq_false_iff_eq]; omega
    have hl2 : xs.length ≤ ys.length := by omega
    have hl3 : ys.length ≤ xs.length := by omega
    clear hl
    go_enter Try.func73, Try.ntmps73
    go_wp2
    go_loopw [13] (fun i wr => ∃ k : Nat, k ≤ xs.length ∧ i = .int .i64 k ∧ xs.take k = ys.take k ∧ Drawn w wr) (fun i _ => xs.length - (intOf i).toNat)
    case atStart => exact ⟨0, Nat.zero_le _, rfl, rfl, Drawn.refl _⟩
    case round =>
      obtain ⟨k, hk, rfl, ht, hD⟩ := hrel
      have HT := Lib.hid ht
      clear ht
      by_cases hlt : k < xs.length
      · obtain ⟨b1, o1, rfl, _, hc⟩ := hcells (by omega)
        obtain ⟨b2, o2, rfl, _, hc'⟩ := hcells' (by omega)
        have hck := hD.cell (hc k hlt)
        have hck' := hD.cell (hc' k (by omega))
        have hlt' : k < ys.length := by omega
        have hi0 : (0 : Int) ≤ (k : Int) := by omega
        have hi1 : (k : Int) < (xs.length : Int) := by omega
        have hi2 : (k : Int) < (ys.length : Int) := by omega
        clear hc hcells hc' hcells'
        by_cases he : xs[k] = ys[k]
        · have he1 : (xs[k] != ys[k]) = false := by simpa using he
          have HE := Lib.hid he
          clear he
          go_wp2
          go_quiet (fail)
          go_wp2
          go_roundw
          case rel => exact ⟨k + 1, by omega, by go_num, take_eq_succ hlt hlt' HT.out HE.out, hD.more _⟩
          case measure => simp [intOf]; omega
        · have he1 : (xs[k] != ys[k]) = true := by simpa using he
          have HE := Lib.hid (ne_of_get hlt hlt' he)
          clear he
          go_wp2
          go_quiet (fail)
          go_wp2
          go_ret
          exact ⟨ret_bool (by simp [HE.out]), hD.more _⟩
      · go_wp2
        go_ret
        have e : xs = ys := by
          have := HT.out
          rwa [List.take_of_length_le (by omega), List.take_of_length_le (by omega)] at this
        exact ⟨ret_bool (by simp [e]), hD⟩
  · have hl1 : ((xs.length : Int) != (ys.length : Int)) = true := by simp; omega
    have HE := Lib.hid (show ¬ xs = ys from fun e => hl (by rw [e]))
    clear hl
    go_enter Try.func73, Try.ntmps73
    go_wp2
    go_ret
    exact ⟨ret_bool (by simp [HE.out]), Drawn.refl _⟩

def upA (xss : List (List Int)) (k : Nat) : Prop := ∀ i, i < k → ∀ j, j < i → ¬ xss.getD i [] = xss.getD j []
instance (xss : List (List Int)) (k : Nat) : Decidable (upA xss k) := by unfold upA; infer_instance
def apartB (xss : List (List Int)) : Bool := tableB xss && decide (upA xss xss.length)
theorem upA_step {xss : List (List Int)} {k : Nat} (h : upA xss k) (hs : ∀ j, j < k → ¬ xss.getD k [] = xss.getD j []) : upA xss (k + 1) := by
  intro i hi
  by_cases e : i < k
  · exact h i e
  · have e2 : i = k := by omega
    subst e2
    exact hs
theorem apart_no {xss : List (List Int)} {k j : Nat} (hk : k < xss.length) (hj : j < k) (h : xss.getD k [] = xss.getD j []) : apartB xss = false := by
  unfold apartB
  rw [decide_eq_false (fun hh => hh k hk j hj h), Bool.and_false]
theorem apart_yes {xss : List (List Int)} (hT : tableB xss = true) (h : upA xss xss.length) : apartB xss = true := by
  unfold apartB
  rw [hT, decide_eq_true h]; rfl

theorem ApartOk1_tells {B C : Nat} {w : World} {u : Value} {r : List Int} {xss : List (List Int)} {vs : List Value} (b : Nat) (hu : Ints B w u r) (hb : w.cell? ⟨b, 0, none⟩ = some u)
    (hvs : ∀ i (h : i < vs.length) (h' : i < xss.length), Ints C w vs[i] xss[i]) (hl : vs.length ≤ xss.length) :
    Tells 72 #[.pointer (some ⟨b, 0, none⟩)] vs (fun i => decide (r = xss.getD i [])) w := by
  refine ⟨enters_of Try.func72 (by kernel_rfl) rfl, fun W hB i h => ?_⟩
  have hi : i < xss.length := by omega
  have e : xss.getD i [] = xss[i] := getD_get hi
  have hb' := (Above.of_below (B := 0) hB).cell (Nat.zero_le _) hb
  have hq := eqSl_any u vs[i] r xss[i] W (hu.below hB) ((hvs i h hi).below hB)
  show Calls _ _ _ _ (fun e W' => e = .returned (.bool (decide (r = xss.getD i []))) ∧ _)
  rw [e]
  obtain ⟨x, hx⟩ : ∃ x, x = vs[i] := ⟨_, rfl⟩
  rw [← hx] at hq ⊢
  obtain ⟨d, hd⟩ : ∃ d, d = decide (r = xss[i]) := ⟨_, rfl⟩
  rw [← hd] at hq ⊢
  clear hx hd e hvs hu hb
  show Calls _ _ #[x, .pointer (some ⟨b, 0, none⟩)] _ _
  go_enter Try.func72, Try.ntmps72
  go_wp2_with fail
  refine hq.mono ?_
  rintro e w2 ⟨rfl, hq2⟩
  have hD : Drawn W w2 := hq2
  clear hq2
  go_wp2
  go_ret
  exact ⟨rfl, hD.below⟩

set_option maxHeartbeats 1000000 in
theorem implApartOk_any {B : Nat} (v : Value) (xss : List (List Int)) (w : World) (h : Rows2 B w v xss) :
    Calls Try.prog 29 #[v] w fun e w' => e = .returned (.bool (apartB xss)) ∧ Below w.heap.size w w' := by
  have hT := implTableOk_any v xss w h
  obtain ⟨vs, hs0, hs1, hs2⟩ := id h
  obtain ⟨ad, cap, rfl, hcap, hmax, hcells⟩ := id hs0
  cases h1 : tableB xss
  · rw [h1] at hT
    have HE := Lib.hid (show apartB xss = false by unfold apartB; rw [h1]; rfl)
    clear h1 hcells h hs0 hs1 hs2
    go_enter Try.func29, Try.ntmps29
    go_wp2_with fail
    refine hT.mono ?_
    rintro e w2 ⟨rfl, hb2⟩
    have HB2 := Lib.hid hb2
    clear hb2
    go_wp2
    go_ret
    exact ⟨ret_bool (by rw [HE.out]), HB2.out⟩
  · rw [h1] at hT
    have H1 := Lib.hid h1
    have HS := Lib.hid hs1
    have hn1 : vs.length ≤ xss.length := by omega
    have hn2 : xss.length ≤ vs.length := by omega
    clear h1 h hs1
    go_enter Try.func29, Try.ntmps29
    go_wp2_with fail
    refine hT.mono ?_
    rintro e w2 ⟨rfl, hb2⟩
    go_wp2
    go_loopw [10] (fun i wr => ∃ k : Nat, k ≤ vs.length ∧ i = .int .i64 k ∧ upA xss k ∧ Below w.heap.size w wr) (fun i _ => vs.length - (intOf i).toNat)
    case atStart => exact ⟨0, Nat.zero_le _, rfl, fun i h => by omega, hb2⟩
    case round =>
      obtain ⟨k, hk, rfl, hu, hb⟩ := hrel
      clear hb2
      have HU := Lib.hid hu
      have HB := Lib.hid hb
      by_cases hlt : k < vs.length
      · obtain ⟨g, off, rfl, _, hc⟩ := hcells (by omega)
        have hck := (Above.of_below (B := 0) hb).cell (Nat.zero_le _) (hc k hlt)
        obtain ⟨u, hu1⟩ : ∃ u, u = vs[k] := ⟨_, rfl⟩
        have hIu := (hs2 k hlt (by omega)).below hb
        rw [← hu1] at hck hIu
        obtain ⟨au, cu, hus, _⟩ := hIu.shape
        rw [hus] at hck hIu
        clear hu hu1 hc hcells
        go_wp2_with fail
        have hb1 := (Below.refl wr.heap.size wr).alloc (Nat.le_refl _) (.cells #[.slice au xss[k].length cu] 24)
        have hbw := HB.out.trans (hb1.mono HB.out.size)
        have hTl := ApartOk1_tells (w := wr.alloc (.cells #[.slice au xss[k].length cu] 24)) (vs := vs.take k) (xss := xss) wr.heap.size (hIu.below hb1) (by simp) (fun i h h' => by rw [List.getElem_take]; exact (hs2 i (by rw [List.length_take] at h; omega) h').below hbw) (by rw [List.length_take]; omega)
        have hC := contains_ints _ _ _ ((hs0.take (k := k) (by omega)).below hbw) _ _ _ hTl
        have hlk : (vs.take k).length = k := by rw [List.length_take]; omega
        have eg : xss.getD k [] = xss[k] := getD_get (by omega)
        rw [hlk] at hC
        obtain ⟨d, hd⟩ : ∃ d, d = anyN (fun i => decide (xss[k] = xss.getD i [])) k := ⟨_, rfl⟩
        rw [← hd] at hC
        refine hC.mono ?_
        rintro e w3 ⟨rfl, hb3⟩
        have HB3 := Lib.hid (hbw.trans (hb3.mono hbw.size))
        clear hb3 hb1 hbw hTl hC hck hIu hb
        cases hdv : d
        · have HA := Lib.hid (show upA xss (k + 1) from upA_step HU.out (fun j hj e => by
            rw [hdv] at hd
            unfold anyN at hd
            have := List.any_eq_false.1 hd.symm j (by simpa using hj)
            rw [eg] at e
            simp [e] at this))
          clear hd eg hdv hlk
          go_wp2
          go_roundw
          case rel => exact ⟨k + 1, by omega, by go_num, HA.out, HB3.out⟩
          case measure => simp [intOf]; omega
        · have HA := Lib.hid (show apartB xss = false from by
            rw [hdv] at hd
            unfold anyN at hd
            obtain ⟨j, hj, hj2⟩ := List.any_eq_true.1 hd.symm
            exact apart_no (k := k) (j := j) (by omega) (by simpa using hj) (by rw [eg]; simpa using hj2))
          clear hd eg hdv hlk
          go_wp2
          go_ret
          exact ⟨ret_bool (by rw [HA.out]), HB3.out⟩
      · have e : k = xss.length := by omega
        have HA := Lib.hid (apart_yes H1.out (by have := HU.out; rwa [e] at this))
        clear hu hb hcells e hs0 hs2
        go_wp2
        go_ret
        exact ⟨ret_bool (by rw [HA.out]), HB.out⟩

end Go.Proofs.Ytpeogghiboaceaa
