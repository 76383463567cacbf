/- TableOk, of the program and of the reference, by one plain function. -/
import Derived.Test.YtpeogghiboaceaaFun
namespace Go.Proofs.Ytpeogghiboaceaa
open Go.RowKit Go.Shelf
set_option linter.unusedVariables false

def rowOk (m : Nat) (r : List Int) : Bool := decide (r.length = m) && allB r 0 2
def tableB (xss : List (List Int)) : Bool :=
  decide (1 ≤ xss.length ∧ xss.length ≤ 7) && (decide ((xss.headD []).length ≤ 5) && xss.all (rowOk (xss.headD []).length))

theorem Ints.shape {B : Nat} {w : World} {v : Value} {xs : List Int} (h : Ints B w v xs) : ∃ a cap, v = .slice a xs.length cap ∧ xs.length ≤ cap ∧ cap ≤ 9223372036854775807 := by
  obtain ⟨a, cap, h1, h2, h3, _⟩ := h.opened
  exact ⟨a, cap, h1, h2, h3⟩

theorem TableOk1_any {B C : Nat} (u v : Value) (r : List Int) (xss : List (List Int)) (w : World) (b : Nat) (hu : Ints B w u r) (hv : Rows2 C w v xss) (hb : w.cell? ⟨b, 0, none⟩ = some v) (h0 : 0 < xss.length) :
    Calls Try.prog 100 #[u, .pointer (some ⟨b, 0, none⟩)] w fun e W' => e = .returned (.bool (!rowOk (xss.headD []).length r)) ∧ Below w.heap.size w W' := by
  obtain ⟨a, cap, rfl, hcap, hmax, V, hcells, hV⟩ := hv.opened
  obtain ⟨au, cu, rfl, hu1, hu2⟩ := hu.shape
  obtain ⟨g, off, rfl, _, hc⟩ := hcells h0
  have hc0 := hc 0 h0
  obtain ⟨a0, c0, hv0, h01, h02⟩ := (hV 0 h0).shape
  rw [hv0, Nat.add_zero] at hc0
  have e0 : xss.headD [] = xss[0] := by cases xss with | nil => simp at h0 | cons x t => rfl
  rw [e0]
  have hA := allIn_any (.slice au r.length cu) r 0 2 w hu
  have hpos : (0 : Int) < (xss.length : Int) := by omega
  clear hcells hc hV hv hv0 hu e0
  by_cases hl : r.length = xss[0].length
  · have hl1 : ((r.length : Int) != (xss[0].length : Int)) = false := by rw [bne_eq_false_iff_eq]; omega
    have HR := Lib.hid (show rowOk xss[0].length r = allB r 0 2 by unfold rowOk; rw [decide_eq_true hl, Bool.true_and])
    clear hl
    go_enter Try.func100, Try.ntmps100
    go_wp2_with (go_at_call 96; refine hA.mono ?_; rintro e w' ⟨rfl, hb2⟩; have HB := Lib.hid hb2; clear hb2)
    go_ret
    exact ⟨ret_bool (by rw [HR.out]), HB.out⟩
  · have hl1 : ((r.length : Int) != (xss[0].length : Int)) = true := by rw [bne_iff_ne]; omega
    have HR := Lib.hid (show rowOk xss[0].length r = false by unfold rowOk; rw [decide_eq_false hl, Bool.false_and])
    clear hl
    go_enter Try.func100, Try.ntmps100
    go_wp2
    go_ret
    exact ⟨ret_bool (by rw [HR.out]; rfl), Below.refl _ _⟩

theorem TableOk1_tells {C : Nat} {w : World} {v : Value} {xss : List (List Int)} {vs : List Value} (b : Nat) (hv : Rows2 C w v xss) (hvs : ∀ i (h : i < vs.length) (h' : i < xss.length), Ints C w vs[i] xss[i]) (hl : vs.length = xss.length)
    (hb : w.cell? ⟨b, 0, none⟩ = some v) (h0 : 0 < xss.length) :
    Tells 100 #[.pointer (some ⟨b, 0, none⟩)] vs (fun i => !rowOk (xss.headD []).length (xss.getD i [])) w := by
  refine ⟨enters_of Try.func100 (by kernel_rfl) rfl, fun W hB i h => ?_⟩
  have hi : i < xss.length := by omega
  have e : xss.getD i [] = xss[i] := by simp [List.getD, List.getElem?_eq_getElem hi]
  have := TableOk1_any vs[i] v xss[i] xss W b ((hvs i h hi).below hB) (hv.below hB) ((Above.of_below (B := 0) hB).cell (Nat.zero_le _) hb) h0
  show Calls _ _ _ _ (fun e W' => e = .returned (.bool (!rowOk (xss.headD []).length (xss.getD i []))) ∧ _)
  rw [e]
  exact this

theorem implTableOk_any {B : Nat} (v : Value) (xss : List (List Int)) (w : World) (h : Rows2 B w v xss) :
    Calls Try.prog 70 #[v] w fun e w' => e = .returned (.bool (tableB xss)) ∧ Below w.heap.size w w' := by
  have hrows := h
  have hrows0 := h
  obtain ⟨a, cap, rfl, hcap, hmax, V, hcells, hV⟩ := h.opened
  by_cases hn : 1 ≤ xss.length ∧ xss.length ≤ 7
  · have h0 : 0 < xss.length := by omega
    have hI : inB (xss.length : Int) 1 7 = true := by simp [inB]; omega
    obtain ⟨g, off, rfl, _, hc⟩ := hcells h0
    have hc0 := hc 0 h0
    obtain ⟨a0, c0, hv0, h01, h02⟩ := (hV 0 h0).shape
    rw [hv0] at hc0
    have e0 : xss.headD [] = xss[0] := by cases xss with | nil => simp at h0 | cons x t => rfl
    have hbk := World.block_lt_of_cell? w _ hc0
    have hc1 : ∀ o, (w.alloc o).cell? ⟨g, off, none⟩ = some (.slice a0 xss[0].length c0) := fun o => (Above.of_below (B := 0) ((Below.refl w.heap.size w).alloc (Nat.le_refl _) o)).cell (Nat.zero_le _) hc0
    by_cases h5 : xss[0].length ≤ 5
    · obtain ⟨vs, hs1, hs2, hs3⟩ := hrows
      have hb1 := (Below.refl w.heap.size w).alloc (Nat.le_refl _) (.cells #[.slice (some ⟨g, off, none⟩) xss.length cap] 22)
      have hT := TableOk1_tells (w := w.alloc (.cells #[.slice (some ⟨g, off, none⟩) xss.length cap] 22)) w.heap.size (hrows0.below hb1) (fun i h h' => (hs3 i h h').below hb1) hs2 (by simp) h0
      have hC := contains_ints (.slice (some ⟨g, off, none⟩) xss.length cap) vs _ (hs1.below hb1) _ _ _ hT
      have e1 : (!anyN (fun i => !rowOk (xss.headD []).length (xss.getD i [])) vs.length) = tableB xss := by
        rw [hs2, anyN_getD (fun r => !rowOk (xss.headD []).length r) xss []]
        unfold tableB
        rw [decide_eq_true hn, e0, decide_eq_true h5, Bool.true_and, Bool.true_and, List.not_any_eq_all_not]
        simp
      obtain ⟨r, hr⟩ : ∃ r, r = anyN (fun i => !rowOk (xss.headD []).length (xss.getD i [])) vs.length := ⟨_, rfl⟩
      rw [← hr] at hC e1
      have HE := Lib.hid e1
      clear e1 hr hT hs1 hs2 hs3 hb1 hrows0 hcells hV hc hc0 hv0
      go_enter Try.func70, Try.ntmps70
      go_wp2_with (first | (go_at_call 75; refine (in_any _ _ _ _).mono ?_; rintro e w' ⟨rfl, rfl⟩) | (go_at_call 71; refine hC.mono ?_; rintro e w2 ⟨rfl, hb2⟩; have HB := Lib.hid hb2; clear hb2))
      go_ret
      exact ⟨ret_bool (by rw [← HE.out]), ((Below.refl w.heap.size w).alloc (Nat.le_refl _) _).trans (HB.out.mono (by simp))⟩
    · have HT := Lib.hid (show tableB xss = false by unfold tableB; rw [e0, decide_eq_false h5]; simp)
      go_enter Try.func70, Try.ntmps70
      go_wp2_with (go_at_call 75; refine (in_any _ _ _ _).mono ?_; rintro e w' ⟨rfl, rfl⟩)
      go_ret
      exact ⟨ret_bool (by rw [HT.out]), (Below.refl _ _).alloc (Nat.le_refl _) _⟩
  · have hI : inB (xss.length : Int) 1 7 = false := by simp [inB]; omega
    have HT := Lib.hid (show tableB xss = false by unfold tableB; rw [decide_eq_false hn, Bool.false_and])
    clear hn hcells hV hrows h hrows0
    go_enter Try.func70, Try.ntmps70
    go_wp2_with (go_at_call 75; refine (in_any _ _ _ _).mono ?_; rintro e w' ⟨rfl, rfl⟩)
    go_ret
    exact ⟨ret_bool (by rw [HT.out]), (Below.refl _ _).alloc (Nat.le_refl _) _⟩

/-! ### The reference -/
def rowGood (xss : List (List Int)) (r : List Int) : Prop := r.length = (xss.headD []).length ∧ r.length ≤ 5 ∧ allB r 0 2 = true

theorem tableB_of {xss : List (List Int)} (h : ∀ i (h : i < xss.length), rowGood xss xss[i]) : tableB xss = inB (xss.length : Int) 1 7 := by
  unfold tableB
  have e : decide (1 ≤ xss.length ∧ xss.length ≤ 7) = inB (xss.length : Int) 1 7 := by
    unfold inB; rw [Bool.eq_iff_iff]; simp; omega
  rw [e]
  have a : xss.all (rowOk (xss.headD []).length) = true := by
    rw [List.all_eq_true]
    intro r hr
    obtain ⟨i, hi, rfl⟩ := List.getElem_of_mem hr
    obtain ⟨h1, _, h3⟩ := h i hi
    unfold rowOk
    rw [decide_eq_true h1, h3]; rfl
  rw [a]
  cases xss with
  | nil => simp [inB]
  | cons x t =>
    have := (h 0 (by simp)).2.1
    simp at this
    simp [this]
theorem tableB_no {xss : List (List Int)} {k : Nat} (hk : k < xss.length) (h : ¬ rowGood xss xss[k]) : tableB xss = false := by
  unfold tableB
  by_cases h5 : (xss.headD []).length ≤ 5
  · have : xss.all (rowOk (xss.headD []).length) = false := by
      rw [List.all_eq_false]
      refine ⟨xss[k], List.getElem_mem _, ?_⟩
      intro hr
      unfold rowOk at hr
      rw [Bool.and_eq_true, decide_eq_true_eq] at hr
      exact h ⟨hr.1, by omega, hr.2⟩
    rw [this]; simp
  · rw [decide_eq_false h5]; simp

theorem good_step {xss : List (List Int)} {k : Nat} (hk : k < xss.length) (h : ∀ i (h : i < xss.length), i < k → rowGood xss xss[i]) (hg : rowGood xss xss[k]) : ∀ i (h : i < xss.length), i < k + 1 → rowGood xss xss[i] := by
  intro i hi hik
  by_cases e : i < k
  · exact h i hi e
  · have e2 : i = k := by omega
    subst e2; exact hg

theorem allB_upto {r : List Int} {lo hi : Int} (h : ∀ t (h : t < r.length), inB r[t] lo hi = true) : allB r lo hi = true := by
  unfold allB
  rw [List.all_eq_true]
  intro x hx
  obtain ⟨i, hi, rfl⟩ := List.getElem_of_mem hx
  exact h i hi
theorem allB_no {r : List Int} {lo hi : Int} {t : Nat} (ht : t < r.length) (h : inB r[t] lo hi = false) : allB r lo hi = false := by
  unfold allB
  rw [List.all_eq_false]
  exact ⟨r[t], List.getElem_mem _, by simp [h]⟩
theorem pre_step {r : List Int} {lo hi : Int} {t : Nat} (h : ∀ i (h : i < r.length), i < t → inB r[i] lo hi = true) (ht : t < r.length) (hp : inB r[t] lo hi = true) : ∀ i (h : i < r.length), i < t + 1 → inB r[i] lo hi = true := by
  intro i hi hik
  by_cases e : i < t
  · exact h i hi e
  · have e2 : i = t := by omega
    subst e2; exact hp

set_option maxHeartbeats 1000000 in
theorem specTableOk_any {B : Nat} (v : Value) (xss : List (List Int)) (w : World) (h : Rows2 B w v xss) :
    Calls Try.prog 31 #[v] w (Quiet (.bool (tableB xss)) w) := by
  obtain ⟨a, cap, rfl, hcap, hmax, V, hcells, hV⟩ := h.opened
  clear h
  go_enter Try.func31, Try.ntmps31
  go_wp2
  go_loopw [3] (fun i wr => ∃ k : Nat, k ≤ xss.length ∧ i = .int .i64 k ∧ (∀ i (h : i < xss.length), i < k → rowGood xss xss[i]) ∧ Drawn w wr) (fun i _ => xss.length - (intOf i).toNat)
  case atStart => exact ⟨0, Nat.zero_le _, rfl, by omega, Drawn.refl _⟩
  case round =>
    obtain ⟨k, hk, rfl, hg, hD⟩ := hrel
    have HG := Lib.hid hg
    clear hg
    by_cases hlt : k < xss.length
    · obtain ⟨g, off, rfl, _, hc⟩ := hcells (by omega)
      have h0 : 0 < xss.length := by omega
      have hck := hD.cell (hc k hlt)
      have hc0 := hD.cell (hc 0 h0)
      obtain ⟨a0, c0, hv0, h01, h02⟩ := (hV 0 h0).shape
      obtain ⟨ak, ck, hvk, hk1, hk2, hkc⟩ := (hV k hlt).opened
      rw [hv0, Nat.add_zero] at hc0
      rw [hvk] at hck
      have hI := (hV k hlt)
      have e0 : xss.headD [] = xss[0] := by cases xss with | nil => simp at h0 | cons x t => rfl
      have hi0 : (0 : Int) ≤ (k : Int) := by omega
      have hi1 : (k : Int) < (xss.length : Int) := by omega
      have hi2 : (0 : Int) < (xss.length : Int) := by omega
      have HV := Lib.hid hvk
      clear hcells hc hV hv0 hvk
      by_cases hl : xss[k].length = xss[0].length
      · by_cases h5 : xss[k].length ≤ 5
        · have hl1 : ((xss[k].length : Int) != (xss[0].length : Int)) = false := by rw [bne_eq_false_iff_eq]; omega
          have HL := Lib.hid hl
          clear hl
          have hd5 : decide ((5 : Int) < (xss[k].length : Int)) = false := by simp; omega
          go_wp2
          go_quiet (fail)
          go_wp2
          have hD2 := hD.more nq
          obtain ⟨wo, hwo⟩ : ∃ wo, wo = wr.drewN nq := ⟨_, rfl⟩
          have hck2 : wo.cell? ⟨g, off + k, none⟩ = some (.slice ak xss[k].length ck) := by rw [hwo]; exact hck
          rw [← hwo] at hD2 ⊢
          clear hwo hck hc0 hD
          go_loopw [4] (fun j wi => ∃ t : Nat, t ≤ xss[k].length ∧ j = .int .i64 t ∧ (∀ i (h : i < xss[k].length), i < t → inB xss[k][i] 0 2 = true) ∧ wi = wo) (fun j _ => xss[k].length - (intOf j).toNat)
          case atStart => exact ⟨0, Nat.zero_le _, rfl, by omega, rfl⟩
          case round =>
            obtain ⟨t, ht, rfl, hp, rfl⟩ := hrel
            have HP := Lib.hid hp
            clear hp
            by_cases htl : t < xss[k].length
            · obtain ⟨b2, o2, rfl, _, hx⟩ := hkc (by omega)
              have hxt := hD2.cell (hx t htl)
              obtain ⟨x, hx2⟩ : ∃ x, x = xss[k][t] := ⟨_, rfl⟩
              rw [← hx2] at hxt
              have HX := Lib.hid hx2
              clear hx hkc hx2
              cases hb : inB x 0 2
              · have HB := Lib.hid hb
                go_wp2_with (go_at_call 62; refine (l1In_any _ _ _ _).mono ?_; rintro e w' ⟨rfl, rfl⟩)
                go_ret
                exact ⟨ret_bool (by rw [tableB_no hlt (fun hh => by have := allB_no htl (by rw [← HX.out]; exact HB.out); rw [hh.2.2] at this; simp at this)]), hD2⟩
              · have HB := Lib.hid hb
                go_wp2_with (go_at_call 62; refine (l1In_any _ _ _ _).mono ?_; rintro e w' ⟨rfl, rfl⟩)
                go_roundw
                case rel => exact ⟨t + 1, by omega, by go_num, pre_step HP.out htl (by rw [← HX.out]; exact HB.out), trivial⟩
                case measure => simp [intOf]; omega
            · have e : t = xss[k].length := by omega
              subst e
              clear hkc
              go_wp2
              go_roundw
              case rel => exact ⟨k + 1, by omega, by go_num, good_step hlt HG.out ⟨by rw [e0]; exact HL.out, h5, allB_upto (fun i hi => HP.out i hi hi)⟩, hD2⟩
              case measure => simp [intOf]; omega
        · have hl1 : ((xss[k].length : Int) != (xss[0].length : Int)) = false := by rw [bne_eq_false_iff_eq]; omega
          have hd5 : decide ((5 : Int) < (xss[k].length : Int)) = true := by simp; omega
          have HT := Lib.hid (tableB_no hlt (fun hh => h5 hh.2.1))
          clear hl e0 hkc
          go_wp2
          go_quiet (fail)
          go_wp2
          go_ret
          exact ⟨ret_bool (by rw [HT.out]), hD.more _⟩
      · have hl1 : ((xss[k].length : Int) != (xss[0].length : Int)) = true := by rw [bne_iff_ne]; omega
        have HT := Lib.hid (tableB_no hlt (fun hh => hl (by rw [← e0]; exact hh.1)))
        clear hl e0 hkc
        go_wp2
        go_quiet (fail)
        go_wp2
        go_ret
        exact ⟨ret_bool (by rw [HT.out]), hD.more _⟩
    · have e : k = xss.length := by omega
      have HT := Lib.hid (tableB_of (xss := xss) (fun i hi => HG.out i hi (by omega)))
      clear hcells hV
      go_wp2_with (go_at_call 62; refine (l1In_any _ _ _ _).mono ?_; rintro e w' ⟨rfl, rfl⟩)
      go_ret
      exact ⟨ret_bool (by rw [HT.out]), hD⟩

end Go.Proofs.Ytpeogghiboaceaa
