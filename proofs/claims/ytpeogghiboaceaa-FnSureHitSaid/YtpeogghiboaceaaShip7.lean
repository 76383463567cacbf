/- ShotsOk of both. -/
import Derived.Test.YtpeogghiboaceaaShip6
import Derived.Test.YtpeogghiboaceaaTable
namespace Go.Proofs.Ytpeogghiboaceaa
open Go.RowKit
set_option linter.unusedVariables false
set_option maxRecDepth 100000

def shotRow (m : Int) (r : List Int) : Bool := decide ((r.length : Int) = m) && allB r 0 1
def shotsB (rows cols : Int) (xss : List (List Int)) : Bool := inB rows 1 6 && inB cols 1 6 && decide ((xss.length : Int) = rows) && xss.all (shotRow cols)

theorem shot1_any {B : Nat} (u : Value) (r : List Int) (m : Int) (w : World) (b : Nat) (hu : Ints B w u r) (hb : w.cell? ⟨b, 0, none⟩ = some (.int .i64 m)) :
    Calls Try.prog 106 #[u, .pointer (some ⟨b, 0, none⟩)] w fun e W' => e = .returned (.bool (!shotRow m r)) ∧ Below w.heap.size w W' := by
  obtain ⟨au, cu, rfl, hu1, hu2⟩ := hu.shape
  have hA := allIn_any (.slice au r.length cu) r 0 1 w hu
  clear hu
  by_cases hl : (r.length : Int) = m
  · have hl1 : ((r.length : Int) != m) = false := by rw [bne_eq_false_iff_eq]; exact hl
    have HR := Lib.hid (show shotRow m r = allB r 0 1 by unfold shotRow; rw [decide_eq_true hl, Bool.true_and])
    clear hl
    go_enter Try.func106, Try.ntmps106
    go_wp2_with (go_at_call 96; refine hA.mono ?_; rintro e w' ⟨rfl, hb2⟩; have HB := Lib.hid hb2; clear hb2)
    go_ret
    exact ⟨ret_bool (by rw [HR.out]), HB.out⟩
  · have hl1 : ((r.length : Int) != m) = true := by rw [bne_iff_ne]; exact hl
    have HR := Lib.hid (show shotRow m r = false by unfold shotRow; rw [decide_eq_false hl, Bool.false_and])
    clear hl
    go_enter Try.func106, Try.ntmps106
    go_wp2
    go_ret
    exact ⟨ret_bool (by rw [HR.out]; rfl), Below.refl _ _⟩

theorem shot1_tells {C : Nat} {w : World} {m : Int} {xss : List (List Int)} {vs : List Value} (b : Nat) (hvs : ∀ i (h : i < vs.length) (h' : i < xss.length), Ints C w vs[i] xss[i]) (hl : vs.length = xss.length)
    (hb : w.cell? ⟨b, 0, none⟩ = some (.int .i64 m)) :
    Tells 106 #[.pointer (some ⟨b, 0, none⟩)] vs (fun i => !shotRow m (xss.getD i [])) w := by
  refine ⟨enters_of Try.func106 (by kernel_rfl) rfl, fun W hB i h => ?_⟩
  have hi : i < xss.length := by omega
  have e : xss.getD i [] = xss[i] := by simp [List.getD, List.getElem?_eq_getElem hi]
  have := shot1_any vs[i] xss[i] m W b ((hvs i h hi).below hB) ((Above.of_below (B := 0) hB).cell (Nat.zero_le _) hb)
  show Calls _ _ _ _ (fun e W' => e = .returned (.bool (!shotRow m (xss.getD i []))) ∧ _)
  rw [e]
  exact this

set_option maxHeartbeats 1000000 in
theorem implShotsOk_any {B : Nat} (rows cols : Int) (v : Value) (xss : List (List Int)) (w : World) (h : Rows2 B w v xss) :
    Calls Try.prog 85 #[.int .i64 rows, .int .i64 cols, v] w fun e w' => e = .returned (.bool (shotsB rows cols xss)) ∧ Below w.heap.size w w' := by
  obtain ⟨vs, hs1, hs2, hs3⟩ := id h
  obtain ⟨a, cap, rfl, hcap, hmax, V, hcells, hV⟩ := h.opened
  clear hcells hV
  have hb1 := (Below.refl w.heap.size w).alloc (Nat.le_refl _) (.cells #[.int .i64 cols] 3)
  have hT := shot1_tells (w := w.alloc (.cells #[.int .i64 cols] 3)) (m := cols) w.heap.size (fun i h h' => (hs3 i h h').below hb1) hs2 (by simp)
  have hC := contains_ints (.slice a xss.length cap) vs _ (hs1.below hb1) _ _ _ hT
  have e1 : (!anyN (fun i => !shotRow cols (xss.getD i [])) vs.length) = xss.all (shotRow cols) := by
    rw [hs2, anyN_getD (fun r => !shotRow cols r) xss [], List.not_any_eq_all_not]
    simp
  obtain ⟨r, hr⟩ : ∃ r, r = anyN (fun i => !shotRow cols (xss.getD i [])) vs.length := ⟨_, rfl⟩
  rw [← hr] at hC e1
  have HB1 := Lib.hid hb1
  clear hr hT hs1 hs2 hs3 h hb1
  cases hi1 : (inB rows 1 6 && inB cols 1 6)
  · have HS := Lib.hid (show shotsB rows cols xss = false by unfold shotsB; rw [hi1]; simp)
    clear hC e1
    go_enter Try.func85, Try.ntmps85
    go_wp2_with (go_at_call 93; refine (isBoard_any _ _ _).mono ?_; rintro e w' ⟨rfl, rfl⟩; rw [hi1])
    go_ret
    exact ⟨ret_bool (by rw [HS.out]), HB1.out⟩
  · by_cases hl : (xss.length : Int) = rows
    · have hl1 : ((xss.length : Int) == rows) = true := by rw [beq_iff_eq]; exact hl
      have HS := Lib.hid (show shotsB rows cols xss = !r by unfold shotsB; rw [hi1, decide_eq_true hl, ← e1]; rfl)
      clear hl e1
      go_enter Try.func85, Try.ntmps85
      go_wp2_with (first | (go_at_call 93; refine (isBoard_any _ _ _).mono ?_; rintro e w' ⟨rfl, rfl⟩; rw [hi1]) | (go_at_call 71; refine hC.mono ?_; rintro e w2 ⟨rfl, hb2⟩; have HB := Lib.hid hb2; clear hb2))
      go_ret
      exact ⟨ret_bool (by rw [HS.out]), HB1.out.trans (HB.out.mono (by simp))⟩
    · have hl1 : ((xss.length : Int) == rows) = false := by rw [beq_eq_false_iff_ne]; exact hl
      have HS := Lib.hid (show shotsB rows cols xss = false by unfold shotsB; rw [decide_eq_false hl]; simp)
      clear hl hC e1
      go_enter Try.func85, Try.ntmps85
      go_wp2_with (go_at_call 93; refine (isBoard_any _ _ _).mono ?_; rintro e w' ⟨rfl, rfl⟩; rw [hi1])
      go_ret
      exact ⟨ret_bool (by rw [HS.out]), HB1.out⟩

/-! ### The reference -/
theorem shots_of {rows cols : Int} {xss : List (List Int)} (h : ∀ i (h : i < xss.length), shotRow cols xss[i] = true) : shotsB rows cols xss = (inB rows 1 6 && inB cols 1 6 && decide ((xss.length : Int) = rows)) := by
  unfold shotsB
  have : xss.all (shotRow cols) = true := by
    rw [List.all_eq_true]
    intro r hr
    obtain ⟨i, hi, rfl⟩ := List.getElem_of_mem hr
    exact h i hi
  rw [this, Bool.and_true]
theorem shots_no {rows cols : Int} {xss : List (List Int)} {k : Nat} (hk : k < xss.length) (h : shotRow cols xss[k] = false) : shotsB rows cols xss = false := by
  unfold shotsB
  have : xss.all (shotRow cols) = false := by
    rw [List.all_eq_false]
    exact ⟨xss[k], List.getElem_mem _, by simp [h]⟩
  rw [this, Bool.and_false]
theorem shot_step {cols : Int} {xss : List (List Int)} {k : Nat} (hk : k < xss.length) (h : ∀ i (h : i < xss.length), i < k → shotRow cols xss[i] = true) (hg : shotRow cols xss[k] = true) : ∀ i (h : i < xss.length), i < k + 1 → shotRow cols xss[i] = true := by
  intro i hi hik
  by_cases e : i < k
  · exact h i hi e
  · have e2 : i = k := by omega
    subst e2; exact hg

set_option maxHeartbeats 2000000 in
theorem specShotsOk_any {B : Nat} (rows cols : Int) (v : Value) (xss : List (List Int)) (w : World) (h : Rows2 B w v xss) :
    Calls Try.prog 82 #[.int .i64 rows, .int .i64 cols, v] w (fun e w' => e = .returned (.bool (shotsB rows cols xss)) ∧ w' = w) := by
  obtain ⟨a, cap, rfl, hcap, hmax, V, hcells, hV⟩ := h.opened
  clear h
  go_enter Try.func82, Try.ntmps82
  go_wp2
  go_loop [7] (fun i => ∃ k : Nat, k ≤ xss.length ∧ i = .int .i64 k ∧ (∀ i (h : i < xss.length), i < k → shotRow cols xss[i] = true)) (fun i => xss.length - (intOf i).toNat)
  case atStart => exact ⟨0, Nat.zero_le _, rfl, by omega⟩
  case round =>
    obtain ⟨k, hk, rfl, hg⟩ := hrel
    have HG := Lib.hid hg
    clear hg
    by_cases hlt : k < xss.length
    · obtain ⟨g, off, rfl, _, hc⟩ := hcells (by omega)
      have hck := hc k hlt
      obtain ⟨ak, ck, hvk, hk1, hk2, hkc⟩ := (hV k hlt).opened
      rw [hvk] at hck
      have hi0 : (0 : Int) ≤ (k : Int) := by omega
      have hi1 : (k : Int) < (xss.length : Int) := by omega
      clear hcells hc hV hvk
      by_cases hl : (xss[k].length : Int) = cols
      · have hl1 : ((xss[k].length : Int) != cols) = false := by rw [bne_eq_false_iff_eq]; exact hl
        have HL := Lib.hid hl
        clear hl
        go_wp2
        go_loop [8] (fun j => ∃ t : Nat, t ≤ xss[k].length ∧ j = .int .i64 t ∧ (∀ i (h : i < xss[k].length), i < t → inB xss[k][i] 0 1 = true)) (fun j => xss[k].length - (intOf j).toNat)
        case atStart => exact ⟨0, Nat.zero_le _, rfl, by omega⟩
        case round =>
          obtain ⟨t, ht, rfl, hp⟩ := hrel
          have HP := Lib.hid hp
          clear hp
          by_cases htl : t < xss[k].length
          · obtain ⟨b2, o2, rfl, _, hx⟩ := hkc (by omega)
            have hxt := hx t htl
            obtain ⟨x, hx2⟩ : ∃ x, x = xss[k][t] := ⟨_, rfl⟩
            rw [← hx2] at hxt
            have HX := Lib.hid hx2
            clear hx hkc hx2
            cases hb : inB x 0 1
            · have HB := Lib.hid hb
              go_wp2_with (go_at_call 62; refine (l1In_any _ _ _ _).mono ?_; rintro e w' ⟨rfl, rfl⟩)
              go_ret
              exact ⟨ret_bool (by rw [shots_no hlt (by unfold shotRow; rw [allB_no htl (by rw [← HX.out]; exact HB.out), Bool.and_false])]), rfl⟩
            · have HB := Lib.hid hb
              go_wp2_with (go_at_call 62; refine (l1In_any _ _ _ _).mono ?_; rintro e w' ⟨rfl, rfl⟩)
              go_round
              case rel => exact ⟨t + 1, by omega, by go_num, pre_step HP.out htl (by rw [← HX.out]; exact HB.out)⟩
              case measure => simp [intOf]; omega
          · have e : t = xss[k].length := by omega
            subst e
            clear hkc
            go_wp2
            go_round
            case rel => exact ⟨k + 1, by omega, by go_num, shot_step hlt HG.out (by unfold shotRow; rw [decide_eq_true HL.out, allB_upto (fun i hi => HP.out i hi hi)]; rfl)⟩
            case measure => simp [intOf]; omega
      · have hl1 : ((xss[k].length : Int) != cols) = true := by rw [bne_iff_ne]; exact hl
        have HT := Lib.hid (shots_no (rows := rows) hlt (show shotRow cols xss[k] = false by unfold shotRow; rw [decide_eq_false hl, Bool.false_and]))
        clear hl hkc
        go_wp2
        go_ret
        exact ⟨ret_bool (by rw [HT.out]), rfl⟩
    · have e : k = xss.length := by omega
      subst e
      have HS := Lib.hid (shots_of (rows := rows) (cols := cols) (xss := xss) (fun i hi => HG.out i hi hi))
      clear hcells hV
      cases h1 : inB rows 1 6
      · go_wp2_with (go_at_call 62; refine (l1In_any _ _ _ _).mono ?_; rintro e w' ⟨rfl, rfl⟩)
        go_ret
        exact ⟨ret_bool (by rw [HS.out, h1]; rfl), rfl⟩
      · cases h2 : inB cols 1 6
        · go_wp2_with (go_at_call 62; refine (l1In_any _ _ _ _).mono ?_; rintro e w' ⟨rfl, rfl⟩)
          go_ret
          exact ⟨ret_bool (by rw [HS.out, h1, h2]; rfl), rfl⟩
        · go_wp2_with (go_at_call 62; refine (l1In_any _ _ _ _).mono ?_; rintro e w' ⟨rfl, rfl⟩)
          go_ret
          refine ⟨ret_bool ?_, rfl⟩
          rw [HS.out, h1, h2]
          rw [Bool.eq_iff_iff]; simp

end Go.Proofs.Ytpeogghiboaceaa
