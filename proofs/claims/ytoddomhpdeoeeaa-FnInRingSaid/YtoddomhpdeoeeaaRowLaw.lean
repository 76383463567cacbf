/- The walks of FnInRow, FnInRing. -/
import Derived.Test.YtoddomhpdeoeeaaHuntLaw
namespace Go.Proofs.Ytoddomhpdeoeeaa
open Go.RowKit
set_option linter.unusedVariables false

theorem sameRows_any {B C : Nat} (a b : Value) (xss yss : List (List Int)) (w : World) (ha : Rows2 B w a xss) (hb : Rows2 C w b yss) :
    Calls Try.prog 44 #[a, b] w (Quiet (.bool (decide (xss = yss))) w) := by
  obtain ⟨a, cap, rfl, hcap, hmax, V, hcells, hV⟩ := ha.opened
  obtain ⟨b, cap', rfl, hcap', hmax', V', hcells', hV'⟩ := hb.opened
  clear ha hb
  by_cases hl : xss.length = yss.length
  · have hl1 : ((xss.length : Int) != (yss.length : Int)) = false := by rw [bne_eq_false_iff_eq]; omega
    have hl2 : xss.length ≤ yss.length := by omega
    have hl3 : yss.length ≤ xss.length := by omega
    clear hl
    go_enter Try.func44, Try.ntmps44
    go_wp2
    go_loopw [5] (fun i wr => ∃ k : Nat, k ≤ xss.length ∧ i = .int .i64 k ∧ xss.take k = yss.take k ∧ Drawn w wr) (fun i _ => xss.length - (intOf i).toNat)
    case atStart => exact ⟨0, Nat.zero_le _, rfl, rfl, Drawn.refl _⟩
    case round =>
      obtain ⟨k, hk, rfl, ht, hD⟩ := hrel
      have HT := Lib.hid ht
      clear ht
      by_cases hlt : k < xss.length
      · obtain ⟨b1, o1, rfl, _, hc⟩ := hcells (by omega)
        obtain ⟨b2, o2, rfl, _, hc'⟩ := hcells' (by omega)
        have hck := hD.cell (hc k hlt)
        have hck' := hD.cell (hc' k (by omega))
        have hlt' : k < yss.length := by omega
        have hi0 : (0 : Int) ≤ (k : Int) := by omega
        have hi1 : (k : Int) < (xss.length : Int) := by omega
        have hi2 : (k : Int) < (yss.length : Int) := by omega
        have hE := fun n => sameInts_any (V k) (V' k) xss[k] yss[k] (wr.drewN n) ((hV k hlt).below (hD.more n).below) ((hV' k hlt').below (hD.more n).below)
        clear hc hcells hc' hcells' hV hV'
        by_cases he : xss[k] = yss[k]
        · have HE := Lib.hid he
          rw [decide_eq_true he] at hE
          clear he
          go_wp2
          go_quiet ((go_at_call 41; exact Calls.quiet_of (hE _)))
          go_wp2
          go_roundw
          case rel => exact ⟨k + 1, by omega, by go_num, take_eq_succ hlt hlt' HT.out HE.out, hD.more _⟩
          case measure => simp [intOf]; omega
        · have HE := Lib.hid (ne_of_get hlt hlt' he)
          rw [decide_eq_false he] at hE
          clear he
          go_wp2
          go_quiet ((go_at_call 41; exact Calls.quiet_of (hE _)))
          go_wp2
          go_ret
          exact ⟨ret_bool (by simp [HE.out]), hD.more _⟩
      · go_wp2
        go_ret
        have e : xss = yss := by
          have := HT.out
          rwa [List.take_of_length_le (by omega), List.take_of_length_le (by omega)] at this
        exact ⟨ret_bool (by simp [e]), hD⟩
  · have hl1 : ((xss.length : Int) != (yss.length : Int)) = true := by simp; omega
    have HE := Lib.hid (show ¬ xss = yss from fun e => hl (by rw [e]))
    clear hl
    go_enter Try.func44, Try.ntmps44
    go_wp2
    go_ret
    exact ⟨ret_bool (by simp [HE.out]), 0, rfl⟩


theorem drawInRow_any {B : Nat} (v : Value) (bs : List Int) (w : World) (h : Bytes B w v bs) :
    Calls Try.prog 42 #[v] w fun e w' => ∃ r, e = .returned (.int .i64 r) ∧ 0 ≤ r ∧ r < 8 ∧ Below w.heap.size w w' := by
  go_enter Try.func42, Try.ntmps42
  go_wp2_with fail
  refine (open_any _ _ _ h).mono ?_
  rintro e w1 ⟨a, cap, cs, rfl, hR, hb⟩
  go_wp2_with fail
  refine (pick_any 8 _ _ _ _ _ _ hR (by omega) (by unfold In64; omega)).mono ?_
  rintro e w2 ⟨r, rfl, hr0, hr1, _, hg⟩
  have HB := Lib.hid (below_of_grown hb hg (Nat.le_refl _))
  clear hb hg hR
  go_wp2
  go_ret
  exact ⟨r, rfl, hr0, hr1 (by omega), HB.out⟩

theorem line_in (n : Nat) (ring : Bool) : ∀ xs ∈ lineR n ring, ∀ x ∈ xs, In64 x := fun xs hx => ((sq_line n ring).2 xs hx).1

set_option maxHeartbeats 2000000 in
theorem FnInRow_walk (v : Value) (bs : List Int) (w : World) (h : Bytes 0 w v bs) :
    Calls Try.prog 11 #[v] w fun e w' => e = .returned (.bool true) ∧ Below w.heap.size w w' := by
  obtain ⟨a0, cap0, rfl, hc1, hc2, hc3⟩ := id h.1
  rw [List.length_map] at h ⊢
  clear hc1 hc2 hc3
  by_cases hs : 1048576 < bs.length
  · go_enter Try.func11, Try.ntmps11
    go_wp2
    go_ret
    exact ⟨rfl, Below.refl _ _⟩
  · go_enter Try.func11, Try.ntmps11
    go_wp2_with fail
    refine (drawInRow_any _ _ _ h).mono ?_
    rintro e w1 ⟨r, rfl, hr0, hr8, hb1⟩
    clear h
    have hI := implInRow_any r w1
    have hSp := specInRow_any r
    by_cases hr : 1 ≤ r ∧ r ≤ 6
    · obtain ⟨n, rfl⟩ := Int.eq_ofNat_of_zero_le hr0
      have e : inRowR (n : Int) = lineR n false := by unfold inRowR; rw [if_pos hr]; simp
      rw [e] at hI hSp
      clear e
      go_wp2_with fail
      refine hI.mono ?_
      rintro e w2 ⟨a2, c2, rfl, ho2, hb2⟩
      rw [lineR_length] at ho2 ⊢
      have hx2 := ho2.rows (line_in n false)
      have hbb2 := hb1.trans (hb2.mono hb1.size)
      clear hI ho2 hb2 hb1
      go_wp2_with fail
      refine (hSp w2).mono ?_
      rintro e w3 ⟨a3, c3, rfl, ho3, hb3⟩
      rw [lineR_length] at ho3 ⊢
      have hx3 := hx2.below hb3
      have hy3 := ho3.rows (line_in n false)
      have hbb3 := hbb2.trans (hb3.mono hbb2.size)
      clear hSp hx2 ho3 hb3 hbb2
      go_wp2_with fail
      refine (sameRows_any _ _ _ _ _ hx3 hy3).mono ?_
      rintro e w4 ⟨rfl, hq4⟩
      have hD4 : Drawn w3 w4 := hq4
      rw [decide_eq_true rfl]
      have hx4 := hx3.below hD4.below
      have hbb4 := hbb3.trans (hD4.below.mono hbb3.size)
      clear hx3 hy3 hbb3 hq4 hD4
      have hn0 : ((n : Int) == 0) = false := by rw [beq_eq_false_iff_ne]; omega
      go_wp2_with fail
      refine (implShortestHunt_any _ _ _ hx4).mono ?_
      rintro e w5 ⟨l, ok, al, cl, rfl, hh, ho5, hb5⟩
      obtain ⟨rfl, hlen⟩ := row_hunt (by omega) (by omega) hh
      have hbt : besideB (lineR n false) = true := by
        rcases hh with ⟨h9, _⟩ | ⟨h9, _⟩
        · exact h9
        · cases h9
      have hx5 := hx4.below hb5
      have hbb5 := hbb4.trans (hb5.mono hbb4.size)
      rw [hlen]
      have hB := implBesideOk_any _ _ _ hx5
      rw [hbt] at hB
      clear hx4 hx5 hb5 hbb4 ho5 hh hlen hbt
      have hcase : n = 1 ∨ n = 2 ∨ n = 3 ∨ n = 4 ∨ n = 5 ∨ n = 6 := by omega
      rcases hcase with rfl | rfl | rfl | rfl | rfl | rfl
      all_goals
        simp only [daysOfRow, List.getD_cons_succ, List.getD_cons_zero]
        go_wp2_with fail
        refine hB.mono ?_
        rintro e w6 ⟨rfl, hb6⟩
        have HB6 := Lib.hid (hbb5.trans (hb6.mono hbb5.size))
        clear hB hb6 hbb5
        go_wp2
        go_ret
        exact ⟨rfl, HB6.out.alloc HB6.out.size _⟩
    · have e : inRowR r = [] := by unfold inRowR; rw [if_neg hr]
      rw [e] at hI hSp
      clear e hr
      go_wp2_with fail
      refine hI.mono ?_
      rintro e w2 ⟨a2, c2, rfl, ho2, hb2⟩
      have hx2 := ho2.rows (by simp)
      have hbb2 := hb1.trans (hb2.mono hb1.size)
      clear hI ho2 hb2 hb1
      go_wp2_with fail
      refine (hSp w2).mono ?_
      rintro e w3 ⟨a3, c3, rfl, ho3, hb3⟩
      have hx3 := hx2.below hb3
      have hy3 := ho3.rows (by simp)
      have hbb3 := hbb2.trans (hb3.mono hbb2.size)
      clear hSp hx2 ho3 hb3 hbb2
      go_wp2_with fail
      refine (sameRows_any _ _ _ _ _ hx3 hy3).mono ?_
      rintro e w4 ⟨rfl, hq4⟩
      have hD4 : Drawn w3 w4 := hq4
      rw [decide_eq_true rfl]
      have hbb4 := hbb3.trans (hD4.below.mono hbb3.size)
      clear hx3 hy3 hbb3 hq4 hD4
      go_wp2_with fail
      refine (alive_any _).mono ?_
      rintro e w5 ⟨rfl, rfl⟩
      go_wp2
      go_ret
      exact ⟨rfl, hbb4⟩

end Go.Proofs.Ytoddomhpdeoeeaa
