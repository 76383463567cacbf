/- The reference's CodeOk and AnswerTo. -/
import Derived.Test.YtkjdlpbfalojdaaLeaf2
import Derived.Test.YtkjdlpbfalojdaaCode
namespace Go.Proofs.Ytkjdlpbfalojdaa
open Go.RowKit
set_option linter.unusedVariables false
set_option maxRecDepth 100000

theorem l1In_yes (n lo hi : Int) (w : World) (h : lo ≤ n ∧ n ≤ hi) :
    Calls Try.prog 83 #[.int .i64 n, .int .i64 lo, .int .i64 hi] w fun e w' => e = .returned (.bool true) ∧ w = w' := by
  have q := l1In_any n lo hi w
  rw [show inB n lo hi = true from decide_eq_true h] at q
  exact q
theorem l1In_no (n lo hi : Int) (w : World) (h : ¬ (lo ≤ n ∧ n ≤ hi)) :
    Calls Try.prog 83 #[.int .i64 n, .int .i64 lo, .int .i64 hi] w fun e w' => e = .returned (.bool false) ∧ w = w' := by
  have q := l1In_any n lo hi w
  rw [show inB n lo hi = false from decide_eq_false h] at q
  exact q

theorem codesB_no {p c : Int} (h : ¬ codesP p c) (xs : List Int) : codeOkB p c xs = false := by
  unfold codeOkB
  rw [show codesB p c = false from by rw [← Bool.not_eq_true, codesB_iff]; exact h]
  rfl
theorem codeOkB_row {p c : Int} (h : codesP p c) (xs : List Int) (hx : ∀ y ∈ xs, 0 ≤ y ∧ y ≤ c - 1) : codeOkB p c xs = ((xs.length : Int) == p) := by
  unfold codeOkB inRow
  rw [codesB_iff.2 h, List.all_eq_true.2 (fun y hy => decide_eq_true (hx y hy))]
  simp only [Bool.true_and, Bool.and_true]
  by_cases e : (xs.length : Int) = p <;> simp [e]
theorem codeOkB_bad {p c : Int} {xs : List Int} {k : Nat} (hk : k < xs.length) (h : ¬ (0 ≤ xs[k] ∧ xs[k] ≤ c - 1)) : codeOkB p c xs = false := by
  rw [← Bool.not_eq_true, codeOkB_iff]
  exact fun q => h (q.2.2 _ (List.getElem_mem hk))

set_option maxHeartbeats 1000000 in
theorem codeOkS_any {B : Nat} (p c : Int) (v : Value) (xs : List Int) (w : World) (h : Ints B w v xs) :
    Calls Try.prog 52 #[.int .i64 p, .int .i64 c, v] w fun e w' => e = .returned (.bool (codeOkB p c xs)) ∧ w = w' := by
  obtain ⟨a, cap, rfl, hcap, hmax, hcells⟩ := h.opened
  clear h
  by_cases hp : codesP p c
  · have HP := Lib.hid hp
    obtain ⟨⟨hp1, hp2⟩, hp3, hp4⟩ := hp
    go_enter Try.func52, Try.ntmps52
    go_wp2
    go_loop [7] (fun i => ∃ k : Nat, k ≤ xs.length ∧ i = .int .i64 k ∧ ∀ j (hj : j < k) (hl : j < xs.length), 0 ≤ xs[j] ∧ xs[j] ≤ c - 1) (fun i => xs.length - (intOf i).toNat)
    case atStart => exact ⟨0, Nat.zero_le _, rfl, by omega⟩
    case round =>
      obtain ⟨k, hk, rfl, ht⟩ := hrel
      have HT := Lib.hid ht
      clear ht
      by_cases hlt : k < xs.length
      · obtain ⟨b, off, rfl, _, hc⟩ := hcells (by omega)
        have hck := hc k hlt
        clear hc hcells
        by_cases hin : 0 ≤ xs[k] ∧ xs[k] ≤ c - 1
        · have HI := Lib.hid hin
          have hI := l1In_yes xs[k] 0 (c - 1) w hin
          clear hin
          go_wp2_with fail
          refine hI.mono ?_
          rintro e w2 ⟨rfl, rfl⟩
          clear hI
          go_wp2
          go_round
          case rel => exact ⟨k + 1, by omega, by go_num, fun j hj hl => by
            by_cases e : j = k
            · subst e; exact HI.out
            · exact HT.out j (by omega) hl⟩
          case measure => simp [intOf]; omega
        · have HI := Lib.hid (codeOkB_bad (p := p) hlt hin)
          have hI := l1In_no xs[k] 0 (c - 1) w hin
          clear hin
          go_wp2_with fail
          refine hI.mono ?_
          rintro e w2 ⟨rfl, rfl⟩
          clear hI
          go_wp2
          go_ret
          exact ⟨ret_bool (by rw [HI.out]), rfl⟩
      · have HR := Lib.hid (codeOkB_row HP.out xs (fun y hy => by
          obtain ⟨j, hj, rfl⟩ := List.getElem_of_mem hy
          exact HT.out j (by omega) hj))
        have h1 := l1In_yes p 1 3 w ⟨hp1, hp2⟩
        have h2 := l1In_yes c 1 5 w ⟨hp3, hp4⟩
        clear hcells
        cases he : ((xs.length : Int) == p)
        · have HR2 := Lib.hid (HR.out.trans he)
          clear HR
          go_wp2_with fail
          refine h1.mono ?_
          rintro e w2 ⟨rfl, rfl⟩
          clear h1
          go_wp2_with fail
          refine h2.mono ?_
          rintro e w2 ⟨rfl, rfl⟩
          clear h2
          go_wp2
          go_ret
          exact ⟨ret_bool (by rw [HR2.out]), rfl⟩
        · have HR2 := Lib.hid (HR.out.trans he)
          clear HR
          go_wp2_with fail
          refine h1.mono ?_
          rintro e w2 ⟨rfl, rfl⟩
          clear h1
          go_wp2_with fail
          refine h2.mono ?_
          rintro e w2 ⟨rfl, rfl⟩
          clear h2
          go_wp2
          go_ret
          exact ⟨ret_bool (by rw [HR2.out]), rfl⟩
  · have HN := Lib.hid (codesB_no hp xs)
    have HP := Lib.hid hp
    clear hp
    go_enter Try.func52, Try.ntmps52
    go_wp2
    go_loop [7] (fun i => ∃ k : Nat, k ≤ xs.length ∧ i = .int .i64 k) (fun i => xs.length - (intOf i).toNat)
    case atStart => exact ⟨0, Nat.zero_le _, rfl⟩
    case round =>
      obtain ⟨k, hk, rfl⟩ := hrel
      by_cases hlt : k < xs.length
      · obtain ⟨b, off, rfl, _, hc⟩ := hcells (by omega)
        have hck := hc k hlt
        clear hc hcells
        have hI := l1In_any xs[k] 0 (wrap64 (c - 1)) w
        cases hin : inB xs[k] 0 (wrap64 (c - 1))
        · rw [hin] at hI
          clear hin
          go_wp2_with fail
          refine hI.mono ?_
          rintro e w2 ⟨rfl, rfl⟩
          clear hI
          go_wp2
          go_ret
          exact ⟨ret_bool (by rw [HN.out]), rfl⟩
        · rw [hin] at hI
          clear hin
          go_wp2_with fail
          refine hI.mono ?_
          rintro e w2 ⟨rfl, rfl⟩
          clear hI
          go_wp2
          go_round
          case rel => exact ⟨k + 1, by omega, by go_num⟩
          case measure => simp [intOf]; omega
      · clear hcells
        by_cases hp1 : 1 ≤ p ∧ p ≤ 3
        · have h1 := l1In_yes p 1 3 w hp1
          have h2 := l1In_no c 1 5 w (fun q => HP.out ⟨hp1, q⟩)
          clear hp1
          go_wp2_with fail
          refine h1.mono ?_
          rintro e w2 ⟨rfl, rfl⟩
          clear h1
          go_wp2_with fail
          refine h2.mono ?_
          rintro e w2 ⟨rfl, rfl⟩
          clear h2
          go_wp2
          go_ret
          exact ⟨ret_bool (by rw [HN.out]), rfl⟩
        · have h1 := l1In_no p 1 3 w hp1
          clear hp1
          go_wp2_with fail
          refine h1.mono ?_
          rintro e w2 ⟨rfl, rfl⟩
          clear h1
          go_wp2
          go_ret
          exact ⟨ret_bool (by rw [HN.out]), rfl⟩

end Go.Proofs.Ytkjdlpbfalojdaa
