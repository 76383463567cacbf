/- The program's codes and CodeOk. -/
import Derived.Test.YtkjdlpbfalojdaaFun
import Derived.Test.YtkjdlpbfalojdaaCode2
namespace Go.Proofs.Ytkjdlpbfalojdaa
open Go.RowKit Go.Shelf
set_option linter.unusedVariables false
set_option maxRecDepth 100000

theorem in_yes (n lo hi : Int) (w : World) (h : lo ≤ n ∧ n ≤ hi) :
    Calls Try.prog 88 #[.int .i64 n, .int .i64 lo, .int .i64 hi] w fun e w' => e = .returned (.bool true) ∧ w = w' := by
  have q := in_any n lo hi w
  rw [show inB n lo hi = true from decide_eq_true h] at q
  exact q
theorem in_no (n lo hi : Int) (w : World) (h : ¬ (lo ≤ n ∧ n ≤ hi)) :
    Calls Try.prog 88 #[.int .i64 n, .int .i64 lo, .int .i64 hi] w fun e w' => e = .returned (.bool false) ∧ w = w' := by
  have q := in_any n lo hi w
  rw [show inB n lo hi = false from decide_eq_false h] at q
  exact q

theorem codesI_any (p c : Int) (w : World) :
    Calls Try.prog 68 #[.int .i64 p, .int .i64 c] w fun e w' => e = .returned (.bool (codesB p c)) ∧ w = w' := by
  by_cases h1 : 1 ≤ p ∧ p ≤ 3
  · have q1 := in_yes p 1 3 w h1
    by_cases h2 : 1 ≤ c ∧ c ≤ 5
    · have q2 := in_yes c 1 5 w h2
      have HR := Lib.hid (show codesB p c = true from codesB_iff.2 ⟨h1, h2⟩)
      clear h1 h2
      go_enter Try.func68, Try.ntmps68
      go_wp2_with fail
      refine q1.mono ?_
      rintro e w2 ⟨rfl, rfl⟩
      clear q1
      go_wp2_with fail
      refine q2.mono ?_
      rintro e w2 ⟨rfl, rfl⟩
      clear q2
      go_wp2
      go_ret
      exact ⟨ret_bool (by rw [HR.out]), rfl⟩
    · have q2 := in_no c 1 5 w h2
      have HR := Lib.hid (show codesB p c = false from by rw [← Bool.not_eq_true, codesB_iff]; exact fun q => h2 q.2)
      clear h1 h2
      go_enter Try.func68, Try.ntmps68
      go_wp2_with fail
      refine q1.mono ?_
      rintro e w2 ⟨rfl, rfl⟩
      clear q1
      go_wp2_with fail
      refine q2.mono ?_
      rintro e w2 ⟨rfl, rfl⟩
      clear q2
      go_wp2
      go_ret
      exact ⟨ret_bool (by rw [HR.out]), rfl⟩
  · have q1 := in_no p 1 3 w h1
    have HR := Lib.hid (show codesB p c = false from by rw [← Bool.not_eq_true, codesB_iff]; exact fun q => h1 q.1)
    clear h1
    go_enter Try.func68, Try.ntmps68
    go_wp2_with fail
    refine q1.mono ?_
    rintro e w2 ⟨rfl, rfl⟩
    clear q1
    go_wp2
    go_ret
    exact ⟨ret_bool (by rw [HR.out]), rfl⟩

theorem inRow_all (c : Int) (xs : List Int) : inRow c xs = allB xs 0 (c - 1) := rfl

theorem codeOkI_any {B : Nat} (p c : Int) (v : Value) (xs : List Int) (w : World) (h : Ints B w v xs) :
    Calls Try.prog 74 #[.int .i64 p, .int .i64 c, v] w fun e w' => e = .returned (.bool (codeOkB p c xs)) ∧ Below w.heap.size w w' := by
  have hC := codesI_any p c w
  cases hc : codesB p c
  · rw [hc] at hC
    have HR := Lib.hid (show codeOkB p c xs = false from by unfold codeOkB; rw [hc]; rfl)
    obtain ⟨a, cap, rfl, _⟩ := h.opened
    clear hc h
    go_enter Try.func74, Try.ntmps74
    go_wp2_with fail
    refine hC.mono ?_
    rintro e w2 ⟨rfl, rfl⟩
    clear hC
    go_wp2
    go_ret
    exact ⟨ret_bool (by rw [HR.out]), Below.refl _ _⟩
  · rw [hc] at hC
    obtain ⟨⟨h1, h2⟩, h3, h4⟩ := codesB_iff.1 hc
    cases hl : ((xs.length : Int) == p)
    · have HR := Lib.hid (show codeOkB p c xs = false from by unfold codeOkB; rw [decide_eq_false (by simpa using hl)]; simp)
      obtain ⟨a, cap, rfl, _⟩ := h.opened
      clear hc h
      go_enter Try.func74, Try.ntmps74
      go_wp2_with fail
      refine hC.mono ?_
      rintro e w2 ⟨rfl, rfl⟩
      clear hC
      go_wp2
      go_ret
      exact ⟨ret_bool (by rw [HR.out]), Below.refl _ _⟩
    · have HR := Lib.hid (show codeOkB p c xs = allB xs 0 (c - 1) from by unfold codeOkB; rw [hc, decide_eq_true (by simpa using hl), inRow_all]; rfl)
      have hA := allIn_any v xs 0 (c - 1) w h
      obtain ⟨a, cap, rfl, _⟩ := h.opened
      clear hc h
      obtain ⟨r, hr⟩ : ∃ r, r = allB xs 0 (c - 1) := ⟨_, rfl⟩
      rw [← hr] at hA HR
      clear hr
      go_enter Try.func74, Try.ntmps74
      go_wp2_with fail
      refine hC.mono ?_
      rintro e w2 ⟨rfl, rfl⟩
      clear hC
      go_wp2_with fail
      refine hA.mono ?_
      rintro e w2 ⟨rfl, hb2⟩
      have HB2 := Lib.hid hb2
      clear hA hb2
      go_wp2
      go_ret
      exact ⟨ret_bool (by rw [HR.out]), HB2.out⟩

end Go.Proofs.Ytkjdlpbfalojdaa
