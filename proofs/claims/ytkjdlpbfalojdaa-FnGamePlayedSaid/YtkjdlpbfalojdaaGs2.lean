/- The reference's l4Fits. -/
import Derived.Test.YtkjdlpbfalojdaaGs
namespace Go.Proofs.Ytkjdlpbfalojdaa
open Go.RowKit
set_option linter.unusedVariables false
set_option maxRecDepth 100000

theorem guess_code {p c : Int} {gs : List Gs} (h : guessesB p c gs = true) {i : Nat} (hi : i < gs.length) : CodeP p c gs[i].code := by
  unfold guessesB at h
  rw [Bool.and_eq_true, Bool.and_eq_true, List.all_eq_true] at h
  have := h.2.2 _ (List.getElem_mem hi)
  unfold guessOkB at this
  rw [Bool.and_eq_true] at this
  exact codeOkB_iff.1 this.1
theorem guesses_codes {p c : Int} {gs : List Gs} (h : guessesB p c gs = true) : codesP p c := by unfold guessesB at h; rw [Bool.and_eq_true] at h; exact codesB_iff.1 h.1
theorem fits_step {x : List Int} {gs : List Gs} {k : Nat} (hk : k < gs.length) (h : fitsB x (gs.take k) = true) (h1 : rightZ x gs[k].code = gs[k].right) (h2 : nearZ x gs[k].code = gs[k].near) : fitsB x (gs.take (k + 1)) = true := by
  unfold fitsB at h ⊢
  rw [List.take_succ_eq_append_getElem hk, List.all_append, h]
  simp [h1, h2]
theorem fits_bad {x : List Int} {gs : List Gs} {k : Nat} (hk : k < gs.length) (h : ¬ (rightZ x gs[k].code = gs[k].right ∧ nearZ x gs[k].code = gs[k].near)) : fitsB x gs = false := by
  rw [← Bool.not_eq_true]
  intro hf
  unfold fitsB at hf
  rw [List.all_eq_true] at hf
  have := hf _ (List.getElem_mem hk)
  rw [decide_eq_true_eq] at this
  exact h this

set_option maxHeartbeats 2000000 in
theorem fitsS_any {B C : Nat} (n c : Nat) (v u : Value) (gs : List Gs) (x : List Int) (w : World) (h : GL B w v gs) (hx : Ints C w u x) (hg : guessesB n c gs = true) (hcx : CodeP n c x) :
    Calls Try.prog 97 #[.int .i64 n, .int .i64 c, v, u] w (Quiet (.bool (fitsB x gs)) w) := by
  obtain ⟨a, cap, V, rfl, hcap, hmax, hcells, hV⟩ := h
  have HG := Lib.hid hg
  have HCX := Lib.hid hcx
  clear hg hcx
  go_enter Try.func97, Try.ntmps97
  go_wp2
  go_loopw [9] (fun i wr => ∃ k q : Nat, k ≤ gs.length ∧ i = .int .i64 k ∧ fitsB x (gs.take k) = true ∧ wr = w.drewN q) (fun i _ => gs.length - (intOf i).toNat)
  case atStart => exact ⟨0, 0, Nat.zero_le _, rfl, rfl, rfl⟩
  case round =>
    obtain ⟨k, q, hk, rfl, ht, rfl⟩ := hrel
    have HT := Lib.hid ht
    clear ht
    by_cases hlt : k < gs.length
    · obtain ⟨b, off, rfl, _, hc⟩ := hcells (by omega)
      obtain ⟨c1, c2, c3⟩ := hc k hlt
      have hA := answerS_ok n c u (V k) x gs[k].code (w.drewN q) hx (hV k hlt) HCX.out (guess_code HG.out hlt)
      have HS := Lib.hid (@fits_step x gs k hlt HT.out)
      have HB := Lib.hid (@fits_bad x gs k hlt)
      clear hc hcells hV hx
      obtain ⟨g, hgg⟩ : ∃ g, g = gs[k] := ⟨_, rfl⟩
      rw [← hgg] at c2 c3 hA HS HB
      clear hgg
      obtain ⟨r1, hr1⟩ : ∃ r1, r1 = rightZ x g.code := ⟨_, rfl⟩
      obtain ⟨r2, hr2⟩ : ∃ r2, r2 = nearZ x g.code := ⟨_, rfl⟩
      rw [← hr1, ← hr2] at hA HS HB
      clear hr1 hr2
      by_cases e1 : r1 = g.right
      · have f1 : (r1 != g.right) = false := by simpa using e1
        by_cases e2 : r2 = g.near
        · have f2 : (r2 != g.near) = false := by simpa using e2
          have HR := Lib.hid (HS.out e1 e2)
          clear e1 e2 HS HB
          go_wp2_with fail
          refine hA.mono ?_
          rintro e w2 ⟨rfl, nq, rfl⟩
          clear hA
          go_wp2
          go_roundw
          case rel => exact ⟨k + 1, q + nq, by omega, by go_num, HR.out, by simp⟩
          case measure => simp [intOf]; omega
        · have f2 : (r2 != g.near) = true := by simpa using e2
          have HR := Lib.hid (HB.out (fun q => e2 q.2))
          clear e1 e2 HS HB
          go_wp2_with fail
          refine hA.mono ?_
          rintro e w2 ⟨rfl, nq, rfl⟩
          clear hA
          go_wp2
          go_ret
          exact ⟨ret_bool (by rw [HR.out]), q + nq, by simp⟩
      · have f1 : (r1 != g.right) = true := by simpa using e1
        have HR := Lib.hid (HB.out (fun q => e1 q.1))
        clear e1 HS HB
        go_wp2_with fail
        refine hA.mono ?_
        rintro e w2 ⟨rfl, nq, rfl⟩
        clear hA
        go_wp2
        go_ret
        exact ⟨ret_bool (by rw [HR.out]), q + nq, by simp⟩
    · have HR := Lib.hid (show fitsB x gs = true from by have := HT.out; rwa [List.take_of_length_le (by omega)] at this)
      clear hcells hV
      go_wp2
      go_ret
      exact ⟨ret_bool (by rw [HR.out]), _, rfl⟩

end Go.Proofs.Ytkjdlpbfalojdaa
