/- A row among rows; what NextGuess is worth; drawn guesses from a code. -/
import Derived.Test.YtkjdlpbfalojdaaDrawGs2
import Derived.Test.YtkjdlpbfalojdaaSameG
import Derived.Test.YtkjdlpbfalojdaaNextI
namespace Go.Proofs.Ytkjdlpbfalojdaa
open Go.RowKit Go.Shelf
set_option linter.unusedVariables false
set_option maxRecDepth 100000

theorem next_least {p c : Int} {gs : List Gs} {i : Nat} (hi : i < (fitL p c gs).length) : worstLotZ p c gs (nextL (fitL p c gs)) ≤ worstLotZ p c gs (fitL p c gs)[i] := by
  obtain ⟨L, hL⟩ : ∃ L, L = fitL p c gs := ⟨_, rfl⟩
  have hn := nextL_mem (show 0 < (fitL p c gs).length by omega)
  have hi' := List.getElem_mem hi
  have h1 := fitL_mem.1 hn
  have h2 := fitL_mem.1 hi'
  unfold worstLotZ
  rw [if_pos ⟨h1.1, codeOkB_iff.2 h1.2.1⟩, if_pos ⟨h2.1, codeOkB_iff.2 h2.2.1⟩]
  have hm := (bestK_mem (fitL p c gs) (fitL p c gs).length (by omega) (Nat.le_refl _)).2
  have hl := bestK_least (fitL p c gs) (fitL p c gs).length (Nat.le_refl _) i hi
  have e : (fitL p c gs).getD i [] = (fitL p c gs)[i] := by simp [List.getD, List.getElem?_eq_getElem hi]
  rw [e] at hl
  unfold nextL
  omega

theorem hasRow_in {B C : Nat} (v u : Value) (xss : List (List Int)) (y : List Int) (w : World) (h : Rows2 B w v xss) (hu : Ints C w u y) (hy : y ∈ xss) :
    Calls Try.prog 43 #[v, u] w fun e w' => e = .returned (.bool true) ∧ Below w.heap.size w w' := by
  obtain ⟨a, cap, rfl, hcap, hmax, V, hcells, hV⟩ := h.opened
  obtain ⟨au, cu, rfl, _⟩ := hu.opened
  have HY := Lib.hid hy
  have HU := Lib.hid hu
  clear h hu hy
  go_enter Try.func43, Try.ntmps43
  go_wp2
  go_loopw [5] (fun i wr => ∃ k q : Nat, k ≤ xss.length ∧ i = .int .i64 k ∧ y ∉ xss.take k ∧ wr = w.drewN q) (fun i _ => xss.length - (intOf i).toNat)
  case atStart => exact ⟨0, 0, Nat.zero_le _, rfl, by simp, rfl⟩
  case round =>
    obtain ⟨k, q, hk, rfl, hni, rfl⟩ := hrel
    by_cases hlt : k < xss.length
    · obtain ⟨b, off, rfl, _, hc⟩ := hcells (by omega)
      have hck := hc k hlt
      have hS := sameI_any (V k) (.slice au y.length cu) xss[k] y (w.drewN q) ((hV k hlt).below ((show Drawn w (w.drewN q) from ⟨q, rfl⟩).below)) (HU.out.below ((show Drawn w (w.drewN q) from ⟨q, rfl⟩).below))
      obtain ⟨av, cv, hvv, _⟩ := (hV k hlt).opened
      rw [hvv] at hck hS
      by_cases he : xss[k] = y
      · rw [decide_eq_true he] at hS
        clear hc hcells hV hvv he hni
        go_wp2_with fail
        refine hS.mono ?_
        rintro e w2 ⟨rfl, q2, rfl⟩
        clear hS
        have HB := Lib.hid ((show Drawn w (w.drewN (q + q2)) from ⟨q + q2, rfl⟩).below)
        go_wp2
        go_ret
        exact ⟨rfl, HB.out⟩
      · rw [decide_eq_false he] at hS
        have HNI := Lib.hid (show y ∉ xss.take (k + 1) by
          rw [List.take_succ_eq_append_getElem hlt]
          intro hm
          rcases List.mem_append.1 hm with hm | hm
          · exact hni hm
          · simp only [List.mem_singleton] at hm; exact he hm.symm)
        clear hc hcells hV hvv he hni
        go_wp2_with fail
        refine hS.mono ?_
        rintro e w2 ⟨rfl, q2, rfl⟩
        clear hS
        go_wp2
        go_roundw
        case rel => exact ⟨k + 1, q + q2, by omega, by go_num, HNI.out, by simp⟩
        case measure => simp [intOf]; omega
    · exact absurd HY.out (by rwa [List.take_of_length_le (by omega)] at hni)

theorem drawNextGuess_any {B : Nat} (v : Value) (bs : List Int) (w : World) (h : Bytes B w v bs) :
    Calls Try.prog 39 #[v] w fun e w' => ∃ (x c : Int) (gs : List Gs) (a' : Option Addr) (c' : Nat), e = .returned (.tuple #[.int .i64 x, .int .i64 c, .slice a' gs.length c']) ∧ GL w.heap.size w' (.slice a' gs.length c') gs ∧ Below w.heap.size w w' := by
  obtain ⟨a0, cap0, rfl, _⟩ := id h.1
  rw [List.length_map] at h ⊢
  have hO := open_any _ bs w h
  clear h
  go_enter Try.func39, Try.ntmps39
  go_wp2_with fail
  refine hO.mono ?_
  rintro e w1 ⟨a, cap, bs1, rfl, hR1, hb1⟩
  have HB1 := Lib.hid hb1
  have hz1 := hb1.size
  have hG := guessing_any 14 w1 _ a cap bs1 0 hR1 (by omega) (by omega) (by omega)
  clear hO hb1 hR1
  go_wp2_with fail
  refine hG.mono ?_
  rintro e w2 ⟨x, c, gs, a', c', rfl, ho, h64, _, _, _, _, _, _, _, _, hg2⟩
  have HO := Lib.hid ((ho.toGL h64).mono hz1)
  have HB2 := Lib.hid (HB1.out.grown hg2 hz1 (fun j hj => by cases hj; exact Nat.le_refl _))
  clear hG ho h64 hg2
  go_wp2
  go_ret3
  exact ⟨x, c, gs, a', c', rfl, HO.out, HB2.out⟩

end Go.Proofs.Ytkjdlpbfalojdaa
