/- The reading of a deed as an argument. -/
import Derived.Test.YtjecolbodelniaaFrameG
import Derived.Test.YtjecolbodelniaaBunF
namespace Go.Proofs.Ytjecolbodelniaa
open Go.ChangeShapes Go.WideShapes Go.ChangeAt Go.RowKit
set_option linter.unusedVariables false
set_option maxRecDepth 100000

section
variable {H : Type} {enc : TypeId × Value → H} {W : World} {base : Nat} {held : Bool} {v : Value} {d : DataW H} {p : List MemPlace}

theorem bool_of_cell {n : Nat} {V : Value} {y : DataW H × List MemPlace} (h : DataW.trod enc Try.prog W 0 (fun _ => true) held n 4 [V] = some y) : ∃ b, V = .bool b := by
  cases n with
  | zero => simp [DataW.trod] at h
  | succ n =>
    unfold DataW.trod at h
    rw [Try.underlying4] at h
    cases V <;> simp_all

theorem deed_of_trod {r : Reach} {b0 : Nat} (hv : Value.okWide Try.prog W r b0 46 v) (h : DataW.Trod enc Try.prog W 0 (fun _ => true) held 46 v d p) :
    ∃ b u x ri ne, v = dV b u ri ne ∧ Ints 0 W u x := by
  obtain ⟨cs, rfl, hsz⟩ := okWide_struct Try.underlying46 hv
  have hC : Try.prog.cellsOf 46 = 4 := by kernel_rfl
  rw [hC] at hsz
  obtain ⟨fuel, hf⟩ := h
  obtain ⟨y0, y1, n, _, hl, h0, h1⟩ := trod_struct2 Try.underlying46 hf
  have c0 : Try.prog.cellsOf 4 = 1 := by kernel_rfl
  have c1 : Try.prog.cellsOf 44 = 3 := by kernel_rfl
  obtain ⟨l, rfl⟩ : ∃ l : List Value, cs = l.toArray := ⟨cs.toList, by simp⟩
  have hl4 : l.length = 4 := by simpa using hsz
  match l, hl4 with
  | [a, b, c, e], _ =>
    simp only [Value.cells, c0, c1, List.drop_zero, List.drop_succ_cons, List.take_succ_cons, List.take_zero] at h0 h1
    obtain ⟨t, rfl⟩ := bool_of_cell h0
    obtain ⟨V, x, r, nr, hg, hx⟩ := guess_of_cells h1
    injection hg with g1 g2
    injection g2 with g2 g3
    injection g3 with g3 _
    subst g1 g2 g3
    exact ⟨t, _, x, r, nr, rfl, hx⟩

end
end Go.Proofs.Ytjecolbodelniaa
