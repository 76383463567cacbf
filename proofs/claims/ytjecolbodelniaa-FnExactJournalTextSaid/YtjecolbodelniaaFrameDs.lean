/- The reading of lists of deeds as arguments. -/
import Derived.Test.YtjecolbodelniaaFrameH
import Derived.Test.YtjecolbodelniaaOwnD
namespace Go.Proofs.Ytjecolbodelniaa
open Go.ChangeShapes Go.WideShapes Go.ChangeAt Go.RowKit
set_option linter.unusedVariables false
set_option maxRecDepth 100000

section
variable {H : Type} {enc : TypeId × Value → H} {W : World} {base : Nat} {held : Bool} {v : Value} {d : DataW H} {p : List MemPlace}

theorem deed_of_cells {n : Nat} {cs : List Value} {y : DataW H × List MemPlace} (h : DataW.trod enc Try.prog W 0 (fun _ => true) held n 46 cs = some y) :
    ∃ b V x r nr, cs = [.bool b, V, .int .i64 r, .int .i64 nr] ∧ Ints 0 W V x := by
  obtain ⟨y0, y1, k, _, hl, h0, h1⟩ := trod_struct2 Try.underlying46 h
  have hc : Try.prog.cellsOf 46 = 4 := by kernel_rfl
  rw [hc] at hl
  obtain ⟨a, b, c, e, rfl⟩ : ∃ a b c e, cs = [a, b, c, e] := by
    match cs, hl with
    | [a, b, c, e], _ => exact ⟨a, b, c, e, rfl⟩
  have c0 : Try.prog.cellsOf 4 = 1 := by kernel_rfl
  have c1 : Try.prog.cellsOf 44 = 3 := by kernel_rfl
  simp only [c0, c1, List.drop_zero, List.drop_succ_cons, List.take_succ_cons, List.take_zero] at h0 h1
  obtain ⟨t, rfl⟩ := bool_of_cell h0
  obtain ⟨V, x, r, nr, hg, hx⟩ := guess_of_cells h1
  injection hg with g1 g2
  injection g2 with g2 g3
  injection g3 with g3 _
  subst g1 g2 g3
  exact ⟨t, _, x, r, nr, rfl, hx⟩

theorem deeds_of_cell {n : Nat} {V : Value} {y : DataW H × List MemPlace} (h : DataW.trod enc Try.prog W 0 (fun _ => true) held n 60 [V] = some y) : ∃ ds, DL 0 W V ds := by
  rcases Go.Deep.open_slice Try.underlying60 h with ⟨hcs, _⟩ | ⟨a, len, cap, m, k, D, Pl, hcs, _, hl, hm, hmm, _, hx⟩
  · injection hcs with hcs _
    subst hcs
    exact ⟨[], DL.nil 0 W⟩
  · injection hcs with hcs _
    subst hcs
    have hlm : len ≤ m := by rw [hmm]; split <;> omega
    have hc : Try.prog.cellsOf 46 = 4 := by kernel_rfl
    have each : ∀ i, i < len → ∃ q : Value × Dd, W.cell? (a.add (i * 4)) = some (.bool q.2.back) ∧ W.cell? (a.add (i * 4 + 1)) = some q.1 ∧ W.cell? (a.add (i * 4 + 2)) = some (.int .i64 q.2.right) ∧ W.cell? (a.add (i * 4 + 3)) = some (.int .i64 q.2.near) ∧ Ints 0 W q.1 q.2.code := by
      intro i hi
      obtain ⟨cs', h1, h2⟩ := hx i (by omega)
      rw [hc] at h1
      obtain ⟨_, hlen, hcell⟩ := World.cells?_some h1
      obtain ⟨b, V, x, r, nr, rfl, hI⟩ := deed_of_cells h2
      have e0 := hcell 0 (by omega)
      have e1 := hcell 1 (by omega)
      have e2 := hcell 2 (by omega)
      have e3 := hcell 3 (by omega)
      rw [Go.Deep.add_add] at e0 e1 e2 e3
      exact ⟨(V, ⟨b, x, r, nr⟩), by simpa using e0, by simpa using e1, by simpa using e2, by simpa using e3, hI⟩
    haveI : Inhabited Dd := ⟨⟨false, [], 0, 0⟩⟩
    haveI : Inhabited (Value × Dd) := ⟨(undef, ⟨false, [], 0, 0⟩)⟩
    obtain ⟨q, hq⟩ := Go.Deep.choose_lt each
    refine ⟨(List.range len).map fun i => (q i).2, some a, cap, fun i => (q i).1, by simp, by simpa using hl, by simpa [maxLen] using hm, fun hp => ?_, fun i hi => ?_⟩
    · simp only [List.length_map, List.length_range] at hp
      obtain ⟨b, off, rfl⟩ := addr_none (by have := (hq 0 hp).1; rwa [Nat.zero_mul] at this)
      refine ⟨b, off, rfl, Nat.zero_le _, fun i hi => ?_⟩
      simp only [List.length_map, List.length_range] at hi
      obtain ⟨q0, q1, q2, q3, _⟩ := hq i hi
      rw [add_plain] at q0 q1 q2 q3
      simp only [List.getElem_map, List.getElem_range]
      exact ⟨q0, by rw [Nat.add_assoc]; exact q1, by rw [Nat.add_assoc]; exact q2, by rw [Nat.add_assoc]; exact q3⟩
    · simp only [List.length_map, List.length_range] at hi
      simp only [List.getElem_map, List.getElem_range]
      exact (hq i hi).2.2.2.2

theorem deeds_of_trod {a : Option Addr} {len cap : Nat} (h : DataW.Trod enc Try.prog W 0 (fun _ => true) held 60 (.slice a len cap) d p) : ∃ ds, DL 0 W (.slice a len cap) ds := by
  obtain ⟨fuel, hf⟩ := h
  exact deeds_of_cell (V := .slice a len cap) (by simpa [Value.cells] using hf)

end
end Go.Proofs.Ytjecolbodelniaa
