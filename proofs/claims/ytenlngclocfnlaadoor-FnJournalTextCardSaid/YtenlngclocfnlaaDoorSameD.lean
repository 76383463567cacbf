/- Equal deeds are told equal. -/
import Derived.Test.YtenlngclocfnlaaDoorSameG
import Derived.Test.YtenlngclocfnlaaDoorReadI
namespace Go.Proofs.YtenlngclocfnlaaDoor
open Go.RowKit
set_option linter.unusedVariables false
set_option maxRecDepth 100000

theorem GL.one {B b : Nat} {w : World} {v : Value} {xs : List Int} {r n : Int} (hrow : w.heap[b]? = some (.cells #[v, .int .i64 r, .int .i64 n] 24 (0, 0))) (hI : Ints B w v xs) (hb : B ≤ b) : GL B w (.slice (some ⟨b, 0, none⟩) 1 1) [⟨xs, r, n⟩] := by
  refine ⟨some ⟨b, 0, none⟩, 1, fun _ => v, rfl, Nat.le_refl _, by omega, fun _ => ⟨b, 0, rfl, hb, fun i hi => ?_⟩, fun i hi => ?_⟩
  · have : i = 0 := by simpa using hi
    subst this
    refine ⟨?_, ?_, ?_⟩ <;> rw [cell_of_row _ _ _ _ _ _ hrow] <;> simp
  · have : i = 0 := by simpa using hi
    subst this
    exact hI

set_option maxHeartbeats 2000000 in
theorem sameDeed_self {B C : Nat} (b : Bool) (v v' : Value) (xs : List Int) (r n : Int) (w : World) (h : Ints B w v xs) (h' : Ints C w v' xs) (hB : B ≤ w.heap.size) (hC : C ≤ w.heap.size) :
    Calls Tryd.prog 22 #[.agg #[.bool b, v, .int .i64 r, .int .i64 n], .agg #[.bool b, v', .int .i64 r, .int .i64 n]] w fun e w' => e = .returned (.bool true) ∧ Below w.heap.size w w' := by
  obtain ⟨a, cap, rfl, _⟩ := id h.opened
  obtain ⟨a', cap', rfl, _⟩ := id h'.opened
  obtain ⟨w2, hw2⟩ : ∃ z, z = (w.alloc (.cells #[.bool b, .slice a xs.length cap, .int .i64 r, .int .i64 n] 26)).alloc (.cells #[.bool b, .slice a' xs.length cap', .int .i64 r, .int .i64 n] 26) := ⟨_, rfl⟩
  have hb2 : Below w.heap.size w w2 := by rw [hw2]; exact ((Below.refl _ _).alloc (Nat.le_refl _) _).alloc (by simp) _
  have hs2 : w2.heap.size = w.heap.size + 2 := by rw [hw2]; simp
  obtain ⟨w3, hw3⟩ : ∃ z, z = w2.alloc (.cells #[.slice a xs.length cap, .int .i64 r, .int .i64 n] 24) := ⟨_, rfl⟩
  have hb3 : Below w2.heap.size w2 w3 := by rw [hw3]; exact (Below.refl _ _).alloc (Nat.le_refl _) _
  have hs3 : w3.heap.size = w2.heap.size + 1 := by rw [hw3]; simp
  have hr3 : w3.heap[w2.heap.size]? = some (.cells #[.slice a xs.length cap, .int .i64 r, .int .i64 n] 24 (0, 0)) := by rw [hw3]; exact heap_alloc_new w2 _
  obtain ⟨w4, hw4⟩ : ∃ z, z = w3.alloc (.cells #[.slice a' xs.length cap', .int .i64 r, .int .i64 n] 24) := ⟨_, rfl⟩
  have hb4 : Below w3.heap.size w3 w4 := by rw [hw4]; exact (Below.refl _ _).alloc (Nat.le_refl _) _
  have hr4 : w4.heap[w3.heap.size]? = some (.cells #[.slice a' xs.length cap', .int .i64 r, .int .i64 n] 24 (0, 0)) := by rw [hw4]; exact heap_alloc_new w3 _
  have hr34 := (hb4.block _ (Array.getElem?_eq_some_iff.1 hr3).1).trans hr3
  have hE := sameGuesses_self _ _ _ w4 (GL.one hr34 (((h.below hb2).below hb3).below hb4) (by omega)) (GL.one hr4 (((h'.below hb2).below hb3).below hb4) (by omega))
  have HB4 := Lib.hid ((hb2.trans (hb3.mono hb2.size)).trans (hb4.mono (by omega)))
  have e1 : (b == b) = true := by simp
  subst hw4 hw3 hw2
  simp only [World.size_alloc] at hE
  clear h h' hb2 hb3 hb4 hr3 hr4 hr34 hs2 hs3
  go_enter Tryd.func22, Tryd.ntmps22
  go_wp2_with fail
  refine hE.mono ?_
  rintro e w5 ⟨rfl, hb5⟩
  have HB5 := Lib.hid (HB4.out.trans (hb5.mono (by first | exact HB4.out.size | omega)))
  clear hE hb5
  go_wp2
  go_ret
  exact ⟨rfl, HB5.out⟩

end Go.Proofs.YtenlngclocfnlaaDoor
