/- The exact law of ReadJournal, walked. -/
import Derived.Test.YtjecolbodelniaaDoorReadJS
import Derived.Test.YtjecolbodelniaaDoorHeldD
import Derived.Test.YtjecolbodelniaaDoorDeedS
namespace Go.Proofs.YtjecolbodelniaaDoor
open Go.RowKit
set_option linter.unusedVariables false
set_option maxRecDepth 100000

/-- What a reading of a journal leaves, in letters. -/
def RJ (ds : List Dd) (M : Int) (w : World) (e : Ending) (w' : World) : Prop :=
  ∃ a cap, e = .returned (.tuple #[.slice a ds.length cap, .int .i64 M]) ∧ OwnD w.heap.size w' (.slice a ds.length cap) ds ∧ Below w.heap.size w w'
theorem allText_small : ∀ ds : List Dd, allText ds = true → (∀ d ∈ ds, d.code.length ≤ 3 ∧ ∀ y ∈ d.code, In64 y) ∧ (totD ds : Int) ≤ 6 * ds.length ∧ ds.length ≤ (linesJ ds).length
  | [], _ => by simp [totD]
  | d :: ds, h => by
    obtain ⟨h1, h2⟩ := (allText_cons d ds).1 h
    obtain ⟨q1, q2, q3⟩ := allText_small ds h2
    have hd : d.code.length ≤ 3 ∧ ∀ y ∈ d.code, In64 y := by
      rcases textD_cases h1 with rfl | ⟨_, q, _⟩
      · simp [Dd.undo]
      · obtain ⟨⟨_, r1⟩, r2, _⟩ := textOk_iff.1 q
        exact ⟨by omega, fun y hy => by have := inB_iff.1 (List.all_eq_true.1 r2 y hy); unfold In64; omega⟩
    refine ⟨fun x hx => ?_, ?_, ?_⟩
    · rcases List.mem_cons.1 hx with rfl | hx
      · exact hd
      · exact q1 x hx
    · simp only [totD, List.length_cons]
      have := hd.1
      push_cast
      omega
    · rw [linesJ_cons]
      simp only [List.length_cons, List.length_append]
      omega
theorem readJ_form (l : List UInt8) : ∃ ds M, In64D ds ∧ (totD ds : Int) ≤ 6 * l.length ∧ ∀ w e w', JOut l w e w' → RJ ds M w e w' := by
  obtain ⟨h1, h2, h3⟩ := readJ_spec l.length l (Nat.le_refl _)
  obtain ⟨q1, q2, q3⟩ := allText_small _ h1
  refine ⟨(readJ l).1, ((readJ l).2 : Nat), fun x hx y hy => (q1 x hx).2 y hy, ?_, fun w e w' h => h⟩
  have : (linesJ (readJ l).1).length ≤ l.length := by rw [h3, List.length_take]; omega
  omega

set_option maxHeartbeats 4000000 in
theorem FnExactReadJournal_walk (l : List UInt8) (w : World) (hm : MaxIs w) :
    Calls Tryd.prog 4 #[strV l] w fun e w' => e = .returned (.bool true) ∧ Below w.heap.size w w' := by
  obtain ⟨ds, M, h64, htot, hform⟩ := readJ_form l
  unfold strV
  by_cases hbig : (1048576 : Int) < (l.length : Int)
  · go_enter Tryd.func4, Tryd.ntmps4
    go_wp2
    go_ret
    exact ⟨rfl, Below.refl _ _⟩
  · have hS : Calls Tryd.prog 13 #[.string ⟨l.toArray⟩] w (RJ ds M w) := (readJS_any l w (by omega)).mono (hform w)
    have HI := Lib.hid (show ∀ W, MaxIs W → Calls Tryd.prog 14 #[.string ⟨l.toArray⟩] W (RJ ds M W) from fun W q => (readJI_any l W (by omega) q).mono (hform W))
    have H64 := Lib.hid h64
    have HM := Lib.hid hm
    have hok : (M != M) = false := by simp
    have ht : (1 : Int) + totD ds ≤ 1099511627776 := by omega
    have hE0 : 0 ≤ endD ds 1 := by rw [endD_tot]; omega
    have H64M := Lib.hid (markDs_in64 ds 1 (by omega) ht)
    clear hform h64 hm htot
    go_enter Tryd.func4, Tryd.ntmps4
    go_wp2_with fail
    refine hS.mono ?_
    rintro e w1 ⟨a0, k0, rfl, ho0, hb1⟩
    have HB1 := Lib.hid hb1
    have HO0 := Lib.hid ho0
    have hI := HI.out w1 (HM.out.below HB1.out)
    clear hS ho0 hb1 hbig
    go_wp2_with fail
    refine hI.mono ?_
    rintro e w3 ⟨a1, k1, rfl, ho1, hb3⟩
    have HB13 := Lib.hid hb3
    have HO1 := Lib.hid ho1
    have HO03 := Lib.hid (HO0.out.below hb3)
    have hE := eqDeedS_self _ _ ds w3 (HO1.out.toDL H64.out) (HO03.out.toDL H64.out)
    clear hI ho1 hb3
    go_wp2_with fail
    refine hE.mono ?_
    rintro e w5 ⟨rfl, hb5⟩
    have HB15 := Lib.hid (HB13.out.trans (hb5.mono HB13.out.size))
    have hM := markDeedS_any (C := w3.heap.size) _ ds 1 w5 (HO1.out.below hb5) (HO1.out.low (.of_below hb5)) HB15.out.size (by omega) ht
    clear hE hb5
    go_wp2_with fail
    refine hM.mono ?_
    rintro e w6 ⟨rfl, ho6, hb6, _⟩
    have HB16 := Lib.hid (show Below w1.heap.size w1 w6 from HB15.out.trans hb6)
    have HBW6 := Lib.hid (HB1.out.trans (HB16.out.mono HB1.out.size))
    have HO6 := Lib.hid ho6
    have hD := heldDeedS_any _ ds 1 w6 (HO6.out.toDL H64M.out) (by omega) ht
    have hnn : ¬ (endD ds 1 < 0) := by omega
    clear hM ho6 hb6
    go_wp2_with fail
    refine hD.mono ?_
    rintro e w7 ⟨rfl, rfl⟩
    have hI := HI.out w6 (HM.out.below HBW6.out)
    clear hD
    go_wp2_with fail
    refine hI.mono ?_
    rintro e w8 ⟨a2, k2, rfl, ho2, hb8⟩
    have HB18 := Lib.hid (HB16.out.trans (hb8.mono HB16.out.size))
    have HBW8 := Lib.hid (HB1.out.trans (HB18.out.mono HB1.out.size))
    have HO8 := Lib.hid (HO6.out.below hb8)
    have HO08 := Lib.hid (HO0.out.below HB18.out)
    have hE := eqDeedS_self _ _ ds w8 (ho2.toDL H64.out) (HO08.out.toDL H64.out)
    clear hI ho2 hb8
    go_wp2_with fail
    refine hE.mono ?_
    rintro e w9 ⟨rfl, hb9⟩
    have HBW9 := Lib.hid (HBW8.out.trans (hb9.mono HBW8.out.size))
    have HO9 := Lib.hid (HO8.out.below hb9)
    have hD := heldDeedS_any _ ds 1 w9 (HO9.out.toDL H64M.out) (by omega) ht
    clear hE hb9
    go_wp2_with fail
    refine hD.mono ?_
    rintro e w10 ⟨rfl, rfl⟩
    clear hD
    go_wp2
    go_ret
    exact ⟨rfl, HBW9.out⟩

end Go.Proofs.YtjecolbodelniaaDoor
