/- The walk of FnExactJournalText. -/
import Derived.Test.YtjecolbodelniaaJourI
import Derived.Test.YtjecolbodelniaaDeedS
namespace Go.Proofs.Ytjecolbodelniaa
open Go.RowKit
set_option linter.unusedVariables false
set_option maxRecDepth 100000

theorem szD_small {ds : List Dd} (hs : 0 ≤ szSS (ds.map Dd.code) 1048576) : ds.length ≤ 2000000 ∧ ∀ d ∈ ds, d.code.length ≤ 2000000 := by
  have hb := szSS_bound hs (by omega)
  rw [List.length_map] at hb
  refine ⟨by omega, fun g hg => ?_⟩
  have := tot_mem (List.mem_map_of_mem (f := Dd.code) hg)
  omega

set_option maxHeartbeats 2000000 in
theorem FnExactJournalText_walk (vl : Value) (ds : List Dd) (w : World) (h : DL 0 w vl ds) :
    Calls Try.prog 8 #[vl] w fun e w' => e = .returned (.bool true) ∧ Below w.heap.size w w' := by
  have HL := Lib.hid h
  have H64 := Lib.hid h.in64
  obtain ⟨au, cu, rfl, _⟩ := h.shape
  have hS := szDeedS_any _ ds 1048576 w h (by omega) (by omega)
  obtain ⟨r1, hr1⟩ : ∃ q, q = szSS (ds.map Dd.code) 1048576 := ⟨_, rfl⟩
  rw [← hr1] at hS
  have HR1 := Lib.hid hr1
  clear h hr1
  go_enter Try.func8, Try.ntmps8
  go_wp2_with fail
  refine hS.mono ?_
  rintro e w1 ⟨rfl, hb1⟩
  have HB := Lib.hid hb1
  clear hS hb1
  by_cases hs1 : r1 < 0
  · go_wp2
    go_ret
    exact ⟨rfl, HB.out⟩
  obtain ⟨hdl, hdc⟩ := szD_small (ds := ds) (by rw [← HR1.out]; omega)
  have HTE := Lib.hid (show ∀ W, Below w.heap.size w W → Calls Try.prog 31 #[.slice au ds.length cu] W (FreshD ds W) from fun W q => toDeedS_any _ ds W (HL.out.below q) hdl (fun d hd => Nat.le_trans (hdc d hd) (by omega)))
  have HEE := Lib.hid (fun (B C : Nat) (v v' : Value) (W : World) (q1 : DL B W v ds) (q2 : DL C W v' ds) => eqDeedS_self v v' ds W q1 q2)
  have HJS := Lib.hid (fun (B : Nat) (v : Value) (W : World) (q : OwnD B W v ds) => journalTextS_any v ds W (q.toDL H64.out) hdl)
  have HJI := Lib.hid (fun (B : Nat) (v : Value) (W : World) (q : OwnD B W v ds) => journalTextI_any v ds W (q.toDL H64.out) hdl)
  obtain ⟨L, hL⟩ : ∃ L, L = textJ ds := ⟨_, rfl⟩
  rw [← hL] at HJS HJI
  clear hL hdc
  go_wp2_with fail
  refine (HTE.out _ HB.out).mono ?_
  rintro e w2 ⟨a2, c2, rfl, ho2, hb2⟩
  replace HB := Lib.hid (HB.out.trans (hb2.mono HB.out.size))
  go_wp2_with fail
  refine (HJS.out _ _ w2 ho2).mono ?_
  rintro e w3 ⟨rfl, hb3⟩
  replace HB := Lib.hid (HB.out.trans (hb3.mono HB.out.size))
  clear ho2 hb2 hb3
  unfold strV
  go_wp2_with fail
  refine (HTE.out _ HB.out).mono ?_
  rintro e w4 ⟨a4, c4, rfl, ho4, hb4⟩
  replace HB := Lib.hid (HB.out.trans (hb4.mono HB.out.size))
  go_wp2_with fail
  refine (HJI.out _ _ w4 ho4).mono ?_
  rintro e w5 ⟨rfl, hb5⟩
  replace HB := Lib.hid (HB.out.trans (hb5.mono HB.out.size))
  have HO := Lib.hid (ho4.below hb5)
  clear ho4 hb4 hb5
  unfold strV
  go_wp2_with fail
  refine (HTE.out _ HB.out).mono ?_
  rintro e w6 ⟨a6, c6, rfl, ho6, hb6⟩
  replace HB := Lib.hid (HB.out.trans (hb6.mono HB.out.size))
  replace HO := Lib.hid (HO.out.below hb6)
  have HO6 := Lib.hid ho6
  clear ho6 hb6
  go_wp2_with fail
  refine (HEE.out _ _ _ _ w6 (HO.out.toDL H64.out) (HO6.out.toDL H64.out)).mono ?_
  rintro e w7 ⟨rfl, hb7⟩
  replace HB := Lib.hid (HB.out.trans (hb7.mono HB.out.size))
  clear hb7
  go_wp2
  go_ret
  exact ⟨rfl, HB.out⟩

end Go.Proofs.Ytjecolbodelniaa
