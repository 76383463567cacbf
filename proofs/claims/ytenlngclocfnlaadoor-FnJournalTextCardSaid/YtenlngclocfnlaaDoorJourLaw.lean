/- The law FnJournalText, walked. -/
import Derived.Test.YtenlngclocfnlaaDoorDrawJour
import Derived.Test.YtenlngclocfnlaaDoorSameDs
import Derived.Test.YtenlngclocfnlaaDoorJourI
import Derived.Test.YtenlngclocfnlaaDoorReadJI
import Derived.Test.YtenlngclocfnlaaDoorAlive
namespace Go.Proofs.YtenlngclocfnlaaDoor
open Go.RowKit
set_option linter.unusedVariables false
set_option maxRecDepth 100000

theorem journal_read {ds : List Dd} (h : textJ ds ≠ []) : readJ (textJ ds) = (ds, (textJ ds).length) := by
  rw [textJ_eq] at h ⊢
  by_cases ha : allText ds = true
  · rw [if_pos ha]; exact readJ_lines ds ha
  · rw [if_neg ha] at h; exact absurd rfl h
theorem journal_len (ds : List Dd) : (textJ ds).length ≤ 14 * ds.length := by
  rw [textJ_eq]
  split
  · exact linesJ_len ds
  · simp

set_option maxHeartbeats 4000000 in
theorem FnJournalText_walk {B : Nat} (v : Value) (bs : List Int) (w : World) (hm : MaxIs w) (h : Bytes B w v bs) :
    Calls Tryd.prog 7 #[v] w fun e w' => e = .returned (.bool true) ∧ Below w.heap.size w w' := by
  have hD0 := drawJournalText_any v bs w h
  obtain ⟨a0, cap0, rfl, _⟩ := id h.1
  rw [List.length_map] at hD0 ⊢
  clear h
  by_cases hbig : (1048576 : Int) < (bs.length : Int)
  · clear hD0
    go_enter Tryd.func7, Tryd.ntmps7
    go_wp2
    go_ret
    exact ⟨rfl, Below.refl _ _⟩
  · have HM := Lib.hid hm
    clear hm
    go_enter Tryd.func7, Tryd.ntmps7
    go_wp2_with fail
    refine hD0.mono ?_
    rintro e w1 ⟨ds, a1, c1, rfl, ho, h64, hl, hcl, hb1⟩
    have HB1 := Lib.hid hb1
    have HL1 := Lib.hid (ho.toDL h64)
    have hI := journalTextI_any _ ds w1 HL1.out (by omega)
    have HS := Lib.hid (fun W q => journalTextS_any (B := w.heap.size) (.slice a1 ds.length c1) ds W q (by omega))
    have HREAD := Lib.hid (journal_read (ds := ds))
    have hlen := journal_len ds
    have H64 := Lib.hid h64
    obtain ⟨T, hTT⟩ : ∃ T, T = textJ ds := ⟨_, rfl⟩
    rw [← hTT] at hI HS HREAD hlen
    unfold TextOut strV at hI
    unfold TextOut strV at HS
    clear hD0 ho h64 hcl hb1 hTT hbig
    go_wp2_with fail
    refine hI.mono ?_
    rintro e w2 ⟨rfl, hb2⟩
    have HB2 := Lib.hid (HB1.out.trans (hb2.mono HB1.out.size))
    have HL2 := Lib.hid (HL1.out.below hb2)
    have hS := HS.out w2 HL2.out
    clear hI hb2
    go_wp2_with fail
    refine hS.mono ?_
    rintro e w3 ⟨rfl, hb3⟩
    have HB3 := Lib.hid (HB2.out.trans (hb3.mono HB2.out.size))
    have HL3 := Lib.hid (HL2.out.below hb3)
    have hsame : (T == T) = true := by simp
    clear hS hb3
    by_cases hE : T = []
    · have hA := alive_any w3
      have hEE : (T == []) = true := by simp [hE]
      subst hE
      clear hlen
      go_wp2_with fail
      refine hA.mono ?_
      rintro e w5 ⟨rfl, rfl⟩
      clear hA
      go_wp2
      go_ret
      exact ⟨rfl, HB3.out⟩
    · have hEE : (T == []) = false := by simpa using hE
      have hI := readJI_any T w3 (by omega) (HM.out.below HB3.out)
      unfold JOut strV at hI
      rw [HREAD.out hE] at hI
      clear hE
      go_wp2_with fail
      refine hI.mono ?_
      rintro e w5 ⟨a5, k5, rfl, ho5, hb5⟩
      have HB5 := Lib.hid (HB3.out.trans (hb5.mono HB3.out.size))
      have HL5 := Lib.hid (HL3.out.below hb5)
      have hE := sameDeeds_self _ _ ds w5 (OwnD.toDL ho5 H64.out) HL5.out hb5.size HB5.out.size
      clear hI ho5 hb5
      try simp only at hE
      go_wp2_with fail
      refine hE.mono ?_
      rintro e w6 ⟨rfl, hb6⟩
      have HB6 := Lib.hid (HB5.out.trans (hb6.mono HB5.out.size))
      clear hE hb6
      go_wp2
      go_ret
      exact ⟨rfl, HB6.out⟩

end Go.Proofs.YtenlngclocfnlaaDoor
