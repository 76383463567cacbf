/- Drawn deeds that have texts, and DrawJournalText. -/
import Derived.Test.YtenlngclocfnlaaDoorDrawRun
import Derived.Test.YtenlngclocfnlaaDoorHalfD
import Derived.Test.YtenlngclocfnlaaDoorTextS
namespace Go.Proofs.YtenlngclocfnlaaDoor
open Go.RowKit
set_option linter.unusedVariables false
set_option maxRecDepth 100000

/-- What a drawing of written deeds leaves. -/
def WDrawn (K : Nat) (a : Option Addr) (cap : Nat) (bs : List Int) (p : Int) (w : World) (e : Ending) (w' : World) : Prop :=
  ∃ (ds : List Dd) (a' : Option Addr) (c' : Nat), e = .returned (.slice a' ds.length c') ∧ OwnH w.heap.size w' (.slice a' ds.length c') ds ∧ In64D ds ∧ ds.length ≤ 5 ∧ (∀ d ∈ ds, d.code.length ≤ 10) ∧ Drew K a cap bs p 1000 w w'
/-- Two slices lie in different blocks. -/
def Apart2 (u v : Value) : Prop := ∀ j, u.ownBlock = some j → v.ownBlock = some j → False
theorem Apart2.ne {u v : Value} (h : Apart2 u v) : v.ownBlock = none ∨ v.ownBlock ≠ u.ownBlock := by
  rcases e : v.ownBlock with _ | j
  · exact .inl rfl
  · exact .inr fun e2 => h j e2.symm e
theorem Apart2.next {u v z : Value} {B : Nat} {w : World} {ds : List Dd} (h : Apart2 u z) (hv : v.ownBlock = u.ownBlock ∨ v.ownBlock = some w.heap.size) (ho : OwnH B w z ds) : Apart2 v z := by
  intro j e1 e2
  rcases hv with hv | hv
  · exact h j (hv.symm.trans e1) e2
  · rw [hv] at e1
    injection e1 with e1
    have := (ho.lt j e2).2
    omega
theorem mem_of_take {ds : List Dd} {k : Nat} {d : Dd} (h : d ∈ ds.take k) : d ∈ ds := List.mem_of_mem_take h

set_option maxHeartbeats 4000000 in
theorem written_any (w : World) (K : Nat) (a : Option Addr) (cap : Nat) (bs : List Int) (p : Int) (h : Rd w K a cap bs p) (hp : p ≤ 10000000) :
    Calls Tryd.prog 54 #[.pointer (some ⟨K, 0, none⟩)] w (WDrawn K a cap bs p w) := by
  have hKw := h.lt
  obtain ⟨w1, hw1⟩ : ∃ z, z = w.alloc (.cells #[] 26) := ⟨_, rfl⟩
  have hb1 : Below w.heap.size w w1 := by rw [hw1]; exact (Below.refl _ _).alloc (Nat.le_refl _) _
  have hO1 : OwnH w.heap.size w1 (.slice (some ⟨w.heap.size, 0, none⟩) 0 0) [] := by rw [hw1]; exact OwnH.lit w
  have hz1 : w1.heap.size = w.heap.size + 1 := by rw [hw1]; simp
  have hG := desk_any 0 w1 _ a cap bs p (h.below hb1) (by omega) (by omega) (by omega)
  have HO1 := Lib.hid hO1
  have HG1 := Lib.hid (grown_of_below hb1 (K := K))
  clear h hb1 hO1
  go_enter Tryd.func54, Tryd.ntmps54
  go_wp2_with fail
  rw [← hw1]
  clear hw1
  refine hG.mono ?_
  rintro e w2 ⟨x, c, gs, a', c', rfl, ho, h64, hl5, hx0, hx4, hc0, hc4, hcl, ⟨p2, hR2, hp2⟩, hg2⟩
  have hz2 := hg2.size
  have HO2 := Lib.hid (HO1.out.keep (Above.of_grown hg2 hKw))
  have HG2 := Lib.hid (grown_trans HG1.out hg2)
  have hD := deeds_any x c a' gs.length c' w2 _ a cap bs p2 hR2 (by omega) hx0 hx4 hc0 hc4
  clear hG ho h64 hcl hR2 hg2 HO1 HG1
  go_wp2_with fail
  refine hD.mono ?_
  rintro e w3 ⟨ds, a3, c3, rfl, ho3, h64, hl5d, h10, ⟨p3, hR3, hp3⟩, hg3⟩
  have hz3 := hg3.size
  have HO3 := Lib.hid (HO2.out.keep (Above.of_grown hg3 hKw))
  have HG3 := Lib.hid (grown_trans HG2.out hg3)
  have HL3 := Lib.hid ((ho3.toH).mono (show w.heap.size ≤ w2.heap.size by omega))
  have H64 := Lib.hid h64
  have H10 := Lib.hid h10
  have HR3 := Lib.hid hR3
  have HW3 := Lib.hid (show w.heap.size ≤ w3.heap.size by omega)
  have HAP := Lib.hid (show Apart2 (.slice (some ⟨w.heap.size, 0, none⟩) 0 0) (.slice a3 ds.length c3) from fun j e1 e2 => by
    have e3 : w.heap.size = j := by simpa [Value.ownBlock] using e1
    have := (ho3.toH.lt j e2).1
    omega)
  obtain ⟨N, hN⟩ : ∃ N, N = ds.length := ⟨_, rfl⟩
  have HN := Lib.hid hN
  rw [← hN] at hl5d HAP ⊢
  clear hD ho3 h64 h10 hR3 hg3 HO2 HG2 hN
  go_wp2
  go_loopw [3, 5] (fun s i wi => ∃ (k : Nat) (es : List Dd) (ao : Option Addr) (co : Nat), k ≤ N ∧ i = .int .i64 k ∧ s = .slice ao es.length co ∧ es.length ≤ k ∧ OwnH w.heap.size wi (.slice ao es.length co) es ∧ OwnH w.heap.size wi (.slice a3 N c3) ds ∧ (∀ d ∈ es, d ∈ ds) ∧ Rd wi K a cap bs p3 ∧ w.grownBy wi (some K) ∧ w3.heap.size ≤ wi.heap.size ∧ Apart2 (.slice ao es.length co) (.slice a3 N c3)) (fun _ i _ => N - (intOf i).toNat)
  case atStart => exact ⟨0, [], _, 0, Nat.zero_le _, rfl, rfl, Nat.le_refl _, HO3.out, by rw [HN.out]; exact HL3.out, fun d hd => (by cases hd), HR3.out, HG3.out, Nat.le_refl _, HAP.out⟩
  case round =>
    obtain ⟨k, es, ao, co, hk, rfl, rfl, hek, hoe, hod, hsub, hR, hg, hzz, hap⟩ := hrel
    obtain ⟨wk, rfl⟩ : ∃ x, x = wr := ⟨_, rfl⟩
    have HAP := Lib.hid hap
    clear HO3 HL3 HR3 HG3 hap
    by_cases hlt : k < N
    · have hltd : k < ds.length := by rw [← HN.out]; exact hlt
      have hod' := hod
      rw [HN.out] at hod'
      obtain ⟨g, capg, he, hgB, hgl, _, _, _, hat⟩ := hod'.opened (by omega)
      injection he with he1 _ he3
      subst he1 he3
      obtain ⟨u, c0, c1, hou, c2, c3'⟩ := hat k hltd
      obtain ⟨au, cu, hu, hcu⟩ := own_shape hou
      clear hcu
      obtain ⟨y, hy⟩ : ∃ y, y = ds[k] := ⟨_, rfl⟩
      have hymem : y ∈ ds := by rw [hy]; exact List.getElem_mem hltd
      rw [← hy] at c0 c2 c3' hou hu
      subst hu
      have hT := deedTextS_any y.back _ y.code y.right y.near wk (OwnI.toInts hou (H64.out y hymem))
      have HY := Lib.hid hymem
      obtain ⟨T, hTT⟩ : ∃ T, T = textD ⟨y.back, y.code, y.right, y.near⟩ := ⟨_, rfl⟩
      rw [← hTT] at hT
      unfold TextOut strV dV at hT
      have HOE := Lib.hid hoe
      have HOD := Lib.hid hod
      have HOU := Lib.hid hou
      have HSUB := Lib.hid hsub
      have HR := Lib.hid hR
      have HG := Lib.hid hg
      have HC0 := Lib.hid c0
      have HC1 := Lib.hid c1
      have HC2 := Lib.hid c2
      have HC3 := Lib.hid c3'
      have hi0 : (0 : Int) ≤ (k : Int) := by omega
      have hi1 : (k : Int) < (N : Int) := by omega
      clear hod hod' hat hoe hou hsub hR hg hTT hy hymem
      clear hltd
      go_wp2_with fail
      refine hT.mono ?_
      rintro e w5 ⟨rfl, hb5⟩
      have hz5 := hb5.size
      have HOE5 := Lib.hid (HOE.out.below hb5)
      have HOD5 := Lib.hid (HOD.out.below hb5)
      have HOU5 := Lib.hid (OwnI.below HOU.out hb5)
      have HR5 := Lib.hid (HR.out.below hb5)
      have HG5 := Lib.hid (grown_trans HG.out (grown_of_below hb5 (K := K)))
      have q0 := (Above.of_below (B := 0) hb5).cell (Nat.zero_le _) HC0.out
      have q1 := (Above.of_below (B := 0) hb5).cell (Nat.zero_le _) HC1.out
      have q2 := (Above.of_below (B := 0) hb5).cell (Nat.zero_le _) HC2.out
      have q3 := (Above.of_below (B := 0) hb5).cell (Nat.zero_le _) HC3.out
      clear hT hb5 c0 c1 c2 c3'
      cases T with
      | nil =>
        clear q0 q1 q2 q3
        go_wp2
        go_roundw
        case rel => exact ⟨k + 1, es, ao, co, by omega, by go_num, rfl, by omega, HOE5.out, HOD5.out, HSUB.out, HR5.out, HG5.out, by omega, HAP.out⟩
        case measure => simp [intOf]; omega
      | cons t T =>
        have hbG : Below w5.heap.size w5 (w5.alloc (.cells #[.bool y.back, .slice au y.code.length cu, .int .i64 y.right, .int .i64 y.near] 26)) := (Below.refl _ _).alloc (Nat.le_refl _) _
        have HOA := Lib.hid (HOE5.out.below hbG)
        have HDA := Lib.hid (HOD5.out.below hbG)
        have HUA := Lib.hid (OwnI.below HOU5.out hbG)
        have HRA := Lib.hid (HR5.out.below hbG)
        have HGA := Lib.hid (grown_trans HG5.out (grown_of_below hbG (K := K)))
        have HCC := Lib.hid (heap_alloc_new w5 (.cells #[.bool y.back, .slice au y.code.length cu, .int .i64 y.right, .int .i64 y.near] 26))
        have HSZ := Lib.hid (show w3.heap.size + 1 ≤ (w5.alloc (.cells #[.bool y.back, .slice au y.code.length cu, .int .i64 y.right, .int .i64 y.near] 26)).heap.size by rw [World.size_alloc]; omega)
        have hes : es.length ≤ 5 := by omega
        clear hbG
        go_wp2_with (at_builtin; refine wpList_push_h (w5.alloc (.cells #[.bool y.back, .slice au y.code.length cu, .int .i64 y.right, .int .i64 y.near] 26)) rfl (.tmp 23) (.tmp 28) rfl w.heap.size (.slice ao es.length co) es rfl HOA.out w5.heap.size 1 (.slice au y.code.length cu) y rfl HCC.out HUA.out (by omega) (by have := HSZ.out; have := HW3.out; omega) ?_; intro a7 c7 w7 ho7 hg7 hb7; have HO7 := Lib.hid ho7; have HG7 := Lib.hid hg7; have HB7 := Lib.hid hb7; clear ho7 hg7 hb7)
        have HBLK := Lib.hid (show ∀ j, (Value.slice ao es.length co).ownBlock = some j → w.heap.size ≤ j from fun j hj => (HOA.out.lt j hj).1)
        have HD7 := Lib.hid (HDA.out.kept HOA.out HG7.out (Apart2.ne HAP.out))
        have HA7 := Lib.hid (Apart2.next (v := .slice a7 (es ++ [y]).length c7) HAP.out (HB7.out.imp (fun h => by simpa using h) (fun h => by simpa using h)) HDA.out)
        go_roundw
        case rel => exact ⟨k + 1, es ++ [y], a7, c7, by omega, by go_num, by simp, by simp; omega, by simpa using HO7.out, HD7.out, fun d hd => by
            rcases List.mem_append.1 hd with hd | hd
            · exact HSUB.out d hd
            · simp only [List.mem_singleton] at hd; subst hd; exact HY.out, rd_grown HRA.out HG7.out (fun j hj => by have := HBLK.out j hj; omega), HGA.out.andThen HG7.out (fun j hj => .inl (HBLK.out j hj)), by have := HSZ.out; have := HG7.out.size; omega, HA7.out⟩
        case measure => simp [intOf]; omega
    · have HF := Lib.hid (show WDrawn K a cap bs p w (.returned (.slice ao es.length co)) wk from
        ⟨es, ao, co, rfl, hoe, fun d hd => H64.out d (hsub d hd), by omega, fun d hd => H10.out d (hsub d hd), ⟨p3, hR, by omega⟩, hg⟩)
      clear hoe hod hsub hR hg
      go_wp2
      go_ret
      exact HF.out

/-- A drawn list of deeds. -/
def JDOut (w : World) (e : Ending) (w' : World) : Prop :=
  ∃ (ds : List Dd) (a : Option Addr) (c : Nat), e = .returned (.slice a ds.length c) ∧ OwnH w.heap.size w' (.slice a ds.length c) ds ∧ In64D ds ∧ ds.length ≤ 6 ∧ (∀ d ∈ ds, d.code.length ≤ 10) ∧ Below w.heap.size w w'

set_option maxHeartbeats 4000000 in
theorem drawJournalText_any {B : Nat} (v : Value) (bs : List Int) (w : World) (h : Bytes B w v bs) :
    Calls Tryd.prog 24 #[v] w (JDOut w) := by
  obtain ⟨a0, cap0, rfl, _⟩ := id h.1
  rw [List.length_map] at h ⊢
  have hO := open_any _ bs w h
  clear h
  go_enter Tryd.func24, Tryd.ntmps24
  go_wp2_with fail
  refine hO.mono ?_
  rintro e w2 ⟨a, cap, bs1, rfl, hR2, hb2⟩
  have HB2 := Lib.hid hb2
  have hz2 := hb2.size
  have hK2 := hR2.lt
  have hW := written_any w2 _ a cap bs1 0 hR2 (by omega)
  clear hO hb2 hR2
  go_wp2_with fail
  refine hW.mono ?_
  rintro e w3 ⟨ds, a3, c3, rfl, ho3, h64, hl5, h10, ⟨p3, hR3, hp3⟩, hg3⟩
  have hz3 := hg3.size
  have HB3 := Lib.hid (HB2.out.grown hg3 HB2.out.size (fun j hj => by cases hj; omega))
  have HO3 := Lib.hid ho3
  have H64 := Lib.hid h64
  have H10 := Lib.hid h10
  have hq := odd_any 12 w3 _ a cap bs1 p3 hR3 (by omega) (by unfold In64; omega)
  clear hW ho3 h64 h10 hR3 hg3
  go_wp2_with fail
  refine hq.mono ?_
  rintro e w4 ⟨o, rfl, _, hg4⟩
  have hz4 := hg4.size
  have HB4 := Lib.hid (HB3.out.grown hg4 HB3.out.size (fun j hj => by cases hj; omega))
  have HO4 := Lib.hid (HO3.out.keep (Above.of_grown hg4 hK2))
  clear hq hg4
  cases o
  · go_wp2
    go_ret
    exact ⟨ds, a3, c3, rfl, HO4.out.mono HB2.out.size, H64.out, by omega, H10.out, HB4.out⟩
  · have hbG : Below w4.heap.size w4 (w4.alloc (.cells #[.bool false, .slice none 0 0, .int .i64 0, .int .i64 0] 26)) := (Below.refl _ _).alloc (Nat.le_refl _) _
    have HOA := Lib.hid (HO4.out.below hbG)
    have HBA := Lib.hid (HB4.out.trans (hbG.mono HB4.out.size))
    have HCC := Lib.hid (heap_alloc_new w4 (.cells #[.bool false, .slice none 0 0, .int .i64 0, .int .i64 0] 26))
    have HSZ := Lib.hid (show w2.heap.size ≤ (w4.alloc (.cells #[.bool false, .slice none 0 0, .int .i64 0, .int .i64 0] 26)).heap.size by rw [World.size_alloc]; omega)
    clear hbG
    go_wp2_with (at_builtin; refine wpList_push_h (w4.alloc (.cells #[.bool false, .slice none 0 0, .int .i64 0, .int .i64 0] 26)) rfl (.tmp 11) (.tmp 13) rfl w2.heap.size (.slice a3 ds.length c3) ds rfl HOA.out w4.heap.size 1 (.slice none 0 0) ⟨false, [], 0, 0⟩ rfl HCC.out (OwnI.empty _ _) (by omega) HSZ.out ?_; intro a7 c7 w7 ho7 hg7 hb7; have HO7 := Lib.hid ho7; have HB7 := Lib.hid (HBA.out.grown hg7 (by have := HSZ.out; omega) (fun j hj => by have := (HOA.out.lt j hj).1; omega)); clear ho7 hg7 hb7)
    go_ret
    refine ⟨ds ++ [⟨false, [], 0, 0⟩], a7, c7, by simp, by simpa using HO7.out.mono HB2.out.size, fun d hd => ?_, by simp; omega, fun d hd => ?_, HB7.out⟩
    · rcases List.mem_append.1 hd with hd | hd
      · exact H64.out d hd
      · simp only [List.mem_singleton] at hd; subst hd; simp
    · rcases List.mem_append.1 hd with hd | hd
      · exact H10.out d hd
      · simp only [List.mem_singleton] at hd; subst hd; simp

end Go.Proofs.YtenlngclocfnlaaDoor
