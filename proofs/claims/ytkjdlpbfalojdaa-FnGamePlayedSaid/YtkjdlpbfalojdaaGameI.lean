/- The program's GamePlayed. -/
import Derived.Test.YtkjdlpbfalojdaaGameS
import Derived.Test.YtkjdlpbfalojdaaNextI
namespace Go.Proofs.Ytkjdlpbfalojdaa
open Go.RowKit
set_option linter.unusedVariables false
set_option maxRecDepth 100000

set_option maxHeartbeats 4000000 in
theorem gameI_any {B : Nat} (p c : Int) (u : Value) (x : List Int) (w : World) (hx : Ints B w u x) :
    Calls Try.prog 48 #[.int .i64 p, .int .i64 c, u] w (PlayedG p c x w) := by
  have hC := codeOkI_any p c u x w hx
  have HX := Lib.hid hx
  obtain ⟨au, cu, rfl, _⟩ := hx.opened
  cases hk : codeOkB p c x
  · rw [hk] at hC
    have HE := Lib.hid (show gameL p c x = [] by unfold gameL; rw [hk]; rfl)
    clear hk hx
    unfold PlayedG
    rw [HE.out]
    go_enter Try.func48, Try.ntmps48
    go_wp2_with fail
    refine hC.mono ?_
    rintro e w1 ⟨rfl, hb1⟩
    have HB1 := Lib.hid hb1
    clear hC hb1
    go_wp2
    go_ret
    exact ⟨_, _, rfl, OwnG.empty _ _, HB1.out⟩
  · rw [hk] at hC
    have hcp := codeOkB_iff.1 hk
    obtain ⟨n, m, rfl, rfl, hn3, hm5⟩ := own_nat hcp.1
    have HCP := Lib.hid hcp
    have HE := Lib.hid (show gameL n m x = gameK n m x 9 [] by unfold gameL; rw [hk]; rfl)
    clear hk hx hcp
    go_enter Try.func48, Try.ntmps48
    go_wp2_with fail
    refine hC.mono ?_
    rintro e w1 ⟨rfl, hb1⟩
    have HB1 := Lib.hid hb1
    clear hC hb1
    go_wp2
    go_loopw [7] (fun v wr => ∃ (out : List Gs) (a : Option Addr) (cap : Nat), GameInv n m x out ∧ out.length ≤ 9 ∧ gameK n m x (9 - out.length) out = gameL n m x ∧ v = .slice a out.length cap ∧ OwnG w.heap.size wr v out ∧ Below w.heap.size w wr) (fun v _ => 9 - lenV v)
    case atStart => exact ⟨[], _, _, GameInv.start _ _ _, by simp, HE.out.symm, rfl, OwnG.empty _ _, HB1.out⟩
    case round =>
      obtain ⟨out, a, cap, hinv, hle, hgk, rfl, ho, hb⟩ := hrel
      obtain ⟨wk, rfl⟩ : ∃ x, x = wr := ⟨_, rfl⟩
      clear HB1 HE
      by_cases hlt : out.length < 9
      · rw [gameK_step hlt] at hgk
        have hN := nextI_any n m _ out wk (ho.toGL (game_in64 hinv))
        have hnx := hinv.next HCP.out hle
        have hinv' := hinv.step HCP.out hle
        have hpos : decide (0 < (fitL n m out).length) = true := decide_eq_true (List.length_pos_of_mem hnx.1)
        unfold NextOut at hN
        rw [hpos] at hN
        have hst : stepG n m x out = ⟨nextL (fitL n m out), rightZ x (nextL (fitL n m out)), nearZ x (nextL (fitL n m out))⟩ := rfl
        obtain ⟨l, hl⟩ : ∃ l, l = nextL (fitL n m out) := ⟨_, rfl⟩
        rw [← hl] at hN hnx hst
        rw [hst] at hgk hinv'
        have HGK := Lib.hid hgk
        have HINV := Lib.hid hinv'
        have HCL := Lib.hid hnx.2
        have HO := Lib.hid ho
        have HB := Lib.hid hb
        have hzk := hb.size
        have hlt' : (out.length : Int) < 9 := by omega
        clear hgk hinv hinv' hnx hst hl hpos ho hb
        go_wp2_with fail
        refine hN.mono ?_
        rintro e w2 ⟨a2, c2, rfl, hu2, hb2⟩
        have hx2 := HX.out.below (HB.out.trans (hb2.mono HB.out.size))
        have h5x : ∀ y ∈ x, 0 ≤ y ∧ y < 5 := fun y hy => by have h1 := HCP.out.2.2 y hy; have h2 := HCP.out.1.2.2; omega
        have h5l : ∀ y ∈ l, 0 ≤ y ∧ y < 5 := fun y hy => by have h1 := HCL.out.2.2 y hy; have h2 := HCL.out.1.2.2; omega
        have hA := answerI_any _ _ x l w2 hx2 (hu2.toInts (code_in64 HCL.out)) (by have h1 := HCP.out.2.1; have h2 := HCL.out.2.1; omega) (by have := HCP.out.2.1; omega) h5x h5l
        clear h5x h5l
        have HU2 := Lib.hid hu2
        have HB2 := Lib.hid hb2
        have hz2 := hb2.size
        clear hN hu2 hb2 hx2
        go_wp2_with fail
        refine hA.mono ?_
        rintro e w3 ⟨rfl, hb3⟩
        obtain ⟨r, hr⟩ : ∃ r, r = rightZ x l := ⟨_, rfl⟩
        obtain ⟨nr, hnr⟩ : ∃ nr, nr = nearZ x l := ⟨_, rfl⟩
        rw [← hr, ← hnr] at HGK HINV ⊢
        obtain ⟨w4, hw4⟩ : ∃ w4, w4 = w3.alloc (.cells #[.int .i64 r, .int .i64 nr] 100) := ⟨_, rfl⟩
        have hz4 : w4.heap.size = w3.heap.size + 1 := by rw [hw4]; simp
        have hb4 : Below wk.heap.size wk w4 := by rw [hw4]; exact (HB2.out.trans (hb3.mono hz2)).alloc (Nat.le_trans hz2 hb3.size) _
        have hu4 : OwnI wk.heap.size w4 (.slice a2 l.length c2) l := by rw [hw4]; exact (HU2.out.below hb3).below ((Below.refl _ w3).alloc (Nat.le_refl _) _)
        have hbA : Below wk.heap.size wk (w4.alloc (.cells #[.slice a2 l.length c2, .int .i64 r, .int .i64 nr] 69)) := hb4.alloc hb4.size _
        have huA := hu4.below ((Below.refl _ w4).alloc (Nat.le_refl _) (.cells #[.slice a2 l.length c2, .int .i64 r, .int .i64 nr] 69))
        have HOA := Lib.hid (HO.out.below hbA)
        have HDI := Lib.hid (guess_old HO.out hbA huA)
        have HUA := Lib.hid (huA.mono hzk)
        have HBA := Lib.hid (HB.out.trans (hbA.mono hzk))
        have HRW := Lib.hid (heap_alloc_new w4 (.cells #[.slice a2 l.length c2, .int .i64 r, .int .i64 nr] 69))
        have hcc := row3_cells HRW.out
        rw [hz4] at hcc
        have HLO := Lib.hid (show ∀ k, (Value.slice a out.length cap).ownBlock = some k → w.heap.size ≤ k from fun k hk => (HO.out.lt k hk).1)
        have HLT := Lib.hid (show ∀ k, (Value.slice a out.length cap).ownBlock = some k → k < wk.heap.size from fun k hk => (HO.out.lt k hk).2)
        have HSZ := Lib.hid (HBA.out.size)
        have hA3 : w4.heap[w3.heap.size]? = some (.cells #[.int .i64 r, .int .i64 nr] 100 (0, 0)) := by rw [hw4]; exact heap_alloc_new w3 _
        have hA4 : (w4.alloc (.cells #[.slice a2 l.length c2, .int .i64 r, .int .i64 nr] 69)).heap[w3.heap.size]? = some (.cells #[.int .i64 r, .int .i64 nr] 100 (0, 0)) := by rw [heap_alloc_old _ _ (by omega)]; exact hA3
        have hgA : w3.heap.size < (w4.alloc (.cells #[.slice a2 l.length c2, .int .i64 r, .int .i64 nr] 69)).heap.size := by rw [World.size_alloc]; omega
        subst hw4
        have HCC := Lib.hid hcc
        have HA4 := Lib.hid hA4
        have HGA := Lib.hid hgA
        have HK3 := Lib.hid (Nat.le_trans hz2 hb3.size)
        clear hcc hA4 hgA
        clear hA hr hnr hb3 hb4 hu4 hbA huA hA3 hz4
        by_cases hrp : r = (n : Int)
        · have hbe : (r == (n : Int)) = true := by rw [hrp]; simp
          have HF := Lib.hid (show out ++ [⟨l, r, nr⟩] = gameL n m x by have := HGK.out; rwa [if_pos hrp] at this)
          clear hrp
          go_wp2_with (at_builtin; refine wpList_push_g ((w3.alloc (.cells #[.int .i64 r, .int .i64 nr] 100)).alloc (.cells #[.slice a2 l.length c2, .int .i64 r, .int .i64 nr] 69)) rfl (.tmp 29) (.tmp 36) rfl w.heap.size (.slice a out.length cap) out rfl HOA.out (w3.heap.size + 1) 1 (.slice a2 l.length c2) ⟨l, r, nr⟩ rfl HCC.out HUA.out HDI.out (by omega) HSZ.out ?_; intro a6 c6 w6 ho6 hg6; have HO6 := Lib.hid ho6; have HG6 := Lib.hid hg6; have hx6 := (hg6.block w3.heap.size HGA.out (fun e => by have h1 := HLT.out _ e.symm; have h2 := HK3.out; omega)).trans HA4.out; have d0 := cell_of_row _ _ 0 _ _ (0, 0) hx6; simp only [List.getElem?_toArray, List.getElem?_cons_zero] at d0; clear ho6 hg6 hx6)
          have HB6 := Lib.hid (HBA.out.grown HG6.out HSZ.out HLO.out)
          go_ret
          unfold PlayedG
          rw [← HF.out, List.length_append]
          exact ⟨a6, c6, rfl, HO6.out, HB6.out⟩
        · have hbe : (r == (n : Int)) = false := by simpa using hrp
          have HF := Lib.hid (show gameK n m x (9 - (out ++ [(⟨l, r, nr⟩ : Gs)]).length) (out ++ [(⟨l, r, nr⟩ : Gs)]) = gameL n m x by have := HGK.out; rwa [if_neg hrp] at this)
          clear hrp
          go_wp2_with (at_builtin; refine wpList_push_g ((w3.alloc (.cells #[.int .i64 r, .int .i64 nr] 100)).alloc (.cells #[.slice a2 l.length c2, .int .i64 r, .int .i64 nr] 69)) rfl (.tmp 29) (.tmp 36) rfl w.heap.size (.slice a out.length cap) out rfl HOA.out (w3.heap.size + 1) 1 (.slice a2 l.length c2) ⟨l, r, nr⟩ rfl HCC.out HUA.out HDI.out (by omega) HSZ.out ?_; intro a6 c6 w6 ho6 hg6; have HO6 := Lib.hid ho6; have HG6 := Lib.hid hg6; have hx6 := (hg6.block w3.heap.size HGA.out (fun e => by have h1 := HLT.out _ e.symm; have h2 := HK3.out; omega)).trans HA4.out; have d0 := cell_of_row _ _ 0 _ _ (0, 0) hx6; simp only [List.getElem?_toArray, List.getElem?_cons_zero] at d0; clear ho6 hg6 hx6)
          have HB6 := Lib.hid (HBA.out.grown HG6.out HSZ.out HLO.out)
          go_roundw
          case rel => exact ⟨out ++ [⟨l, r, nr⟩], a6, c6, HINV.out, by rw [List.length_append, List.length_singleton]; omega, HF.out, by rw [List.length_append]; rfl, HO6.out, HB6.out⟩
          case measure => simp only [lenV]; omega
      · have e : 9 - out.length = 0 := by omega
        rw [e, gameK] at hgk
        subst hgk
        have HO := Lib.hid ho
        have HB := Lib.hid hb
        have hge : ¬ ((gameL n m x).length : Int) < 9 := by omega
        clear ho hb hinv
        go_wp2
        go_ret
        exact ⟨a, cap, rfl, HO.out, HB.out⟩

end Go.Proofs.Ytkjdlpbfalojdaa
