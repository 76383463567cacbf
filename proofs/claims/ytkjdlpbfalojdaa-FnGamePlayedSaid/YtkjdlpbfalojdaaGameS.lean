/- The reference's GamePlayed. -/
import Derived.Test.YtkjdlpbfalojdaaNextS
import Derived.Test.YtkjdlpbfalojdaaOwnG
namespace Go.Proofs.Ytkjdlpbfalojdaa
open Go.RowKit
set_option linter.unusedVariables false
set_option maxRecDepth 100000

theorem gameK_step {p c : Int} {x : List Int} {out : List Gs} (h : out.length < 9) :
    gameK p c x (9 - out.length) out = if (stepG p c x out).right = p then out ++ [stepG p c x out] else gameK p c x (9 - (out ++ [stepG p c x out]).length) (out ++ [stepG p c x out]) := by
  obtain ⟨k, hk⟩ : ∃ k, 9 - out.length = k + 1 := ⟨8 - out.length, by omega⟩
  have e : 9 - (out ++ [stepG p c x out]).length = k := by simp; omega
  rw [hk, gameK, e]
def lenV : Value → Nat
  | .slice _ n _ => n
  | _ => 0
theorem game_in64 {p c : Int} {x : List Int} {out : List Gs} (h : GameInv p c x out) : In64G out := fun g hg => by
  have := h.1 g hg
  unfold guessOkB at this
  rw [Bool.and_eq_true] at this
  exact code_in64 (codeOkB_iff.1 this.1)
theorem row3_cells {w : World} {g : Nat} {a b c : Value} {t : TypeId} (h : w.heap[g]? = some (.cells #[a, b, c] t (0, 0))) : w.cell? ⟨g, 0, none⟩ = some a ∧ w.cell? ⟨g, 1, none⟩ = some b ∧ w.cell? ⟨g, 2, none⟩ = some c := by
  refine ⟨?_, ?_, ?_⟩ <;> rw [cell_of_row _ _ _ _ _ _ h] <;> simp
/-- What GamePlayed returns. -/
def PlayedG (p c : Int) (x : List Int) (w : World) (e : Ending) (w' : World) : Prop :=
  ∃ a cap, e = .returned (.slice a (gameL p c x).length cap) ∧ OwnG w.heap.size w' (.slice a (gameL p c x).length cap) (gameL p c x) ∧ Below w.heap.size w w'

set_option maxHeartbeats 4000000 in
theorem gameS_any {B : Nat} (p c : Int) (u : Value) (x : List Int) (w : World) (hx : Ints B w u x) :
    Calls Try.prog 47 #[.int .i64 p, .int .i64 c, u] w (PlayedG p c x w) := by
  have hb0 : Below w.heap.size w (w.alloc (.cells #[] 69)) := (Below.refl _ _).alloc (Nat.le_refl _) _
  have hC := codeOkS_any p c u x _ (hx.below hb0)
  have HO0 := Lib.hid (OwnG.lit w)
  have HX := Lib.hid hx
  have HB0 := Lib.hid hb0
  obtain ⟨au, cu, rfl, _⟩ := hx.opened
  cases hk : codeOkB p c x
  · rw [hk] at hC
    have HE := Lib.hid (show gameL p c x = [] by unfold gameL; rw [hk]; rfl)
    clear hk hb0 hx
    unfold PlayedG
    rw [HE.out]
    go_enter Try.func47, Try.ntmps47
    go_wp2_with fail
    refine hC.mono ?_
    rintro e w1 ⟨rfl, rfl⟩
    clear hC
    go_wp2
    go_ret
    exact ⟨_, _, rfl, HO0.out, HB0.out⟩
  · rw [hk] at hC
    have hcp := codeOkB_iff.1 hk
    obtain ⟨n, m, rfl, rfl, hn3, hm5⟩ := own_nat hcp.1
    have HCP := Lib.hid hcp
    have HE := Lib.hid (show gameL n m x = gameK n m x 9 [] by unfold gameL; rw [hk]; rfl)
    clear hk hb0 hx hcp
    go_enter Try.func47, Try.ntmps47
    go_wp2_with fail
    refine hC.mono ?_
    rintro e w1 ⟨rfl, rfl⟩
    clear hC
    go_wp2
    go_loopw [7] (fun v wr => ∃ (out : List Gs) (a : Option Addr) (cap : Nat), GameInv n m x out ∧ out.length ≤ 9 ∧ gameK n m x (9 - out.length) out = gameL n m x ∧ v = .slice a out.length cap ∧ OwnG w.heap.size wr v out ∧ Below w.heap.size w wr) (fun v _ => 9 - lenV v)
    case atStart => exact ⟨[], _, _, GameInv.start _ _ _, by simp, HE.out.symm, rfl, HO0.out, HB0.out⟩
    case round =>
      obtain ⟨out, a, cap, hinv, hle, hgk, rfl, ho, hb⟩ := hrel
      obtain ⟨wk, rfl⟩ : ∃ x, x = wr := ⟨_, rfl⟩
      clear HO0 HB0 HE
      by_cases hlt : out.length < 9
      · rw [gameK_step hlt] at hgk
        have hN := nextS_any n m _ out wk (ho.toGL (game_in64 hinv))
        have hnx := hinv.next HCP.out hle
        have hinv' := hinv.step HCP.out hle
        have hpos : decide (0 < (fitL n m out).length) = true := decide_eq_true (List.length_pos_of_mem hnx.1)
        unfold NextOut at hN
        rw [hpos] at hN
        have hst : stepG n m x out = ⟨nextL (fitL n m out), rightZ x (nextL (fitL n m out)), nearZ x (nextL (fitL n m out))⟩ := rfl
        obtain ⟨l, hl⟩ : ∃ l, l = nextL (fitL n m out) := ⟨_, rfl⟩
        rw [← hl] at hN hnx hst
        rw [hst] at hgk hinv'
        have HGK := Lib.hid hgk
        have HINV := Lib.hid hinv'
        have HCL := Lib.hid hnx.2
        have HO := Lib.hid ho
        have HB := Lib.hid hb
        have hzk := hb.size
        have hlt' : (out.length : Int) < 9 := by omega
        clear hgk hinv hinv' hnx hst hl hpos ho hb
        go_wp2_with fail
        refine hN.mono ?_
        rintro e w2 ⟨a2, c2, rfl, hu2, hb2⟩
        have hx2 := HX.out.below (HB.out.trans (hb2.mono HB.out.size))
        have hA := answerS_ok n m _ _ x l w2 hx2 (hu2.toInts (code_in64 HCL.out)) HCP.out HCL.out
        have HU2 := Lib.hid hu2
        have HB2 := Lib.hid hb2
        have hz2 := hb2.size
        clear hN hu2 hb2 hx2
        go_wp2_with fail
        refine hA.mono ?_
        rintro e w3 ⟨rfl, hq⟩
        have hD : Drawn w2 w3 := hq
        obtain ⟨r, hr⟩ : ∃ r, r = rightZ x l := ⟨_, rfl⟩
        obtain ⟨nr, hnr⟩ : ∃ nr, nr = nearZ x l := ⟨_, rfl⟩
        rw [← hr, ← hnr] at HGK HINV ⊢
        have hb3 : Below wk.heap.size wk w3 := HB2.out.trans (hD.below.mono hz2)
        have hu3 := HU2.out.below hD.below
        have hbA : Below wk.heap.size wk (w3.alloc (.cells #[.slice a2 l.length c2, .int .i64 r, .int .i64 nr] 69)) := hb3.alloc hb3.size _
        have huA := hu3.below ((Below.refl _ w3).alloc (Nat.le_refl _) (.cells #[.slice a2 l.length c2, .int .i64 r, .int .i64 nr] 69))
        have HOA := Lib.hid (HO.out.below hbA)
        have HDI := Lib.hid (guess_old HO.out hbA huA)
        have HUA := Lib.hid (huA.mono hzk)
        have HBA := Lib.hid (HB.out.trans (hbA.mono hzk))
        have HRW := Lib.hid (heap_alloc_new w3 (.cells #[.slice a2 l.length c2, .int .i64 r, .int .i64 nr] 69))
        have HCC := Lib.hid (row3_cells HRW.out)
        have HLO := Lib.hid (show ∀ k, (Value.slice a out.length cap).ownBlock = some k → w.heap.size ≤ k from fun k hk => (HO.out.lt k hk).1)
        have HSZ := Lib.hid (HBA.out.size)
        clear hA hq hD hr hnr hb3 hu3 hbA huA
        by_cases hrp : r = (n : Int)
        · have hbe : (r == (n : Int)) = true := by rw [hrp]; simp
          have HF := Lib.hid (show out ++ [⟨l, r, nr⟩] = gameL n m x by have := HGK.out; rwa [if_pos hrp] at this)
          clear hrp
          go_wp2_with (at_builtin; refine wpList_push_g (w3.alloc (.cells #[.slice a2 l.length c2, .int .i64 r, .int .i64 nr] 69)) rfl (.tmp 40) (.tmp 45) rfl w.heap.size (.slice a out.length cap) out rfl HOA.out w3.heap.size 1 (.slice a2 l.length c2) ⟨l, r, nr⟩ rfl HCC.out HUA.out HDI.out (by omega) HSZ.out ?_; intro a6 c6 w6 ho6 hg6; have HO6 := Lib.hid ho6; have HG6 := Lib.hid hg6; clear ho6 hg6)
          have HB6 := Lib.hid (HBA.out.grown HG6.out HSZ.out HLO.out)
          go_ret
          unfold PlayedG
          rw [← HF.out, List.length_append]
          exact ⟨a6, c6, rfl, HO6.out, HB6.out⟩
        · have hbe : (r == (n : Int)) = false := by simpa using hrp
          have HF := Lib.hid (show gameK n m x (9 - (out ++ [(⟨l, r, nr⟩ : Gs)]).length) (out ++ [(⟨l, r, nr⟩ : Gs)]) = gameL n m x by have := HGK.out; rwa [if_neg hrp] at this)
          clear hrp
          go_wp2_with (at_builtin; refine wpList_push_g (w3.alloc (.cells #[.slice a2 l.length c2, .int .i64 r, .int .i64 nr] 69)) rfl (.tmp 40) (.tmp 45) rfl w.heap.size (.slice a out.length cap) out rfl HOA.out w3.heap.size 1 (.slice a2 l.length c2) ⟨l, r, nr⟩ rfl HCC.out HUA.out HDI.out (by omega) HSZ.out ?_; intro a6 c6 w6 ho6 hg6; have HO6 := Lib.hid ho6; have HG6 := Lib.hid hg6; clear ho6 hg6)
          have HB6 := Lib.hid (HBA.out.grown HG6.out HSZ.out HLO.out)
          go_roundw
          case rel => exact ⟨out ++ [⟨l, r, nr⟩], a6, c6, HINV.out, by rw [List.length_append, List.length_singleton]; omega, HF.out, by rw [List.length_append]; rfl, HO6.out, HB6.out⟩
          case measure => simp only [lenV]; omega
      · have e : 9 - out.length = 0 := by omega
        rw [e, gameK] at hgk
        subst hgk
        have HO := Lib.hid ho
        have HB := Lib.hid hb
        have hge : ¬ ((gameL n m x).length : Int) < 9 := by omega
        clear ho hb hinv
        go_wp2
        go_ret
        exact ⟨a, cap, rfl, HO.out, HB.out⟩

end Go.Proofs.Ytkjdlpbfalojdaa
