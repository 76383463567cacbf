/- PlayedOut of the program. -/
import Derived.Test.YtpeogghiboaceaaNextImpl
import Derived.Test.YtpeogghiboaceaaPlay
namespace Go.Proofs.Ytpeogghiboaceaa
open Go.RowKit
set_option linter.unusedVariables false
set_option maxRecDepth 100000

/-- A list and a truth, the list in new memory. -/
def PlayOut (xss : List (List Int)) (w : World) (e : Ending) (w' : World) : Prop :=
  ∃ l ok a cap, e = .returned (.tuple #[.slice a l.length cap, .bool ok]) ∧ PlayIs xss l ok ∧ OwnI w.heap.size w' (.slice a l.length cap) l ∧ Below w.heap.size w w'

theorem full_cast (xss : List (List Int)) (hn : xss.length ≤ 60) : wrap64 (wrap64 ((2 : Int) ^ xss.length) - 1) = (fullN xss : Nat) := by
  have := wrap_pow (n := (xss.length : Int)) (by omega) (by omega)
  simp only [Int.toNat_natCast] at this
  rw [this]
  have h1 : 1 ≤ 2 ^ xss.length := Nat.one_le_two_pow
  have e : (2 : Int) ^ xss.length = ((2 ^ xss.length : Nat) : Int) := by simp
  unfold fullN
  rw [e]; omega
theorem full_ok {xss : List (List Int)} : lotOk xss (fullN xss : Nat) = true := by
  have h1 : 1 ≤ 2 ^ xss.length := Nat.one_le_two_pow
  have e : (2 : Int) ^ xss.length = ((2 ^ xss.length : Nat) : Int) := by simp
  unfold lotOk inB fullN
  rw [e, decide_eq_true_eq]
  omega

set_option maxHeartbeats 4000000 in
theorem implPlayedOut_any {B : Nat} (v : Value) (xss : List (List Int)) (w : World) (h : Rows2 B w v xss) :
    Calls Try.prog 40 #[v] w (PlayOut xss w) := by
  have hA := implApartOk_any v xss w h
  have h0 := h
  obtain ⟨ad, cap, rfl, hcap, hmax, V, hcells, hV⟩ := h.opened
  cases hap : apartB xss
  · rw [hap] at hA
    have HP := Lib.hid (show PlayIs xss [] false from ⟨by unfold playR; rw [hap]; rfl, hap.symm⟩)
    clear hap hcells hV h h0
    go_enter Try.func40, Try.ntmps40
    go_wp2_with fail
    refine hA.mono ?_
    rintro e w2 ⟨rfl, hb2⟩
    have HB2 := Lib.hid hb2
    clear hb2
    go_wp2
    go_ret2
    exact ⟨[], false, none, 0, rfl, HP.out, OwnI.empty _ _, HB2.out⟩
  · rw [hap] at hA
    have hT := apartB_table hap
    have hn := tableB_len hT
    have hneed : 0 ≤ need xss (fullN xss) := by
      have := apart_need hT
      rw [hap] at this
      exact of_decide_eq_true this.symm
    have HPlay := Lib.hid (show PlayIs xss (playL xss (playN xss)) true from ⟨by unfold playR; rw [if_pos hap], hap.symm⟩)
    have hf := full_cast xss (by omega)
    have hn7 : (xss.length : Int) ≤ 7 := by omega
    have hfl := fullN_lt xss
    have hf7 := lot_128 hn.2 hfl
    have hokF : (tableB xss && lotOk xss (fullN xss : Nat)) = true := by rw [hT, full_ok]; rfl
    have HAp := Lib.hid hap
    clear hap hcells hV
    go_enter Try.func40, Try.ntmps40
    go_wp2_with fail
    refine hA.mono ?_
    rintro e w2 ⟨rfl, hb2⟩
    have hD := depthsOf_any _ xss (fullN xss : Nat) w2 (h.below hb2)
    rw [hokF] at hD
    have HB2 := Lib.hid hb2
    have HR2 := Lib.hid (h.below hb2)
    clear hb2 hA h h0 hokF
    go_wp2_with fail
    refine hD.mono ?_
    rintro e w3 ⟨hb3, he⟩
    rw [if_pos rfl] at he
    obtain ⟨bm, rfl, hm, hbm⟩ := he
    have HF := Lib.hid hf
    clear hf
    obtain ⟨w4, hw4⟩ : ∃ w4, w4 = w3.alloc (.cells #[.slice ad xss.length cap, .map (some bm)] 64) := ⟨_, rfl⟩
    have hb34 : Below w3.heap.size w3 w4 := by rw [hw4]; exact (Below.refl _ _).alloc (Nat.le_refl _) _
    have HB4 := Lib.hid (HB2.out.trans ((hb3.trans (hb34.mono hb3.size)).mono HB2.out.size))
    have HM4 := Lib.hid (hm.below hb34)
    have HR4 := Lib.hid (HR2.out.below (hb3.trans (hb34.mono hb3.size)))
    have hx0 : w4.cell? ⟨w3.heap.size, 0, none⟩ = some (.slice ad xss.length cap) := by rw [hw4]; exact cell_of_row _ _ 0 _ _ (0, 0) (heap_alloc_new w3 _)
    have hx1 : w4.cell? ⟨w3.heap.size, 1, none⟩ = some (.map (some bm)) := by rw [hw4]; exact cell_of_row _ _ 1 _ _ (0, 0) (heap_alloc_new w3 _)
    have HBm := Lib.hid (show w.heap.size ≤ bm by have := HB2.out.size; omega)
    clear hD hb3 hm hb34
    go_wp2
    rw [← hw4]
    clear hw4
    go_loopw [4, 7] (fun l o wr => ∃ k ao co, k ≤ playN xss ∧ l = .int .i64 (lotK xss k : Nat) ∧ o = .slice ao k co ∧ OwnI w4.heap.size wr (.slice ao k co) (playL xss k) ∧ Memo xss bm wr ∧ w4.grownBy wr (some bm)) (fun l _ _ => (need xss (intOf l).toNat).toNat)
    case atStart => exact ⟨0, none, 0, Nat.zero_le _, by rw [HF.out]; rfl, rfl, OwnI.empty _ _, HM4.out, World.grownBy.refl _ _⟩
    case round =>
      obtain ⟨k, ao, co, hk, rfl, rfl, ho, hmr, hgr⟩ := hrel
      have hlk := lotK_lt xss k
      have hnk := lotK_need hT hneed k hk
      have hN : (playN xss : Int) = need xss (fullN xss) := by unfold playN; omega
      have hy0 := HM4.out.cell hgr hx0
      have hy1 := HM4.out.cell hgr hx1
      have HRr := Lib.hid (HR4.out.cells (fun p u => HM4.out.cell hgr))
      have hrec := needed_any _ xss hT bm (lotK xss k + 1) (lotK xss k) (by omega) hlk wr HRr.out hmr
      have HO := Lib.hid ho
      have HMr := Lib.hid hmr
      have HGr := Lib.hid hgr
      have hgsz := hgr.size
      have hbm4 := HM4.out.lt
      obtain ⟨L, hL⟩ : ∃ L, L = lotK xss k := ⟨_, rfl⟩
      rw [← hL] at hlk hnk hrec ⊢
      have HL := Lib.hid hL
      clear ho hmr hgr hL
      go_wp2_with fail
      refine hrec.mono ?_
      rintro e w5 ⟨rfl, hm5, hg5⟩
      have hz0 := HMr.out.cell hg5 hy0
      have hz1 := HMr.out.cell hg5 hy1
      have HR5 := Lib.hid (HRr.out.cells (fun p u => HMr.out.cell hg5))
      have ho5 : OwnI w4.heap.size w5 (.slice ao k co) (playL xss k) := World.ownsRow.kept HO.out hg5 (.inr (fun e => by have := (World.ownsRow.lt HO.out _ e).1; omega))
      have HO5 := Lib.hid ho5
      have HM5 := Lib.hid hm5
      have HG5 := Lib.hid (grown_then HGr.out hg5)
      have hsz5 := hg5.size
      clear ho5 hm5 hg5 hrec hy0 hy1
      by_cases hlt : k < playN xss
      · have hpos : decide ((0 : Int) < need xss L) = true := by simp; omega
        have hone : 1 ≤ need xss L := by omega
        obtain ⟨r1, r2, r3, r4, r5, r6, r7, r8⟩ := play_round hT hlk hone
        have hAsk := ask_any _ xss hT bm L hlk w5 HR5.out HM5.out
        rw [r1] at hAsk
        have HNk := Lib.hid hnk
        have R1 := Lib.hid r1
        have R4 := Lib.hid r4
        have R7 := Lib.hid r7
        clear hnk r1 r3 r4 r6 r7 r8
        go_wp2_with fail
        refine hAsk.mono ?_
        rintro e w6 ⟨rfl, hm6, hg6⟩
        have hu0 := HM5.out.cell hg6 hz0
        have hu1 := HM5.out.cell hg6 hz1
        have HR6 := Lib.hid (HR5.out.cells (fun p u => HM5.out.cell hg6))
        have ho6 : OwnI w4.heap.size w6 (.slice ao k co) (playL xss k) := World.ownsRow.kept HO5.out hg6 (.inr (fun e => by have := (World.ownsRow.lt HO5.out _ e).1; omega))
        have HM6 := Lib.hid hm6
        have HG6 := Lib.hid (grown_then HG5.out hg6)
        have hsz6 := hg6.size
        clear hm6 hg6 hAsk hz0 hz1
        have ho7 : OwnI w4.heap.size (w6.alloc (.cells #[.int .i64 (askL xss L : Nat)] 3)) (.slice ao k co) (playL xss k) := World.ownsRow.alloc ho6 _
        have HLt := Lib.hid (World.ownsRow.lt ho7)
        have HPL := Lib.hid (playL_length xss k)
        have hN7 := playN_le hT
        have hB7 : w4.heap.size ≤ w6.heap.size := by have := HG6.out.size; omega
        have HO7 := Lib.hid ho7
        clear ho6 ho7 hu0 hu1
        have HL8 := Lib.hid (show ∀ w8, (w6.alloc (.cells #[.int .i64 (askL xss L : Nat)] 3)).grownBy w8 (Value.slice ao k co).ownBlock → w4.grownBy w8 (some bm) ∧ Memo xss bm w8 from fun w8 hg8 =>
          have h67 := grown_then HG6.out (grown_any (row := some bm) ((Below.refl w6.heap.size w6).alloc (Nat.le_refl _) (.cells #[.int .i64 (askL xss L : Nat)] 3)))
          ⟨h67.andThen hg8 (fun j e => .inl (HLt.out j e).1), (HM6.out.below ((Below.refl w6.heap.size w6).alloc (Nat.le_refl _) (.cells #[.int .i64 (askL xss L : Nat)] 3))).kept hg8 (fun e => by have := (HLt.out bm e.symm).1; omega)⟩)
        go_wp2_with (at_builtin; refine wpList_push_int _ rfl (.tmp 29) (.tmp 31) rfl w4.heap.size (.slice ao k co) (playL xss k) rfl HO7.out ⟨w6.heap.size, 0, none⟩ 1 (askL xss L : Nat) rfl (by simp) (by have := HPL.out; omega) (by simp; omega) ?_; intro a' cap' w8 ho8 hg8; (try rw [HPL.out] at ho8 ⊢); have HO8 := Lib.hid ho8; have HG8 := Lib.hid (HL8.out w8 hg8).1; have HM8 := Lib.hid (HL8.out w8 hg8).2; have hv0 := HM4.out.cell (HL8.out w8 hg8).1 hx0; have hv1 := HM4.out.cell (HL8.out w8 hg8).1 hx1; clear ho8 hg8)
        have HR8 := Lib.hid (HR4.out.cells (fun p u => HM4.out.cell HG8.out))
        have hWor := worst_any _ xss hT bm L (askL xss L) hlk r2 w8 HR8.out HM8.out
        rw [R4.out] at hWor
        go_wp2_with fail
        refine hWor.mono ?_
        rintro e w9 ⟨rfl, hm9, hg9⟩
        have HG9 := Lib.hid (grown_then HG8.out hg9)
        have HO9 := Lib.hid (show OwnI w4.heap.size w9 (.slice a' (k + 1) cap') (playL xss k ++ [((askL xss L : Nat) : Int)]) from World.ownsRow.kept HO8.out hg9 (.inr (fun e => by have := (World.ownsRow.lt HO8.out _ e).1; omega)))
        have HM9 := Lib.hid hm9
        have hLot := lotAfter_any _ xss L (askL xss L) (worL xss L : Nat) w9 (HR8.out.cells (fun p u => HM8.out.cell hg9)) hT hlk r2
        rw [show lotN (hitB xss L (askL xss L) (worL xss L : Nat)) xss.length = lotK xss (k + 1) by rw [lotK, nextL, ← HL.out]; rfl] at hLot
        clear hm9 hg9 hWor hv0 hv1
        go_wp2_with fail
        refine hLot.mono ?_
        rintro e w10 ⟨rfl, rfl⟩
        clear hLot
        have HL0 := Lib.hid (show need xss (lotK xss (k + 1)) = need xss L - 1 by rw [lotK, ← HL.out]; exact R7.out)
        go_wp2
        go_roundw
        case rel => exact ⟨k + 1, a', cap', by omega, rfl, rfl, by rw [playL_succ, ← HL.out, R1.out]; exact HO9.out, HM9.out, HG9.out⟩
        case measure => simp only [intOf, Int.toNat_natCast]; rw [HL0.out]; omega
      · obtain rfl : k = playN xss := by omega
        have hneg : decide ((0 : Int) < need xss L) = false := by simp; omega
        have HPL := Lib.hid (playL_length xss (playN xss))
        clear hnk hz0 hz1 hx0 hx1 hN
        go_wp2
        go_ret2
        exact ⟨playL xss (playN xss), true, ao, co, congrArg (fun m => Ending.returned (.tuple #[.slice ao m co, .bool true])) HPL.out.symm, HPlay.out, by rw [HPL.out]; exact owns_mono HO5.out (by have := HB4.out.size; omega), HB4.out.grown HG5.out HB4.out.size (fun j hj => by cases hj; exact HBm.out)⟩

end Go.Proofs.Ytpeogghiboaceaa
