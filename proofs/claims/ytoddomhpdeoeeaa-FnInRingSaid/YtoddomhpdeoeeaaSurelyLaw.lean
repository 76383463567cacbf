/- The walk of FnSurelyFound. -/
import Derived.Test.YtoddomhpdeoeeaaDrawOpened
namespace Go.Proofs.Ytoddomhpdeoeeaa
open Go.RowKit
set_option linter.unusedVariables false

/-- A call's result are few rows and opened boxes, in new memory. -/
def OpenOut (w : World) (e : Ending) (w' : World) : Prop :=
  ∃ xss a cap ys a2 c2, e = .returned (.tuple #[.slice a xss.length cap, .slice a2 ys.length c2]) ∧ Rows2 w.heap.size w' (.slice a xss.length cap) xss ∧ xss.length ≤ 6 ∧ Ints w.heap.size w' (.slice a2 ys.length c2) ys ∧ ys.length ≤ 32 ∧ Below w.heap.size w w'

theorem drawLeftAfter_any {B : Nat} (v : Value) (bs : List Int) (w : World) (h : Bytes B w v bs) :
    Calls Try.prog 27 #[v] w (OpenOut w) := by
  go_enter Try.func27, Try.ntmps27
  go_wp2_with fail
  refine (open_any _ _ _ h).mono ?_
  rintro e w1 ⟨a, cap, cs, rfl, hR, hb⟩
  have hs1 := hR.lt
  have hb1 := hb.size
  go_wp2_with fail
  refine (opened_any _ _ _ _ _ _ hR (by omega)).mono ?_
  rintro e w2 ⟨xss, a', cap', ys, a2, c2, rfl, hx, hl, hy, hyl, _, hg⟩
  have HX := Lib.hid hx
  have HY := Lib.hid hy
  have HB := Lib.hid (below_of_grown hb hg (Nat.le_refl _))
  clear hx hy hb hg hR
  go_wp2
  go_ret2
  exact ⟨xss, a', cap', ys, a2, c2, rfl, HX.out.mono hb1, hl, HY.out.mono hb1, hyl, HB.out⟩

theorem drawSurelyFound_any {B : Nat} (v : Value) (bs : List Int) (w : World) (h : Bytes B w v bs) :
    Calls Try.prog 30 #[v] w (OpenOut w) := by
  go_enter Try.func30, Try.ntmps30
  go_wp2_with fail
  refine (open_any _ _ _ h).mono ?_
  rintro e w1 ⟨a, cap, cs, rfl, hR, hb⟩
  have hs1 := hR.lt
  have hb1 := hb.size
  go_wp2_with fail
  refine (opened_any _ _ _ _ _ _ hR (by omega)).mono ?_
  rintro e w2 ⟨xss, a', cap', ys, a2, c2, rfl, hx, hl, hy, hyl, _, hg⟩
  have HX := Lib.hid hx
  have HY := Lib.hid hy
  have HB := Lib.hid (below_of_grown hb hg (Nat.le_refl _))
  clear hx hy hb hg hR
  go_wp2
  go_ret2
  exact ⟨xss, a', cap', ys, a2, c2, rfl, HX.out.mono hb1, hl, HY.out.mono hb1, hyl, HB.out⟩

theorem take_rev_step {xs : List Int} {u m : Nat} (hu : u < xs.length) (hm : m = xs.length - (u + 1)) : xs.reverse.take m ++ [xs[u]] = xs.reverse.take (m + 1) := by
  have hlt : m < xs.reverse.length := by rw [List.length_reverse]; omega
  have e : xs.length - 1 - m = u := by omega
  rw [List.take_succ_eq_append_getElem hlt, List.getElem_reverse]
  congr 2
  simp only [e]

/-- Of a turned row all but the last t numbers are there. -/
def TurnW (w : World) (xs : List Int) (t : Nat) (ao : Option Addr) (m co : Nat) (wi : World) : Prop :=
  m = xs.length - t ∧ OwnI w.heap.size wi (.slice ao m co) (xs.reverse.take m) ∧ Below w.heap.size w wi

set_option maxHeartbeats 1000000 in
theorem turned_any {B : Nat} (v : Value) (xs : List Int) (w : World) (h : Ints B w v xs) (hl : xs.length ≤ 1000000) :
    Calls Try.prog 33 #[v] w (FreshI xs.reverse w) := by
  have HI := Lib.hid h
  obtain ⟨a, cap, rfl, h1, h2⟩ := h.shape
  have hW0 : TurnW w xs xs.length (some ⟨w.heap.size, 0, none⟩) 0 0 (w.alloc (.cells #[] 3)) := ⟨by omega, by simpa using OwnI.lit w, (Below.refl _ _).alloc (Nat.le_refl _) _⟩
  clear h
  go_enter Try.func33, Try.ntmps33
  go_wp2
  obtain ⟨wu, hwu⟩ : ∃ wu : World, wu = w.alloc (.cells #[] 3) := ⟨_, rfl⟩
  rw [← hwu] at hW0 ⊢
  clear hwu
  go_loopw [3, 4] (fun ov cv wi => ∃ (t m : Nat) (ao : Option Addr) (co : Nat) (z : Int), z + 1 = (t : Int) ∧ t ≤ xs.length ∧ cv = .int .i64 z ∧ ov = .slice ao m co ∧ TurnW w xs t ao m co wi) (fun _ cv _ => (intOf cv + 1).toNat)
  case atStart => exact ⟨xs.length, 0, _, 0, _, by omega, Nat.le_refl _, rfl, rfl, hW0⟩
  case round =>
    obtain ⟨t, m, ao, co, z, hz, ht, rfl, rfl, hm, ho, hb⟩ := hrel
    clear hW0
    have HM := Lib.hid hm
    have HB := Lib.hid hb
    have hzb := hb.size
    by_cases hz0 : 0 ≤ z
    · obtain ⟨u, rfl⟩ := Int.eq_ofNat_of_zero_le hz0
      obtain ⟨a', c', he, _, _, hc⟩ := (HI.out.below hb).opened
      injection he with e1 _ e3
      subst e1 e3
      obtain ⟨b, off, rfl, _, hcell⟩ := hc (by omega)
      have hcu := hcell u (by omega)
      clear hc
      have hm2 : m ≤ 1000000 := by omega
      obtain ⟨x, hx⟩ : ∃ x, x = xs[u]'(by omega) := ⟨_, rfl⟩
      rw [← hx] at hcu
      have hxs : (xs.reverse.take m) ++ [x] = xs.reverse.take (m + 1) := by rw [hx]; exact take_rev_step (by omega) (by omega)
      have HXS := Lib.hid hxs
      have hml : (xs.reverse.take m).length = m := by rw [List.length_take, List.length_reverse]; omega
      have HML := Lib.hid hml
      have hown : OwnI w.heap.size (wr.alloc (.cells #[.int .i64 x] 3)) (.slice ao m co) (xs.reverse.take m) := World.ownsRow.alloc ho _
      have HO := Lib.hid ho
      have hi1 : (u : Int) < (xs.length : Int) := by omega
      clear ho hb hm hx hxs hml hcell hz0
      go_wp2_with (at_builtin; refine wpList_push_int _ rfl (.tmp 13) (.tmp 18) rfl w.heap.size (.slice ao m co) (xs.reverse.take m) rfl hown ⟨wr.heap.size, 0, none⟩ 1 x rfl (by simp) (by have := HML.out; omega) (by simp; omega) ?_; intro a7 c7 w7 ho7 hg7; (try rw [HML.out] at ho7); (try rw [HML.out]); have HO7 := Lib.hid ho7; have HG7 := Lib.hid hg7; clear ho7 hg7)
      go_roundw
      case rel => exact ⟨u, m + 1, a7, c7, (u : Int) - 1, by omega, by omega, by first | rfl | (congr 1; omega), rfl, by have := HM.out; omega, by rw [← HXS.out]; exact HO7.out, (HB.out.alloc hzb _).grown HG7.out (by simp; omega) (fun j hj => (World.ownsRow.lt HO.out j hj).1)⟩
      case measure => simp [intOf]
    · have hfin : OwnI w.heap.size wr (.slice ao m co) xs.reverse := by
        have h3 := ho
        rwa [List.take_of_length_le (by rw [List.length_reverse]; omega)] at h3
      have HF := Lib.hid hfin
      have hmx : m = xs.reverse.length := by rw [List.length_reverse]; omega
      have HMX := Lib.hid hmx
      clear ho hb hfin hmx hm
      go_wp2
      go_ret
      exact ⟨ao, co, congrArg (fun m => Ending.returned (.slice ao m co)) HMX.out, by rw [← HMX.out]; exact HF.out, HB.out⟩

set_option maxHeartbeats 1000000 in
theorem FnSurelyFound_walk (v : Value) (bs : List Int) (w : World) (h : Bytes 0 w v bs) :
    Calls Try.prog 7 #[v] w fun e w' => e = .returned (.bool true) ∧ Below w.heap.size w w' := by
  obtain ⟨a0, cap0, rfl, hc1, hc2, hc3⟩ := id h.1
  rw [List.length_map] at h ⊢
  clear hc1 hc2 hc3
  by_cases hs : 1048576 < bs.length
  · go_enter Try.func7, Try.ntmps7
    go_wp2
    go_ret
    exact ⟨rfl, Below.refl _ _⟩
  · go_enter Try.func7, Try.ntmps7
    go_wp2_with fail
    refine (drawSurelyFound_any _ _ _ h).mono ?_
    rintro e w1 ⟨xss, a1, c1, ys, a2, c2, rfl, hx1, _, hy1, hyl, hb1⟩
    clear h
    go_wp2_with fail
    refine (implSurelyFound_any _ _ _ _ _ hx1 hy1).mono ?_
    rintro e w2 ⟨rfl, hb2⟩
    have hx2 := hx1.below hb2
    have hy2 := hy1.below hb2
    have hbb2 := hb1.trans (hb2.mono hb1.size)
    clear hx1 hy1 hb1 hb2
    go_wp2_with fail
    refine (specSurelyFound_any _ _ _ _ _ hx2 hy2).mono ?_
    rintro e w3 ⟨rfl, hq3⟩
    have hD3 : Drawn w2 w3 := hq3
    have hx3 := hx2.below hD3.below
    have hy3 := hy2.below hD3.below
    have hbb3 := hbb2.trans (hD3.below.mono hbb2.size)
    clear hq3 hx2 hy2 hbb2 hD3
    have hself : (surelyB xss ys != surelyB xss ys) = false := by simp
    go_wp2_with fail
    refine (turned_any _ _ _ hy3 (by omega)).mono ?_
    rintro e w4 ⟨a4, c4, rfl, ho4, hb4⟩
    have hx4 := hx3.below hb4
    have hyin : ∀ y ∈ ys.reverse, In64 y := fun y hy => hy3.2 y (List.mem_reverse.1 hy)
    have hbb4 := hbb3.trans (hb4.mono hbb3.size)
    have hy4 : Ints w3.heap.size w4 (.slice a4 ys.length c4) ys.reverse := by have h9 := ho4.toInts hyin; rwa [List.length_reverse] at h9
    clear hx3 hy3 hb4 ho4 hyin hbb3
    go_wp2_with fail
    refine (implSurelyFound_any _ _ _ _ _ hx4 hy4).mono ?_
    rintro e w5 ⟨rfl, hb5⟩
    rw [surely_reverse]
    have hbb5 := hbb4.trans (hb5.mono hbb4.size)
    have hself2 : (surelyB xss ys == surelyB xss ys) = true := by simp
    clear hx4 hy4 hb5 hbb4
    go_wp2_with fail
    refine (alive_any _).mono ?_
    rintro e w6 ⟨rfl, rfl⟩
    go_wp2
    go_ret
    exact ⟨rfl, hbb5⟩

end Go.Proofs.Ytoddomhpdeoeeaa
