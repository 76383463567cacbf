/- The program's say and DeskLine, at a line that is the text of a deed. -/
import Derived.Test.YtenlngclocfnlaaGreatDoorBunO
import Derived.Test.YtenlngclocfnlaaGreatDoorBunP
namespace Go.Proofs.YtenlngclocfnlaaGreatDoor
open Go.RowKit
set_option linter.unusedVariables false
set_option maxRecDepth 100000

def wOk : List UInt8 := [111, 107]
def wNo : List UInt8 := [110, 111]
/-- A desk of one's own, and an answer. -/
def SayOut (p c : Int) (gs : List Gs) (l : List UInt8) (w : World) (e : Ending) (w' : World) : Prop :=
  ∃ a cap cap2, e = .returned (.tuple #[dkV p c (.slice a gs.length cap2), strV l]) ∧ gs.length ≤ cap2 ∧ cap2 ≤ 9223372036854775807 ∧ OwnG w.heap.size w' (.slice a gs.length cap) gs ∧ Below w.heap.size w w'
/-- The desk is stored into the result's block. -/
theorem say_ret {w w4 : World} {R : Nat} {p c : Int} {gs : List Gs} {a4 : Option Addr} {c4 cap2 : Nat} (l : List UInt8) (hR : w4.heap[R]? = some (.cells #[.int .i64 0, .int .i64 0, .slice none 0 0] 30 (0, 0))) (hRB : w.heap.size ≤ R)
    (ho : OwnG w.heap.size w4 (.slice a4 gs.length c4) gs) (hb : Below w.heap.size w w4) (h1 : gs.length ≤ cap2) (h2 : cap2 ≤ 9223372036854775807) :
    SayOut p c gs l w (.returned (.tuple #[dkV p c (.slice a4 gs.length cap2), strV l])) (((w4.setCell ⟨R, 0, none⟩ (.int .i64 p)).setCell ⟨R, 1, none⟩ (.int .i64 c)).setCell ⟨R, 2, none⟩ (.slice a4 gs.length cap2)) ∧
      (((w4.setCell ⟨R, 0, none⟩ (.int .i64 p)).setCell ⟨R, 1, none⟩ (.int .i64 c)).setCell ⟨R, 2, none⟩ (.slice a4 gs.length cap2)).heap[R]? = some (.cells #[.int .i64 p, .int .i64 c, .slice a4 gs.length cap2] 30 (0, 0)) := by
  have q1 := heap_setCell_same _ _ 0 _ _ (.int .i64 p) hR
  have q2 := heap_setCell_same _ _ 1 _ _ (.int .i64 c) q1
  have q3 := heap_setCell_same _ _ 2 _ _ (.slice a4 gs.length cap2) q2
  exact ⟨⟨a4, c4, cap2, rfl, h1, h2, ((ho.other hR).other q1).other q2, ((hb.setCell (p := ⟨R, 0, none⟩) hRB _).setCell (p := ⟨R, 1, none⟩) hRB _).setCell (p := ⟨R, 2, none⟩) hRB _⟩, q3⟩

set_option maxHeartbeats 4000000 in
theorem sayD_any {B : Nat} (p c : Int) (v : Value) (gs : List Gs) (l : List UInt8) (d : Dd) (w : World) (hm : MaxIs w) (h : RG B w v gs) (hl : l.length ≤ 2000000) (hd : readD l = some d) (hlen : gs.length ≤ 100) (hc : ∀ g ∈ gs, g.code.length ≤ 2000000) :
    Calls Tryz.prog 52 #[dkV p c v, strV l] w (SayOut p c (doneG p c gs d).1 (if (doneG p c gs d).2 = true then wOk else wNo) w) := by
  have HRG := Lib.hid h
  have HC := Lib.hid hc
  obtain ⟨a, cap, rfl⟩ := h.shape
  obtain ⟨w1, hw1⟩ : ∃ w1, w1 = (w.alloc (.cells #[.int .i64 p, .int .i64 c, .slice a gs.length cap] 30)).alloc (.cells #[.int .i64 0, .int .i64 0, .slice none 0 0] 30) := ⟨_, rfl⟩
  have hb1 : Below w.heap.size w w1 := by rw [hw1]; exact ((Below.refl _ _).alloc (Nat.le_refl _) _).alloc (by simp) _
  have hs1 : w1.heap.size = w.heap.size + 2 := by rw [hw1]; simp
  have hz0 : At w1 w.heap.size (.cells #[.int .i64 p, .int .i64 c, .slice a gs.length cap] 30) := by
    rw [hw1]; exact (At.new w _).below ((Below.refl _ _).alloc (Nat.le_refl _) _)
  have hz1 : At w1 (w.heap.size + 1) (.cells #[.int .i64 0, .int .i64 0, .slice none 0 0] 30) := by
    rw [hw1]; have q := At.new (w.alloc (.cells #[.int .i64 p, .int .i64 c, .slice a gs.length cap] 30)) (.cells #[.int .i64 0, .int .i64 0, .slice none 0 0] 30); rw [World.size_alloc] at q; exact q
  obtain ⟨hd1, hd2⟩ := rd_some hd
  have hcode := rd_code l
  rw [hd1] at hcode
  have hI := readDeedI_any l w1 (by omega) (hm.below hb1)
  unfold ReadOut at hI
  rw [hd1, hd2] at hI
  obtain ⟨b, ys, r, n⟩ := d
  simp only at hI hcode
  have HB1 := Lib.hid hb1
  have HS1 := Lib.hid hs1
  have HZ0 := Lib.hid hz0
  have HZ1 := Lib.hid hz1
  unfold strV dV at hI
  unfold dkV strV
  have hy3 := hcode.1
  have HY64 := Lib.hid (show ∀ y ∈ ys, In64 y from fun y hy => by have := hcode.2 y hy; unfold In64; omega)
  obtain ⟨gs', hgs'⟩ : ∃ z, z = (doneG p c gs ⟨b, ys, r, n⟩).1 := ⟨_, rfl⟩
  obtain ⟨ok, hok⟩ : ∃ z, z = (doneG p c gs ⟨b, ys, r, n⟩).2 := ⟨_, rfl⟩
  have HSAME := Lib.hid (show ok = false → gs' = gs from fun q => by rw [hgs']; exact done_same (by rw [← hok]; exact q))
  rw [← hgs', ← hok]
  obtain ⟨an, han⟩ : ∃ z, z = (if ok = true then wOk else wNo) := ⟨_, rfl⟩
  rw [← han]
  have HAN := Lib.hid han
  have HGS := Lib.hid hgs'
  have HOKK := Lib.hid hok
  clear h hc hb1 hs1 hz0 hz1 hd hd1 hd2 hcode hm hgs' hok han
  go_enter Tryz.func52, Tryz.ntmps52
  go_wp2_with fail
  rw [← hw1]
  clear hw1
  refine hI.mono ?_
  rintro e w2 ⟨a2, k2, rfl, ho2, hb2⟩
  obtain ⟨w3, hw3⟩ : ∃ z, z = w2.alloc (.cells #[.bool b, .slice a2 ys.length k2, .int .i64 r, .int .i64 n] 41) := ⟨_, rfl⟩
  have hb23 : Below w2.heap.size w2 w3 := by rw [hw3]; exact (Below.refl _ _).alloc (Nat.le_refl _) _
  have hR3 : At w3 w2.heap.size (.cells #[.bool b, .slice a2 ys.length k2, .int .i64 r, .int .i64 n] 41) := by rw [hw3]; exact At.new w2 _
  have HB13 := Lib.hid (hb2.trans (hb23.mono hb2.size))
  have HB3 := Lib.hid (HB1.out.trans (HB13.out.mono HB1.out.size))
  have HZ0 := Lib.hid (HZ0.out.below HB13.out)
  have HZ1 := Lib.hid (HZ1.out.below HB13.out)
  have HU3 := Lib.hid (OwnI.below ho2 hb23)
  have hD := done_any p c _ gs b _ ys r n w3 (HRG.out.below HB3.out) (HU3.out.toInts HY64.out) (OwnI.nilOr HU3.out) hlen HC.out (by omega)
  rw [← HGS.out, ← HOKK.out] at hD
  unfold dkV dV at hD
  obtain ⟨x0, x1, x2⟩ := HZ0.out.three
  obtain ⟨y0, y1, y2, y3⟩ := hR3.four
  clear hI ho2 hb2 hb23 hR3
  go_upto_region 2 with fail
  rw [← hw3]
  clear hw3
  go_wp2_with fail
  refine hD.mono ?_
  rintro e w4 ⟨a4, c4, k4, rfl, q1, q2, ho4, hb4⟩
  unfold dkV
  obtain ⟨w5, hw5⟩ : ∃ z, z = w4.alloc (.cells #[.int .i64 p, .int .i64 c, .slice a4 gs'.length k4] 30) := ⟨_, rfl⟩
  have hb45 : Below w4.heap.size w4 w5 := by rw [hw5]; exact (Below.refl _ _).alloc (Nat.le_refl _) _
  have hR5 : At w5 w4.heap.size (.cells #[.int .i64 p, .int .i64 c, .slice a4 gs'.length k4] 30) := by rw [hw5]; exact At.new w4 _
  have HB35 := Lib.hid (hb4.trans (hb45.mono hb4.size))
  have HB5 := Lib.hid (HB3.out.trans (HB35.out.mono HB3.out.size))
  have HZ0 := Lib.hid (HZ0.out.below HB35.out)
  have HZ1 := Lib.hid (HZ1.out.below HB35.out)
  have HO5 := Lib.hid (show OwnG w.heap.size w5 (.slice a4 gs'.length c4) gs' from (ho4.below hb45).mono HB3.out.size)
  obtain ⟨u0, u1, u2⟩ := hR5.three
  clear hD ho4 hb4 hb45 x0 x1 x2 y0 y1 y2 y3 hR5
  go_upto_region 4 with fail
  rw [← hw5]
  clear hw5
  cases ok
  · have hgg := HSAME.out rfl
    have ha := HAN.out
    rw [if_neg (by simp)] at ha
    subst hgg
    subst ha
    clear HGS HOKK HAN
    have hT := dcop_any p c _ gs' w5 (HRG.out.below HB5.out) (by omega) HC.out
    unfold dkV at hT
    obtain ⟨x0, x1, x2⟩ := HZ0.out.three
    clear u0 u1 u2
    go_wp2_with fail
    refine hT.mono ?_
    rintro e w6 ⟨a6, c6, rfl, ho6, hb6⟩
    unfold dkV
    have hR6 := HZ1.out.below hb6
    obtain ⟨q6, q7⟩ := ho6.caps
    obtain ⟨r0, r1, r2, rf⟩ := zero_cells hR6
    have HF := Lib.hid (say_ret (w := w) (p := p) (c := c) wNo hR6 (by omega) (ho6.mono HB5.out.size) (HB5.out.trans (hb6.mono HB5.out.size)) q6 q7)
    clear hT ho6 hb6 hR6 x0 x1 x2
    go_wp2
    ((try simp only [Exit.inBlock, Exit.then]); refine bodyPost_ret (results_cell_tmp rfl _ _ (w.heap.size + 1) _ _ (0, 0) _ rfl HF.out.2 Tryz.underlying30 rfl (by kernel_rfl)) rfl ?_)
    exact HF.out.1
  · have ha := HAN.out
    rw [if_pos rfl] at ha
    subst ha
    clear HAN
    obtain ⟨r0, r1, r2, rf⟩ := zero_cells HZ1.out
    have HF := Lib.hid (say_ret (w := w) (p := p) (c := c) wOk HZ1.out (by omega) HO5.out HB5.out q1 q2)
    go_wp2
    ((try simp only [Exit.inBlock, Exit.then]); refine bodyPost_ret (results_cell_tmp rfl _ _ (w.heap.size + 1) _ _ (0, 0) _ rfl HF.out.2 Tryz.underlying30 rfl (by kernel_rfl)) rfl ?_)
    exact HF.out.1

set_option maxHeartbeats 4000000 in
theorem lineD_any {B : Nat} (p c : Int) (v : Value) (gs : List Gs) (l : List UInt8) (d : Dd) (w : World) (hm : MaxIs w) (h : RG B w v gs) (hl : l.length ≤ 2000000) (hd : readD l = some d) (hok : deskB p c gs = true) (hc : ∀ g ∈ gs, g.code.length ≤ 2000000) :
    Calls Tryz.prog 14 #[dkV p c v, strV l] w (SayOut p c (doneG p c gs d).1 (if (doneG p c gs d).2 = true then wOk else wNo) w) := by
  have HRG := Lib.hid h
  have HC := Lib.hid hc
  have hlen := deskB_len hok
  obtain ⟨a, cap, rfl⟩ := h.shape
  obtain ⟨w1, hw1⟩ : ∃ w1, w1 = (w.alloc (.cells #[.int .i64 p, .int .i64 c, .slice a gs.length cap] 30)).alloc (.cells #[.int .i64 0, .int .i64 0, .slice none 0 0] 30) := ⟨_, rfl⟩
  have hb1 : Below w.heap.size w w1 := by rw [hw1]; exact ((Below.refl _ _).alloc (Nat.le_refl _) _).alloc (by simp) _
  have hs1 : w1.heap.size = w.heap.size + 2 := by rw [hw1]; simp
  have hz0 : At w1 w.heap.size (.cells #[.int .i64 p, .int .i64 c, .slice a gs.length cap] 30) := by
    rw [hw1]; exact (At.new w _).below ((Below.refl _ _).alloc (Nat.le_refl _) _)
  have hz1 : At w1 (w.heap.size + 1) (.cells #[.int .i64 0, .int .i64 0, .slice none 0 0] 30) := by
    rw [hw1]; have q := At.new (w.alloc (.cells #[.int .i64 p, .int .i64 c, .slice a gs.length cap] 30)) (.cells #[.int .i64 0, .int .i64 0, .slice none 0 0] 30); rw [World.size_alloc] at q; exact q
  have hK := deskOkI_any p c _ gs w1 (HRG.out.below hb1).toGL
  rw [hok] at hK
  have HS := Lib.hid (fun (W : World) (q : MaxIs W) (r : RG B W (.slice a gs.length cap) gs) => sayD_any p c _ gs l d W q r hl hd (by omega) hc)
  obtain ⟨gs', hgs'⟩ : ∃ z, z = (doneG p c gs d).1 := ⟨_, rfl⟩
  obtain ⟨an, han⟩ : ∃ z, z = (if (doneG p c gs d).2 = true then wOk else wNo) := ⟨_, rfl⟩
  rw [← hgs', ← han] at HS ⊢
  have HB1 := Lib.hid hb1
  have HS1 := Lib.hid hs1
  have HZ0 := Lib.hid hz0
  have HZ1 := Lib.hid hz1
  have HM := Lib.hid hm
  unfold dkV at hK
  unfold dkV strV
  obtain ⟨x0, x1, x2⟩ := hz0.three
  clear h hc hb1 hs1 hz0 hz1 hd hm hok hgs' han hl
  go_enter Tryz.func14, Tryz.ntmps14
  go_wp2_with fail
  rw [← hw1]
  clear hw1
  refine hK.mono ?_
  rintro e w2 ⟨rfl, hb2⟩
  have HB2 := Lib.hid (HB1.out.trans (hb2.mono HB1.out.size))
  have HZ0 := Lib.hid (HZ0.out.below hb2)
  have HZ1 := Lib.hid (HZ1.out.below hb2)
  have hT := HS.out w2 (HM.out.below HB2.out) (HRG.out.below HB2.out)
  unfold dkV strV at hT
  clear hK hb2 x0 x1 x2
  obtain ⟨x0, x1, x2⟩ := HZ0.out.three
  go_wp2_with fail
  refine hT.mono ?_
  rintro e w4 ⟨a4, c4, k4, rfl, q1, q2, ho4, hb4⟩
  unfold dkV strV
  have hR4 := HZ1.out.below hb4
  obtain ⟨r0, r1, r2, rf⟩ := zero_cells hR4
  have HF := Lib.hid (say_ret (w := w) (p := p) (c := c) an hR4 (by have := HS1.out; omega) (ho4.mono HB2.out.size) (HB2.out.trans (hb4.mono HB2.out.size)) q1 q2)
  clear hT ho4 hb4 hR4 x0 x1 x2
  go_wp2
  ((try simp only [Exit.inBlock, Exit.then]); refine bodyPost_ret (results_cell_tmp rfl _ _ (w.heap.size + 1) _ _ (0, 0) _ rfl HF.out.2 Tryz.underlying30 rfl (by kernel_rfl)) rfl ?_)
  exact HF.out.1

end Go.Proofs.YtenlngclocfnlaaGreatDoor
