/- Texts of this claim, put together: LineS, LineLaw. -/
import Derived.Test.YtenlngclocfnlaaGreatDoorPcZB
import Derived.Test.YtenlngclocfnlaaGreatDoorPcL
import Derived.Test.YtenlngclocfnlaaGreatDoorPcM
import Derived.Test.YtenlngclocfnlaaGreatDoorPcZ
import Derived.Test.YtenlngclocfnlaaGreatDoorPcA
import Derived.Deep.RegionHeld3
import Derived.Test.YtenlngclocfnlaaGreatDoorPcGD
namespace Go.Proofs.YtenlngclocfnlaaGreatDoor
open Go.RowKit
set_option linter.unusedVariables false
set_option maxRecDepth 100000
def DC (x y z:Value):Obj:=.cells #[x,y,z] 30 (0,0)
structure RelD (R:Nat) (x y z:Value) (W W':World):Prop where
 grown:W.grownBy W' (some R)
 box:(∃ x y z,At W R (DC x y z))→∃ x y z,At W' R (DC x y z)
 full:At W R (DC x y z)→At W' R (DC x y z)
theorem RelD.refl (R:Nat) (x y z:Value) (W:World):RelD R x y z W W:=⟨World.grownBy.refl _ _,fun h=>h,fun h=>h⟩
theorem RelD.trans {R:Nat} {x y z:Value} {a b c:World} (h:RelD R x y z a b) (h':RelD R x y z b c):RelD R x y z a c:=
 ⟨grownT h.grown h'.grown,fun q=>h'.box (h.box q),fun q=>h'.full (h.full q)⟩
theorem RelD.of {R:Nat} {x y z:Value} {W W':World} (h:Below W.heap.size W W'):RelD R x y z W W':=⟨grownR h,fun ⟨x,y,z,q⟩=>⟨x,y,z,q.below h⟩,fun q=>q.below h⟩
theorem RelD.store {R:Nat} {x y z x' y' z':Value} {W:World} (h:At W R (DC x' y' z')):
  RelD R x y z W (((W.setCell ⟨R,0,none⟩ x).setCell ⟨R,1,none⟩ y).setCell ⟨R,2,none⟩ z)∧At (((W.setCell ⟨R,0,none⟩ x).setCell ⟨R,1,none⟩ y).setCell ⟨R,2,none⟩ z) R (DC x y z):=by
 have q1:=heap_setCell_same _ _ 0 _ _ x h
 have q2:=heap_setCell_same _ _ 1 _ _ y q1
 have q3:At (((W.setCell ⟨R,0,none⟩ x).setCell ⟨R,1,none⟩ y).setCell ⟨R,2,none⟩ z) R (DC x y z):=heap_setCell_same _ _ 2 _ _ z q2
 exact ⟨⟨grownT (grownT (grownBy_setCell W ⟨R,0,none⟩ x) (grownBy_setCell (W.setCell ⟨R,0,none⟩ x) ⟨R,1,none⟩ y)) (grownBy_setCell ((W.setCell ⟨R,0,none⟩ x).setCell ⟨R,1,none⟩ y) ⟨R,2,none⟩ z),fun _=>⟨x,y,z,q3⟩,fun _=>q3⟩,q3⟩
theorem cell_grown {R G i:Nat} {W W':World} {v:Value} (hg:W.grownBy W' (some R)) (hne:G≠R) (h:W.cell? ⟨G,i,none⟩=some v):W'.cell? ⟨G,i,none⟩=some v:=by
 rw[World.cell?_of_block (w:=W) (hg.block G (World.block_lt_of_cell? W _ h) (fun e=>hne (by injection e)))]
 exact h
theorem WordsAt.grown {R g:Nat} {us:List (List UInt8)} {W W':World} (h:WordsAt g us W) (hg:W.grownBy W' (some R)) (hne:g≠R):WordsAt g us W':=⟨fun k hk=>cell_grown hg hne (h.cell k hk),h.len⟩
theorem line_out {w W:World} {R:Nat} {p c:Int} {gs:List Gs} {a3:Option Addr} {c3:Nat} (l:List UInt8) (h:At W R (DC (.int .i64 p) (.int .i64 c) (.slice a3 gs.length c3))) (ho:OwnG w.heap.size W (.slice a3 gs.length c3) gs) (hb:Below w.heap.size w W):
  SayOut p c gs l w (.returned (.tuple #[dkV p c (.slice a3 gs.length c3),strV l])) W:=by
 obtain ⟨q1,q2⟩:=ho.caps
 exact ⟨a3,c3,c3,rfl,q1,q2,ho,hb⟩
set_option maxHeartbeats 8000000 in
theorem lineS_deed {B:Nat} (p c:Int) (v:Value) (gs:List Gs) (l:List UInt8) (d:Dd) (w:World) (h:RG B w v gs) (hl:l.length≤2000000) (hd:readD l=some d) (hok:deskB p c gs=true) (hc:∀ g∈gs,g.code.length≤2000000):
  Calls Tryz.prog 21 #[dkV p c v,strV l] w (SayOut p c (doneG p c gs d).1 (if (doneG p c gs d).2=true then wOk else wNo) w):=by
 have HRG:=hdd h
 have HC:=hdd hc
 have hlen:=deskB_len hok
 obtain ⟨a,cap,rfl⟩:=h.shape
 obtain ⟨w1,hw1⟩:∃ w1,w1=(w.alloc (.cells #[.int .i64 p,.int .i64 c,.slice a gs.length cap] 30)).alloc (.cells #[.int .i64 0,.int .i64 0,.slice none 0 0] 30):=⟨_,rfl⟩
 have hb1:Below w.heap.size w w1:=by rw[hw1]; exact ((Below.refl _ _).alloc (Nat.le_refl _) _).alloc (by simp) _
 have hs1:w1.heap.size=w.heap.size+2:=by rw[hw1]; simp
 have hz0:At w1 w.heap.size (.cells #[.int .i64 p,.int .i64 c,.slice a gs.length cap] 30):=by
  rw[hw1]; exact (At.new w _).below ((Below.refl _ _).alloc (Nat.le_refl _) _)
 have hz1:At w1 (w.heap.size+1) (.cells #[.int .i64 0,.int .i64 0,.slice none 0 0] 30):=by
  rw[hw1]; have q:=At.new (w.alloc (.cells #[.int .i64 p,.int .i64 c,.slice a gs.length cap] 30)) (.cells #[.int .i64 0,.int .i64 0,.slice none 0 0] 30); rw[World.size_alloc] at q; exact q
 have hK:=deskOkS_any p c _ gs w1 (HRG.out.below hb1).toGL
 rw[hok] at hK
 have HB1:=hdd hb1
 have HS1:=hdd hs1
 have HZ0:=hdd hz0
 have HZ1:=hdd hz1
 obtain ⟨hd1,hd2⟩:=rd_some hd
 have hcode:=rd_code l
 rw[hd1] at hcode
 have HRD:=hdd (And.intro hd1 hd2)
 obtain ⟨b,ys,r,n⟩:=d
 simp only at hcode
 have hy3:=hcode.1
 have HY64:=hdd (show ∀ y∈ys,In64 y from fun y hy=>by have:=hcode.2 y hy; unfold In64; omega)
 have HDO:=hdd (fun W a2 k2 (q:RG B W (.slice a gs.length cap) gs) (hu:Ints 0 W (.slice a2 ys.length k2) ys)=>(deskDoS_any p c _ gs b _ ys r n W q.toGL hu hc (by omega)).mono (fun e w' (z:DoRes p c gs ⟨b,ys,r,n⟩ W e w')=>show DoOut p c (doneG p c gs ⟨b,ys,r,n⟩).1 (doneG p c gs ⟨b,ys,r,n⟩).2 W e w' by unfold DoRes at z; rwa [if_pos hok] at z))
 obtain ⟨gs',hgs'⟩:∃ z,z=(doneG p c gs ⟨b,ys,r,n⟩).1:=⟨_,rfl⟩
 obtain ⟨ok,hokk⟩:∃ z,z=(doneG p c gs ⟨b,ys,r,n⟩).2:=⟨_,rfl⟩
 rw[←hgs',←hokk] at HDO
 rw[←hgs',←hokk]
 obtain ⟨an,han⟩:∃ z,z=(if ok=true then wOk else wNo):=⟨_,rfl⟩
 rw[←han]
 have HAN:=hdd han
 clear hcode hgs' hokk han
 unfold dkV at hK
 unfold dkV strV
 obtain ⟨x0,x1,x2⟩:=hz0.three
 clear h hc hb1 hs1 hz0 hz1 hok hd hd1 hd2
 go_enter Tryz.func21,Tryz.ntmps21
 go_wp2_with fail
 rw[←hw1]
 clear hw1
 refine hK.mono ?_
 rintro e w2 ⟨rfl,hb2⟩
 have HB2:=hdd (HB1.out.trans (hb2.mono HB1.out.size))
 have HB12:=hdd hb2
 have hCP:=copS_any p c _ gs w2 (HRG.out.below HB2.out).toGL (by omega) HC.out
 unfold dkV at hCP
 clear hK hb2 x0 x1 x2
 obtain ⟨x0,x1,x2⟩:=(HZ0.out.below HB12.out).three
 go_wp2_with fail
 refine hCP.mono ?_
 rintro e w3 ⟨a3,c3,rfl,ho3,hb3⟩
 unfold dkV
 obtain ⟨w4,hw4⟩:∃ z,z=w3.alloc (.cells #[.int .i64 p,.int .i64 c,.slice a3 gs.length c3] 30):=⟨_,rfl⟩
 have hb34:Below w3.heap.size w3 w4:=by rw[hw4]; exact (Below.refl _ _).alloc (Nat.le_refl _) _
 have HZ6:=hdd (show At w4 w3.heap.size (.cells #[.int .i64 p,.int .i64 c,.slice a3 gs.length c3] 30) by rw[hw4]; exact At.new w3 _)
 have HB14:=hdd (HB12.out.trans ((hb3.trans (hb34.mono hb3.size)).mono HB12.out.size))
 have HB4:=hdd (HB1.out.trans (HB14.out.mono HB1.out.size))
 have HO4:=hdd (show OwnG w2.heap.size w4 (.slice a3 gs.length c3) gs from ho3.below hb34)
 have hI:=readDeedS_any l w4 (by omega)
 unfold ReadOut at hI
 rw[HRD.out.1,HRD.out.2] at hI
 simp only at hI
 unfold strV dV at hI
 have HG6:=hdd (show w.heap.size+1<w3.heap.size by have:=HS1.out; have:=HB12.out.size; have:=hb3.size; omega)
 have HR2:=hdd (show w.heap.size+1<w2.heap.size by have:=HS1.out; have:=HB12.out.size; omega)
 clear hCP ho3 hb3 hb34 x0 x1 x2
 go_wp2_with fail
 rw[←hw4]
 clear hw4
 refine hI.mono ?_
 rintro e w5 ⟨a5,k5,rfl,ho5,hb5⟩
 obtain ⟨w6,hw6⟩:∃ z,z=w5.alloc (.cells #[.bool b,.slice a5 ys.length k5,.int .i64 r,.int .i64 n] 41):=⟨_,rfl⟩
 have hb56:Below w5.heap.size w5 w6:=by rw[hw6]; exact (Below.refl _ _).alloc (Nat.le_refl _) _
 have HB46:=hdd (hb5.trans (hb56.mono hb5.size))
 have HB16:=hdd (HB14.out.trans (HB46.out.mono HB14.out.size))
 have HB6:=hdd (HB1.out.trans (HB16.out.mono HB1.out.size))
 have HZ7:=hdd (show At w6 w5.heap.size (.cells #[.bool b,.slice a5 ys.length k5,.int .i64 r,.int .i64 n] 41) by rw[hw6]; exact At.new w5 _)
 have HU6:=hdd (show Ints 0 w6 (.slice a5 ys.length k5) ys from ((ho5.below hb56).toInts HY64.out).mono (Nat.zero_le _))
 clear hI ho5 hb5 hb56
 go_upto_region 5 with fail
 rw[←hw6]
 clear hw6
 have hD:=HDO.out w6 a5 k5 (HRG.out.below HB6.out) HU6.out
 unfold dkV dV DoOut dkV at hD
 obtain ⟨x0,x1,x2⟩:=(HZ0.out.below HB16.out).three
 obtain ⟨y0,y1,y2,y3⟩:=HZ7.out.four
 go_wp2_with fail
 refine hD.mono ?_
 rintro e w7 ⟨a7,c7,k7,rfl,q1,q2,ho7,hb7⟩
 obtain ⟨w8,hw8⟩:∃ z,z=w7.alloc (.cells #[.int .i64 p,.int .i64 c,.slice a7 gs'.length k7] 30):=⟨_,rfl⟩
 have hb78:Below w7.heap.size w7 w8:=by rw[hw8]; exact (Below.refl _ _).alloc (Nat.le_refl _) _
 have HZ9:=hdd (show At w8 w7.heap.size (.cells #[.int .i64 p,.int .i64 c,.slice a7 gs'.length k7] 30) by rw[hw8]; exact At.new w7 _)
 have HB68:=hdd (hb7.trans (hb78.mono hb7.size))
 have HB8:=hdd (HB6.out.trans (HB68.out.mono HB6.out.size))
 have HR8:=hdd (HZ1.out.below (HB16.out.trans (HB68.out.mono HB16.out.size)))
 have HO8:=hdd (show OwnG w.heap.size w8 (.slice a7 gs'.length c7) gs' from (ho7.below hb78).mono HB6.out.size)
 clear hD ho7 hb7 hb78 x0 x1 x2 y0 y1 y2 y3
 go_upto_region 7 with fail
 rw[←hw8]
 clear hw8
 obtain ⟨x0,x1,x2⟩:=HZ9.out.three
 obtain ⟨r0,r1,r2,rf⟩:=zero_cells HR8.out
 cases ok
 ·have ha:=HAN.out
  rw[if_neg (by simp)] at ha
  subst ha
  clear HAN
  have HF:=hdd (say_ret (w:=w) (p:=p) (c:=c) wNo HR8.out (by omega) HO8.out HB8.out q1 q2)
  go_wp2
  ((try simp only[Exit.inBlock,Exit.then]); refine bodyPost_ret (results_cell_tmp rfl _ _ (w.heap.size+1) _ _ (0,0) _ rfl HF.out.2 Tryz.underlying30 rfl (by kernel_rfl)) rfl ?_)
  exact HF.out.1
 ·have ha:=HAN.out
  rw[if_pos rfl] at ha
  subst ha
  clear HAN
  have HF:=hdd (say_ret (w:=w) (p:=p) (c:=c) wOk HR8.out (by omega) HO8.out HB8.out q1 q2)
  go_wp2
  ((try simp only[Exit.inBlock,Exit.then]); refine bodyPost_ret (results_cell_tmp rfl _ _ (w.heap.size+1) _ _ (0,0) _ rfl HF.out.2 Tryz.underlying30 rfl (by kernel_rfl)) rfl ?_)
  exact HF.out.1
set_option maxHeartbeats 8000000 in
theorem lineS_fit {B:Nat} (p c:Int) (v:Value) (gs:List Gs) (l:List UInt8) (w:World) (h:RG B w v gs) (hl:l.length≤2000000) (hd:readD l=none) (hok:deskB p c gs=true) (hc:∀ g∈gs,g.code.length≤2000000) (b1:(l==[102,105,116])=true):
  Calls Tryz.prog 21 #[dkV p c v,strV l] w (SayOut p c gs (Lib.decDigits (fitL p c gs).length) w):=by
 have HRG:=hdd h
 have HC:=hdd hc
 have hlen:=deskB_len hok
 obtain ⟨a,cap,rfl⟩:=h.shape
 obtain ⟨w1,hw1⟩:∃ w1,w1=(w.alloc (.cells #[.int .i64 p,.int .i64 c,.slice a gs.length cap] 30)).alloc (.cells #[.int .i64 0,.int .i64 0,.slice none 0 0] 30):=⟨_,rfl⟩
 have hb1:Below w.heap.size w w1:=by rw[hw1]; exact ((Below.refl _ _).alloc (Nat.le_refl _) _).alloc (by simp) _
 have hs1:w1.heap.size=w.heap.size+2:=by rw[hw1]; simp
 have hz0:At w1 w.heap.size (.cells #[.int .i64 p,.int .i64 c,.slice a gs.length cap] 30):=by
  rw[hw1]; exact (At.new w _).below ((Below.refl _ _).alloc (Nat.le_refl _) _)
 have hz1:At w1 (w.heap.size+1) (.cells #[.int .i64 0,.int .i64 0,.slice none 0 0] 30):=by
  rw[hw1]; have q:=At.new (w.alloc (.cells #[.int .i64 p,.int .i64 c,.slice a gs.length cap] 30)) (.cells #[.int .i64 0,.int .i64 0,.slice none 0 0] 30); rw[World.size_alloc] at q; exact q
 have hK:=deskOkS_any p c _ gs w1 (HRG.out.below hb1).toGL
 rw[hok] at hK
 have HB1:=hdd hb1
 have HS1:=hdd hs1
 have HZ0:=hdd hz0
 have HZ1:=hdd hz1
 have HRD:=hdd (rd_none hd)
 have HF3:=hdd (fun W (q:RG B W (.slice a gs.length cap) gs)=>fitS_any p c _ gs W q.toGL)
 have HFL:=hdd (fitL_len p c gs)
 obtain ⟨L,hL⟩:∃ L,L=fitL p c gs:=⟨_,rfl⟩
 rw[←hL] at HF3 HFL ⊢
 have HT3:=hdd (fun W=>l1NumN L.length W (by have:=HFL.out; omega))
 obtain ⟨an,han⟩:∃ an,an=Lib.decDigits L.length:=⟨_,rfl⟩
 rw[←han] at HT3 ⊢
 unfold strV at HT3
 clear han hL
 unfold dkV at hK
 unfold dkV strV
 obtain ⟨x0,x1,x2⟩:=hz0.three
 clear h hc hb1 hs1 hz0 hz1 hok hd
 go_enter Tryz.func21,Tryz.ntmps21
 go_wp2_with fail
 rw[←hw1]
 clear hw1
 refine hK.mono ?_
 rintro e w2 ⟨rfl,hb2⟩
 have HB2:=hdd (HB1.out.trans (hb2.mono HB1.out.size))
 have HB12:=hdd hb2
 have hCP:=copS_any p c _ gs w2 (HRG.out.below HB2.out).toGL (by omega) HC.out
 unfold dkV at hCP
 clear hK hb2 x0 x1 x2
 obtain ⟨x0,x1,x2⟩:=(HZ0.out.below HB12.out).three
 go_wp2_with fail
 refine hCP.mono ?_
 rintro e w3 ⟨a3,c3,rfl,ho3,hb3⟩
 unfold dkV
 obtain ⟨w4,hw4⟩:∃ z,z=w3.alloc (.cells #[.int .i64 p,.int .i64 c,.slice a3 gs.length c3] 30):=⟨_,rfl⟩
 have hb34:Below w3.heap.size w3 w4:=by rw[hw4]; exact (Below.refl _ _).alloc (Nat.le_refl _) _
 have HZ6:=hdd (show At w4 w3.heap.size (.cells #[.int .i64 p,.int .i64 c,.slice a3 gs.length c3] 30) by rw[hw4]; exact At.new w3 _)
 have HB14:=hdd (HB12.out.trans ((hb3.trans (hb34.mono hb3.size)).mono HB12.out.size))
 have HB4:=hdd (HB1.out.trans (HB14.out.mono HB1.out.size))
 have HO4:=hdd (show OwnG w2.heap.size w4 (.slice a3 gs.length c3) gs from ho3.below hb34)
 have hI:=readDeedS_any l w4 (by omega)
 unfold ReadOut at hI
 rw[HRD.out.1,HRD.out.2] at hI
 simp only[List.length_nil] at hI
 unfold strV dV at hI
 have HG6:=hdd (show w.heap.size+1<w3.heap.size by have:=HS1.out; have:=HB12.out.size; have:=hb3.size; omega)
 have HR2:=hdd (show w.heap.size+1<w2.heap.size by have:=HS1.out; have:=HB12.out.size; omega)
 clear hCP ho3 hb3 hb34 x0 x1 x2
 go_wp2_with fail
 rw[←hw4]
 clear hw4
 refine hI.mono ?_
 rintro e w5 ⟨a5,k5,rfl,ho5,hb5⟩
 obtain ⟨w6,hw6⟩:∃ z,z=w5.alloc (.cells #[.bool false,.slice a5 0 k5,.int .i64 0,.int .i64 0] 41):=⟨_,rfl⟩
 have hb56:Below w5.heap.size w5 w6:=by rw[hw6]; exact (Below.refl _ _).alloc (Nat.le_refl _) _
 have HB46:=hdd (hb5.trans (hb56.mono hb5.size))
 have HB16:=hdd (HB14.out.trans (HB46.out.mono HB14.out.size))
 have HB6:=hdd (HB1.out.trans (HB16.out.mono HB1.out.size))
 clear hI ho5 hb5 hb56
 go_upto_region 5 with fail
 rw[←hw6]
 clear hw6
 obtain ⟨x0,x1,x2⟩:=(HZ0.out.below HB16.out).three
 skip
 have HC2:=hdd (HZ0.out.below HB16.out).three
 have HC6:=hdd (HZ6.out.below HB46.out).three
 have HBX:=hdd (HZ1.out.below HB16.out)
 have HBX6:=hdd HB6.out
 have HOX:=hdd (HO4.out.below HB46.out)
 have HRGW:=hdd (fun W (q:RelD (w.heap.size+1) (.int .i64 p) (.int .i64 c) (.slice a3 gs.length c3) w6 W)=>HRG.out.below (HBX6.out.grown q.grown HBX6.out.size (fun k hk=>by injection hk; omega)))
 clear x0 x1 x2
 go_wp2
 refine wp_region_invN (Rel:=RelD (w.heap.size+1) (.int .i64 p) (.int .i64 c) (.slice a3 gs.length c3)) 10 0 (fun a b c=>RelD.trans) (fun w=>RelD.of (Below.refl _ _).drew) (by kernel_rfl) (fun k=>(#[38,39,40,41,42,43,44,45,46,47,1000,5]:Array Nat).getD k 0) 74
  (fun k v W=>match k with
   | 0=>v=.agg #[.int .i64 p,.int .i64 c,.slice a3 gs.length c3]
   | 1=>v=.pointer (some ⟨w.heap.size,0,none⟩)
   | 2=>v=.int .i64 p
   | 3=>v=.pointer (some ⟨w.heap.size,1,none⟩)
   | 4=>v=.int .i64 c
   | 5=>v=.pointer (some ⟨w.heap.size,2,none⟩)
   | 6=>v=.slice a gs.length cap
   | 7=>∃ a4 c4,v=.slice a4 L.length c4
   | 8=>v=.int .i64 (L.length:Nat)
   | 9=>v=.string ⟨an.toArray⟩
   | 10=>At W (w.heap.size+1) (DC (.int .i64 p) (.int .i64 c) (.slice a3 gs.length c3))
   | 11=>v=.string ⟨an.toArray⟩
   | _=>False) ?sz ?chk ?mono ?step ?fin
 case sz=>rfl
 case chk=>kernel_rfl
 case mono=>
  intro k v W W' h hb
  match k,h with
  | 0,h=>exact h
  | 1,h=>exact h
  | 2,h=>exact h
  | 3,h=>exact h
  | 4,h=>exact h
  | 5,h=>exact h
  | 6,h=>exact h
  | 7,h=>exact h
  | 8,h=>exact h
  | 9,h=>exact h
  | 10,h=>exact hb.full h
  | 11,h=>exact h
 case step=>
  intro i o ho A W hW hA hD K hK
  match i,ho with
  | 0,ho=>
   simp only[List.getElem?_cons_zero,Option.some.injEq] at ho
   subst ho
   have e6:A.tmps.getD 6 undef=.pointer (some ⟨w3.heap.size,0,none⟩):=(hA 6 (by kernel_rfl)).trans rfl
   have e6':=gDq e6
   have HK:=hdd (show ∀ v W',RelD (w.heap.size+1) (.int .i64 p) (.int .i64 c) (.slice a3 gs.length c3) W W'→(v=.agg #[.int .i64 p,.int .i64 c,.slice a3 gs.length c3])→K (A.put (some 38) v) W' from fun v W' h1 h2=>hK.out v W' h1 h2 (fun q=>absurd q (by decide)))
   have HW:=hdd hW
   have y0:=cell_grown hW.grown (by have:=HG6.out; omega) HC6.out.1
   have y1:=cell_grown hW.grown (by have:=HG6.out; omega) HC6.out.2.1
   have y2:=cell_grown hW.grown (by have:=HG6.out; omega) HC6.out.2.2
   clear hA hD hK hW
   go_simp
   exact HK.out _ _ (RelD.refl _ _ _ _ _) rfl
  | 1,ho=>
   simp only[List.getElem?_cons_succ,List.getElem?_cons_zero,Option.some.injEq] at ho
   subst ho
   have e2:A.tmps.getD 2 undef=.pointer (some ⟨w.heap.size,0,none⟩):=(hA 2 (by kernel_rfl)).trans rfl
   have e2':=gDq e2
   have HK:=hdd (show ∀ v W',RelD (w.heap.size+1) (.int .i64 p) (.int .i64 c) (.slice a3 gs.length c3) W W'→(v=.pointer (some ⟨w.heap.size,0,none⟩))→K (A.put (some 39) v) W' from fun v W' h1 h2=>hK.out v W' h1 h2 (fun q=>absurd q (by decide)))
   have HW:=hdd hW
   clear hA hD hK hW
   go_simp
   exact HK.out _ _ (RelD.refl _ _ _ _ _) rfl
  | 2,ho=>
   simp only[List.getElem?_cons_succ,List.getElem?_cons_zero,Option.some.injEq] at ho
   subst ho
   have d1:A.tmps.getD 39 undef=.pointer (some ⟨w.heap.size,0,none⟩):=hD 1 (by decide) (by kernel_rfl)
   have HK:=hdd (show ∀ v W',RelD (w.heap.size+1) (.int .i64 p) (.int .i64 c) (.slice a3 gs.length c3) W W'→(v=.int .i64 p)→K (A.put (some 40) v) W' from fun v W' h1 h2=>hK.out v W' h1 h2 (fun q=>absurd q (by decide)))
   have HW:=hdd hW
   have y0:=cell_grown hW.grown (by omega) HC2.out.1
   clear hA hD hK hW
   have d1':=gDq d1
   go_simp
   exact HK.out _ _ (RelD.refl _ _ _ _ _) rfl
  | 3,ho=>
   simp only[List.getElem?_cons_succ,List.getElem?_cons_zero,Option.some.injEq] at ho
   subst ho
   have e2:A.tmps.getD 2 undef=.pointer (some ⟨w.heap.size,0,none⟩):=(hA 2 (by kernel_rfl)).trans rfl
   have e2':=gDq e2
   have HK:=hdd (show ∀ v W',RelD (w.heap.size+1) (.int .i64 p) (.int .i64 c) (.slice a3 gs.length c3) W W'→(v=.pointer (some ⟨w.heap.size,1,none⟩))→K (A.put (some 41) v) W' from fun v W' h1 h2=>hK.out v W' h1 h2 (fun q=>absurd q (by decide)))
   have HW:=hdd hW
   clear hA hD hK hW
   go_simp
   exact HK.out _ _ (RelD.refl _ _ _ _ _) rfl
  | 4,ho=>
   simp only[List.getElem?_cons_succ,List.getElem?_cons_zero,Option.some.injEq] at ho
   subst ho
   have d3:A.tmps.getD 41 undef=.pointer (some ⟨w.heap.size,1,none⟩):=hD 3 (by decide) (by kernel_rfl)
   have HK:=hdd (show ∀ v W',RelD (w.heap.size+1) (.int .i64 p) (.int .i64 c) (.slice a3 gs.length c3) W W'→(v=.int .i64 c)→K (A.put (some 42) v) W' from fun v W' h1 h2=>hK.out v W' h1 h2 (fun q=>absurd q (by decide)))
   have HW:=hdd hW
   have y0:=cell_grown hW.grown (by omega) HC2.out.2.1
   clear hA hD hK hW
   have d3':=gDq d3
   go_simp
   exact HK.out _ _ (RelD.refl _ _ _ _ _) rfl
  | 5,ho=>
   simp only[List.getElem?_cons_succ,List.getElem?_cons_zero,Option.some.injEq] at ho
   subst ho
   have e2:A.tmps.getD 2 undef=.pointer (some ⟨w.heap.size,0,none⟩):=(hA 2 (by kernel_rfl)).trans rfl
   have e2':=gDq e2
   have HK:=hdd (show ∀ v W',RelD (w.heap.size+1) (.int .i64 p) (.int .i64 c) (.slice a3 gs.length c3) W W'→(v=.pointer (some ⟨w.heap.size,2,none⟩))→K (A.put (some 43) v) W' from fun v W' h1 h2=>hK.out v W' h1 h2 (fun q=>absurd q (by decide)))
   have HW:=hdd hW
   clear hA hD hK hW
   go_simp
   exact HK.out _ _ (RelD.refl _ _ _ _ _) rfl
  | 6,ho=>
   simp only[List.getElem?_cons_succ,List.getElem?_cons_zero,Option.some.injEq] at ho
   subst ho
   have d5:A.tmps.getD 43 undef=.pointer (some ⟨w.heap.size,2,none⟩):=hD 5 (by decide) (by kernel_rfl)
   have HK:=hdd (show ∀ v W',RelD (w.heap.size+1) (.int .i64 p) (.int .i64 c) (.slice a3 gs.length c3) W W'→(v=.slice a gs.length cap)→K (A.put (some 44) v) W' from fun v W' h1 h2=>hK.out v W' h1 h2 (fun q=>absurd q (by decide)))
   have HW:=hdd hW
   have y0:=cell_grown hW.grown (by omega) HC2.out.2.2
   clear hA hD hK hW
   have d5':=gDq d5
   go_simp
   exact HK.out _ _ (RelD.refl _ _ _ _ _) rfl
  | 7,ho=>
   simp only[List.getElem?_cons_succ,List.getElem?_cons_zero,Option.some.injEq] at ho
   subst ho
   have d2:A.tmps.getD 40 undef=.int .i64 p:=hD 2 (by decide) (by kernel_rfl)
   have d4:A.tmps.getD 42 undef=.int .i64 c:=hD 4 (by decide) (by kernel_rfl)
   have d6:A.tmps.getD 44 undef=.slice a gs.length cap:=hD 6 (by decide) (by kernel_rfl)
   have HK:=hdd (show ∀ v W',RelD (w.heap.size+1) (.int .i64 p) (.int .i64 c) (.slice a3 gs.length c3) W W'→(∃ a4 c4,v=.slice a4 L.length c4)→K (A.put (some 45) v) W' from fun v W' h1 h2=>hK.out v W' h1 h2 (fun q=>absurd q (by decide)))
   have HW:=hdd hW
   clear hA hD hK hW
   have d2':=gDq d2
   have d4':=gDq d4
   have d6':=gDq d6
   go_simp
   refine (HF3.out W (HRGW.out W HW.out)).mono ?_
   rintro e W' ⟨a4,c4,rfl,_,hb⟩
   exact HK.out _ _ (RelD.of hb) ⟨a4,c4,rfl⟩
  | 8,ho=>
   simp only[List.getElem?_cons_succ,List.getElem?_cons_zero,Option.some.injEq] at ho
   subst ho
   have d7:∃ a4 c4,(A.tmps.getD 45 undef)=.slice a4 L.length c4:=hD 7 (by decide) (by kernel_rfl)
   have HK:=hdd (show ∀ v W',RelD (w.heap.size+1) (.int .i64 p) (.int .i64 c) (.slice a3 gs.length c3) W W'→(v=.int .i64 (L.length:Nat))→K (A.put (some 46) v) W' from fun v W' h1 h2=>hK.out v W' h1 h2 (fun q=>absurd q (by decide)))
   have HW:=hdd hW
   clear hA hD hK hW
   obtain ⟨v7,hv7⟩:∃ z,A.tmps.getD 45 undef=z:=⟨_,rfl⟩
   rw[hv7] at d7
   have hv7':=gDq hv7
   obtain ⟨a4,c4,rfl⟩:=d7
   go_simp
   exact HK.out _ _ (RelD.refl _ _ _ _ _) rfl
  | 9,ho=>
   simp only[List.getElem?_cons_succ,List.getElem?_cons_zero,Option.some.injEq] at ho
   subst ho
   have d8:A.tmps.getD 46 undef=.int .i64 (L.length:Nat):=hD 8 (by decide) (by kernel_rfl)
   have HK:=hdd (show ∀ v W',RelD (w.heap.size+1) (.int .i64 p) (.int .i64 c) (.slice a3 gs.length c3) W W'→(v=.string ⟨an.toArray⟩)→K (A.put (some 47) v) W' from fun v W' h1 h2=>hK.out v W' h1 h2 (fun q=>absurd q (by decide)))
   have HW:=hdd hW
   clear hA hD hK hW
   have d8':=gDq d8
   go_simp
   refine (HT3.out W).mono ?_
   rintro e W' ⟨rfl,hb⟩
   exact HK.out _ _ (RelD.of hb) rfl
  | 10,ho=>
   simp only[List.getElem?_cons_succ,List.getElem?_cons_zero,Option.some.injEq] at ho
   subst ho
   have e4:A.tmps.getD 4 undef=.pointer (some ⟨w.heap.size+1,0,none⟩):=(hA 4 (by kernel_rfl)).trans rfl
   have e4':=gDq e4
   have d0:A.tmps.getD 38 undef=.agg #[.int .i64 p,.int .i64 c,.slice a3 gs.length c3]:=hD 0 (by decide) (by kernel_rfl)
   have HK:=hdd (show ∀ W',RelD (w.heap.size+1) (.int .i64 p) (.int .i64 c) (.slice a3 gs.length c3) W W'→(At W' (w.heap.size+1) (DC (.int .i64 p) (.int .i64 c) (.slice a3 gs.length c3)))→K A W' from fun W' h1 h2=>hK.out _ W' h1 h2 (fun _=>rfl))
   have HW:=hdd hW
   obtain ⟨x',y',z',hat⟩:=hW.box ⟨_,_,_,HBX.out⟩
   obtain ⟨z0,z1,z2⟩:=At.three hat
   have hth:=At.thaw hat
   have HST:=hdd (RelD.store (x:=.int .i64 p) (y:=.int .i64 c) (z:=.slice a3 gs.length c3) hat)
   clear hat
   clear hA hD hK hW
   have d0':=gDq d0
   go_simp
   exact HK.out _ HST.out.1 HST.out.2
  | 11,ho=>
   simp only[List.getElem?_cons_succ,List.getElem?_cons_zero,Option.some.injEq] at ho
   subst ho
   have d9:A.tmps.getD 47 undef=.string ⟨an.toArray⟩:=hD 9 (by decide) (by kernel_rfl)
   have HK:=hdd (show ∀ v W',RelD (w.heap.size+1) (.int .i64 p) (.int .i64 c) (.slice a3 gs.length c3) W W'→(v=.string ⟨an.toArray⟩)→K (A.put (some 5) v) W' from fun v W' h1 h2=>hK.out v W' h1 h2 (fun q=>absurd q (by decide)))
   have HW:=hdd hW
   clear hA hD hK hW
   have d9':=gDq d9
   go_simp
   exact HK.out _ _ (RelD.refl _ _ _ _ _) rfl
  | n+12,ho=>
   simp at ho
 case fin=>
  intro vs W hW h hce
  have h0:vs 11=.string ⟨an.toArray⟩:=h 11 (by decide)
  have hat:At W (w.heap.size+1) (DC (.int .i64 p) (.int .i64 c) (.slice a3 gs.length c3)):=h 10 (by decide)
  have HAT:=hdd hat
  have HF:=hdd (line_out (w:=w) an hat ((HOX.out.keep (Above.of_grown hW.grown HR2.out)).mono HB2.out.size) (HBX6.out.grown hW.grown HBX6.out.size (fun k hk=>by injection hk; omega)))
  rw[invA_lit [none,none,none,none,none,some 11,none,none,none,none,none,none,none,none,none,none,none,none,none,none,none,none,none,none,none,none,none,none,none,none,none,none,none,none,none,none,none,none,some 0,some 1,some 2,some 3,some 4,some 5,some 6,some 7,some 8,some 9,none,none,none,none,none,none,none,none,none,none,none,none,none,none,none,none,none,none,none,none,none,none,none,none,none,none] (by kernel_rfl) rfl]
  simp only[List.zipWith_cons_cons,List.zipWith_nil_left]
  rw[h0]
  clear h h0 hW hat hce
  go_wp2
  ((try simp only[Exit.inBlock,Exit.then]); refine bodyPost_ret (results_cell_tmp rfl _ _ (w.heap.size+1) _ _ (0,0) _ rfl HAT.out Tryz.underlying30 rfl (by kernel_rfl)) rfl ?_)
  exact HF.out
set_option maxHeartbeats 8000000 in
theorem lineS_next {B:Nat} (p c:Int) (v:Value) (gs:List Gs) (l:List UInt8) (w:World) (h:RG B w v gs) (hl:l.length≤2000000) (hd:readD l=none) (hok:deskB p c gs=true) (hc:∀ g∈gs,g.code.length≤2000000) (b1:(l==[102,105,116])=false) (b2:(l==[110,101,120,116])=true):
  Calls Tryz.prog 21 #[dkV p c v,strV l] w (SayOut p c gs (dgs (nextL (fitL p c gs))) w):=by
 have HRG:=hdd h
 have HC:=hdd hc
 have hlen:=deskB_len hok
 obtain ⟨a,cap,rfl⟩:=h.shape
 obtain ⟨w1,hw1⟩:∃ w1,w1=(w.alloc (.cells #[.int .i64 p,.int .i64 c,.slice a gs.length cap] 30)).alloc (.cells #[.int .i64 0,.int .i64 0,.slice none 0 0] 30):=⟨_,rfl⟩
 have hb1:Below w.heap.size w w1:=by rw[hw1]; exact ((Below.refl _ _).alloc (Nat.le_refl _) _).alloc (by simp) _
 have hs1:w1.heap.size=w.heap.size+2:=by rw[hw1]; simp
 have hz0:At w1 w.heap.size (.cells #[.int .i64 p,.int .i64 c,.slice a gs.length cap] 30):=by
  rw[hw1]; exact (At.new w _).below ((Below.refl _ _).alloc (Nat.le_refl _) _)
 have hz1:At w1 (w.heap.size+1) (.cells #[.int .i64 0,.int .i64 0,.slice none 0 0] 30):=by
  rw[hw1]; have q:=At.new (w.alloc (.cells #[.int .i64 p,.int .i64 c,.slice a gs.length cap] 30)) (.cells #[.int .i64 0,.int .i64 0,.slice none 0 0] 30); rw[World.size_alloc] at q; exact q
 have hK:=deskOkS_any p c _ gs w1 (HRG.out.below hb1).toGL
 rw[hok] at hK
 have HB1:=hdd hb1
 have HS1:=hdd hs1
 have HZ0:=hdd hz0
 have HZ1:=hdd hz1
 have HRD:=hdd (rd_none hd)
 have HF3:=hdd (fun W (q:RG B W (.slice a gs.length cap) gs)=>nextS_any p c _ gs W q.toGL)
 have HD3:=hdd (next_digits hok)
 unfold NextOut at HF3
 obtain ⟨L,hL⟩:∃ L,L=nextL (fitL p c gs):=⟨_,rfl⟩
 rw[←hL] at HF3 HD3 ⊢
 obtain ⟨kb,hkb⟩:∃ kb,kb=decide (0<(fitL p c gs).length):=⟨_,rfl⟩
 rw[←hkb] at HF3
 obtain ⟨an,han⟩:∃ an,an=dgs L:=⟨_,rfl⟩
 have HAN:=hdd han
 rw[←han]
 clear han hL hkb
 unfold dkV at hK
 unfold dkV strV
 obtain ⟨x0,x1,x2⟩:=hz0.three
 clear h hc hb1 hs1 hz0 hz1 hok hd
 go_enter Tryz.func21,Tryz.ntmps21
 go_wp2_with fail
 rw[←hw1]
 clear hw1
 refine hK.mono ?_
 rintro e w2 ⟨rfl,hb2⟩
 have HB2:=hdd (HB1.out.trans (hb2.mono HB1.out.size))
 have HB12:=hdd hb2
 have hCP:=copS_any p c _ gs w2 (HRG.out.below HB2.out).toGL (by omega) HC.out
 unfold dkV at hCP
 clear hK hb2 x0 x1 x2
 obtain ⟨x0,x1,x2⟩:=(HZ0.out.below HB12.out).three
 go_wp2_with fail
 refine hCP.mono ?_
 rintro e w3 ⟨a3,c3,rfl,ho3,hb3⟩
 unfold dkV
 obtain ⟨w4,hw4⟩:∃ z,z=w3.alloc (.cells #[.int .i64 p,.int .i64 c,.slice a3 gs.length c3] 30):=⟨_,rfl⟩
 have hb34:Below w3.heap.size w3 w4:=by rw[hw4]; exact (Below.refl _ _).alloc (Nat.le_refl _) _
 have HZ6:=hdd (show At w4 w3.heap.size (.cells #[.int .i64 p,.int .i64 c,.slice a3 gs.length c3] 30) by rw[hw4]; exact At.new w3 _)
 have HB14:=hdd (HB12.out.trans ((hb3.trans (hb34.mono hb3.size)).mono HB12.out.size))
 have HB4:=hdd (HB1.out.trans (HB14.out.mono HB1.out.size))
 have HO4:=hdd (show OwnG w2.heap.size w4 (.slice a3 gs.length c3) gs from ho3.below hb34)
 have hI:=readDeedS_any l w4 (by omega)
 unfold ReadOut at hI
 rw[HRD.out.1,HRD.out.2] at hI
 simp only[List.length_nil] at hI
 unfold strV dV at hI
 have HG6:=hdd (show w.heap.size+1<w3.heap.size by have:=HS1.out; have:=HB12.out.size; have:=hb3.size; omega)
 have HR2:=hdd (show w.heap.size+1<w2.heap.size by have:=HS1.out; have:=HB12.out.size; omega)
 clear hCP ho3 hb3 hb34 x0 x1 x2
 go_wp2_with fail
 rw[←hw4]
 clear hw4
 refine hI.mono ?_
 rintro e w5 ⟨a5,k5,rfl,ho5,hb5⟩
 obtain ⟨w6,hw6⟩:∃ z,z=w5.alloc (.cells #[.bool false,.slice a5 0 k5,.int .i64 0,.int .i64 0] 41):=⟨_,rfl⟩
 have hb56:Below w5.heap.size w5 w6:=by rw[hw6]; exact (Below.refl _ _).alloc (Nat.le_refl _) _
 have HB46:=hdd (hb5.trans (hb56.mono hb5.size))
 have HB16:=hdd (HB14.out.trans (HB46.out.mono HB14.out.size))
 have HB6:=hdd (HB1.out.trans (HB16.out.mono HB1.out.size))
 clear hI ho5 hb5 hb56
 go_upto_region 5 with fail
 rw[←hw6]
 clear hw6
 obtain ⟨x0,x1,x2⟩:=(HZ0.out.below HB16.out).three
 have hT:=HF3.out w6 (HRG.out.below HB6.out)
 go_wp2_with fail
 refine hT.mono ?_
 rintro e w7 ⟨a7,c7,rfl,ho7,hb7⟩
 have HB7:=hdd (HB6.out.trans (hb7.mono HB6.out.size))
 have HB17:=hdd (HB16.out.trans (hb7.mono HB16.out.size))
 have HB47:=hdd (HB46.out.trans (hb7.mono HB46.out.size))
 have HI7:=hdd (ho7.toInts (allD_in HD3.out.1))
 have HB67:=hdd hb7
 have HIW:=hdd (fun W (q:RelD (w.heap.size+1) (.int .i64 p) (.int .i64 c) (.slice a3 gs.length c3) w7 W)=>show Ints (w.heap.size+2) W (.slice a7 L.length c7) L from (HI7.out.mono (show w.heap.size+2≤w6.heap.size by have:=HS1.out; have:=HB16.out.size; omega)).keep (Above.of_grown q.grown (by omega)))
 have HT3:=hdd (fun W (q:Ints (w.heap.size+2) W (.slice a7 L.length c7) L)=>l15Code_any _ L W q HD3.out.1 HD3.out.2)
 rw[←HAN.out] at HT3
 unfold strV at HT3
 clear hT ho7 hb7
 have HC2:=hdd (HZ0.out.below HB17.out).three
 have HC6:=hdd (HZ6.out.below HB47.out).three
 have HBX:=hdd (HZ1.out.below HB17.out)
 have HBX6:=hdd HB7.out
 have HOX:=hdd (HO4.out.below HB47.out)
 have HRGW:=hdd (fun W (q:RelD (w.heap.size+1) (.int .i64 p) (.int .i64 c) (.slice a3 gs.length c3) w7 W)=>HRG.out.below (HBX6.out.grown q.grown HBX6.out.size (fun k hk=>by injection hk; omega)))
 clear x0 x1 x2
 go_wp2
 refine wp_region_invN (Rel:=RelD (w.heap.size+1) (.int .i64 p) (.int .i64 c) (.slice a3 gs.length c3)) 3 0 (fun a b c=>RelD.trans) (fun w=>RelD.of (Below.refl _ _).drew) (by kernel_rfl) (fun k=>(#[60,61,62,1000,5]:Array Nat).getD k 0) 74
  (fun k v W=>match k with
   | 0=>v=.agg #[.int .i64 p,.int .i64 c,.slice a3 gs.length c3]
   | 1=>v=.slice a7 L.length c7
   | 2=>v=.string ⟨an.toArray⟩
   | 3=>At W (w.heap.size+1) (DC (.int .i64 p) (.int .i64 c) (.slice a3 gs.length c3))
   | 4=>v=.string ⟨an.toArray⟩
   | _=>False) ?sz ?chk ?mono ?step ?fin
 case sz=>rfl
 case chk=>kernel_rfl
 case mono=>
  intro k v W W' h hb
  match k,h with
  | 0,h=>exact h
  | 1,h=>exact h
  | 2,h=>exact h
  | 3,h=>exact hb.full h
  | 4,h=>exact h
 case step=>
  intro i o ho A W hW hA hD K hK
  match i,ho with
  | 0,ho=>
   simp only[List.getElem?_cons_zero,Option.some.injEq] at ho
   subst ho
   have e6:A.tmps.getD 6 undef=.pointer (some ⟨w3.heap.size,0,none⟩):=(hA 6 (by kernel_rfl)).trans rfl
   have e6':=gDq e6
   have HK:=hdd (show ∀ v W',RelD (w.heap.size+1) (.int .i64 p) (.int .i64 c) (.slice a3 gs.length c3) W W'→(v=.agg #[.int .i64 p,.int .i64 c,.slice a3 gs.length c3])→K (A.put (some 60) v) W' from fun v W' h1 h2=>hK.out v W' h1 h2 (fun q=>absurd q (by decide)))
   have HW:=hdd hW
   have y0:=cell_grown hW.grown (by have:=HG6.out; omega) HC6.out.1
   have y1:=cell_grown hW.grown (by have:=HG6.out; omega) HC6.out.2.1
   have y2:=cell_grown hW.grown (by have:=HG6.out; omega) HC6.out.2.2
   clear hA hD hK hW
   go_simp
   exact HK.out _ _ (RelD.refl _ _ _ _ _) rfl
  | 1,ho=>
   simp only[List.getElem?_cons_succ,List.getElem?_cons_zero,Option.some.injEq] at ho
   subst ho
   have e11:A.tmps.getD 11 undef=.slice a7 L.length c7:=(hA 11 (by kernel_rfl)).trans rfl
   have e11':=gDq e11
   have HK:=hdd (show ∀ v W',RelD (w.heap.size+1) (.int .i64 p) (.int .i64 c) (.slice a3 gs.length c3) W W'→(v=.slice a7 L.length c7)→K (A.put (some 61) v) W' from fun v W' h1 h2=>hK.out v W' h1 h2 (fun q=>absurd q (by decide)))
   have HW:=hdd hW
   clear hA hD hK hW
   go_simp
   exact HK.out _ _ (RelD.refl _ _ _ _ _) rfl
  | 2,ho=>
   simp only[List.getElem?_cons_succ,List.getElem?_cons_zero,Option.some.injEq] at ho
   subst ho
   have d1:A.tmps.getD 61 undef=.slice a7 L.length c7:=hD 1 (by decide) (by kernel_rfl)
   have HK:=hdd (show ∀ v W',RelD (w.heap.size+1) (.int .i64 p) (.int .i64 c) (.slice a3 gs.length c3) W W'→(v=.string ⟨an.toArray⟩)→K (A.put (some 62) v) W' from fun v W' h1 h2=>hK.out v W' h1 h2 (fun q=>absurd q (by decide)))
   have HW:=hdd hW
   clear hA hD hK hW
   have d1':=gDq d1
   go_simp
   refine (HT3.out W (HIW.out W HW.out)).mono ?_
   rintro e W' ⟨rfl,hb⟩
   exact HK.out _ _ (RelD.of hb) rfl
  | 3,ho=>
   simp only[List.getElem?_cons_succ,List.getElem?_cons_zero,Option.some.injEq] at ho
   subst ho
   have e4:A.tmps.getD 4 undef=.pointer (some ⟨w.heap.size+1,0,none⟩):=(hA 4 (by kernel_rfl)).trans rfl
   have e4':=gDq e4
   have d0:A.tmps.getD 60 undef=.agg #[.int .i64 p,.int .i64 c,.slice a3 gs.length c3]:=hD 0 (by decide) (by kernel_rfl)
   have HK:=hdd (show ∀ W',RelD (w.heap.size+1) (.int .i64 p) (.int .i64 c) (.slice a3 gs.length c3) W W'→(At W' (w.heap.size+1) (DC (.int .i64 p) (.int .i64 c) (.slice a3 gs.length c3)))→K A W' from fun W' h1 h2=>hK.out _ W' h1 h2 (fun _=>rfl))
   have HW:=hdd hW
   obtain ⟨x',y',z',hat⟩:=hW.box ⟨_,_,_,HBX.out⟩
   obtain ⟨z0,z1,z2⟩:=At.three hat
   have hth:=At.thaw hat
   have HST:=hdd (RelD.store (x:=.int .i64 p) (y:=.int .i64 c) (z:=.slice a3 gs.length c3) hat)
   clear hat
   clear hA hD hK hW
   have d0':=gDq d0
   go_simp
   exact HK.out _ HST.out.1 HST.out.2
  | 4,ho=>
   simp only[List.getElem?_cons_succ,List.getElem?_cons_zero,Option.some.injEq] at ho
   subst ho
   have d2:A.tmps.getD 62 undef=.string ⟨an.toArray⟩:=hD 2 (by decide) (by kernel_rfl)
   have HK:=hdd (show ∀ v W',RelD (w.heap.size+1) (.int .i64 p) (.int .i64 c) (.slice a3 gs.length c3) W W'→(v=.string ⟨an.toArray⟩)→K (A.put (some 5) v) W' from fun v W' h1 h2=>hK.out v W' h1 h2 (fun q=>absurd q (by decide)))
   have HW:=hdd hW
   clear hA hD hK hW
   have d2':=gDq d2
   go_simp
   exact HK.out _ _ (RelD.refl _ _ _ _ _) rfl
  | n+5,ho=>
   simp at ho
 case fin=>
  intro vs W hW h hce
  have h0:vs 4=.string ⟨an.toArray⟩:=h 4 (by decide)
  have hat:At W (w.heap.size+1) (DC (.int .i64 p) (.int .i64 c) (.slice a3 gs.length c3)):=h 3 (by decide)
  have HAT:=hdd hat
  have HF:=hdd (line_out (w:=w) an hat ((HOX.out.keep (Above.of_grown hW.grown HR2.out)).mono HB2.out.size) (HBX6.out.grown hW.grown HBX6.out.size (fun k hk=>by injection hk; omega)))
  rw[invA_lit [none,none,none,none,none,some 4,none,none,none,none,none,none,none,none,none,none,none,none,none,none,none,none,none,none,none,none,none,none,none,none,none,none,none,none,none,none,none,none,none,none,none,none,none,none,none,none,none,none,none,none,none,none,none,none,none,none,none,none,none,none,some 0,some 1,some 2,none,none,none,none,none,none,none,none,none,none,none] (by kernel_rfl) rfl]
  simp only[List.zipWith_cons_cons,List.zipWith_nil_left]
  rw[h0]
  clear h h0 hW hat hce
  go_wp2
  ((try simp only[Exit.inBlock,Exit.then]); refine bodyPost_ret (results_cell_tmp rfl _ _ (w.heap.size+1) _ _ (0,0) _ rfl HAT.out Tryz.underlying30 rfl (by kernel_rfl)) rfl ?_)
  exact HF.out
set_option maxHeartbeats 8000000 in
theorem lineS_made {B:Nat} (p c:Int) (v:Value) (gs:List Gs) (l:List UInt8) (w:World) (h:RG B w v gs) (hl:l.length≤2000000) (hd:readD l=none) (hok:deskB p c gs=true) (hc:∀ g∈gs,g.code.length≤2000000) (b1:(l==[102,105,116])=false) (b2:(l==[110,101,120,116])=false) (b3:(l==[109,97,100,101])=true):
  Calls Tryz.prog 21 #[dkV p c v,strV l] w (SayOut p c gs (Lib.decDigits gs.length) w):=by
 have HRG:=hdd h
 have HC:=hdd hc
 have hlen:=deskB_len hok
 obtain ⟨a,cap,rfl⟩:=h.shape
 obtain ⟨w1,hw1⟩:∃ w1,w1=(w.alloc (.cells #[.int .i64 p,.int .i64 c,.slice a gs.length cap] 30)).alloc (.cells #[.int .i64 0,.int .i64 0,.slice none 0 0] 30):=⟨_,rfl⟩
 have hb1:Below w.heap.size w w1:=by rw[hw1]; exact ((Below.refl _ _).alloc (Nat.le_refl _) _).alloc (by simp) _
 have hs1:w1.heap.size=w.heap.size+2:=by rw[hw1]; simp
 have hz0:At w1 w.heap.size (.cells #[.int .i64 p,.int .i64 c,.slice a gs.length cap] 30):=by
  rw[hw1]; exact (At.new w _).below ((Below.refl _ _).alloc (Nat.le_refl _) _)
 have hz1:At w1 (w.heap.size+1) (.cells #[.int .i64 0,.int .i64 0,.slice none 0 0] 30):=by
  rw[hw1]; have q:=At.new (w.alloc (.cells #[.int .i64 p,.int .i64 c,.slice a gs.length cap] 30)) (.cells #[.int .i64 0,.int .i64 0,.slice none 0 0] 30); rw[World.size_alloc] at q; exact q
 have hK:=deskOkS_any p c _ gs w1 (HRG.out.below hb1).toGL
 rw[hok] at hK
 have HB1:=hdd hb1
 have HS1:=hdd hs1
 have HZ0:=hdd hz0
 have HZ1:=hdd hz1
 have HRD:=hdd (rd_none hd)
 have HT3:=hdd (fun W=>l1NumN gs.length W (by omega))
 obtain ⟨an,han⟩:∃ an,an=Lib.decDigits gs.length:=⟨_,rfl⟩
 rw[←han] at HT3 ⊢
 unfold strV at HT3
 clear han
 unfold dkV at hK
 unfold dkV strV
 obtain ⟨x0,x1,x2⟩:=hz0.three
 clear h hc hb1 hs1 hz0 hz1 hok hd
 go_enter Tryz.func21,Tryz.ntmps21
 go_wp2_with fail
 rw[←hw1]
 clear hw1
 refine hK.mono ?_
 rintro e w2 ⟨rfl,hb2⟩
 have HB2:=hdd (HB1.out.trans (hb2.mono HB1.out.size))
 have HB12:=hdd hb2
 have hCP:=copS_any p c _ gs w2 (HRG.out.below HB2.out).toGL (by omega) HC.out
 unfold dkV at hCP
 clear hK hb2 x0 x1 x2
 obtain ⟨x0,x1,x2⟩:=(HZ0.out.below HB12.out).three
 go_wp2_with fail
 refine hCP.mono ?_
 rintro e w3 ⟨a3,c3,rfl,ho3,hb3⟩
 unfold dkV
 obtain ⟨w4,hw4⟩:∃ z,z=w3.alloc (.cells #[.int .i64 p,.int .i64 c,.slice a3 gs.length c3] 30):=⟨_,rfl⟩
 have hb34:Below w3.heap.size w3 w4:=by rw[hw4]; exact (Below.refl _ _).alloc (Nat.le_refl _) _
 have HZ6:=hdd (show At w4 w3.heap.size (.cells #[.int .i64 p,.int .i64 c,.slice a3 gs.length c3] 30) by rw[hw4]; exact At.new w3 _)
 have HB14:=hdd (HB12.out.trans ((hb3.trans (hb34.mono hb3.size)).mono HB12.out.size))
 have HB4:=hdd (HB1.out.trans (HB14.out.mono HB1.out.size))
 have HO4:=hdd (show OwnG w2.heap.size w4 (.slice a3 gs.length c3) gs from ho3.below hb34)
 have hI:=readDeedS_any l w4 (by omega)
 unfold ReadOut at hI
 rw[HRD.out.1,HRD.out.2] at hI
 simp only[List.length_nil] at hI
 unfold strV dV at hI
 have HG6:=hdd (show w.heap.size+1<w3.heap.size by have:=HS1.out; have:=HB12.out.size; have:=hb3.size; omega)
 have HR2:=hdd (show w.heap.size+1<w2.heap.size by have:=HS1.out; have:=HB12.out.size; omega)
 clear hCP ho3 hb3 hb34 x0 x1 x2
 go_wp2_with fail
 rw[←hw4]
 clear hw4
 refine hI.mono ?_
 rintro e w5 ⟨a5,k5,rfl,ho5,hb5⟩
 obtain ⟨w6,hw6⟩:∃ z,z=w5.alloc (.cells #[.bool false,.slice a5 0 k5,.int .i64 0,.int .i64 0] 41):=⟨_,rfl⟩
 have hb56:Below w5.heap.size w5 w6:=by rw[hw6]; exact (Below.refl _ _).alloc (Nat.le_refl _) _
 have HB46:=hdd (hb5.trans (hb56.mono hb5.size))
 have HB16:=hdd (HB14.out.trans (HB46.out.mono HB14.out.size))
 have HB6:=hdd (HB1.out.trans (HB16.out.mono HB1.out.size))
 clear hI ho5 hb5 hb56
 go_upto_region 5 with fail
 rw[←hw6]
 clear hw6
 obtain ⟨x0,x1,x2⟩:=(HZ0.out.below HB16.out).three
 skip
 have HC2:=hdd (HZ0.out.below HB16.out).three
 have HC6:=hdd (HZ6.out.below HB46.out).three
 have HBX:=hdd (HZ1.out.below HB16.out)
 have HBX6:=hdd HB6.out
 have HOX:=hdd (HO4.out.below HB46.out)
 have HRGW:=hdd (fun W (q:RelD (w.heap.size+1) (.int .i64 p) (.int .i64 c) (.slice a3 gs.length c3) w6 W)=>HRG.out.below (HBX6.out.grown q.grown HBX6.out.size (fun k hk=>by injection hk; omega)))
 clear x0 x1 x2
 go_wp2
 refine wp_region_invN (Rel:=RelD (w.heap.size+1) (.int .i64 p) (.int .i64 c) (.slice a3 gs.length c3)) 5 0 (fun a b c=>RelD.trans) (fun w=>RelD.of (Below.refl _ _).drew) (by kernel_rfl) (fun k=>(#[65,66,67,68,69,1000,5]:Array Nat).getD k 0) 74
  (fun k v W=>match k with
   | 0=>v=.agg #[.int .i64 p,.int .i64 c,.slice a3 gs.length c3]
   | 1=>v=.pointer (some ⟨w.heap.size,2,none⟩)
   | 2=>v=.slice a gs.length cap
   | 3=>v=.int .i64 (gs.length:Nat)
   | 4=>v=.string ⟨an.toArray⟩
   | 5=>At W (w.heap.size+1) (DC (.int .i64 p) (.int .i64 c) (.slice a3 gs.length c3))
   | 6=>v=.string ⟨an.toArray⟩
   | _=>False) ?sz ?chk ?mono ?step ?fin
 case sz=>rfl
 case chk=>kernel_rfl
 case mono=>
  intro k v W W' h hb
  match k,h with
  | 0,h=>exact h
  | 1,h=>exact h
  | 2,h=>exact h
  | 3,h=>exact h
  | 4,h=>exact h
  | 5,h=>exact hb.full h
  | 6,h=>exact h
 case step=>
  intro i o ho A W hW hA hD K hK
  match i,ho with
  | 0,ho=>
   simp only[List.getElem?_cons_zero,Option.some.injEq] at ho
   subst ho
   have e6:A.tmps.getD 6 undef=.pointer (some ⟨w3.heap.size,0,none⟩):=(hA 6 (by kernel_rfl)).trans rfl
   have e6':=gDq e6
   have HK:=hdd (show ∀ v W',RelD (w.heap.size+1) (.int .i64 p) (.int .i64 c) (.slice a3 gs.length c3) W W'→(v=.agg #[.int .i64 p,.int .i64 c,.slice a3 gs.length c3])→K (A.put (some 65) v) W' from fun v W' h1 h2=>hK.out v W' h1 h2 (fun q=>absurd q (by decide)))
   have HW:=hdd hW
   have y0:=cell_grown hW.grown (by have:=HG6.out; omega) HC6.out.1
   have y1:=cell_grown hW.grown (by have:=HG6.out; omega) HC6.out.2.1
   have y2:=cell_grown hW.grown (by have:=HG6.out; omega) HC6.out.2.2
   clear hA hD hK hW
   go_simp
   exact HK.out _ _ (RelD.refl _ _ _ _ _) rfl
  | 1,ho=>
   simp only[List.getElem?_cons_succ,List.getElem?_cons_zero,Option.some.injEq] at ho
   subst ho
   have e2:A.tmps.getD 2 undef=.pointer (some ⟨w.heap.size,0,none⟩):=(hA 2 (by kernel_rfl)).trans rfl
   have e2':=gDq e2
   have HK:=hdd (show ∀ v W',RelD (w.heap.size+1) (.int .i64 p) (.int .i64 c) (.slice a3 gs.length c3) W W'→(v=.pointer (some ⟨w.heap.size,2,none⟩))→K (A.put (some 66) v) W' from fun v W' h1 h2=>hK.out v W' h1 h2 (fun q=>absurd q (by decide)))
   have HW:=hdd hW
   clear hA hD hK hW
   go_simp
   exact HK.out _ _ (RelD.refl _ _ _ _ _) rfl
  | 2,ho=>
   simp only[List.getElem?_cons_succ,List.getElem?_cons_zero,Option.some.injEq] at ho
   subst ho
   have d1:A.tmps.getD 66 undef=.pointer (some ⟨w.heap.size,2,none⟩):=hD 1 (by decide) (by kernel_rfl)
   have HK:=hdd (show ∀ v W',RelD (w.heap.size+1) (.int .i64 p) (.int .i64 c) (.slice a3 gs.length c3) W W'→(v=.slice a gs.length cap)→K (A.put (some 67) v) W' from fun v W' h1 h2=>hK.out v W' h1 h2 (fun q=>absurd q (by decide)))
   have HW:=hdd hW
   have y0:=cell_grown hW.grown (by omega) HC2.out.2.2
   clear hA hD hK hW
   have d1':=gDq d1
   go_simp
   exact HK.out _ _ (RelD.refl _ _ _ _ _) rfl
  | 3,ho=>
   simp only[List.getElem?_cons_succ,List.getElem?_cons_zero,Option.some.injEq] at ho
   subst ho
   have d2:A.tmps.getD 67 undef=.slice a gs.length cap:=hD 2 (by decide) (by kernel_rfl)
   have HK:=hdd (show ∀ v W',RelD (w.heap.size+1) (.int .i64 p) (.int .i64 c) (.slice a3 gs.length c3) W W'→(v=.int .i64 (gs.length:Nat))→K (A.put (some 68) v) W' from fun v W' h1 h2=>hK.out v W' h1 h2 (fun q=>absurd q (by decide)))
   have HW:=hdd hW
   clear hA hD hK hW
   have d2':=gDq d2
   go_simp
   exact HK.out _ _ (RelD.refl _ _ _ _ _) rfl
  | 4,ho=>
   simp only[List.getElem?_cons_succ,List.getElem?_cons_zero,Option.some.injEq] at ho
   subst ho
   have d3:A.tmps.getD 68 undef=.int .i64 (gs.length:Nat):=hD 3 (by decide) (by kernel_rfl)
   have HK:=hdd (show ∀ v W',RelD (w.heap.size+1) (.int .i64 p) (.int .i64 c) (.slice a3 gs.length c3) W W'→(v=.string ⟨an.toArray⟩)→K (A.put (some 69) v) W' from fun v W' h1 h2=>hK.out v W' h1 h2 (fun q=>absurd q (by decide)))
   have HW:=hdd hW
   clear hA hD hK hW
   have d3':=gDq d3
   go_simp
   refine (HT3.out W).mono ?_
   rintro e W' ⟨rfl,hb⟩
   exact HK.out _ _ (RelD.of hb) rfl
  | 5,ho=>
   simp only[List.getElem?_cons_succ,List.getElem?_cons_zero,Option.some.injEq] at ho
   subst ho
   have e4:A.tmps.getD 4 undef=.pointer (some ⟨w.heap.size+1,0,none⟩):=(hA 4 (by kernel_rfl)).trans rfl
   have e4':=gDq e4
   have d0:A.tmps.getD 65 undef=.agg #[.int .i64 p,.int .i64 c,.slice a3 gs.length c3]:=hD 0 (by decide) (by kernel_rfl)
   have HK:=hdd (show ∀ W',RelD (w.heap.size+1) (.int .i64 p) (.int .i64 c) (.slice a3 gs.length c3) W W'→(At W' (w.heap.size+1) (DC (.int .i64 p) (.int .i64 c) (.slice a3 gs.length c3)))→K A W' from fun W' h1 h2=>hK.out _ W' h1 h2 (fun _=>rfl))
   have HW:=hdd hW
   obtain ⟨x',y',z',hat⟩:=hW.box ⟨_,_,_,HBX.out⟩
   obtain ⟨z0,z1,z2⟩:=At.three hat
   have hth:=At.thaw hat
   have HST:=hdd (RelD.store (x:=.int .i64 p) (y:=.int .i64 c) (z:=.slice a3 gs.length c3) hat)
   clear hat
   clear hA hD hK hW
   have d0':=gDq d0
   go_simp
   exact HK.out _ HST.out.1 HST.out.2
  | 6,ho=>
   simp only[List.getElem?_cons_succ,List.getElem?_cons_zero,Option.some.injEq] at ho
   subst ho
   have d4:A.tmps.getD 69 undef=.string ⟨an.toArray⟩:=hD 4 (by decide) (by kernel_rfl)
   have HK:=hdd (show ∀ v W',RelD (w.heap.size+1) (.int .i64 p) (.int .i64 c) (.slice a3 gs.length c3) W W'→(v=.string ⟨an.toArray⟩)→K (A.put (some 5) v) W' from fun v W' h1 h2=>hK.out v W' h1 h2 (fun q=>absurd q (by decide)))
   have HW:=hdd hW
   clear hA hD hK hW
   have d4':=gDq d4
   go_simp
   exact HK.out _ _ (RelD.refl _ _ _ _ _) rfl
  | n+7,ho=>
   simp at ho
 case fin=>
  intro vs W hW h hce
  have h0:vs 6=.string ⟨an.toArray⟩:=h 6 (by decide)
  have hat:At W (w.heap.size+1) (DC (.int .i64 p) (.int .i64 c) (.slice a3 gs.length c3)):=h 5 (by decide)
  have HAT:=hdd hat
  have HF:=hdd (line_out (w:=w) an hat ((HOX.out.keep (Above.of_grown hW.grown HR2.out)).mono HB2.out.size) (HBX6.out.grown hW.grown HBX6.out.size (fun k hk=>by injection hk; omega)))
  rw[invA_lit [none,none,none,none,none,some 6,none,none,none,none,none,none,none,none,none,none,none,none,none,none,none,none,none,none,none,none,none,none,none,none,none,none,none,none,none,none,none,none,none,none,none,none,none,none,none,none,none,none,none,none,none,none,none,none,none,none,none,none,none,none,none,none,none,none,none,some 0,some 1,some 2,some 3,some 4,none,none,none,none] (by kernel_rfl) rfl]
  simp only[List.zipWith_cons_cons,List.zipWith_nil_left]
  rw[h0]
  clear h h0 hW hat hce
  go_wp2
  ((try simp only[Exit.inBlock,Exit.then]); refine bodyPost_ret (results_cell_tmp rfl _ _ (w.heap.size+1) _ _ (0,0) _ rfl HAT.out Tryz.underlying30 rfl (by kernel_rfl)) rfl ?_)
  exact HF.out
set_option maxHeartbeats 8000000 in
theorem lineS_ask {B:Nat} {hf:Int→List Int} (hh:HuntsOk hf) (p c:Int) (v:Value) (gs:List Gs) (l:List UInt8) (w:World) (h:RG B w v gs) (hl:l.length≤2000000) (hd:readD l=none) (hok:deskB p c gs=true) (hc:∀ g∈gs,g.code.length≤2000000) (b1:(l==[102,105,116])=false) (b2:(l==[110,101,120,116])=false) (b3:(l==[109,97,100,101])=false):
  Calls Tryz.prog 21 #[dkV p c v,strV l] w (SayOut p c gs (askL hf (words 32 l)) w):=by
 have HRG:=hdd h
 have HC:=hdd hc
 have hlen:=deskB_len hok
 obtain ⟨a,cap,rfl⟩:=h.shape
 obtain ⟨w1,hw1⟩:∃ w1,w1=(w.alloc (.cells #[.int .i64 p,.int .i64 c,.slice a gs.length cap] 30)).alloc (.cells #[.int .i64 0,.int .i64 0,.slice none 0 0] 30):=⟨_,rfl⟩
 have hb1:Below w.heap.size w w1:=by rw[hw1]; exact ((Below.refl _ _).alloc (Nat.le_refl _) _).alloc (by simp) _
 have hs1:w1.heap.size=w.heap.size+2:=by rw[hw1]; simp
 have hz0:At w1 w.heap.size (.cells #[.int .i64 p,.int .i64 c,.slice a gs.length cap] 30):=by
  rw[hw1]; exact (At.new w _).below ((Below.refl _ _).alloc (Nat.le_refl _) _)
 have hz1:At w1 (w.heap.size+1) (.cells #[.int .i64 0,.int .i64 0,.slice none 0 0] 30):=by
  rw[hw1]; have q:=At.new (w.alloc (.cells #[.int .i64 p,.int .i64 c,.slice a gs.length cap] 30)) (.cells #[.int .i64 0,.int .i64 0,.slice none 0 0] 30); rw[World.size_alloc] at q; exact q
 have hK:=deskOkS_any p c _ gs w1 (HRG.out.below hb1).toGL
 rw[hok] at hK
 have HB1:=hdd hb1
 have HS1:=hdd hs1
 have HZ0:=hdd hz0
 have HZ1:=hdd hz1
 have HRD:=hdd (rd_none hd)
 have HCUT:=hdd (fun W=>l1Cut_any l 32 W (by omega))
 have HWL:=hdd (fun u (hu:u∈words 32 l)=>Nat.le_trans (words_le 32 l u hu) hl)
 have HT3:=hdd (fun g cap W (q:WordsAt g (words 32 l) W) h1 h2=>l15Ask_any hh (words 32 l) (words_ne 32 l) g cap W q h1 h2)
 unfold AskOut at HT3
 obtain ⟨an,han⟩:∃ an,an=askL hf (words 32 l):=⟨_,rfl⟩
 rw[←han] at HT3 ⊢
 obtain ⟨us,hus⟩:∃ us,us=words 32 l:=⟨_,rfl⟩
 rw[←hus] at HCUT HWL HT3
 rw[show ((32:UInt8).toNat:Int)=32 from rfl] at HCUT
 unfold strV at HCUT HT3
 clear han hus
 unfold dkV at hK
 unfold dkV strV
 obtain ⟨x0,x1,x2⟩:=hz0.three
 clear h hc hb1 hs1 hz0 hz1 hok hd
 go_enter Tryz.func21,Tryz.ntmps21
 go_wp2_with fail
 rw[←hw1]
 clear hw1
 refine hK.mono ?_
 rintro e w2 ⟨rfl,hb2⟩
 have HB2:=hdd (HB1.out.trans (hb2.mono HB1.out.size))
 have HB12:=hdd hb2
 have hCP:=copS_any p c _ gs w2 (HRG.out.below HB2.out).toGL (by omega) HC.out
 unfold dkV at hCP
 clear hK hb2 x0 x1 x2
 obtain ⟨x0,x1,x2⟩:=(HZ0.out.below HB12.out).three
 go_wp2_with fail
 refine hCP.mono ?_
 rintro e w3 ⟨a3,c3,rfl,ho3,hb3⟩
 unfold dkV
 obtain ⟨w4,hw4⟩:∃ z,z=w3.alloc (.cells #[.int .i64 p,.int .i64 c,.slice a3 gs.length c3] 30):=⟨_,rfl⟩
 have hb34:Below w3.heap.size w3 w4:=by rw[hw4]; exact (Below.refl _ _).alloc (Nat.le_refl _) _
 have HZ6:=hdd (show At w4 w3.heap.size (.cells #[.int .i64 p,.int .i64 c,.slice a3 gs.length c3] 30) by rw[hw4]; exact At.new w3 _)
 have HB14:=hdd (HB12.out.trans ((hb3.trans (hb34.mono hb3.size)).mono HB12.out.size))
 have HB4:=hdd (HB1.out.trans (HB14.out.mono HB1.out.size))
 have HO4:=hdd (show OwnG w2.heap.size w4 (.slice a3 gs.length c3) gs from ho3.below hb34)
 have hI:=readDeedS_any l w4 (by omega)
 unfold ReadOut at hI
 rw[HRD.out.1,HRD.out.2] at hI
 simp only[List.length_nil] at hI
 unfold strV dV at hI
 have HG6:=hdd (show w.heap.size+1<w3.heap.size by have:=HS1.out; have:=HB12.out.size; have:=hb3.size; omega)
 have HR2:=hdd (show w.heap.size+1<w2.heap.size by have:=HS1.out; have:=HB12.out.size; omega)
 clear hCP ho3 hb3 hb34 x0 x1 x2
 go_wp2_with fail
 rw[←hw4]
 clear hw4
 refine hI.mono ?_
 rintro e w5 ⟨a5,k5,rfl,ho5,hb5⟩
 obtain ⟨w6,hw6⟩:∃ z,z=w5.alloc (.cells #[.bool false,.slice a5 0 k5,.int .i64 0,.int .i64 0] 41):=⟨_,rfl⟩
 have hb56:Below w5.heap.size w5 w6:=by rw[hw6]; exact (Below.refl _ _).alloc (Nat.le_refl _) _
 have HB46:=hdd (hb5.trans (hb56.mono hb5.size))
 have HB16:=hdd (HB14.out.trans (HB46.out.mono HB14.out.size))
 have HB6:=hdd (HB1.out.trans (HB16.out.mono HB1.out.size))
 clear hI ho5 hb5 hb56
 go_upto_region 5 with fail
 rw[←hw6]
 clear hw6
 obtain ⟨x0,x1,x2⟩:=(HZ0.out.below HB16.out).three
 have HS6:=hdd (show w.heap.size+1<w6.heap.size by have:=HS1.out; have:=HB16.out.size; omega)
 have HC2:=hdd (HZ0.out.below HB16.out).three
 have HC6:=hdd (HZ6.out.below HB46.out).three
 have HBX:=hdd (HZ1.out.below HB16.out)
 have HBX6:=hdd HB6.out
 have HOX:=hdd (HO4.out.below HB46.out)
 have HRGW:=hdd (fun W (q:RelD (w.heap.size+1) (.int .i64 p) (.int .i64 c) (.slice a3 gs.length c3) w6 W)=>HRG.out.below (HBX6.out.grown q.grown HBX6.out.size (fun k hk=>by injection hk; omega)))
 clear x0 x1 x2
 go_wp2
 refine wp_region_invN (Rel:=RelD (w.heap.size+1) (.int .i64 p) (.int .i64 c) (.slice a3 gs.length c3)) 4 0 (fun a b c=>RelD.trans) (fun w=>RelD.of (Below.refl _ _).drew) (by kernel_rfl) (fun k=>(#[70,71,72,73,1000,5]:Array Nat).getD k 0) 74
  (fun k v W=>match k with
   | 0=>v=.agg #[.int .i64 p,.int .i64 c,.slice a3 gs.length c3]
   | 1=>v=.string ⟨l.toArray⟩
   | 2=>∃ g k,v=.slice (some ⟨g,0,none⟩) us.length k∧us.length≤k∧k≤9223372036854775807∧g≠w.heap.size+1∧WordsAt g us W
   | 3=>v=.string ⟨an.toArray⟩
   | 4=>At W (w.heap.size+1) (DC (.int .i64 p) (.int .i64 c) (.slice a3 gs.length c3))
   | 5=>v=.string ⟨an.toArray⟩
   | _=>False) ?sz ?chk ?mono ?step ?fin
 case sz=>rfl
 case chk=>kernel_rfl
 case mono=>
  intro k v W W' h hb
  match k,h with
  | 0,h=>exact h
  | 1,h=>exact h
  | 2,h=>exact (by obtain ⟨g,k,h1,h2,h3,h4,h5⟩:=h; exact ⟨g,k,h1,h2,h3,h4,h5.grown hb.grown h4⟩)
  | 3,h=>exact h
  | 4,h=>exact hb.full h
  | 5,h=>exact h
 case step=>
  intro i o ho A W hW hA hD K hK
  match i,ho with
  | 0,ho=>
   simp only[List.getElem?_cons_zero,Option.some.injEq] at ho
   subst ho
   have e6:A.tmps.getD 6 undef=.pointer (some ⟨w3.heap.size,0,none⟩):=(hA 6 (by kernel_rfl)).trans rfl
   have e6':=gDq e6
   have HK:=hdd (show ∀ v W',RelD (w.heap.size+1) (.int .i64 p) (.int .i64 c) (.slice a3 gs.length c3) W W'→(v=.agg #[.int .i64 p,.int .i64 c,.slice a3 gs.length c3])→K (A.put (some 70) v) W' from fun v W' h1 h2=>hK.out v W' h1 h2 (fun q=>absurd q (by decide)))
   have HW:=hdd hW
   have y0:=cell_grown hW.grown (by have:=HG6.out; omega) HC6.out.1
   have y1:=cell_grown hW.grown (by have:=HG6.out; omega) HC6.out.2.1
   have y2:=cell_grown hW.grown (by have:=HG6.out; omega) HC6.out.2.2
   clear hA hD hK hW
   go_simp
   exact HK.out _ _ (RelD.refl _ _ _ _ _) rfl
  | 1,ho=>
   simp only[List.getElem?_cons_succ,List.getElem?_cons_zero,Option.some.injEq] at ho
   subst ho
   have e1:A.tmps.getD 1 undef=.string ⟨l.toArray⟩:=(hA 1 (by kernel_rfl)).trans rfl
   have e1':=gDq e1
   have HK:=hdd (show ∀ v W',RelD (w.heap.size+1) (.int .i64 p) (.int .i64 c) (.slice a3 gs.length c3) W W'→(v=.string ⟨l.toArray⟩)→K (A.put (some 71) v) W' from fun v W' h1 h2=>hK.out v W' h1 h2 (fun q=>absurd q (by decide)))
   have HW:=hdd hW
   clear hA hD hK hW
   go_simp
   exact HK.out _ _ (RelD.refl _ _ _ _ _) rfl
  | 2,ho=>
   simp only[List.getElem?_cons_succ,List.getElem?_cons_zero,Option.some.injEq] at ho
   subst ho
   have d1:A.tmps.getD 71 undef=.string ⟨l.toArray⟩:=hD 1 (by decide) (by kernel_rfl)
   have HK:=hdd (show ∀ v W',RelD (w.heap.size+1) (.int .i64 p) (.int .i64 c) (.slice a3 gs.length c3) W W'→(∃ g k,v=.slice (some ⟨g,0,none⟩) us.length k∧us.length≤k∧k≤9223372036854775807∧g≠w.heap.size+1∧WordsAt g us W')→K (A.put (some 72) v) W' from fun v W' h1 h2=>hK.out v W' h1 h2 (fun q=>absurd q (by decide)))
   have HW:=hdd hW
   clear hA hD hK hW
   have d1':=gDq d1
   go_simp
   refine (HCUT.out W).mono ?_
   rintro e W' ⟨g,k,rfl,q1,q2,q3,q4,q5,hb⟩
   have hsz:=HW.out.grown.size
   exact HK.out _ _ (RelD.of hb) ⟨g,k,rfl,q1,q2,by have:=HS6.out; omega,⟨q3,HWL.out⟩⟩
  | 3,ho=>
   simp only[List.getElem?_cons_succ,List.getElem?_cons_zero,Option.some.injEq] at ho
   subst ho
   have d2:∃ g k,(A.tmps.getD 72 undef)=.slice (some ⟨g,0,none⟩) us.length k∧us.length≤k∧k≤9223372036854775807∧g≠w.heap.size+1∧WordsAt g us W:=hD 2 (by decide) (by kernel_rfl)
   have HK:=hdd (show ∀ v W',RelD (w.heap.size+1) (.int .i64 p) (.int .i64 c) (.slice a3 gs.length c3) W W'→(v=.string ⟨an.toArray⟩)→K (A.put (some 73) v) W' from fun v W' h1 h2=>hK.out v W' h1 h2 (fun q=>absurd q (by decide)))
   have HW:=hdd hW
   clear hA hD hK hW
   obtain ⟨v2,hv2⟩:∃ z,A.tmps.getD 72 undef=z:=⟨_,rfl⟩
   rw[hv2] at d2
   have hv2':=gDq hv2
   obtain ⟨g,k,rfl,q1,q2,_,q3⟩:=d2
   have hT:=HT3.out g k W q3 q1 q2
   go_simp
   refine hT.mono ?_
   rintro e W' ⟨rfl,hb⟩
   exact HK.out _ _ (RelD.of hb) rfl
  | 4,ho=>
   simp only[List.getElem?_cons_succ,List.getElem?_cons_zero,Option.some.injEq] at ho
   subst ho
   have e4:A.tmps.getD 4 undef=.pointer (some ⟨w.heap.size+1,0,none⟩):=(hA 4 (by kernel_rfl)).trans rfl
   have e4':=gDq e4
   have d0:A.tmps.getD 70 undef=.agg #[.int .i64 p,.int .i64 c,.slice a3 gs.length c3]:=hD 0 (by decide) (by kernel_rfl)
   have HK:=hdd (show ∀ W',RelD (w.heap.size+1) (.int .i64 p) (.int .i64 c) (.slice a3 gs.length c3) W W'→(At W' (w.heap.size+1) (DC (.int .i64 p) (.int .i64 c) (.slice a3 gs.length c3)))→K A W' from fun W' h1 h2=>hK.out _ W' h1 h2 (fun _=>rfl))
   have HW:=hdd hW
   obtain ⟨x',y',z',hat⟩:=hW.box ⟨_,_,_,HBX.out⟩
   obtain ⟨z0,z1,z2⟩:=At.three hat
   have hth:=At.thaw hat
   have HST:=hdd (RelD.store (x:=.int .i64 p) (y:=.int .i64 c) (z:=.slice a3 gs.length c3) hat)
   clear hat
   clear hA hD hK hW
   have d0':=gDq d0
   go_simp
   exact HK.out _ HST.out.1 HST.out.2
  | 5,ho=>
   simp only[List.getElem?_cons_succ,List.getElem?_cons_zero,Option.some.injEq] at ho
   subst ho
   have d3:A.tmps.getD 73 undef=.string ⟨an.toArray⟩:=hD 3 (by decide) (by kernel_rfl)
   have HK:=hdd (show ∀ v W',RelD (w.heap.size+1) (.int .i64 p) (.int .i64 c) (.slice a3 gs.length c3) W W'→(v=.string ⟨an.toArray⟩)→K (A.put (some 5) v) W' from fun v W' h1 h2=>hK.out v W' h1 h2 (fun q=>absurd q (by decide)))
   have HW:=hdd hW
   clear hA hD hK hW
   have d3':=gDq d3
   go_simp
   exact HK.out _ _ (RelD.refl _ _ _ _ _) rfl
  | n+6,ho=>
   simp at ho
 case fin=>
  intro vs W hW h hce
  have h0:vs 5=.string ⟨an.toArray⟩:=h 5 (by decide)
  have hat:At W (w.heap.size+1) (DC (.int .i64 p) (.int .i64 c) (.slice a3 gs.length c3)):=h 4 (by decide)
  have HAT:=hdd hat
  have HF:=hdd (line_out (w:=w) an hat ((HOX.out.keep (Above.of_grown hW.grown HR2.out)).mono HB2.out.size) (HBX6.out.grown hW.grown HBX6.out.size (fun k hk=>by injection hk; omega)))
  rw[invA_lit [none,none,none,none,none,some 5,none,none,none,none,none,none,none,none,none,none,none,none,none,none,none,none,none,none,none,none,none,none,none,none,none,none,none,none,none,none,none,none,none,none,none,none,none,none,none,none,none,none,none,none,none,none,none,none,none,none,none,none,none,none,none,none,none,none,none,none,none,none,none,none,some 0,some 1,some 2,some 3] (by kernel_rfl) rfl]
  simp only[List.zipWith_cons_cons,List.zipWith_nil_left]
  rw[h0]
  clear h h0 hW hat hce
  go_wp2
  ((try simp only[Exit.inBlock,Exit.then]); refine bodyPost_ret (results_cell_tmp rfl _ _ (w.heap.size+1) _ _ (0,0) _ rfl HAT.out Tryz.underlying30 rfl (by kernel_rfl)) rfl ?_)
  exact HF.out
set_option maxHeartbeats 4000000 in
theorem lineS_no {B:Nat} (p c:Int) (v:Value) (gs:List Gs) (l:List UInt8) (w:World) (h:RG B w v gs) (hok:deskB p c gs=false):
  Calls Tryz.prog 21 #[dkV p c v,strV l] w (SayOut 0 0 [] [] w):=by
 have HRG:=hdd h
 obtain ⟨a,cap,rfl⟩:=h.shape
 obtain ⟨w1,hw1⟩:∃ w1,w1=(w.alloc (.cells #[.int .i64 p,.int .i64 c,.slice a gs.length cap] 30)).alloc (.cells #[.int .i64 0,.int .i64 0,.slice none 0 0] 30):=⟨_,rfl⟩
 have hb1:Below w.heap.size w w1:=by rw[hw1]; exact ((Below.refl _ _).alloc (Nat.le_refl _) _).alloc (by simp) _
 have hz0:At w1 w.heap.size (.cells #[.int .i64 p,.int .i64 c,.slice a gs.length cap] 30):=by
  rw[hw1]; exact (At.new w _).below ((Below.refl _ _).alloc (Nat.le_refl _) _)
 have hz1:At w1 (w.heap.size+1) (.cells #[.int .i64 0,.int .i64 0,.slice none 0 0] 30):=by
  rw[hw1]; have q:=At.new (w.alloc (.cells #[.int .i64 p,.int .i64 c,.slice a gs.length cap] 30)) (.cells #[.int .i64 0,.int .i64 0,.slice none 0 0] 30); rw[World.size_alloc] at q; exact q
 have hK:=deskOkS_any p c _ gs w1 (HRG.out.below hb1).toGL
 rw[hok] at hK
 have HB1:=hdd hb1
 have HZ1:=hdd hz1
 unfold dkV at hK
 unfold dkV strV
 obtain ⟨x0,x1,x2⟩:=hz0.three
 clear h hb1 hz0 hz1 hok
 go_enter Tryz.func21,Tryz.ntmps21
 go_wp2_with fail
 rw[←hw1]
 clear hw1
 refine hK.mono ?_
 rintro e w2 ⟨rfl,hb2⟩
 have HB2:=hdd (HB1.out.trans (hb2.mono HB1.out.size))
 have HR4:=hdd (HZ1.out.below hb2)
 clear hK hb2 x0 x1 x2
 obtain ⟨r0,r1,r2,rf⟩:=zero_cells HR4.out
 have HF:=hdd (say_ret (w:=w) (p:=0) (c:=0) (gs:=[]) (a4:=none) (c4:=0) (cap2:=0) [] HR4.out (by omega) (OwnG.empty _ _) HB2.out (Nat.le_refl _) (by omega))
 go_wp2
 ((try simp only[Exit.inBlock,Exit.then]); refine bodyPost_ret (results_cell_tmp rfl _ _ (w.heap.size+1) _ _ (0,0) _ rfl HF.out.2 Tryz.underlying30 rfl (by kernel_rfl)) rfl ?_)
 exact HF.out.1
theorem lineS_any {B:Nat} {hf:Int→List Int} (hh:HuntsOk hf) (p c:Int) (v:Value) (gs:List Gs) (l:List UInt8) (w:World) (h:RG B w v gs) (hl:l.length≤2000000) (hc:∀ g∈gs,g.code.length≤2000000):
  Calls Tryz.prog 21 #[dkV p c v,strV l] w (LineOut hf p c gs l w):=by
 cases hok:deskB p c gs
 ·exact (lineS_no p c v gs l w h hok).mono fun e w' q=>LineOut.no hok q
 suffices hs:Calls Tryz.prog 21 #[dkV p c v,strV l] w (SayOut p c (lineG p c gs l) (lineA hf p c gs l) w) from hs.mono fun e w' q=>LineOut.yes hok q
 rcases hd:readD l with _ | d
 ·rw[(line_none (hf:=hf) hd).1,(line_none hd).2]
  unfold ansN
  by_cases h1:l=wFit
  ·rw[if_pos h1]; exact lineS_fit p c v gs l w h hl hd hok hc (by rw[h1]; rfl)
  rw[if_neg h1]
  have b1:(l==[102,105,116])=false:=by simpa [wFit] using h1
  by_cases h2:l=wNext
  ·rw[if_pos h2]; exact lineS_next p c v gs l w h hl hd hok hc b1 (by rw[h2]; rfl)
  rw[if_neg h2]
  have b2:(l==[110,101,120,116])=false:=by simpa [wNext] using h2
  by_cases h3:l=wMade
  ·rw[if_pos h3]; exact lineS_made p c v gs l w h hl hd hok hc b1 b2 (by rw[h3]; rfl)
  rw[if_neg h3]
  exact lineS_ask hh p c v gs l w h hl hd hok hc b1 b2 (by simpa [wMade] using h3)
 ·rw[(line_some (hf:=hf) hd).1,(line_some hd).2]
  exact lineS_deed p c v gs l d w h hl hd hok hc
end Go.Proofs.YtenlngclocfnlaaGreatDoor
namespace Go.Proofs.YtenlngclocfnlaaGreatDoor
open Go.RowKit
set_option linter.unusedVariables false
set_option maxRecDepth 100000
theorem noDesk_anyL {B:Nat} (a0:Option Addr) (cap0:Nat) (w:World) (h:GL B w (.slice a0 0 cap0) []):
  Calls Tryz.prog 22 #[dkV 0 0 (.slice a0 0 cap0)] w fun e w'=>e=.returned (.bool true)∧Below w.heap.size w w':=by
 have hb1:Below w.heap.size w (w.alloc (.cells #[.int .i64 0,.int .i64 0,.slice a0 0 cap0] 30)):=(Below.refl _ _).alloc (Nat.le_refl _) _
 have hE:=sameDesk_self 0 0 (.slice a0 0 cap0) (.slice none 0 0) [] _ (h.below hb1) (GL.nil 0 (w.alloc (.cells #[.int .i64 0,.int .i64 0,.slice a0 0 cap0] 30)))
 have HB:=hdd hb1
 unfold dkV at hE ⊢
 clear hb1 h
 go_enter Tryz.func22,Tryz.ntmps22
 go_wp2_with fail
 refine hE.mono ?_
 rintro e w2 ⟨rfl,hb2⟩
 have HB2:=hdd (HB.out.trans (hb2.mono HB.out.size))
 clear hE hb2
 go_wp2
 go_ret
 exact ⟨rfl,HB2.out⟩
theorem line_blank (hf:Int→List Int) (p c:Int) (gs:List Gs):lineG p c gs [32]=gs∧lineA hf p c gs [32]=[119,104,97,116]:=by
 obtain ⟨h1,h2⟩:=line_none (hf:=hf) (p:=p) (c:=c) (gs:=gs) (show readD [32]=none by decide)
 refine ⟨h1,?_⟩
 rw[h2]
 unfold ansN
 rw[if_neg (by decide),if_neg (by decide),if_neg (by decide)]
 have e:words 32 [32]=[[],[]]:=by decide
 rw[e]
 simp only[askL]
 rw[if_neg (by decide),if_neg (by decide),if_neg (by decide),if_neg (by decide)]
 decide
theorem line_same {hf:Int→List Int} {p c:Int} {gs:List Gs} {l:List UInt8} (h:lineA hf p c gs l≠[111,107]):lineG p c gs l=gs:=by
 rcases hd:readD l with _ | d
 ·exact (line_none (hf:=hf) hd).1
 ·have h2:=line_some (hf:=hf) (p:=p) (c:=c) (gs:=gs) hd
  rw[h2.1]
  rw[h2.2] at h
  by_cases q:(doneG p c gs d).2=true
  ·rw[if_pos q] at h
   exact absurd (by decide) h
  ·exact done_same (by simpa using q)
set_option maxHeartbeats 8000000 in
theorem FnDeskLine_walk {hf:Int→List Int} (hh:HuntsOk hf) (v:Value) (bs:List Int) (w:World) (hg:GW w) (h:Bytes 0 w v bs):
  Calls Tryz.prog 4 #[v] w fun e w'=>e=.returned (.bool true)∧Below w.heap.size w w':=by
 obtain ⟨a0,cap0,rfl,hc1,hc2,hc3⟩:=id h.1
 rw[List.length_map] at h ⊢
 clear hc1 hc2 hc3
 have hDr:=drawDeskLine_any _ bs w h
 have HGW:=hdd hg
 clear h hg
 by_cases hs:1048576<bs.length
 ·go_enter Tryz.func4,Tryz.ntmps4
  go_wp2
  go_ret
  exact ⟨rfl,Below.refl _ _⟩
 go_enter Tryz.func4,Tryz.ntmps4
 go_wp2_with fail
 refine hDr.mono ?_
 rintro e w1 ⟨p,c,gs,a1,c1,l,rfl,ho1,h64,hl5,hcl,hll,hb1⟩
 have HD:=hdd (fun p c v=>show dkV p c v=.agg #[.int .i64 p,.int .i64 c,v] from rfl)
 have HSV:=hdd (fun l=>show strV l=.string ⟨l.toArray⟩ from rfl)
 rw[HD.out]
 have HB:=hdd hb1
 have HO:=hdd ho1
 have H64:=hdd h64
 have HCL:=hdd (show ∀ g∈gs,g.code.length≤2000000 from fun g hg=>Nat.le_trans (hcl g hg) (by omega))
 clear hDr ho1 h64 hcl hb1
 go_wp2_with fail
 obtain ⟨wa,hwa⟩:∃ z,z=w1.alloc (.cells #[.int .i64 p,.int .i64 c,.slice a1 gs.length c1] 30):=⟨_,rfl⟩
 have hba:Below w1.heap.size w1 wa:=by rw[hwa]; exact (Below.refl _ _).alloc (Nat.le_refl _) _
 have hAD:At wa w1.heap.size (.cells #[.int .i64 p,.int .i64 c,.slice a1 gs.length c1] 30):=by rw[hwa]; exact At.new w1 _
 rw[←hwa]
 obtain ⟨t3,ht3⟩:∃ z,z=w1.heap.size:=⟨_,rfl⟩
 rw[←ht3] at hAD ⊢
 have HR:=hdd ((HO.out.rg H64.out).below hba)
 replace HB:=hdd (HB.out.trans (hba.mono HB.out.size))
 have A3:=hdd hAD
 clear hwa hba hAD HO ht3
 have HID:=hdd (fun (B:Nat) (l:List UInt8) (W:World) (v:Value) (hl:l.length≤2000000) (hg:GW W) (q1:RG B W v gs)=>lineI_any hh p c v gs l W hg q1 hl HCL.out)
 have HSD:=hdd (fun (B:Nat) (W:World) (v:Value) (q1:RG B W v gs)=>lineS_any hh p c v gs l W q1 (by omega) HCL.out)
 have HSM:=hdd (fun (B C:Nat) (p c:Int) (gs:List Gs) (v v':Value) (W:World) (q1:GL B W v gs) (q2:GL C W v' gs)=>sameDesk_self p c v v' gs W q1 q2)
 have HOK:=hdd (fun (B:Nat) (p c:Int) (gs:List Gs) (v:Value) (W:World) (q:GL B W v gs)=>deskOkI_any p c v gs W q)
 have HOS:=hdd (fun (B:Nat) (p c:Int) (gs:List Gs) (v:Value) (W:World) (q:GL B W v gs)=>deskOkS_any p c v gs W q)
 have hT:=HID.out _ l wa _ (by omega) (HGW.out.below HB.out) HR.out
 rcases hdk:deskB p c gs with _ | _
 ·have HK:=hdd hdk
  have HN:=hdd (show ∀ W e W',LineOut hf p c gs l W e W'→SayOut 0 0 [] [] W e W' from fun W e W' q=>by unfold LineOut at q; rwa [if_neg (by simp[hdk])] at q)
  clear hdk
  rw[HD.out,HSV.out] at hT
  refine hT.mono ?_
  rintro e w2 hq2
  obtain ⟨a3,c3,cc3,rfl,q1,q2,ho2,hb2⟩:=HN.out _ _ _ hq2
  rw[HD.out,HSV.out]
  simp only[List.length_nil]
  clear hT
  have hr2:RG wa.heap.size w2 (.slice a3 0 cc3) (([]:List Gs)):=⟨a3,c3,cc3,rfl,q1,q2,ho2,(fun g hg=>by cases hg)⟩
  replace HR:=hdd (HR.out.below hb2)
  replace A3:=hdd (A3.out.below hb2)
  replace HB:=hdd (HB.out.trans (hb2.mono HB.out.size))
  clear hb2 ho2 q1 q2 hq2
  obtain ⟨x0,x1,x2⟩:=A3.out.three
  have xz:=A3.out.lt
  go_wp2_with fail
  have HX:=hdd hr2
  clear hr2
  obtain ⟨w3,hwn⟩:∃ z,z=w2.alloc (.cells #[.int .i64 0,.int .i64 0,.slice a3 0 cc3] 30):=⟨_,rfl⟩
  have hbn:Below w2.heap.size w2 w3:=by rw[hwn]; exact (Below.refl _ _).alloc (Nat.le_refl _) _
  have han:At w3 w2.heap.size (.cells #[.int .i64 0,.int .i64 0,.slice a3 0 cc3] 30):=by rw[hwn]; exact At.new _ _
  rw[←hwn]
  clear hwn
  obtain ⟨t5,hblk⟩:∃ z,z=w2.heap.size:=⟨_,rfl⟩
  rw[←hblk] at han ⊢
  replace HR:=hdd (HR.out.below hbn)
  replace A3:=hdd (A3.out.below hbn)
  replace HX:=hdd (HX.out.below hbn)
  replace HB:=hdd (HB.out.trans (hbn.mono HB.out.size))
  have A5:=hdd han
  clear hbn han hblk
  clear x0 x1 x2 xz
  have hT:=HSD.out _ w3 _ HR.out
  rw[HD.out,HSV.out] at hT
  refine hT.mono ?_
  rintro e w4 hq2
  obtain ⟨a4,c4,cc4,rfl,q1,q2,ho4,hb4⟩:=HN.out _ _ _ hq2
  rw[HD.out,HSV.out]
  simp only[List.length_nil]
  clear hT
  have hr4:RG w3.heap.size w4 (.slice a4 0 cc4) (([]:List Gs)):=⟨a4,c4,cc4,rfl,q1,q2,ho4,(fun g hg=>by cases hg)⟩
  replace HR:=hdd (HR.out.below hb4)
  replace A3:=hdd (A3.out.below hb4)
  replace HX:=hdd (HX.out.below hb4)
  replace A5:=hdd (A5.out.below hb4)
  replace HB:=hdd (HB.out.trans (hb4.mono HB.out.size))
  clear hb4 ho4 q1 q2 hq2
  obtain ⟨x0,x1,x2⟩:=A5.out.three
  have xz:=A5.out.lt
  go_wp2_with fail
  have HY2:=hdd hr4
  clear hr4
  obtain ⟨w5,hwn⟩:∃ z,z=w4.alloc (.cells #[.int .i64 0,.int .i64 0,.slice a4 0 cc4] 30):=⟨_,rfl⟩
  have hbn:Below w4.heap.size w4 w5:=by rw[hwn]; exact (Below.refl _ _).alloc (Nat.le_refl _) _
  have han:At w5 w4.heap.size (.cells #[.int .i64 0,.int .i64 0,.slice a4 0 cc4] 30):=by rw[hwn]; exact At.new _ _
  rw[←hwn]
  clear hwn
  obtain ⟨t7,hblk⟩:∃ z,z=w4.heap.size:=⟨_,rfl⟩
  rw[←hblk] at han ⊢
  replace HR:=hdd (HR.out.below hbn)
  replace A3:=hdd (A3.out.below hbn)
  replace HX:=hdd (HX.out.below hbn)
  replace A5:=hdd (A5.out.below hbn)
  replace HY2:=hdd (HY2.out.below hbn)
  replace HB:=hdd (HB.out.trans (hbn.mono HB.out.size))
  have A7:=hdd han
  clear hbn han hblk
  clear x0 x1 x2 xz
  have hT:=HSM.out _ _ (0) (0) (([]:List Gs)) _ _ w5 HX.out.toGL HY2.out.toGL
  rw[HD.out,HD.out] at hT
  refine hT.mono ?_
  rintro e w6 ⟨rfl,hb6⟩
  clear hT
  replace HR:=hdd (HR.out.below hb6)
  replace A3:=hdd (A3.out.below hb6)
  replace HX:=hdd (HX.out.below hb6)
  replace A5:=hdd (A5.out.below hb6)
  replace HB:=hdd (HB.out.trans (hb6.mono HB.out.size))
  clear hb6 HY2 A7
  obtain ⟨u0,u1,u2⟩:=A3.out.three
  have uz:=A3.out.lt
  go_wp2_with fail
  have hT:=HOS.out _ p c gs _ w6 HR.out.toGL
  rw[HD.out,HK.out] at hT
  refine hT.mono ?_
  rintro e w7 ⟨rfl,hb7⟩
  clear hT
  replace HX:=hdd (HX.out.below hb7)
  replace A5:=hdd (A5.out.below hb7)
  replace HB:=hdd (HB.out.trans (hb7.mono HB.out.size))
  clear hb7
  clear u0 u1 u2 uz
  obtain ⟨x0,x1,x2⟩:=A5.out.three
  have xz:=A5.out.lt
  go_wp2_with fail
  have hT:=noDesk_anyL _ _ w7 HX.out.toGL
  rw[HD.out] at hT
  refine hT.mono ?_
  rintro e w8 ⟨rfl,hb8⟩
  replace HB:=hdd (HB.out.trans (hb8.mono HB.out.size))
  clear hT hb8
  go_wp2_with fail
  refine (alive_any _).mono ?_
  rintro e w9 ⟨rfl,rfl⟩
  go_wp2
  go_ret
  exact ⟨rfl,HB.out⟩
 ·have HK:=hdd hdk
  have HQ:=hdd (show ∀ l W e W',LineOut hf p c gs l W e W'→SayOut p c (lineG p c gs l) (lineA hf p c gs l) W e W' from fun l W e W' q=>by unfold LineOut at q; rwa [if_pos hdk] at q)
  have HG64:=hdd (line_i64 (p:=p) (c:=c) l H64.out)
  have HGD:=hdd (line_desk l hdk)
  have HBL:=hdd (line_blank hf p c gs)
  have HSA:=hdd (fun q=>line_same (hf:=hf) (p:=p) (c:=c) (gs:=gs) (l:=l) q)
  have HQL:=hdd (HQ.out l)
  obtain ⟨gs',hgs⟩:∃ z,z=lineG p c gs l:=⟨_,rfl⟩
  obtain ⟨an,han⟩:∃ z,z=lineA hf p c gs l:=⟨_,rfl⟩
  rw[←hgs,←han] at HQL HSA
  rw[←hgs] at HG64 HGD
  have hoo:(an != an)=false:=by simp
  clear hdk hgs han
  rw[HD.out,HSV.out] at hT
  refine hT.mono ?_
  rintro e w2 hq2
  obtain ⟨a3,c3,cc3,rfl,q1,q2,ho2,hb2⟩:=HQL.out _ _ _ hq2
  rw[HD.out,HSV.out]
  clear hT
  have hr2:RG wa.heap.size w2 (.slice a3 (gs').length cc3) (gs'):=⟨a3,c3,cc3,rfl,q1,q2,ho2,HG64.out⟩
  replace HR:=hdd (HR.out.below hb2)
  replace A3:=hdd (A3.out.below hb2)
  replace HB:=hdd (HB.out.trans (hb2.mono HB.out.size))
  clear hb2 ho2 q1 q2 hq2
  obtain ⟨x0,x1,x2⟩:=A3.out.three
  have xz:=A3.out.lt
  go_wp2_with fail
  have HX:=hdd hr2
  clear hr2
  obtain ⟨w3,hwn⟩:∃ z,z=w2.alloc (.cells #[.int .i64 p,.int .i64 c,.slice a3 (gs').length cc3] 30):=⟨_,rfl⟩
  have hbn:Below w2.heap.size w2 w3:=by rw[hwn]; exact (Below.refl _ _).alloc (Nat.le_refl _) _
  have han:At w3 w2.heap.size (.cells #[.int .i64 p,.int .i64 c,.slice a3 (gs').length cc3] 30):=by rw[hwn]; exact At.new _ _
  rw[←hwn]
  clear hwn
  obtain ⟨t5,hblk⟩:∃ z,z=w2.heap.size:=⟨_,rfl⟩
  rw[←hblk] at han ⊢
  replace HR:=hdd (HR.out.below hbn)
  replace A3:=hdd (A3.out.below hbn)
  replace HX:=hdd (HX.out.below hbn)
  replace HB:=hdd (HB.out.trans (hbn.mono HB.out.size))
  have A5:=hdd han
  clear hbn han hblk
  clear x0 x1 x2 xz
  have hT:=HSD.out _ w3 _ HR.out
  rw[HD.out,HSV.out] at hT
  refine hT.mono ?_
  rintro e w4 hq2
  obtain ⟨a4,c4,cc4,rfl,q1,q2,ho4,hb4⟩:=HQL.out _ _ _ hq2
  rw[HD.out,HSV.out]
  clear hT
  have hr4:RG w3.heap.size w4 (.slice a4 (gs').length cc4) (gs'):=⟨a4,c4,cc4,rfl,q1,q2,ho4,HG64.out⟩
  replace HR:=hdd (HR.out.below hb4)
  replace A3:=hdd (A3.out.below hb4)
  replace HX:=hdd (HX.out.below hb4)
  replace A5:=hdd (A5.out.below hb4)
  replace HB:=hdd (HB.out.trans (hb4.mono HB.out.size))
  clear hb4 ho4 q1 q2 hq2
  obtain ⟨x0,x1,x2⟩:=A5.out.three
  have xz:=A5.out.lt
  go_wp2_with fail
  have HY2:=hdd hr4
  clear hr4
  obtain ⟨w5,hwn⟩:∃ z,z=w4.alloc (.cells #[.int .i64 p,.int .i64 c,.slice a4 (gs').length cc4] 30):=⟨_,rfl⟩
  have hbn:Below w4.heap.size w4 w5:=by rw[hwn]; exact (Below.refl _ _).alloc (Nat.le_refl _) _
  have han:At w5 w4.heap.size (.cells #[.int .i64 p,.int .i64 c,.slice a4 (gs').length cc4] 30):=by rw[hwn]; exact At.new _ _
  rw[←hwn]
  clear hwn
  obtain ⟨t7,hblk⟩:∃ z,z=w4.heap.size:=⟨_,rfl⟩
  rw[←hblk] at han ⊢
  replace HR:=hdd (HR.out.below hbn)
  replace A3:=hdd (A3.out.below hbn)
  replace HX:=hdd (HX.out.below hbn)
  replace A5:=hdd (A5.out.below hbn)
  replace HY2:=hdd (HY2.out.below hbn)
  replace HB:=hdd (HB.out.trans (hbn.mono HB.out.size))
  have A7:=hdd han
  clear hbn han hblk
  clear x0 x1 x2 xz
  have hT:=HSM.out _ _ (p) (c) (gs') _ _ w5 HX.out.toGL HY2.out.toGL
  rw[HD.out,HD.out] at hT
  refine hT.mono ?_
  rintro e w6 ⟨rfl,hb6⟩
  clear hT
  replace HR:=hdd (HR.out.below hb6)
  replace A3:=hdd (A3.out.below hb6)
  replace HX:=hdd (HX.out.below hb6)
  replace A5:=hdd (A5.out.below hb6)
  replace HB:=hdd (HB.out.trans (hb6.mono HB.out.size))
  clear hb6 HY2 A7
  obtain ⟨u0,u1,u2⟩:=A3.out.three
  have uz:=A3.out.lt
  go_wp2_with fail
  have hT:=HOS.out _ p c gs _ w6 HR.out.toGL
  rw[HD.out,HK.out] at hT
  refine hT.mono ?_
  rintro e w7 ⟨rfl,hb7⟩
  clear hT
  replace HX:=hdd (HX.out.below hb7)
  replace A5:=hdd (A5.out.below hb7)
  replace HR:=hdd (HR.out.below hb7)
  replace A3:=hdd (A3.out.below hb7)
  replace HB:=hdd (HB.out.trans (hb7.mono HB.out.size))
  clear hb7
  clear u0 u1 u2 uz
  obtain ⟨u0,u1,u2⟩:=A3.out.three
  have uz:=A3.out.lt
  go_wp2_with fail
  have hT:=HID.out _ [32] w7 _ (by decide) (HGW.out.below HB.out) HR.out
  rw[HD.out,HSV.out] at hT
  refine hT.mono ?_
  rintro e w8 hq
  have hq:=HQ.out _ _ _ _ hq
  rw[HBL.out.1,HBL.out.2] at hq
  obtain ⟨a8,c8,cc8,rfl,q1,q2,ho8,hb8⟩:=hq
  rw[HD.out,HSV.out]
  have hr8:RG w7.heap.size w8 (.slice a8 gs.length cc8) gs:=⟨a8,c8,cc8,rfl,q1,q2,ho8,H64.out⟩
  clear hT
  replace HX:=hdd (HX.out.below hb8)
  replace A5:=hdd (A5.out.below hb8)
  replace HR:=hdd (HR.out.below hb8)
  replace A3:=hdd (A3.out.below hb8)
  replace HB:=hdd (HB.out.trans (hb8.mono HB.out.size))
  clear hb8 ho8 q1 q2
  clear u0 u1 u2 uz
  obtain ⟨x0,x1,x2⟩:=A5.out.three
  have xz:=A5.out.lt
  go_wp2_with fail
  have HZ:=hdd hr8
  clear hr8
  obtain ⟨w9,hwn⟩:∃ z,z=w8.alloc (.cells #[.int .i64 p,.int .i64 c,.slice a8 gs.length cc8] 30):=⟨_,rfl⟩
  have hbn:Below w8.heap.size w8 w9:=by rw[hwn]; exact (Below.refl _ _).alloc (Nat.le_refl _) _
  have han:At w9 w8.heap.size (.cells #[.int .i64 p,.int .i64 c,.slice a8 gs.length cc8] 30):=by rw[hwn]; exact At.new _ _
  rw[←hwn]
  clear hwn
  obtain ⟨t9,hblk⟩:∃ z,z=w8.heap.size:=⟨_,rfl⟩
  rw[←hblk] at han ⊢
  replace HR:=hdd (HR.out.below hbn)
  replace A3:=hdd (A3.out.below hbn)
  replace HX:=hdd (HX.out.below hbn)
  replace A5:=hdd (A5.out.below hbn)
  replace HZ:=hdd (HZ.out.below hbn)
  replace HB:=hdd (HB.out.trans (hbn.mono HB.out.size))
  have A9:=hdd han
  clear hbn han hblk
  clear x0 x1 x2 xz
  have hT:=HOK.out _ p c gs' _ w9 HX.out.toGL
  rw[HD.out,HGD.out] at hT
  refine hT.mono ?_
  rintro e wB ⟨rfl,hbB⟩
  clear hT
  replace HR:=hdd (HR.out.below hbB)
  replace A3:=hdd (A3.out.below hbB)
  replace HX:=hdd (HX.out.below hbB)
  replace A5:=hdd (A5.out.below hbB)
  replace HZ:=hdd (HZ.out.below hbB)
  replace A9:=hdd (A9.out.below hbB)
  replace HB:=hdd (HB.out.trans (hbB.mono HB.out.size))
  clear hbB
  by_cases hok:an=[111,107]
  ·subst hok
   obtain ⟨y0,y1,y2⟩:=A9.out.three
   have yz:=A9.out.lt
   obtain ⟨u0,u1,u2⟩:=A3.out.three
   have uz:=A3.out.lt
   go_wp2_with fail
   have hT:=HSM.out _ _ p c gs _ _ wB HZ.out.toGL HR.out.toGL
   rw[HD.out,HD.out] at hT
   refine hT.mono ?_
   rintro e wD ⟨rfl,hbD⟩
   replace HB:=hdd (HB.out.trans (hbD.mono HB.out.size))
   clear hT hbD
   go_wp2
   go_ret
   exact ⟨rfl,HB.out⟩
  ·have hk1:(an==[111,107])=false:=by simpa using hok
   obtain rfl:=HSA.out hok
   obtain ⟨x0,x1,x2⟩:=A5.out.three
   have xz:=A5.out.lt
   obtain ⟨u0,u1,u2⟩:=A3.out.three
   have uz:=A3.out.lt
   go_wp2_with fail
   have hT:=HSM.out _ _ p c gs' _ _ wB HX.out.toGL HR.out.toGL
   rw[HD.out,HD.out] at hT
   refine hT.mono ?_
   rintro e wC ⟨rfl,hbC⟩
   clear hT
   replace HR:=hdd (HR.out.below hbC)
   replace A3:=hdd (A3.out.below hbC)
   replace HX:=hdd (HX.out.below hbC)
   replace A5:=hdd (A5.out.below hbC)
   replace HZ:=hdd (HZ.out.below hbC)
   replace A9:=hdd (A9.out.below hbC)
   replace HB:=hdd (HB.out.trans (hbC.mono HB.out.size))
   clear hbC
   clear x0 x1 x2 xz u0 u1 u2 uz
   obtain ⟨y0,y1,y2⟩:=A9.out.three
   have yz:=A9.out.lt
   obtain ⟨u0,u1,u2⟩:=A3.out.three
   have uz:=A3.out.lt
   go_wp2_with fail
   have hT:=HSM.out _ _ p c gs' _ _ wC HZ.out.toGL HR.out.toGL
   rw[HD.out,HD.out] at hT
   refine hT.mono ?_
   rintro e wD ⟨rfl,hbD⟩
   replace HB:=hdd (HB.out.trans (hbD.mono HB.out.size))
   clear hT hbD
   go_wp2
   go_ret
   exact ⟨rfl,HB.out⟩
end Go.Proofs.YtenlngclocfnlaaGreatDoor
