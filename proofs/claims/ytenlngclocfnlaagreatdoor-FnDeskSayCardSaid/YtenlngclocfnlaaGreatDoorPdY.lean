/- Texts of this claim, put together: DrawDeed. -/
import Derived.Test.YtenlngclocfnlaaGreatDoorPdH
import Derived.Test.YtenlngclocfnlaaGreatDoorPdA
import Derived.Deep.RegionHeld3
import Derived.Deep.DeepCutAuto
import Derived.Test.YtenlngclocfnlaaGreatDoorPdGD
namespace Go.Proofs.YtenlngclocfnlaaGreatDoor
set_option linter.unusedVariables false
section
open Go.RowKit
set_option maxRecDepth 100000
def TwoInts (w:World) (e:Ending) (w':World):Prop:=∃ r m:Int,e=.returned (.tuple #[.int .i64 r,.int .i64 m])∧In64 r∧In64 m∧Below w.heap.size w w'
theorem answerS_no {B C:Nat} (n c:Int) (u v:Value) (x y:List Int) (w:World) (hx:Ints B w u x) (hy:Ints C w v y) (hn:codeOkB n c x=false∨codeOkB n c y=false):
  Calls Tryz.prog 125 #[.int .i64 n,.int .i64 c,u,v] w (TwoInts w):=by
 have hOx:=codeOkS_any n c u x w hx;have hOy:=codeOkS_any n c v y w hy;obtain ⟨a,cap,rfl,_⟩:=hx.opened;obtain ⟨b,cap',rfl,_⟩:=hy.opened;have h1:In64 (-1):=by unfold In64; omega
 clear hx hy
 cases ho:codeOkB n c x
 ·rw[ho] at hOx
  clear ho hn;go_enter Tryz.func125,Tryz.ntmps125;go_wp2_with fail;refine hOx.mono ?_;rintro e w2 ⟨rfl,rfl⟩;clear hOx;go_wp2;go_ret2;exact ⟨-1,-1,rfl,h1,h1,Below.refl _ _⟩
 ·have hn:=hn.resolve_left (by rw[ho]; simp)
  rw[ho] at hOx;rw[hn] at hOy;clear ho hn;go_enter Tryz.func125,Tryz.ntmps125;go_wp2_with fail;refine hOx.mono ?_;rintro e w2 ⟨rfl,rfl⟩;clear hOx;go_wp2_with fail;refine hOy.mono ?_;rintro e w2 ⟨rfl,rfl⟩;clear hOy;go_wp2;go_ret2;exact ⟨-1,-1,rfl,h1,h1,Below.refl _ _⟩
theorem answerS_two {B C:Nat} (n c:Int) (u v:Value) (x y:List Int) (w:World) (hx:Ints B w u x) (hy:Ints C w v y):
  Calls Tryz.prog 125 #[.int .i64 n,.int .i64 c,u,v] w (TwoInts w):=by
 cases h1:codeOkB n c x
 ·exact answerS_no n c u v x y w hx hy (.inl h1)
 ·cases h2:codeOkB n c y
  ·exact answerS_no n c u v x y w hx hy (.inr h2)
  ·have c1:=codeOkB_iff.1 h1
   have c2:=codeOkB_iff.1 h2;have hp:=c1.1;unfold codesP at hp;obtain ⟨N,rfl⟩:∃ N:Nat,n=(N:Int):=⟨n.toNat,by omega⟩
   obtain ⟨M,rfl⟩:∃ M:Nat,c=(M:Int):=⟨c.toNat,by omega⟩
   have hb:=ans_bounds c1 c2;refine (answerS_ok N M u v x y w hx hy c1 c2).mono ?_;rintro e w' ⟨rfl,hq⟩;have hD:Drawn w w':=hq;exact ⟨_,_,rfl,by unfold In64; omega,by unfold In64; omega,hD.below⟩
def DeedDrawn (K:Nat) (a:Option Addr) (cap:Nat) (bs:List Int) (p:Int) (w:World) (e:Ending) (w':World):Prop:=
 ∃ (b:Bool) (ys:List Int) (r n:Int) (a':Option Addr) (c':Nat),e=.returned (dV b (.slice a' ys.length c') r n)∧OwnI w.heap.size w' (.slice a' ys.length c') ys∧(∀ y∈ys,In64 y)∧In64 r∧In64 n∧ys.length≤10∧Drew K a cap bs p 40 w w'
def DeW (w:World) (K:Nat) (a:Option Addr) (cap:Nat) (bs:List Int) (q:Int) (x c:Int) (v:Value) (wi:World):Prop:=
 wi.heap[w.heap.size]?=some (.cells #[.int .i64 x,.int .i64 c,v] 30 (0,0))∧wi.heap[w.heap.size+1]?=some (.cells #[.bool false,.slice none 0 0,.int .i64 0,.int .i64 0] 41 (0,0)) ∧
  (∃ p',Rd wi K a cap bs p'∧p'≤q)∧w.grownBy wi (some K)∧w.heap.size+2≤wi.heap.size∧K<w.heap.size
theorem DeW.step {w:World} {K:Nat} {a:Option Addr} {cap:Nat} {bs:List Int} {q q':Int} {x c:Int} {v:Value} {wi wj:World} {p':Int} (h:DeW w K a cap bs q x c v wi) (hR:Rd wj K a cap bs p') (hp:p'≤q') (hg:wi.grownBy wj (some K)):DeW w K a cap bs q' x c v wj:=by
 obtain ⟨h1,h2,_,h4,h5,h6⟩:=h;exact ⟨(hg.block _ (Array.getElem?_eq_some_iff.1 h1).1 (by simp; omega)).trans h1,(hg.block _ (Array.getElem?_eq_some_iff.1 h2).1 (by simp; omega)).trans h2,⟨p',hR,hp⟩,grown_trans h4 hg,by have:=hg.size; omega,h6⟩
theorem DeW.below {w:World} {K:Nat} {a:Option Addr} {cap:Nat} {bs:List Int} {q:Int} {x c:Int} {v:Value} {wi wj:World} (h:DeW w K a cap bs q x c v wi) (hb:Below wi.heap.size wi wj):DeW w K a cap bs q x c v wj:=by
 obtain ⟨h1,h2,⟨p',hR,hp⟩,h4,h5,h6⟩:=h;exact ⟨(hb.block _ (Array.getElem?_eq_some_iff.1 h1).1).trans h1,(hb.block _ (Array.getElem?_eq_some_iff.1 h2).1).trans h2,⟨p',hR.below hb,hp⟩,grown_trans h4 (grown_of_below hb),by have:=hb.size; omega,h6⟩
theorem DeW.set {w:World} {K:Nat} {a:Option Addr} {cap:Nat} {bs:List Int} {q:Int} {x c:Int} {v:Value} {wi:World} (h:DeW w K a cap bs q x c v wi) (G j:Nat) (z:Value) (hG:w.heap.size+2≤G):DeW w K a cap bs q x c v (wi.setCell ⟨G,j,none⟩ z):=by
 obtain ⟨h1,h2,⟨p',hR,hp⟩,h4,h5,h6⟩:=h;have hs:=grownBy_setCell wi ⟨G,j,none⟩ z;refine ⟨?_,?_,⟨p',rd_grown hR hs (fun j hj=>by cases hj; simp; omega),hp⟩,h4.andThen hs (fun j hj=>.inl (by cases hj; simp; omega)),by simpa using h5,h6⟩
 ·rw[heap_setCell_other _ _ _ _ (by simp; omega)]; exact h1
 ·rw[heap_setCell_other _ _ _ _ (by simp; omega)]; exact h2
theorem DeW.pick {w:World} {K:Nat} {a:Option Addr} {cap:Nat} {bs:List Int} {q n:Int} {x c:Int} {v:Value} {wi:World} (h:DeW w K a cap bs q x c v wi) (hq:q≤100000000000) (hn:In64 n):
  Calls Tryz.prog 41 #[.pointer (some ⟨K,0,none⟩),.int .i64 n] wi fun e w'=>∃ r,e=.returned (.int .i64 r)∧0≤r∧(1≤n→r<n)∧DeW w K a cap bs (q+1) x c v w'∧wi.grownBy w' (some K):=by
 obtain ⟨p',hR,hp⟩:=h.2.2.1;refine (pick_any n _ K a cap bs p' hR (by omega) hn).mono ?_;rintro e w' ⟨r,rfl,hr0,hr1,⟨p2,hR2,hp2⟩,hg⟩;exact ⟨r,rfl,hr0,hr1,h.step hR2 (by omega) hg,hg⟩
theorem OwnI.other {B D j:Nat} {w:World} {v z:Value} {xs:List Int} {cs:Array Value} {t:TypeId} {fr:Nat×Nat} (h:OwnI B w v xs) (hD:w.heap[D]?=some (.cells cs t fr)) (hne:3≠t):OwnI B (w.setCell ⟨D,j,none⟩ z) v xs:=
 World.ownsRow.kept h (grownBy_setCell w ⟨D,j,none⟩ z) (own_other h hD hne)
theorem DeW.fin {w:World} {K:Nat} {a:Option Addr} {cap:Nat} {bs:List Int} {q p:Int} {x c:Int} {v:Value} {wi:World} {ys:List Int} {a':Option Addr} {c':Nat} (h:DeW w K a cap bs q x c v wi) (hq:q≤p+40) (ho:OwnI w.heap.size wi (.slice a' ys.length c') ys) (hy:∀ y∈ys,In64 y) (hl:ys.length≤10) (b:Bool) (r n:Int) (hr:In64 r) (hn:In64 n):
  DeedDrawn K a cap bs p w (.returned (dV b (.slice a' ys.length c') r n)) ((((wi.setCell ⟨w.heap.size+1,0,none⟩ (.bool b)).setCell ⟨w.heap.size+1,1,none⟩ (.slice a' ys.length c')).setCell ⟨w.heap.size+1,2,none⟩ (.int .i64 r)).setCell ⟨w.heap.size+1,3,none⟩ (.int .i64 n)) ∧
   ((((wi.setCell ⟨w.heap.size+1,0,none⟩ (.bool b)).setCell ⟨w.heap.size+1,1,none⟩ (.slice a' ys.length c')).setCell ⟨w.heap.size+1,2,none⟩ (.int .i64 r)).setCell ⟨w.heap.size+1,3,none⟩ (.int .i64 n)).heap[w.heap.size+1]?=some (.cells #[.bool b,.slice a' ys.length c',.int .i64 r,.int .i64 n] 41 (0,0)):=by
 obtain ⟨h1,h2,⟨p',hR,hp⟩,h4,h5,h6⟩:=h;have q1:=heap_setCell_same _ _ 0 _ _ (.bool b) h2;have q2:=heap_setCell_same _ _ 1 _ _ (.slice a' ys.length c') q1;have q3:=heap_setCell_same _ _ 2 _ _ (.int .i64 r) q2;have q4:=heap_setCell_same _ _ 3 _ _ (.int .i64 n) q3;have g1:=grownBy_setCell wi ⟨w.heap.size+1,0,none⟩ (.bool b);have g2:=grownBy_setCell (wi.setCell ⟨w.heap.size+1,0,none⟩ (.bool b)) ⟨w.heap.size+1,1,none⟩ (.slice a' ys.length c');have g3:=grownBy_setCell ((wi.setCell ⟨w.heap.size+1,0,none⟩ (.bool b)).setCell ⟨w.heap.size+1,1,none⟩ (.slice a' ys.length c')) ⟨w.heap.size+1,2,none⟩ (.int .i64 r);have g4:=grownBy_setCell (((wi.setCell ⟨w.heap.size+1,0,none⟩ (.bool b)).setCell ⟨w.heap.size+1,1,none⟩ (.slice a' ys.length c')).setCell ⟨w.heap.size+1,2,none⟩ (.int .i64 r)) ⟨w.heap.size+1,3,none⟩ (.int .i64 n);refine ⟨⟨b,ys,r,n,a',c',rfl,(((ho.other h2 (by decide)).other q1 (by decide)).other q2 (by decide)).other q3 (by decide),hy,hr,hn,hl,⟨p',?_,by omega⟩,?_⟩,q4⟩
 ·exact rd_grown (rd_grown (rd_grown (rd_grown hR g1 (fun j hj=>by cases hj; simp; omega)) g2 (fun j hj=>by cases hj; simp; omega)) g3 (fun j hj=>by cases hj; simp; omega)) g4 (fun j hj=>by cases hj; simp; omega)
 ·exact (((h4.andThen g1 (fun j hj=>.inl (by cases hj; simp))).andThen g2 (fun j hj=>.inl (by cases hj; simp))).andThen g3 (fun j hj=>.inl (by cases hj; simp))).andThen g4 (fun j hj=>.inl (by cases hj; simp))
theorem deed_zero {w:World} {R:Nat} (h1:w.heap[R]?=some (.cells #[.bool false,.slice none 0 0,.int .i64 0,.int .i64 0] 41 (0,0))):
  w.cell? ⟨R,0,none⟩=some (.bool false)∧w.cell? ⟨R,1,none⟩=some (.slice none 0 0)∧w.cell? ⟨R,2,none⟩=some (.int .i64 0)∧w.cell? ⟨R,3,none⟩=some (.int .i64 0)∧∀ j,w.frozen? ⟨R,j,none⟩=false:=by
 refine ⟨?_,?_,?_,?_,fun j=>frozen_of_row _ _ j _ _ h1⟩ <;> rw[cell_of_row _ _ _ _ _ _ h1] <;> simp
def DeA (w:World) (K:Nat) (a:Option Addr) (cap:Nat) (bs:List Int) (q:Int) (x c:Int) (v:Value) (G:Nat) (ys:List Int) (a3:Option Addr) (c3:Nat) (r1 r2:Int) (s6 s7:Value) (wx:World):Prop:=
 ∃ rr mm:Int,s6=.int .i64 rr∧s7=.int .i64 mm∧In64 rr∧In64 mm∧DeW w K a cap bs q x c v wx∧wx.heap[G]?=some (.cells #[.slice a3 ys.length c3,.int .i64 r1,.int .i64 r2] 39 (0,0))∧OwnI w.heap.size wx (.slice a3 ys.length c3) ys
theorem DeA.mk' {w:World} {K:Nat} {a:Option Addr} {cap:Nat} {bs:List Int} {q:Int} {x c:Int} {v:Value} {G:Nat} {ys:List Int} {a3:Option Addr} {c3:Nat} {r1 r2 rr mm:Int} {wx:World} (h1:In64 rr) (h2:In64 mm) (h3:DeW w K a cap bs q x c v wx)
  (h4:wx.heap[G]?=some (.cells #[.slice a3 ys.length c3,.int .i64 r1,.int .i64 r2] 39 (0,0))) (h5:OwnI w.heap.size wx (.slice a3 ys.length c3) ys):DeA w K a cap bs q x c v G ys a3 c3 r1 r2 (.int .i64 rr) (.int .i64 mm) wx:=⟨rr,mm,rfl,rfl,h1,h2,h3,h4,h5⟩
theorem DeW.drew {w:World} {K:Nat} {a:Option Addr} {cap:Nat} {bs:List Int} {q:Int} {x c:Int} {v:Value} {wi:World} (h:DeW w K a cap bs q x c v wi):DeW w K a cap bs q x c v wi.drew:=h.below (Below.refl _ _).drew
theorem three_of {w:World} {g:Nat} {a b c:Value} {t:TypeId} {fr:Nat×Nat} (h:w.heap[g]?=some (.cells #[a,b,c] t fr)):w.cell? ⟨g,0,none⟩=some a∧w.cell? ⟨g,1,none⟩=some b∧w.cell? ⟨g,2,none⟩=some c:=by
 refine ⟨?_,?_,?_⟩ <;> rw[cell_of_row _ _ _ _ _ _ h] <;> simp
set_option maxHeartbeats 8000000 in
theorem deed_any (x c:Int) (va:Option Addr) (vn vc:Nat) (w:World) (K:Nat) (a:Option Addr) (cap:Nat) (bs:List Int) (p:Int) (h:Rd w K a cap bs p) (hp:p≤1000000000) (hx0:0≤x) (hx4:x≤4) (hc0:0≤c) (hc4:c≤4):
  Calls Tryz.prog 86 #[.pointer (some ⟨K,0,none⟩),dkV x c (.slice va vn vc)] w (DeedDrawn K a cap bs p w):=by
 obtain ⟨w1,hw1⟩:∃ z,z=(w.alloc (.cells #[.int .i64 x,.int .i64 c,.slice va vn vc] 30)).alloc (.cells #[.bool false,.slice none 0 0,.int .i64 0,.int .i64 0] 41):=⟨_,rfl⟩
 have hb1:Below w.heap.size w w1:=by rw[hw1]; exact ((Below.refl _ _).alloc (Nat.le_refl _) _).alloc (by simp) _
 have hs1:w1.heap.size=w.heap.size+2:=by rw[hw1]; simp
 have hz0:w1.heap[w.heap.size]?=some (.cells #[.int .i64 x,.int .i64 c,.slice va vn vc] 30 (0,0)):=by
  rw[hw1,haoM _ _ (by simp; try omega)]; exact heap_alloc_new w _
 have hz1:w1.heap[w.heap.size+1]?=some (.cells #[.bool false,.slice none 0 0,.int .i64 0,.int .i64 0] 41 (0,0)):=by
  rw[hw1]; have q:=@Go.heap_alloc_new (w.alloc (.cells #[.int .i64 x,.int .i64 c,.slice va vn vc] 30)) (.cells #[.bool false,.slice none 0 0,.int .i64 0,.int .i64 0] 41); rw[World.size_alloc] at q; exact q
 have hK:=h.lt;have hW1:DeW w K a cap bs p x c (.slice va vn vc) w1:=⟨hz0,hz1,⟨p,h.below hb1,by omega⟩,grown_of_below hb1,by omega,hK⟩
 have hP:=hW1.pick (n:=5) (by omega) (by unfold In64; omega);unfold dkV;clear h hb1 hs1 hz0 hz1 hW1;go_enter Tryz.func86,Tryz.ntmps86;go_wp2_with fail;rw[←hw1];clear hw1;refine hP.mono ?_;rintro e w2 ⟨r0,rfl,hr0,hr1,hW2,_⟩;have HW2:=hdd hW2;clear hP hW2 hr1
 by_cases hr:r0=0
 ·subst hr
  obtain ⟨z0,z1,z2,z3,zf⟩:=deed_zero HW2.out.2.1;have HF:=hdd (HW2.out.fin (p:=p) (ys:=[]) (a':=none) (c':=0) (by omega) (OwnI.empty _ _) (by simp) (by simp) true 0 0 (by unfold In64; omega) (by unfold In64; omega));go_wp2
  ((try simp only[Exit.inBlock,Exit.then]); refine bodyPost_ret (results_cell_row rfl _ _ (w.heap.size+1) _ _ (0,0) _ rfl HF.out.2 Tryz.underlying41 rfl (by kernel_rfl)) rfl ?_)
  exact HF.out.1
 ·have hr':(r0==0)=false:=by simpa using hr
  have x0:=cell_of_row _ _ 0 _ _ (0,0) HW2.out.1;have x1:=cell_of_row _ _ 1 _ _ (0,0) HW2.out.1;simp only[List.getElem?_toArray,List.getElem?_cons_zero,List.getElem?_cons_succ] at x0 x1;clear hr;have hcases:((3<x∧¬(3:Int)<1)∨(¬3<x∧x<1)∨(¬3<x∧¬x<1))∧(c<1∨¬c<1):=by omega
  obtain ⟨hxx,hcc⟩:=hcases
  rcases hxx with ⟨hxa,hxb⟩ | ⟨hxa,hxb⟩ | ⟨hxa,hxb⟩ <;> rcases hcc with hca | hca
  all_goals
   go_wp2_with fail;obtain ⟨p2,hR2,hp2⟩:=HW2.out.2.2.1;have hz2:=HW2.out.2.2.2.2.1;refine (code_any _ _ _ _ _ K a cap bs p2 hR2 (by omega) (by omega) (by omega) (by omega) (by omega) (by omega) (by omega) (by omega) rfl).mono ?_;rintro e w3 ⟨ys,a3,c3,rfl,ho3,_,h64,hl10,⟨p3,hR3,hp3⟩,hg3⟩;have HW3:=hdd (HW2.out.step hR3 (q':=p+13) (by omega) hg3);have HO3:=hdd (show OwnI w.heap.size w3 _ _ from owns_mono ho3 (by omega));have H64:=hdd h64;have hP:=HW3.out.pick (n:=3) (by omega) (by unfold In64; omega);clear hR2 hR3 hg3 ho3 h64 hp2 hp3;go_wp2_with fail;refine hP.mono ?_;rintro e w4 ⟨r1,rfl,hr10,hr11,hW4,hg4⟩;have hr11:=hr11 (by omega);have HW4:=hdd hW4;have HO4:=hdd (HO3.out.keep (Above.of_grown hg4 (by omega)));have hP:=HW4.out.pick (n:=3) (by omega) (by unfold In64; omega);clear hW4 hg4 HW3 HO3;go_wp2_with fail;refine hP.mono ?_;rintro e w5 ⟨r2,rfl,hr20,hr21,hW5,hg5⟩;have hr21:=hr21 (by omega);have HW5:=hdd hW5;have HO5:=hdd (HO4.out.keep (Above.of_grown hg5 (by omega)));clear hP hW5 hg5 HW4 HO4 x0 x1;go_wp2_with fail;obtain ⟨wq,hwq⟩:∃ z,z=w5.alloc (.cells #[.slice a3 ys.length c3,.int .i64 r1,.int .i64 r2] 39):=⟨_,rfl⟩
   have hbq:Below w5.heap.size w5 wq:=by rw[hwq]; exact (Below.refl _ _).alloc (Nat.le_refl _) _
   have hgq:wq.heap[w5.heap.size]?=some (.cells #[.slice a3 ys.length c3,.int .i64 r1,.int .i64 r2] 39 (0,0)):=by rw[hwq]; exact heap_alloc_new w5 _
   rw[←hwq];obtain ⟨G,hG⟩:∃ z,z=w5.heap.size:=⟨_,rfl⟩
   rw[←hG] at hgq ⊢;have hGN:w.heap.size+2≤G:=by rw[hG]; exact HW5.out.2.2.2.2.1
   have HWQ:=hdd (HW5.out.below hbq);have HOQ:=hdd (show OwnI w.heap.size wq _ _ from owns_below HO5.out hbq);have HGQ:=hdd hgq;have hP:=HWQ.out.pick (n:=2) (by omega) (by unfold In64; omega);clear hwq hbq hgq hG HW5 HO5;refine hP.mono ?_;rintro e w6 ⟨r3,rfl,hr30,_,hW6,hg6⟩;have HW6:=hdd hW6;have HO6:=hdd (HOQ.out.keep (Above.of_grown hg6 (by omega)));have HG6:=hdd ((hg6.block G (Array.getElem?_eq_some_iff.1 HGQ.out).1 (by simp; omega)).trans HGQ.out);obtain ⟨z0,z1,z2,z3,zf⟩:=deed_zero HW6.out.2.1;have x0:=(three_of HW6.out.1).1;have x1:=(three_of HW6.out.1).2.1;obtain ⟨g0,g1,g2⟩:=three_of HG6.out;have hz6:=(Array.getElem?_eq_some_iff.1 HG6.out).1;clear hP hW6 hg6 HWQ HOQ HGQ
   by_cases hr3:r3=0
   ·subst hr3
    go_wp2;go_cut [6,7] (fun s6 s7 wx=>DeA w K a cap bs (p+40) x c (.slice va vn vc) G ys a3 c3 r1 r2 s6 s7 wx)
    case first=>
     obtain ⟨p6,hR6,hp6⟩:=HW6.out.drew.2.2.1;go_region_held3 (fun w'=>w'.cell? ⟨w.heap.size,0,none⟩=some (.int .i64 x)∧w'.cell? ⟨w.heap.size,1,none⟩=some (.int .i64 c)∧w'.cell? ⟨G,0,none⟩=some (.slice a3 ys.length c3))
      (first
       | go_keep
       | (go_split_ands; exact ⟨(hg7.cell_far _ (by simp; omega) (by simp; omega)).trans (by assumption),(hg7.cell_far _ (by simp; omega) (by simp; omega)).trans (by assumption),(hg7.cell_far _ (by simp; omega) (by simp; omega)).trans (by assumption)⟩)
       | (go_split_ands; exact ⟨(hb8.cell (by simp; omega)).trans (by assumption),(hb8.cell (by simp; omega)).trans (by assumption),(hb8.cell (by simp; omega)).trans (by assumption)⟩))
      (first
       | (go_at_call 124; refine (code_any _ _ _ _ _ K a cap bs p6 hR6 (by omega) (by omega) (by omega) (by omega) (by omega) (by omega) (by omega) (by omega) rfl).mono ?_; rintro e w7 ⟨zs,a7,c7,rfl,ho7,_,h7,hl7,⟨p7,hR7,hp7⟩,hg7⟩; have HW7:=hdd (HW6.out.drew.step hR7 (q':=p+40) (by omega) hg7); have HO7:=hdd ((show OwnI w.heap.size w6.drew _ _ from HO6.out).keep (Above.of_grown hg7 (by omega))); have HG7:=hdd ((hg7.block G (show G<w6.drew.heap.size from hz6) (by simp; omega)).trans (show w6.drew.heap[G]?=_ from HG6.out)); have HI7:=hdd (ho7.toInts h7); have hz7:G<w7.heap.size:=(Array.getElem?_eq_some_iff.1 HG7.out).1; clear ho7 h7 hR7 hp7)
       | (go_at_call 125; refine (answerS_two _ _ _ _ zs ys _ HI7.out (HO7.out.toInts H64.out)).mono ?_; rintro e w8 ⟨rr,mm,rfl,hrr,hmm,hb8⟩; have HF8:=hdd (DeA.mk' (r1:=r1) (r2:=r2) hrr hmm (HW7.out.below hb8) ((hb8.block G hz7).trans HG7.out) (show OwnI w.heap.size w8 _ _ from owns_below HO7.out hb8)); clear hrr hmm)
       | fail)
     all_goals (go_wp2_with fail; go_meet; exact HF8.out)
    case rest=>
     obtain ⟨rr,mm,rfl,rfl,hrr,hmm,hW7,hG7,hO7⟩:=hcut;have HW7:=hdd hW7;have HO7:=hdd hO7;obtain ⟨g0,g1,g2⟩:=three_of hG7;have gf:∀ j,wc.frozen? ⟨G,j,none⟩=false:=fun j=>frozen_of_row _ _ j _ _ hG7
     obtain ⟨z0,z1,z2,z3,zf⟩:=deed_zero HW7.out.2.1;obtain ⟨wz,rfl⟩:∃ z,z=wc:=⟨_,rfl⟩
     have HG7:=hdd hG7;clear hW7 hO7 hG7 x0 x1;have key:∀ s t:Int,In64 s→In64 t→DeedDrawn K a cap bs p w (.returned (dV false (.slice a3 ys.length c3) s t)) ((((((wz.setCell ⟨G,1,none⟩ (.int .i64 s)).setCell ⟨G,2,none⟩ (.int .i64 t)).setCell ⟨w.heap.size+1,0,none⟩ (.bool false)).setCell ⟨w.heap.size+1,1,none⟩ (.slice a3 ys.length c3)).setCell ⟨w.heap.size+1,2,none⟩ (.int .i64 s)).setCell ⟨w.heap.size+1,3,none⟩ (.int .i64 t)) ∧
       ((((((wz.setCell ⟨G,1,none⟩ (.int .i64 s)).setCell ⟨G,2,none⟩ (.int .i64 t)).setCell ⟨w.heap.size+1,0,none⟩ (.bool false)).setCell ⟨w.heap.size+1,1,none⟩ (.slice a3 ys.length c3)).setCell ⟨w.heap.size+1,2,none⟩ (.int .i64 s)).setCell ⟨w.heap.size+1,3,none⟩ (.int .i64 t)).heap[w.heap.size+1]?=some (.cells #[.bool false,.slice a3 ys.length c3,.int .i64 s,.int .i64 t] 41 (0,0)):=fun s t hs ht=>
      ((HW7.out.set G 1 _ hGN).set G 2 _ hGN).fin (by omega) ((HO7.out.other HG7.out (by decide)).other (heap_setCell_same _ _ 1 _ _ (.int .i64 s) HG7.out) (by decide)) H64.out hl10 false s t hs ht
     have HKEY:=hdd key;have h00:In64 0:=by unfold In64; omega
     clear key
     by_cases hq1:rr<0 <;> by_cases hq2:mm<0
     ·have HF:=hdd (HKEY.out 0 0 h00 h00)
      go_wp2
      ((try simp only[Exit.inBlock,Exit.then]); refine bodyPost_ret (results_cell_row rfl _ _ (w.heap.size+1) _ _ (0,0) _ rfl HF.out.2 Tryz.underlying41 rfl (by kernel_rfl)) rfl ?_)
      exact HF.out.1
     ·have HF:=hdd (HKEY.out 0 mm h00 hmm)
      go_wp2
      ((try simp only[Exit.inBlock,Exit.then]); refine bodyPost_ret (results_cell_row rfl _ _ (w.heap.size+1) _ _ (0,0) _ rfl HF.out.2 Tryz.underlying41 rfl (by kernel_rfl)) rfl ?_)
      exact HF.out.1
     ·have HF:=hdd (HKEY.out rr 0 hrr h00)
      go_wp2
      ((try simp only[Exit.inBlock,Exit.then]); refine bodyPost_ret (results_cell_row rfl _ _ (w.heap.size+1) _ _ (0,0) _ rfl HF.out.2 Tryz.underlying41 rfl (by kernel_rfl)) rfl ?_)
      exact HF.out.1
     ·have HF:=hdd (HKEY.out rr mm hrr hmm)
      go_wp2
      ((try simp only[Exit.inBlock,Exit.then]); refine bodyPost_ret (results_cell_row rfl _ _ (w.heap.size+1) _ _ (0,0) _ rfl HF.out.2 Tryz.underlying41 rfl (by kernel_rfl)) rfl ?_)
      exact HF.out.1
   ·have hr3':(r3==0)=false:=by simpa using hr3
    have HF:=hdd (HW6.out.fin (p:=p) (by omega) HO6.out H64.out hl10 false r1 r2 (by unfold In64; omega) (by unfold In64; omega));clear hr3;go_wp2
    ((try simp only[Exit.inBlock,Exit.then]); refine bodyPost_ret (results_cell_row rfl _ _ (w.heap.size+1) _ _ (0,0) _ rfl HF.out.2 Tryz.underlying41 rfl (by kernel_rfl)) rfl ?_)
    exact HF.out.1
end
end Go.Proofs.YtenlngclocfnlaaGreatDoor
