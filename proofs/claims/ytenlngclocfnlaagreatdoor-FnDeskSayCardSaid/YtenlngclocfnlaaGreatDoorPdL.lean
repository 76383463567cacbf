/- Texts of this claim, put together: BunO. -/
import Derived.Test.YtenlngclocfnlaaGreatDoorRows
import Derived.WalkKit
import Derived.Deep.RegionHeld3
import Derived.Test.YtenlngclocfnlaaGreatDoorPdH
import Derived.Test.YtenlngclocfnlaaGreatDoorPdE
import Derived.Test.YtenlngclocfnlaaGreatDoorPdA
import Derived.Test.YtenlngclocfnlaaGreatDoorPdJ
import Derived.Maps.AppendAt
import Derived.Test.YtenlngclocfnlaaGreatDoorPdGD
namespace Go.Proofs.YtenlngclocfnlaaGreatDoor
set_option linter.unusedVariables false
section
open Go Go.RowKit
section
variable {P:Program} {ops:Array Oper} {Q:Exit→Act→World→Prop} {md:Region.Mode} {S:World→Prop} {z:Nat}
def AnyZ (P:Program) (md:Region.Mode) (ops:Array Oper) (Q:Exit→Act→World→Prop) (S:World→Prop) (z:Nat):Nat→Array Bool→Act→World→Prop
 | 0,done,a,w=>Region.ready md ops done=[]∧Q .normal a w
 | n+1,done,a,w=>(Region.ready md ops done=[]→Q .normal a w) ∧
   ∀ j∈Region.ready md ops done,wpOp P ops Q j (fun b u=>(j≠z→S u)∧AnyZ P md ops Q S z n (done.setIfInBounds j true) b u) a w
theorem AnyZ.any:∀ (n:Nat) (done:Array Bool) (a:Act) (w:World),AnyZ P md ops Q S z n done a w→wpAny P md ops Q n done a w
 | 0,_,_,_,h=>h
 | n+1,_,_,_,h=>⟨h.1,fun j hj=>wpOp_mono (fun b u q=>AnyZ.any n _ b u q.2) (h.2 j hj)⟩
theorem unlisted_of_ready {done:Array Bool} {i:Nat} (h:i∈Region.ready md ops done):done.getD i false=false:=by
 have h0:=(mem_ready.1 h).1
 rcases Nat.lt_or_ge i done.size with q | q
 ·simp[q] at h0 ⊢; exact h0
 ·simp[Array.getElem?_eq_none q]
theorem AnyZ.early {i:Nat} {oi oz:Oper} {v:Value} (hi:ops[i]?=some oi) (hz:ops[z]?=some oz) (hwait:∃ e∈oz.after,Region.binds md e=true∧e.on=i)
  (hsel:∀ (j:Nat) (o:Oper) cs b,ops[j]?=some o→o.op≠.select cs b) (hQ:∀ c a w,Q (.panic c) (a.put oi.dst v) w→Q (.panic c) a w) (n:Nat):
  ∀ (done:Array Bool) (a:Act) (w:World),(∀ j oj,ops[j]?=some oj→j≠i→done.getD j true=false→(∀ e∈oj.after,Region.binds md e=true→e.on≠i)→oi.apart ops oj=true) →
   i∈Region.ready md ops done→YieldsIf P ops S oi v a→S w→AnyZ P md ops Q S z n (done.setIfInBounds i true) (a.put oi.dst v) w→AnyZ P md ops Q S z (n+1) done a w:=by
 induction n with
 | zero=>
  intro done a w _ hr hy hS H;refine ⟨fun e=>(by rw[e] at hr; cases hr),fun j hj=>?_⟩
  rcases Decidable.em (j=i) with rfl | hne
  ·exact hy.wpOp hi hS ⟨fun _=>hS,H⟩
  ·have:=ready_mono hj hne
   rw[H.1] at this
   cases this
 | succ n ih=>
  intro done a w hfree hr hy hS H;refine ⟨fun e=>(by rw[e] at hr; cases hr),fun j hj=>?_⟩
  rcases Decidable.em (j=i) with rfl | hne
  ·exact hy.wpOp hi hS ⟨fun _=>hS,H⟩
  ·obtain ⟨hun,oj,hoj,hall⟩:=mem_ready.1 hj
   have hnot:∀ e∈oj.after,Region.binds md e=true→e.on≠i:=fun e he hb q=>by
    have h1:=hall e he hb;rw[q,unlisted_of_ready hr] at h1
    cases h1
   have hjz:j≠z:=by
    rintro rfl;obtain ⟨e,he,hb,q⟩:=hwait;rw[hoj] at hz
    cases hz
    exact hnot e he hb q
   have h2:=wpOp_putIf hoj (hfree j oj hoj hne hun hnot) (fun cs b=>hsel i oi cs b hi) (fun cs b=>hsel j oj cs b hoj) hQ hy (H.2 j (ready_mono hj hne));refine wpOp_mono (fun b u q=>⟨fun _=>q.2.1 hjz,ih (done.setIfInBounds j true) b u ?_ (ready_mono hr (Ne.symm hne)) q.1 (q.2.1 hjz) ?_⟩) h2
   ·intro k ok hk hki hkun hno
    refine hfree k ok hk hki ?_ hno
    rcases Decidable.em (j=k) with rfl | hjk
    ·exact hun
    ·rwa [Go.getD_set_ne true hjk] at hkun
   ·rw[Array.setIfInBounds_comm _ _ hne]
    exact q.2.2
def waitsB (md:Region.Mode) (ops:Array Oper) (z i:Nat):Bool:=match ops[z]? with
 | some o=>o.after.any fun e=>Region.binds md e&&e.on==i
 | none=>false
theorem AnyZ.take {i:Nat} {oi:Oper} {v:Value} {n:Nat} {done:Array Bool} {a:Act} {w:World} (hi:ops[i]?=some oi) (hz:waitsB md ops z i=true)
  (hs:Region.noSelect ops=true) (hf:Region.free md ops done i=true) (hr:(Region.ready md ops done).contains i=true)
  (hQ:∀ c a w,Q (.panic c) (a.put oi.dst v) w→Q (.panic c) a w) (hy:YieldsIf P ops S oi v a) (hS:S w)
  (h:AnyZ P md ops Q S z n (done.setIfInBounds i true) (a.put oi.dst v) w):AnyZ P md ops Q S z (n+1) done a w:=by
 unfold waitsB at hz
 split at hz
 ·rename_i oz hoz
  obtain ⟨e,he,hb⟩:=Array.any_eq_true'.1 hz;simp only[Bool.and_eq_true,beq_iff_eq] at hb;exact AnyZ.early hi hoz ⟨e,he,hb⟩ (Region.noSelect_spec hs) hQ n done a w (Region.free_spec hi hf) (by simpa using hr) hy hS h
 ·cases hz
theorem AnyZ.one {j:Nat} {o:Oper} {n:Nat} {done:Array Bool} {a:Act} {w:World} (hr:Region.ready md ops done=[j]) (ho:ops[j]?=some o)
  (h:∀ K:Act→World→Prop,Shut (∀ b u,S u→(S u→AnyZ P md ops Q S z n (done.setIfInBounds j true) b u)→K b u) →
   if Region.wanted o (yielded ops a.tmps)=true then Oper.wp P o a w K Q else K (a.put o.dst undef) w):AnyZ P md ops Q S z (n+1) done a w:=by
 refine ⟨fun e=>(by rw[hr] at e; cases e),fun k hk=>?_⟩;rw[hr] at hk;obtain rfl:=List.mem_singleton.1 hk;exact wpOp_step ho (fun K hK=>h K (fun b u hS hW=>hK b u ⟨fun _=>hS,hW hS⟩))
theorem AnyZ.last {o:Oper} {n:Nat} {done:Array Bool} {a:Act} {w:World} (hr:Region.ready md ops done=[z]) (ho:ops[z]?=some o) (he:Region.ready md ops (done.setIfInBounds z true)=[])
  (h:∀ K:Act→World→Prop,Shut (∀ b u,Q .normal b u→K b u)→if Region.wanted o (yielded ops a.tmps)=true then Oper.wp P o a w K Q else K (a.put o.dst undef) w):AnyZ P md ops Q S z (n+1) done a w:=by
 refine ⟨fun e=>(by rw[hr] at e; cases e),fun k hk=>?_⟩;rw[hr] at hk;obtain rfl:=List.mem_singleton.1 hk;refine wpOp_step ho (fun K hK=>h K (fun b u hW=>hK b u ⟨fun e=>absurd rfl e,?_⟩))
 cases n with
 | zero=>exact ⟨he,hW⟩
 | succ n=>exact ⟨fun _=>hW,by rw[he]; simp⟩
theorem AnyZ.start {id:Nat} {a:Act} {w:World} (hm:P.follows .mixedOrders=true) (hS:S w.drew)
  (h:S w.drew→AnyZ P .any ops Q S z ops.size (Array.replicate ops.size false) a w.drew):(Code.region id ops true).wp P Q a w:=
 wp_region_any hm (AnyZ.any _ _ _ _ (h hS))
end
end
section
open Go.RowKit
set_option maxRecDepth 100000
theorem Ints.drewAlloc {B:Nat} {w:World} {v:Value} {xs:List Int} (h:Ints B w v xs) (o:Obj):Ints B (w.drew.alloc o) v xs:=
 (show Ints B w.drew v xs from h).below ((Below.refl _ _).alloc (Nat.le_refl _) _)
theorem OwnI.mono2 {B B':Nat} {w:World} {v:Value} {xs:List Int} (h:OwnI B w v xs) (hB:B'≤B):OwnI B' w v xs:=owns_mono h hB
def CopW (w:World) (R X:Nat) (xs:Array Value) (D:Nat) (p c:Int) (gs:List Gs) (ao:Option Addr) (k co:Nat) (wi:World):Prop:=
 wi.heap[R]?=some (.cells #[.int .i64 0,.int .i64 0,.slice none 0 0] 30 (0,0))∧wi.heap[X]?=some (.cells xs 30 (0,0)) ∧
  wi.heap[D]?=some (.cells #[.int .i64 p,.int .i64 c,.slice ao k co] 30 (0,0))∧OwnG w.heap.size wi (.slice ao k co) (gs.take k)∧k≤gs.length∧Below w.heap.size w wi∧R≠D∧X≠D∧w.heap.size≤D∧w.heap.size≤R
theorem CopW.below {w:World} {R X:Nat} {xs:Array Value} {D:Nat} {p c:Int} {gs:List Gs} {ao:Option Addr} {k co:Nat} {wi wj:World} (h:CopW w R X xs D p c gs ao k co wi) (hb:Below wi.heap.size wi wj):CopW w R X xs D p c gs ao k co wj:=by
 obtain ⟨h1,h2,h3,h4,h5,h6,h7⟩:=h;exact ⟨(hb.block _ (Array.getElem?_eq_some_iff.1 h1).1).trans h1,(hb.block _ (Array.getElem?_eq_some_iff.1 h2).1).trans h2,(hb.block _ (Array.getElem?_eq_some_iff.1 h3).1).trans h3,h4.below hb,h5,h6.trans (hb.mono h6.size),h7⟩
theorem CopW.push {w:World} {R X:Nat} {xs:Array Value} {D:Nat} {p c:Int} {gs:List Gs} {ao:Option Addr} {k co:Nat} {wi w7:World} (h:CopW w R X xs D p c gs ao k co wi) (hk:k<gs.length) {a7:Option Addr} {c7:Nat}
  (ho:OwnG w.heap.size w7 (.slice a7 (k+1) c7) (gs.take k++[gs[k]])) (hg:wi.grownBy w7 (Value.slice ao k co).ownBlock):
  CopW w R X xs D p c gs a7 (k+1) c7 (w7.setCell ⟨D,2,none⟩ (.slice a7 (k+1) c7))∧w7.heap[D]?=some (.cells #[.int .i64 p,.int .i64 c,.slice ao k co] 30 (0,0)):=by
 obtain ⟨h1,h2,h3,h4,h5,h6,h7,h8,h9,h10⟩:=h;obtain ⟨ts,t1,_⟩:=h4;have e1:=own_other t1 h1 (by decide);have e2:=own_other t1 h2 (by decide);have e3:=own_other t1 h3 (by decide);have far:∀ {j:Nat} {o:Obj},wi.heap[j]?=some o→((Value.slice ao k co).ownBlock=none∨(Value.slice ao k co).ownBlock≠some j)→w7.heap[j]?=some o:=by
  intro j o hj hne;rw[hg.block j (Array.getElem?_eq_some_iff.1 hj).1 (fun e=>by rcases hne with q | q; (rw[q] at e; cases e); exact q e.symm)];exact hj
 have hD:=far h3 e3;refine ⟨⟨?_,?_,heap_setCell_same _ _ 2 _ _ _ hD,?_,by omega,?_,h7,h8,h9,h10⟩,hD⟩
 ·rw[heap_setCell_other _ _ _ _ (by simpa using h7)]; exact far h1 e1
 ·rw[heap_setCell_other _ _ _ _ (by simpa using h8)]; exact far h2 e2
 ·rw[List.take_succ_eq_append_getElem hk]
  exact ho.other hD
 ·refine (h6.grown hg h6.size (fun j hj=>(World.ownsRow.lt t1 j hj).1)).setCell (p:=⟨D,2,none⟩) h9 _
theorem CopW.facts {w:World} {R X:Nat} {xs:Array Value} {D:Nat} {p c:Int} {gs:List Gs} {ao:Option Addr} {k co:Nat} {wi:World} (h:CopW w R X xs D p c gs ao k co wi):
  wi.cell? ⟨D,0,none⟩=some (.int .i64 p)∧wi.cell? ⟨D,1,none⟩=some (.int .i64 c)∧wi.cell? ⟨D,2,none⟩=some (.slice ao k co)∧(∀ j,wi.cell? ⟨X,j,none⟩=xs[j]?)∧D<wi.heap.size∧X<wi.heap.size∧R<wi.heap.size:=by
 obtain ⟨h1,h2,h3,_⟩:=h;refine ⟨?_,?_,?_,fun j=>?_,(Array.getElem?_eq_some_iff.1 h3).1,(Array.getElem?_eq_some_iff.1 h2).1,(Array.getElem?_eq_some_iff.1 h1).1⟩
 ·rw[cell_of_row _ _ _ _ _ _ h3]; simp
 ·rw[cell_of_row _ _ _ _ _ _ h3]; simp
 ·rw[cell_of_row _ _ _ _ _ _ h3]; simp
 ·rw[cell_of_row _ _ _ _ _ _ h2]
theorem CopW.done {w:World} {R X:Nat} {xs:Array Value} {D:Nat} {p c:Int} {gs:List Gs} {ao:Option Addr} {co:Nat} {wi:World} (h:CopW w R X xs D p c gs ao gs.length co wi):
  DeskOut p c gs w (.returned (dkV p c (.slice ao gs.length co))) (((wi.setCell ⟨R,0,none⟩ (.int .i64 p)).setCell ⟨R,1,none⟩ (.int .i64 c)).setCell ⟨R,2,none⟩ (.slice ao gs.length co)) ∧
   (((wi.setCell ⟨R,0,none⟩ (.int .i64 p)).setCell ⟨R,1,none⟩ (.int .i64 c)).setCell ⟨R,2,none⟩ (.slice ao gs.length co)).heap[R]?=some (.cells #[.int .i64 p,.int .i64 c,.slice ao gs.length co] 30 (0,0)):=by
 obtain ⟨h1,h2,h3,h4,h5,h6,h7,h8,h9,h10⟩:=h;rw[List.take_length] at h4;have q1:=heap_setCell_same _ _ 0 _ _ (.int .i64 p) h1;have q2:=heap_setCell_same _ _ 1 _ _ (.int .i64 c) q1;have q3:=heap_setCell_same _ _ 2 _ _ (.slice ao gs.length co) q2;exact ⟨⟨ao,co,rfl,((h4.other h1).other q1).other q2,((h6.setCell (p:=⟨R,0,none⟩) h10 _).setCell (p:=⟨R,1,none⟩) h10 _).setCell (p:=⟨R,2,none⟩) h10 _⟩,q3⟩
theorem CopW.zero {w:World} {R X:Nat} {xs:Array Value} {D:Nat} {p c:Int} {gs:List Gs} {ao:Option Addr} {k co:Nat} {wi:World} (h:CopW w R X xs D p c gs ao k co wi):
  wi.cell? ⟨R,0,none⟩=some (.int .i64 0)∧wi.cell? ⟨R,1,none⟩=some (.int .i64 0)∧wi.cell? ⟨R,2,none⟩=some (.slice none 0 0)∧∀ j,wi.frozen? ⟨R,j,none⟩=false:=by
 have h1:=h.1;refine ⟨?_,?_,?_,fun j=>frozen_of_row _ _ j _ _ h1⟩ <;> rw[cell_of_row _ _ _ _ _ _ h1] <;> simp
set_option maxHeartbeats 2000000 in
theorem copS_any {B:Nat} (p c:Int) (v:Value) (gs:List Gs) (w:World) (h:GL B w v gs) (hl:gs.length≤1000) (hc:∀ g∈gs,g.code.length≤2000000):
  Calls Tryz.prog 65 #[dkV p c v] w (DeskOut p c gs w):=by
 obtain ⟨a,cap,V,rfl,hcap,hmax,hcells,hV⟩:=h;obtain ⟨w0,hw0⟩:∃ w0,w0=((w.alloc (.cells #[.int .i64 p,.int .i64 c,.slice a gs.length cap] 30)).alloc (.cells #[.int .i64 0,.int .i64 0,.slice none 0 0] 30)).alloc (.cells #[.int .i64 p,.int .i64 c,.slice none 0 0] 30):=⟨_,rfl⟩
 have hs0:w0.heap.size=w.heap.size+3:=by rw[hw0]; simp
 have hC0:CopW w (w.heap.size+1) w.heap.size #[.int .i64 p,.int .i64 c,.slice a gs.length cap] (w.heap.size+1+1) p c gs none 0 0 w0:=by
  refine ⟨?_,?_,?_,OwnG.empty _ _,Nat.zero_le _,?_,by omega,by omega,by omega,by omega⟩
  ·rw[hw0,haoM _ _ (by simp; try omega)]; have q:=@Go.heap_alloc_new (w.alloc (.cells #[.int .i64 p,.int .i64 c,.slice a gs.length cap] 30)) (.cells #[.int .i64 0,.int .i64 0,.slice none 0 0] 30); rw[World.size_alloc] at q; exact q
  ·rw[hw0,haoM _ _ (by simp; try omega),haoM _ _ (by simp; try omega)]; exact heap_alloc_new w _
  ·rw[hw0]; have q:=@Go.heap_alloc_new ((w.alloc (.cells #[.int .i64 p,.int .i64 c,.slice a gs.length cap] 30)).alloc (.cells #[.int .i64 0,.int .i64 0,.slice none 0 0] 30)) (.cells #[.int .i64 p,.int .i64 c,.slice none 0 0] 30); rw[World.size_alloc,World.size_alloc] at q; exact q
  ·rw[hw0]; exact (((Below.refl _ _).alloc (Nat.le_refl _) _).alloc (by simp) _).alloc (by simp; omega) _
 have HC0:=hdd hC0;have HCODE:=hdd hc;clear hC0 hs0 hc;unfold dkV;go_enter Tryz.func65,Tryz.ntmps65;go_wp2;rw[←hw0];clear hw0;go_loopw [4] (fun i wr=>∃ (k:Nat) (ao:Option Addr) (co:Nat),i=.int .i64 k∧CopW w (w.heap.size+1) w.heap.size #[.int .i64 p,.int .i64 c,.slice a gs.length cap] (w.heap.size+1+1) p c gs ao k co wr) (fun i _=>gs.length-(intOf i).toNat)
 case atStart=>exact ⟨0,_,_,rfl,HC0.out⟩
 case round=>
  obtain ⟨k,ao,co,rfl,hW⟩:=hrel;obtain ⟨wk,rfl⟩:∃ x,x=wr:=⟨_,rfl⟩
  clear HC0;have hk:=hW.2.2.2.2.1;obtain ⟨f0,f1,f2,fx,hDlt,hXlt,hRlt⟩:=hW.facts;have fx2:=fx 2;simp only[List.getElem?_toArray,List.getElem?_cons_zero,List.getElem?_cons_succ] at fx2
  by_cases hlt:k<gs.length
  ·obtain ⟨b,off,rfl,_,hcs⟩:=hcells (by omega)
   obtain ⟨c1,c2,c3⟩:=hcs k hlt;have hb:=hW.2.2.2.2.2.1;have d1:=(Above.of_below (B:=0) hb).cell (Nat.zero_le _) c1;have d2:=(Above.of_below (B:=0) hb).cell (Nat.zero_le _) c2;have d3:=(Above.of_below (B:=0) hb).cell (Nat.zero_le _) c3;obtain ⟨av,cv,hvv,_⟩:=(hV k hlt).opened;have HVK:=hdd ((hV k hlt).below hb);have hcl:=HCODE.out _ (List.getElem_mem hlt);have HP:=hdd (fun (wi w7:World) (a7:Option Addr) (c7:Nat) (h:CopW w (w.heap.size+1) w.heap.size #[.int .i64 p,.int .i64 c,.slice (some ⟨b,off,none⟩) gs.length cap] (w.heap.size+1+1) p c gs ao k co wi) (ho:OwnG w.heap.size w7 (.slice a7 (k+1) c7) (gs.take k++[gs[k]])) (hg:wi.grownBy w7 (Value.slice ao k co).ownBlock)=>h.push hlt ho hg);obtain ⟨x,hx⟩:∃ x,x=gs[k]:=⟨_,rfl⟩
   rw[←hx] at d2 d3 HP HVK hvv hcl;rw[hvv] at d1 HVK;have HW:=hdd hW;have hlk:(gs.take k).length=k:=by rw[List.length_take]; omega
   have HLK:=hdd hlk;have hzk:=hb.size;have hi0:(0:Int)≤(k:Int):=by omega
   have hi1:(k:Int)<(gs.length:Int):=by omega
   clear hcs hcells hV hvv hx hb c1 c2 c3 hW fx f0 f1 hlk;go_wp2;obtain ⟨wq,hwq⟩:∃ z,z=wk.alloc (.cells #[.slice av x.code.length cv,.int .i64 x.right,.int .i64 x.near] 39):=⟨_,rfl⟩
   have hgq:wq.heap[wk.heap.size]?=some (.cells #[.slice av x.code.length cv,.int .i64 x.right,.int .i64 x.near] 39 (0,0)):=by rw[hwq]; exact heap_alloc_new wk _
   have hbq:Below wk.heap.size wk wq:=by rw[hwq]; exact (Below.refl _ _).alloc (Nat.le_refl _) _
   rw[←hwq];obtain ⟨G,hG⟩:∃ z,z=wk.heap.size:=⟨_,rfl⟩
   rw[←hG] at hgq ⊢;have hDG:w.heap.size+1+1<G:=by omega
   have hGq:G<wq.heap.size:=(Array.getElem?_eq_some_iff.1 hgq).1;have HWQ:=hdd (HW.out.below hbq);have HVQ:=hdd (HVK.out.below hbq);have s0:wq.cell? ⟨w.heap.size+1+1,2,none⟩=some (.slice ao k co):=HWQ.out.facts.2.2.1;have s1:wq.cell? ⟨G,0,none⟩=some (.slice av x.code.length cv):=by rw[cell_of_row _ _ _ _ _ _ hgq]; simp
   have s2:wq.cell? ⟨G,1,none⟩=some (.int .i64 x.right):=by rw[cell_of_row _ _ _ _ _ _ hgq]; simp
   have s3:wq.cell? ⟨G,2,none⟩=some (.int .i64 x.near):=by rw[cell_of_row _ _ _ _ _ _ hgq]; simp
   have hzq:=hbq.size;have HZ:=hdd (And.intro hG hzq);have HNE:=hdd (show ∀ j,(Value.slice ao k co).ownBlock=some j→w.heap.size+1+1≠j∧G≠j from fun j hj=>by
    refine ⟨fun e=>?_,fun e=>?_⟩
    ·obtain ⟨ts,t1,_⟩:=HW.out.2.2.2.1
     rcases own_other t1 HW.out.2.2.1 (by decide) with q | q
     ·rw[q] at hj; cases hj
     ·rw[←e] at hj; exact q hj
    ·have:=(HW.out.2.2.2.1.lt j hj).2
     omega)
   clear hwq hG HW HVK d1 d2 d3 f2 fx2 hgq hbq hDlt hXlt hRlt;refine AnyZ.start (z:=14) (S:=fun w'=>w'.cell? ⟨w.heap.size+1+1,2,none⟩=some (.slice ao k co)∧w'.cell? ⟨G,0,none⟩=some (.slice av x.code.length cv)∧w'.cell? ⟨G,1,none⟩=some (.int .i64 x.right)∧w'.cell? ⟨G,2,none⟩=some (.int .i64 x.near)) (by kernel_rfl) (by go_keep) ?_;intro hHeld
   (try dsimp only at hHeld)
   refine AnyZ.take (i:=0) (v:=?vv0) rfl (by kernel_rfl) (by kernel_rfl) (by kernel_rfl) (by kernel_rfl) (fun _ _ _ h=>h) (Or.inl ⟨by rfl,?hy0⟩) (by assumption) ?rest0
   case hy0=>(intro w9 hSw; (try dsimp only at hSw); go_split_ands; go_simp; all_goals with_reducible rfl)
   ((try simp only[Act.put]); (try simp only[List.setIfInBounds_toArray]); (try simp only[List.set_cons_succ]); (try simp only[List.set_cons_zero]))
   refine AnyZ.take (i:=1) (v:=?vv1) rfl (by kernel_rfl) (by kernel_rfl) (by kernel_rfl) (by kernel_rfl) (fun _ _ _ h=>h) (Or.inl ⟨by rfl,?hy1⟩) (by assumption) ?rest1
   case hy1=>(intro w9 hSw; (try dsimp only at hSw); go_split_ands; go_simp; all_goals with_reducible rfl)
   ((try simp only[Act.put]); (try simp only[List.setIfInBounds_toArray]); (try simp only[List.set_cons_succ]); (try simp only[List.set_cons_zero]))
   refine AnyZ.take (i:=3) (v:=?vv3) rfl (by kernel_rfl) (by kernel_rfl) (by kernel_rfl) (by kernel_rfl) (fun _ _ _ h=>h) (Or.inl ⟨by rfl,?hy3⟩) (by assumption) ?rest3
   case hy3=>(intro w9 hSw; (try dsimp only at hSw); go_split_ands; go_simp; all_goals with_reducible rfl)
   ((try simp only[Act.put]); (try simp only[List.setIfInBounds_toArray]); (try simp only[List.set_cons_succ]); (try simp only[List.set_cons_zero]))
   refine AnyZ.take (i:=4) (v:=?vv4) rfl (by kernel_rfl) (by kernel_rfl) (by kernel_rfl) (by kernel_rfl) (fun _ _ _ h=>h) (Or.inl ⟨by rfl,?hy4⟩) (by assumption) ?rest4
   case hy4=>(intro w9 hSw; (try dsimp only at hSw); go_split_ands; go_simp; all_goals with_reducible rfl)
   ((try simp only[Act.put]); (try simp only[List.setIfInBounds_toArray]); (try simp only[List.set_cons_succ]); (try simp only[List.set_cons_zero]))
   refine AnyZ.take (i:=6) (v:=?vv6) rfl (by kernel_rfl) (by kernel_rfl) (by kernel_rfl) (by kernel_rfl) (fun _ _ _ h=>h) (Or.inl ⟨by rfl,?hy6⟩) (by assumption) ?rest6
   case hy6=>(intro w9 hSw; (try dsimp only at hSw); go_split_ands; go_simp; all_goals with_reducible rfl)
   ((try simp only[Act.put]); (try simp only[List.setIfInBounds_toArray]); (try simp only[List.set_cons_succ]); (try simp only[List.set_cons_zero]))
   refine AnyZ.take (i:=7) (v:=?vv7) rfl (by kernel_rfl) (by kernel_rfl) (by kernel_rfl) (by kernel_rfl) (fun _ _ _ h=>h) (Or.inl ⟨by rfl,?hy7⟩) (by assumption) ?rest7
   case hy7=>(intro w9 hSw; (try dsimp only at hSw); go_split_ands; go_simp; all_goals with_reducible rfl)
   ((try simp only[Act.put]); (try simp only[List.setIfInBounds_toArray]); (try simp only[List.set_cons_succ]); (try simp only[List.set_cons_zero]))
   refine AnyZ.take (i:=8) (v:=?vv8) rfl (by kernel_rfl) (by kernel_rfl) (by kernel_rfl) (by kernel_rfl) (fun _ _ _ h=>h) (Or.inl ⟨by rfl,?hy8⟩) (by assumption) ?rest8
   case hy8=>(intro w9 hSw; (try dsimp only at hSw); go_split_ands; go_simp; all_goals with_reducible rfl)
   ((try simp only[Act.put]); (try simp only[List.setIfInBounds_toArray]); (try simp only[List.set_cons_succ]); (try simp only[List.set_cons_zero]))
   refine AnyZ.take (i:=9) (v:=?vv9) rfl (by kernel_rfl) (by kernel_rfl) (by kernel_rfl) (by kernel_rfl) (fun _ _ _ h=>h) (Or.inl ⟨by rfl,?hy9⟩) (by assumption) ?rest9
   case hy9=>(intro w9 hSw; (try dsimp only at hSw); go_split_ands; go_simp; all_goals with_reducible rfl)
   ((try simp only[Act.put]); (try simp only[List.setIfInBounds_toArray]); (try simp only[List.set_cons_succ]); (try simp only[List.set_cons_zero]))
   refine AnyZ.one (j:=2) (by kernel_rfl) rfl (fun K hK=>?_);go_simp;refine hK.out _ _ ?hs2 ?rest2
   case hs2=>go_keep
   clear hK K hHeld;intro hHeld
   (try dsimp only at hHeld)
   ((try simp only[Act.put]); (try simp only[List.setIfInBounds_toArray]); (try simp only[List.set_cons_succ]); (try simp only[List.set_cons_zero]))
   refine AnyZ.one (j:=5) (by kernel_rfl) rfl (fun K hK=>?_)
   (refine step_push_any _ (by rfl) (.tmp 25) (.tmp 27) (by rfl) (.slice (some ⟨wq.heap.size,0,none⟩) 0 0) [] (by rfl) (OwnI.lit wq.drew) (.slice av x.code.length cv) x.code (by rfl) (HVQ.out.drewAlloc _) (by simp; omega) (by simp) ?_; intro a8 c8 w8 ho8 hg8; simp only[List.nil_append,List.length_nil,Nat.zero_add] at ho8 ⊢; have hb8:=(((Below.refl wq.heap.size wq).drew.alloc (Nat.le_refl _) _).grown hg8 (by simp) (fun j hj=>by cases hj; exact Nat.le_refl _)); have HO8:=hdd (show OwnI wq.heap.size w8 _ _ from ho8); have HB8:=hdd (show Below wq.heap.size wq w8 from hb8); have hz8:=hg8.size; simp at hz8; clear ho8 hb8)
   (try go_simp)
   refine hK.out _ _ ?hs5 ?rest5
   case hs5=>(go_split_ands; exact ⟨(hg8.cell_far _ (by simp; omega) (by simp[Value.ownBlock]; omega)).trans (by assumption),(hg8.cell_far _ (by simp; omega) (by simp[Value.ownBlock]; omega)).trans (by assumption),(hg8.cell_far _ (by simp; omega) (by simp[Value.ownBlock]; omega)).trans (by assumption),(hg8.cell_far _ (by simp; omega) (by simp[Value.ownBlock]; omega)).trans (by assumption)⟩)
   clear hK K hHeld;intro hHeld
   (try dsimp only at hHeld)
   ((try simp only[Act.put]); (try simp only[List.setIfInBounds_toArray]); (try simp only[List.set_cons_succ]); (try simp only[List.set_cons_zero]))
   refine AnyZ.take (i:=10) (v:=?vv10) rfl (by kernel_rfl) (by kernel_rfl) (by kernel_rfl) (by kernel_rfl) (fun _ _ _ h=>h) (Or.inl ⟨by rfl,?hy10⟩) (by assumption) ?rest10
   case hy10=>(intro w9 hSw; (try dsimp only at hSw); go_split_ands; go_simp; all_goals with_reducible rfl)
   ((try simp only[Act.put]); (try simp only[List.setIfInBounds_toArray]); (try simp only[List.set_cons_succ]); (try simp only[List.set_cons_zero]))
   refine AnyZ.one (j:=11) (by kernel_rfl) rfl (fun K hK=>?_);go_simp;refine hK.out _ _ ?hs11 ?rest11
   case hs11=>go_keep
   clear hK K hHeld;intro hHeld
   (try dsimp only at hHeld)
   ((try simp only[Act.put]); (try simp only[List.setIfInBounds_toArray]); (try simp only[List.set_cons_succ]); (try simp only[List.set_cons_zero]))
   refine AnyZ.one (j:=12) (by kernel_rfl) rfl (fun K hK=>?_)
   (refine step_push_g _ (by rfl) (.tmp 24) (.tmp 34) (by rfl) (.slice ao k co) (gs.take k) (by rfl) ((HWQ.out.2.2.2.1.below HB8.out).alloc _) w8.heap.size 1 (.slice a8 x.code.length c8) x (by rfl) (heap_alloc_new w8 _) (OwnI.mono2 (World.ownsRow.alloc HO8.out _) (by omega)) (guess_old HWQ.out.2.2.2.1 (HB8.out.alloc HB8.out.size _) (World.ownsRow.alloc HO8.out _)) (by rw[HLK.out]; omega) (by simp; omega) ?_; intro a9 c9 w9 ho9 hg9; rw[HLK.out] at ho9 ⊢; have h9:=HP.out _ w9 a9 c9 (HWQ.out.below (HB8.out.alloc HB8.out.size _)) ho9 hg9; have e9:=cell_of_row _ _ 2 _ _ (0,0) h9.2; have k9:∀ j,w9.frozen? ⟨w.heap.size+1+1,j,none⟩=false:=fun j=>frozen_of_row _ _ j _ _ h9.2; have H9:=hdd h9.1; simp at e9; clear ho9 h9)
   (try go_simp)
   refine hK.out _ _ ?hs12 ?rest12
   case hs12=>(go_split_ands; exact ⟨(hg9.cell_far _ (by simp; omega) (fun e=>(HNE.out _ e.symm).1 rfl)).trans (by assumption),(hg9.cell_far _ (by simp; omega) (fun e=>(HNE.out _ e.symm).2 rfl)).trans (by assumption),(hg9.cell_far _ (by simp; omega) (fun e=>(HNE.out _ e.symm).2 rfl)).trans (by assumption),(hg9.cell_far _ (by simp; omega) (fun e=>(HNE.out _ e.symm).2 rfl)).trans (by assumption)⟩)
   clear hK K hHeld;intro hHeld
   (try dsimp only at hHeld)
   ((try simp only[Act.put]); (try simp only[List.setIfInBounds_toArray]); (try simp only[List.set_cons_succ]); (try simp only[List.set_cons_zero]))
   refine AnyZ.take (i:=13) (v:=?vv13) rfl (by kernel_rfl) (by kernel_rfl) (by kernel_rfl) (by kernel_rfl) (fun _ _ _ h=>h) (Or.inl ⟨by rfl,?hy13⟩) (by assumption) ?rest13
   case hy13=>(intro w9 hSw; (try dsimp only at hSw); go_split_ands; go_simp; all_goals with_reducible rfl)
   ((try simp only[Act.put]); (try simp only[List.setIfInBounds_toArray]); (try simp only[List.set_cons_succ]); (try simp only[List.set_cons_zero]))
   refine AnyZ.last (by kernel_rfl) rfl (by kernel_rfl) (fun K hK=>?_);go_simp;refine hK.out _ _ ?_;clear hK K hHeld;go_wp2;go_roundw
   case rel=>exact ⟨k+1,a9,c9,by go_num,H9.out⟩
   case measure=>simp[intOf]; omega
  ·have hkg:k=gs.length:=by omega
   subst hkg;have HF:=hdd hW.done;obtain ⟨r0,r1,r2,rf⟩:=hW.zero;clear hcells hV fx hW;go_wp2
   ((try simp only[Exit.inBlock,Exit.then]); refine bodyPost_ret (results_cell_row rfl _ _ (w.heap.size+1) _ _ (0,0) _ rfl HF.out.2 Tryz.underlying30 rfl (by kernel_rfl)) rfl ?_)
   exact HF.out.1
def NilOr (v:Value):Prop:=v=.slice none 0 0∨∃ ad n c,v=.slice (some ad) n c
theorem OwnI.nilOr {B:Nat} {w:World} {v:Value} {xs:List Int} (h:OwnI B w v xs):NilOr v:=by
 rcases h.2 with ⟨rfl,_⟩ | ⟨g,cap,cur,rfl,_⟩
 ·exact .inl rfl
 ·exact .inr ⟨_,_,_,rfl⟩
set_option maxHeartbeats 1000000 in
theorem gcop_any {B:Nat} (v:Value) (xs:List Int) (r n:Int) (w:World) (h:Ints B w v xs) (hnil:NilOr v) (hl:xs.length≤1099511627776):
  Calls Tryz.prog 96 #[gV v r n] w (GuessOut xs r n w):=by
 obtain ⟨a,cap,rfl,_⟩:=h.opened;obtain ⟨w1,hw1⟩:∃ w1,w1=(w.alloc (.cells #[.slice a xs.length cap,.int .i64 r,.int .i64 n] 39)).alloc (.cells #[.slice none 0 0,.int .i64 0,.int .i64 0] 39):=⟨_,rfl⟩
 have hb1:Below w.heap.size w w1:=by rw[hw1]; exact ((Below.refl _ _).alloc (Nat.le_refl _) _).alloc (by simp) _
 have hs1:w1.heap.size=w.heap.size+2:=by rw[hw1]; simp
 have hz0:w1.heap[w.heap.size]?=some (.cells #[.slice a xs.length cap,.int .i64 r,.int .i64 n] 39 (0,0)):=by
  rw[hw1,haoM _ _ (by simp; try omega)]; exact heap_alloc_new w _
 have hz1:w1.heap[w.heap.size+1]?=some (.cells #[.slice none 0 0,.int .i64 0,.int .i64 0] 39 (0,0)):=by
  rw[hw1]; have q:=@Go.heap_alloc_new (w.alloc (.cells #[.slice a xs.length cap,.int .i64 r,.int .i64 n] 39)) (.cells #[.slice none 0 0,.int .i64 0,.int .i64 0] 39); rw[World.size_alloc] at q; exact q
 have hT:=cloneI_any _ xs w1 (h.below hb1) hnil hl;have HB1:=hdd hb1;have HS1:=hdd hs1;have HZ0:=hdd hz0;have HZ1:=hdd hz1;unfold gV;clear h hb1 hs1 hz0 hz1 hnil;go_enter Tryz.func96,Tryz.ntmps96;go_wp2_with fail;rw[←hw1];clear hw1;refine hT.mono ?_;rintro e w2 ⟨a2,c2,rfl,ho2,hb2⟩;have hg0:=(hb2.block w.heap.size (by have:=HS1.out; omega)).trans HZ0.out;have hg1:=(hb2.block (w.heap.size+1) (by have:=HS1.out; omega)).trans HZ1.out;have c0:=cell_of_row _ _ 0 _ _ (0,0) hg0;have c1:=cell_of_row _ _ 1 _ _ (0,0) hg0;have c2':=cell_of_row _ _ 2 _ _ (0,0) hg0;have d0:=cell_of_row _ _ 0 _ _ (0,0) hg1;have d1:=cell_of_row _ _ 1 _ _ (0,0) hg1;have d2:=cell_of_row _ _ 2 _ _ (0,0) hg1;have k0:∀ j,w2.frozen? ⟨w.heap.size,j,none⟩=false:=fun j=>frozen_of_row _ _ j _ _ hg0
 have k1:∀ j,w2.frozen? ⟨w.heap.size+1,j,none⟩=false:=fun j=>frozen_of_row _ _ j _ _ hg1
 simp at c0 c1 c2' d0 d1 d2;have HG1:=hdd hg1;have HO2:=hdd ho2;have HB2:=hdd (HB1.out.trans (hb2.mono HB1.out.size));clear hT hg0 hg1 ho2 hb2;go_wp2;have q3:(w2.setCell ⟨w.heap.size,0,none⟩ (.slice a2 xs.length c2)).heap[w.heap.size+1]?=some (.cells #[.slice none 0 0,.int .i64 0,.int .i64 0] 39 (0,0)):=by
  rw[heap_setCell_other _ _ _ _ (by simp)]; exact HG1.out
 have q6:=heap_setCell_same _ _ 2 _ _ (.int .i64 n) (heap_setCell_same _ _ 1 _ _ (.int .i64 r) (heap_setCell_same _ _ 0 _ _ (.slice a2 xs.length c2) q3))
 ((try simp only[Exit.inBlock,Exit.then]); refine bodyPost_ret (results_cell_row rfl _ _ (w.heap.size+1) _ _ (0,0) _ rfl q6 Tryz.underlying39 rfl (by kernel_rfl)) rfl ?_)
 have hs1:=HS1.out;refine ⟨a2,c2,rfl,(HO2.out.keep (fun b hb hlt=>?_)).mono2 (by omega),?_⟩
 ·rw[heap_setCell_other _ _ _ _ (by simp; omega),heap_setCell_other _ _ _ _ (by simp; omega),heap_setCell_other _ _ _ _ (by simp; omega),heap_setCell_other _ _ _ _ (by simp; omega)]
 ·exact (((HB2.out.setCell (p:=⟨w.heap.size,0,none⟩) (by simp) _).setCell (p:=⟨w.heap.size+1,0,none⟩) (by simp) _).setCell (p:=⟨w.heap.size+1,1,none⟩) (by simp) _).setCell (p:=⟨w.heap.size+1,2,none⟩) (by simp) _
def RG (B:Nat) (w:World) (v:Value) (gs:List Gs):Prop:=
 ∃ a cap cap2,v=.slice a gs.length cap2∧gs.length≤cap2∧cap2≤9223372036854775807∧OwnG B w (.slice a gs.length cap) gs∧In64G gs
theorem OwnG.rg {B:Nat} {w:World} {v:Value} {gs:List Gs} (h:OwnG B w v gs) (h64:In64G gs):RG B w v gs:=by
 obtain ⟨a,cap,rfl,h1,h2⟩:=h.shape;exact ⟨a,cap,cap,rfl,h1,h2,h,h64⟩
theorem RG.keep {B:Nat} {w w':World} {v:Value} {gs:List Gs} (h:RG B w v gs) (hs:Above B w w'):RG B w' v gs:=by
 obtain ⟨a,cap,cap2,h1,h2,h3,h4,h5⟩:=h;exact ⟨a,cap,cap2,h1,h2,h3,h4.keep hs,h5⟩
theorem RG.below {B:Nat} {w w':World} {v:Value} {gs:List Gs} (h:RG B w v gs) (hb:Below w.heap.size w w'):RG B w' v gs:=h.keep (.of_below hb)
theorem RG.mono {B B':Nat} {w:World} {v:Value} {gs:List Gs} (h:RG B w v gs) (hB:B'≤B):RG B' w v gs:=by
 obtain ⟨a,cap,cap2,h1,h2,h3,h4,h5⟩:=h;exact ⟨a,cap,cap2,h1,h2,h3,h4.mono hB,h5⟩
theorem RG.shape {B:Nat} {w:World} {v:Value} {gs:List Gs} (h:RG B w v gs):∃ a cap,v=.slice a gs.length cap:=by
 obtain ⟨a,cap,cap2,h1,_⟩:=h;exact ⟨a,cap2,h1⟩
theorem RG.toGL {B:Nat} {w:World} {v:Value} {gs:List Gs} (h:RG B w v gs):GL B w v gs:=by
 obtain ⟨a,cap,cap2,rfl,h2,h3,h4,h5⟩:=h;obtain ⟨a',cap',V,e,q1,q2,q3,q4⟩:=h4.toGL h5;injection e with e _ _;subst e;exact ⟨a,cap2,V,rfl,h2,h3,q3,q4⟩
theorem RG.i64 {B:Nat} {w:World} {v:Value} {gs:List Gs} (h:RG B w v gs):In64G gs:=by
 obtain ⟨_,_,_,_,_,_,_,h5⟩:=h;exact h5
theorem RG.opened {B:Nat} {w:World} {v:Value} {gs:List Gs} (h:RG B w v gs) (hp:0<gs.length):
  ∃ g cap,v=.slice (some ⟨g,0,none⟩) gs.length cap∧B≤g∧g<w.heap.size ∧
   ∀ k (h:k<gs.length),∃ u,w.cell? ⟨g,k*3,none⟩=some u∧OwnI B w u gs[k].code∧w.cell? ⟨g,k*3+1,none⟩=some (.int .i64 gs[k].right)∧w.cell? ⟨g,k*3+2,none⟩=some (.int .i64 gs[k].near):=by
 obtain ⟨a,cap,cap2,rfl,h2,h3,h4,h5⟩:=h;obtain ⟨g,cap',e,q1,q2,_,_,_,q3⟩:=h4.opened hp;injection e with e _ _;subst e;exact ⟨g,cap2,rfl,q1,q2,q3⟩
set_option maxHeartbeats 2000000 in
theorem dcop_any {B:Nat} (p c:Int) (v:Value) (gs:List Gs) (w:World) (h:RG B w v gs) (hl:gs.length≤1000) (hc:∀ g∈gs,g.code.length≤2000000):
  Calls Tryz.prog 57 #[dkV p c v] w (DeskOut p c gs w):=by
 have HRG:=hdd h;obtain ⟨a,cap,rfl⟩:=h.shape;obtain ⟨w0,hw0⟩:∃ w0,w0=(w.alloc (.cells #[.int .i64 p,.int .i64 c,.slice none 0 0] 30)).alloc (.cells #[.int .i64 0,.int .i64 0,.slice none 0 0] 30):=⟨_,rfl⟩
 have hC0:CopW w (w.heap.size+1) (w.heap.size+1) #[.int .i64 0,.int .i64 0,.slice none 0 0] w.heap.size p c gs none 0 0 w0:=by
  have hR:w0.heap[w.heap.size+1]?=some (.cells #[.int .i64 0,.int .i64 0,.slice none 0 0] 30 (0,0)):=by
   rw[hw0]; have q:=@Go.heap_alloc_new (w.alloc (.cells #[.int .i64 p,.int .i64 c,.slice none 0 0] 30)) (.cells #[.int .i64 0,.int .i64 0,.slice none 0 0] 30); rw[World.size_alloc] at q; exact q
  refine ⟨hR,hR,?_,OwnG.empty _ _,Nat.zero_le _,?_,by omega,by omega,by omega,by omega⟩
  ·rw[hw0,haoM _ _ (by simp; try omega)]; exact heap_alloc_new w _
  ·rw[hw0]; exact ((Below.refl _ _).alloc (Nat.le_refl _) _).alloc (by simp) _
 have HC0:=hdd hC0;have HCODE:=hdd hc;clear hC0 hc h;unfold dkV;go_enter Tryz.func57,Tryz.ntmps57;go_wp2;rw[←hw0];clear hw0;go_loopw [11] (fun i wr=>∃ (k:Nat) (ao:Option Addr) (co:Nat),i=.int .i64 k∧CopW w (w.heap.size+1) (w.heap.size+1) #[.int .i64 0,.int .i64 0,.slice none 0 0] w.heap.size p c gs ao k co wr) (fun i _=>gs.length-(intOf i).toNat)
 case atStart=>exact ⟨0,_,_,rfl,HC0.out⟩
 case round=>
  obtain ⟨k,ao,co,rfl,hW⟩:=hrel;obtain ⟨wk,rfl⟩:∃ x,x=wr:=⟨_,rfl⟩
  clear HC0;have hk:=hW.2.2.2.2.1;obtain ⟨f0,f1,f2,fx,hDlt,hXlt,hRlt⟩:=hW.facts
  by_cases hlt:k<gs.length
  ·have hb:=hW.2.2.2.2.2.1
   obtain ⟨b,cap9,e9,_,hbz,hat⟩:=HRG.out.opened (by omega);injection e9 with e9 e9b e9c;subst e9 e9c;clear e9b;obtain ⟨u,c1,hu,c2,c3⟩:=hat k hlt;have d1:=(Above.of_below (B:=0) hb).cell (Nat.zero_le _) c1;have d2:=(Above.of_below (B:=0) hb).cell (Nat.zero_le _) c2;have d3:=(Above.of_below (B:=0) hb).cell (Nat.zero_le _) c3;obtain ⟨av,cv,rfl,_⟩:=own_shape hu;have HNIL:=hdd hu.nilOr;have HVK:=hdd ((hu.toInts (HRG.out.i64 _ (List.getElem_mem hlt))).below hb);have hcl:=HCODE.out _ (List.getElem_mem hlt);have HP:=hdd (fun (wi w7:World) (a7:Option Addr) (c7:Nat) (h:CopW w (w.heap.size+1) (w.heap.size+1) #[.int .i64 0,.int .i64 0,.slice none 0 0] w.heap.size p c gs ao k co wi) (ho:OwnG w.heap.size w7 (.slice a7 (k+1) c7) (gs.take k++[gs[k]])) (hg:wi.grownBy w7 (Value.slice ao k co).ownBlock)=>h.push hlt ho hg);obtain ⟨x,hx⟩:∃ x,x=gs[k]:=⟨_,rfl⟩
   rw[←hx] at d1 d2 d3 HP HVK hcl HNIL;have HW:=hdd hW;have hlk:(gs.take k).length=k:=by rw[List.length_take]; omega
   have HLK:=hdd hlk;have hzk:=hb.size;have hi0:(0:Int)≤(k:Int):=by omega
   have hi1:(k:Int)<(gs.length:Int):=by omega
   clear hat hx hb c1 c2 c3 hu hW fx f0 f1 hlk;go_wp2;obtain ⟨wq,hwq⟩:∃ z,z=wk.alloc (.cells #[.slice av x.code.length cv,.int .i64 x.right,.int .i64 x.near] 39):=⟨_,rfl⟩
   have hgq:wq.heap[wk.heap.size]?=some (.cells #[.slice av x.code.length cv,.int .i64 x.right,.int .i64 x.near] 39 (0,0)):=by rw[hwq]; exact heap_alloc_new wk _
   have hbq:Below wk.heap.size wk wq:=by rw[hwq]; exact (Below.refl _ _).alloc (Nat.le_refl _) _
   rw[←hwq];obtain ⟨G,hG⟩:∃ z,z=wk.heap.size:=⟨_,rfl⟩
   rw[←hG] at hgq ⊢;have hDG:w.heap.size+1<G:=by omega
   have hGq:G<wq.heap.size:=(Array.getElem?_eq_some_iff.1 hgq).1;have HWQ:=hdd (HW.out.below hbq);have HVQ:=hdd (HVK.out.below hbq);have s0:wq.cell? ⟨w.heap.size,2,none⟩=some (.slice ao k co):=HWQ.out.facts.2.2.1;have s1:wq.cell? ⟨G,0,none⟩=some (.slice av x.code.length cv):=by rw[cell_of_row _ _ _ _ _ _ hgq]; simp
   have s2:wq.cell? ⟨G,1,none⟩=some (.int .i64 x.right):=by rw[cell_of_row _ _ _ _ _ _ hgq]; simp
   have s3:wq.cell? ⟨G,2,none⟩=some (.int .i64 x.near):=by rw[cell_of_row _ _ _ _ _ _ hgq]; simp
   have hzq:=hbq.size;have HNE:=hdd (show ∀ j,(Value.slice ao k co).ownBlock=some j→w.heap.size≠j∧G≠j from fun j hj=>by
    refine ⟨fun e=>?_,fun e=>?_⟩
    ·obtain ⟨ts,t1,_⟩:=HW.out.2.2.2.1
     rcases own_other t1 HW.out.2.2.1 (by decide) with q | q
     ·rw[q] at hj; cases hj
     ·rw[←e] at hj; exact q hj
    ·have:=(HW.out.2.2.2.1.lt j hj).2
     omega)
   have hT:=gcop_any _ x.code x.right x.near wq.drew (show Ints B wq.drew _ _ from HVQ.out) HNIL.out (by omega);unfold gV at hT;clear hwq hG HW HVK d1 d2 d3 f2 hgq hbq hDlt hXlt hRlt;refine AnyZ.start (z:=7) (S:=fun w'=>w'.cell? ⟨w.heap.size,2,none⟩=some (.slice ao k co)∧w'.cell? ⟨G,0,none⟩=some (.slice av x.code.length cv)∧w'.cell? ⟨G,1,none⟩=some (.int .i64 x.right)∧w'.cell? ⟨G,2,none⟩=some (.int .i64 x.near)) (by kernel_rfl) (by go_keep) ?_;intro hHeld
   (try dsimp only at hHeld)
   refine AnyZ.take (i:=0) (v:=?vv0) rfl (by kernel_rfl) (by kernel_rfl) (by kernel_rfl) (by kernel_rfl) (fun _ _ _ h=>h) (Or.inl ⟨by rfl,?hy0⟩) (by assumption) ?rest0
   case hy0=>(intro w9 hSw; (try dsimp only at hSw); go_split_ands; go_simp; all_goals with_reducible rfl)
   ((try simp only[Act.put]); (try simp only[List.setIfInBounds_toArray]); (try simp only[List.set_cons_succ]); (try simp only[List.set_cons_zero]))
   refine AnyZ.take (i:=1) (v:=?vv1) rfl (by kernel_rfl) (by kernel_rfl) (by kernel_rfl) (by kernel_rfl) (fun _ _ _ h=>h) (Or.inl ⟨by rfl,?hy1⟩) (by assumption) ?rest1
   case hy1=>(intro w9 hSw; (try dsimp only at hSw); go_split_ands; go_simp; all_goals with_reducible rfl)
   ((try simp only[Act.put]); (try simp only[List.setIfInBounds_toArray]); (try simp only[List.set_cons_succ]); (try simp only[List.set_cons_zero]))
   refine AnyZ.take (i:=2) (v:=?vv2) rfl (by kernel_rfl) (by kernel_rfl) (by kernel_rfl) (by kernel_rfl) (fun _ _ _ h=>h) (Or.inl ⟨by rfl,?hy2⟩) (by assumption) ?rest2
   case hy2=>(intro w9 hSw; (try dsimp only at hSw); go_split_ands; go_simp; all_goals with_reducible rfl)
   ((try simp only[Act.put]); (try simp only[List.setIfInBounds_toArray]); (try simp only[List.set_cons_succ]); (try simp only[List.set_cons_zero]))
   refine AnyZ.one (j:=3) (by kernel_rfl) rfl (fun K hK=>?_);go_simp
   (refine hT.mono ?_; rintro e w8 ⟨a8,c8,rfl,ho8,hb8⟩; unfold gV; have hb8':=(Below.refl wq.heap.size wq).drew.trans hb8; have HO8:=hdd (show OwnI wq.heap.size w8 _ _ from ho8); have HB8:=hdd (show Below wq.heap.size wq w8 from hb8'); have hz8:=hb8'.size; clear ho8 hb8')
   (try go_simp)
   refine hK.out _ _ ?hs3 ?rest3
   case hs3=>(go_split_ands; exact ⟨(hb8.cell (by simp; omega)).trans (by assumption),(hb8.cell (by simp; omega)).trans (by assumption),(hb8.cell (by simp; omega)).trans (by assumption),(hb8.cell (by simp; omega)).trans (by assumption)⟩)
   clear hK K hHeld;intro hHeld
   (try dsimp only at hHeld)
   ((try simp only[Act.put]); (try simp only[List.setIfInBounds_toArray]); (try simp only[List.set_cons_succ]); (try simp only[List.set_cons_zero]))
   refine AnyZ.one (j:=4) (by kernel_rfl) rfl (fun K hK=>?_);go_simp;refine hK.out _ _ ?hs4 ?rest4
   case hs4=>go_keep
   clear hK K hHeld;intro hHeld
   (try dsimp only at hHeld)
   ((try simp only[Act.put]); (try simp only[List.setIfInBounds_toArray]); (try simp only[List.set_cons_succ]); (try simp only[List.set_cons_zero]))
   refine AnyZ.one (j:=5) (by kernel_rfl) rfl (fun K hK=>?_)
   (refine step_push_g _ (by rfl) (.tmp 16) (.tmp 19) (by rfl) (.slice ao k co) (gs.take k) (by rfl) ((HWQ.out.2.2.2.1.below HB8.out).alloc _) w8.heap.size 1 (.slice a8 x.code.length c8) x (by rfl) (heap_alloc_new w8 _) (OwnI.mono2 (World.ownsRow.alloc HO8.out _) (by omega)) (guess_old HWQ.out.2.2.2.1 (HB8.out.alloc HB8.out.size _) (World.ownsRow.alloc HO8.out _)) (by rw[HLK.out]; omega) (by simp; omega) ?_; intro a9 c9 w9 ho9 hg9; rw[HLK.out] at ho9 ⊢; have h9:=HP.out _ w9 a9 c9 (HWQ.out.below (HB8.out.alloc HB8.out.size _)) ho9 hg9; have e9:=cell_of_row _ _ 2 _ _ (0,0) h9.2; have k9:∀ j,w9.frozen? ⟨w.heap.size,j,none⟩=false:=fun j=>frozen_of_row _ _ j _ _ h9.2; have H9:=hdd h9.1; simp at e9; clear ho9 h9)
   (try go_simp)
   refine hK.out _ _ ?hs5 ?rest5
   case hs5=>(go_split_ands; exact ⟨(hg9.cell_far _ (by simp; omega) (fun e=>(HNE.out _ e.symm).1 rfl)).trans (by assumption),(hg9.cell_far _ (by simp; omega) (fun e=>(HNE.out _ e.symm).2 rfl)).trans (by assumption),(hg9.cell_far _ (by simp; omega) (fun e=>(HNE.out _ e.symm).2 rfl)).trans (by assumption),(hg9.cell_far _ (by simp; omega) (fun e=>(HNE.out _ e.symm).2 rfl)).trans (by assumption)⟩)
   clear hK K hHeld;intro hHeld
   (try dsimp only at hHeld)
   ((try simp only[Act.put]); (try simp only[List.setIfInBounds_toArray]); (try simp only[List.set_cons_succ]); (try simp only[List.set_cons_zero]))
   refine AnyZ.take (i:=6) (v:=?vv6) rfl (by kernel_rfl) (by kernel_rfl) (by kernel_rfl) (by kernel_rfl) (fun _ _ _ h=>h) (Or.inl ⟨by rfl,?hy6⟩) (by assumption) ?rest6
   case hy6=>(intro w9 hSw; (try dsimp only at hSw); go_split_ands; go_simp; all_goals with_reducible rfl)
   ((try simp only[Act.put]); (try simp only[List.setIfInBounds_toArray]); (try simp only[List.set_cons_succ]); (try simp only[List.set_cons_zero]))
   refine AnyZ.last (by kernel_rfl) rfl (by kernel_rfl) (fun K hK=>?_);go_simp;refine hK.out _ _ ?_;clear hK K hHeld;go_wp2;go_roundw
   case rel=>exact ⟨k+1,a9,c9,by go_num,H9.out⟩
   case measure=>simp[intOf]; omega
  ·have hkg:k=gs.length:=by omega
   subst hkg;have HF:=hdd hW.done;obtain ⟨r0,r1,r2,rf⟩:=hW.zero;clear fx hW;go_wp2
   ((try simp only[Exit.inBlock,Exit.then]); refine bodyPost_ret (results_cell_row rfl _ _ (w.heap.size+1) _ _ (0,0) _ rfl HF.out.2 Tryz.underlying30 rfl (by kernel_rfl)) rfl ?_)
   exact HF.out.1
def DoOut (p c:Int) (gs:List Gs) (ok:Bool) (w:World) (e:Ending) (w':World):Prop:=
 ∃ a cap cap2,e=.returned (.tuple #[dkV p c (.slice a gs.length cap2),.bool ok])∧gs.length≤cap2∧cap2≤9223372036854775807∧OwnG w.heap.size w' (.slice a gs.length cap) gs∧Below w.heap.size w w'
theorem In64G.snoc {gs:List Gs} {x:Gs} (h:In64G gs) (hx:∀ y∈x.code,In64 y):In64G (gs++[x]):=by
 intro g hg
 rcases List.mem_append.1 hg with q | q
 ·exact h g q
 ·rw[List.mem_singleton.1 q]; exact hx
theorem OwnG.caps {B:Nat} {w:World} {a:Option Addr} {n c:Nat} {gs:List Gs} (h:OwnG B w (.slice a n c) gs):gs.length≤c∧c≤9223372036854775807:=by
 obtain ⟨a',c',e,h1,h2⟩:=h.shape;injection e with _ _ e;subst e;exact ⟨h1,h2⟩
theorem do_ret {w w4:World} {R:Nat} {p c:Int} {gs:List Gs} {a4:Option Addr} {c4 cap2:Nat} (ok:Bool) (hR:w4.heap[R]?=some (.cells #[.int .i64 0,.int .i64 0,.slice none 0 0] 30 (0,0))) (hRB:w.heap.size≤R)
  (ho:OwnG w.heap.size w4 (.slice a4 gs.length c4) gs) (hb:Below w.heap.size w w4) (h1:gs.length≤cap2) (h2:cap2≤9223372036854775807):
  DoOut p c gs ok w (.returned (.tuple #[dkV p c (.slice a4 gs.length cap2),.bool ok])) (((w4.setCell ⟨R,0,none⟩ (.int .i64 p)).setCell ⟨R,1,none⟩ (.int .i64 c)).setCell ⟨R,2,none⟩ (.slice a4 gs.length cap2)) ∧
   (((w4.setCell ⟨R,0,none⟩ (.int .i64 p)).setCell ⟨R,1,none⟩ (.int .i64 c)).setCell ⟨R,2,none⟩ (.slice a4 gs.length cap2)).heap[R]?=some (.cells #[.int .i64 p,.int .i64 c,.slice a4 gs.length cap2] 30 (0,0)):=by
 have q1:=heap_setCell_same _ _ 0 _ _ (.int .i64 p) hR;have q2:=heap_setCell_same _ _ 1 _ _ (.int .i64 c) q1;have q3:=heap_setCell_same _ _ 2 _ _ (.slice a4 gs.length cap2) q2;exact ⟨⟨a4,c4,cap2,rfl,h1,h2,((ho.other hR).other q1).other q2,((hb.setCell (p:=⟨R,0,none⟩) hRB _).setCell (p:=⟨R,1,none⟩) hRB _).setCell (p:=⟨R,2,none⟩) hRB _⟩,q3⟩
theorem zero_cells {w:World} {R:Nat} (h1:w.heap[R]?=some (.cells #[.int .i64 0,.int .i64 0,.slice none 0 0] 30 (0,0))):
  w.cell? ⟨R,0,none⟩=some (.int .i64 0)∧w.cell? ⟨R,1,none⟩=some (.int .i64 0)∧w.cell? ⟨R,2,none⟩=some (.slice none 0 0)∧∀ j,w.frozen? ⟨R,j,none⟩=false:=by
 refine ⟨?_,?_,?_,fun j=>frozen_of_row _ _ j _ _ h1⟩ <;> rw[cell_of_row _ _ _ _ _ _ h1] <;> simp
set_option maxHeartbeats 4000000 in
theorem done_any {B C:Nat} (p c:Int) (v:Value) (gs:List Gs) (b:Bool) (u:Value) (xs:List Int) (r n:Int) (w:World) (h:RG B w v gs) (hu:Ints C w u xs) (hnil:NilOr u) (hl:gs.length≤100) (hc:∀ g∈gs,g.code.length≤2000000) (hx:xs.length≤2000000):
  Calls Tryz.prog 58 #[dkV p c v,dV b u r n] w (DoOut p c (doneG p c gs ⟨b,xs,r,n⟩).1 (doneG p c gs ⟨b,xs,r,n⟩).2 w):=by
 have HRG:=hdd h;have HU:=hdd hu;have HNIL:=hdd hnil;have HC:=hdd hc;obtain ⟨a,cap,rfl⟩:=h.shape;obtain ⟨au,cu,rfl,_⟩:=hu.opened;obtain ⟨w1,hw1⟩:∃ w1,w1=((w.alloc (.cells #[.int .i64 p,.int .i64 c,.slice a gs.length cap] 30)).alloc (.cells #[.bool b,.slice au xs.length cu,.int .i64 r,.int .i64 n] 41)).alloc (.cells #[.int .i64 0,.int .i64 0,.slice none 0 0] 30):=⟨_,rfl⟩
 have hb1:Below w.heap.size w w1:=by rw[hw1]; exact (((Below.refl _ _).alloc (Nat.le_refl _) _).alloc (by simp) _).alloc (by simp; omega) _
 have hs1:w1.heap.size=w.heap.size+3:=by rw[hw1]; simp
 have hz0:w1.heap[w.heap.size]?=some (.cells #[.int .i64 p,.int .i64 c,.slice a gs.length cap] 30 (0,0)):=by
  rw[hw1,haoM _ _ (by simp; try omega),haoM _ _ (by simp; try omega)]; exact heap_alloc_new w _
 have hz1:w1.heap[w.heap.size+1]?=some (.cells #[.bool b,.slice au xs.length cu,.int .i64 r,.int .i64 n] 41 (0,0)):=by
  rw[hw1,haoM _ _ (by simp; try omega)]; have q:=@Go.heap_alloc_new (w.alloc (.cells #[.int .i64 p,.int .i64 c,.slice a gs.length cap] 30)) (.cells #[.bool b,.slice au xs.length cu,.int .i64 r,.int .i64 n] 41); rw[World.size_alloc] at q; exact q
 have hz2:w1.heap[w.heap.size+1+1]?=some (.cells #[.int .i64 0,.int .i64 0,.slice none 0 0] 30 (0,0)):=by
  rw[hw1]; have q:=@Go.heap_alloc_new ((w.alloc (.cells #[.int .i64 p,.int .i64 c,.slice a gs.length cap] 30)).alloc (.cells #[.bool b,.slice au xs.length cu,.int .i64 r,.int .i64 n] 41)) (.cells #[.int .i64 0,.int .i64 0,.slice none 0 0] 30); rw[World.size_alloc,World.size_alloc] at q; exact q
 have hT:=dcop_any p c _ gs w1 (h.below hb1) (by omega) hc;have HB1:=hdd hb1;have HS1:=hdd hs1;have HZ0:=hdd hz0;have HZ1:=hdd hz1;have HZ2:=hdd hz2;unfold dkV at hT;unfold dkV dV;clear h hu hnil hc hb1 hs1 hz0 hz1 hz2;go_enter Tryz.func58,Tryz.ntmps58;go_wp2_with fail;rw[←hw1];clear hw1;refine hT.mono ?_;rintro e w2 ⟨a2,c2,rfl,ho2,hb2⟩;unfold dkV
 -- the blocks behind the copy
 have hg0:=(hb2.block w.heap.size (by have:=HS1.out; omega)).trans HZ0.out;have hg1:=(hb2.block (w.heap.size+1) (by have:=HS1.out; omega)).trans HZ1.out;have hg2:=(hb2.block (w.heap.size+1+1) (by have:=HS1.out; omega)).trans HZ2.out;obtain ⟨wq,hwq⟩:∃ z,z=w2.alloc (.cells #[.int .i64 p,.int .i64 c,.slice a2 gs.length c2] 30):=⟨_,rfl⟩
 have hbq:Below w2.heap.size w2 wq:=by rw[hwq]; exact (Below.refl _ _).alloc (Nat.le_refl _) _
 have hD:wq.heap[w2.heap.size]?=some (.cells #[.int .i64 p,.int .i64 c,.slice a2 gs.length c2] 30 (0,0)):=by rw[hwq]; exact heap_alloc_new w2 _
 have hd1:=(hbq.block _ (Array.getElem?_eq_some_iff.1 hg1).1).trans hg1;have hs1:=HS1.out;have hs2:=hb2.size;have hWQ:CopW w (w.heap.size+1+1) w.heap.size #[.int .i64 p,.int .i64 c,.slice a gs.length cap] w2.heap.size p c (gs++[⟨xs,r,n⟩]) a2 gs.length c2 wq:=
  ⟨(hbq.block _ (Array.getElem?_eq_some_iff.1 hg2).1).trans hg2,(hbq.block _ (Array.getElem?_eq_some_iff.1 hg0).1).trans hg0,hD,by simp only[List.take_left']; exact (ho2.below hbq).mono (by omega),by simp,(HB1.out.trans (hb2.mono HB1.out.size)).trans (hbq.mono (by omega)),by omega,by omega,by omega,by omega⟩
 obtain ⟨f0,f1,f2,fx,hDlt,hXlt,hRlt⟩:=hWQ.facts;have e0:=cell_of_row _ _ 0 _ _ (0,0) hg1;have e1:=cell_of_row _ _ 1 _ _ (0,0) hg1;have e2:=cell_of_row _ _ 2 _ _ (0,0) hg1;have e3:=cell_of_row _ _ 3 _ _ (0,0) hg1;simp only[List.getElem?_toArray,List.getElem?_cons_zero,List.getElem?_cons_succ] at e0 e1 e2 e3;have HD1:=hdd hd1;have hg1z:=(Array.getElem?_eq_some_iff.1 hg1).1;have HWQ:=hdd hWQ;have HBQ:=hdd hbq;have HB2:=hdd hb2;have HO2:=hdd ho2;clear hT hg0 hg1 hg2 hbq hD hd1 hWQ fx ho2 hb2 f0 f1 f2
 -- the copy at the end
 have HEND:=hdd (show ∀ W,Below w.heap.size w W→Calls Tryz.prog 57 #[.agg #[.int .i64 p,.int .i64 c,.slice a gs.length cap]] W (DeskOut p c gs W) from fun W hW=>
  dcop_any p c _ gs W (HRG.out.below hW) (by omega) HC.out)
 cases b
 ·have HDY:=hdd (@done_yes p c gs xs r n)
  have HDN:=hdd (@done_no p c gs xs r n);have hg1q:=HD1.out;have q1:=cell_of_row _ _ 1 _ _ (0,0) hg1q;have q2:=cell_of_row _ _ 2 _ _ (0,0) hg1q;have q3:=cell_of_row _ _ 3 _ _ (0,0) hg1q;simp only[List.getElem?_toArray,List.getElem?_cons_zero,List.getElem?_cons_succ] at q1 q2 q3;have q0:wq.cell? ⟨w2.heap.size,2,none⟩=some (.slice a2 gs.length c2):=HWQ.out.facts.2.2.1;have HOW:=hdd (show OwnG w.heap.size wq (.slice a2 gs.length c2) gs from (HO2.out.below HBQ.out).mono (by omega));have HUQ:=hdd (show Ints C wq (.slice au xs.length cu) xs from HU.out.below HWQ.out.2.2.2.2.2.1);have hG:=gcop_any _ xs r n wq.drew (show Ints C wq.drew _ _ from HUQ.out) HNIL.out (by omega);unfold gV at hG;have hzq:=HBQ.out.size;have HP:=hdd (show ∀ (wi w7:World) (a7:Option Addr) (c7:Nat) (h:CopW w (w.heap.size+1+1) w.heap.size #[.int .i64 p,.int .i64 c,.slice a gs.length cap] w2.heap.size p c (gs++[⟨xs,r,n⟩]) a2 gs.length c2 wi) (ho:OwnG w.heap.size w7 (.slice a7 (gs.length+1) c7) (gs++[⟨xs,r,n⟩])) (hg:wi.grownBy w7 (Value.slice a2 gs.length c2).ownBlock),_ from
   fun wi w7 a7 c7 h ho hg=>h.push (by simp) (by simpa using ho) hg)
  have HNE:=hdd (show ∀ j,(Value.slice a2 gs.length c2).ownBlock=some j→w2.heap.size≠j∧w.heap.size+1≠j from fun j hj=>by
   obtain ⟨ts,t1,_⟩:=HOW.out;refine ⟨fun e=>?_,fun e=>?_⟩
   ·rcases own_other t1 HWQ.out.2.2.1 (by decide) with q | q
    ·rw[q] at hj; cases hj
    ·rw[←e] at hj; exact q hj
   ·rcases own_other t1 hg1q (by decide) with q | q
    ·rw[q] at hj; cases hj
    ·rw[←e] at hj; exact q hj)
  go_wp2;rw[←hwq];clear hwq e0 e1 e2 e3 hg1q;refine AnyZ.start (z:=8) (S:=fun w'=>w'.cell? ⟨w2.heap.size,2,none⟩=some (.slice a2 gs.length c2)∧w'.cell? ⟨w.heap.size+1,1,none⟩=some (.slice au xs.length cu)∧w'.cell? ⟨w.heap.size+1,2,none⟩=some (.int .i64 r)∧w'.cell? ⟨w.heap.size+1,3,none⟩=some (.int .i64 n)) (by kernel_rfl) (by go_keep) ?_;intro hHeld
  (try dsimp only at hHeld)
  refine AnyZ.take (i:=0) (v:=?vv0) rfl (by kernel_rfl) (by kernel_rfl) (by kernel_rfl) (by kernel_rfl) (fun _ _ _ h=>h) (Or.inl ⟨by rfl,?hy0⟩) (by assumption) ?rest0
  case hy0=>(intro w9 hSw; (try dsimp only at hSw); go_split_ands; go_simp; all_goals with_reducible rfl)
  ((try simp only[Act.put]); (try simp only[List.setIfInBounds_toArray]); (try simp only[List.set_cons_succ]); (try simp only[List.set_cons_zero]))
  refine AnyZ.take (i:=1) (v:=?vv1) rfl (by kernel_rfl) (by kernel_rfl) (by kernel_rfl) (by kernel_rfl) (fun _ _ _ h=>h) (Or.inl ⟨by rfl,?hy1⟩) (by assumption) ?rest1
  case hy1=>(intro w9 hSw; (try dsimp only at hSw); go_split_ands; go_simp; all_goals with_reducible rfl)
  ((try simp only[Act.put]); (try simp only[List.setIfInBounds_toArray]); (try simp only[List.set_cons_succ]); (try simp only[List.set_cons_zero]))
  refine AnyZ.take (i:=2) (v:=?vv2) rfl (by kernel_rfl) (by kernel_rfl) (by kernel_rfl) (by kernel_rfl) (fun _ _ _ h=>h) (Or.inl ⟨by rfl,?hy2⟩) (by assumption) ?rest2
  case hy2=>(intro w9 hSw; (try dsimp only at hSw); go_split_ands; go_simp; all_goals with_reducible rfl)
  ((try simp only[Act.put]); (try simp only[List.setIfInBounds_toArray]); (try simp only[List.set_cons_succ]); (try simp only[List.set_cons_zero]))
  refine AnyZ.take (i:=3) (v:=?vv3) rfl (by kernel_rfl) (by kernel_rfl) (by kernel_rfl) (by kernel_rfl) (fun _ _ _ h=>h) (Or.inl ⟨by rfl,?hy3⟩) (by assumption) ?rest3
  case hy3=>(intro w9 hSw; (try dsimp only at hSw); go_split_ands; go_simp; all_goals with_reducible rfl)
  ((try simp only[Act.put]); (try simp only[List.setIfInBounds_toArray]); (try simp only[List.set_cons_succ]); (try simp only[List.set_cons_zero]))
  refine AnyZ.one (j:=4) (by kernel_rfl) rfl (fun K hK=>?_);go_simp
  (refine hG.mono ?_; rintro e w8 ⟨a8,c8,rfl,ho8,hb8⟩; unfold gV; have hb8':=(Below.refl wq.heap.size wq).drew.trans hb8; have HO8:=hdd (show OwnI wq.heap.size w8 _ _ from ho8); have HB8:=hdd (show Below wq.heap.size wq w8 from hb8'); have hz8:=hb8'.size; clear ho8 hb8')
  (try go_simp)
  refine hK.out _ _ ?hs4 ?rest4
  case hs4=>(go_split_ands; exact ⟨(hb8.cell (by simp; omega)).trans (by assumption),(hb8.cell (by simp; omega)).trans (by assumption),(hb8.cell (by simp; omega)).trans (by assumption),(hb8.cell (by simp; omega)).trans (by assumption)⟩)
  clear hK K hHeld;intro hHeld
  (try dsimp only at hHeld)
  ((try simp only[Act.put]); (try simp only[List.setIfInBounds_toArray]); (try simp only[List.set_cons_succ]); (try simp only[List.set_cons_zero]))
  refine AnyZ.one (j:=5) (by kernel_rfl) rfl (fun K hK=>?_);go_simp;refine hK.out _ _ ?hs5 ?rest5
  case hs5=>go_keep
  clear hK K hHeld;intro hHeld
  (try dsimp only at hHeld)
  ((try simp only[Act.put]); (try simp only[List.setIfInBounds_toArray]); (try simp only[List.set_cons_succ]); (try simp only[List.set_cons_zero]))
  refine AnyZ.one (j:=6) (by kernel_rfl) rfl (fun K hK=>?_)
  (refine step_push_g _ (by rfl) (.tmp 41) (.tmp 45) (by rfl) (.slice a2 gs.length c2) gs (by rfl) ((HOW.out.below HB8.out).alloc _) w8.heap.size 1 (.slice a8 xs.length c8) ⟨xs,r,n⟩ (by rfl) (heap_alloc_new w8 _) (OwnI.mono2 (World.ownsRow.alloc HO8.out _) (by omega)) (guess_old HOW.out (HB8.out.alloc HB8.out.size _) (World.ownsRow.alloc HO8.out _)) (by omega) (by simp; omega) ?_; intro a9 c9 w9 ho9 hg9; have h9:=HP.out _ w9 a9 c9 (HWQ.out.below (HB8.out.alloc HB8.out.size _)) ho9 hg9; have e9:=cell_of_row _ _ 2 _ _ (0,0) h9.2; have k9:∀ j,w9.frozen? ⟨w2.heap.size,j,none⟩=false:=fun j=>frozen_of_row _ _ j _ _ h9.2; have H9:=hdd h9.1; simp at e9; clear ho9 h9)
  (try go_simp)
  refine hK.out _ _ ?hs6 ?rest6
  case hs6=>(go_split_ands; exact ⟨(hg9.cell_far _ (by simp; omega) (fun e=>(HNE.out _ e.symm).1 rfl)).trans (by assumption),(hg9.cell_far _ (by simp; omega) (fun e=>(HNE.out _ e.symm).2 rfl)).trans (by assumption),(hg9.cell_far _ (by simp; omega) (fun e=>(HNE.out _ e.symm).2 rfl)).trans (by assumption),(hg9.cell_far _ (by simp; omega) (fun e=>(HNE.out _ e.symm).2 rfl)).trans (by assumption)⟩)
  clear hK K hHeld;intro hHeld
  (try dsimp only at hHeld)
  ((try simp only[Act.put]); (try simp only[List.setIfInBounds_toArray]); (try simp only[List.set_cons_succ]); (try simp only[List.set_cons_zero]))
  refine AnyZ.take (i:=7) (v:=?vv7) rfl (by kernel_rfl) (by kernel_rfl) (by kernel_rfl) (by kernel_rfl) (fun _ _ _ h=>h) (Or.inl ⟨by rfl,?hy7⟩) (by assumption) ?rest7
  case hy7=>(intro w9 hSw; (try dsimp only at hSw); go_split_ands; go_simp; all_goals with_reducible rfl)
  ((try simp only[Act.put]); (try simp only[List.setIfInBounds_toArray]); (try simp only[List.set_cons_succ]); (try simp only[List.set_cons_zero]))
  refine AnyZ.last (by kernel_rfl) rfl (by kernel_rfl) (fun K hK=>?_);go_simp;refine hK.out _ _ ?_;clear hK K hHeld;obtain ⟨wz,hwz⟩:∃ z,z=w9.setCell ⟨w2.heap.size,2,none⟩ (.slice a9 (gs.length+1) c9):=⟨_,rfl⟩
  rw[←hwz] at H9 ⊢;have hWZ:=H9.out;obtain ⟨f0,f1,f2,fx,hDlt3,hXlt3,hRlt3⟩:=hWZ.facts;have HWZ:=hdd hWZ;have hle:(gs++[(⟨xs,r,n⟩:Gs)]).length=gs.length+1:=by simp
  have hOZ:=hWZ.2.2.2.1;rw[←hle,List.take_length] at hOZ;have h64:=HRG.out.i64.snoc (x:=⟨xs,r,n⟩) HU.out.2;have hDK:=deskOkI_any p c _ _ wz (hOZ.toGL h64);rw[hle] at hDK;have HOZ:=hdd hOZ;have HLE:=hdd hle;unfold dkV at hDK;obtain ⟨t,ht⟩:∃ t,t=deskB p c (gs++[⟨xs,r,n⟩]):=⟨_,rfl⟩
  rw[←ht] at hDK HDY HDN;clear hwz hWZ fx hle hOZ h64 ht e9 k9 q0 q1 q2 q3;go_wp2_with fail;refine hDK.mono ?_;rintro e w10 ⟨rfl,hb10⟩;have hW10:=HWZ.out.below hb10;have HW10:=hdd hW10;have HO10:=hdd (HOZ.out.below hb10);clear hDK hb10 f0 f1 f2;obtain ⟨f0,f1,f2,fx,hDlt4,hXlt4,hRlt4⟩:=hW10.facts
  cases t
  ·have HR:=hdd (HDN.out rfl)
   have x0:=fx 0;have x1:=fx 1;have x2:=fx 2;simp only[List.getElem?_toArray,List.getElem?_cons_zero,List.getElem?_cons_succ] at x0 x1 x2;have hT:=HEND.out w10 hW10.2.2.2.2.2.1;clear fx hW10 f0 f1 f2;go_wp2_with fail;refine hT.mono ?_;rintro e w4 ⟨a4,c4,rfl,ho4,hb4⟩;unfold dkV;have hR4:=(HW10.out.below hb4).1;have hbw:=(HW10.out.below hb4).2.2.2.2.2.1;obtain ⟨q6,q7⟩:=ho4.caps;obtain ⟨r0,r1,r2,rf⟩:=zero_cells hR4;have HF:=hdd (do_ret (w:=w) (p:=p) (c:=c) false hR4 (by omega) (ho4.mono HW10.out.2.2.2.2.2.1.size) hbw q6 q7);clear hT ho4 hb4 hR4 hbw x0 x1 x2;go_wp2
   ((try simp only[Exit.inBlock,Exit.then]); refine bodyPost_ret (results_cell_tmp rfl _ _ (w.heap.size+1+1) _ _ (0,0) _ rfl HF.out.2 Tryz.underlying30 rfl (by kernel_rfl)) rfl ?_)
   rw[HR.out];exact HF.out.1
  ·have HR:=hdd (HDY.out rfl)
   have hR4:=hW10.1;have hbw:=hW10.2.2.2.2.2.1;obtain ⟨q6,q7⟩:=HO10.out.caps;obtain ⟨r0,r1,r2,rf⟩:=zero_cells hR4;have HF:=do_ret (w:=w) (p:=p) (c:=c) true hR4 (by omega) HO10.out hbw q6 q7;rw[HLE.out] at HF;have HF:=hdd HF;clear fx hW10 hR4 hbw;go_wp2
   ((try simp only[Exit.inBlock,Exit.then]); refine bodyPost_ret (results_cell_tmp rfl _ _ (w.heap.size+1+1) _ _ (0,0) _ rfl HF.out.2 Tryz.underlying30 rfl (by kernel_rfl)) rfl ?_)
   rw[HR.out];exact HF.out.1
 ·have hN:=nothing_any au cu xs r n wq (by omega)
  unfold gV at hN;have HDB:=hdd (@done_bad p c gs xs r n);have HDN:=hdd (@done_none p c gs xs r n);have HDY:=hdd (@done_back p c gs xs r n);obtain ⟨t,ht⟩:∃ t,t=nothingB xs r n:=⟨_,rfl⟩
  rw[←ht] at hN HDB HDY;clear ht
  cases t
  ·have HR:=hdd (HDB.out rfl)
   go_wp2_with fail;rw[←hwq];refine hN.mono ?_;rintro e w3 ⟨rfl,hb3⟩;have hW3:=HWQ.out.below hb3;obtain ⟨f0,f1,f2,fx,hDlt3,hXlt3,hRlt3⟩:=hW3.facts;have x0:=fx 0;have x1:=fx 1;have x2:=fx 2;simp only[List.getElem?_toArray,List.getElem?_cons_zero,List.getElem?_cons_succ] at x0 x1 x2;have e0':=cell_of_row _ _ 0 _ _ (0,0) ((hb3.block _ (Array.getElem?_eq_some_iff.1 HD1.out).1).trans HD1.out);simp only[List.getElem?_toArray,List.getElem?_cons_zero] at e0';have hT:=HEND.out w3 hW3.2.2.2.2.2.1;have HW3:=hdd hW3;clear hN fx hb3 hW3 e0 e1 e2 e3 hwq;go_wp2_with fail;refine hT.mono ?_;rintro e w4 ⟨a4,c4,rfl,ho4,hb4⟩;unfold dkV;have hR4:=(HW3.out.below hb4).1;have hbw:=(HW3.out.below hb4).2.2.2.2.2.1;obtain ⟨q6,q7⟩:=ho4.caps;obtain ⟨r0,r1,r2,rf⟩:=zero_cells hR4;have HF:=hdd (do_ret (w:=w) (p:=p) (c:=c) false hR4 (by omega) (ho4.mono HW3.out.2.2.2.2.2.1.size) hbw q6 q7);clear hT ho4 hb4 hR4 hbw f0 f1 f2 x0 x1 x2;go_wp2
   ((try simp only[Exit.inBlock,Exit.then]); refine bodyPost_ret (results_cell_tmp rfl _ _ (w.heap.size+1+1) _ _ (0,0) _ rfl HF.out.2 Tryz.underlying30 rfl (by kernel_rfl)) rfl ?_)
   rw[HR.out];exact HF.out.1
  ·rcases Nat.eq_zero_or_pos gs.length with hz | hz
   ·have HR:=hdd (HDN.out hz)
    have hz':¬(0<(gs.length:Int)):=by omega
    clear hz;go_wp2_with fail;rw[←hwq];refine hN.mono ?_;rintro e w3 ⟨rfl,hb3⟩;have hW3:=HWQ.out.below hb3;obtain ⟨f0,f1,f2,fx,hDlt3,hXlt3,hRlt3⟩:=hW3.facts;have x0:=fx 0;have x1:=fx 1;have x2:=fx 2;simp only[List.getElem?_toArray,List.getElem?_cons_zero,List.getElem?_cons_succ] at x0 x1 x2;have e0':=cell_of_row _ _ 0 _ _ (0,0) ((hb3.block _ (Array.getElem?_eq_some_iff.1 HD1.out).1).trans HD1.out);simp only[List.getElem?_toArray,List.getElem?_cons_zero] at e0';have hT:=HEND.out w3 hW3.2.2.2.2.2.1;have HW3:=hdd hW3;clear hN fx hb3 hW3 e0 e1 e2 e3 hwq;go_wp2_with fail;refine hT.mono ?_;rintro e w4 ⟨a4,c4,rfl,ho4,hb4⟩;unfold dkV;have hR4:=(HW3.out.below hb4).1;have hbw:=(HW3.out.below hb4).2.2.2.2.2.1;obtain ⟨q6,q7⟩:=ho4.caps;obtain ⟨r0,r1,r2,rf⟩:=zero_cells hR4;have HF:=hdd (do_ret (w:=w) (p:=p) (c:=c) false hR4 (by omega) (ho4.mono HW3.out.2.2.2.2.2.1.size) hbw q6 q7);clear hT ho4 hb4 hR4 hbw f0 f1 f2 x0 x1 x2;go_wp2
    ((try simp only[Exit.inBlock,Exit.then]); refine bodyPost_ret (results_cell_tmp rfl _ _ (w.heap.size+1+1) _ _ (0,0) _ rfl HF.out.2 Tryz.underlying30 rfl (by kernel_rfl)) rfl ?_)
    rw[HR.out];exact HF.out.1
   ·have HR:=hdd (HDY.out rfl hz)
    obtain ⟨g2,cp2,e9,_,_,_,_,_,_⟩:=HO2.out.opened hz;injection e9 with e9 e9b e9c;subst e9;clear e9b e9c;obtain ⟨q6,q7⟩:=HO2.out.caps;have hz':0<(gs.length:Int):=by omega
    have hz1:(0:Int)≤(gs.length:Int)-1:=by omega
    have hz2:(1:Int)≤(gs.length:Int):=by omega
    have hz3:(gs.length:Int)-1≤(c2:Int):=by omega
    go_wp2_with fail;rw[←hwq];refine hN.mono ?_;rintro e w3 ⟨rfl,hb3⟩;have hW3:=HWQ.out.below hb3;obtain ⟨f0,f1,f2,fx,hDlt3,hXlt3,hRlt3⟩:=hW3.facts;have hD3:=hW3.2.2.1;have fd:∀ j,w3.frozen? ⟨w2.heap.size,j,none⟩=false:=fun j=>frozen_of_row _ _ j _ _ hD3
    have HW3:=hdd hW3;have HO3:=hdd ((HO2.out.below HBQ.out).below hb3);obtain ⟨r0,r1,r2,rf⟩:=hW3.zero;clear hN fx hb3 hW3 e0 e1 e2 e3 hwq;go_wp2;have hle:(gs.take (gs.length-1)).length=gs.length-1:=by rw[List.length_take]; omega
    have hRx:(w3.setCell ⟨w2.heap.size,2,none⟩ (.slice (some ⟨g2,0,none⟩) (gs.length-1) (gs.length-1))).heap[w.heap.size+1+1]?=some (.cells #[.int .i64 0,.int .i64 0,.slice none 0 0] 30 (0,0)):=by
     rw[heap_setCell_other _ _ _ _ (by simp; omega)]; exact HW3.out.1
    have hOx:=(HO3.out.take (gs.length-1) (by omega)).other hD3 (j:=2) (z:=.slice (some ⟨g2,0,none⟩) (gs.length-1) (gs.length-1));have HF:=do_ret (w:=w) (p:=p) (c:=c) (gs:=gs.take (gs.length-1)) (a4:=some ⟨g2,0,none⟩) (c4:=c2) (cap2:=gs.length-1) true hRx (by omega) (by rw[hle]; exact hOx.mono (by omega)) (HW3.out.2.2.2.2.2.1.setCell (p:=⟨w2.heap.size,2,none⟩) (by simp; omega) _) (by omega) (by omega);rw[hle] at HF
    ((try simp only[Exit.inBlock,Exit.then]); refine bodyPost_ret (results_cell_tmp rfl _ _ (w.heap.size+1+1) _ _ (0,0) _ rfl HF.2 Tryz.underlying30 rfl (by kernel_rfl)) rfl ?_)
    rw[HR.out];exact HF.1
def DoRes (p c:Int) (gs:List Gs) (d:Dd) (w:World) (e:Ending) (w':World):Prop:=
 if deskB p c gs=true then DoOut p c (doneG p c gs d).1 (doneG p c gs d).2 w e w' else DoOut 0 0 [] false w e w'
theorem DoRes.yes {p c:Int} {gs:List Gs} {d:Dd} {w:World} {e:Ending} {w':World} (h:deskB p c gs=true) (ho:DoOut p c (doneG p c gs d).1 (doneG p c gs d).2 w e w'):DoRes p c gs d w e w':=by
 unfold DoRes; rw[if_pos h]; exact ho
theorem DoRes.no {p c:Int} {gs:List Gs} {d:Dd} {w:World} {e:Ending} {w':World} (h:deskB p c gs=false) (ho:DoOut 0 0 [] false w e w'):DoRes p c gs d w e w':=by
 unfold DoRes; rw[if_neg (by simp[h])]; exact ho
theorem GL.i64 {B:Nat} {w:World} {v:Value} {gs:List Gs} (h:GL B w v gs):In64G gs:=by
 obtain ⟨_,_,_,_,_,_,_,h5⟩:=h;intro g hg;obtain ⟨i,hi,rfl⟩:=List.getElem_of_mem hg;exact (h5 i hi).2
theorem do_ret2 {w w4:World} {R:Nat} {p c:Int} {gs:List Gs} {a4:Option Addr} {c4 cap2:Nat} (ok:Bool) (o:Obj) (hR:w4.heap[R]?=some (.cells #[.int .i64 0,.int .i64 0,.slice none 0 0] 30 (0,0))) (hRB:w.heap.size≤R)
  (ho:OwnG w.heap.size w4 (.slice a4 gs.length c4) gs) (hb:Below w.heap.size w w4) (h1:gs.length≤cap2) (h2:cap2≤9223372036854775807):
  DoOut p c gs ok w (.returned (.tuple #[dkV p c (.slice a4 gs.length cap2),.bool ok])) ((((w4.setCell ⟨R,0,none⟩ (.int .i64 p)).setCell ⟨R,1,none⟩ (.int .i64 c)).setCell ⟨R,2,none⟩ (.slice a4 gs.length cap2)).alloc o) ∧
   ((((w4.setCell ⟨R,0,none⟩ (.int .i64 p)).setCell ⟨R,1,none⟩ (.int .i64 c)).setCell ⟨R,2,none⟩ (.slice a4 gs.length cap2)).alloc o).heap[R]?=some (.cells #[.int .i64 p,.int .i64 c,.slice a4 gs.length cap2] 30 (0,0)):=by
 obtain ⟨⟨a,cap,cap3,e,q1,q2,q3,q4⟩,q5⟩:=do_ret (p:=p) (c:=c) ok hR hRB ho hb h1 h2;exact ⟨⟨a,cap,cap3,e,q1,q2,q3.alloc o,q4.alloc q4.size o⟩,(Below.heap_alloc _ o R (Array.getElem?_eq_some_iff.1 q5).1).trans q5⟩
set_option maxHeartbeats 4000000 in
theorem deskDoS_any {B C:Nat} (p c:Int) (v:Value) (gs:List Gs) (b:Bool) (u:Value) (xs:List Int) (r n:Int) (w:World) (h:GL B w v gs) (hu:Ints C w u xs) (hc:∀ g∈gs,g.code.length≤2000000) (hx:xs.length≤2000000):
  Calls Tryz.prog 66 #[dkV p c v,dV b u r n] w (DoRes p c gs ⟨b,xs,r,n⟩ w):=by
 have HGL:=hdd h;have HU:=hdd hu;have HC:=hdd hc;obtain ⟨a,cap,rfl⟩:∃ a cap,v=.slice a gs.length cap:=by obtain ⟨a,cap,_,hv,_⟩:=h; exact ⟨a,cap,hv⟩
 obtain ⟨au,cu,rfl,_⟩:=hu.opened;obtain ⟨w1,hw1⟩:∃ w1,w1=((w.alloc (.cells #[.int .i64 p,.int .i64 c,.slice a gs.length cap] 30)).alloc (.cells #[.bool b,.slice au xs.length cu,.int .i64 r,.int .i64 n] 41)).alloc (.cells #[.int .i64 0,.int .i64 0,.slice none 0 0] 30):=⟨_,rfl⟩
 have hb1:Below w.heap.size w w1:=by rw[hw1]; exact (((Below.refl _ _).alloc (Nat.le_refl _) _).alloc (by simp) _).alloc (by simp; omega) _
 have hs1:w1.heap.size=w.heap.size+3:=by rw[hw1]; simp
 have hz0:w1.heap[w.heap.size]?=some (.cells #[.int .i64 p,.int .i64 c,.slice a gs.length cap] 30 (0,0)):=by
  rw[hw1,haoM _ _ (by simp; try omega),haoM _ _ (by simp; try omega)]; exact heap_alloc_new w _
 have hz1:w1.heap[w.heap.size+1]?=some (.cells #[.bool b,.slice au xs.length cu,.int .i64 r,.int .i64 n] 41 (0,0)):=by
  rw[hw1,haoM _ _ (by simp; try omega)]; have q:=@Go.heap_alloc_new (w.alloc (.cells #[.int .i64 p,.int .i64 c,.slice a gs.length cap] 30)) (.cells #[.bool b,.slice au xs.length cu,.int .i64 r,.int .i64 n] 41); rw[World.size_alloc] at q; exact q
 have hz2:w1.heap[w.heap.size+1+1]?=some (.cells #[.int .i64 0,.int .i64 0,.slice none 0 0] 30 (0,0)):=by
  rw[hw1]; have q:=@Go.heap_alloc_new ((w.alloc (.cells #[.int .i64 p,.int .i64 c,.slice a gs.length cap] 30)).alloc (.cells #[.bool b,.slice au xs.length cu,.int .i64 r,.int .i64 n] 41)) (.cells #[.int .i64 0,.int .i64 0,.slice none 0 0] 30); rw[World.size_alloc,World.size_alloc] at q; exact q
 have hT:=deskOkS_any p c _ gs w1 (h.below hb1);have HB1:=hdd hb1;have HS1:=hdd hs1;have HZ0:=hdd hz0;have HZ1:=hdd hz1;have HZ2:=hdd hz2;have HY:=hdd (fun (e:Ending) (w':World) (q:deskB p c gs=true)=>DoRes.yes (d:=⟨b,xs,r,n⟩) (w:=w) (e:=e) (w':=w') q);have HN:=hdd (fun (e:Ending) (w':World) (q:deskB p c gs=false)=>DoRes.no (d:=⟨b,xs,r,n⟩) (w:=w) (e:=e) (w':=w') q);have HLEN:=hdd (@deskB_len p c gs);obtain ⟨t,ht⟩:∃ t,t=deskB p c gs:=⟨_,rfl⟩
 rw[←ht] at hT HY HN HLEN;unfold dkV at hT;unfold dkV dV;clear h hu hc hb1 hs1 hz0 hz1 hz2 ht;go_enter Tryz.func66,Tryz.ntmps66;go_wp2_with fail;rw[←hw1];clear hw1;refine hT.mono ?_;rintro e w2 ⟨rfl,hb2⟩;have hg0:=(hb2.block w.heap.size (by have:=HS1.out; omega)).trans HZ0.out;have hg1:=(hb2.block (w.heap.size+1) (by have:=HS1.out; omega)).trans HZ1.out;have hg2:=(hb2.block (w.heap.size+1+1) (by have:=HS1.out; omega)).trans HZ2.out;have e0:=cell_of_row _ _ 0 _ _ (0,0) hg0;have e1:=cell_of_row _ _ 1 _ _ (0,0) hg0;have e2:=cell_of_row _ _ 2 _ _ (0,0) hg0;simp only[List.getElem?_toArray,List.getElem?_cons_zero,List.getElem?_cons_succ] at e0 e1 e2;have hbw:=HB1.out.trans (hb2.mono HB1.out.size);have HBW:=hdd hbw;have HG2:=hdd hg2
 cases t
 ·obtain ⟨r0,r1,r2,rf⟩:=zero_cells hg2
  have HF:=hdd (do_ret (w:=w) (p:=0) (c:=0) (gs:=[]) (a4:=none) (c4:=0) (cap2:=0) false hg2 (by omega) (OwnG.empty _ _) hbw (by simp) (by omega));clear hT hb2 hg0 hg1 hg2 hbw e0 e1 e2;go_wp2
  ((try simp only[Exit.inBlock,Exit.then]); refine bodyPost_ret (results_cell_tmp rfl _ _ (w.heap.size+1+1) _ _ (0,0) _ rfl HF.out.2 Tryz.underlying30 rfl (by kernel_rfl)) rfl ?_)
  exact HN.out _ _ (by trivial) HF.out.1
 ·have hl:gs.length≤9:=HLEN.out rfl
  have hEND:=hdd (show ∀ W,Below w.heap.size w W→Calls Tryz.prog 65 #[.agg #[.int .i64 p,.int .i64 c,.slice a gs.length cap]] W (DeskOut p c gs W) from fun W hW=>
   copS_any p c _ gs W (HGL.out.below hW) (by omega) HC.out)
  have hT2:=hEND.out w2 hbw;have HG0:=hdd hg0;have HG1:=hdd hg1;have hs1:=HS1.out;have hs2:=hb2.size;clear hT hb2 hg0 hg1 hg2 hbw;go_wp2_with fail;refine hT2.mono ?_;rintro e w3 ⟨a3,c3,rfl,ho3,hb3⟩;unfold dkV;obtain ⟨wq,hwq⟩:∃ z,z=w3.alloc (.cells #[.int .i64 p,.int .i64 c,.slice a3 gs.length c3] 30):=⟨_,rfl⟩
  have hbq:Below w3.heap.size w3 wq:=by rw[hwq]; exact (Below.refl _ _).alloc (Nat.le_refl _) _
  have hD:wq.heap[w3.heap.size]?=some (.cells #[.int .i64 p,.int .i64 c,.slice a3 gs.length c3] 30 (0,0)):=by rw[hwq]; exact heap_alloc_new w3 _
  have hg0:=(hb3.block _ (Array.getElem?_eq_some_iff.1 HG0.out).1).trans HG0.out;have hg1:=(hb3.block _ (Array.getElem?_eq_some_iff.1 HG1.out).1).trans HG1.out;have hg2:=(hb3.block _ (Array.getElem?_eq_some_iff.1 HG2.out).1).trans HG2.out;have hd1:=(hbq.block _ (Array.getElem?_eq_some_iff.1 hg1).1).trans hg1;have hs3:=hb3.size;have hWQ:CopW w (w.heap.size+1+1) w.heap.size #[.int .i64 p,.int .i64 c,.slice a gs.length cap] w3.heap.size p c (gs++[⟨xs,r,n⟩]) a3 gs.length c3 wq:=
   ⟨(hbq.block _ (Array.getElem?_eq_some_iff.1 hg2).1).trans hg2,(hbq.block _ (Array.getElem?_eq_some_iff.1 hg0).1).trans hg0,hD,by simp only[List.take_left']; exact (ho3.below hbq).mono (by omega),by simp,(HBW.out.trans (hb3.mono (by omega))).trans (hbq.mono (by omega)),by omega,by omega,by omega,by omega⟩
  have HWQ:=hdd hWQ;have HD1:=hdd hd1;have HBQ:=hdd hbq;have HOW:=hdd (show OwnG w.heap.size wq (.slice a3 gs.length c3) gs from (ho3.below hbq).mono (by omega));have HUQ:=hdd (show Ints C wq (.slice au xs.length cu) xs from HU.out.below hWQ.2.2.2.2.2.1);have d0:=cell_of_row _ _ 0 _ _ (0,0) hg1;have d1:=cell_of_row _ _ 1 _ _ (0,0) hg1;have d2:=cell_of_row _ _ 2 _ _ (0,0) hg1;have d3:=cell_of_row _ _ 3 _ _ (0,0) hg1;have e0':=cell_of_row _ _ 0 _ _ (0,0) hg0;have e1':=cell_of_row _ _ 1 _ _ (0,0) hg0;have e2':=cell_of_row _ _ 2 _ _ (0,0) hg0;simp only[List.getElem?_toArray,List.getElem?_cons_zero,List.getElem?_cons_succ] at d0 d1 d2 d3 e0' e1' e2';obtain ⟨r0,r1,r2,rf⟩:=zero_cells hg2;obtain ⟨f0,f1,f2,fx,hDlt,hXlt,hRlt⟩:=hWQ.facts;have HG3:=hdd hg2;have HO3:=hdd (show OwnG w.heap.size w3 _ _ from ho3.mono (by omega));have HB3:=hdd (HBW.out.trans (hb3.mono (by omega)));have hz1q:=(Array.getElem?_eq_some_iff.1 hg1).1;have hz0q:=(Array.getElem?_eq_some_iff.1 hg0).1;have hz2q:=(Array.getElem?_eq_some_iff.1 hg2).1;clear hT2 hg0 hg1 hg2 hbq hD hd1 hWQ fx ho3 hb3 e0 e1 e2 f0 f1 f2
  cases b
  ·have HDY:=hdd (@done_yes p c gs xs r n)
   have HDN:=hdd (@done_no p c gs xs r n);have hg1q:=HD1.out;have q1:=cell_of_row _ _ 1 _ _ (0,0) hg1q;have q2:=cell_of_row _ _ 2 _ _ (0,0) hg1q;have q3:=cell_of_row _ _ 3 _ _ (0,0) hg1q;simp only[List.getElem?_toArray,List.getElem?_cons_zero,List.getElem?_cons_succ] at q1 q2 q3;have q0:wq.cell? ⟨w3.heap.size,2,none⟩=some (.slice a3 gs.length c3):=HWQ.out.facts.2.2.1;have hzq:=HBQ.out.size;have HP:=hdd (show ∀ (wi w7:World) (a7:Option Addr) (c7:Nat) (h:CopW w (w.heap.size+1+1) w.heap.size #[.int .i64 p,.int .i64 c,.slice a gs.length cap] w3.heap.size p c (gs++[⟨xs,r,n⟩]) a3 gs.length c3 wi) (ho:OwnG w.heap.size w7 (.slice a7 (gs.length+1) c7) (gs++[⟨xs,r,n⟩])) (hg:wi.grownBy w7 (Value.slice a3 gs.length c3).ownBlock),_ from
    fun wi w7 a7 c7 h ho hg=>h.push (by simp) (by simpa using ho) hg)
   have HNE:=hdd (show ∀ j,(Value.slice a3 gs.length c3).ownBlock=some j→w3.heap.size≠j∧w.heap.size+1≠j from fun j hj=>by
    obtain ⟨ts,t1,_⟩:=HOW.out;refine ⟨fun e=>?_,fun e=>?_⟩
    ·rcases own_other t1 HWQ.out.2.2.1 (by decide) with q | q
     ·rw[q] at hj; cases hj
     ·rw[←e] at hj; exact q hj
    ·rcases own_other t1 hg1q (by decide) with q | q
     ·rw[q] at hj; cases hj
     ·rw[←e] at hj; exact q hj)
   go_wp2;rw[←hwq];clear hwq d0 d1 d2 d3 hg1q e0' e1' e2' r0 r1 r2 rf;refine AnyZ.start (z:=17) (S:=fun w'=>w'.cell? ⟨w3.heap.size,2,none⟩=some (.slice a3 gs.length c3)∧w'.cell? ⟨w.heap.size+1,1,none⟩=some (.slice au xs.length cu)∧w'.cell? ⟨w.heap.size+1,2,none⟩=some (.int .i64 r)∧w'.cell? ⟨w.heap.size+1,3,none⟩=some (.int .i64 n)) (by kernel_rfl) (by go_keep) ?_;intro hHeld
   (try dsimp only at hHeld)
   refine AnyZ.take (i:=0) (v:=?vv0) rfl (by kernel_rfl) (by kernel_rfl) (by kernel_rfl) (by kernel_rfl) (fun _ _ _ h=>h) (Or.inl ⟨by rfl,?hy0⟩) (by assumption) ?rest0
   case hy0=>(intro w9 hSw; (try dsimp only at hSw); go_split_ands; go_simp; all_goals with_reducible rfl)
   ((try simp only[Act.put]); (try simp only[List.setIfInBounds_toArray]); (try simp only[List.set_cons_succ]); (try simp only[List.set_cons_zero]))
   refine AnyZ.take (i:=1) (v:=?vv1) rfl (by kernel_rfl) (by kernel_rfl) (by kernel_rfl) (by kernel_rfl) (fun _ _ _ h=>h) (Or.inl ⟨by rfl,?hy1⟩) (by assumption) ?rest1
   case hy1=>(intro w9 hSw; (try dsimp only at hSw); go_split_ands; go_simp; all_goals with_reducible rfl)
   ((try simp only[Act.put]); (try simp only[List.setIfInBounds_toArray]); (try simp only[List.set_cons_succ]); (try simp only[List.set_cons_zero]))
   refine AnyZ.take (i:=3) (v:=?vv3) rfl (by kernel_rfl) (by kernel_rfl) (by kernel_rfl) (by kernel_rfl) (fun _ _ _ h=>h) (Or.inl ⟨by rfl,?hy3⟩) (by assumption) ?rest3
   case hy3=>(intro w9 hSw; (try dsimp only at hSw); go_split_ands; go_simp; all_goals with_reducible rfl)
   ((try simp only[Act.put]); (try simp only[List.setIfInBounds_toArray]); (try simp only[List.set_cons_succ]); (try simp only[List.set_cons_zero]))
   refine AnyZ.take (i:=4) (v:=?vv4) rfl (by kernel_rfl) (by kernel_rfl) (by kernel_rfl) (by kernel_rfl) (fun _ _ _ h=>h) (Or.inl ⟨by rfl,?hy4⟩) (by assumption) ?rest4
   case hy4=>(intro w9 hSw; (try dsimp only at hSw); go_split_ands; go_simp; all_goals with_reducible rfl)
   ((try simp only[Act.put]); (try simp only[List.setIfInBounds_toArray]); (try simp only[List.set_cons_succ]); (try simp only[List.set_cons_zero]))
   refine AnyZ.take (i:=5) (v:=?vv5) rfl (by kernel_rfl) (by kernel_rfl) (by kernel_rfl) (by kernel_rfl) (fun _ _ _ h=>h) (Or.inl ⟨by rfl,?hy5⟩) (by assumption) ?rest5
   case hy5=>(intro w9 hSw; (try dsimp only at hSw); go_split_ands; go_simp; all_goals with_reducible rfl)
   ((try simp only[Act.put]); (try simp only[List.setIfInBounds_toArray]); (try simp only[List.set_cons_succ]); (try simp only[List.set_cons_zero]))
   refine AnyZ.take (i:=7) (v:=?vv7) rfl (by kernel_rfl) (by kernel_rfl) (by kernel_rfl) (by kernel_rfl) (fun _ _ _ h=>h) (Or.inl ⟨by rfl,?hy7⟩) (by assumption) ?rest7
   case hy7=>(intro w9 hSw; (try dsimp only at hSw); go_split_ands; go_simp; all_goals with_reducible rfl)
   ((try simp only[Act.put]); (try simp only[List.setIfInBounds_toArray]); (try simp only[List.set_cons_succ]); (try simp only[List.set_cons_zero]))
   refine AnyZ.take (i:=8) (v:=?vv8) rfl (by kernel_rfl) (by kernel_rfl) (by kernel_rfl) (by kernel_rfl) (fun _ _ _ h=>h) (Or.inl ⟨by rfl,?hy8⟩) (by assumption) ?rest8
   case hy8=>(intro w9 hSw; (try dsimp only at hSw); go_split_ands; go_simp; all_goals with_reducible rfl)
   ((try simp only[Act.put]); (try simp only[List.setIfInBounds_toArray]); (try simp only[List.set_cons_succ]); (try simp only[List.set_cons_zero]))
   refine AnyZ.take (i:=9) (v:=?vv9) rfl (by kernel_rfl) (by kernel_rfl) (by kernel_rfl) (by kernel_rfl) (fun _ _ _ h=>h) (Or.inl ⟨by rfl,?hy9⟩) (by assumption) ?rest9
   case hy9=>(intro w9 hSw; (try dsimp only at hSw); go_split_ands; go_simp; all_goals with_reducible rfl)
   ((try simp only[Act.put]); (try simp only[List.setIfInBounds_toArray]); (try simp only[List.set_cons_succ]); (try simp only[List.set_cons_zero]))
   refine AnyZ.take (i:=10) (v:=?vv10) rfl (by kernel_rfl) (by kernel_rfl) (by kernel_rfl) (by kernel_rfl) (fun _ _ _ h=>h) (Or.inl ⟨by rfl,?hy10⟩) (by assumption) ?rest10
   case hy10=>(intro w9 hSw; (try dsimp only at hSw); go_split_ands; go_simp; all_goals with_reducible rfl)
   ((try simp only[Act.put]); (try simp only[List.setIfInBounds_toArray]); (try simp only[List.set_cons_succ]); (try simp only[List.set_cons_zero]))
   refine AnyZ.take (i:=11) (v:=?vv11) rfl (by kernel_rfl) (by kernel_rfl) (by kernel_rfl) (by kernel_rfl) (fun _ _ _ h=>h) (Or.inl ⟨by rfl,?hy11⟩) (by assumption) ?rest11
   case hy11=>(intro w9 hSw; (try dsimp only at hSw); go_split_ands; go_simp; all_goals with_reducible rfl)
   ((try simp only[Act.put]); (try simp only[List.setIfInBounds_toArray]); (try simp only[List.set_cons_succ]); (try simp only[List.set_cons_zero]))
   refine AnyZ.take (i:=12) (v:=?vv12) rfl (by kernel_rfl) (by kernel_rfl) (by kernel_rfl) (by kernel_rfl) (fun _ _ _ h=>h) (Or.inl ⟨by rfl,?hy12⟩) (by assumption) ?rest12
   case hy12=>(intro w9 hSw; (try dsimp only at hSw); go_split_ands; go_simp; all_goals with_reducible rfl)
   ((try simp only[Act.put]); (try simp only[List.setIfInBounds_toArray]); (try simp only[List.set_cons_succ]); (try simp only[List.set_cons_zero]))
   refine AnyZ.one (j:=2) (by kernel_rfl) rfl (fun K hK=>?_);go_simp;refine hK.out _ _ ?hs2 ?rest2
   case hs2=>go_keep
   clear hK K hHeld;intro hHeld
   (try dsimp only at hHeld)
   ((try simp only[Act.put]); (try simp only[List.setIfInBounds_toArray]); (try simp only[List.set_cons_succ]); (try simp only[List.set_cons_zero]))
   refine AnyZ.one (j:=6) (by kernel_rfl) rfl (fun K hK=>?_)
   (refine step_push_any _ (by rfl) (.tmp 50) (.tmp 53) (by rfl) (.slice (some ⟨wq.heap.size,0,none⟩) 0 0) [] (by rfl) (OwnI.lit wq.drew) (.slice au xs.length cu) xs (by rfl) (HUQ.out.drewAlloc _) (by simp; omega) (by simp) ?_; intro a8 c8 w8 ho8 hg8; simp only[List.nil_append,List.length_nil,Nat.zero_add] at ho8 ⊢; have hb8:=(((Below.refl wq.heap.size wq).drew.alloc (Nat.le_refl _) _).grown hg8 (by simp) (fun j hj=>by cases hj; exact Nat.le_refl _)); have HO8:=hdd (show OwnI wq.heap.size w8 _ _ from ho8); have HB8:=hdd (show Below wq.heap.size wq w8 from hb8); have hz8:=hg8.size; simp at hz8; clear ho8 hb8)
   (try go_simp)
   refine hK.out _ _ ?hs6 ?rest6
   case hs6=>(go_split_ands; exact ⟨(hg8.cell_far _ (by simp; omega) (by simp[Value.ownBlock]; omega)).trans (by assumption),(hg8.cell_far _ (by simp; omega) (by simp[Value.ownBlock]; omega)).trans (by assumption),(hg8.cell_far _ (by simp; omega) (by simp[Value.ownBlock]; omega)).trans (by assumption),(hg8.cell_far _ (by simp; omega) (by simp[Value.ownBlock]; omega)).trans (by assumption)⟩)
   clear hK K hHeld;intro hHeld
   (try dsimp only at hHeld)
   ((try simp only[Act.put]); (try simp only[List.setIfInBounds_toArray]); (try simp only[List.set_cons_succ]); (try simp only[List.set_cons_zero]))
   refine AnyZ.take (i:=13) (v:=?vv13) rfl (by kernel_rfl) (by kernel_rfl) (by kernel_rfl) (by kernel_rfl) (fun _ _ _ h=>h) (Or.inl ⟨by rfl,?hy13⟩) (by assumption) ?rest13
   case hy13=>(intro w9 hSw; (try dsimp only at hSw); go_split_ands; go_simp; all_goals with_reducible rfl)
   ((try simp only[Act.put]); (try simp only[List.setIfInBounds_toArray]); (try simp only[List.set_cons_succ]); (try simp only[List.set_cons_zero]))
   refine AnyZ.one (j:=14) (by kernel_rfl) rfl (fun K hK=>?_);go_simp;refine hK.out _ _ ?hs14 ?rest14
   case hs14=>go_keep
   clear hK K hHeld;intro hHeld
   (try dsimp only at hHeld)
   ((try simp only[Act.put]); (try simp only[List.setIfInBounds_toArray]); (try simp only[List.set_cons_succ]); (try simp only[List.set_cons_zero]))
   refine AnyZ.one (j:=15) (by kernel_rfl) rfl (fun K hK=>?_)
   (refine step_push_g _ (by rfl) (.tmp 49) (.tmp 62) (by rfl) (.slice a3 gs.length c3) gs (by rfl) ((HOW.out.below HB8.out).alloc _) w8.heap.size 1 (.slice a8 xs.length c8) ⟨xs,r,n⟩ (by rfl) (heap_alloc_new w8 _) (OwnI.mono2 (World.ownsRow.alloc HO8.out _) (by omega)) (guess_old HOW.out (HB8.out.alloc HB8.out.size _) (World.ownsRow.alloc HO8.out _)) (by omega) (by simp; omega) ?_; intro a9 c9 w9 ho9 hg9; have h9:=HP.out _ w9 a9 c9 (HWQ.out.below (HB8.out.alloc HB8.out.size _)) ho9 hg9; have e9:=cell_of_row _ _ 2 _ _ (0,0) h9.2; have k9:∀ j,w9.frozen? ⟨w3.heap.size,j,none⟩=false:=fun j=>frozen_of_row _ _ j _ _ h9.2; have H9:=hdd h9.1; simp at e9; clear ho9 h9)
   (try go_simp)
   refine hK.out _ _ ?hs15 ?rest15
   case hs15=>(go_split_ands; exact ⟨(hg9.cell_far _ (by simp; omega) (fun e=>(HNE.out _ e.symm).1 rfl)).trans (by assumption),(hg9.cell_far _ (by simp; omega) (fun e=>(HNE.out _ e.symm).2 rfl)).trans (by assumption),(hg9.cell_far _ (by simp; omega) (fun e=>(HNE.out _ e.symm).2 rfl)).trans (by assumption),(hg9.cell_far _ (by simp; omega) (fun e=>(HNE.out _ e.symm).2 rfl)).trans (by assumption)⟩)
   clear hK K hHeld;intro hHeld
   (try dsimp only at hHeld)
   ((try simp only[Act.put]); (try simp only[List.setIfInBounds_toArray]); (try simp only[List.set_cons_succ]); (try simp only[List.set_cons_zero]))
   refine AnyZ.take (i:=16) (v:=?vv16) rfl (by kernel_rfl) (by kernel_rfl) (by kernel_rfl) (by kernel_rfl) (fun _ _ _ h=>h) (Or.inl ⟨by rfl,?hy16⟩) (by assumption) ?rest16
   case hy16=>(intro w9 hSw; (try dsimp only at hSw); go_split_ands; go_simp; all_goals with_reducible rfl)
   ((try simp only[Act.put]); (try simp only[List.setIfInBounds_toArray]); (try simp only[List.set_cons_succ]); (try simp only[List.set_cons_zero]))
   refine AnyZ.last (by kernel_rfl) rfl (by kernel_rfl) (fun K hK=>?_);go_simp;refine hK.out _ _ ?_;clear hK K hHeld;obtain ⟨wz,hwz⟩:∃ z,z=w9.setCell ⟨w3.heap.size,2,none⟩ (.slice a9 (gs.length+1) c9):=⟨_,rfl⟩
   rw[←hwz] at H9 ⊢;have hWZ:=H9.out;obtain ⟨f0,f1,f2,fx,hDlt3,hXlt3,hRlt3⟩:=hWZ.facts;have HWZ:=hdd hWZ;have hle:(gs++[(⟨xs,r,n⟩:Gs)]).length=gs.length+1:=by simp
   have hOZ:=hWZ.2.2.2.1;rw[←hle,List.take_length] at hOZ;have h64:=HGL.out.i64.snoc (x:=⟨xs,r,n⟩) HU.out.2;have hDK:=deskOkS_any p c _ _ wz (hOZ.toGL h64);rw[hle] at hDK;have HOZ:=hdd hOZ;have HLE:=hdd hle;unfold dkV at hDK;obtain ⟨t,ht⟩:∃ t,t=deskB p c (gs++[⟨xs,r,n⟩]):=⟨_,rfl⟩
   rw[←ht] at hDK HDY HDN;clear hwz hWZ fx hle hOZ h64 ht e9 k9 q0 q1 q2 q3;go_wp2_with fail;refine hDK.mono ?_;rintro e w10 ⟨rfl,hb10⟩;have hW10:=HWZ.out.below hb10;have HW10:=hdd hW10;have HO10:=hdd (HOZ.out.below hb10);clear hDK hb10 f0 f1 f2;obtain ⟨f0,f1,f2,fx,hDlt4,hXlt4,hRlt4⟩:=hW10.facts
   cases t
   ·have HR:=hdd (HDN.out rfl)
    have x0:=fx 0;have x1:=fx 1;have x2:=fx 2;simp only[List.getElem?_toArray,List.getElem?_cons_zero,List.getElem?_cons_succ] at x0 x1 x2;have hT:=hEND.out w10 hW10.2.2.2.2.2.1;clear fx hW10 f0 f1 f2;go_wp2_with fail;refine hT.mono ?_;rintro e w4 ⟨a4,c4,rfl,ho4,hb4⟩;unfold dkV;have hR4:=(HW10.out.below hb4).1;have hbw:=(HW10.out.below hb4).2.2.2.2.2.1;obtain ⟨q6,q7⟩:=ho4.caps;obtain ⟨r0,r1,r2,rf⟩:=zero_cells hR4;have HF:=hdd (do_ret (w:=w) (p:=p) (c:=c) false hR4 (by omega) (ho4.mono HW10.out.2.2.2.2.2.1.size) hbw q6 q7);clear hT ho4 hb4 hR4 hbw x0 x1 x2;go_wp2
    ((try simp only[Exit.inBlock,Exit.then]); refine bodyPost_ret (results_cell_tmp rfl _ _ (w.heap.size+1+1) _ _ (0,0) _ rfl HF.out.2 Tryz.underlying30 rfl (by kernel_rfl)) rfl ?_)
    refine HY.out _ _ (by trivial) ?_;rw[HR.out];exact HF.out.1
   ·have HR:=hdd (HDY.out rfl)
    have hR4:=hW10.1;have hbw:=hW10.2.2.2.2.2.1;obtain ⟨q6,q7⟩:=HO10.out.caps;obtain ⟨r0,r1,r2,rf⟩:=zero_cells hR4;have HF:=do_ret (w:=w) (p:=p) (c:=c) true hR4 (by omega) HO10.out hbw q6 q7;rw[HLE.out] at HF;have HF:=hdd HF;clear fx hW10 hR4 hbw;go_wp2
    ((try simp only[Exit.inBlock,Exit.then]); refine bodyPost_ret (results_cell_tmp rfl _ _ (w.heap.size+1+1) _ _ (0,0) _ rfl HF.out.2 Tryz.underlying30 rfl (by kernel_rfl)) rfl ?_)
    refine HY.out _ _ (by trivial) ?_;rw[HR.out];exact HF.out.1
  ·clear d0
   have hgd:=cell_of_row _ _ 0 _ _ (0,0) HD1.out;rw[hwq] at hgd;simp only[List.getElem?_toArray,List.getElem?_cons_zero] at hgd
   by_cases hxs:xs=[]
   ·subst hxs
    rw[List.length_nil] at d1 ⊢
    by_cases hr:r=0
    ·subst hr
     by_cases hn:n=0
     ·subst hn
      have hnb:nothingB [] 0 0=true:=decide_eq_true ⟨rfl,rfl,rfl⟩
      rcases Nat.eq_zero_or_pos gs.length with hz | hz
      ·have HR:=hdd (done_none (p:=p) (c:=c) (gs:=gs) (xs:=[]) (r:=0) (n:=0) hz)
       have h4:((gs.length:Int)==0)=true:=by rw[hz]; rfl
       clear hz hnb;have HF:=hdd (do_ret2 (w:=w) (p:=p) (c:=c) false (.cells #[.int .i64 p,.int .i64 c,.slice a3 gs.length c3] 30) HG3.out (by omega) HO3.out HB3.out HOW.out.caps.1 HOW.out.caps.2);go_wp2
       ((try simp only[Exit.inBlock,Exit.then]); refine bodyPost_ret (results_cell_tmp rfl _ _ (w.heap.size+1+1) _ _ (0,0) _ rfl HF.out.2 Tryz.underlying30 rfl (by kernel_rfl)) rfl ?_)
       refine HY.out _ _ (by trivial) ?_;rw[HR.out];exact HF.out.1
      ·have HR:=hdd (done_back (p:=p) (c:=c) (gs:=gs) (xs:=[]) (r:=0) (n:=0) hnb hz)
       have h4:((gs.length:Int)==0)=false:=by rw[beq_eq_false_iff_ne]; omega
       obtain ⟨g2,cp2,e9,_,_,_,_,_,_⟩:=HOW.out.opened hz;injection e9 with e9 e9b e9c;subst e9;clear e9b e9c;obtain ⟨q6,q7⟩:=HOW.out.caps;have hz':0<(gs.length:Int):=by omega
       have hz1:(0:Int)≤(gs.length:Int)-1:=by omega
       have hz2:(1:Int)≤(gs.length:Int):=by omega
       have hz3:(gs.length:Int)-1≤(c3:Int):=by omega
       have hle:(gs.take (gs.length-1)).length=gs.length-1:=by rw[List.length_take]; omega
       have hOx:=HO3.out.take (gs.length-1) (by omega);have HF:=do_ret2 (w:=w) (p:=p) (c:=c) (gs:=gs.take (gs.length-1)) (a4:=some ⟨g2,0,none⟩) (c4:=c3) (cap2:=c3) true (.cells #[.int .i64 p,.int .i64 c,.slice (some ⟨g2,0,none⟩) (gs.length-1) c3] 30) HG3.out (by omega) (by rw[hle]; exact hOx) HB3.out (by omega) (by omega);rw[hle] at HF;have HF:=hdd HF;clear hnb hle hOx;go_wp2
       ((try simp only[Exit.inBlock,Exit.then]); refine bodyPost_ret (results_cell_tmp rfl _ _ (w.heap.size+1+1) _ _ (0,0) _ rfl HF.out.2 Tryz.underlying30 rfl (by kernel_rfl)) rfl ?_)
       refine HY.out _ _ (by trivial) ?_;rw[HR.out];exact HF.out.1
     ·have h3:(n != 0)=true:=by simpa using hn
      have HR:=hdd (done_bad (p:=p) (c:=c) (gs:=gs) (xs:=[]) (r:=0) (n:=n) (decide_eq_false (fun q=>hn q.2.2)));clear hn;have HF:=hdd (do_ret2 (w:=w) (p:=p) (c:=c) false (.cells #[.int .i64 p,.int .i64 c,.slice a3 gs.length c3] 30) HG3.out (by omega) HO3.out HB3.out HOW.out.caps.1 HOW.out.caps.2);go_wp2
      ((try simp only[Exit.inBlock,Exit.then]); refine bodyPost_ret (results_cell_tmp rfl _ _ (w.heap.size+1+1) _ _ (0,0) _ rfl HF.out.2 Tryz.underlying30 rfl (by kernel_rfl)) rfl ?_)
      refine HY.out _ _ (by trivial) ?_;rw[HR.out];exact HF.out.1
    ·have h2:(r != 0)=true:=by simpa using hr
     have HR:=hdd (done_bad (p:=p) (c:=c) (gs:=gs) (xs:=[]) (r:=r) (n:=n) (decide_eq_false (fun q=>hr q.2.1)));clear hr;have HF:=hdd (do_ret2 (w:=w) (p:=p) (c:=c) false (.cells #[.int .i64 p,.int .i64 c,.slice a3 gs.length c3] 30) HG3.out (by omega) HO3.out HB3.out HOW.out.caps.1 HOW.out.caps.2);go_wp2
     ((try simp only[Exit.inBlock,Exit.then]); refine bodyPost_ret (results_cell_tmp rfl _ _ (w.heap.size+1+1) _ _ (0,0) _ rfl HF.out.2 Tryz.underlying30 rfl (by kernel_rfl)) rfl ?_)
     refine HY.out _ _ (by trivial) ?_;rw[HR.out];exact HF.out.1
   ·have h1:0<xs.length:=List.length_pos_iff.2 hxs
    have HR:=hdd (done_bad (p:=p) (c:=c) (gs:=gs) (xs:=xs) (r:=r) (n:=n) (decide_eq_false (fun q=>hxs q.1)));clear hxs;have HF:=hdd (do_ret2 (w:=w) (p:=p) (c:=c) false (.cells #[.int .i64 p,.int .i64 c,.slice a3 gs.length c3] 30) HG3.out (by omega) HO3.out HB3.out HOW.out.caps.1 HOW.out.caps.2);go_wp2
    ((try simp only[Exit.inBlock,Exit.then]); refine bodyPost_ret (results_cell_tmp rfl _ _ (w.heap.size+1+1) _ _ (0,0) _ rfl HF.out.2 Tryz.underlying30 rfl (by kernel_rfl)) rfl ?_)
    refine HY.out _ _ (by trivial) ?_;rw[HR.out];exact HF.out.1
end
section
open Go.RowKit
def At (w:World) (g:Nat) (o:Obj):Prop:=w.heap[g]?=some o
theorem At.new (w:World) (o:Obj):At (w.alloc o) w.heap.size o:=heap_alloc_new w o
theorem At.lt {w:World} {g:Nat} {o:Obj} (h:At w g o):g<w.heap.size:=(Array.getElem?_eq_some_iff.1 h).1
theorem At.below {w w':World} {g:Nat} {o:Obj} (h:At w g o) (hb:Below w.heap.size w w'):At w' g o:=(hb.block g h.lt).trans h
theorem At.three {w:World} {g:Nat} {a b c:Value} {t:TypeId} (h:At w g (.cells #[a,b,c] t)):w.cell? ⟨g,0,none⟩=some a∧w.cell? ⟨g,1,none⟩=some b∧w.cell? ⟨g,2,none⟩=some c:=by
 refine ⟨?_,?_,?_⟩ <;> rw[cell_of_row _ _ _ _ _ _ h] <;> simp
theorem At.four {w:World} {g:Nat} {a b c d:Value} {t:TypeId} (h:At w g (.cells #[a,b,c,d] t)):w.cell? ⟨g,0,none⟩=some a∧w.cell? ⟨g,1,none⟩=some b∧w.cell? ⟨g,2,none⟩=some c∧w.cell? ⟨g,3,none⟩=some d:=by
 refine ⟨?_,?_,?_,?_⟩ <;> rw[cell_of_row _ _ _ _ _ _ h] <;> simp
theorem At.thaw {w:World} {g:Nat} {cs:Array Value} {t:TypeId} (h:At w g (.cells cs t)):∀ j,w.frozen? ⟨g,j,none⟩=false:=fun j=>frozen_of_row _ _ j _ _ h
def Made (w:World) (p c:Int) (gs:List Gs) (s6:Value) (wx:World):Prop:=
 ∃ g a cap,s6=.pointer (some ⟨g,0,none⟩)∧Below w.heap.size w wx∧w.heap.size≤g∧At wx g (.cells #[.int .i64 p,.int .i64 c,.slice a gs.length cap] 30)∧RG w.heap.size wx (.slice a gs.length cap) gs
theorem RG.other {B D j:Nat} {w:World} {v z:Value} {gs:List Gs} {cs:Array Value} {fr:Nat×Nat} (h:RG B w v gs) (hD:w.heap[D]?=some (.cells cs 30 fr)):RG B (w.setCell ⟨D,j,none⟩ z) v gs:=by
 obtain ⟨a,cap,cap2,h1,h2,h3,h4,h5⟩:=h;exact ⟨a,cap,cap2,h1,h2,h3,h4.other hD,h5⟩
theorem Made.late {w wC:World} {p c:Int} {gs:List Gs} {a:Option Addr} {cap:Nat} (hb:Below w.heap.size w wC) (hr:RG w.heap.size wC (.slice a gs.length cap) gs):
  Made w p c gs (.pointer (some ⟨wC.heap.size,0,none⟩)) (wC.alloc (.cells #[.int .i64 p,.int .i64 c,.slice a gs.length cap] 30)):=
 ⟨_,a,cap,rfl,hb.alloc hb.size _,hb.size,At.new _ _,hr.below ((Below.refl _ _).alloc (Nat.le_refl _) _)⟩
theorem Made.early {w wC:World} {p c:Int} {gs:List Gs} {a:Option Addr} {cap g:Nat} (hb:Below w.heap.size w wC) (hr:RG w.heap.size wC (.slice a gs.length cap) gs) (hg:w.heap.size≤g)
  (hz:At wC g (.cells #[.int .i64 0,.int .i64 0,.slice none 0 0] 30)):
  Made w p c gs (.pointer (some ⟨g,0,none⟩)) (((wC.setCell ⟨g,0,none⟩ (.int .i64 p)).setCell ⟨g,1,none⟩ (.int .i64 c)).setCell ⟨g,2,none⟩ (.slice a gs.length cap)):=by
 have q1:=heap_setCell_same _ _ 0 _ _ (.int .i64 p) hz;have q2:=heap_setCell_same _ _ 1 _ _ (.int .i64 c) q1;have q3:=heap_setCell_same _ _ 2 _ _ (.slice a gs.length cap) q2;exact ⟨g,a,cap,rfl,((hb.setCell (p:=⟨g,0,none⟩) hg _).setCell (p:=⟨g,1,none⟩) hg _).setCell (p:=⟨g,2,none⟩) hg _,hg,q3,((hr.other hz).other q1).other q2⟩
theorem below_drw (w:World):Below w.heap.size w w.drew:=(Below.refl _ w).drew
end
end Go.Proofs.YtenlngclocfnlaaGreatDoor
