/- Texts of this claim, put together: InvER, LieSure, LieFor, LieWin2, LieForS, NumS, InvN, SayD, BunR, BunU, DrawLine. -/
import Derived.Test.YtenlngclocfnlaaGreatDoorPdM
import Derived.Laws.CopyRow
import Derived.Test.YtenlngclocfnlaaGreatDoorPdH
import Derived.Test.YtenlngclocfnlaaGreatDoorPdB
import Derived.Test.YtenlngclocfnlaaGreatDoorPdK
import Derived.Test.YtenlngclocfnlaaGreatDoorPdP
import Derived.Test.YtenlngclocfnlaaGreatDoorPdL
import Derived.Test.YtenlngclocfnlaaGreatDoorPdG
import Derived.Test.YtenlngclocfnlaaGreatDoorPdA
import Derived.Deep.RegionHeld3
import Derived.Test.YtenlngclocfnlaaGreatDoorPdZD
import Derived.Test.YtenlngclocfnlaaGreatDoorPdY
import Derived.Test.YtenlngclocfnlaaGreatDoorPdGD
namespace Go.Proofs.YtenlngclocfnlaaGreatDoor
set_option linter.unusedVariables false
section
open Go Go.RowKit
section
variable {P:Program} {l:List Oper} {Q:Exit→Act→World→Prop} {a0:Act} {w0:World} {dst:Nat→Nat} {Φ:Nat→Value→World→Prop} {n:Nat}
def InvER (Rel:World→World→Prop) (l:List Oper) (a0:Act) (w0:World) (dst:Nat→Nat) (Φ:Nat→Value→World→Prop) (n:Nat) (done:Array Bool) (a:Act) (w:World):Prop:=
 done.size=l.length∧done.getD n false=false∧Rel w0 w∧∃ vs,a=invA dst n a0 done vs∧∀ k,k<n→done.getD k false=true→Φ k (vs k) w
theorem inv_anyER {Rel:World→World→Prop} (htr:∀ a b c:World,Rel a b→Rel b c→Rel a c) (hn:l.length=n+1) (hdst:∀ i (h:i<l.length),i<n→l[i].dst=some (dst i)) (hinj:∀ i,i<n→invIdx dst n (dst i)=some i) (hsz:∀ i,i<n→dst i<a0.tmps.size) (hdag:∀ i (h:i<l.length),∀ k∈invDeps l[i],k<i) (hlast:∀ (h:n<l.length),∀ k,k<n→k∈invDeps l[n])
  (hmono:∀ k v w w',Φ k v w→Rel w w'→Φ k v w')
  (hstep:∀ i (h:i<l.length),i<n→∀ (A:Act) (W:World),Rel w0 W→(∀ t,invIdx dst n t=none→A.tmps.getD t undef=a0.tmps.getD t undef)→(∀ k∈invDeps l[i],Φ k (A.tmps.getD (dst k) undef) W) →
   ∀ K:Act→World→Prop,Hid (∀ v W',Rel W W'→Φ i v W'→K (A.put (some (dst i)) v) W')→if Region.wanted l[i] (yielded l.toArray A.tmps)=true then Oper.wp P l[i] A W K Q else K (A.put l[i].dst undef) W)
  (hend:∀ (h:n<l.length),∀ vs W,Rel w0 W→(∀ k,k<n→Φ k (vs k) W)→∀ A,A=invA dst n a0 (Array.replicate n true) vs→(∀ k,k<n→A.tmps.getD (dst k) undef=vs k) →
   ∀ K:Act→World→Prop,Hid (∀ a w,Q .normal a w→K a w)→if Region.wanted l[n] (yielded l.toArray A.tmps)=true then Oper.wp P l[n] A W K Q else K (A.put l[n].dst undef) W):
  ∀ (c:Nat) (done:Array Bool) (a:Act) (w:World),InvER Rel l a0 w0 dst Φ n done a w→invLeft done=c→wpAny P .any l.toArray Q c done a w:=by
 intro c
 induction c with
 | zero=>
  intro done a w hI hz;have h1:=inv_zero hI.1 hz n (by omega);rw[hI.2.1] at h1
  cases h1
 | succ c ih=>
  intro done a w hI hc;refine ⟨fun hr=>?_,fun i hi=>?_⟩
  ·have h1:=inv_all hI.1 hdag hr n (by omega)
   rw[hI.2.1] at h1
   cases h1
  ·obtain ⟨h1,o,h2,h3⟩:=mem_ready.1 hi
   have hlt:i<l.length:=by simpa using (Array.getElem?_eq_some_iff.1 h2).1
   have ho:o=l[i]:=by simpa [hlt] using h2.symm
   subst ho;obtain ⟨hs,hnf,hB,vs,rfl,hv⟩:=hI;have hls:i<done.size:=by omega
   have hund:done.getD i false=false:=by
    simp only[Array.getD_eq_getD_getElem?,Array.getElem?_eq_getElem hls,Option.getD_some] at h1 ⊢;exact h1
   have hdep:∀ k∈invDeps l[i],done.getD k false=true:=by
    intro k hk;obtain ⟨e,he,rfl⟩:=List.mem_map.1 hk;obtain ⟨he1,he2⟩:=List.mem_filter.1 he;exact h3 e (by simpa using he1) he2
   by_cases hin:i=n
   ·subst hin
    have hall:∀ k,k<i→done.getD k false=true:=fun k hk=>hdep k (hlast hlt k hk)
    refine wpOp_step h2 fun K' hK'=>?_
    refine hend hlt vs w hB (fun k hk=>hv k hk (hall k hk)) _ (invA_same fun k hk=>by rw[hall k hk,replicate_getD _ _ hk]) (fun k hk=>invA_done (hinj k hk) (hsz k hk) (hall k hk)) K' (hdd fun a' w' hq=>hK' _ _ ?_);refine wpAny_done (by simpa using hs) (fun j hj=>?_) hq c
    by_cases e:j=i
    ·subst e; simp[hls]
    ·rw[Go.getD_set_ne false (Ne.symm e)]; exact hall j (by omega)
   ·have hin':i<n:=by omega
    refine wpOp_step h2 fun K' hK'=>?_
    refine hstep i hlt hin' _ w hB (fun t ht=>invA_other ht) (fun k hk=>?_) K' (hdd fun v W' hb hΦ=>hK' _ _ ?_)
    ·have hkl:=hdag i hlt k hk
     have hd:=hdep k hk;rw[invA_done (hinj k (by omega)) (hsz k (by omega)) hd];exact hv k (by omega) hd
    ·refine ih (done.setIfInBounds i true) _ W' ⟨by simpa using hs,by rw[Go.getD_set_ne false hin]; exact hnf,htr _ _ _ hB hb,fun k=>if k=i then v else vs k,invA_put (hinj i hin') hls hund v,fun k hk hd=>?_⟩ (by have:=invLeft_set hls hund; omega)
     by_cases e:k=i
     ·subst e
      simp only[if_true];exact hΦ
     ·rw[Go.getD_set_ne false (Ne.symm e)] at hd
      simp only[if_neg e];exact hmono k _ _ _ (hv k hk hd) hb
theorem wp_region_invER {Rel:World→World→Prop} {id:Nat} (htr:∀ a b c:World,Rel a b→Rel b c→Rel a c) (hrd:∀ w:World,Rel w w.drew) (hm:P.follows .mixedOrders=true) (dst:Nat→Nat) (n m:Nat) (Φ:Nat→Value→World→Prop) (hsz:a0.tmps.size=m) (hchk:invChkE l dst n m=true)
  (hmono:∀ k v w w',Φ k v w→Rel w w'→Φ k v w')
  (hstep:∀ i o,i<n→l[i]?=some o→∀ (A:Act) (W:World),Rel w0 W→(∀ t,invIdx dst n t=none→A.tmps.getD t undef=a0.tmps.getD t undef)→(∀ k,(invDeps o).contains k=true→Φ k (A.tmps.getD (dst k) undef) W) →
   ∀ K:Act→World→Prop,Hid (∀ v W',Rel W W'→Φ i v W'→K (A.put (some (dst i)) v) W')→if Region.wanted o (yielded l.toArray A.tmps)=true then Oper.wp P o A W K Q else K (A.put o.dst undef) W)
  (hend:∀ o,l[n]?=some o→∀ vs W,Rel w0 W→(∀ k,k<n→Φ k (vs k) W)→∀ A,A=invA dst n a0 (Array.replicate n true) vs→(∀ k,k<n→A.tmps.getD (dst k) undef=vs k) →
   ∀ K:Act→World→Prop,Hid (∀ a w,Q .normal a w→K a w)→if Region.wanted o (yielded l.toArray A.tmps)=true then Oper.wp P o A W K Q else K (A.put o.dst undef) W):(Code.region id l.toArray true).wp P Q a0 w0:=by
 refine wp_region_any hm ?_;unfold invChkE at hchk;rw[Bool.and_eq_true,Bool.and_eq_true] at hchk;obtain ⟨hc1,hc2,hc3⟩:=hchk;have hn:l.length=n+1:=by simpa using hc1
 have at':∀ i (h:i<l.length),i<n→l[i].dst=some (dst i)∧invIdx dst n (dst i)=some i∧dst i<m∧∀ k∈invDeps l[i],k<i:=by
  intro i h hi;have:=List.all_eq_true.1 hc2 i (List.mem_range.2 hi);rw[List.getElem?_eq_getElem h] at this;simp only[Bool.and_eq_true,beq_iff_eq,decide_eq_true_eq,List.all_eq_true] at this;exact this
 have hnl:n<l.length:=by omega
 rw[List.getElem?_eq_getElem hnl] at hc3;simp only[Bool.and_eq_true,decide_eq_true_eq,List.all_eq_true,List.mem_range,List.contains_iff_mem] at hc3;have hnone:∀ k,(Array.replicate l.toArray.size false).getD k false=false:=fun k=>by
  simp only[Array.getD_eq_getD_getElem?]
  rcases q:(Array.replicate l.toArray.size false)[k]? with _ | b
  ·rfl
  ·obtain ⟨_,q2⟩:=Array.getElem?_eq_some_iff.1 q
   simp at q2;simp[←q2]
 refine inv_anyER htr (w0:=w0) (a0:=a0) hn (fun i h hi=>(at' i h hi).1) (fun i hi=>(at' i (by omega) hi).2.1) (fun i hi=>by rw[hsz]; exact (at' i (by omega) hi).2.2.1) (fun i h=>?_) (fun h k hk=>hc3.2 k hk) hmono
  (fun i h hi A W hB hA hD K hK=>hstep i l[i] hi (List.getElem?_eq_getElem h) A W hB hA (fun k hk=>hD k (by simpa using hk)) K hK) (fun h=>hend l[n] (List.getElem?_eq_getElem h)) _ _ _ _ ⟨by simp,hnone n,hrd w0,fun _=>undef,?_,fun k _ hk=>?_⟩ (by simpa using invLeft_none l.length)
 ·by_cases e:i=n
  ·subst e; exact hc3.1
  ·exact (at' i h (by omega)).2.2.2
 ·unfold invA
  rw[invL_none n _ _ hnone]
 ·rw[hnone] at hk; cases hk
end
end
section
open Go.RowKit
set_option maxRecDepth 100000
def stCells (row:List Int) (z:Int):Array Value:=#[.int .i64 (row.getD 0 0),.int .i64 (row.getD 1 0),.int .i64 (row.getD 2 0),.int .i64 z]
theorem st_copied {row:List Int} (h1:1≤row.length) (h3:row.length≤3) (z:Int):
  ((#[Value.int .i64 0,.int .i64 0,.int .i64 0,.int .i64 z]:Array Value).toList.take 0++ints row++(#[Value.int .i64 0,.int .i64 0,.int .i64 0,.int .i64 z]:Array Value).toList.drop (0+(ints row).length)).toArray=stCells row z:=by
 rcases row with _ | ⟨a,_ | ⟨b,_ | ⟨c,_ | ⟨d,r⟩⟩⟩⟩
 ·simp at h1
 ·simp[stCells,ints]
 ·simp[stCells,ints]
 ·simp[stCells,ints]
 ·simp at h3
def RelS (g:Nat) (cs:Array Value) (x y:World):Prop:=x.grownBy y (some g)∧(x.heap[g]?=some (.cells cs 213 (0,0))→y.heap[g]?=some (.cells cs 213 (0,0)))
theorem RelS.refl (g:Nat) (cs:Array Value) (x:World):RelS g cs x x:=⟨World.grownBy.refl _ _,id⟩
theorem RelS.trans {g:Nat} {cs:Array Value} {a b c:World} (h:RelS g cs a b) (h':RelS g cs b c):RelS g cs a c:=⟨grownT h.1 h'.1,fun q=>h'.2 (h.2 q)⟩
theorem grown_setRow (w:World) (g:Nat) (cs:Array Value):w.grownBy (w.setRow g cs) (some g):=
 ⟨rfl,rfl,rfl,by simp[World.setRow],fun k hk hne=>setRow_other w g k cs (fun e=>hne (by rw[e]))⟩
theorem Rows_old (w:World) (o:Obj) (i:Nat) (h:i<w.heap.size):(w.alloc o).heap[i]?=w.heap[i]?:=heap_alloc_old w o h
theorem alloc4 (w:World) (A B C D:Obj):Below w.heap.size w ((((w.alloc A).alloc B).alloc C).alloc D)∧((((w.alloc A).alloc B).alloc C).alloc D).heap[w.heap.size]?=some A∧((((w.alloc A).alloc B).alloc C).alloc D).heap[w.heap.size+1]?=some B ∧
  ((((w.alloc A).alloc B).alloc C).alloc D).heap[w.heap.size+1+1]?=some C∧((((w.alloc A).alloc B).alloc C).alloc D).heap[w.heap.size+1+1+1]?=some D∧((((w.alloc A).alloc B).alloc C).alloc D).heap.size=w.heap.size+4:=by
 refine ⟨((((Below.refl _ _).alloc (Nat.le_refl _) _).alloc (by simp) _).alloc (by simp; omega) _).alloc (by simp; omega) _,?_,?_,?_,?_,by simp⟩
 ·rw[Rows_old _ _ _ (by simp; omega),Rows_old _ _ _ (by simp; omega),Rows_old _ _ _ (by simp),heap_alloc_new]
 ·rw[Rows_old _ _ _ (by simp),Rows_old _ _ _ (by simp),show w.heap.size+1=(w.alloc A).heap.size by simp,heap_alloc_new]
 ·rw[Rows_old _ _ _ (by simp),show w.heap.size+1+1=((w.alloc A).alloc B).heap.size by simp,heap_alloc_new]
 ·rw[show w.heap.size+1+1+1=(((w.alloc A).alloc B).alloc C).heap.size by simp,heap_alloc_new]
set_option maxHeartbeats 8000000 in
theorem sure_any (n bm:Nat):∀ q:Nat,q≤9→SureC n bm q:=by
 intro q
 induction q with
 | zero=>
  intro hq9 W v row hv hst hO;obtain ⟨a,cap,rfl,hcap,hmax,hcells⟩:=hv.opened;have hsm:=known_small hst.1;have hs64:sum64 row=totL row:=sum64_tot (by have:=hsm.1.2; omega) (fun y hy=>by have:=hsm.2 y hy; omega);have HTOT:=hdd (fun w (hb:Below W.heap.size W w)=>total_any _ row w (hv.below hb));rw[hs64] at HTOT;have HB:=hdd (show sureB 0 row=decide (totL row≤1) from rfl);have HO:=hdd hO;obtain ⟨T,hT⟩:∃ T,T=totL row:=⟨_,rfl⟩
  rw[←hT] at HTOT HB;clear hT hs64 hcells hv hO;have hB3:Below W.heap.size W (((W.alloc (.cells #[.map (some bm)] 201)).alloc (.cells #[.slice a row.length cap] 37)).alloc (.cells #[.int .i64 0] 3)):=
   (((Below.refl _ _).alloc (Nat.le_refl _) _).alloc (by simp) _).alloc (by simp; omega) _
  have hTot:=HTOT.out _ hB3;have HB3:=hdd hB3;clear hB3
  by_cases ht:T≤1
  ·rw[decide_eq_true ht] at HB
   go_enter Tryz.func196,Tryz.ntmps196;go_wp2_with fail;refine hTot.mono ?_;rintro e w1 ⟨rfl,rfl⟩;go_wp2;go_ret;exact ⟨by rw[HB.out]; rfl,HO.out.below HB3.out,grownR HB3.out⟩
  ·rw[decide_eq_false ht] at HB
   go_enter Tryz.func196,Tryz.ntmps196;go_wp2_with fail;refine hTot.mono ?_;rintro e w1 ⟨rfl,rfl⟩;go_wp2;go_ret;exact ⟨by rw[HB.out]; rfl,HO.out.below HB3.out,grownR HB3.out⟩
 | succ q ih=>
  intro hq9 W v row hv hst hO;obtain ⟨a,cap,rfl,hcap,hmax,hcells⟩:=hv.opened;have hsm:=known_small hst.1;have hs64:sum64 row=totL row:=sum64_tot (by have:=hsm.1.2; omega) (fun y hy=>by have:=hsm.2 y hy; omega);have HTOT:=hdd (fun w (hb:Below W.heap.size W w)=>total_any _ row w (hv.below hb));rw[hs64] at HTOT;have HB:=hdd (sureB_more q row);obtain ⟨R,hR⟩:∃ R,R=sureB (q+1) row:=⟨_,rfl⟩
  have HR:=hdd hR;rw[←hR] at HB ⊢;have HO:=hdd hO;have HV:=hdd hv;obtain ⟨T,hT⟩:∃ T,T=totL row:=⟨_,rfl⟩
  rw[←hT] at HTOT HB;clear hT hs64 hv hO hR;have hB3:Below W.heap.size W (((W.alloc (.cells #[.map (some bm)] 201)).alloc (.cells #[.slice a row.length cap] 37)).alloc (.cells #[.int .i64 ((q+1:Nat):Int)] 3)):=
   (((Below.refl _ _).alloc (Nat.le_refl _) _).alloc (by simp) _).alloc (by simp; omega) _
  have hTot:=HTOT.out _ hB3;have HB3:=hdd hB3;clear hB3
  by_cases ht:T≤1
  ·rw[decide_eq_true ht] at HB
   go_enter Tryz.func196,Tryz.ntmps196;go_wp2_with fail;refine hTot.mono ?_;rintro e w1 ⟨rfl,rfl⟩;go_wp2;go_ret;exact ⟨by rw[HB.out]; rfl,HO.out.below HB3.out,grownR HB3.out⟩
  ·rw[decide_eq_false ht,Bool.false_or] at HB
   have hq0:((((q+1:Nat):Int))==0)=false:=by rw[beq_eq_false_iff_ne]; omega
   go_enter Tryz.func196,Tryz.ntmps196;go_wp2_with fail;refine hTot.mono ?_;rintro e w1 ⟨rfl,rfl⟩;clear hTot;go_wp2;obtain ⟨b,off,rfl,_,hcb⟩:=hcells (by have:=hsm.1.1; omega);have hrl:row.length=n:=hst.2.1;have h1:1≤n:=by have:=hsm.1.1; omega
   have h3:n≤3:=by have:=hsm.1.2; omega
   rw[hrl] at hcap ⊢;obtain ⟨hb4,f0,f1,f2,f3,fz⟩:=alloc4 W (.cells #[.map (some bm)] 201) (.cells #[.slice (some ⟨b,off,none⟩) n cap] 37) (.cells #[.int .i64 ((q:Int)+1)] 3) (.cells #[.int .i64 0,.int .i64 0,.int .i64 0,.int .i64 ((q:Int)+1)] 213);obtain ⟨w4,hw4⟩:∃ w4,w4=((((W.alloc (.cells #[.map (some bm)] 201)).alloc (.cells #[.slice (some ⟨b,off,none⟩) n cap] 37)).alloc (.cells #[.int .i64 ((q:Int)+1)] 3)).alloc (.cells #[.int .i64 0,.int .i64 0,.int .i64 0,.int .i64 ((q:Int)+1)] 213)):=⟨_,rfl⟩
   rw[←hw4] at hb4 f0 f1 f2 f3 fz ⊢;obtain ⟨g,hg⟩:∃ g,g=W.heap.size+1+1+1:=⟨_,rfl⟩
   obtain ⟨p4,hp4⟩:∃ g,g=W.heap.size+1+1:=⟨_,rfl⟩
   obtain ⟨p1,hp1⟩:∃ g,g=W.heap.size+1:=⟨_,rfl⟩
   obtain ⟨p2,hp2⟩:∃ g,g=W.heap.size:=⟨_,rfl⟩
   rw[←hg] at f3 ⊢;rw[←hp4] at f2 ⊢;rw[←hp1] at f1 ⊢;rw[←hp2] at f0 ⊢;have HP:=hdd (show p2=W.heap.size∧p1=W.heap.size+1∧p4=W.heap.size+2∧g=W.heap.size+3∧w4.heap.size=W.heap.size+4 from ⟨hp2,hp1,hp4,hg,fz⟩);have HB4:=hdd hb4;have hbW:b<W.heap.size:=World.block_lt_of_cell? W _ (hcb 0 (by omega));have HBW:=hdd hbW;have HROW:=hdd (show ∀ i (h:i<row.length),w4.cell? ⟨b,off+i,none⟩=some (.int .i64 row[i]) from fun i hi=>(Above.of_below (B:=0) hb4).cell (Nat.zero_le _) (hcb i hi));have C1:=hdd (cell_of_one f1);have C2:=hdd (cell_of_one f0);have C4:=hdd (cell_of_one f2);have F3:=hdd f3;have HRL:=hdd hrl;have hund:=Tryz.underlying37;have hinfo:(Tryz.prog.info? 3).map (·.size)=some 1:=by kernel_rfl
   clear hw4 hg hp4 hp1 hp2 hb4 f0 f1 f2 fz hbW hcb HTOT HB3 hrl;refine wp_region_invR (Rel:=RelS g (stCells row ((q:Int)+1))) 3 (fun W'=>W'.heap[g]?=some (.cells #[.int .i64 0,.int .i64 0,.int .i64 0,.int .i64 ((q:Int)+1)] 213 (0,0))) (fun a b c=>RelS.trans) (fun w=>⟨⟨rfl,rfl,rfl,Nat.le_refl _,fun _ _ _=>rfl⟩,fun q=>q⟩) f3 (by kernel_rfl) (fun k=>(#[19,20,21,22]:Array Nat).getD k 0) 42
    (fun k v W'=>match k with
     | 0=>v=.pointer (some ⟨g,0,none⟩)
     | 1=>v=.slice (some ⟨g,0,none⟩) 3 3
     | 2=>v=.slice (some ⟨b,off,none⟩) n cap
     | 3=>W'.heap[g]?=some (.cells (stCells row ((q:Int)+1)) 213 (0,0))
     | _=>False) rfl (by kernel_rfl) ?mono ?step ?fin
   case mono=>
    intro k v W1 W2 h hb
    match k,h with
    | 0,h=>exact h
    | 1,h=>exact h
    | 2,h=>exact h
    | 3,h=>exact hb.2 h
   case step=>
    intro i o ho A W1 hR hG hA hD K hK
    match i,ho with
    | 0,ho=>
     obtain rfl:=Option.some.inj ho;have e0:A.tmps.getD 7 undef=.pointer (some ⟨g,0,none⟩):=(hA 7 (by kernel_rfl)).trans rfl;rw[Array.getD_eq_getD_getElem?] at e0;have HK:=hdd hK;clear hA hD hK hR hG;go_simp;exact HK.out.out _ _ (RelS.refl _ _ _) (fun _ h=>h) rfl
    | 1,ho=>
     obtain rfl:=Option.some.inj ho;have d0:A.tmps.getD 19 undef=.pointer (some ⟨g,0,none⟩):=hD 0 (by kernel_rfl);rw[Array.getD_eq_getD_getElem?] at d0;have HK:=hdd hK;clear hA hD hK hR hG;go_simp;exact HK.out.out _ _ (RelS.refl _ _ _) (fun _ h=>h) rfl
    | 2,ho=>
     obtain rfl:=Option.some.inj ho;have e0:A.tmps.getD 4 undef=.pointer (some ⟨p1,0,none⟩):=(hA 4 (by kernel_rfl)).trans rfl;rw[Array.getD_eq_getD_getElem?] at e0;have hcell:W1.cell? ⟨p1,0,none⟩=some (.slice (some ⟨b,off,none⟩) n cap):=by
      rw[World.cell?_of_block (w:=w4) (hR.1.block p1 (by have:=HP.out; omega) (fun e=>by have:=HP.out; injection e; omega))]; exact C1.out
     have HK:=hdd hK;clear hA hD hK hR hG;go_simp;exact HK.out.out _ _ (RelS.refl _ _ _) (fun _ h=>h) rfl
    | 3,ho=>
     obtain rfl:=Option.some.inj ho;have d1:A.tmps.getD 20 undef=.slice (some ⟨g,0,none⟩) 3 3:=hD 1 (by kernel_rfl);have d2:A.tmps.getD 21 undef=.slice (some ⟨b,off,none⟩) n cap:=hD 2 (by kernel_rfl);rw[Array.getD_eq_getD_getElem?] at d1 d2;have hg1:=hG rfl;have hrun:=run_copy_row (P:=Tryz.prog) W1 37 37 3 3 g 0 3 3 ⟨b,off,none⟩ n cap #[.int .i64 0,.int .i64 0,.int .i64 0,.int .i64 ((q:Int)+1)] 213 (ints row) hund hinfo hg1 (by rw[ints_length,HRL.out]; exact (Nat.min_eq_left h3).symm) (by
      intro j v hj;have hlt:j<row.length:=by
       have:=(List.getElem?_eq_some_iff.1 hj).1
       simpa using this
      have e:(ints row)[j]?=some (.int .i64 row[j]):=by rw[List.getElem?_eq_getElem (by simpa using hlt)]; simp
      rw[e] at hj;obtain rfl:=Option.some.inj hj;have hc:=HROW.out j hlt;have hlt4:=World.block_lt_of_cell? w4 _ hc;rw[show ((⟨b,off,none⟩:Addr).add j)=⟨b,off+j,none⟩ by simp[Addr.add]];rw[World.cell?_of_block (w:=w4) (hR.1.block b hlt4 (fun e=>by have:=HP.out; have:=HBW.out; injection e; omega))]; exact hc) (by simp[HRL.out]; omega) (by intro v hv; obtain ⟨y,_,rfl⟩:=List.mem_map.1 hv; simp[Value.oneCell'])
     rw[st_copied (by rw[HRL.out]; exact h1) (by rw[HRL.out]; exact h3)] at hrun;have HF:=hdd (setRow_heap W1 g _ (stCells row ((q:Int)+1)) _ _ hg1);have HK:=hdd hK;clear hA hD hK hR hG hg1;go_simp;exact HK.out.out _ _ ⟨grown_setRow _ _ _,fun _=>HF.out⟩ (fun h=>absurd rfl h) HF.out
    | n+4,ho=>simp at ho
   case fin=>
    intro vs w5 hR h;have h35:=h 3 (by simp);rw[invA_lit [none,none,none,none,none,none,none,none,none,none,none,none,none,none,none,none,none,none,none,some 0,some 1,some 2,some 3,none,none,none,none,none,none,none,none,none,none,none,none,none,none,none,none,none,none,none] (by kernel_rfl) rfl];simp only[List.zipWith_cons_cons,List.zipWith_nil_left];obtain ⟨v19,hv⟩:∃ v,v=vs 0:=⟨_,rfl⟩
    rw[←hv]; clear hv;obtain ⟨v20,hv⟩:∃ v,v=vs 1:=⟨_,rfl⟩
    rw[←hv]; clear hv;obtain ⟨v21,hv⟩:∃ v,v=vs 2:=⟨_,rfl⟩
    rw[←hv]; clear hv;obtain ⟨v22,hv⟩:∃ v,v=vs 3:=⟨_,rfl⟩
    rw[←hv]; clear hv h;have H35:=hdd h35;have hg5:=hR.1;have HG5:=hdd hg5;have c1:w5.cell? ⟨p1,0,none⟩=some (.slice (some ⟨b,off,none⟩) n cap):=by
     rw[World.cell?_of_block (w:=w4) (hg5.block p1 (by have:=HP.out; omega) (fun e=>by have:=HP.out; injection e; omega))]; exact C1.out
    have c2:w5.cell? ⟨p2,0,none⟩=some (.map (some bm)):=by
     rw[World.cell?_of_block (w:=w4) (hg5.block p2 (by have:=HP.out; omega) (fun e=>by have:=HP.out; injection e; omega))]; exact C2.out
    have c4:w5.cell? ⟨p4,0,none⟩=some (.int .i64 ((q:Int)+1)):=by
     rw[World.cell?_of_block (w:=w4) (hg5.block p4 (by have:=HP.out; omega) (fun e=>by have:=HP.out; injection e; omega))]; exact C4.out
    have k0:=cell_of_row w5 g 0 _ _ (0,0) h35;have k1:=cell_of_row w5 g 1 _ _ (0,0) h35;have k2:=cell_of_row w5 g 2 _ _ (0,0) h35;have k3:=cell_of_row w5 g 3 _ _ (0,0) h35;have hB5:Below W.heap.size W w5:=HB4.out.grown hg5 (by have:=HP.out; omega) (fun k hk=>by have:=HP.out; injection hk; omega);have HB5:=hdd hB5;have hO5:Ora n bm w5:=HO.out.below hB5;have HO5:=hdd hO5;obtain ⟨x,bk,hrun,hbk⟩:=hO5.look hst;have HS:=hdd hst;rw[←HR.out] at hbk;unfold stV stV4 at hrun;rw[show ((q+1:Nat):Int)=(q:Int)+1 by omega] at hrun;simp only[stCells,List.getElem?_toArray,List.getElem?_cons_succ,List.getElem?_cons_zero] at k0 k1 k2 k3;obtain ⟨r0,hr0⟩:∃ r,r=row.getD 0 0:=⟨_,rfl⟩
    obtain ⟨r1,hr1⟩:∃ r,r=row.getD 1 0:=⟨_,rfl⟩
    obtain ⟨r2,hr2⟩:∃ r,r=row.getD 2 0:=⟨_,rfl⟩
    rw[←hr0] at k0 hrun;rw[←hr1] at k1 hrun;rw[←hr2] at k2 hrun;have HR0:=hdd (show r0=row.getD 0 0∧r1=row.getD 1 0∧r2=row.getD 2 0 from ⟨hr0,hr1,hr2⟩);have HBK:=hdd hbk;clear hr0 hr1 hr2 hR h35 hg5 hB5 hO5 hst hbk
    cases bk
    ·clear HBK
     go_wp2_with (at_make; refine wpList_make_ints _ rfl _ _ rfl _ _ n rfl rfl rfl rfl (by omega) ?_; intro w6 hr6 hb6 hs6);obtain ⟨gq,hgq⟩:∃ g,g=w5.heap.size:=⟨_,rfl⟩
     rw[←hgq] at hr6 hb6 ⊢;have hlt5:p1<w5.heap.size∧p2<w5.heap.size∧p4<w5.heap.size∧g<w5.heap.size∧b<w5.heap.size∧bm<w5.heap.size:=by
      have h5:=HG5.out.size;have:=HP.out;have:=HBW.out;have:=HO.out.lt;omega
     obtain ⟨w7,hw7⟩:∃ w7,w7=(w6.alloc (.cells #[.slice (some ⟨gq,0,none⟩) n n] 37)).alloc (.cells #[.func (.func 218) #[] #[.pointer (some ⟨p1,0,none⟩),.pointer (some ⟨p2,0,none⟩),.pointer (some ⟨w6.heap.size,0,none⟩),.pointer (some ⟨p4,0,none⟩),.pointer (some ⟨w6.heap.size+1,0,none⟩)]] 76):=⟨_,rfl⟩
     have hb6':Below w5.heap.size w5 w6:=by rw[←hgq]; exact hb6
     have hb7:Below w6.heap.size w6 w7:=by rw[hw7]; exact ((Below.refl _ _).alloc (Nat.le_refl _) _).alloc (by simp) _
     have f3':w7.heap[w6.heap.size]?=some (.cells #[.slice (some ⟨gq,0,none⟩) n n] 37 (0,0)):=by rw[hw7]; exact heap_alloc2_old _ _ _
     have f5':w7.heap[w6.heap.size+1]?=some (.cells #[.func (.func 218) #[] #[.pointer (some ⟨p1,0,none⟩),.pointer (some ⟨p2,0,none⟩),.pointer (some ⟨w6.heap.size,0,none⟩),.pointer (some ⟨p4,0,none⟩),.pointer (some ⟨w6.heap.size+1,0,none⟩)]] 76 (0,0)):=by rw[hw7]; exact heap_alloc2_new _ _ _
     have HW7:=hdd hw7;have hb57:Below w5.heap.size w5 w7:=hb6'.trans (hb7.mono hb6'.size);have hx:=fun (p:Addr) (u:Value) (hc:w5.cell? p=some u)=>(Above.of_below (B:=0) hb57).cell (Nat.zero_le _) hc
     have hs6z:=hb6'.size;have HLT:=hdd (show (p1≠gq∧p2≠gq∧w6.heap.size≠gq∧p4≠gq∧w6.heap.size+1≠gq∧b≠gq)∧bm≠gq∧W.heap.size≤gq∧g≠gq from by
      have h1:=World.ownsRow.lt hr6 gq rfl;have h5:=HG5.out.size;have:=HP.out;omega)
     have HA7:=hdd (show AskW bm gq n q b off cap p1 p2 w6.heap.size p4 (w6.heap.size+1) row w7 from ⟨hx _ _ c1,hx _ _ c2,cell_of_one f3',hx _ _ c4,cell_of_one f5',fun i hi=>hx _ _ (by
      have hc:=HROW.out i hi;have hlt4:=World.block_lt_of_cell? w4 _ hc;rw[World.cell?_of_block (w:=w4) (HG5.out.block b hlt4 (fun e=>by have:=HP.out; have:=HBW.out; injection e; omega))]; exact hc)⟩)
     have HQ7:=hdd (show OwnI 0 w7 (.slice (some ⟨gq,0,none⟩) n n) (List.replicate n 0) from (hr6.below hb7).mono (Nat.zero_le _));have HO7:=hdd (show Ora n bm w7 from HO5.out.below hb57);have HK7:=hdd (show w7.heap[g]?=some (.cells (stCells row ((q:Int)+1)) 213 (0,0)) from (hb57.block g hlt5.2.2.2.1).trans H35.out);have HB7:=hdd (show Below W.heap.size W w7 from HB5.out.trans (hb57.mono HB5.out.size));have hz7:bm<w7.heap.size∧gq<w7.heap.size:=by
      have h1:=World.ownsRow.lt hr6 gq rfl;have h2:=hb57.size;have h3:=hb7.size;omega
     have HZ7:=hdd hz7;clear c1 c2 c4 k0 k1 k2 k3 hrun hr6 hb6 hs6 hgq hlt5 hb6' hb7 f3' f5' hb57 hx hs6z hz7 hw7;have hAsk:=hdd (fun W' (hA:AskW bm gq n q b off cap p1 p2 w6.heap.size p4 (w6.heap.size+1) row W') x ho hxl (hO':Ora n bm W')=>ask_any (ih (by omega)) HS.out.1 HS.out.2.1 hcap hmax (by omega) ⟨HLT.out.1,HLT.out.2.1⟩ n 0 (by omega) W' x hA ho hxl (fun j h1 h2 h3=>by omega) hO');go_wp2;rw[←HW7.out];obtain ⟨p3,hp3⟩:∃ p,p=w6.heap.size:=⟨_,rfl⟩
     obtain ⟨p5,hp5⟩:∃ p,p=w6.heap.size+1:=⟨_,rfl⟩
     rw[←hp5,←hp3] at HLT HA7 hAsk ⊢;clear HW7 hp3 hp5;refine wp_region_invER (Rel:=fun x y=>Grow2 bm gq x y∧((AskW bm gq n q b off cap p1 p2 p3 p4 p5 row x∧(∃ z,OwnI 0 x (.slice (some ⟨gq,0,none⟩) n n) z∧z.length=n)∧Ora n bm x)→(AskW bm gq n q b off cap p1 p2 p3 p4 p5 row y∧(∃ z,OwnI 0 y (.slice (some ⟨gq,0,none⟩) n n) z∧z.length=n)∧Ora n bm y)))
      (fun a b c h1 h2=>⟨h1.1.trans h2.1,fun q=>h2.2 (h1.2 q)⟩) (fun w=>⟨⟨rfl,rfl,rfl,Nat.le_refl _,fun _ _ _ _=>rfl⟩,fun q=>⟨⟨q.1.c1,q.1.c2,q.1.c3,q.1.c4,q.1.c5,q.1.row⟩,(by obtain ⟨z,h1,h2⟩:=q.2.1; exact ⟨z,h1,h2⟩),(by obtain ⟨D,h1,h2⟩:=q.2.2; exact ⟨D,h1,h2⟩)⟩⟩) (by kernel_rfl) (fun k=>(#[35,36,37,38]:Array Nat).getD k 0) 4 42
      (fun k v W'=>match k with
       | 0=>v=.map (some bm)
       | 1=>v=.agg #[.int .i64 r0,.int .i64 r1,.int .i64 r2,.int .i64 ((q:Int)+1)]
       | 2=>v=.func (.func 218) #[] #[.pointer (some ⟨p1,0,none⟩),.pointer (some ⟨p2,0,none⟩),.pointer (some ⟨p3,0,none⟩),.pointer (some ⟨p4,0,none⟩),.pointer (some ⟨p5,0,none⟩)]
       | 3=>v=.bool R
       | _=>False) rfl (by kernel_rfl) ?mono ?step ?fin
     case mono=>
      intro k v W1 W2 h hb
      match k,h with
      | 0,h=>exact h
      | 1,h=>exact h
      | 2,h=>exact h
      | 3,h=>exact h
     case step=>
      intro i o hi ho A W1 hR hA hD K hK;obtain ⟨hGr,hSt⟩:=hR;obtain ⟨sA,⟨z,sQ,sl⟩,sO⟩:=hSt ⟨HA7.out,⟨_,HQ7.out,by simp⟩,HO7.out⟩
      match i,ho with
      | 0,ho=>
       obtain rfl:=Option.some.inj ho;have e0:A.tmps.getD 3 undef=.pointer (some ⟨p2,0,none⟩):=(hA 3 (by kernel_rfl)).trans rfl;rw[Array.getD_eq_getD_getElem?] at e0;have hcell:=sA.c2;have HK:=hdd hK;clear hA hD hK hGr hSt sA sQ sl sO;go_simp;exact HK.out.out _ _ ⟨Grow2.refl _ _ _,fun q=>q⟩ rfl
      | 1,ho=>
       obtain rfl:=Option.some.inj ho;have e0:A.tmps.getD 7 undef=.pointer (some ⟨g,0,none⟩):=(hA 7 (by kernel_rfl)).trans rfl;rw[Array.getD_eq_getD_getElem?] at e0;have hgg:W1.heap[g]?=some (.cells (stCells row ((q:Int)+1)) 213 (0,0)):=(hGr.block g (Array.getElem?_eq_some_iff.1 HK7.out).1 (fun e=>by have:=HP.out; have:=HO.out.lt; omega) HLT.out.2.2.2).trans HK7.out;have k0:=cell_of_row W1 g 0 _ _ (0,0) hgg;have k1:=cell_of_row W1 g 1 _ _ (0,0) hgg;have k2:=cell_of_row W1 g 2 _ _ (0,0) hgg;have k3:=cell_of_row W1 g 3 _ _ (0,0) hgg;simp only[stCells,List.getElem?_toArray,List.getElem?_cons_succ,List.getElem?_cons_zero] at k0 k1 k2 k3;rw[←HR0.out.1] at k0;rw[←HR0.out.2.1] at k1;rw[←HR0.out.2.2] at k2;have HK:=hdd hK;clear hA hD hK hGr hSt sA sQ sl sO hgg;go_simp;exact HK.out.out _ _ ⟨Grow2.refl _ _ _,fun q=>q⟩ rfl
      | 2,ho=>
       obtain rfl:=Option.some.inj ho;have e0:A.tmps.getD 11 undef=.pointer (some ⟨p5,0,none⟩):=(hA 11 (by kernel_rfl)).trans rfl;rw[Array.getD_eq_getD_getElem?] at e0;have hcell:=sA.c5;have HK:=hdd hK;clear hA hD hK hGr hSt sA sQ sl sO;go_simp;exact HK.out.out _ _ ⟨Grow2.refl _ _ _,fun q=>q⟩ rfl
      | 3,ho=>
       obtain rfl:=Option.some.inj ho;have d2:A.tmps.getD 37 undef=.func (.func 218) #[] #[.pointer (some ⟨p1,0,none⟩),.pointer (some ⟨p2,0,none⟩),.pointer (some ⟨p3,0,none⟩),.pointer (some ⟨p4,0,none⟩),.pointer (some ⟨p5,0,none⟩)]:=hD 2 (by kernel_rfl);rw[Array.getD_eq_getD_getElem?] at d2;have hT:=hAsk.out W1 sA z sQ sl sO;rw[List.take_zero,List.drop_zero,←HB.out] at hT;have HT:=hdd hT;have HK:=hdd hK;clear hA hD hK hGr hSt sA sQ sl sO hT;go_simp;refine HT.out.mono ?_;rintro e W2 ⟨rfl,x',h1,h2,h3,_,h5,h6⟩;exact HK.out.out _ _ ⟨h6,fun _=>⟨h1,⟨x',h2,h3⟩,h5⟩⟩ rfl
      | n+4,ho=>exact absurd hi (by omega)
     case fin=>
      intro o ho vs W1 hR h A hAe hV K hK;obtain rfl:=Option.some.inj ho;obtain ⟨hGr,hSt⟩:=hR;obtain ⟨sA,⟨z,sQ,sl⟩,sO⟩:=hSt ⟨HA7.out,⟨_,HQ7.out,by simp⟩,HO7.out⟩;have d0:A.tmps.getD 35 undef=.map (some bm):=(hV 0 (by decide)).trans (h 0 (by decide));have d1:A.tmps.getD 36 undef=.agg #[.int .i64 r0,.int .i64 r1,.int .i64 r2,.int .i64 ((q:Int)+1)]:=(hV 1 (by decide)).trans (h 1 (by decide));have d3:A.tmps.getD 38 undef=.bool R:=(hV 3 (by decide)).trans (h 3 (by decide));rw[Array.getD_eq_getD_getElem?] at d0 d1 d3;obtain ⟨w9,hrun9,hO9,hg9,hlook9⟩:=sO.store HS.out;rw[←HR.out] at hrun9 hlook9;unfold stV stV4 at hrun9 hlook9;rw[show ((q+1:Nat):Int)=(q:Int)+1 by omega,←HR0.out.1,←HR0.out.2.1,←HR0.out.2.2] at hrun9 hlook9;have hgg:W1.heap[g]?=some (.cells (stCells row ((q:Int)+1)) 213 (0,0)):=(hGr.block g (Array.getElem?_eq_some_iff.1 HK7.out).1 (fun e=>by have:=HP.out; have:=HO.out.lt; omega) HLT.out.2.2.2).trans HK7.out;have hgg:w9.heap[g]?=some (.cells (stCells row ((q:Int)+1)) 213 (0,0)):=(hg9.block g (Array.getElem?_eq_some_iff.1 hgg).1 (fun e=>by have:=HP.out; have:=HO.out.lt; injection e; omega)).trans hgg;have k0:=cell_of_row w9 g 0 _ _ (0,0) hgg;have k1:=cell_of_row w9 g 1 _ _ (0,0) hgg;have k2:=cell_of_row w9 g 2 _ _ (0,0) hgg;have k3:=cell_of_row w9 g 3 _ _ (0,0) hgg;simp only[stCells,List.getElem?_toArray,List.getElem?_cons_succ,List.getElem?_cons_zero] at k0 k1 k2 k3;rw[←HR0.out.1] at k0;rw[←HR0.out.2.1] at k1;rw[←HR0.out.2.2] at k2;have c2:=sO.cell hg9 sA.c2;have HFin:=hdd (show Ora n bm w9∧W.grownBy w9 (some bm) from ⟨hO9,by
       have e1:=HB7.out;have e2:=HLT.out.2.2.1;exact ⟨hg9.os.trans (hGr.os.trans e1.os),hg9.tape.trans (hGr.tape.trans e1.tape),hg9.output.trans (hGr.output.trans e1.output),Nat.le_trans e1.size (Nat.le_trans hGr.size hg9.size),fun k hk hne=>by
        have hk7:=e1.size;have hk1:=hGr.size;rw[hg9.block k (by omega) hne,hGr.block k (by omega) (fun e=>hne (by rw[e])) (fun e=>by omega),e1.block k hk]⟩⟩)
      have HK:=hdd hK;have HAE:=hdd hAe;obtain ⟨v35,hv35⟩:∃ v,v=vs 0:=⟨_,rfl⟩
      obtain ⟨v36,hv36⟩:∃ v,v=vs 1:=⟨_,rfl⟩
      obtain ⟨v37,hv37⟩:∃ v,v=vs 2:=⟨_,rfl⟩
      obtain ⟨v38,hv38⟩:∃ v,v=vs 3:=⟨_,rfl⟩
      have HVS:=hdd (show vs 0=v35∧vs 1=v36∧vs 2=v37∧vs 3=v38 from ⟨hv35.symm,hv36.symm,hv37.symm,hv38.symm⟩);clear h hV hAe hK hGr hSt sA sQ sl sO hO9 hg9 hgg hv35 hv36 hv37 hv38;go_simp;refine HK.out.out _ _ ?_;rw[HAE.out,invA_lit [none,none,none,none,none,none,none,none,none,none,none,none,none,none,none,none,none,none,none,none,none,none,none,none,none,none,none,none,none,none,none,none,none,none,none,some 0,some 1,some 2,some 3,none,none,none] (by kernel_rfl) rfl];simp only[List.zipWith_cons_cons,List.zipWith_nil_left];rw[HVS.out.1,HVS.out.2.1,HVS.out.2.2.1,HVS.out.2.2.2];go_wp2;go_ret;exact ⟨rfl,HFin.out⟩
    ·have HX:=hdd (HBK.out rfl)
     go_wp2;go_ret;exact ⟨by rw[HX.out]; rfl,HO5.out,grownR HB5.out⟩
theorem sureF_any {n bm p1 p2 q:Nat} {row:List Int} {v:Value} (w:World) (hst:StOk n row q) (hv:Ints 0 w v row) (c1:w.cell? ⟨p1,0,none⟩=some (.map (some bm))) (c2:w.cell? ⟨p2,0,none⟩=some v) (hO:Ora n bm w):
  Calls Tryz.prog 195 #[.int .i64 (q:Nat),.pointer (some ⟨p1,0,none⟩),.pointer (some ⟨p2,0,none⟩)] w fun e w'=>e=.returned (.bool (sureB q row))∧Ora n bm w'∧w.grownBy w' (some bm):=by
 have hT:=sure_any n bm q hst.2.2 w v row hv hst hO;have HT:=hdd hT;obtain ⟨r,hr⟩:∃ r,r=sureB q row:=⟨_,rfl⟩
 rw[←hr] at HT ⊢;clear hT hst hO hv hr;go_enter Tryz.func195,Tryz.ntmps195;go_wp2_with fail;refine HT.out.mono ?_;rintro e w1 ⟨rfl,h1,h2⟩;have H1:=hdd h1;have H2:=hdd h2;clear h1 h2;go_wp2;go_ret;exact ⟨rfl,H1.out,H2.out⟩
theorem fewA_step (row:List Int) (m k:Nat):fewA row (m+1) k=if sureB k row=true then (k:Int) else fewA row m (k+1):=rfl
set_option maxHeartbeats 4000000 in
theorem fewest_any {bm p1 p2:Nat} {row:List Int} {v:Value} (w:World) (hv:Ints 0 w v row) (c1:w.cell? ⟨p1,0,none⟩=some (.map (some bm))) (c2:w.cell? ⟨p2,0,none⟩=some v) (hO:Ora row.length bm w):
  Calls Tryz.prog 194 #[v,.func (.func 195) #[] #[.pointer (some ⟨p1,0,none⟩),.pointer (some ⟨p2,0,none⟩)]] w fun e w'=>e=.returned (.int .i64 (fewB row))∧w.grownBy w' (some bm):=by
 have hK:=knownI_any v row w hv;have HF:=hdd (show fewB row=if knownB row=true then fewA row 10 0 else -1 from rfl);have HC:=hdd (fun W (hR:RelO row.length bm w W) (q:Nat) (hk:knownB row=true) (hq:q≤9)=>sureF_any (n:=row.length) (bm:=bm) (p1:=p1) (p2:=p2) (q:=q) (row:=row) (v:=v) W ⟨hk,rfl,hq⟩ (hv.rel hR) (hR.2.2 _ _ c1) (hR.2.2 _ _ c2) (hR.2.1 hO));have HO:=hdd hO;obtain ⟨R,hR⟩:∃ R,R=fewB row:=⟨_,rfl⟩
 rw[←hR] at HF ⊢;obtain ⟨t,ht⟩:∃ t,t=knownB row:=⟨_,rfl⟩
 rw[←ht] at HF hK HC;clear hR hO c1 c2 hv ht
 cases t
 ·go_enter Tryz.func194,Tryz.ntmps194
  go_wp2_with fail;refine hK.mono ?_;rintro e w1 ⟨rfl,hb1⟩;have HB1:=hdd hb1;clear hK hb1;go_wp2;go_ret;exact ⟨by rw[HF.out]; rfl,grownR HB1.out⟩
 ·go_enter Tryz.func194,Tryz.ntmps194
  go_wp2_with fail;refine hK.mono ?_;rintro e w1 ⟨rfl,hb1⟩;have HR1:=hdd (RelO.below (n:=row.length) (bm:=bm) hb1);clear hK hb1;go_wp2;go_loopw [9] (fun i wi=>∃ k:Nat,k≤10∧i=.int .i64 k∧fewA row (10-k) k=R∧RelO row.length bm w wi) (fun i _=>10-(intOf i).toNat)
  case atStart=>exact ⟨0,by omega,rfl,by rw[HF.out]; rfl,HR1.out⟩
  case round=>
   obtain ⟨k,hk,rfl,hf,hR⟩:=hrel;obtain ⟨wk,rfl⟩:∃ z,z=wr:=⟨_,rfl⟩
   by_cases hlt:k<10
   ·have hk1:(k:Int)<10:=by omega
    have hk0:(0:Int)≤(k:Int):=by omega
    rw[show 10-k=(10-(k+1))+1 by omega,fewA_step] at hf;have HFF:=hdd hf;have HR:=hdd hR;have HT:=hdd (HC.out wk hR k (by simp) (by omega));obtain ⟨r,hr⟩:∃ r,r=sureB k row:=⟨_,rfl⟩
    rw[←hr] at HT HFF;clear hf hR hr;go_wp2_with fail;refine HT.out.mono ?_;rintro e w2 ⟨rfl,h1,h2⟩;have HR2:=hdd (HR.out.trans (RelO.call (HR.out.2.1 HO.out) h1 h2));clear h1 h2
    cases r
    ·go_wp2
     go_roundw
     case rel=>exact ⟨k+1,by omega,by go_num,by rw[←HFF.out]; rfl,HR2.out⟩
     case measure=>simp[intOf]; omega
    ·go_wp2
     go_ret;exact ⟨by rw[←HFF.out]; rfl,HR2.out.1⟩
   ·obtain rfl:k=10:=by omega
    have HFF:=hdd hf;have HR:=hdd hR;clear hf hR;go_wp2;go_ret;exact ⟨by rw[←HFF.out]; rfl,HR.out.1⟩
theorem lieI_any {B:Nat} (v:Value) (row:List Int) (w:World) (h:Ints B w v row):
  Calls Tryz.prog 167 #[v] w fun e w'=>e=.returned (.int .i64 (fewB row))∧Below w.heap.size w w':=by
 obtain ⟨w3,hw3⟩:∃ w3,w3=((w.alloc (.cells #[v] 37)).alloc (.map #[] 0)).alloc (.cells #[.map (some (w.heap.size+1))] 201):=⟨_,rfl⟩
 have hb:Below w.heap.size w w3:=by rw[hw3]; exact (((Below.refl _ _).alloc (Nat.le_refl _) _).alloc (by simp) _).alloc (by simp; omega) _
 have hO:Ora row.length (w.heap.size+1) w3:=by
  rw[hw3];have:=Ora.made row.length (w.alloc (.cells #[v] 37));rw[show (w.alloc (.cells #[v] 37)).heap.size=w.heap.size+1 by simp] at this;exact this.below ((Below.refl _ _).alloc (Nat.le_refl _) _)
 have c1:w3.cell? ⟨w.heap.size+1+1,0,none⟩=some (.map (some (w.heap.size+1))):=by
  rw[hw3];refine cell_of_one (t:=201) ?_;rw[show w.heap.size+1+1=((w.alloc (.cells #[v] 37)).alloc (.map #[] 0)).heap.size by simp,heap_alloc_new]
 have c2:w3.cell? ⟨w.heap.size,0,none⟩=some v:=by
  rw[hw3];refine cell_of_one (t:=37) ?_;rw[haoM _ _ (by simp; omega),haoM _ _ (by simp),heap_alloc_new]
 have hF:=fewest_any (bm:=w.heap.size+1) (p1:=w.heap.size+1+1) (p2:=w.heap.size) w3 ((h.below hb).mono (Nat.zero_le _)) c1 c2 hO;have HF:=hdd hF;have HB:=hdd hb;have HW:=hdd hw3;have hc2:(((w.alloc (.cells #[v] 37)).alloc (.map #[] 0)).alloc (.cells #[.map (some (w.heap.size+1))] 201)).cell? ⟨w.heap.size,0,none⟩=some v:=by rw[←hw3]; exact c2
 obtain ⟨R,hR⟩:∃ R,R=fewB row:=⟨_,rfl⟩
 rw[←hR] at HF ⊢;obtain ⟨a,cap,rfl,_⟩:=id h.opened;have hmm:=@run_makeMap Tryz.prog;clear hw3 hb hO c1 c2 hF h hR;go_enter Tryz.func167,Tryz.ntmps167;go_wp2_with fail;rw[←HW.out];refine HF.out.mono ?_;rintro e w4 ⟨rfl,hg⟩;have HG:=hdd (show Below w.heap.size w w4 from HB.out.grown hg HB.out.size (fun k hk=>by injection hk; omega));clear hg;go_wp2;go_ret;exact ⟨rfl,HG.out⟩
theorem FreshII.kept {xss:List (List Int)} {w w':World} {a:Option Addr} {cap g:Nat} (ho:OwnII w.heap.size w' (.slice a xss.length cap) xss) (hg:g<w.heap.size) (hs:∀ x∈xss,∀ y∈x,0≤y∧y≤10) (hp:0<xss.length):
  ∃ lb,a=some ⟨lb,0,none⟩∧∀ j (h:j<xss.length),∃ ax cx,(∀ W',w'.grownBy W' (some g)→W'.cell? ⟨lb,j,none⟩=some (.slice ax xss[j].length cx)∧RowAt g (.slice ax xss[j].length cx) xss[j] W'):=by
 obtain ⟨ao',co',he,_,_,V,hV,hVI⟩:=ho.opened;injection he with e1 e2 e3;obtain ⟨lb,rfl,hlb,hcell,_⟩:=hV hp;refine ⟨lb,e1,fun j h=>?_⟩;have hI:=hVI j h;obtain ⟨ax,cx,hsh,_⟩:=own_shape hI;refine ⟨ax,cx,fun W' hG=>?_⟩;have hc:=hcell j h;rw[hsh] at hc hI;have hab:Above w.heap.size w' W':=Above.of_grown hG hg;refine ⟨hab.cell (by exact hlb) hc,?_⟩;exact RowAt.fresh (W:=w) (hI.keep hab) hg (hs _ (List.getElem_mem h))
theorem row_facts {row:List Int} (hk:knownB row=true):sum64 row=totL row∧(0≤totL row∧totL row≤10):=by
 have hsm:=known_small hk;refine ⟨sum64_tot (by have:=hsm.1.2; omega) (fun y hy=>by have:=hsm.2 y hy; omega),totL_nonN fun y hy=>(hsm.2 y hy).1,(knownB_iff.1 hk).2.2.2⟩
set_option maxHeartbeats 4000000 in
theorem win_zero (n:Nat):WinC n 0:=by
 intro g W v row fs hv hk hl ho hf;obtain ⟨a,cap,rfl,hcap,hmax,hcells⟩:=hv.ints.opened;have hTot:=l1Sum_any _ row W hv.ints;rw[(row_facts hk).1] at hTot;have HB:=hdd (show winB 0 row=decide (totL row≤1) from rfl);have HOUT:=hdd (show ∀ b W',winB 0 row=b→Below W.heap.size W W'→WinOut n 0 g row fs W (.returned (.bool b)) W' from fun b W' hb hB=>⟨fs,by rw[hb],ho.below hB,hf,SameOn.refl _ _ _,grownR hB⟩);obtain ⟨T,hT⟩:∃ T,T=totL row:=⟨_,rfl⟩
 rw[←hT] at hTot HB;clear hT hcells hv ho hf hk hl
 by_cases ht:T≤1
 ·rw[decide_eq_true ht] at HB
  go_enter Tryz.func136,Tryz.ntmps136;go_wp2_with fail;refine hTot.mono ?_;rintro e w1 ⟨rfl,rfl⟩;go_wp2;go_ret;exact HOUT.out _ _ HB.out (Below.refl _ _)
 ·rw[decide_eq_false ht] at HB
  have hqe:(((0:Nat):Int)==0)=true:=rfl;have hqe2:(((0:Nat):Int)=0):=rfl;go_enter Tryz.func136,Tryz.ntmps136;go_wp2_with fail;refine hTot.mono ?_;rintro e w1 ⟨rfl,rfl⟩;clear hTot;go_wp2;go_quiet (fail);have HBD:=hdd (show Drawn W (W.drewN nq) from ⟨nq,rfl⟩).below;go_wp2;go_ret;exact HOUT.out _ _ HB.out HBD.out
-- WIN
def FoundW (n q g:Nat) (fs:List Int) (W:World):Prop:=∃ fs',OwnI 0 W (.slice (some ⟨g,0,none⟩) 13310 13310) fs'∧FoundOk n q fs'∧SameOn n q fs fs'
def RelF (n q g:Nat) (fs:List Int) (W W':World):Prop:=W.grownBy W' (some g)∧(FoundW n q g fs W→FoundW n q g fs W')
theorem RelF.refl (n q g:Nat) (fs:List Int) (W:World):RelF n q g fs W W:=⟨World.grownBy.refl _ _,id⟩
theorem RelF.trans {n q g:Nat} {fs:List Int} {a b c:World} (h:RelF n q g fs a b) (h':RelF n q g fs b c):RelF n q g fs a c:=⟨grownT h.1 h'.1,fun q=>h'.2 (h.2 q)⟩
theorem RelF.below {n q g:Nat} {fs:List Int} {W W':World} (h:Below W.heap.size W W'):RelF n q g fs W W':=⟨grownR h,fun ⟨fs',h1,h2,h3⟩=>⟨fs',h1.below h,h2,h3⟩⟩
set_option maxHeartbeats 16000000 in
theorem win_more {n q:Nat} (hq8:q≤8) (ih:WinC n q):WinC n (q+1):=by
 intro g W v row fs hv hk hl ho hf;obtain ⟨a,cap,rfl,hcap,hmax,hcells⟩:=hv.ints.opened;have hsm:=known_small hk;have hl3:=hsm.1.2;obtain ⟨hs64,ht0,ht10⟩:=row_facts hk;have hgW:g<W.heap.size:=(World.ownsRow.lt ho g rfl).2;have hTot:=l1Sum_any _ row W hv.ints;rw[hs64] at hTot;have HSUM:=hdd (fun W' (h:RowAt g (.slice a row.length cap) row W')=>by have q:=l1Sum_any _ row W' h.ints; rw[hs64] at q; exact q);have HB:=hdd (winB_more q row);have HO:=hdd ho;have HF:=hdd hf;have HV:=hdd hv;have HK:=hdd hk;have HL:=hdd hl;have HSM:=hdd hsm;have HCE:=hdd hcells;have HWE:=hdd (fun (W':World) (h:RowAt g (.slice a row.length cap) row W')=>weightS_any _ row (q+1) W' h.ints hk (by omega));obtain ⟨R,hR⟩:∃ R,R=winB (q+1) row:=⟨_,rfl⟩
 have HR:=hdd hR;rw[←hR] at HB;have HOUT:=hdd (show ∀ b W' fs',R=b→OwnI 0 W' (.slice (some ⟨g,0,none⟩) 13310 13310) fs'→FoundOk n (q+1) fs'→SameOn n (q+1) fs fs'→W.grownBy W' (some g)→WinOut n (q+1) g row fs W (.returned (.bool b)) W' from fun b W' fs' hb h1 h2 h3 h4=>⟨fs',by rw[←hR,hb],h1,h2,h3,h4⟩);obtain ⟨T,hT⟩:∃ T,T=totL row:=⟨_,rfl⟩
 have HT:=hdd hT;rw[←hT] at hTot HSUM ht0 ht10 HB;obtain ⟨G,hG⟩:∃ G,G=wgt row (q+1):=⟨_,rfl⟩
 rw[←hG] at HWE HB;have hqe:(((q+1:Nat):Int)==0)=false:=by rw[beq_eq_false_iff_ne]; omega
 have hqe2:¬(((q+1:Nat):Int)=0):=by omega
 have hqe3:((q:Int)+1==0)=false:=by rw[beq_eq_false_iff_ne]; omega
 obtain ⟨P,hP⟩:∃ P:Int,P=2^(q+1):=⟨_,rfl⟩
 have hwP:IntKind.i64.wrap (2^(q+1))=P:=by
  have h1:=pow512 (q:=q+1) (by omega);have h2:(0:Int)<2^(q+1):=Int.pow_pos (by omega);rw[hP]; exact IntWalk.i64_in _ (by omega)
 rw[←hP] at HB;clear hP;clear hv hk hl hcells hs64 ho hf hR hT hsm hG
 by_cases ht:T≤1
 ·have HRT:=hdd (show R=true by rw[HB.out,decide_eq_true ht]; rfl)
  go_enter Tryz.func136,Tryz.ntmps136;go_wp2_with fail;refine hTot.mono ?_;rintro e w1 ⟨rfl,rfl⟩;go_wp2;go_ret;exact HOUT.out _ _ _ HRT.out HO.out HF.out (SameOn.refl _ _ _) (World.grownBy.refl _ _)
 ·rw[decide_eq_false ht,Bool.false_or] at HB
  have hWQ:∀ m,Calls Tryz.prog 177 #[.slice a row.length cap,.int .i64 ((q+1:Nat):Int)] (W.drewN m) fun e w'=>e=.returned (.int .i64 G)∧Drawn (W.drewN m) w':=fun m=>HWE.out _ (HV.out.below (show Drawn W (W.drewN m) from ⟨m,rfl⟩).below)
  go_enter Tryz.func136,Tryz.ntmps136;go_wp2_with fail;refine hTot.mono ?_;rintro e w1 ⟨rfl,rfl⟩;clear hTot;go_wp2;go_quiet ((go_at_call 177; exact Calls.quiet_of (hWQ _)))
  by_cases hg:P<G
  ·have HRF:=hdd (show R=false by rw[HB.out,decide_eq_false (by omega)]; rfl)
   have HBD:=hdd (show Drawn W (W.drewN nq) from ⟨nq,rfl⟩).below;go_wp2;go_ret;exact HOUT.out _ _ _ HRF.out (HO.out.below HBD.out) HF.out (SameOn.refl _ _ _) (grownR HBD.out)
  ·rw[decide_eq_true (by omega),Bool.true_and] at HB
   obtain ⟨wd,hwd⟩:∃ z,z=W.drewN nq:=⟨_,rfl⟩
   have hbd:Below W.heap.size W wd:=by rw[hwd]; exact (show Drawn W (W.drewN nq) from ⟨nq,rfl⟩).below
   rw[←hwd];clear hwd hWQ;have HBD:=hdd hbd;have HOD:=hdd (HO.out.below hbd);have HVD:=hdd (HV.out.below hbd);have HXM:=hdd (HSM.out.2);have HAT:=hdd (show ∀ k,k≤row.length→0≤atL ((q+1:Nat):Int) (row.take k)∧atL ((q+1:Nat):Int) (row.take k)<13310 from fun k hk=>atL_bound (fun y hy=>HSM.out.2 y (List.mem_of_mem_take hy)) (by simp; omega) (by omega) (by omega));have HATN:=hdd (fun k (hk:k<row.length)=>atL_take (q:=((q+1:Nat):Int)) hk);have HATE:=hdd (show atL ((q+1:Nat):Int) (row.take row.length)=atL ((q+1:Nat):Int) row by rw[List.take_length]);obtain ⟨AT,hAT⟩:∃ f:Nat→Int,f=fun k=>atL ((q+1:Nat):Int) (row.take k):=⟨_,rfl⟩
   have HAT0:=hdd (show AT 0=(q:Int)+1 by rw[hAT]; simp[atL]);have HATK:=hdd (show ∀ k,k≤row.length→0≤AT k∧AT k<13310 by rw[hAT]; exact HAT.out);have HATN:=hdd (show ∀ k (hk:k<row.length),AT (k+1)=11*AT k+row[k] by rw[hAT]; exact HATN.out);have HATE:=hdd (show AT row.length=atL ((q+1:Nat):Int) row by rw[hAT]; exact HATE.out);clear hAT HAT hbd;go_wp2;go_loop [7,8] (fun s i=>∃ k:Nat,k≤row.length∧i=.int .i64 k∧s=.int .i64 (AT k)) (fun _ i=>row.length-(intOf i).toNat)
   case atStart=>exact ⟨0,Nat.zero_le _,rfl,by rw[HAT0.out]⟩
   case round=>
    obtain ⟨k,hk,rfl,rfl⟩:=hrel;have hak:=HATK.out k hk
    by_cases hlt:k<row.length
    ·obtain ⟨b,off,rfl,_,hc⟩:=HCE.out (by omega)
     have hck:=HBD.out.cell (World.block_lt_of_cell? W _ (hc k hlt));rw[hc k hlt] at hck;have hx:=HXM.out row[k] (List.getElem_mem hlt);have hn:=HATN.out k hlt;obtain ⟨x,hxx⟩:∃ x,x=row[k]:=⟨_,rfl⟩
     rw[←hxx] at hck hx hn;obtain ⟨A,hA⟩:∃ A,A=AT k:=⟨_,rfl⟩
     rw[←hA] at hak hn ⊢;have HN:=hdd hn;obtain ⟨x0,x1⟩:=hx;obtain ⟨a0,a1⟩:=hak;have hk0:(0:Int)≤(k:Int):=by omega
     have hk1:(k:Int)<(row.length:Int):=by omega
     clear hc hxx hA hn;go_wp2;go_round
     case rel=>exact ⟨k+1,by omega,by go_num,by rw[HN.out]⟩
     case measure=>simp[intOf]; omega
    ·have hkl:k=row.length:=by omega
     subst hkl;have hk1:¬((row.length:Int)<(row.length:Int)):=by omega
     obtain ⟨A,hA⟩:∃ A:Nat,AT row.length=(A:Int):=⟨(AT row.length).toNat,by omega⟩
     rw[hA] at hak ⊢;have HAE:=hdd (show (A:Int)=atL ((q+1:Nat):Int) row by rw[←hA]; exact HATE.out);have hA1:A<13310:=by omega
     have hfl:=HF.out.1;obtain ⟨hcf,hff⟩:=own_cell HOD.out A (by omega);have hAf:A<fs.length:=by omega
     have HTOLD:=hdd (show 0<fs[A]→(fs[A]==1)=winB (q+1) row from fun hm=>HF.out.told HK.out HL.out (by omega) (i:=A) HAE.out hAf hm);rw[←HR.out] at HTOLD;obtain ⟨fv,hfv⟩:∃ z,z=fs[A]:=⟨_,rfl⟩
     rw[←hfv] at hcf HTOLD;have hai0:(0:Int)≤(A:Int):=by omega
     have hai1:(A:Int)<13310:=by omega
     clear hA hak hfv hk hfl hAf
     by_cases hpos:0<fv
     ·have HT2:=hdd (HTOLD.out hpos)
      go_wp2;go_ret;exact HOUT.out _ _ _ HT2.out.symm HOD.out HF.out (SameOn.refl _ _ _) (grownR HBD.out)
     ·have HQS:=questionsS_any _ row wd HVD.out.ints HSM.out
      clear hk1;go_wp2_with fail;refine HQS.mono ?_;rintro e w2 ⟨ql,qc,rfl,hoq,hb2⟩;have HGD:=hdd (show g<wd.heap.size by have:=HBD.out.size; omega);have HOQ:=hdd (fun (hp:0<(qsTo row row.length).length)=>FreshII.kept (g:=g) hoq HGD.out (fun x hx=>ask_small2 HSM.out (Nat.le_refl _) ((qsTo_mem row row.length (Nat.le_refl _) x).1 hx)) hp);have HQM:=hdd (fun x (hx:x∈qsTo row row.length)=>show askOk row x by have:=(qsTo_mem row row.length (Nat.le_refl _) x).1 hx; rwa [List.take_length] at this);have HB2:=hdd (HBD.out.trans (hb2.mono HBD.out.size));have HV2:=hdd (HVD.out.below hb2);obtain ⟨hcf2,hff2⟩:=own_cell (HOD.out.below hb2) A (by rw[HF.out.1]; omega);obtain ⟨fz,hcf2⟩:∃ z,w2.cell? ⟨g,A,none⟩=some (.int .i64 z):=⟨_,hcf2⟩
      have HO3:=hdd ((HOD.out.below hb2).set A 2);have hnat:(atL ((q+1:Nat):Int) row).toNat=A:=by rw[←HAE.out]; exact Int.toNat_natCast A
      have HF3:=hdd (show FoundOk n q (fs.set A 2) by rw[←hnat]; exact (HF.out.down (by omega)).mark HK.out HL.out (by omega) (by omega));have HDONE:=hdd (show ∀ gs,FoundOk n q gs→SameOn n q (fs.set A 2) gs→winB (q+1) row=true→FoundOk n (q+1) (gs.set A 1)∧SameOn n (q+1) fs (gs.set A 1) from fun gs h1 h2 h3=>by
       rw[←hnat] at h2 ⊢;exact HF.out.done HK.out HL.out (by omega) h1 h2 (.inl ⟨rfl,h3⟩))
      have HLEFT:=hdd (show ∀ gs,FoundOk n q gs→SameOn n q (fs.set A 2) gs→winB (q+1) row=false→FoundOk n (q+1) gs∧SameOn n (q+1) fs gs from fun gs h1 h2 h3=>by
       rw[←hnat] at h2;exact HF.out.left HK.out HL.out (by omega) h1 h2 h3)
      obtain ⟨f0,hf0⟩:∃ f0,f0=fs.set A 2:=⟨_,rfl⟩
      rw[←hf0] at HO3 HF3 HDONE HLEFT;have HG3:=hdd (show W.grownBy (w2.setCell ⟨g,A,none⟩ (.int .i64 2)) (some g) from grownT (grownR HB2.out) (grownBy_setCell w2 ⟨g,A,none⟩ (.int .i64 2)));have HG23:=hdd (grownBy_setCell w2 ⟨g,A,none⟩ (.int .i64 2));have HV3:=hdd (HV2.out.kept HG23.out);have HFW:=hdd (show FoundW n q g f0 (w2.setCell ⟨g,A,none⟩ (.int .i64 2)) from ⟨f0,HO3.out,HF3.out,SameOn.refl _ _ _⟩);have HGZ:=hdd (show g<(w2.setCell ⟨g,A,none⟩ (.int .i64 2)).heap.size by have:=HG3.out.size; omega);have HQL:=hdd (show (qsTo row row.length).length≤1331 from Nat.le_trans (qsTo_len HSM.out row.length hl3) (by
       have:=Nat.pow_le_pow_right (show 0<11 by omega) hl3;omega))
      clear hb2 hoq hf0 hnat HQS HTOLD HO3 HF3 hcf hff hpos;obtain ⟨Q,hQ⟩:∃ Q,Q=qsTo row row.length:=⟨_,rfl⟩
      rw[←hQ] at HOQ HQM HB HQL;rw[←hQ];clear hQ;go_wp2;obtain ⟨w3,hw3⟩:∃ z,z=w2.setCell ⟨g,A,none⟩ (.int .i64 2):=⟨_,rfl⟩
      rw[←hw3] at HG3 HG23 HV3 HFW HGZ ⊢;clear hw3;go_loopw [10] (fun jv wi=>∃ j:Nat,j≤Q.length∧jv=.int .i64 j∧(∀ i (h:i<Q.length),i<j→testW q row Q[i]=false)∧RelF n q g f0 w3 wi) (fun jv _=>Q.length-(intOf jv).toNat)
      case atStart=>exact ⟨0,Nat.zero_le _,rfl,fun i h hh=>by omega,RelF.refl _ _ _ _ _⟩
      case round=>
       obtain ⟨j,hj,rfl,hno,hrel⟩:=hrel;obtain ⟨wj,rfl⟩:∃ z,z=wr:=⟨_,rfl⟩
       have HREL:=hdd hrel;have HNOT:=hdd hno;have hj0:(0:Int)≤(j:Int):=by omega
       by_cases hlt:j<Q.length
       ·have hj1:(j:Int)<(Q.length:Int):=by omega
        have hj9:(j:Int)≤2000:=by have:=HQL.out; omega
        obtain ⟨lb,rfl,hLL⟩:=HOQ.out (by omega);obtain ⟨ax,cx,hLX⟩:=hLL j hlt;have hok:=HQM.out Q[j] (List.getElem_mem hlt);have hxm:=ask_small HSM.out hok;have HSTEP:=hdd (show testW q row Q[j]=false→∀ i (h:i<Q.length),i<j+1→testW q row Q[i]=false from fun z i h hh=>by
         by_cases e:i=j
         ·subst e; exact z
         ·exact HNOT.out i h (by omega))
        have HYES:=hdd (show testW q row Q[j]=true→winB (q+1) row=true from fun z=>by
         rw[←HR.out,HB.out]; exact List.any_eq_true.2 ⟨_,List.getElem_mem hlt,z⟩)
        obtain ⟨x,hx⟩:∃ x,x=Q[j]:=⟨_,rfl⟩
        rw[←hx] at hLX hok hxm HSTEP HYES;have hkY:=known_conf HK.out hok;have hkZ:=known_conf HK.out (oth_ok hok);have HW23:=hdd (fun W' (h:RelF n q g f0 wj W')=>show w2.grownBy W' (some g) from grownT HG23.out (grownT HREL.out.1 h.1));have HLIST:=hdd (fun W' (h:RelF n q g f0 wj W')=>hLX W' (HW23.out W' h));have HROW:=hdd (fun W' (h:RelF n q g f0 wj W')=>HV3.out.kept (grownT HREL.out.1 h.1));have HS1:=hdd (show ∀ W',RelF n q g f0 wj W'→Calls Tryz.prog 138 #[.slice ax x.length cx] W' (fun e w'=>e=.returned (.int .i64 (totL x))∧W'=w') from fun W' h=>by
         have z:=l1Sum_any _ x W' (HLIST.out W' h).2.ints
         rwa [sum64_tot (by have:=hxm.1.2; omega) (fun y hy=>by have:=hxm.2 y hy; omega)] at z)
        have HS2:=hdd (fun W' (h:RelF n q g f0 wj W')=>HSUM.out W' (HROW.out W' h));have HYC:=hdd (fun W' (h:RelF n q g f0 wj W')=>afterYesS_any _ _ row x W' (HROW.out W' h).ints (HLIST.out W' h).2.ints hok HK.out);have HNC:=hdd (fun W' (h:RelF n q g f0 wj W')=>afterNoS_any _ _ row x W' (HROW.out W' h).ints (HLIST.out W' h).2.ints hok HK.out);have HFJ:=hdd (fun W' (h:RelF n q g f0 wj W')=>show FoundW n q g f0 W' from h.2 (HREL.out.2 HFW.out));have HWIN:=hdd (show ∀ (Y:List Int),knownB Y=true→Y.length=n→∀ W' u,RelF n q g f0 wj W'→RowAt g u Y W'→Calls Tryz.prog 136 #[.slice (some ⟨g,0,none⟩) 13310 13310,u,.int .i64 (q:Nat)] W' (fun e w'=>e=.returned (.bool (winB q Y))∧RelF n q g f0 W' w') from fun Y hy hyl W' u h hu=>by
         obtain ⟨fs',h1,h2,h3⟩:=HFJ.out W' h;refine (ih g W' u Y fs' hu hy hyl h1 h2).mono ?_;rintro e w' ⟨fs'',rfl,r1,r2,r3,r4⟩;exact ⟨rfl,r4,fun _=>⟨fs'',r1,r2,h3.trans r3⟩⟩)
        have HW1:=hdd (fun W' u=>HWIN.out (confL row x) hkY ((conf_len hok).trans HL.out) W' u);have HW2:=hdd (fun W' u=>HWIN.out (confL row (othL row x)) hkZ ((conf_len (oth_ok hok)).trans HL.out) W' u);have HYM:=hdd (known_small hkY).2;have HZM:=hdd (known_small hkZ).2;have HGW:=hdd (fun W' (h:RelF n q g f0 wj W')=>show g<W'.heap.size by have h1:=HREL.out.1.size; have h2:=h.1.size; have:=HGZ.out; omega);have HTW:=hdd (show testW q row x=(decide (2*totL x≤totL row+1)&&(winB q (confL row x)&&winB q (confL row (othL row x)))) from rfl);have hX0:=totL_nonN (row:=x) (fun y hy=>(hxm.2 y hy).1);have hX1:=(totL_bound (xs:=x) hxm.2).2;have hxl:=hxm.1.2;obtain ⟨t,htt⟩:∃ t,t=testW q row x:=⟨_,rfl⟩
        rw[←htt] at HSTEP HYES HTW;obtain ⟨Y,hY⟩:∃ Y,Y=confL row x:=⟨_,rfl⟩
        obtain ⟨Z,hZ⟩:∃ Z,Z=confL row (othL row x):=⟨_,rfl⟩
        rw[←hY] at HYC HYM HW1 HTW;rw[←hZ] at HNC HZM HW2 HTW;obtain ⟨b1,hb1⟩:∃ b,b=winB q Y:=⟨_,rfl⟩
        obtain ⟨b2,hb2⟩:∃ b,b=winB q Z:=⟨_,rfl⟩
        rw[←hb1] at HTW HW1;rw[←hb2] at HTW HW2;rw[←HT.out] at HTW;obtain ⟨X,hXX⟩:∃ X,X=totL x:=⟨_,rfl⟩
        rw[←hXX] at HTW HS1 hX0 hX1;obtain ⟨b0,hb0⟩:∃ b,b=decide (2*X≤T+1):=⟨_,rfl⟩
        rw[←hb0] at HTW;have HB0:=hdd hb0;obtain ⟨c1,hc1⟩:∃ c,c=(b0&&b1):=⟨_,rfl⟩
        have HC1:=hdd hc1;have HC2:=hdd (show t=(c1&&b2) by rw[HTW.out,hc1,Bool.and_assoc]);have hwX:IntKind.i64.wrap (2*X)=2*X:=IntWalk.i64_in _ (by omega);have hwT:IntKind.i64.wrap (T+1)=T+1:=IntWalk.i64_in _ (by omega);have hwq:IntKind.i64.wrap (q:Int)=(q:Int):=IntWalk.i64_in _ (by omega);clear hx hkY hkZ hLL hLX hok hxm htt hY hZ hb1 hb2 hXX hb0 hc1 hrel hno HTW;go_upto_region 17 with fail;go_cut [92] from 53 to 95 (fun s wx=>s=.bool t∧RelF n q g f0 wj wx)
        case first=>
         have RR:=hdd (RelF.refl n q g f0 wj);obtain ⟨hcell,_⟩:=HLIST.out wj RR.out;have hT:=HS1.out wj RR.out;go_wp2_with fail;refine hT.mono ?_;rintro e w' ⟨rfl,rfl⟩;clear hT;have hT:=HS2.out wj RR.out;go_wp2_with fail;refine hT.mono ?_;rintro e w' ⟨rfl,rfl⟩;clear hT
         by_cases hle:2*X≤T+1
         ·have hTY:=HYC.out wj RR.out
          have HGJ:=hdd (HGW.out wj RR.out);have HC2b:=hdd (show t=(b1&&b2) by rw[HC2.out,HC1.out,HB0.out,decide_eq_true hle,Bool.true_and]);go_wp2_with fail;refine hTY.mono ?_;rintro e w4 ⟨a4,c4,rfl,ho4,hb4⟩;have HR4:=hdd (RelF.below (n:=n) (q:=q) (g:=g) (fs:=f0) hb4);have hT:=HW1.out w4 _ HR4.out (RowAt.fresh ho4 HGJ.out HYM.out);clear hTY ho4 hb4;go_wp2_with fail;refine hT.mono ?_;rintro e w5 ⟨rfl,h5⟩;have HR5:=hdd (HR4.out.trans h5);clear hT h5 hcell
          cases b1
          ·have HTF:=hdd (show t=false by rw[HC2b.out]; rfl)
           go_wp2_with fail;go_meet;exact ⟨by rw[HTF.out],HR5.out⟩
          ·have HTF:=hdd (show t=b2 by rw[HC2b.out]; rfl)
           obtain ⟨hcell,_⟩:=HLIST.out w5 HR5.out;have hTY:=HNC.out w5 HR5.out;have HGJ5:=hdd (HGW.out w5 HR5.out);go_wp2_with fail;refine hTY.mono ?_;rintro e w6 ⟨a6,c6,rfl,ho6,hb6⟩;have HR6:=hdd (HR5.out.trans (RelF.below (n:=n) (q:=q) (g:=g) (fs:=f0) hb6));have hT:=HW2.out w6 _ HR6.out (RowAt.fresh ho6 HGJ5.out HZM.out);clear hTY ho6 hb6;go_wp2_with fail;refine hT.mono ?_;rintro e w7 ⟨rfl,h7⟩;have HR7:=hdd (HR6.out.trans h7);clear hT h7 hcell;go_wp2_with fail;go_meet;exact ⟨by rw[HTF.out],HR7.out⟩
         ·have HTF:=hdd (show t=false by rw[HC2.out,HC1.out,HB0.out,decide_eq_false hle]; rfl)
          go_wp2_with fail;go_meet;exact ⟨by rw[HTF.out],RR.out⟩
        case rest=>
         obtain ⟨rfl,hrw⟩:=hcut;obtain ⟨wz,rfl⟩:∃ z,z=wc:=⟨_,rfl⟩
         have HRW:=hdd (HREL.out.trans hrw);clear hrw
         cases t
         ·have HS3:=hdd (HSTEP.out rfl)
          go_wp2;go_roundw
          case rel=>exact ⟨j+1,by omega,by go_num,HS3.out,HRW.out⟩
          case measure=>simp[intOf]; omega
         ·have hwin:=HYES.out rfl
          obtain ⟨fs',h1,h2,h3⟩:=HRW.out.2 HFW.out;obtain ⟨hcf5,hff4⟩:=own_cell h1 A (by rw[h2.1]; omega);obtain ⟨fz,hcf4⟩:∃ z,wz.cell? ⟨g,A,none⟩=some (.int .i64 z):=⟨_,hcf5⟩
          obtain ⟨d1,d2⟩:=HDONE.out fs' h2 h3 hwin;have HOE:=hdd (HOUT.out true _ (fs'.set A 1) (by rw[HR.out]; exact hwin) (h1.set A 1) d1 d2 (grownT HG3.out (grownT HRW.out.1 (grownBy_setCell wz ⟨g,A,none⟩ (.int .i64 1)))));clear hcf5 h1 h2 h3 d1 d2 hwin;go_wp2;go_ret;exact HOE.out
       ·have hj1:¬((j:Int)<(Q.length:Int)):=by omega
        have hR:R=false:=by
         rw[HB.out,Bool.eq_false_iff];intro z;obtain ⟨x,hx,hz⟩:=List.any_eq_true.1 z;obtain ⟨i,hi,rfl⟩:=List.getElem_of_mem hx;rw[HNOT.out i hi (by omega)] at hz
         cases hz
        obtain ⟨fs',h1,h2,h3⟩:=HREL.out.2 HFW.out;obtain ⟨d1,d2⟩:=HLEFT.out fs' h2 h3 (by rw[←HR.out]; exact hR);have HOE:=hdd (HOUT.out false _ fs' hR h1 d1 d2 (grownT HG3.out HREL.out.1));clear h1 h2 h3 d1 d2 hR hrel hno;go_wp2;go_ret;exact HOE.out
theorem win_any (n:Nat):∀ q:Nat,q≤9→WinC n q:=by
 intro q
 induction q with
 | zero=>intro _; exact win_zero n
 | succ q ih=>intro h; exact win_more (by omega) (ih (by omega))
theorem fewA_next (row:List Int) (m k:Nat):fewA row (m+1) k=if sureB k row=true then (k:Int) else fewA row m (k+1):=rfl
set_option maxHeartbeats 8000000 in
theorem lieS_any {B:Nat} (v:Value) (row:List Int) (w:World) (h:Ints B w v row) (hlen:row.length≤4000000):
  Calls Tryz.prog 106 #[v] w fun e w'=>e=.returned (.int .i64 (fewB row))∧Below w.heap.size w w':=by
 have hF:=foundS_any w;have HX:=hdd h;obtain ⟨a,cap,rfl,hcap,hmax,hcells⟩:=h.opened;have HCE:=hdd hcells;have HKN:=hdd (fun W (q:Ints 0 W (.slice a row.length cap) row)=>knownS_any _ row W q hlen);have HFB:=hdd (show fewB row=if knownB row=true then fewA row 10 0 else -1 from rfl);have HSU:=hdd (show knownB row=true→∀ q,sureB q row=winB q row from fun hk q=>(win_sure q row (fun y hy=>((known_small hk).2 y hy).1)).symm);obtain ⟨R,hR⟩:∃ R,R=fewB row:=⟨_,rfl⟩
 rw[←hR] at HFB ⊢;obtain ⟨t,ht⟩:∃ t,t=knownB row:=⟨_,rfl⟩
 have HT:=hdd ht;rw[←ht] at HKN HFB HSU;clear hR h hcells ht;go_enter Tryz.func106,Tryz.ntmps106;go_wp2_with fail;refine hF.mono ?_;rintro e w1 ⟨g,rfl,ho,hb⟩;have HB:=hdd hb;have HG:=hdd (World.ownsRow.lt ho g rfl);have HX1:=hdd ((HX.out.below hb).mono (Nat.zero_le B));have HO:=hdd (ho.mono (Nat.zero_le _));clear hF ho hb
 cases t
 ·have hT:=HKN.out w1 HX1.out
  have HRF:=hdd (show R=-1 by rw[HFB.out]; rfl);go_wp2;go_loopw [4] (fun i wi=>i=.int .i64 0∧wi=w1) (fun _ _=>0)
  case atStart=>exact ⟨rfl,rfl⟩
  case round=>
   obtain ⟨rfl,rfl⟩:=hrel;go_wp2_with fail;refine hT.mono ?_;rintro e w2 ⟨rfl,rfl⟩;clear hT;go_wp2;go_ret;exact ⟨by rw[HRF.out]; rfl,HB.out⟩
 ·have HSV:=hdd (show ∀ q,sureB q row=winB q row from fun q=>HSU.out (by trivial) q)
  have HROW:=hdd (show RowAt g (.slice a row.length cap) row w1 from ⟨HX1.out,fun ad l c e=>by
   injection e with e1 e2 e3;have hk:=(known_small HT.out.symm).1.1;obtain ⟨b,off,h1,_,hc⟩:=HCE.out (by omega);rw[h1] at e1;injection e1 with e1;subst e1;have hlt:=World.block_lt_of_cell? w _ (hc 0 (by omega));have:=HG.out.1
   show b≠g
   have hlt':b<w.heap.size:=hlt;omega⟩)
  have HF0:=hdd (FoundOk.zero row.length 9);have HFB:=hdd (show R=fewA row 10 0 by rw[HFB.out]; rfl);have HRET:=hdd (show ∀ W,w1.grownBy W (some g)→Below w.heap.size w W from fun W hG=>HB.out.grown hG HB.out.size (fun k hk=>by injection hk with hk; have:=HG.out.1; omega));go_wp2;go_loopw [4] (fun i wi=>∃ (k:Nat) (fs:List Int),k≤10∧i=.int .i64 k∧R=fewA row (10-k) k∧OwnI 0 wi (.slice (some ⟨g,0,none⟩) 13310 13310) fs∧FoundOk row.length 9 fs∧w1.grownBy wi (some g)) (fun i _=>10-(intOf i).toNat)
  case atStart=>exact ⟨0,_,by omega,rfl,HFB.out,HO.out,HF0.out,World.grownBy.refl _ _⟩
  case round=>
   obtain ⟨k,fs,hk,rfl,hr,ho,hf,hg⟩:=hrel;obtain ⟨wk,rfl⟩:∃ z,z=wr:=⟨_,rfl⟩
   by_cases hlt:k<10
   ·have hk1:(k:Int)≤9:=by omega
    have hk0:(0:Int)≤(k:Int):=by omega
    have HRK:=hdd (HROW.out.kept hg);have hT:=HKN.out wk HRK.out.ints;have hW:=win_any row.length k (by omega) g wk _ row fs HRK.out HT.out.symm rfl ho (hf.down (by omega));have hse:sureB k row=winB k row:=HSV.out k;rw[show 10-k=(10-(k+1))+1 by omega,fewA_next,hse] at hr;unfold WinOut at hW;obtain ⟨b,hb⟩:∃ b,b=winB k row:=⟨_,rfl⟩
    rw[←hb] at hr hW;have HRR:=hdd hr;have HGK:=hdd hg;have HFK:=hdd hf;clear hr ho hf hg hb;go_wp2_with fail;refine hT.mono ?_;rintro e w2 ⟨rfl,rfl⟩;clear hT;go_wp2_with fail;refine hW.mono ?_;rintro e w3 ⟨fs',rfl,ho3,hf3,hs3,hg3⟩;have HO3:=hdd ho3;have HF3:=hdd (hf3.upTo hs3 HFK.out);have HG3:=hdd (grownT HGK.out hg3);clear hW ho3 hf3 hs3 hg3
    cases b
    ·have HRR:=hdd (show R=fewA row (10-(k+1)) (k+1) by rw[HRR.out]; rfl)
     go_wp2;go_roundw
     case rel=>exact ⟨k+1,fs',by omega,by go_num,HRR.out,HO3.out,HF3.out,HG3.out⟩
     case measure=>simp[intOf]; omega
    ·have HRR:=hdd (show R=k by rw[HRR.out]; rfl)
     go_wp2;go_ret;exact ⟨by rw[HRR.out]; rfl,HRET.out _ HG3.out⟩
   ·obtain rfl:k=10:=by omega
    have HRR:=hdd (show R=-1 by rw[hr]; rfl);have HGK:=hdd hg;clear hr ho hf hg;go_wp2;go_ret;exact ⟨by rw[HRR.out]; rfl,HRET.out _ HGK.out⟩
theorem oneByteG (N:Nat) (n:Int) (W:World) (h0:0≤n) (h1:n≤9) (hc:W.cell? ⟨N,0,none⟩=some (.int .u8 (48+n))):
  (convert 22 9 (.slice (some ⟨N,0,none⟩) 1 1)).run Tryz.prog W=.ok (.string ⟨[dg n].toArray⟩) W:=by
 refine run_convert_bytes_back _ _ _ 5 _ 1 [dg n] Tryz.underlying22 Tryz.underlying5 Tryz.underlying9 ?_;intro j hj;have hj0:j=0:=by simpa using hj
 subst hj0;have e:((dg n).toNat:Int)=48+n:=by have:=dg_toNat (inB_of h0 h1); omega
 simp only[List.getElem_cons_zero,e]
 simpa [Addr.add] using hc
theorem decDigits_le:∀ (k u:Nat),u<10^(k+1)→(Lib.decDigits u).length≤k+1
 | 0,u,h=>by rw[Lib.decDigits,dif_pos (by omega)]; simp
 | k+1,u,h=>by
  by_cases hu:u<10
  ·rw[Lib.decDigits,dif_pos hu]; simp
  ·rw[Lib.decDigits,dif_neg hu]
   have:=decDigits_le k (u/10) (by rw[Nat.pow_succ] at h; omega);simp; omega
theorem decDigits_len20 (u:Nat) (h:u≤1000000000000):(Lib.decDigits u).length≤20:=by
 have:=decDigits_le 12 u (by omega);omega
theorem cellU8 (w:World) (v:Value):(w.alloc (.cells #[v] 5)).cell? ⟨w.heap.size,0,none⟩=some v:=by simp
set_option maxHeartbeats 4000000 in
theorem l1NumN:∀ (u:Nat) (w:World),u≤1000000000000 →
  Calls Tryz.prog 67 #[.int .i64 u] w fun e w'=>e=.returned (strV (Lib.decDigits u))∧Below w.heap.size w w':=by
 intro u
 induction u using Nat.strongRecOn with
 | _ u ih=>
 intro w hu
 by_cases h10:u<10
 ·have:=l1Number_any (u:Int) w (by omega) (by omega)
  rw[Lib.decDigits,dif_pos h10];have e:dg (u:Int)=UInt8.ofNat (48+u):=by unfold dg; rw[Int.toNat_natCast]
  rw[e] at this;exact this
 have HD:=hdd (show Lib.decDigits u=Lib.decDigits (u/10)++[dg ((u%10:Nat):Int)] by
  rw[Lib.decDigits,dif_neg h10];unfold dg; rw[Int.toNat_natCast])
 have HREC:=hdd (fun W=>ih (u/10) (by omega) W (by omega));have hq:((u:Nat):Int).tdiv 10=((u/10:Nat):Int):=by rw[Int.tdiv_eq_ediv_of_nonneg (by omega)]; omega
 have hr:((u:Nat):Int).tmod 10=((u%10:Nat):Int):=by rw[Int.tmod_eq_emod_of_nonneg (by omega)]; omega
 have hr9:u%10≤9:=by omega
 have hn0:¬((u:Int)<0):=by omega
 have hn1:¬((u:Int)<10):=by omega
 have wq:IntKind.i64.wrap ((u/10:Nat):Int)=((u/10:Nat):Int):=IntWalk.i64_in _ (by omega);have wr:IntKind.i64.wrap (48+((u%10:Nat):Int))=48+((u%10:Nat):Int):=IntWalk.i64_in _ (by omega);have wr8:IntKind.u8.wrap (48+((u%10:Nat):Int))=48+((u%10:Nat):Int):=by rw[IntKind.wrap_u8]; omega
 obtain ⟨q,hqq⟩:∃ q,q=u/10:=⟨_,rfl⟩
 obtain ⟨r,hrr⟩:∃ r,r=u%10:=⟨_,rfl⟩
 rw[←hqq] at HD HREC hq wq;rw[←hrr] at HD hr hr9 wr wr8;obtain ⟨L,hL⟩:∃ L,L=Lib.decDigits q:=⟨_,rfl⟩
 rw[←hL] at HD HREC;have hLL:L.length≤20:=by rw[hL]; exact Nat.le_trans (Nat.le_of_eq rfl) (decDigits_len20 q (by omega))
 unfold strV at HREC ⊢;clear hqq hrr hL ih h10;go_enter Tryz.func67,Tryz.ntmps67;go_wp2;refine wp_region_inv (by kernel_rfl) (fun k=>(#[24,25,26,27,28,29,30,31,32,33,2]:Array Nat).getD k 0) 34
  (fun k v W=>match k with
   | 0=>v=.int .i64 (u:Int)
   | 1=>v=.int .i64 (q:Int)
   | 2=>v=.string ⟨L.toArray⟩
   | 3=>v=.int .i64 (u:Int)
   | 4=>v=.int .i64 (r:Int)
   | 5=>v=.int .i64 (48+(r:Int))
   | 6=>v=.int .u8 (48+(r:Int))
   | 7=>∃ N,v=.slice (some ⟨N,0,none⟩) 1 1∧W.cell? ⟨N,0,none⟩=some (.int .u8 (48+(r:Int)))
   | 8=>v=.string ⟨[dg (r:Int)].toArray⟩
   | 9=>v=.string ((ByteArray.mk L.toArray)++⟨[dg (r:Int)].toArray⟩)
   | 10=>v=.string ((ByteArray.mk L.toArray)++⟨[dg (r:Int)].toArray⟩)
   | _=>False) rfl (by kernel_rfl) ?mono ?step ?fin
 case mono=>
  intro k v W W' h hb
  match k,h with
  | 0,h=>exact h
  | 1,h=>exact h
  | 2,h=>exact h
  | 3,h=>exact h
  | 4,h=>exact h
  | 5,h=>exact h
  | 6,h=>exact h
  | 7,h=>(obtain ⟨N,h1,h2⟩:=h; exact ⟨N,h1,(hb.cell (cell_lt' h2)).trans h2⟩)
  | 8,h=>exact h
  | 9,h=>exact h
  | 10,h=>exact h
 case step=>
  intro i o ho A W hW hA hD K hK
  match i,ho with
  | 0,ho=>
   obtain rfl:=Option.some.inj ho;have e0:A.tmps.getD 0 undef=.int .i64 (u:Int):=(hA 0 (by kernel_rfl)).trans rfl;have e0':=gDq e0;have HK:=hdd (show ∀ v W',Below W.heap.size W W'→(v=.int .i64 (u:Int))→K (A.put (some 24) v) W' from hK.out);clear hA hD hK;go_simp;exact HK.out _ _ (Below.refl _ _) rfl
  | 1,ho=>
   obtain rfl:=Option.some.inj ho;have e0:A.tmps.getD 0 undef=.int .i64 (u:Int):=(hA 0 (by kernel_rfl)).trans rfl;have e0':=gDq e0;have d0:A.tmps.getD 24 undef=.int .i64 (u:Int):=hD 0 (by kernel_rfl);have d0':=gDq d0;have HK:=hdd (show ∀ v W',Below W.heap.size W W'→(v=.int .i64 (q:Int))→K (A.put (some 25) v) W' from hK.out);clear hA hD hK;go_simp;exact HK.out _ _ (Below.refl _ _) rfl
  | 2,ho=>
   obtain rfl:=Option.some.inj ho;have e0:A.tmps.getD 0 undef=.int .i64 (u:Int):=(hA 0 (by kernel_rfl)).trans rfl;have e0':=gDq e0;have d1:A.tmps.getD 25 undef=.int .i64 (q:Int):=hD 1 (by kernel_rfl);have d1':=gDq d1;have HK:=hdd (show ∀ v W',Below W.heap.size W W'→(v=.string ⟨L.toArray⟩)→K (A.put (some 26) v) W' from hK.out);clear hA hD hK;have hT:=HREC.out W;go_simp;refine hT.mono ?_;rintro e W' ⟨rfl,hb⟩;exact HK.out _ _ hb rfl
  | 3,ho=>
   obtain rfl:=Option.some.inj ho;have e0:A.tmps.getD 0 undef=.int .i64 (u:Int):=(hA 0 (by kernel_rfl)).trans rfl;have e0':=gDq e0;have HK:=hdd (show ∀ v W',Below W.heap.size W W'→(v=.int .i64 (u:Int))→K (A.put (some 27) v) W' from hK.out);clear hA hD hK;go_simp;exact HK.out _ _ (Below.refl _ _) rfl
  | 4,ho=>
   obtain rfl:=Option.some.inj ho;have e0:A.tmps.getD 0 undef=.int .i64 (u:Int):=(hA 0 (by kernel_rfl)).trans rfl;have e0':=gDq e0;have d3:A.tmps.getD 27 undef=.int .i64 (u:Int):=hD 3 (by kernel_rfl);have d3':=gDq d3;have HK:=hdd (show ∀ v W',Below W.heap.size W W'→(v=.int .i64 (r:Int))→K (A.put (some 28) v) W' from hK.out);clear hA hD hK;go_simp;exact HK.out _ _ (Below.refl _ _) rfl
  | 5,ho=>
   obtain rfl:=Option.some.inj ho;have e0:A.tmps.getD 0 undef=.int .i64 (u:Int):=(hA 0 (by kernel_rfl)).trans rfl;have e0':=gDq e0;have d4:A.tmps.getD 28 undef=.int .i64 (r:Int):=hD 4 (by kernel_rfl);have d4':=gDq d4;have HK:=hdd (show ∀ v W',Below W.heap.size W W'→(v=.int .i64 (48+(r:Int)))→K (A.put (some 29) v) W' from hK.out);clear hA hD hK;go_simp;exact HK.out _ _ (Below.refl _ _) rfl
  | 6,ho=>
   obtain rfl:=Option.some.inj ho;have e0:A.tmps.getD 0 undef=.int .i64 (u:Int):=(hA 0 (by kernel_rfl)).trans rfl;have e0':=gDq e0;have d5:A.tmps.getD 29 undef=.int .i64 (48+(r:Int)):=hD 5 (by kernel_rfl);have d5':=gDq d5;have HK:=hdd (show ∀ v W',Below W.heap.size W W'→(v=.int .u8 (48+(r:Int)))→K (A.put (some 30) v) W' from hK.out);clear hA hD hK;go_simp;exact HK.out _ _ (Below.refl _ _) rfl
  | 7,ho=>
   obtain rfl:=Option.some.inj ho;have e0:A.tmps.getD 0 undef=.int .i64 (u:Int):=(hA 0 (by kernel_rfl)).trans rfl;have e0':=gDq e0;have d6:A.tmps.getD 30 undef=.int .u8 (48+(r:Int)):=hD 6 (by kernel_rfl);have d6':=gDq d6;have HK:=hdd (show ∀ v W',Below W.heap.size W W'→(∃ N,v=.slice (some ⟨N,0,none⟩) 1 1∧W'.cell? ⟨N,0,none⟩=some (.int .u8 (48+(r:Int))))→K (A.put (some 31) v) W' from hK.out);clear hA hD hK;go_simp;exact HK.out _ _ ((Below.refl _ _).alloc (Nat.le_refl _) _) ⟨_,rfl,cellU8 _ _⟩
  | 8,ho=>
   obtain rfl:=Option.some.inj ho;have e0:A.tmps.getD 0 undef=.int .i64 (u:Int):=(hA 0 (by kernel_rfl)).trans rfl;have e0':=gDq e0;obtain ⟨N,hN,hc⟩:=(show ∃ N,A.tmps.getD 31 undef=.slice (some ⟨N,0,none⟩) 1 1∧W.cell? ⟨N,0,none⟩=some (.int .u8 (48+(r:Int))) from hD 7 (by kernel_rfl))
   have hN':=gDq hN;have HK:=hdd (show ∀ v W',Below W.heap.size W W'→(v=.string ⟨[dg (r:Int)].toArray⟩)→K (A.put (some 32) v) W' from hK.out);clear hA hD hK;have hT:=oneByteG N (r:Int) W (by omega) (by omega) hc;go_simp;exact HK.out _ _ (Below.refl _ _) rfl
  | 9,ho=>
   obtain rfl:=Option.some.inj ho;have e0:A.tmps.getD 0 undef=.int .i64 (u:Int):=(hA 0 (by kernel_rfl)).trans rfl;have e0':=gDq e0;have d2:A.tmps.getD 26 undef=.string ⟨L.toArray⟩:=hD 2 (by kernel_rfl);have d2':=gDq d2;have d8:A.tmps.getD 32 undef=.string ⟨[dg (r:Int)].toArray⟩:=hD 8 (by kernel_rfl);have d8':=gDq d8;have HK:=hdd (show ∀ v W',Below W.heap.size W W'→(v=.string ((ByteArray.mk L.toArray)++⟨[dg (r:Int)].toArray⟩))→K (A.put (some 33) v) W' from hK.out);clear hA hD hK;go_simp;rw[if_neg (by omega),Oper.upon_value];exact HK.out _ _ (Below.refl _ _) rfl
  | 10,ho=>
   obtain rfl:=Option.some.inj ho;have e0:A.tmps.getD 0 undef=.int .i64 (u:Int):=(hA 0 (by kernel_rfl)).trans rfl;have e0':=gDq e0;have d9:A.tmps.getD 33 undef=.string ((ByteArray.mk L.toArray)++⟨[dg (r:Int)].toArray⟩):=hD 9 (by kernel_rfl);have d9':=gDq d9;have HK:=hdd (show ∀ v W',Below W.heap.size W W'→(v=.string ((ByteArray.mk L.toArray)++⟨[dg (r:Int)].toArray⟩))→K (A.put (some 2) v) W' from hK.out);clear hA hD hK;go_simp;exact HK.out _ _ (Below.refl _ _) rfl
  | n+11,ho=>
   simp at ho
 case fin=>
  intro vs W hW h;have hlast:vs 10=.string ((ByteArray.mk L.toArray)++⟨[dg (r:Int)].toArray⟩):=h 10 (by simp);have HBW:=hdd hW;rw[invA_lit [none,none,some 10,none,none,none,none,none,none,none,none,none,none,none,none,none,none,none,none,none,none,none,none,none,some 0,some 1,some 2,some 3,some 4,some 5,some 6,some 7,some 8,some 9] (by kernel_rfl) rfl];simp only[List.zipWith_cons_cons,List.zipWith_nil_left];rw[hlast];clear h hlast hW;go_wp2;go_ret;exact ⟨(show Ending.returned (.string ((ByteArray.mk L.toArray)++⟨[dg (r:Int)].toArray⟩))=_ by rw[HD.out]; first | rfl | (congr 2) | (congr 2; apply ByteArray.ext; simp)),HBW.out⟩
theorem known_any (n:Int) (w:World) (h:n≤1000000000000):
  Calls Tryz.prog 103 #[.int .i64 n] w fun e w'=>e=.returned (strV (tellB n))∧Below w.heap.size w w':=by
 by_cases hn:n<0
 ·have HT:=hdd (show tellB n=wNone by unfold tellB; rw[if_pos hn])
  go_enter Tryz.func103,Tryz.ntmps103;go_wp2;go_ret;exact ⟨by rw[HT.out]; rfl,Below.refl _ _⟩
 ·obtain ⟨u,rfl⟩:∃ u:Nat,n=u:=⟨n.toNat,by omega⟩
  have HT:=hdd (show tellB (u:Int)=Lib.decDigits u by unfold tellB; rw[if_neg hn,Int.toNat_natCast]);have hI:=l1NumN u w (by omega);unfold strV at hI ⊢;go_enter Tryz.func103,Tryz.ntmps103;go_wp2_with fail;refine hI.mono ?_;rintro e w2 ⟨rfl,hb2⟩;have HB2:=hdd hb2;clear hI hb2;go_wp2;go_ret;exact ⟨by rw[HT.out]; rfl,HB2.out⟩
end
section
open Go Go.RowKit
section
variable {P:Program} {l:List Oper} {Q:Exit→Act→World→Prop} {a0:Act} {w0:World} {dst:Nat→Nat} {Φ:Nat→Value→World→Prop}
def InvN (Rel:World→World→Prop) (l:List Oper) (a0:Act) (w0:World) (dst:Nat→Nat) (Φ:Nat→Value→World→Prop) (c e:Nat) (done:Array Bool) (a:Act) (w:World):Prop:=
 done.size=l.length∧Rel w0 w∧∃ vs,a=invA dst l.length a0 done vs∧(∀ k,k<l.length→done.getD k false=true→Φ k (vs k) w)∧(done.getD c false=true→done.getD e false=true∧vs c=vs e)
theorem put_out {a:Act} {d:Nat} (h:a.tmps.size≤d) (v:Value):a.put (some d) v=a:=by
 unfold Act.put;have:a.tmps.setIfInBounds d v=a.tmps:=by simp[Array.setIfInBounds,Nat.not_lt.2 h]
 simp only[this]
theorem invA_size (dst:Nat→Nat) (n:Nat) (a0:Act) (done:Array Bool) (vs:Nat→Value):(invA dst n a0 done vs).tmps.size=a0.tmps.size:=by
 unfold invA;simp[invL_len]
theorem inv_anyN {Rel:World→World→Prop} {c e:Nat} (htr:∀ a b c:World,Rel a b→Rel b c→Rel a c) (hdst:∀ i (h:i<l.length),i≠c→l[i].dst=some (dst i)) (hdstc:∀ (h:c<l.length),l[c].dst=none) (hinj:∀ i,i<l.length→invIdx dst l.length (dst i)=some i) (hsz:∀ i,i<l.length→i≠c→dst i<a0.tmps.size) (hszc:a0.tmps.size≤dst c) (hdag:∀ i (h:i<l.length),∀ k∈invDeps l[i],k<i)
  (hc:c<l.length) (hec:e∈invDeps l[c])
  (hmono:∀ k v w w',Φ k v w→Rel w w'→Φ k v w')
  (hstep:∀ i (h:i<l.length),i≠c→∀ (A:Act) (W:World),Rel w0 W→(∀ t,invIdx dst l.length t=none→A.tmps.getD t undef=a0.tmps.getD t undef)→(∀ k∈invDeps l[i],k≠c→Φ k (A.tmps.getD (dst k) undef) W) →
   ∀ K:Act→World→Prop,Hid (∀ v W',Rel W W'→Φ i v W'→K (A.put (some (dst i)) v) W')→if Region.wanted l[i] (yielded l.toArray A.tmps)=true then Oper.wp P l[i] A W K Q else K (A.put l[i].dst undef) W)
  (hstepc:∀ (A:Act) (W:World),Rel w0 W→(∀ t,invIdx dst l.length t=none→A.tmps.getD t undef=a0.tmps.getD t undef)→(∀ k∈invDeps l[c],k≠c→Φ k (A.tmps.getD (dst k) undef) W) →
   ∀ K:Act→World→Prop,Hid (∀ W',Rel W W'→Φ c (A.tmps.getD (dst e) undef) W'→K A W')→if Region.wanted l[c] (yielded l.toArray A.tmps)=true then Oper.wp P l[c] A W K Q else K (A.put l[c].dst undef) W)
  (hend:∀ vs W,Rel w0 W→(∀ k,k<l.length→Φ k (vs k) W)→vs c=vs e→Q .normal (invA dst l.length a0 (Array.replicate l.length true) vs) W):
  ∀ (n:Nat) (done:Array Bool) (a:Act) (w:World),InvN Rel l a0 w0 dst Φ c e done a w→invLeft done=n→wpAny P .any l.toArray Q n done a w:=by
 have fin:∀ (done:Array Bool) (a:Act) (w:World),InvN Rel l a0 w0 dst Φ c e done a w→(∀ i,i<l.length→done.getD i false=true)→Q .normal a w:=by
  rintro done a w ⟨hs,hB,vs,rfl,hv,hce⟩ h;have e':=inv_full hs h;rw[e'];exact hend vs w hB (fun k hk=>hv k hk (h k hk)) (hce (h c hc)).2
 intro n
 induction n with
 | zero=>
  intro done a w hI hz;have hall:=inv_zero hI.1 hz;refine ⟨?_,fin done a w hI hall⟩
  rcases q:Region.ready .any l.toArray done with _ | ⟨j,r⟩
  ·rfl
  ·exfalso
   have hj:j∈Region.ready .any l.toArray done:=by rw[q]; simp
   obtain ⟨h1,o,h2,_⟩:=mem_ready.1 hj;have hlt:j<l.length:=by simpa using (Array.getElem?_eq_some_iff.1 h2).1
   have h3:=hall j hlt;have h4:j<done.size:=by have:=hI.1; omega
   simp only[Array.getD_eq_getD_getElem?,Array.getElem?_eq_getElem h4,Option.getD_some] at h1 h3;rw[h1] at h3
   cases h3
 | succ n ih=>
  intro done a w hI hn;refine ⟨fun hr=>fin done a w hI (inv_all hI.1 hdag hr),fun i hi=>?_⟩;obtain ⟨h1,o,h2,h3⟩:=mem_ready.1 hi;have hlt:i<l.length:=by simpa using (Array.getElem?_eq_some_iff.1 h2).1
  have ho:o=l[i]:=by simpa [hlt] using h2.symm
  subst ho;obtain ⟨hs,hB,vs,rfl,hv,hce⟩:=hI;have hls:i<done.size:=by omega
  have hund:done.getD i false=false:=by
   simp only[Array.getD_eq_getD_getElem?,Array.getElem?_eq_getElem hls,Option.getD_some] at h1 ⊢;exact h1
  have hdep:∀ k∈invDeps l[i],done.getD k false=true:=by
   intro k hk;obtain ⟨e',he,rfl⟩:=List.mem_map.1 hk;obtain ⟨he1,he2⟩:=List.mem_filter.1 he;exact h3 e' (by simpa using he1) he2
  have hval:∀ k∈invDeps l[i],k≠c→(invA dst l.length a0 done vs).tmps.getD (dst k) undef=vs k:=fun k hk hkc=>by
   have hkl:=hdag i hlt k hk;exact invA_done (hinj k (by omega)) (hsz k (by omega) hkc) (hdep k hk)
  have hΦd:∀ k∈invDeps l[i],k≠c→Φ k ((invA dst l.length a0 done vs).tmps.getD (dst k) undef) w:=fun k hk hkc=>by
   have hkl:=hdag i hlt k hk;rw[hval k hk hkc];exact hv k (by omega) (hdep k hk)
  have next:∀ v W',Rel w W'→Φ i v W'→(i=c→v=vs e)→wpAny P .any l.toArray Q n (done.setIfInBounds i true) ((invA dst l.length a0 done vs).put (some (dst i)) v) W':=fun v W' hb hΦ hvc=>by
   refine ih (done.setIfInBounds i true) _ W' ⟨by simpa using hs,htr _ _ _ hB hb,fun k=>if k=i then v else vs k,invA_put (hinj i hlt) hls hund v,fun k hk hd=>?_,fun hd=>?_⟩ (by have:=invLeft_set hls hund; omega)
   ·by_cases e':k=i
    ·subst e'
     simp only[if_true];exact hΦ
    ·rw[Go.getD_set_ne false (Ne.symm e')] at hd
     simp only[if_neg e'];exact hmono k _ _ _ (hv k hk hd) hb
   ·by_cases ei:c=i
    ·subst ei
     have hed:=hdep e hec;have hne:¬e=c:=fun q=>by have:=hdag c hlt e hec; omega
     refine ⟨by rw[Go.getD_set_ne false (Ne.symm hne)]; exact hed,?_⟩;simp only[if_true,if_neg hne];exact hvc rfl
    ·rw[Go.getD_set_ne false (Ne.symm ei)] at hd
     obtain ⟨q1,q2⟩:=hce hd;have hne:¬e=i:=fun q=>by subst q; rw[hund] at q1; cases q1
     refine ⟨by rw[Go.getD_set_ne false (Ne.symm hne)]; exact q1,?_⟩;simp only[if_neg ei,if_neg hne];exact q2
  refine wpOp_step h2 fun K' hK'=>?_
  by_cases eic:i=c
  ·subst eic
   refine hstepc _ w hB (fun t ht=>invA_other ht) hΦd K' (hdd fun W' hb hΦ=>?_);have hve:=hval e hec (fun q=>by have:=hdag i hlt e hec; omega);have:=hK' _ _ (next _ W' hb hΦ (fun _=>hve))
   rwa [put_out (by rw[invA_size]; exact hszc)] at this
  ·exact hstep i hlt eic _ w hB (fun t ht=>invA_other ht) hΦd K' (hdd fun v W' hb hΦ=>hK' _ _ (next v W' hb hΦ (fun q=>absurd q eic)))
def invChkN (l:List Oper) (dst:Nat→Nat) (m c e:Nat):Bool:=decide (c<l.length)&&decide (m≤dst c)&&(List.range l.length).all fun i=>match l[i]? with
 | some o=>(if i=c then o.dst==none&&(invDeps o).contains e else o.dst==some (dst i)&&decide (dst i<m))&&(invIdx dst l.length (dst i)==some i)&&(invDeps o).all (fun k=>decide (k<i))
 | none=>false
theorem invChkN_at {dst:Nat→Nat} {m c e i:Nat} (h:invChkN l dst m c e=true) (hi:i<l.length):(i=c→l[i].dst=none∧e∈invDeps l[i])∧(i≠c→l[i].dst=some (dst i)∧dst i<m)∧invIdx dst l.length (dst i)=some i∧(∀ k∈invDeps l[i],k<i):=by
 unfold invChkN at h;rw[Bool.and_eq_true] at h;have h2:=List.all_eq_true.1 h.2 i (List.mem_range.2 hi);rw[List.getElem?_eq_getElem hi] at h2;simp only[Bool.and_eq_true,List.all_eq_true,decide_eq_true_eq,beq_iff_eq,List.contains_eq_mem] at h2;obtain ⟨⟨h3,h4⟩,h5⟩:=h2;refine ⟨fun q=>?_,fun q=>?_,h4,h5⟩
 ·rw[if_pos q] at h3
  simpa using h3
 ·rw[if_neg q] at h3
  simpa using h3
theorem wp_region_invN {Rel:World→World→Prop} {id:Nat} (c e:Nat) (htr:∀ a b c:World,Rel a b→Rel b c→Rel a c) (hrd:∀ w:World,Rel w w.drew) (hm:P.follows .mixedOrders=true) (dst:Nat→Nat) (m:Nat) (Φ:Nat→Value→World→Prop) (hsz:a0.tmps.size=m) (hchk:invChkN l dst m c e=true)
  (hmono:∀ k v w w',Φ k v w→Rel w w'→Φ k v w')
  (hstep:∀ i o,l[i]?=some o→∀ (A:Act) (W:World),Rel w0 W→(∀ t,invIdx dst l.length t=none→A.tmps.getD t undef=a0.tmps.getD t undef)→(∀ k,k≠c→(invDeps o).contains k=true→Φ k (A.tmps.getD (dst k) undef) W) →
   ∀ K:Act→World→Prop,Hid (∀ v W',Rel W W'→Φ i v W'→(i=c→v=A.tmps.getD (dst e) undef)→K (if i=c then A else A.put (some (dst i)) v) W')→if Region.wanted o (yielded l.toArray A.tmps)=true then Oper.wp P o A W K Q else K (A.put o.dst undef) W)
  (hend:∀ vs W,Rel w0 W→(∀ k,k<l.length→Φ k (vs k) W)→vs c=vs e→Q .normal (invA dst l.length a0 (Array.replicate l.length true) vs) W):(Code.region id l.toArray true).wp P Q a0 w0:=by
 refine wp_region_any hm ?_;have hcl:c<l.length∧m≤dst c:=by
  unfold invChkN at hchk;simp only[Bool.and_eq_true,decide_eq_true_eq] at hchk;exact hchk.1
 have hnone:∀ k,(Array.replicate l.toArray.size false).getD k false=false:=fun k=>by
  simp only[Array.getD_eq_getD_getElem?]
  rcases q:(Array.replicate l.toArray.size false)[k]? with _ | b
  ·rfl
  ·obtain ⟨_,q2⟩:=Array.getElem?_eq_some_iff.1 q
   simp at q2;simp[←q2]
 refine inv_anyN (c:=c) (e:=e) (w0:=w0) (a0:=a0) htr (fun i h q=>((invChkN_at hchk h).2.1 q).1) (fun h=>((invChkN_at hchk h).1 rfl).1) (fun i h=>(invChkN_at hchk h).2.2.1) (fun i h q=>by rw[hsz]; exact ((invChkN_at hchk h).2.1 q).2) (by rw[hsz]; exact hcl.2) (fun i h=>(invChkN_at hchk h).2.2.2)
  hcl.1 ((invChkN_at hchk hcl.1).1 rfl).2 hmono
  (fun i h q A W hB hA hD K hK=>hstep i l[i] (List.getElem?_eq_getElem h) A W hB hA (fun k hkc hk=>hD k (by simpa using hk) hkc) K (hdd fun v W' h1 h2 _=>by rw[if_neg q]; exact hK.out v W' h1 h2))
  (fun A W hB hA hD K hK=>hstep c l[c] (List.getElem?_eq_getElem hcl.1) A W hB hA (fun k hkc hk=>hD k (by simpa using hk) hkc) K (hdd fun v W' h1 h2 h3=>by rw[if_pos rfl]; exact hK.out W' h1 ((h3 rfl) ▸ h2))) hend _ _ _ _ ⟨by simp,hrd w0,fun _=>undef,?_,fun k _ hk=>?_,fun hk=>?_⟩ (by simpa using invLeft_none l.length)
 ·unfold invA
  rw[invL_none l.length _ _ hnone]
 ·rw[hnone] at hk; cases hk
 ·rw[hnone] at hk; cases hk
end
end
section
open Go.RowKit
set_option maxRecDepth 100000
def wOk:List UInt8:=[111,107]
def wNo:List UInt8:=[110,111]
def SayOut (p c:Int) (gs:List Gs) (l:List UInt8) (w:World) (e:Ending) (w':World):Prop:=
 ∃ a cap cap2,e=.returned (.tuple #[dkV p c (.slice a gs.length cap2),strV l])∧gs.length≤cap2∧cap2≤9223372036854775807∧OwnG w.heap.size w' (.slice a gs.length cap) gs∧Below w.heap.size w w'
theorem say_ret {w w4:World} {R:Nat} {p c:Int} {gs:List Gs} {a4:Option Addr} {c4 cap2:Nat} (l:List UInt8) (hR:w4.heap[R]?=some (.cells #[.int .i64 0,.int .i64 0,.slice none 0 0] 30 (0,0))) (hRB:w.heap.size≤R)
  (ho:OwnG w.heap.size w4 (.slice a4 gs.length c4) gs) (hb:Below w.heap.size w w4) (h1:gs.length≤cap2) (h2:cap2≤9223372036854775807):
  SayOut p c gs l w (.returned (.tuple #[dkV p c (.slice a4 gs.length cap2),strV l])) (((w4.setCell ⟨R,0,none⟩ (.int .i64 p)).setCell ⟨R,1,none⟩ (.int .i64 c)).setCell ⟨R,2,none⟩ (.slice a4 gs.length cap2)) ∧
   (((w4.setCell ⟨R,0,none⟩ (.int .i64 p)).setCell ⟨R,1,none⟩ (.int .i64 c)).setCell ⟨R,2,none⟩ (.slice a4 gs.length cap2)).heap[R]?=some (.cells #[.int .i64 p,.int .i64 c,.slice a4 gs.length cap2] 30 (0,0)):=by
 have q1:=heap_setCell_same _ _ 0 _ _ (.int .i64 p) hR;have q2:=heap_setCell_same _ _ 1 _ _ (.int .i64 c) q1;have q3:=heap_setCell_same _ _ 2 _ _ (.slice a4 gs.length cap2) q2;exact ⟨⟨a4,c4,cap2,rfl,h1,h2,((ho.other hR).other q1).other q2,((hb.setCell (p:=⟨R,0,none⟩) hRB _).setCell (p:=⟨R,1,none⟩) hRB _).setCell (p:=⟨R,2,none⟩) hRB _⟩,q3⟩
set_option maxHeartbeats 4000000 in
theorem sayD_any {B:Nat} (p c:Int) (v:Value) (gs:List Gs) (l:List UInt8) (d:Dd) (w:World) (hm:MaxIs w) (h:RG B w v gs) (hl:l.length≤2000000) (hd:readD l=some d) (hlen:gs.length≤100) (hc:∀ g∈gs,g.code.length≤2000000):
  Calls Tryz.prog 52 #[dkV p c v,strV l] w (SayOut p c (doneG p c gs d).1 (if (doneG p c gs d).2=true then wOk else wNo) w):=by
 have HRG:=hdd h;have HC:=hdd hc;obtain ⟨a,cap,rfl⟩:=h.shape;obtain ⟨w1,hw1⟩:∃ w1,w1=(w.alloc (.cells #[.int .i64 p,.int .i64 c,.slice a gs.length cap] 30)).alloc (.cells #[.int .i64 0,.int .i64 0,.slice none 0 0] 30):=⟨_,rfl⟩
 have hb1:Below w.heap.size w w1:=by rw[hw1]; exact ((Below.refl _ _).alloc (Nat.le_refl _) _).alloc (by simp) _
 have hs1:w1.heap.size=w.heap.size+2:=by rw[hw1]; simp
 have hz0:At w1 w.heap.size (.cells #[.int .i64 p,.int .i64 c,.slice a gs.length cap] 30):=by
  rw[hw1]; exact (At.new w _).below ((Below.refl _ _).alloc (Nat.le_refl _) _)
 have hz1:At w1 (w.heap.size+1) (.cells #[.int .i64 0,.int .i64 0,.slice none 0 0] 30):=by
  rw[hw1]; have q:=At.new (w.alloc (.cells #[.int .i64 p,.int .i64 c,.slice a gs.length cap] 30)) (.cells #[.int .i64 0,.int .i64 0,.slice none 0 0] 30); rw[World.size_alloc] at q; exact q
 obtain ⟨hd1,hd2⟩:=rd_some hd;have hcode:=rd_code l;rw[hd1] at hcode;have hI:=readDeedI_any l w1 (by omega) (hm.below hb1);unfold ReadOut at hI;rw[hd1,hd2] at hI;obtain ⟨b,ys,r,n⟩:=d;simp only at hI hcode;have HB1:=hdd hb1;have HS1:=hdd hs1;have HZ0:=hdd hz0;have HZ1:=hdd hz1;unfold strV dV at hI;unfold dkV strV;have hy3:=hcode.1;have HY64:=hdd (show ∀ y∈ys,In64 y from fun y hy=>by have:=hcode.2 y hy; unfold In64; omega);obtain ⟨gs',hgs'⟩:∃ z,z=(doneG p c gs ⟨b,ys,r,n⟩).1:=⟨_,rfl⟩
 obtain ⟨ok,hok⟩:∃ z,z=(doneG p c gs ⟨b,ys,r,n⟩).2:=⟨_,rfl⟩
 have HSAME:=hdd (show ok=false→gs'=gs from fun q=>by rw[hgs']; exact done_same (by rw[←hok]; exact q));rw[←hgs',←hok];obtain ⟨an,han⟩:∃ z,z=(if ok=true then wOk else wNo):=⟨_,rfl⟩
 rw[←han];have HAN:=hdd han;have HGS:=hdd hgs';have HOKK:=hdd hok;clear h hc hb1 hs1 hz0 hz1 hd hd1 hd2 hcode hm hgs' hok han;go_enter Tryz.func52,Tryz.ntmps52;go_wp2_with fail;rw[←hw1];clear hw1;refine hI.mono ?_;rintro e w2 ⟨a2,k2,rfl,ho2,hb2⟩;obtain ⟨w3,hw3⟩:∃ z,z=w2.alloc (.cells #[.bool b,.slice a2 ys.length k2,.int .i64 r,.int .i64 n] 41):=⟨_,rfl⟩
 have hb23:Below w2.heap.size w2 w3:=by rw[hw3]; exact (Below.refl _ _).alloc (Nat.le_refl _) _
 have hR3:At w3 w2.heap.size (.cells #[.bool b,.slice a2 ys.length k2,.int .i64 r,.int .i64 n] 41):=by rw[hw3]; exact At.new w2 _
 have HB13:=hdd (hb2.trans (hb23.mono hb2.size));have HB3:=hdd (HB1.out.trans (HB13.out.mono HB1.out.size));have HZ0:=hdd (HZ0.out.below HB13.out);have HZ1:=hdd (HZ1.out.below HB13.out);have HU3:=hdd (OwnI.below ho2 hb23);have hD:=done_any p c _ gs b _ ys r n w3 (HRG.out.below HB3.out) (HU3.out.toInts HY64.out) (OwnI.nilOr HU3.out) hlen HC.out (by omega);rw[←HGS.out,←HOKK.out] at hD;unfold dkV dV at hD;obtain ⟨x0,x1,x2⟩:=HZ0.out.three;obtain ⟨y0,y1,y2,y3⟩:=hR3.four;clear hI ho2 hb2 hb23 hR3;go_upto_region 2 with fail;rw[←hw3];clear hw3;go_wp2_with fail;refine hD.mono ?_;rintro e w4 ⟨a4,c4,k4,rfl,q1,q2,ho4,hb4⟩;unfold dkV;obtain ⟨w5,hw5⟩:∃ z,z=w4.alloc (.cells #[.int .i64 p,.int .i64 c,.slice a4 gs'.length k4] 30):=⟨_,rfl⟩
 have hb45:Below w4.heap.size w4 w5:=by rw[hw5]; exact (Below.refl _ _).alloc (Nat.le_refl _) _
 have hR5:At w5 w4.heap.size (.cells #[.int .i64 p,.int .i64 c,.slice a4 gs'.length k4] 30):=by rw[hw5]; exact At.new w4 _
 have HB35:=hdd (hb4.trans (hb45.mono hb4.size));have HB5:=hdd (HB3.out.trans (HB35.out.mono HB3.out.size));have HZ0:=hdd (HZ0.out.below HB35.out);have HZ1:=hdd (HZ1.out.below HB35.out);have HO5:=hdd (show OwnG w.heap.size w5 (.slice a4 gs'.length c4) gs' from (ho4.below hb45).mono HB3.out.size);obtain ⟨u0,u1,u2⟩:=hR5.three;clear hD ho4 hb4 hb45 x0 x1 x2 y0 y1 y2 y3 hR5;go_upto_region 4 with fail;rw[←hw5];clear hw5
 cases ok
 ·have hgg:=HSAME.out rfl
  have ha:=HAN.out;rw[if_neg (by simp)] at ha;subst hgg;subst ha;clear HGS HOKK HAN;have hT:=dcop_any p c _ gs' w5 (HRG.out.below HB5.out) (by omega) HC.out;unfold dkV at hT;obtain ⟨x0,x1,x2⟩:=HZ0.out.three;clear u0 u1 u2;go_wp2_with fail;refine hT.mono ?_;rintro e w6 ⟨a6,c6,rfl,ho6,hb6⟩;unfold dkV;have hR6:=HZ1.out.below hb6;obtain ⟨q6,q7⟩:=ho6.caps;obtain ⟨r0,r1,r2,rf⟩:=zero_cells hR6;have HF:=hdd (say_ret (w:=w) (p:=p) (c:=c) wNo hR6 (by omega) (ho6.mono HB5.out.size) (HB5.out.trans (hb6.mono HB5.out.size)) q6 q7);clear hT ho6 hb6 hR6 x0 x1 x2;go_wp2
  ((try simp only[Exit.inBlock,Exit.then]); refine bodyPost_ret (results_cell_tmp rfl _ _ (w.heap.size+1) _ _ (0,0) _ rfl HF.out.2 Tryz.underlying30 rfl (by kernel_rfl)) rfl ?_)
  exact HF.out.1
 ·have ha:=HAN.out
  rw[if_pos rfl] at ha;subst ha;clear HAN;obtain ⟨r0,r1,r2,rf⟩:=zero_cells HZ1.out;have HF:=hdd (say_ret (w:=w) (p:=p) (c:=c) wOk HZ1.out (by omega) HO5.out HB5.out q1 q2);go_wp2
  ((try simp only[Exit.inBlock,Exit.then]); refine bodyPost_ret (results_cell_tmp rfl _ _ (w.heap.size+1) _ _ (0,0) _ rfl HF.out.2 Tryz.underlying30 rfl (by kernel_rfl)) rfl ?_)
  exact HF.out.1
end
section
open Go.RowKit Go.Shelf
set_option maxRecDepth 100000
theorem sameI_any {B C:Nat} (a b:Value) (xs ys:List Int) (w:World) (ha:Ints B w a xs) (hb:Ints C w b ys):
  Calls Tryz.prog 98 #[a,b] w (Quiet (.bool (decide (xs=ys))) w):=by
 obtain ⟨a,cap,rfl,hcap,hmax,hcells⟩:=ha.opened;obtain ⟨b,cap',rfl,hcap',hmax',hcells'⟩:=hb.opened;clear ha hb
 by_cases hl:xs.length=ys.length
 ·have hl1:((xs.length:Int) != (ys.length:Int))=false:=by rw[bne_eq_false_iff_eq]; omega
  have hl2:xs.length≤ys.length:=by omega
  have hl3:ys.length≤xs.length:=by omega
  clear hl;go_enter Tryz.func98,Tryz.ntmps98;go_wp2;go_loopw [5] (fun i wr=>∃ k q:Nat,k≤xs.length∧i=.int .i64 k∧xs.take k=ys.take k∧wr=w.drewN q) (fun i _=>xs.length-(intOf i).toNat)
  case atStart=>exact ⟨0,0,Nat.zero_le _,rfl,rfl,rfl⟩
  case round=>
   obtain ⟨k,q,hk,rfl,ht,rfl⟩:=hrel;have HT:=hdd ht;clear ht
   by_cases hlt:k<xs.length
   ·obtain ⟨b1,o1,rfl,_,hc⟩:=hcells (by omega)
    obtain ⟨b2,o2,rfl,_,hc'⟩:=hcells' (by omega);have hck:=hc k hlt;have hck':=hc' k (by omega);have hlt':k<ys.length:=by omega
    have hi0:(0:Int)≤(k:Int):=by omega
    have hi1:(k:Int)<(xs.length:Int):=by omega
    have hi2:(k:Int)<(ys.length:Int):=by omega
    clear hc hcells hc' hcells'
    by_cases he:xs[k]=ys[k]
    ·have he1:(xs[k] != ys[k])=false:=by simpa using he
     have HE:=hdd he;clear he;go_wp2;go_quiet (fail);go_wp2;go_roundw
     case rel=>exact ⟨k+1,_,by omega,by go_num,take_eq_succ hlt hlt' HT.out HE.out,rfl⟩
     case measure=>simp[intOf]; omega
    ·have he1:(xs[k] != ys[k])=true:=by simpa using he
     have HE:=hdd (ne_of_get hlt hlt' he);clear he;go_wp2;go_quiet (fail);go_wp2;go_ret;exact ⟨ret_bool (by simp[HE.out]),q+nq,by simp⟩
   ·go_wp2
    go_ret;have e:xs=ys:=by
     have:=HT.out
     rwa [List.take_of_length_le (by omega),List.take_of_length_le (by omega)] at this
    exact ⟨ret_bool (by simp[e]),_,rfl⟩
 ·have hl1:((xs.length:Int) != (ys.length:Int))=true:=by simp; omega
  have HE:=hdd (show ¬xs=ys from fun e=>hl (by rw[e]));clear hl;go_enter Tryz.func98,Tryz.ntmps98;go_wp2;go_ret;exact ⟨ret_bool (by simp[HE.out]),0,rfl⟩
set_option maxHeartbeats 2000000 in
theorem sameGuesses_self {B C:Nat} (v v':Value) (gs:List Gs) (w:World) (h:GL B w v gs) (h':GL C w v' gs):
  Calls Tryz.prog 62 #[v,v'] w fun e w'=>e=.returned (.bool true)∧Below w.heap.size w w':=by
 obtain ⟨a,cap,V,rfl,hcap,hmax,hcells,hV⟩:=h;obtain ⟨a',cap',V',rfl,hcap',hmax',hcells',hV'⟩:=h';go_enter Tryz.func62,Tryz.ntmps62;go_wp2;go_loopw [5] (fun i wr=>∃ k:Nat,k≤gs.length∧i=.int .i64 k∧Below w.heap.size w wr) (fun i _=>gs.length-(intOf i).toNat)
 case atStart=>exact ⟨0,Nat.zero_le _,rfl,Below.refl _ _⟩
 case round=>
  obtain ⟨k,hk,rfl,hb⟩:=hrel;obtain ⟨wk,rfl⟩:∃ x,x=wr:=⟨_,rfl⟩
  by_cases hlt:k<gs.length
  ·obtain ⟨b,off,rfl,_,hc⟩:=hcells (by omega)
   obtain ⟨b',off',rfl,_,hc'⟩:=hcells' (by omega);obtain ⟨c1,c2,c3⟩:=hc k hlt;obtain ⟨e1,e2,e3⟩:=hc' k hlt;obtain ⟨av,cv,hvv,_⟩:=(hV k hlt).opened;obtain ⟨av',cv',hvv',_⟩:=(hV' k hlt).opened;have hVk:=hV k hlt;have hVk':=hV' k hlt;obtain ⟨x,hx⟩:∃ x,x=gs[k]:=⟨_,rfl⟩
   rw[←hx] at c2 c3 e2 e3 hvv hvv' hVk hVk';rw[hvv] at c1 hVk;rw[hvv'] at e1 hVk';have K1:∀ z:GrownC wk,z.val.cell? ⟨b,off+k*3,none⟩=some (.slice av x.code.length cv):=fun z=>(Above.of_below (B:=0) (hb.trans (z.ok.mono hb.size))).cell (Nat.zero_le _) c1
   have K2:∀ z:GrownC wk,z.val.cell? ⟨b,off+k*3+1,none⟩=some (.int .i64 x.right):=fun z=>(Above.of_below (B:=0) (hb.trans (z.ok.mono hb.size))).cell (Nat.zero_le _) c2
   have K3:∀ z:GrownC wk,z.val.cell? ⟨b,off+k*3+2,none⟩=some (.int .i64 x.near):=fun z=>(Above.of_below (B:=0) (hb.trans (z.ok.mono hb.size))).cell (Nat.zero_le _) c3
   have L1:∀ z:GrownC wk,z.val.cell? ⟨b',off'+k*3,none⟩=some (.slice av' x.code.length cv'):=fun z=>(Above.of_below (B:=0) (hb.trans (z.ok.mono hb.size))).cell (Nat.zero_le _) e1
   have L2:∀ z:GrownC wk,z.val.cell? ⟨b',off'+k*3+1,none⟩=some (.int .i64 x.right):=fun z=>(Above.of_below (B:=0) (hb.trans (z.ok.mono hb.size))).cell (Nat.zero_le _) e2
   have L3:∀ z:GrownC wk,z.val.cell? ⟨b',off'+k*3+2,none⟩=some (.int .i64 x.near):=fun z=>(Above.of_below (B:=0) (hb.trans (z.ok.mono hb.size))).cell (Nat.zero_le _) e3
   have hC:∀ z:GrownC wk,Calls Tryz.prog 98 #[.slice av x.code.length cv,.slice av' x.code.length cv'] z.val (fun e w''=>e=.returned (.bool true)∧∃ z':GrownC wk,w''=z'.val):=fun z=>
    (sameI_any _ _ x.code x.code z.val (hVk.below (hb.trans (z.ok.mono hb.size))) (hVk'.below (hb.trans (z.ok.mono hb.size)))).mono (fun e w'' ⟨he,hq⟩=>⟨by rw[he]; simp,⟨w'',z.ok.trans ((show Drawn z.val w'' from hq).below.mono z.ok.size)⟩,rfl⟩)
   have r1:(x.right != x.right)=false:=by simp
   have r2:(x.near != x.near)=false:=by simp
   have HB:=hdd hb;have hk0:(0:Int)≤(k:Int):=by omega
   have hk1:(k:Int)<(gs.length:Int):=by omega
   clear hc hc' hcells hcells' hV hV' hvv hvv' hVk hVk' hx hb c1 c2 c3 e1 e2 e3;go_wp2;refine wp_region_grownC (by kernel_rfl) (by kernel_rfl) ?_
   repeat (first | go_big_quiet_skip | (go_big_quiet_want; go_big_quiet_op; first | go_big_quiet_on | go_big_quiet_call ((go_at_call 98; exact hC _))))
   refine wpQuiet_nil ?_;intro w8 hw8;obtain ⟨z8,hz8⟩:=hw8;have HB8:=hdd (HB.out.trans (z8.ok.mono HB.out.size));rw[←hz8] at HB8;clear hz8;go_wp2;go_roundw
   case rel=>exact ⟨k+1,by omega,by go_num,HB8.out⟩
   case measure=>simp[intOf]; omega
  ·have HB:=hdd hb
   clear hcells hcells' hV hV' hb;go_wp2;go_ret;exact ⟨rfl,HB.out⟩
theorem sameDesk_self {B C:Nat} (p c:Int) (v v':Value) (gs:List Gs) (w:World) (h:GL B w v gs) (h':GL C w v' gs):
  Calls Tryz.prog 18 #[dkV p c v,dkV p c v'] w fun e w'=>e=.returned (.bool true)∧Below w.heap.size w w':=by
 have hsh:∃ a cap,v=.slice a gs.length cap:=by obtain ⟨a,cap,_,hv,_⟩:=h; exact ⟨a,cap,hv⟩
 obtain ⟨a,cap,rfl⟩:=hsh;have hsh:∃ a cap,v'=.slice a gs.length cap:=by obtain ⟨a,cap,_,hv,_⟩:=h'; exact ⟨a,cap,hv⟩
 obtain ⟨a',cap',rfl⟩:=hsh;have hb1:Below w.heap.size w ((w.alloc (.cells #[.int .i64 p,.int .i64 c,.slice a gs.length cap] 30)).alloc (.cells #[.int .i64 p,.int .i64 c,.slice a' gs.length cap'] 30)):=((Below.refl _ _).alloc (Nat.le_refl _) _).alloc (by simp) _;have hE:=sameGuesses_self _ _ gs _ (h.below hb1) (h'.below hb1);have HB1:=hdd hb1;have e1:(p==p)=true:=by simp
 have e2:(c==c)=true:=by simp
 unfold dkV;clear h h' hb1;go_enter Tryz.func18,Tryz.ntmps18;go_wp2_with fail;refine hE.mono ?_;rintro e w2 ⟨rfl,hb2⟩;have HB2:=hdd (HB1.out.trans (hb2.mono HB1.out.size));clear hE hb2;go_wp2;go_ret;exact ⟨rfl,HB2.out⟩
end
section
open Go.RowKit
set_option maxRecDepth 100000
theorem done_i64 {p c:Int} {gs:List Gs} {d:Dd} (h64:In64G gs) (hx:∀ y∈d.code,In64 y):In64G (doneG p c gs d).1:=by
 unfold doneG
 split
 ·split
  ·exact fun g hg=>h64 g (List.mem_of_mem_take hg)
  ·exact h64
 ·split
  ·exact h64.snoc (x:=d.gs) hx
  ·exact h64
theorem done_codes {p c:Int} {gs:List Gs} {d:Dd} {N:Nat} (h:∀ g∈gs,g.code.length≤N) (hx:d.code.length≤N):∀ g∈(doneG p c gs d).1,g.code.length≤N:=by
 unfold doneG
 split
 ·split
  ·exact fun g hg=>h g (List.mem_of_mem_take hg)
  ·exact h
 ·split
  ·intro g hg
   rcases List.mem_append.1 hg with q | q
   ·exact h g q
   ·rw[List.mem_singleton.1 q]; exact hx
  ·exact h
def RunOut (p c:Int) (gs:List Gs) (m:Int) (w:World) (e:Ending) (w':World):Prop:=
 ∃ a cap cap2,e=.returned (.tuple #[dkV p c (.slice a gs.length cap2),.int .i64 m])∧gs.length≤cap2∧cap2≤9223372036854775807∧OwnG w.heap.size w' (.slice a gs.length cap) gs∧Below w.heap.size w w'
theorem run_ret {w w4:World} {R:Nat} {p c:Int} {gs:List Gs} {v:Value} (m:Int) (hR:w4.heap[R]?=some (.cells #[.int .i64 0,.int .i64 0,.slice none 0 0] 30 (0,0))) (hRB:w.heap.size≤R)
  (ho:RG w.heap.size w4 v gs) (hb:Below w.heap.size w w4):
  RunOut p c gs m w (.returned (.tuple #[dkV p c v,.int .i64 m])) (((w4.setCell ⟨R,0,none⟩ (.int .i64 p)).setCell ⟨R,1,none⟩ (.int .i64 c)).setCell ⟨R,2,none⟩ v) ∧
   (((w4.setCell ⟨R,0,none⟩ (.int .i64 p)).setCell ⟨R,1,none⟩ (.int .i64 c)).setCell ⟨R,2,none⟩ v).heap[R]?=some (.cells #[.int .i64 p,.int .i64 c,v] 30 (0,0)):=by
 obtain ⟨a,cap,cap2,rfl,h1,h2,h3,_⟩:=ho;have q1:=heap_setCell_same _ _ 0 _ _ (.int .i64 p) hR;have q2:=heap_setCell_same _ _ 1 _ _ (.int .i64 c) q1;have q3:=heap_setCell_same _ _ 2 _ _ (.slice a gs.length cap2) q2;exact ⟨⟨a,cap,cap2,rfl,h1,h2,((h3.other hR).other q1).other q2,((hb.setCell (p:=⟨R,0,none⟩) hRB _).setCell (p:=⟨R,1,none⟩) hRB _).setCell (p:=⟨R,2,none⟩) hRB _⟩,q3⟩
theorem OwnG.rgcap {B:Nat} {w:World} {a:Option Addr} {cap cap2:Nat} {gs:List Gs} (h:OwnG B w (.slice a gs.length cap) gs) (h1:gs.length≤cap2) (h2:cap2≤9223372036854775807) (h64:In64G gs):RG B w (.slice a gs.length cap2) gs:=⟨a,cap,cap2,rfl,h1,h2,h,h64⟩
def RunW (w:World) (D R:Nat) (p c:Int) (v:Value) (gs:List Gs) (wr:World):Prop:=
 At wr D (.cells #[.int .i64 p,.int .i64 c,v] 30)∧At wr R (.cells #[.int .i64 0,.int .i64 0,.slice none 0 0] 30)∧RG w.heap.size wr v gs∧Below w.heap.size w wr∧w.heap.size≤D∧w.heap.size≤R∧D≠R
theorem RunW.below {w:World} {D R:Nat} {p c:Int} {v:Value} {gs:List Gs} {wr wj:World} (h:RunW w D R p c v gs wr) (hb:Below wr.heap.size wr wj):RunW w D R p c v gs wj:=by
 obtain ⟨h1,h2,h3,h4,h5⟩:=h;exact ⟨h1.below hb,h2.below hb,h3.below hb,h4.trans (hb.mono h4.size),h5⟩
theorem RunW.put {w:World} {D R:Nat} {p c:Int} {v0 v':Value} {p0 c0:Int} {gs':List Gs} {wr:World} (h1:At wr D (.cells #[.int .i64 p0,.int .i64 c0,v0] 30)) (h2:At wr R (.cells #[.int .i64 0,.int .i64 0,.slice none 0 0] 30)) (h4:Below w.heap.size w wr) (h5:w.heap.size≤D) (h6:w.heap.size≤R) (h7:D≠R) (hr:RG w.heap.size wr v' gs'):
  RunW w D R p c v' gs' (((wr.setCell ⟨D,0,none⟩ (.int .i64 p)).setCell ⟨D,1,none⟩ (.int .i64 c)).setCell ⟨D,2,none⟩ v'):=by
 have q1:=heap_setCell_same _ _ 0 _ _ (.int .i64 p) h1;have q2:=heap_setCell_same _ _ 1 _ _ (.int .i64 c) q1;have q3:=heap_setCell_same _ _ 2 _ _ v' q2;refine ⟨q3,?_,((hr.other h1).other q1).other q2,((h4.setCell (p:=⟨D,0,none⟩) h5 _).setCell (p:=⟨D,1,none⟩) h5 _).setCell (p:=⟨D,2,none⟩) h5 _,h5,h6,h7⟩;unfold At;rw[heap_setCell_other _ _ _ _ (by simp; omega),heap_setCell_other _ _ _ _ (by simp; omega),heap_setCell_other _ _ _ _ (by simp; omega)];exact h2
theorem below_anyL {w w':World} (h:Below w.heap.size w w') (K:Option Nat):w.grownBy w' K:=⟨h.os,h.tape,h.output,h.size,fun k hk _=>h.block k hk⟩
def LnW (w:World) (K:Nat) (a:Option Addr) (cap:Nat) (bs:List Int) (q:Int) (wi:World):Prop:=(∃ p',Rd wi K a cap bs p'∧p'≤q)∧w.grownBy wi (some K)
theorem LnW.size {w wi:World} {K:Nat} {a:Option Addr} {cap:Nat} {bs:List Int} {q:Int} (h:LnW w K a cap bs q wi):w.heap.size≤wi.heap.size:=h.2.size
theorem LnW.below {w wi w':World} {K:Nat} {a:Option Addr} {cap:Nat} {bs:List Int} {q:Int} (h:LnW w K a cap bs q wi) (hb:Below wi.heap.size wi w'):LnW w K a cap bs q w':=by
 obtain ⟨⟨p,h1,h2⟩,h3⟩:=h;exact ⟨⟨p,h1.below hb,h2⟩,grown_trans h3 (below_anyL hb (some K))⟩
theorem LnW.pick {w wi:World} {K:Nat} {a:Option Addr} {cap:Nat} {bs:List Int} {q n:Int} (h:LnW w K a cap bs q wi) (hq:q≤100000000000) (hn:In64 n):
  Calls Tryz.prog 41 #[.pointer (some ⟨K,0,none⟩),.int .i64 n] wi fun e w'=>∃ r,e=.returned (.int .i64 r)∧0≤r∧(1≤n→r<n)∧LnW w K a cap bs (q+1) w'∧Above (K+1) wi w':=by
 obtain ⟨⟨p,h1,h2⟩,h3⟩:=h;refine (pick_any n _ K a cap bs p h1 (by omega) hn).mono ?_;rintro e w' ⟨r,rfl,hr0,hr1,⟨p',hR,hp⟩,hg⟩;exact ⟨r,rfl,hr0,hr1,⟨⟨p',hR,by omega⟩,grown_trans h3 hg⟩,Above.of_grown hg (by omega)⟩
def LineDrawn (K:Nat) (a:Option Addr) (cap:Nat) (bs:List Int) (p:Int) (w:World) (e:Ending) (w':World):Prop:=∃ l:List UInt8,e=.returned (.string ⟨l.toArray⟩)∧l.length≤100∧LnW w K a cap bs (p+100) w'
theorem text_at {w:World} {N:Nat} (ts:List (List UInt8)) {fr:Nat×Nat} (h:w.heap[N]?=some (.cells ((ts.map strV).toArray) 9 fr)) {R:Nat} (hR:R<ts.length):w.cell? ⟨N,R,none⟩=some (.string ⟨ts[R].toArray⟩):=by
 rw[cell_of_row w N R _ _ fr h];simp[strV,hR]
theorem LnW.more {w wi:World} {K:Nat} {a:Option Addr} {cap:Nat} {bs:List Int} {q q':Int} (h:LnW w K a cap bs q wi) (hq:q≤q'):LnW w K a cap bs q' wi:=by
 obtain ⟨⟨p,h1,h2⟩,h3⟩:=h;exact ⟨⟨p,h1,by omega⟩,h3⟩
set_option maxHeartbeats 4000000 in
theorem line20_any (x c:Int) (va:Option Addr) (vn vc:Nat) (w:World) (K:Nat) (a:Option Addr) (cap:Nat) (bs:List Int) (p:Int) (h:Rd w K a cap bs p) (hp:p≤100000000) (hx0:0≤x) (hx4:x≤4) (hc0:0≤c) (hc4:c≤4):
  Calls Tryz.prog 64 #[.pointer (some ⟨K,0,none⟩),dkV x c (.slice va vn vc)] w (LineDrawn K a cap bs p w):=by
 have hKw:=h.lt;have HDK:=hdd (fun v=>show dkV x c v=.agg #[.int .i64 x,.int .i64 c,v] from rfl);obtain ⟨w1,hw1⟩:∃ z,z=w.alloc (.cells #[.int .i64 x,.int .i64 c,.slice va vn vc] 30):=⟨_,rfl⟩
 have hb1:Below w.heap.size w w1:=by rw[hw1]; exact (Below.refl _ _).alloc (Nat.le_refl _) _
 have hD1:At w1 w.heap.size (.cells #[.int .i64 x,.int .i64 c,.slice va vn vc] 30):=by rw[hw1]; exact At.new w _
 have hW1:LnW w K a cap bs p w1:=⟨⟨p,h.below hb1,by omega⟩,below_anyL hb1 _⟩
 have hP:=hW1.pick (n:=8) (by omega) (by unfold In64; omega);have HD1:=hdd hD1;clear h hb1 hW1 hD1;rw[HDK.out];go_enter Tryz.func64,Tryz.ntmps64;go_wp2_with fail;rw[←hw1];clear hw1;refine hP.mono ?_;rintro e w2 ⟨r,rfl,hr0,hr1,hW2,hAhW2⟩;have hr1:=hr1 (by omega);have HD2:=hdd (show At w2 w.heap.size (.cells #[.int .i64 x,.int .i64 c,.slice va vn vc] 30) from (hAhW2 _ (by omega) HD1.out.lt).trans HD1.out);clear hP HD1;have hr:r=0∨r=1∨r=2∨r=3∨r=4∨r=5∨r=6∨r=7:=by omega
 clear hr0 hr1
 rcases hr with rfl | rfl | rfl | rfl | rfl | rfl | rfl | rfl
 ·obtain ⟨N,hN⟩:∃ z,z=w2.heap.size:=⟨_,rfl⟩
  obtain ⟨w3,hw3⟩:∃ z,z=w2.alloc (.cells #[.string ⟨#[102,105,116]⟩,.string ⟨#[110,101,120,116]⟩,.string ⟨#[109,97,100,101]⟩] 9):=⟨_,rfl⟩
  have hb3:Below w2.heap.size w2 w3:=by rw[hw3]; exact (Below.refl _ _).alloc (Nat.le_refl _) _
  have hblk:w3.heap[N]?=some (.cells (([[102,105,116],[110,101,120,116],[109,97,100,101]]:List (List UInt8)).map strV).toArray 9 (0,0)):=by rw[hw3,hN]; exact heap_alloc_new w2 _
  have hP:=(hW2.below hb3).pick (n:=3) (by omega) (by unfold In64; omega);have hKN:K+1≤N:=by have:=hW2.size; omega
  have hNw:N<w3.heap.size:=(Array.getElem?_eq_some_iff.1 hblk).1;clear hW2 hAhW2 hb3;go_wp2_with fail;rw[←hw3,←hN];clear hw3 hN;refine hP.mono ?_;rintro e w4 ⟨s,rfl,hs0,hs1,hW4,hA4⟩;have hs1:=hs1 (by omega);obtain ⟨R,rfl⟩:∃ R:Nat,s=(R:Int):=⟨s.toNat,by omega⟩
  have hc:=text_at [[102,105,116],[110,101,120,116],[109,97,100,101]] (((hA4 N hKN hNw).trans hblk:w4.heap[N]?=_)) (R:=R) (by simp; omega);obtain ⟨l,hl⟩:∃ l,l=([[102,105,116],[110,101,120,116],[109,97,100,101]]:List (List UInt8))[R]'(by simp; omega):=⟨_,rfl⟩
  have hll:l.length≤20:=by rw[hl]; exact (show ∀ l∈([[102,105,116],[110,101,120,116],[109,97,100,101]]:List (List UInt8)),l.length≤20 by decide) _ (List.getElem_mem _)
  rw[←hl] at hc;have hi:(R:Int)<3:=by omega
  have HF:=hdd (show LineDrawn K a cap bs p w (.returned (.string ⟨l.toArray⟩)) w4 from ⟨l,rfl,by omega,hW4.more (by omega)⟩);clear hP hW4 hA4 hblk hl;go_wp2;go_ret;exact HF.out
 ·obtain ⟨N,hN⟩:∃ z,z=w2.heap.size:=⟨_,rfl⟩
  obtain ⟨w3,hw3⟩:∃ z,z=w2.alloc (.cells #[.string ⟨#[102,105,116]⟩,.string ⟨#[110,101,120,116]⟩,.string ⟨#[109,97,100,101]⟩] 9):=⟨_,rfl⟩
  have hb3:Below w2.heap.size w2 w3:=by rw[hw3]; exact (Below.refl _ _).alloc (Nat.le_refl _) _
  have hblk:w3.heap[N]?=some (.cells (([[102,105,116],[110,101,120,116],[109,97,100,101]]:List (List UInt8)).map strV).toArray 9 (0,0)):=by rw[hw3,hN]; exact heap_alloc_new w2 _
  have hP:=(hW2.below hb3).pick (n:=3) (by omega) (by unfold In64; omega);have hKN:K+1≤N:=by have:=hW2.size; omega
  have hNw:N<w3.heap.size:=(Array.getElem?_eq_some_iff.1 hblk).1;clear hW2 hAhW2 hb3;go_wp2_with fail;rw[←hw3,←hN];clear hw3 hN;refine hP.mono ?_;rintro e w4 ⟨s,rfl,hs0,hs1,hW4,hA4⟩;have hs1:=hs1 (by omega);obtain ⟨R,rfl⟩:∃ R:Nat,s=(R:Int):=⟨s.toNat,by omega⟩
  have hc:=text_at [[102,105,116],[110,101,120,116],[109,97,100,101]] (((hA4 N hKN hNw).trans hblk:w4.heap[N]?=_)) (R:=R) (by simp; omega);obtain ⟨l,hl⟩:∃ l,l=([[102,105,116],[110,101,120,116],[109,97,100,101]]:List (List UInt8))[R]'(by simp; omega):=⟨_,rfl⟩
  have hll:l.length≤20:=by rw[hl]; exact (show ∀ l∈([[102,105,116],[110,101,120,116],[109,97,100,101]]:List (List UInt8)),l.length≤20 by decide) _ (List.getElem_mem _)
  rw[←hl] at hc;have hi:(R:Int)<3:=by omega
  have HF:=hdd (show LineDrawn K a cap bs p w (.returned (.string ⟨l.toArray⟩)) w4 from ⟨l,rfl,by omega,hW4.more (by omega)⟩);clear hP hW4 hA4 hblk hl;go_wp2;go_ret;exact HF.out
 ·obtain ⟨N,hN⟩:∃ z,z=w2.heap.size:=⟨_,rfl⟩
  obtain ⟨w3,hw3⟩:∃ z,z=w2.alloc (.cells #[.string ⟨#[]⟩,.string ⟨#[103,117,101,115,115]⟩,.string ⟨#[103,117,101,115,115,32,48,32,48]⟩,.string ⟨#[103,117,101,115,115,32,48,49,32,48,32,48,48]⟩,.string ⟨#[32,102,105,116]⟩,.string ⟨#[113,117,101,115,116,105,111,110,115]⟩,.string ⟨#[113,117,101,115,116,105,111,110,115,32,48]⟩,.string ⟨#[104,97,116,115,32,51]⟩,.string ⟨#[108,105,101,115,32,120]⟩,.string ⟨#[104,117,110,116,32,55]⟩,.string ⟨#[99,105,114,99,108,101,115,32,48,48]⟩,.string ⟨#[100,114,111,112,115,32,53]⟩] 9):=⟨_,rfl⟩
  have hb3:Below w2.heap.size w2 w3:=by rw[hw3]; exact (Below.refl _ _).alloc (Nat.le_refl _) _
  have hblk:w3.heap[N]?=some (.cells (([[],[103,117,101,115,115],[103,117,101,115,115,32,48,32,48],[103,117,101,115,115,32,48,49,32,48,32,48,48],[32,102,105,116],[113,117,101,115,116,105,111,110,115],[113,117,101,115,116,105,111,110,115,32,48],[104,97,116,115,32,51],[108,105,101,115,32,120],[104,117,110,116,32,55],[99,105,114,99,108,101,115,32,48,48],[100,114,111,112,115,32,53]]:List (List UInt8)).map strV).toArray 9 (0,0)):=by rw[hw3,hN]; exact heap_alloc_new w2 _
  have hP:=(hW2.below hb3).pick (n:=12) (by omega) (by unfold In64; omega);have hKN:K+1≤N:=by have:=hW2.size; omega
  have hNw:N<w3.heap.size:=(Array.getElem?_eq_some_iff.1 hblk).1;clear hW2 hAhW2 hb3;go_wp2_with fail;rw[←hw3,←hN];clear hw3 hN;refine hP.mono ?_;rintro e w4 ⟨s,rfl,hs0,hs1,hW4,hA4⟩;have hs1:=hs1 (by omega);obtain ⟨R,rfl⟩:∃ R:Nat,s=(R:Int):=⟨s.toNat,by omega⟩
  have hc:=text_at [[],[103,117,101,115,115],[103,117,101,115,115,32,48,32,48],[103,117,101,115,115,32,48,49,32,48,32,48,48],[32,102,105,116],[113,117,101,115,116,105,111,110,115],[113,117,101,115,116,105,111,110,115,32,48],[104,97,116,115,32,51],[108,105,101,115,32,120],[104,117,110,116,32,55],[99,105,114,99,108,101,115,32,48,48],[100,114,111,112,115,32,53]] (((hA4 N hKN hNw).trans hblk:w4.heap[N]?=_)) (R:=R) (by simp; omega);obtain ⟨l,hl⟩:∃ l,l=([[],[103,117,101,115,115],[103,117,101,115,115,32,48,32,48],[103,117,101,115,115,32,48,49,32,48,32,48,48],[32,102,105,116],[113,117,101,115,116,105,111,110,115],[113,117,101,115,116,105,111,110,115,32,48],[104,97,116,115,32,51],[108,105,101,115,32,120],[104,117,110,116,32,55],[99,105,114,99,108,101,115,32,48,48],[100,114,111,112,115,32,53]]:List (List UInt8))[R]'(by simp; omega):=⟨_,rfl⟩
  have hll:l.length≤20:=by rw[hl]; exact (show ∀ l∈([[],[103,117,101,115,115],[103,117,101,115,115,32,48,32,48],[103,117,101,115,115,32,48,49,32,48,32,48,48],[32,102,105,116],[113,117,101,115,116,105,111,110,115],[113,117,101,115,116,105,111,110,115,32,48],[104,97,116,115,32,51],[108,105,101,115,32,120],[104,117,110,116,32,55],[99,105,114,99,108,101,115,32,48,48],[100,114,111,112,115,32,53]]:List (List UInt8)),l.length≤20 by decide) _ (List.getElem_mem _)
  rw[←hl] at hc;have hi:(R:Int)<12:=by omega
  have HF:=hdd (show LineDrawn K a cap bs p w (.returned (.string ⟨l.toArray⟩)) w4 from ⟨l,rfl,by omega,hW4.more (by omega)⟩);clear hP hW4 hA4 hblk hl;go_wp2;go_ret;exact HF.out
 ·have hP:=hW2.pick (n:=250) (by omega) (by unfold In64; omega)
  go_wp2_with fail;refine hP.mono ?_;rintro e w3 ⟨s,rfl,s0,s1,hW3,hAhW3⟩;have s1:=s1 (by omega);clear hP;have hI:=l1NumN (s).toNat w3 (by omega);rw[show (((s).toNat:Nat):Int)=s by omega] at hI;have hLL:=decDigits_len20 (s).toNat (by omega);obtain ⟨L,hL⟩:∃ z,z=Lib.decDigits (s).toNat:=⟨_,rfl⟩
  rw[←hL] at hI hLL;unfold strV at hI;clear hL;go_wp2_with fail;refine hI.mono ?_;rintro e w4 ⟨rfl,hb⟩;have Hw4:=hW3.below hb;have hLLL:=hLL;clear hI hb hLL;have HF:=hdd (show LineDrawn K a cap bs p w (.returned (.string ⟨([113,117,101,115,116,105,111,110,115,32]++L).toArray⟩)) w4 from ⟨_,rfl,by simp; omega,Hw4.more (by omega)⟩);clear hW2 hW3 hAhW2 hAhW3 Hw4;go_wp2;go_ret;exact HF.out
 ·have hP:=hW2.pick (n:=150) (by omega) (by unfold In64; omega)
  go_wp2_with fail;refine hP.mono ?_;rintro e w3 ⟨s,rfl,s0,s1,hW3,hAhW3⟩;have s1:=s1 (by omega);clear hP;have hI:=l1NumN (s).toNat w3 (by omega);rw[show (((s).toNat:Nat):Int)=s by omega] at hI;have hLL:=decDigits_len20 (s).toNat (by omega);obtain ⟨L,hL⟩:∃ z,z=Lib.decDigits (s).toNat:=⟨_,rfl⟩
  rw[←hL] at hI hLL;unfold strV at hI;clear hL;go_wp2_with fail;refine hI.mono ?_;rintro e w4 ⟨rfl,hb⟩;have Hw4:=hW3.below hb;have hLLL:=hLL;clear hI hb hLL;clear hW2 hW3 hAhW2 hAhW3;have hP:=Hw4.pick (n:=5) (by omega) (by unfold In64; omega);go_wp2_with fail;refine hP.mono ?_;rintro e w5 ⟨u,rfl,u0,u1,hW5,hAhW5⟩;have u1:=u1 (by omega);clear hP;have hI:=l1NumN (u).toNat w5 (by omega);rw[show (((u).toNat:Nat):Int)=u by omega] at hI;have hLL:=decDigits_len20 (u).toNat (by omega);obtain ⟨J,hJ⟩:∃ z,z=Lib.decDigits (u).toNat:=⟨_,rfl⟩
  rw[←hJ] at hI hLL;unfold strV at hI;clear hJ;go_wp2_with fail;refine hI.mono ?_;rintro e w6 ⟨rfl,hb⟩;have Hw6:=hW5.below hb;have hLLJ:=hLL;clear hI hb hLL;have HF:=hdd (show LineDrawn K a cap bs p w (.returned (.string ⟨((([100,114,111,112,115,32]++L)++[32])++J).toArray⟩)) w6 from ⟨_,rfl,by simp; omega,Hw6.more (by omega)⟩);clear hW5 hAhW5 Hw4 Hw6;go_wp2;go_ret;exact HF.out
 ·obtain ⟨⟨p2,hR2,hp2⟩,hg2⟩:=id hW2
  have hG:=known20_any w2 K a cap bs p2 hR2 (by omega);go_wp2_with fail;refine hG.mono ?_;rintro e w3 ⟨ys,aoa,coa,rfl,hoa,hla,hya,hda⟩;have Hw3:LnW w K a cap bs ((p+1)+40) w3:=by
   obtain ⟨⟨p9,g1,g2⟩,g3⟩:=hda;exact ⟨⟨p9,g1,by omega⟩,grown_trans hW2.2 g3⟩
  have hIa:=l15Code_any _ ys w3 (OwnI.toInts hoa (fun y hy=>by have:=hya y hy; unfold In64; omega)) (List.all_eq_true.2 fun y hy=>inB_of (hya y hy).1 (hya y hy).2) (by omega);have hdla:(dgs ys).length≤12:=by simp[dgs]; omega
  obtain ⟨T,hTa⟩:∃ z,z=dgs ys:=⟨_,rfl⟩
  rw[←hTa] at hIa hdla;unfold strV at hIa;clear hG hoa hya hda hTa;go_wp2_with fail;refine hIa.mono ?_;rintro e w4 ⟨rfl,hb⟩;have Hw4:=Hw3.below hb;clear hIa hb;have HF:=hdd (show LineDrawn K a cap bs p w (.returned (.string ⟨([108,105,101,115,32]++T).toArray⟩)) w4 from ⟨_,rfl,by simp; omega,Hw4.more (by omega)⟩);clear hW2 hR2 hg2 hAhW2 Hw3 Hw4;go_wp2;go_ret;exact HF.out
 ·have hP:=hW2.pick (n:=3) (by omega) (by unfold In64; omega)
  go_wp2_with fail;refine hP.mono ?_;rintro e w3 ⟨s,rfl,s0,s1,hW3,hAhW3⟩;have s1:=s1 (by omega);clear hP;have hs1:=s1;have hI:=l1NumN ((1+s)).toNat w3 (by omega);rw[show (((1+s).toNat:Nat):Int)=(1+s) by omega] at hI;have hLL:=decDigits_len20 ((1+s)).toNat (by omega);obtain ⟨L,hL⟩:∃ z,z=Lib.decDigits ((1+s)).toNat:=⟨_,rfl⟩
  rw[←hL] at hI hLL;unfold strV at hI;clear hL;go_wp2_with fail;refine hI.mono ?_;rintro e w4 ⟨rfl,hb⟩;have Hw4:=hW3.below hb;have hLLL:=hLL;clear hI hb hLL;clear hW2 hW3 hAhW2 hAhW3;obtain ⟨⟨p4,hR4,hp4⟩,hg4⟩:=id Hw4;have hG:=mixed_any 3 w4 K a cap bs p4 hR4 (by omega) (by omega) (by omega);go_wp2_with fail;refine hG.mono ?_;rintro e w5 ⟨ao,co,rfl,ys,hyl,hy5,ho5,⟨p5,hR5,hp5⟩,hg5⟩;have Hw5:LnW w K a cap bs (p+12) w5:=⟨⟨p5,hR5,by omega⟩,grown_trans hg4 hg5⟩
  rw[show (3:Int).toNat=ys.length from hyl.symm] at ho5 ⊢;have hI:=l15Code_any _ ys w5 (OwnI.toInts ho5 (fun y hy=>by have:=hy5 y hy; unfold In64; omega)) (List.all_eq_true.2 fun y hy=>inB_of (hy5 y hy).1 (by have:=hy5 y hy; omega)) (by rw[hyl]; decide);have hdl:(dgs ys).length≤12:=by have:ys.length=3:=hyl; simp[dgs]; omega
  obtain ⟨T,hT⟩:∃ z,z=dgs ys:=⟨_,rfl⟩
  rw[←hT] at hI hdl;unfold strV at hI;obtain ⟨m5,hm5⟩:∃ z,z=ys.length:=⟨_,rfl⟩
  rw[←hm5] at hI ⊢;clear hG ho5 hy5 hT hyl hm5 hR4 hg4 hR5 hg5;go_wp2_with fail;refine hI.mono ?_;rintro e w6 ⟨rfl,hb⟩;have Hw6:=Hw5.below hb;clear hI hb Hw5 Hw4;obtain ⟨⟨p6,hR6,hp6⟩,hg6⟩:=id Hw6;have hG:=boxes20_any w6 K a cap bs p6 hR6 (by omega);go_wp2_with fail;refine hG.mono ?_;rintro e w7 ⟨zs,aob,cob,rfl,hob,hlb,hyb,hdb⟩;have Hw7:LnW w K a cap bs ((p+12)+40) w7:=by
   obtain ⟨⟨p9,g1,g2⟩,g3⟩:=hdb;exact ⟨⟨p9,g1,by omega⟩,grown_trans Hw6.2 g3⟩
  have hIb:=l15Code_any _ zs w7 (OwnI.toInts hob (fun y hy=>by have:=hyb y hy; unfold In64; omega)) (List.all_eq_true.2 fun y hy=>inB_of (hyb y hy).1 (hyb y hy).2) (by omega);have hdlb:(dgs zs).length≤12:=by simp[dgs]; omega
  obtain ⟨U,hTb⟩:∃ z,z=dgs zs:=⟨_,rfl⟩
  rw[←hTb] at hIb hdlb;unfold strV at hIb;clear hG hob hyb hdb hTb;go_wp2_with fail;refine hIb.mono ?_;rintro e w8 ⟨rfl,hb⟩;have Hw8:=Hw7.below hb;clear hIb hb;clear hR6 hg6 Hw6 Hw7;have hP:=Hw8.pick (n:=7) (by omega) (by unfold In64; omega);go_wp2_with fail;refine hP.mono ?_;rintro e w9 ⟨u,rfl,u0,u1,hW9,hAhW9⟩;have u1:=u1 (by omega);clear hP;have hI:=l1NumN (u).toNat w9 (by omega);rw[show (((u).toNat:Nat):Int)=u by omega] at hI;have hLL:=decDigits_len20 (u).toNat (by omega);obtain ⟨J,hJ⟩:∃ z,z=Lib.decDigits (u).toNat:=⟨_,rfl⟩
  rw[←hJ] at hI hLL;unfold strV at hI;clear hJ;go_wp2_with fail;refine hI.mono ?_;rintro e wA ⟨rfl,hb⟩;have HwA:=hW9.below hb;have hLLJ:=hLL;clear hI hb hLL;clear hW9 hAhW9 Hw8;obtain ⟨X0,hX0⟩:∃ z,z=(([104,97,116,115,32]++L)++[32])++T:=⟨_,rfl⟩
  obtain ⟨X1,hX1⟩:∃ z:List UInt8,z=[99,105,114,99,108,101,115,32]++U:=⟨_,rfl⟩
  obtain ⟨X2,hX2⟩:∃ z:List UInt8,z=[104,117,110,116,32]++J:=⟨_,rfl⟩
  have hx0l:X0.length≤60:=by rw[hX0]; simp; omega
  have hx1l:X1.length≤60:=by rw[hX1]; simp; omega
  have hx2l:X2.length≤60:=by rw[hX2]; simp; omega
  obtain ⟨wB,hwB⟩:∃ z,z=wA.alloc (.cells #[.string ⟨X0.toArray⟩,.string ⟨X1.toArray⟩,.string ⟨X2.toArray⟩] 9):=⟨_,rfl⟩
  obtain ⟨N,hN⟩:∃ z,z=wA.heap.size:=⟨_,rfl⟩
  have hbB:Below wA.heap.size wA wB:=by rw[hwB]; exact (Below.refl _ _).alloc (Nat.le_refl _) _
  have hblk:wB.heap[N]?=some (.cells (([X0,X1,X2]:List (List UInt8)).map strV).toArray 9 (0,0)):=by rw[hwB,hN]; exact heap_alloc_new wA _
  have hP:=(HwA.below hbB).pick (n:=3) (by omega) (by unfold In64; omega);have hKN:K+1≤N:=by have:=HwA.size; omega
  have hNw:N<wB.heap.size:=(Array.getElem?_eq_some_iff.1 hblk).1;rw[hwB,hX0,hX1,hX2] at hP;clear HwA hbB;go_wp2_with fail;refine hP.mono ?_;rw[←hX0,←hX1,←hX2,←hwB];clear hP hwB hX0 hX1 hX2;rintro e wC ⟨v,rfl,hv0,hv1,hWC,hAC⟩;have hv1:=hv1 (by omega);obtain ⟨R,rfl⟩:∃ R:Nat,v=(R:Int):=⟨v.toNat,by omega⟩
  have hc:=text_at [X0,X1,X2] (((hAC N hKN hNw).trans hblk:wC.heap[N]?=_)) (R:=R) (by simp; omega);obtain ⟨l,hl⟩:∃ l,l=([X0,X1,X2]:List (List UInt8))[R]'(by simp; omega):=⟨_,rfl⟩
  have hll:l.length≤60:=by
   have hm:l∈[X0,X1,X2]:=by rw[hl]; exact List.getElem_mem _
   simp only[List.mem_cons,List.not_mem_nil,or_false] at hm
   rcases hm with rfl | rfl | rfl <;> assumption
  rw[←hl] at hc;have hi:(R:Int)<3:=by omega
  have HF:=hdd (show LineDrawn K a cap bs p w (.returned (.string ⟨l.toArray⟩)) wC from ⟨l,rfl,by omega,hWC.more (by omega)⟩);rw[hN] at hc;clear hWC hAC hblk hl hKN hNw;go_wp2;go_ret;exact HF.out
 ·obtain ⟨⟨p2,hR2,hp2⟩,hg2⟩:=id hW2
  obtain ⟨b0,b1,b2⟩:=HD2.out.three;have hzz:=HD2.out.lt;have hG:=deed_any x c va vn vc w2 K a cap bs p2 hR2 (by omega) hx0 hx4 hc0 hc4;rw[HDK.out] at hG;go_wp2_with fail;refine hG.mono ?_;rintro e w3 ⟨b,ys,r,n,a4,c4,rfl,ho4,hy4,hr4,hn4,hl4,⟨p4,hR4,hp4⟩,hg4⟩;have hW3:LnW w K a cap bs (p+50) w3:=⟨⟨p4,hR4,by omega⟩,grown_trans hg2 hg4⟩
  have hT:=deedTextS_any b _ ys r n w3 (OwnI.toInts ho4 hy4);have hlen:=textD_len ⟨b,ys,r,n⟩;obtain ⟨T,hTT⟩:∃ T,T=textD ⟨b,ys,r,n⟩:=⟨_,rfl⟩
  rw[←hTT] at hT hlen;unfold TextOut strV at hT;clear hG ho4 hy4 hr4 hn4 hR4 hg4 hTT hW2 hR2 hg2 hAhW2 b0 b1 b2;go_wp2_with fail;refine hT.mono ?_;rintro e w5 ⟨rfl,hb5⟩;have HF:=hdd (show LineDrawn K a cap bs p w (.returned (.string ⟨T.toArray⟩)) w5 from ⟨T,rfl,by omega,(hW3.below hb5).more (by omega)⟩);clear hT hb5 hW3;go_wp2;go_ret;exact HF.out
end
end Go.Proofs.YtenlngclocfnlaaGreatDoor
