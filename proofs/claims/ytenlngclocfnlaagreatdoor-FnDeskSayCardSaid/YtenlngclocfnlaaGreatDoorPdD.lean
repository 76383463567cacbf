/- Texts of this claim, put together: Iter. -/
import Derived.Test.YtenlngclocfnlaaGreatDoorPdC
import Derived.Test.YtenlngclocfnlaaGreatDoorPdA
import Derived.Shelf.Abstract
import Derived.TacticsInMore
import Derived.LoopNIn
import Derived.LoopIn
import Derived.Deep.OwnRows
import Derived.Laws.EntriesVeiled
import Derived.Test.YtenlngclocfnlaaGreatDoorPdGD
namespace Go.Proofs.YtenlngclocfnlaaGreatDoor
set_option linter.unusedVariables false
section
open Go.RowKit Go.Shelf
set_option maxRecDepth 100000
def FillSt (bm bl a l K c:Nat) (row:List Int) (W:World):Prop:=
 W.heap[bm]?=some (.cells #[.int .i64 K] 3 (0,0))∧W.heap[bl]?=some (.cells #[.int .i64 c] 3 (0,0))∧W.heap[a]?=some (.cells #[.func (.yield l) #[] #[]] 135 (0,0)) ∧
 W.heap[a+1]?=some (.cells (ints row).toArray 3 (0,0))∧W.heap[a+1+1]?=some (.cells #[.slice (some ⟨a+1,0,none⟩) K K] 37 (0,0)) ∧
 W.heap[a+1+1+1]?=some (.cells #[.func (.func 183) #[] #[.pointer (some ⟨bm,0,none⟩),.pointer (some ⟨a,0,none⟩),.pointer (some ⟨a+1+1,0,none⟩),.pointer (some ⟨bl,0,none⟩),.pointer (some ⟨a+1+1+1,0,none⟩)]] 76 (0,0)) ∧
 row.length=K
def InfoR (a:Nat) (x:List Int) (W:World):Prop:=W.heap[a+1]?=some (.cells (ints x).toArray 3 (0,0))∧a+4≤W.heap.size
theorem FillSt.kept {bm bl a l K c lo z:Nat} {row:List Int} {W W':World} (h:FillSt bm bl a l K c row W) (h1:Win a 4 W W') (h2:Win lo (z-lo) W W') (hm:lo≤bm∧bm<z) (hl:lo≤bl∧bl<z):FillSt bm bl a l K c row W':=by
 obtain ⟨q1,q2,q3,q4,q5,q6,q7⟩:=h;exact ⟨(h2.2 _ hm.1 (by omega)).trans q1,(h2.2 _ hl.1 (by omega)).trans q2,(h1.2 _ (by omega) (by omega)).trans q3,(h1.2 _ (by omega) (by omega)).trans q4,(h1.2 _ (by omega) (by omega)).trans q5,(h1.2 _ (by omega) (by omega)).trans q6,q7⟩
theorem FillSt.store {bm bl a l K c:Nat} {row:List Int} {W:World} (h:FillSt bm bl a l K c row W) (hm:bm<a) (hl:bl<a) (i:Nat) (u:Int):FillSt bm bl a l K c (row.set i u) (W.setCell ⟨a+1,i,none⟩ (.int .i64 u)):=by
 obtain ⟨q1,q2,q3,q4,q5,q6,q7⟩:=h;refine ⟨(heap_setCell_other _ _ _ _ (show bm≠a+1 by omega)).trans q1,(heap_setCell_other _ _ _ _ (show bl≠a+1 by omega)).trans q2,(heap_setCell_other _ _ _ _ (show a≠a+1 by omega)).trans q3,?_,(heap_setCell_other _ _ _ _ (show a+1+1≠a+1 by omega)).trans q5,(heap_setCell_other _ _ _ _ (show a+1+1+1≠a+1 by omega)).trans q6,by simpa using q7⟩;have:=heap_setCell_same _ _ i _ _ (.int .i64 u) q4;rw[List.setIfInBounds_toArray,ints_set] at this;exact this
def cappedV (bm bl a:Nat):Array Value:=#[.pointer (some ⟨bm,0,none⟩),.pointer (some ⟨a,0,none⟩),.pointer (some ⟨a+1+1,0,none⟩),.pointer (some ⟨bl,0,none⟩),.pointer (some ⟨a+1+1+1,0,none⟩)]
def FillDoes (bm bl a l K c:Nat) (J:List (List Int)→World→Prop) (m:Nat):Prop:=
 ∀ (n:Nat) (pre rest:List (List Int)) (row:List Int) (W:World) (i:Nat),i+m=K→FillSt bm bl a l K c row W→J pre W→fillL c [] K=pre++fillL c (row.take i) m++rest →
  CallsIn Fence.wide n Tryz.prog 183 (#[.int .i64 (i:Nat)]++cappedV bm bl a) W fun e W'=>e=.returned (.bool true)∧J (pre++fillL c (row.take i) m) W'∧∃ row',FillSt bm bl a l K c row' W'∧row'.take i=row.take i
set_option maxHeartbeats 4000000 in
theorem fill_zero (bm bl a l K c lo z:Nat) (J:List (List Int)→World→Prop) (hm:lo≤bm∧bm<z) (hl:lo≤bl∧bl<z)
  (hY:∀ m pre x W1,(∃ rest,fillL c [] K=pre++x::rest)→J pre W1→InfoR a x W1 →
   YieldAt Fence.wide m Tryz.prog l #[.slice (some ⟨a+1,0,none⟩) K K] W1 fun e W'=>e=.returned (.bool true)∧J (pre++[x]) W'∧Win a 4 W1 W'∧Win lo (z-lo) W1 W'):
  FillDoes bm bl a l K c J 0:=by
 intro n pre rest row W i hi hst hJ hx;obtain rfl:i=K:=by omega
 have hK:=hst.2.2.2.2.2.2;have HST:=hdd hst;have hrow:row.take i=row:=List.take_of_length_le (by omega);rw[hrow] at hx ⊢;have hy:=hY (n-1) pre row W ⟨rest,by simpa [fillL] using hx⟩ hJ ⟨hst.2.2.2.1,by have:=(Array.getElem?_eq_some_iff.1 hst.2.2.2.2.2.1).1; omega⟩;obtain ⟨q1,q2,q3,q4,q5,q6,q7⟩:=hst;have c1:=cell_of_row _ _ 0 _ _ (0,0) q1;have c3:=cell_of_row _ _ 0 _ _ (0,0) q3;have c5:=cell_of_row _ _ 0 _ _ (0,0) q5;simp only[List.getElem?_toArray,List.getElem?_cons_zero] at c1 c3 c5;obtain ⟨fn,tmps,assign,body,hy,hR⟩:=hy;have HRW:=hdd hrow;clear q1 q2 q3 q4 q5 q6 q7 hx hrow hY hJ hK hi;refine callsIn_of_wp Tryz.func183 rfl trivial ?_ rfl;simp only[cappedV,Tryz.ntmps183,List.size_toArray,List.length_cons,List.length_nil,Nat.reduceAdd,Nat.reduceSub,Array.replicate_succ,Array.replicate_zero,List.push_toArray,List.append_toArray,List.nil_append,List.cons_append]
 gi_wp2
 refine ⟨fun h=>(by cases h),?_⟩;refine hR.mono ?_;rintro e W3 ⟨rfl,hJ3,hw1,hw2⟩;clear hR
 gi_wp2
 go_ret;exact ⟨rfl,by simpa [fillL] using hJ3,row,HST.out.kept hw1 hw2 hm hl,HRW.out⟩
theorem take_next {row:List Int} {i:Nat} {u:Int} (h:i<row.length):(row.set i u).take (i+1)=row.take i++[u]:=by
 rw[List.take_succ_eq_append_getElem (by simpa using h),List.take_set_of_le (Nat.le_refl _)];simp
def comeL (c:Nat) (p:List Int) (m k:Nat):List (List Int):=(List.range k).flatMap fun (n:Nat)=>fillL c (p++[(n:Int)]) m
theorem comeL_full (c:Nat) (p:List Int) (m:Nat):comeL c p m c=fillL c p (m+1):=rfl
theorem comeL_step (c:Nat) (p:List Int) (m k:Nat):comeL c p m (k+1)=comeL c p m k++fillL c (p++[(k:Int)]) m:=by simp[comeL,List.range_succ]
theorem comeL_split (c:Nat) (p:List Int) (m:Nat):∀ d k,k+d=c→∃ rest,fillL c p (m+1)=comeL c p m k++rest
 | 0,k,h=>⟨[],by rw[←comeL_full,←h]; simp⟩
 | d+1,k,h=>by
  obtain ⟨rest,hr⟩:=comeL_split c p m d (k+1) (by omega);exact ⟨fillL c (p++[(k:Int)]) m++rest,by rw[hr,comeL_step,List.append_assoc]⟩
set_option maxHeartbeats 4000000 in
theorem fill_next (bm bl a l K c lo z m:Nat) (J:List (List Int)→World→Prop) (hm:bm<a) (hl:bl<a) (hK:K≤1000) (hc:c≤1000) (hJb:Bears a 4 J)
  (ih:FillDoes bm bl a l K c J m):FillDoes bm bl a l K c J (m+1):=by
 intro n pre rest row W i hi hst hJ hx;have hlen:=hst.2.2.2.2.2.2;have HST:=hdd hst;have HJ:=hdd hJ;have HX:=hdd hx;have hne:(((i:Nat):Int)==(K:Int))=false:=by rw[beq_eq_false_iff_ne]; omega
 obtain ⟨p,hp⟩:∃ p,p=row.take i:=⟨_,rfl⟩
 rw[←hp] at HX ⊢;have HP:=hdd hp;obtain ⟨q1,q2,q3,q4,q5,q6,q7⟩:=hst;have c1:=cell_of_row _ _ 0 _ _ (0,0) q1;have c2:=cell_of_row _ _ 0 _ _ (0,0) q2;simp only[List.getElem?_toArray,List.getElem?_cons_zero] at c1 c2;have hi2:i≤row.length:=by omega
 clear q1 q2 q3 q4 q5 q6 q7 hx hJ hp hlen;refine callsIn_of_wp Tryz.func183 rfl trivial ?_ rfl;simp only[cappedV,Tryz.ntmps183,List.size_toArray,List.length_cons,List.length_nil,Nat.reduceAdd,Nat.reduceSub,Array.replicate_succ,Array.replicate_zero,List.push_toArray,List.append_toArray,List.nil_append,List.cons_append]
 gi_wp2
 gi_loopw [16] (fun s wr=>∃ (k:Nat) (r:List Int),k≤c∧s=.int .i64 k∧FillSt bm bl a l K c r wr∧r.take i=p∧J (pre++comeL c p m k) wr) (fun s _=>c-(intOf s).toNat)
 case atStart=>exact ⟨0,row,Nat.zero_le _,rfl,HST.out,HP.out.symm,by simpa [comeL] using HJ.out⟩
 case round=>
  obtain ⟨k,r,hk,rfl,hst,hp,hJ⟩:=hrel;obtain ⟨wk,rfl⟩:∃ x,x=wr:=⟨_,rfl⟩
  clear HST HJ c1 c2
  by_cases hlt:k<c
  ·have hst2:=hst.store hm hl i (k:Int)
   have hJ2:=hJb.cell ⟨a+1,i,none⟩ (.int .i64 (k:Int)) hJ (show a≤a+1 by omega) (show a+1<a+4 by omega);have hrl:=hst.2.2.2.2.2.2;have htk:(r.set i (k:Int)).take (i+1)=p++[(k:Int)]:=by rw[take_next (by omega),hp]
   obtain ⟨rest2,hr2⟩:=comeL_split c p m (c-(k+1)) (k+1) (by omega);have hx2:fillL c [] K=(pre++comeL c p m k)++fillL c ((r.set i (k:Int)).take (i+1)) m++(rest2++rest):=by
    rw[htk,HX.out,hr2,comeL_step]; simp[List.append_assoc]
   have hC:=ih (n-1) (pre++comeL c p m k) (rest2++rest) (r.set i (k:Int)) _ (i+1) (by omega) hst2 hJ2 hx2;rw[htk] at hC;have HSTEP:=hdd (comeL_step c p m k);have HTK:=hdd htk;obtain ⟨q1,q2,q3,q4,q5,q6,q7⟩:=hst;have d5:=cell_of_row _ _ 0 _ _ (0,0) q5;have d4:=cell_of_row _ _ i _ _ (0,0) q4;have f4:=frozen_of_row _ _ i _ _ q4;have q6':=hst2.2.2.2.2.2.1;have d6:=cell_of_row _ _ 0 _ _ (0,0) q6';have e4:(ints r).toArray[i]?=some (.int .i64 (r[i]'(by omega))):=by rw[List.getElem?_toArray,List.getElem?_eq_getElem (by simp; omega)]; simp
   rw[e4] at d4;simp only[List.getElem?_toArray,List.getElem?_cons_zero] at d5 d6;obtain ⟨v4,hv4⟩:∃ v4,v4=r[i]'(by omega):=⟨_,rfl⟩
   rw[←hv4] at d4;have hi0:(0:Int)≤(i:Int):=by omega
   have hi1:(i:Int)<(K:Int):=by omega
   unfold cappedV at hC;simp only[List.append_toArray,List.cons_append,List.nil_append] at hC;rw[show ((i+1:Nat):Int)=(i:Int)+1 from by push_cast; rfl] at hC;clear q1 q2 q3 q4 q5 q6 q6' q7 hst2 hJ2 hrl htk hr2 hx2 e4 hv4 hJ hp
   gi_wp2
   refine ⟨trivial,fun h=>(by cases h),?_⟩;refine hC.mono ?_;rintro e W3 ⟨rfl,hJ3,r3,hst3,ht3⟩;have HJ3:=hdd hJ3;have HS3:=hdd hst3;have HT3:=hdd ht3;clear hC hJ3 hst3 ht3
   gi_wp2
   go_roundw
   case rel=>exact ⟨k+1,r3,by omega,by go_num,HS3.out,by
    have:=congrArg (List.take i) HT3.out;rw[List.take_take,Nat.min_eq_left (by omega)] at this;have hpl:p.length=i:=by rw[HP.out,List.length_take]; have:=hi2; omega
    rw[this,List.take_append_of_le_length (by omega),List.take_of_length_le (by omega)],by rw[HSTEP.out,←List.append_assoc]; exact HJ3.out⟩
   case measure=>simp[intOf]; omega
  ·have e:k=c:=by omega
   subst e;rw[comeL_full] at hJ;have HJ:=hdd hJ;have HS:=hdd hst;have HPP:=hdd hp;clear hJ hst hp
   gi_wp2
   go_ret;exact ⟨rfl,HJ.out,r,HS.out,HPP.out⟩
theorem fill_all_rows (bm bl a l K c lo z:Nat) (J:List (List Int)→World→Prop) (hm:lo≤bm∧bm<z) (hl:lo≤bl∧bl<z) (hz:z≤a) (hK:K≤1000) (hc:c≤1000) (hJb:Bears a 4 J)
  (hY:∀ m pre x W1,(∃ rest,fillL c [] K=pre++x::rest)→J pre W1→InfoR a x W1 →
   YieldAt Fence.wide m Tryz.prog l #[.slice (some ⟨a+1,0,none⟩) K K] W1 fun e W'=>e=.returned (.bool true)∧J (pre++[x]) W'∧Win a 4 W1 W'∧Win lo (z-lo) W1 W'):∀ m,FillDoes bm bl a l K c J m
 | 0=>fill_zero bm bl a l K c lo z J hm hl hY
 | m+1=>fill_next bm bl a l K c lo z m J (by omega) (by omega) hK hc hJb (fill_all_rows bm bl a l K c lo z J hm hl hz hK hc hJb hY m)
def encR (K:Nat) (a:Nat):Value:=.slice (some ⟨a+1,0,none⟩) K K
set_option maxHeartbeats 4000000 in
theorem rows1_seq (bm bl K c lo:Nat) (w:World) (hm:lo≤bm∧bm<w.heap.size) (hl:lo≤bl∧bl<w.heap.size) (hK:K≤1000) (hc:c≤1000)
  (q1:w.heap[bm]?=some (.cells #[.int .i64 K] 3 (0,0))) (q2:w.heap[bl]?=some (.cells #[.int .i64 c] 3 (0,0))):
  RowSeq Tryz.prog 182 #[.pointer (some ⟨bm,0,none⟩),.pointer (some ⟨bl,0,none⟩)] lo 4 (encR K) InfoR (fillL c [] K) w:=by
 intro n l J W hb hJb hY hJ;have hs:=hb.size;have hF:=fill_all_rows bm bl W.heap.size l K c lo w.heap.size J hm hl hs hK hc hJb hY K;have q1':=(hb.block bm hm.2).trans q1;have q2':=(hb.block bl hl.2).trans q2;have c1:(W.alloc (.cells #[.func (.yield l) #[] #[]] 135)).cell? ⟨bm,0,none⟩=some (.int .i64 K):=by
  rw[cell_of_row _ _ 0 _ _ (0,0) (Eq.trans (haoI W _ _ (by omega)) q1')]; rfl
 have HY:=hdd hY;have HJ:=hdd hJ;have HJB:=hdd hJb;have HQ1:=hdd q1';have HQ2:=hdd q2';clear hY hJ hJb q1' q2' q1 q2;have hmk:=run_make_row' 37 3 (.int .i64 0) 8 Tryz.underlying37 infoInt rfl .i64 .i64 K (by omega) (by omega) (W.alloc (.cells #[.func (.yield l) #[] #[]] 135));rw[World.size_alloc] at hmk;obtain ⟨W4,hW4⟩:∃ W4,W4=((((W.alloc (.cells #[.func (.yield l) #[] #[]] 135)).alloc (.cells (madeCells #[.int .i64 0] K) 3)).alloc (.cells #[.slice (some ⟨W.heap.size+1,0,none⟩) K K] 37)).alloc (.cells #[(.func (.func 183) #[] #[.pointer (some ⟨bm,0,none⟩),.pointer (some ⟨W.heap.size,0,none⟩),.pointer (some ⟨W.heap.size+1+1,0,none⟩),.pointer (some ⟨bl,0,none⟩),.pointer (some ⟨W.heap.size+1+1+1,0,none⟩)])] 76)):=⟨_,rfl⟩
 have r3:W4.heap[W.heap.size+1+1+1]?=some (.cells #[(.func (.func 183) #[] #[.pointer (some ⟨bm,0,none⟩),.pointer (some ⟨W.heap.size,0,none⟩),.pointer (some ⟨W.heap.size+1+1,0,none⟩),.pointer (some ⟨bl,0,none⟩),.pointer (some ⟨W.heap.size+1+1+1,0,none⟩)])] 76):=by
  rw[hW4]; have q:=@Go.heap_alloc_new (((W.alloc (.cells #[.func (.yield l) #[] #[]] 135)).alloc (.cells (madeCells #[.int .i64 0] K) 3)).alloc (.cells #[.slice (some ⟨W.heap.size+1,0,none⟩) K K] 37)) (.cells #[(.func (.func 183) #[] #[.pointer (some ⟨bm,0,none⟩),.pointer (some ⟨W.heap.size,0,none⟩),.pointer (some ⟨W.heap.size+1+1,0,none⟩),.pointer (some ⟨bl,0,none⟩),.pointer (some ⟨W.heap.size+1+1+1,0,none⟩)])] 76); simp only[World.size_alloc] at q; exact q
 have r2:W4.heap[W.heap.size+1+1]?=some (.cells #[.slice (some ⟨W.heap.size+1,0,none⟩) K K] 37):=by
  rw[hW4,haoI _ _ _ (by simp only[World.size_alloc]; omega)]; have q:=@Go.heap_alloc_new ((W.alloc (.cells #[.func (.yield l) #[] #[]] 135)).alloc (.cells (madeCells #[.int .i64 0] K) 3)) (.cells #[.slice (some ⟨W.heap.size+1,0,none⟩) K K] 37); simp only[World.size_alloc] at q; exact q
 have r1:W4.heap[W.heap.size+1]?=some (.cells (madeCells #[.int .i64 0] K) 3):=by
  rw[hW4,haoI _ _ _ (by simp only[World.size_alloc]; omega),haoI _ _ _ (by simp only[World.size_alloc]; omega)]; have q:=@Go.heap_alloc_new (W.alloc (.cells #[.func (.yield l) #[] #[]] 135)) (.cells (madeCells #[.int .i64 0] K) 3); simp only[World.size_alloc] at q; exact q
 have r0:W4.heap[W.heap.size]?=some (.cells #[.func (.yield l) #[] #[]] 135):=by
  rw[hW4,haoI _ _ _ (by simp only[World.size_alloc]; omega),haoI _ _ _ (by simp only[World.size_alloc]; omega),haoI _ _ _ (by simp only[World.size_alloc]; omega)]; exact @Go.heap_alloc_new W (.cells #[.func (.yield l) #[] #[]] 135)
 have rold:∀ k,k<W.heap.size→W4.heap[k]?=W.heap[k]?:=fun k hk=>by
  rw[hW4,haoI _ _ _ (by simp only[World.size_alloc]; omega),haoI _ _ _ (by simp only[World.size_alloc]; omega),haoI _ _ _ (by simp only[World.size_alloc]; omega),haoI _ _ _ hk]
 have hst:FillSt bm bl W.heap.size l K c (List.replicate K 0) W4:=by
  refine ⟨?_,?_,?_,?_,?_,?_,by simp⟩
  ·rw[rold _ (by omega)]; exact HQ1.out
  ·rw[rold _ (by omega)]; exact HQ2.out
  ·exact r0
  ·rw[r1]
   have e:madeCells #[Value.int .i64 0] K=(ints (List.replicate K 0)).toArray:=by
    have q:=toList_madeCells_one (Value.int .i64 0) K;rw[←Array.toArray_toList (xs:=madeCells #[Value.int .i64 0] K),q];simp[ints]
   rw[e]
  ·exact r2
  ·exact r3
 have hJ4:J [] W4:=by
  rw[hW4];exact HJB.out.alloc _ (HJB.out.alloc _ (HJB.out.alloc _ (HJB.out.alloc _ HJ.out)))
 have hC:=callsIn_wide.1 (hF 0 [] [] (List.replicate K 0) _ 0 (by omega) hst hJ4 (by simp));unfold cappedV at hC;simp only[List.append_toArray,List.cons_append,List.nil_append,List.take_zero] at hC;rw[hW4] at hC;clear r0 r1 r2 r3 rold hst hJ4 hF hW4;refine callsIn_wide.2 ?_
 show Calls _ _ #[.func (.yield l) #[] #[],.pointer (some ⟨bm,0,none⟩),.pointer (some ⟨bl,0,none⟩)] _ _
 go_enter Tryz.func182,Tryz.ntmps182;go_wp2_with fail;refine hC.mono ?_;rintro e W5 ⟨rfl,hJ5,_⟩;have HJ5:=hdd hJ5;clear hC hJ5;go_wp2;go_end0;exact ⟨⟨_,rfl⟩,by simpa using HJ5.out⟩
end
end Go.Proofs.YtenlngclocfnlaaGreatDoor
