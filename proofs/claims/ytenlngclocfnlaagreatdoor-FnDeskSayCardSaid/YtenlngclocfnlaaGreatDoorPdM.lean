/- Texts of this claim, put together: BunP, BunS, LieAsk, LieAsk2, BunQ. -/
import Derived.Test.YtenlngclocfnlaaGreatDoorPdA
import Derived.WalkKit
import Derived.RegionTactic
import Derived.Test.YtenlngclocfnlaaGreatDoorPdK
import Derived.Test.YtenlngclocfnlaaGreatDoorPdL
import Derived.Test.YtenlngclocfnlaaGreatDoorPdE
import Derived.Test.YtenlngclocfnlaaGreatDoorShelf
import Derived.Deep.RegionHeld3
import Derived.Deep.DeepCutAuto
import Derived.Test.YtenlngclocfnlaaGreatDoorPdY
import Derived.Test.YtenlngclocfnlaaGreatDoorPdU
import Derived.Test.YtenlngclocfnlaaGreatDoorPdB
import Derived.Test.YtenlngclocfnlaaGreatDoorPdGD
namespace Go.Proofs.YtenlngclocfnlaaGreatDoor
set_option linter.unusedVariables false
section
open Go Go.RowKit
def invIdx (dst:Nat→Nat) (n t:Nat):Option Nat:=(List.range n).find? fun i=>dst i==t
theorem invIdx_some {dst:Nat→Nat} {n t k:Nat} (h:invIdx dst n t=some k):dst k=t:=by
 have:=List.find?_some h
 simpa using this
def invSl (dst:Nat→Nat) (n:Nat) (done:Array Bool) (vs:Nat→Value) (t:Nat) (x:Value):Value:=match invIdx dst n t with
 | some k=>if done.getD k false=true then vs k else x
 | none=>x
def invL (dst:Nat→Nat) (n:Nat) (done:Array Bool) (vs:Nat→Value):Nat→List Value→List Value
 | _,[]=>[]
 | t,x::xs=>invSl dst n done vs t x::invL dst n done vs (t+1) xs
theorem invL_get (dst:Nat→Nat) (n:Nat) (done:Array Bool) (vs:Nat→Value):∀ (l:List Value) (t j:Nat),(invL dst n done vs t l)[j]?=(l[j]?).map (invSl dst n done vs (t+j))
 | [],t,j=>by simp[invL]
 | x::xs,t,0=>by simp[invL]
 | x::xs,t,j+1=>by
  simp only[invL,List.getElem?_cons_succ];rw[invL_get dst n done vs xs (t+1) j,show t+1+j=t+(j+1) by omega]
theorem invL_len (dst:Nat→Nat) (n:Nat) (done:Array Bool) (vs:Nat→Value):∀ (l:List Value) (t:Nat),(invL dst n done vs t l).length=l.length
 | [],t=>rfl
 | x::xs,t=>by simp[invL,invL_len dst n done vs xs (t+1)]
def invA (dst:Nat→Nat) (n:Nat) (a0:Act) (done:Array Bool) (vs:Nat→Value):Act:={ a0 with tmps:=(invL dst n done vs 0 a0.tmps.toList).toArray }
theorem invA_get (dst:Nat→Nat) (n:Nat) (a0:Act) (done:Array Bool) (vs:Nat→Value) (t:Nat):(invA dst n a0 done vs).tmps.getD t undef=match a0.tmps[t]? with
  | some x=>invSl dst n done vs t x
  | none=>undef:=by
 unfold invA;simp only[Array.getD_eq_getD_getElem?,List.getElem?_toArray,invL_get,Array.getElem?_toList,Nat.zero_add]
 cases a0.tmps[t]? <;> rfl
theorem invA_done {dst:Nat→Nat} {n:Nat} {a0:Act} {done:Array Bool} {vs:Nat→Value} {k:Nat} (hi:invIdx dst n (dst k)=some k) (hs:dst k<a0.tmps.size) (hd:done.getD k false=true):
  (invA dst n a0 done vs).tmps.getD (dst k) undef=vs k:=by
 rw[invA_get,Array.getElem?_eq_getElem hs];simp only[invSl,hi,hd,if_true]
theorem invA_other {dst:Nat→Nat} {n:Nat} {a0:Act} {done:Array Bool} {vs:Nat→Value} {t:Nat} (hi:invIdx dst n t=none):
  (invA dst n a0 done vs).tmps.getD t undef=a0.tmps.getD t undef:=by
 rw[invA_get];simp only[invSl,hi,Array.getD_eq_getD_getElem?]
 cases a0.tmps[t]? <;> rfl
theorem invA_put {dst:Nat→Nat} {n:Nat} {a0:Act} {done:Array Bool} {vs:Nat→Value} {i:Nat} (hi:invIdx dst n (dst i)=some i) (hlt:i<done.size) (hd:done.getD i false=false) (v:Value):
  (invA dst n a0 done vs).put (some (dst i)) v=invA dst n a0 (done.setIfInBounds i true) (fun k=>if k=i then v else vs k):=by
 unfold invA Act.put;simp only[List.setIfInBounds_toArray]
 congr 2
 refine List.ext_getElem? fun j=>?_
 rw[List.getElem?_set,invL_get,invL_get,invL_len,Array.length_toList]
 rcases Nat.lt_or_ge j a0.tmps.size with hj | hj
 ·rw[Array.getElem?_toList,Array.getElem?_eq_getElem hj]
  simp only[Option.map_some,Nat.zero_add]
  by_cases e:dst i=j
  ·subst e
   rw[if_pos rfl,if_pos hj];have h1:(done.setIfInBounds i true).getD i false=true:=by simp[hlt]
   simp only[invSl,hi,h1,if_true]
  ·rw[if_neg e]
   congr 1
   unfold invSl
   rcases q:invIdx dst n j with _ | k
   ·rfl
   ·have hk:k≠i:=by
     rintro rfl;exact e (invIdx_some q)
    simp only;rw[Go.getD_set_ne false (Ne.symm hk),if_neg hk]
 ·rw[Array.getElem?_toList,Array.getElem?_eq_none hj]
  split
  ·rw[if_neg (by omega)]; rfl
  ·rfl
def invDeps (o:Oper):List Nat:=(o.after.toList.filter (Region.binds .any)).map (·.on)
def invLeft (done:Array Bool):Nat:=(done.toList.filter (fun b=>!b)).length
theorem invLeft_set {done:Array Bool} {i:Nat} (hlt:i<done.size) (h:done.getD i false=false):invLeft (done.setIfInBounds i true)+1=invLeft done:=by
 obtain ⟨l⟩:=done;simp only[List.size_toArray] at hlt;have h':l[i]=false:=by simpa [hlt] using h
 unfold invLeft;simp only[List.setIfInBounds_toArray];clear h
 induction l generalizing i with
 | nil=>simp at hlt
 | cons x xs ih=>
  cases i with
  | zero=>
   simp only[List.getElem_cons_zero] at h';subst h';simp
  | succ i=>
   simp only[List.getElem_cons_succ,List.length_cons] at h' hlt;have:=ih (i:=i) (by omega) h';simp only[List.set_cons_succ]
   cases x <;> simp at this ⊢ <;> omega
theorem invLeft_pos {done:Array Bool} {i:Nat} (hlt:i<done.size) (h:done.getD i false=false):0<invLeft done:=by
 have:=invLeft_set hlt h; omega
section
variable {P:Program} {l:List Oper} {Q:Exit→Act→World→Prop} {a0:Act} {w0:World} {dst:Nat→Nat} {Φ:Nat→Value→World→Prop}
def InvS (l:List Oper) (a0:Act) (w0:World) (dst:Nat→Nat) (Φ:Nat→Value→World→Prop) (done:Array Bool) (a:Act) (w:World):Prop:=
 done.size=l.length∧Below w0.heap.size w0 w∧∃ vs,a=invA dst l.length a0 done vs∧∀ k,k<l.length→done.getD k false=true→Φ k (vs k) w
theorem inv_all {done:Array Bool} (hs:done.size=l.length) (hdag:∀ i (h:i<l.length),∀ k∈invDeps l[i],k<i) (hr:Region.ready .any l.toArray done=[]):∀ i,i<l.length→done.getD i false=true:=by
 intro i
 induction i using Nat.strongRecOn with
 | ind i ih=>
  intro hi
  rcases q:done.getD i false with _ | _
  ·exfalso
   have hm:i∈Region.ready .any l.toArray done:=by
    refine mem_ready.2 ⟨?_,l[i],by simp[hi],fun e he hb=>?_⟩
    ·have:i<done.size:=by omega
     simp only[Array.getD_eq_getD_getElem?,Array.getElem?_eq_getElem this,Option.getD_some] at q ⊢;exact q
    ·have hk:e.on∈invDeps l[i]:=List.mem_map.2 ⟨e,List.mem_filter.2 ⟨by simpa using he,hb⟩,rfl⟩
     exact ih _ (hdag i hi _ hk) (by have:=hdag i hi _ hk; omega)
   rw[hr] at hm
   cases hm
  ·rfl
theorem inv_full {done:Array Bool} (hs:done.size=l.length) (h:∀ i,i<l.length→done.getD i false=true):done=Array.replicate l.length true:=by
 refine Array.ext (by simp[hs]) fun i h1 h2=>?_
 have:=h i (by omega);simp only[Array.getD_eq_getD_getElem?,Array.getElem?_eq_getElem h1,Option.getD_some] at this;simp[this]
theorem inv_zero {done:Array Bool} (hs:done.size=l.length) (h:invLeft done=0):∀ i,i<l.length→done.getD i false=true:=by
 intro i hi
 rcases q:done.getD i false with _ | _
 ·have:=invLeft_pos (by omega) q; omega
 ·rfl
theorem inv_any (hdst:∀ i (h:i<l.length),l[i].dst=some (dst i)) (hinj:∀ i,i<l.length→invIdx dst l.length (dst i)=some i) (hsz:∀ i,i<l.length→dst i<a0.tmps.size) (hdag:∀ i (h:i<l.length),∀ k∈invDeps l[i],k<i)
  (hmono:∀ k v w w',Φ k v w→Below w.heap.size w w'→Φ k v w')
  (hstep:∀ i (h:i<l.length),∀ (A:Act) (W:World),Below w0.heap.size w0 W→(∀ t,invIdx dst l.length t=none→A.tmps.getD t undef=a0.tmps.getD t undef)→(∀ k∈invDeps l[i],Φ k (A.tmps.getD (dst k) undef) W) →
   ∀ K:Act→World→Prop,Hid (∀ v W',Below W.heap.size W W'→Φ i v W'→K (A.put (some (dst i)) v) W')→if Region.wanted l[i] (yielded l.toArray A.tmps)=true then Oper.wp P l[i] A W K Q else K (A.put l[i].dst undef) W)
  (hend:∀ vs W,Below w0.heap.size w0 W→(∀ k,k<l.length→Φ k (vs k) W)→Q .normal (invA dst l.length a0 (Array.replicate l.length true) vs) W):
  ∀ (n:Nat) (done:Array Bool) (a:Act) (w:World),InvS l a0 w0 dst Φ done a w→invLeft done=n→wpAny P .any l.toArray Q n done a w:=by
 have fin:∀ (done:Array Bool) (a:Act) (w:World),InvS l a0 w0 dst Φ done a w→(∀ i,i<l.length→done.getD i false=true)→Q .normal a w:=by
  rintro done a w ⟨hs,hB,vs,rfl,hv⟩ h;have e:=inv_full hs h;rw[e];exact hend vs w hB fun k hk=>hv k hk (h k hk)
 intro n
 induction n with
 | zero=>
  intro done a w hI hz;have hall:=inv_zero hI.1 hz;refine ⟨?_,fin done a w hI hall⟩
  rcases q:Region.ready .any l.toArray done with _ | ⟨j,r⟩
  ·rfl
  ·exfalso
   have hj:j∈Region.ready .any l.toArray done:=by rw[q]; simp
   obtain ⟨h1,o,h2,_⟩:=mem_ready.1 hj;have hlt:j<l.length:=by simpa using (Array.getElem?_eq_some_iff.1 h2).1
   have h3:=hall j hlt;have h4:j<done.size:=by have:=hI.1; omega
   simp only[Array.getD_eq_getD_getElem?,Array.getElem?_eq_getElem h4,Option.getD_some] at h1 h3;rw[h1] at h3
   cases h3
 | succ n ih=>
  intro done a w hI hn;refine ⟨fun hr=>fin done a w hI (inv_all hI.1 hdag hr),fun i hi=>?_⟩;obtain ⟨h1,o,h2,h3⟩:=mem_ready.1 hi;have hlt:i<l.length:=by simpa using (Array.getElem?_eq_some_iff.1 h2).1
  have ho:o=l[i]:=by simpa [hlt] using h2.symm
  subst ho;obtain ⟨hs,hB,vs,rfl,hv⟩:=hI;have hls:i<done.size:=by omega
  have hund:done.getD i false=false:=by
   simp only[Array.getD_eq_getD_getElem?,Array.getElem?_eq_getElem hls,Option.getD_some] at h1 ⊢;exact h1
  have hdep:∀ k∈invDeps l[i],done.getD k false=true:=by
   intro k hk;obtain ⟨e,he,rfl⟩:=List.mem_map.1 hk;obtain ⟨he1,he2⟩:=List.mem_filter.1 he;exact h3 e (by simpa using he1) he2
  refine wpOp_step h2 fun K' hK'=>?_
  refine hstep i hlt _ w hB (fun t ht=>invA_other ht) (fun k hk=>?_) K' (hdd fun v W' hb hΦ=>hK' _ _ ?_)
  ·have hkl:=hdag i hlt k hk
   have hd:=hdep k hk;rw[invA_done (hinj k (by omega)) (hsz k (by omega)) hd];exact hv k (by omega) hd
  ·refine ih (done.setIfInBounds i true) _ W' ⟨by simpa using hs,hB.trans (hb.mono hB.size),fun k=>if k=i then v else vs k,invA_put (hinj i hlt) hls hund v,fun k hk hd=>?_⟩ (by have:=invLeft_set hls hund; omega)
   by_cases e:k=i
   ·subst e
    simp only[if_true];exact hΦ
   ·rw[Go.getD_set_ne false (Ne.symm e)] at hd
    simp only[if_neg e];exact hmono k _ _ _ (hv k hk hd) hb
theorem invL_none (n:Nat) (done:Array Bool) (vs:Nat→Value) (hd:∀ k,done.getD k false=false):∀ (l:List Value) (t:Nat),invL dst n done vs t l=l
 | [],t=>rfl
 | x::xs,t=>by
  simp only[invL,invL_none n done vs hd xs (t+1),List.cons.injEq,and_true];unfold invSl
  split
  ·rw[hd]; simp
  ·rfl
theorem invLeft_none (n:Nat):invLeft (Array.replicate n false)=n:=by simp[invLeft]
def invChk (l:List Oper) (dst:Nat→Nat) (m:Nat):Bool:=(List.range l.length).all fun i=>match l[i]? with
 | some o=>o.dst==some (dst i)&&(invIdx dst l.length (dst i)==some i&&(decide (dst i<m)&&(invDeps o).all (fun k=>decide (k<i))))
 | none=>false
theorem invChk_at {dst:Nat→Nat} {m i:Nat} (h:invChk l dst m=true) (hi:i<l.length):l[i].dst=some (dst i)∧invIdx dst l.length (dst i)=some i∧dst i<m∧∀ k∈invDeps l[i],k<i:=by
 have:=List.all_eq_true.1 h i (List.mem_range.2 hi);rw[List.getElem?_eq_getElem hi] at this;simp only[Bool.and_eq_true,beq_iff_eq,decide_eq_true_eq,List.all_eq_true] at this;exact this
theorem wp_region_inv {id:Nat} (hm:P.follows .mixedOrders=true) (dst:Nat→Nat) (m:Nat) (Φ:Nat→Value→World→Prop) (hsz:a0.tmps.size=m) (hchk:invChk l dst m=true)
  (hmono:∀ k v w w',Φ k v w→Below w.heap.size w w'→Φ k v w')
  (hstep:∀ i o,l[i]?=some o→∀ (A:Act) (W:World),Below w0.heap.size w0 W→(∀ t,invIdx dst l.length t=none→A.tmps.getD t undef=a0.tmps.getD t undef)→(∀ k,(invDeps o).contains k=true→Φ k (A.tmps.getD (dst k) undef) W) →
   ∀ K:Act→World→Prop,Hid (∀ v W',Below W.heap.size W W'→Φ i v W'→K (A.put (some (dst i)) v) W')→if Region.wanted o (yielded l.toArray A.tmps)=true then Oper.wp P o A W K Q else K (A.put o.dst undef) W)
  (hend:∀ vs W,Below w0.heap.size w0 W→(∀ k,k<l.length→Φ k (vs k) W)→Q .normal (invA dst l.length a0 (Array.replicate l.length true) vs) W):(Code.region id l.toArray true).wp P Q a0 w0:=by
 refine wp_region_any hm ?_;have hnone:∀ k,(Array.replicate l.toArray.size false).getD k false=false:=fun k=>by
  simp only[Array.getD_eq_getD_getElem?]
  rcases q:(Array.replicate l.toArray.size false)[k]? with _ | b
  ·rfl
  ·obtain ⟨_,q2⟩:=Array.getElem?_eq_some_iff.1 q
   simp at q2;simp[←q2]
 refine inv_any (w0:=w0) (a0:=a0) (fun i h=>(invChk_at hchk h).1) (fun i h=>(invChk_at hchk h).2.1) (fun i h=>by rw[hsz]; exact (invChk_at hchk h).2.2.1) (fun i h=>(invChk_at hchk h).2.2.2) hmono
  (fun i h A W hB hA hD K hK=>hstep i l[i] (List.getElem?_eq_getElem h) A W hB hA (fun k hk=>hD k (by simpa using hk)) K hK) hend _ _ _ _ ⟨by simp,(Below.refl _ w0).drew,fun _=>undef,?_,fun k _ hk=>?_⟩ (by simpa using invLeft_none l.length)
 ·unfold invA
  rw[invL_none l.length _ _ hnone]
 ·rw[hnone] at hk; cases hk
end
theorem invIdx_lt {dst:Nat→Nat} {n t k:Nat} (h:invIdx dst n t=some k):k<n:=List.mem_range.1 (List.mem_of_find?_eq_some h)
theorem invL_lit (dst:Nat→Nat) (n:Nat) (vs:Nat→Value):∀ (l:List Value) (t:Nat),invL dst n (Array.replicate n true) vs t l=List.zipWith (fun o x=>match o with | some k=>vs k | none=>x) ((List.range' t l.length).map (invIdx dst n)) l
 | [],t=>rfl
 | x::xs,t=>by
  rw[invL,invL_lit dst n vs xs (t+1),List.length_cons,List.range'_succ,List.map_cons,List.zipWith_cons_cons]
  congr 1
  unfold invSl
  rcases q:invIdx dst n t with _ | k
  ·rfl
  ·have hk:=invIdx_lt q
   simp[hk]
theorem invA_lit {dst:Nat→Nat} {n m:Nat} {a0:Act} {vs:Nat→Value} (idxs:List (Option Nat)) (h:(List.range m).map (invIdx dst n)=idxs) (hs:a0.tmps.size=m):
  invA dst n a0 (Array.replicate n true) vs={ a0 with tmps:=(List.zipWith (fun o x=>match o with | some k=>vs k | none=>x) idxs a0.tmps.toList).toArray }:=by
 unfold invA;rw[invL_lit,Array.length_toList,hs,←List.range_eq_range',h]
end
section
open Go.RowKit
set_option maxRecDepth 100000
theorem cell_lt' {w:World} {b j:Nat} {v:Value} (h:w.cell? ⟨b,j,none⟩=some v):b<w.heap.size:=by
 rcases Nat.lt_or_ge b w.heap.size with q | q
 ·exact q
 ·exfalso
  have e:w.heap[b]?=none:=Array.getElem?_eq_none q;simp[World.cell?,e] at h
theorem textD_len (d:Dd):(textD d).length≤13:=by
 by_cases h:textD d=[]
 ·rw[h]; simp
 ·rcases textD_cases h with rfl | ⟨_,h2,h3⟩
  ·rw[textD_undo]; simp[wordBack]
  ·rw[h3]
   have:=(textOk_iff.1 h2).1;simp[guessText,wordGuess];omega
theorem digits1 (N:Nat) (r:Int) (W:World) (h:W.cell? ⟨N,0,none⟩=some (.int .i64 r)) (h0:inB r 0 9=true):
  Calls Tryz.prog 56 #[.slice (some ⟨N,0,none⟩) 1 1] W fun e w'=>e=.returned (.string ⟨[dg r].toArray⟩)∧Below W.heap.size W w':=by
 obtain ⟨h1,h2⟩:=inB_iff.1 h0;have hI:Ints 0 W (.slice (some ⟨N,0,none⟩) 1 1) [r]:=by
  refine ⟨⟨some ⟨N,0,none⟩,1,rfl,Nat.le_refl _,by omega,fun _=>⟨N,0,rfl,Nat.zero_le _,fun i hi=>?_⟩⟩,fun x hx=>?_⟩
  ·have:i=0:=by simpa [ints] using hi
   subst this
   simpa [ints] using h
  ·rw[List.mem_singleton.1 hx]; unfold In64; omega
 exact (digits_any _ [r] W hI (by simp[allD,h0]) (by simp)).mono fun e w' q=>q
theorem new_cell (w:World) (v:Value) (t:TypeId):(w.alloc (.cells #[v] t)).cell? ⟨w.heap.size,0,none⟩=some v:=by
 simp
set_option maxHeartbeats 8000000 in
theorem deedTextI_any {B:Nat} (b:Bool) (u:Value) (xs:List Int) (r n:Int) (w:World) (h:Ints B w u xs):
  Calls Tryz.prog 15 #[dV b u r n] w (TextOut (textD ⟨b,xs,r,n⟩) w):=by
 have HX:=hdd h;obtain ⟨a,cap,rfl,hcap,hmax,_⟩:=h.opened;clear h;obtain ⟨w1,hw1⟩:∃ w1,w1=(w.alloc (.cells #[.bool b,.slice a xs.length cap,.int .i64 r,.int .i64 n] 41)).alloc (.cells #[.slice a xs.length cap,.int .i64 r,.int .i64 n] 39):=⟨_,rfl⟩
 have hb1:Below w.heap.size w w1:=by rw[hw1]; exact ((Below.refl _ _).alloc (Nat.le_refl _) _).alloc (by simp) _
 have hz0:w1.heap[w.heap.size]?=some (.cells #[.bool b,.slice a xs.length cap,.int .i64 r,.int .i64 n] 41 (0,0)):=by rw[hw1,haoM _ _ (by simp)]; exact heap_alloc_new w _
 have hz1:w1.heap[w.heap.size+1]?=some (.cells #[.slice a xs.length cap,.int .i64 r,.int .i64 n] 39 (0,0)):=by
  rw[hw1]; have q:=heap_alloc_new (w.alloc (.cells #[.bool b,.slice a xs.length cap,.int .i64 r,.int .i64 n] 41)) (.cells #[.slice a xs.length cap,.int .i64 r,.int .i64 n] 39); rw[World.size_alloc] at q; exact q
 have hs1:w1.heap.size=w.heap.size+2:=by rw[hw1]; simp
 have HB1:=hdd hb1;have HZ1:=hdd hz1;have c0:=cell_of_row _ _ 0 _ _ (0,0) hz0;have g0:=cell_of_row _ _ 0 _ _ (0,0) hz1;have g1:=cell_of_row _ _ 1 _ _ (0,0) hz1;have g2:=cell_of_row _ _ 2 _ _ (0,0) hz1;simp only[List.getElem?_toArray,List.getElem?_cons_zero,List.getElem?_cons_succ] at c0 g0 g1 g2;clear hb1 hz0 hz1;unfold dV;have HA:=hdd (fun W q=>allIn_any (.slice a xs.length cap) xs 0 9 W (show Ints B W _ xs from HX.out.below q));have HNO:=hdd (show ∀ z:Bool,allB xs 0 9=z→(z=false→textOk xs r n=false) from fun z q e=>by
  subst e;unfold textOk;unfold allB at q;rw[q];simp)
 cases b
 ·obtain ⟨t1,ht1⟩:∃ t,t=inB (xs.length:Int) 1 3:=⟨_,rfl⟩
  obtain ⟨t2,ht2⟩:∃ t,t=allB xs 0 9:=⟨_,rfl⟩
  obtain ⟨t3,ht3⟩:∃ t,t=inB r 0 9:=⟨_,rfl⟩
  obtain ⟨t4,ht4⟩:∃ t,t=inB n 0 9:=⟨_,rfl⟩
  have HOK:=hdd (show textOk xs r n=(t1&&t2&&t3&&t4) by rw[ht1,ht2,ht3,ht4]; rfl);have HT1:=hdd ht1;have HT2:=hdd ht2;have HT3:=hdd ht3;have HT4:=hdd ht4;have hI1:=in_any (xs.length:Int) 1 3 w1;rw[←ht1] at hI1;clear ht1 ht2 ht3 ht4 HNO;go_enter Tryz.func15,Tryz.ntmps15;go_wp2_with fail;rw[←hw1];clear hw1;refine hI1.mono ?_;rintro e w2 ⟨rfl,rfl⟩;clear hI1
  cases t1
  ·go_wp2
   go_ret;exact ⟨by rw[textD_bad (by rw[HOK.out]; simp)]; rfl,HB1.out⟩
  ·have hA:=HA.out w1 HB1.out
   rw[←HT2.out] at hA;go_wp2_with fail;refine hA.mono ?_;rintro e w3 ⟨rfl,hb3⟩;have HB3:=hdd (HB1.out.trans (hb3.mono HB1.out.size));have hz3:=(hb3.block _ (Array.getElem?_eq_some_iff.1 HZ1.out).1).trans HZ1.out;have g0:=cell_of_row _ _ 0 _ _ (0,0) hz3;have g1:=cell_of_row _ _ 1 _ _ (0,0) hz3;have g2:=cell_of_row _ _ 2 _ _ (0,0) hz3;simp only[List.getElem?_toArray,List.getElem?_cons_zero,List.getElem?_cons_succ] at g0 g1 g2;have hs3:=hb3.size;clear hA hb3 hz3 c0
   cases t2
   ·go_wp2
    go_ret;exact ⟨by rw[textD_bad (by rw[HOK.out]; simp)]; rfl,HB3.out⟩
   ·have hI3:=in_any r 0 9 w3
    rw[←HT3.out] at hI3;go_wp2_with fail;refine hI3.mono ?_;rintro e w4 ⟨rfl,rfl⟩;clear hI3
    cases t3
    ·go_wp2
     go_ret;exact ⟨by rw[textD_bad (by rw[HOK.out]; simp)]; rfl,HB3.out⟩
    ·have hI4:=in_any n 0 9 w3
     rw[←HT4.out] at hI4;go_wp2_with fail;refine hI4.mono ?_;rintro e w4 ⟨rfl,rfl⟩;clear hI4
     cases t4
     ·go_wp2
      go_ret;exact ⟨by rw[textD_bad (by rw[HOK.out]; simp)]; rfl,HB3.out⟩
     ·have HR:=hdd HT3.out.symm
      have HN:=hdd HT4.out.symm;have HALL:=hdd (show allD xs=true from HT2.out.symm);have hlen:=inB_iff.1 HT1.out.symm;have HD0:=hdd (show ∀ W,Below w3.heap.size w3 W→Calls Tryz.prog 56 #[.slice a xs.length cap] W (fun e w'=>e=.returned (.string ⟨(dgs xs).toArray⟩)∧Below W.heap.size W w') from fun W q=>digits_any _ xs W (HX.out.below (HB3.out.trans (q.mono HB3.out.size))) HALL.out (by omega));have hL3:(dgs xs).length≤3:=by unfold dgs; rw[List.length_map]; omega
      obtain ⟨L,hL⟩:∃ L,L=dgs xs:=⟨_,rfl⟩
      rw[←hL] at HD0 hL3;have HL:=hdd hL;have hgl:w.heap.size+1<w3.heap.size:=by omega
      clear hL hlen hs3 hcap hmax hs1 HA HT1 HT2 HT3 HT4;go_wp2_with fail;refine wp_region_inv (by kernel_rfl) (fun k=>(#[33,34,35,36,37,38,39,40,41,42,43,44,45,46,47,48,2]:Array Nat).getD k 0) 49
       (fun k v W=>match k with
        | 0=>v=.pointer (some ⟨w.heap.size+1,0,none⟩)
        | 1=>v=.slice a xs.length cap
        | 2=>v=.string ⟨L.toArray⟩
        | 3=>v=.string ((ByteArray.mk #[103,117,101,115,115,32])++⟨L.toArray⟩)
        | 4=>v=.string ((ByteArray.mk #[103,117,101,115,115,32])++⟨L.toArray⟩++⟨#[32]⟩)
        | 5=>v=.pointer (some ⟨w.heap.size+1,1,none⟩)
        | 6=>v=.int .i64 r
        | 7=>∃ N,v=.slice (some ⟨N,0,none⟩) 1 1∧W.cell? ⟨N,0,none⟩=some (.int .i64 r)
        | 8=>v=.string ⟨#[dg r]⟩
        | 9=>v=.string ((ByteArray.mk #[103,117,101,115,115,32])++⟨L.toArray⟩++⟨#[32]⟩++⟨#[dg r]⟩)
        | 10=>v=.string ((ByteArray.mk #[103,117,101,115,115,32])++⟨L.toArray⟩++⟨#[32]⟩++⟨#[dg r]⟩++⟨#[32]⟩)
        | 11=>v=.pointer (some ⟨w.heap.size+1,2,none⟩)
        | 12=>v=.int .i64 n
        | 13=>∃ N,v=.slice (some ⟨N,0,none⟩) 1 1∧W.cell? ⟨N,0,none⟩=some (.int .i64 n)
        | 14=>v=.string ⟨#[dg n]⟩
        | 15=>v=.string ((ByteArray.mk #[103,117,101,115,115,32])++⟨L.toArray⟩++⟨#[32]⟩++⟨#[dg r]⟩++⟨#[32]⟩++⟨#[dg n]⟩)
        | 16=>v=.string ((ByteArray.mk #[103,117,101,115,115,32])++⟨L.toArray⟩++⟨#[32]⟩++⟨#[dg r]⟩++⟨#[32]⟩++⟨#[dg n]⟩)
        | _=>False) rfl (by kernel_rfl) ?mono ?step ?fin
      case mono=>
       intro k v W W' h hb
       match k,h with
       | 0,h=>exact h
       | 1,h=>exact h
       | 2,h=>exact h
       | 3,h=>exact h
       | 4,h=>exact h
       | 5,h=>exact h
       | 6,h=>exact h
       | 7,h=>(obtain ⟨N,h1,h2⟩:=h; exact ⟨N,h1,(hb.cell (cell_lt' h2)).trans h2⟩)
       | 8,h=>exact h
       | 9,h=>exact h
       | 10,h=>exact h
       | 11,h=>exact h
       | 12,h=>exact h
       | 13,h=>(obtain ⟨N,h1,h2⟩:=h; exact ⟨N,h1,(hb.cell (cell_lt' h2)).trans h2⟩)
       | 14,h=>exact h
       | 15,h=>exact h
       | 16,h=>exact h
      case step=>
       intro i o ho A W hW hA hD K hK
       match i,ho with
       | 0,ho=>
        obtain rfl:=Option.some.inj ho;have e3:A.tmps.getD 3 undef=.pointer (some ⟨w.heap.size+1,0,none⟩):=(hA 3 (by kernel_rfl)).trans rfl;have e3':=gDq e3;have HK:=hdd (show ∀ v W',Below W.heap.size W W'→(v=.pointer (some ⟨w.heap.size+1,0,none⟩))→K (A.put (some 33) v) W' from hK.out);clear hA hD hK;go_simp;exact HK.out _ _ (Below.refl _ _) rfl
       | 1,ho=>
        obtain rfl:=Option.some.inj ho;have e3:A.tmps.getD 3 undef=.pointer (some ⟨w.heap.size+1,0,none⟩):=(hA 3 (by kernel_rfl)).trans rfl;have e3':=gDq e3;have d0:A.tmps.getD 33 undef=.pointer (some ⟨w.heap.size+1,0,none⟩):=hD 0 (by kernel_rfl);have d0':=gDq d0;have HK:=hdd (show ∀ v W',Below W.heap.size W W'→(v=.slice a xs.length cap)→K (A.put (some 34) v) W' from hK.out);have hcc:=(hW.cell hgl).trans g0;clear hA hD hK;go_simp;exact HK.out _ _ (Below.refl _ _) rfl
       | 2,ho=>
        obtain rfl:=Option.some.inj ho;have e3:A.tmps.getD 3 undef=.pointer (some ⟨w.heap.size+1,0,none⟩):=(hA 3 (by kernel_rfl)).trans rfl;have e3':=gDq e3;have d1:A.tmps.getD 34 undef=.slice a xs.length cap:=hD 1 (by kernel_rfl);have d1':=gDq d1;have HK:=hdd (show ∀ v W',Below W.heap.size W W'→(v=.string ⟨L.toArray⟩)→K (A.put (some 35) v) W' from hK.out);clear hA hD hK;go_simp;refine (HD0.out W hW).mono ?_;rintro e W' ⟨rfl,hb⟩;exact HK.out _ _ hb rfl
       | 3,ho=>
        obtain rfl:=Option.some.inj ho;have e3:A.tmps.getD 3 undef=.pointer (some ⟨w.heap.size+1,0,none⟩):=(hA 3 (by kernel_rfl)).trans rfl;have e3':=gDq e3;have d2:A.tmps.getD 35 undef=.string ⟨L.toArray⟩:=hD 2 (by kernel_rfl);have d2':=gDq d2;have HK:=hdd (show ∀ v W',Below W.heap.size W W'→(v=.string ((ByteArray.mk #[103,117,101,115,115,32])++⟨L.toArray⟩))→K (A.put (some 36) v) W' from hK.out);clear hA hD hK;go_simp;rw[if_neg (by omega),Oper.upon_value];exact HK.out _ _ (Below.refl _ _) rfl
       | 4,ho=>
        obtain rfl:=Option.some.inj ho;have e3:A.tmps.getD 3 undef=.pointer (some ⟨w.heap.size+1,0,none⟩):=(hA 3 (by kernel_rfl)).trans rfl;have e3':=gDq e3;have d3:A.tmps.getD 36 undef=.string ((ByteArray.mk #[103,117,101,115,115,32])++⟨L.toArray⟩):=hD 3 (by kernel_rfl);have d3':=gDq d3;have HK:=hdd (show ∀ v W',Below W.heap.size W W'→(v=.string ((ByteArray.mk #[103,117,101,115,115,32])++⟨L.toArray⟩++⟨#[32]⟩))→K (A.put (some 37) v) W' from hK.out);clear hA hD hK;go_simp;rw[if_neg (by omega),Oper.upon_value];exact HK.out _ _ (Below.refl _ _) rfl
       | 5,ho=>
        obtain rfl:=Option.some.inj ho;have e3:A.tmps.getD 3 undef=.pointer (some ⟨w.heap.size+1,0,none⟩):=(hA 3 (by kernel_rfl)).trans rfl;have e3':=gDq e3;have HK:=hdd (show ∀ v W',Below W.heap.size W W'→(v=.pointer (some ⟨w.heap.size+1,1,none⟩))→K (A.put (some 38) v) W' from hK.out);clear hA hD hK;go_simp;exact HK.out _ _ (Below.refl _ _) rfl
       | 6,ho=>
        obtain rfl:=Option.some.inj ho;have e3:A.tmps.getD 3 undef=.pointer (some ⟨w.heap.size+1,0,none⟩):=(hA 3 (by kernel_rfl)).trans rfl;have e3':=gDq e3;have d5:A.tmps.getD 38 undef=.pointer (some ⟨w.heap.size+1,1,none⟩):=hD 5 (by kernel_rfl);have d5':=gDq d5;have HK:=hdd (show ∀ v W',Below W.heap.size W W'→(v=.int .i64 r)→K (A.put (some 39) v) W' from hK.out);have hcc:=(hW.cell hgl).trans g1;clear hA hD hK;go_simp;exact HK.out _ _ (Below.refl _ _) rfl
       | 7,ho=>
        obtain rfl:=Option.some.inj ho;have e3:A.tmps.getD 3 undef=.pointer (some ⟨w.heap.size+1,0,none⟩):=(hA 3 (by kernel_rfl)).trans rfl;have e3':=gDq e3;have d6:A.tmps.getD 39 undef=.int .i64 r:=hD 6 (by kernel_rfl);have d6':=gDq d6;have HK:=hdd (show ∀ v W',Below W.heap.size W W'→(∃ N,v=.slice (some ⟨N,0,none⟩) 1 1∧W'.cell? ⟨N,0,none⟩=some (.int .i64 r))→K (A.put (some 40) v) W' from hK.out);clear hA hD hK;go_simp;exact HK.out _ _ ((Below.refl _ _).alloc (Nat.le_refl _) _) ⟨_,rfl,new_cell _ _ _⟩
       | 8,ho=>
        obtain rfl:=Option.some.inj ho;have e3:A.tmps.getD 3 undef=.pointer (some ⟨w.heap.size+1,0,none⟩):=(hA 3 (by kernel_rfl)).trans rfl;have e3':=gDq e3;obtain ⟨N,hN,hc⟩:=(show ∃ N,A.tmps.getD 40 undef=.slice (some ⟨N,0,none⟩) 1 1∧W.cell? ⟨N,0,none⟩=some (.int .i64 r) from hD 7 (by kernel_rfl))
        have hN':=gDq hN;have HK:=hdd (show ∀ v W',Below W.heap.size W W'→(v=.string ⟨#[dg r]⟩)→K (A.put (some 41) v) W' from hK.out);clear hA hD hK;have hT:=digits1 N r W hc HR.out;go_simp;refine hT.mono ?_;rintro e W' ⟨rfl,hb⟩;exact HK.out _ _ hb rfl
       | 9,ho=>
        obtain rfl:=Option.some.inj ho;have e3:A.tmps.getD 3 undef=.pointer (some ⟨w.heap.size+1,0,none⟩):=(hA 3 (by kernel_rfl)).trans rfl;have e3':=gDq e3;have d4:A.tmps.getD 37 undef=.string ((ByteArray.mk #[103,117,101,115,115,32])++⟨L.toArray⟩++⟨#[32]⟩):=hD 4 (by kernel_rfl);have d4':=gDq d4;have d8:A.tmps.getD 41 undef=.string ⟨#[dg r]⟩:=hD 8 (by kernel_rfl);have d8':=gDq d8;have HK:=hdd (show ∀ v W',Below W.heap.size W W'→(v=.string ((ByteArray.mk #[103,117,101,115,115,32])++⟨L.toArray⟩++⟨#[32]⟩++⟨#[dg r]⟩))→K (A.put (some 42) v) W' from hK.out);clear hA hD hK;go_simp;rw[if_neg (by omega),Oper.upon_value];exact HK.out _ _ (Below.refl _ _) rfl
       | 10,ho=>
        obtain rfl:=Option.some.inj ho;have e3:A.tmps.getD 3 undef=.pointer (some ⟨w.heap.size+1,0,none⟩):=(hA 3 (by kernel_rfl)).trans rfl;have e3':=gDq e3;have d9:A.tmps.getD 42 undef=.string ((ByteArray.mk #[103,117,101,115,115,32])++⟨L.toArray⟩++⟨#[32]⟩++⟨#[dg r]⟩):=hD 9 (by kernel_rfl);have d9':=gDq d9;have HK:=hdd (show ∀ v W',Below W.heap.size W W'→(v=.string ((ByteArray.mk #[103,117,101,115,115,32])++⟨L.toArray⟩++⟨#[32]⟩++⟨#[dg r]⟩++⟨#[32]⟩))→K (A.put (some 43) v) W' from hK.out);clear hA hD hK;go_simp;rw[if_neg (by omega),Oper.upon_value];exact HK.out _ _ (Below.refl _ _) rfl
       | 11,ho=>
        obtain rfl:=Option.some.inj ho;have e3:A.tmps.getD 3 undef=.pointer (some ⟨w.heap.size+1,0,none⟩):=(hA 3 (by kernel_rfl)).trans rfl;have e3':=gDq e3;have HK:=hdd (show ∀ v W',Below W.heap.size W W'→(v=.pointer (some ⟨w.heap.size+1,2,none⟩))→K (A.put (some 44) v) W' from hK.out);clear hA hD hK;go_simp;exact HK.out _ _ (Below.refl _ _) rfl
       | 12,ho=>
        obtain rfl:=Option.some.inj ho;have e3:A.tmps.getD 3 undef=.pointer (some ⟨w.heap.size+1,0,none⟩):=(hA 3 (by kernel_rfl)).trans rfl;have e3':=gDq e3;have d11:A.tmps.getD 44 undef=.pointer (some ⟨w.heap.size+1,2,none⟩):=hD 11 (by kernel_rfl);have d11':=gDq d11;have HK:=hdd (show ∀ v W',Below W.heap.size W W'→(v=.int .i64 n)→K (A.put (some 45) v) W' from hK.out);have hcc:=(hW.cell hgl).trans g2;clear hA hD hK;go_simp;exact HK.out _ _ (Below.refl _ _) rfl
       | 13,ho=>
        obtain rfl:=Option.some.inj ho;have e3:A.tmps.getD 3 undef=.pointer (some ⟨w.heap.size+1,0,none⟩):=(hA 3 (by kernel_rfl)).trans rfl;have e3':=gDq e3;have d12:A.tmps.getD 45 undef=.int .i64 n:=hD 12 (by kernel_rfl);have d12':=gDq d12;have HK:=hdd (show ∀ v W',Below W.heap.size W W'→(∃ N,v=.slice (some ⟨N,0,none⟩) 1 1∧W'.cell? ⟨N,0,none⟩=some (.int .i64 n))→K (A.put (some 46) v) W' from hK.out);clear hA hD hK;go_simp;exact HK.out _ _ ((Below.refl _ _).alloc (Nat.le_refl _) _) ⟨_,rfl,new_cell _ _ _⟩
       | 14,ho=>
        obtain rfl:=Option.some.inj ho;have e3:A.tmps.getD 3 undef=.pointer (some ⟨w.heap.size+1,0,none⟩):=(hA 3 (by kernel_rfl)).trans rfl;have e3':=gDq e3;obtain ⟨N,hN,hc⟩:=(show ∃ N,A.tmps.getD 46 undef=.slice (some ⟨N,0,none⟩) 1 1∧W.cell? ⟨N,0,none⟩=some (.int .i64 n) from hD 13 (by kernel_rfl))
        have hN':=gDq hN;have HK:=hdd (show ∀ v W',Below W.heap.size W W'→(v=.string ⟨#[dg n]⟩)→K (A.put (some 47) v) W' from hK.out);clear hA hD hK;have hT:=digits1 N n W hc HN.out;go_simp;refine hT.mono ?_;rintro e W' ⟨rfl,hb⟩;exact HK.out _ _ hb rfl
       | 15,ho=>
        obtain rfl:=Option.some.inj ho;have e3:A.tmps.getD 3 undef=.pointer (some ⟨w.heap.size+1,0,none⟩):=(hA 3 (by kernel_rfl)).trans rfl;have e3':=gDq e3;have d10:A.tmps.getD 43 undef=.string ((ByteArray.mk #[103,117,101,115,115,32])++⟨L.toArray⟩++⟨#[32]⟩++⟨#[dg r]⟩++⟨#[32]⟩):=hD 10 (by kernel_rfl);have d10':=gDq d10;have d14:A.tmps.getD 47 undef=.string ⟨#[dg n]⟩:=hD 14 (by kernel_rfl);have d14':=gDq d14;have HK:=hdd (show ∀ v W',Below W.heap.size W W'→(v=.string ((ByteArray.mk #[103,117,101,115,115,32])++⟨L.toArray⟩++⟨#[32]⟩++⟨#[dg r]⟩++⟨#[32]⟩++⟨#[dg n]⟩))→K (A.put (some 48) v) W' from hK.out);clear hA hD hK;go_simp;rw[if_neg (by omega),Oper.upon_value];exact HK.out _ _ (Below.refl _ _) rfl
       | 16,ho=>
        obtain rfl:=Option.some.inj ho;have e3:A.tmps.getD 3 undef=.pointer (some ⟨w.heap.size+1,0,none⟩):=(hA 3 (by kernel_rfl)).trans rfl;have e3':=gDq e3;have d15:A.tmps.getD 48 undef=.string ((ByteArray.mk #[103,117,101,115,115,32])++⟨L.toArray⟩++⟨#[32]⟩++⟨#[dg r]⟩++⟨#[32]⟩++⟨#[dg n]⟩):=hD 15 (by kernel_rfl);have d15':=gDq d15;have HK:=hdd (show ∀ v W',Below W.heap.size W W'→(v=.string ((ByteArray.mk #[103,117,101,115,115,32])++⟨L.toArray⟩++⟨#[32]⟩++⟨#[dg r]⟩++⟨#[32]⟩++⟨#[dg n]⟩))→K (A.put (some 2) v) W' from hK.out);clear hA hD hK;go_simp;exact HK.out _ _ (Below.refl _ _) rfl
       | n+17,ho=>
        simp at ho
      case fin=>
       intro vs W hW h;have h16:vs 16=.string ((ByteArray.mk #[103,117,101,115,115,32])++⟨L.toArray⟩++⟨#[32]⟩++⟨#[dg r]⟩++⟨#[32]⟩++⟨#[dg n]⟩):=h 16 (by simp);have HBW:=hdd (HB3.out.trans (hW.mono HB3.out.size));rw[invA_lit [none,none,some 16,none,none,none,none,none,none,none,none,none,none,none,none,none,none,none,none,none,none,none,none,none,none,none,none,none,none,none,none,none,none,some 0,some 1,some 2,some 3,some 4,some 5,some 6,some 7,some 8,some 9,some 10,some 11,some 12,some 13,some 14,some 15] (by kernel_rfl) rfl];simp only[List.zipWith_cons_cons,List.zipWith_nil_left];rw[h16];clear h h16 hW;go_wp2;go_ret;exact ⟨by rw[textD_guess HOK.out,text_cat,HL.out]; rfl,HBW.out⟩
 ·have hN:=nothing_any a cap xs r n w1 (by omega)
  unfold gV at hN;obtain ⟨t,ht⟩:∃ t,t=nothingB xs r n:=⟨_,rfl⟩
  rw[←ht] at hN;have HT:=hdd ht;clear ht;go_enter Tryz.func15,Tryz.ntmps15;go_wp2_with fail;rw[←hw1];clear hw1;refine hN.mono ?_;rintro e w2 ⟨rfl,hb2⟩;have HB2:=hdd (HB1.out.trans (hb2.mono HB1.out.size));clear hN hb2
  cases t
  ·go_wp2
   go_ret;exact ⟨by rw[back_text,←HT.out]; rfl,HB2.out⟩
  ·go_wp2
   go_ret;exact ⟨by rw[back_text,←HT.out]; rfl,HB2.out⟩
def MaxIs (w:World):Prop:=∃ m:Int,w.cell? ⟨0,0,none⟩=some (.int .i64 m)
theorem MaxIs.below {w w':World} (h:MaxIs w) (hb:Below w.heap.size w w'):MaxIs w':=by
 obtain ⟨m,hm⟩:=h;exact ⟨m,(hb.cell (cell_lt' hm)).trans hm⟩
theorem words_len (c:UInt8):∀ l:List UInt8,(words c l).length=l.count c+1
 | []=>rfl
 | b::t=>by
  have ih:=words_len c t;unfold words
  by_cases h:b=c
  ·rw[if_pos h,h,List.count_cons_self,List.length_cons,ih]
  ·rw[if_neg h,List.count_cons_of_ne (by simpa using h)]
   rcases e:words c t with _ | ⟨u,us⟩
   ·exact absurd e (words_ne c t)
   ·rw[e] at ih
    simpa using ih
theorem split_any (l:List UInt8) (W:World) (hs:l.length≤4000000) (hm:MaxIs W):
  Calls Tryz.prog 81 #[strV l,.string ⟨#[32]⟩] W (WordsOut (words 32 l) W):=by
 obtain ⟨m,hm⟩:=hm;have hlen:(⟨l.toArray⟩:ByteArray).size<4294967281:=by simp only[ByteArray.size,List.size_toArray]; omega
 refine (Tryz.strings_Split ⟨l.toArray⟩ ⟨#[32]⟩ m W hlen hm (by decide)).mono ?_;rintro e w' ⟨rfl,rfl⟩;have hw:(Lib.splitB ⟨#[32]⟩ 0 (Lib.countB ⟨l.toArray⟩ ⟨#[32]⟩) ⟨l.toArray⟩).map Value.string=(words 32 l).map strV:=by
  rw[←split_words l 32,List.map_map];refine List.map_congr_left fun x _=>?_
  simp[strV]
 have hc:Lib.countB ⟨l.toArray⟩ ⟨#[32]⟩+1=(words 32 l).length:=by
  rw[words_len]
  congr 1
  exact Lib.count_one 32 l
 rw[hw,hc];refine ⟨W.heap.size,(words 32 l).length,rfl,Nat.le_refl _,by rw[words_len]; have:=List.count_le_length (a:=(32:UInt8)) (l:=l); omega,fun k hk=>?_,Nat.le_refl _,by simp,(Below.refl _ W).alloc (Nat.le_refl _) _⟩;rw[cell_of_row _ _ _ _ _ _ (heap_alloc_new W _)];simp[hk]
def ReadOut (l:List UInt8) (w:World) (e:Ending) (w':World):Prop:=
 ∃ a cap,e=.returned (.tuple #[dV (rdD l).back (.slice a (rdD l).code.length cap) (rdD l).right (rdD l).near,.bool (rdB l)])∧OwnI w.heap.size w' (.slice a (rdD l).code.length cap) (rdD l).code∧Below w.heap.size w w'
theorem ReadOut.of {l:List UInt8} {w w':World} {d:Dd} {ok:Bool} {a:Option Addr} {cap:Nat} (h1:rdD l=d) (h2:rdB l=ok) (ho:OwnI w.heap.size w' (.slice a d.code.length cap) d.code) (hb:Below w.heap.size w w'):
  ReadOut l w (.returned (.tuple #[.agg #[.bool d.back,.slice a d.code.length cap,.int .i64 d.right,.int .i64 d.near],.bool ok])) w':=by
 subst h1 h2;exact ⟨a,cap,rfl,ho,hb⟩
theorem OwnI.otherR {B D j:Nat} {w:World} {v z:Value} {xs:List Int} {cs:Array Value} {t:TypeId} {fr:Nat×Nat} (h:OwnI B w v xs) (hD:w.heap[D]?=some (.cells cs t fr)) (hne:3≠t):OwnI B (w.setCell ⟨D,j,none⟩ z) v xs:=by
 obtain ⟨h0,hh⟩:=id h;refine World.ownsRow.kept h (grownBy_setCell w ⟨D,j,none⟩ z) ?_
 rcases hh with ⟨rfl,_⟩ | ⟨g,cap,cur,rfl,_,hg,_⟩
 ·exact .inl rfl
 ·refine .inr fun e=>?_
  have e2:g=D:=by simpa [Value.ownBlock] using e
  subst e2;rw[hD] at hg;injection hg with hg;injection hg with _ hg _;exact hne hg.symm
theorem box_zero {w:World} {R:Nat} (h1:w.heap[R]?=some (.cells #[.bool false,.slice none 0 0,.int .i64 0,.int .i64 0] 41 (0,0))):
  w.cell? ⟨R,0,none⟩=some (.bool false)∧w.cell? ⟨R,1,none⟩=some (.slice none 0 0)∧w.cell? ⟨R,2,none⟩=some (.int .i64 0)∧w.cell? ⟨R,3,none⟩=some (.int .i64 0)∧∀ j,w.frozen? ⟨R,j,none⟩=false:=by
 refine ⟨?_,?_,?_,?_,fun j=>frozen_of_row _ _ j _ _ h1⟩ <;> rw[cell_of_row _ _ _ _ _ _ h1] <;> simp
theorem box_out {l:List UInt8} {w wi:World} {d:Dd} {ok:Bool} {a:Option Addr} {cap:Nat} (h1:rdD l=d) (h2:rdB l=ok) (hz:wi.heap[w.heap.size]?=some (.cells #[.bool false,.slice none 0 0,.int .i64 0,.int .i64 0] 41 (0,0)))
  (hb:Below w.heap.size w wi) (ho:OwnI w.heap.size wi (.slice a d.code.length cap) d.code):
  ReadOut l w (.returned (.tuple #[.agg #[.bool d.back,.slice a d.code.length cap,.int .i64 d.right,.int .i64 d.near],.bool ok])) ((((wi.setCell ⟨w.heap.size,0,none⟩ (.bool d.back)).setCell ⟨w.heap.size,1,none⟩ (.slice a d.code.length cap)).setCell ⟨w.heap.size,2,none⟩ (.int .i64 d.right)).setCell ⟨w.heap.size,3,none⟩ (.int .i64 d.near)) ∧
   ((((wi.setCell ⟨w.heap.size,0,none⟩ (.bool d.back)).setCell ⟨w.heap.size,1,none⟩ (.slice a d.code.length cap)).setCell ⟨w.heap.size,2,none⟩ (.int .i64 d.right)).setCell ⟨w.heap.size,3,none⟩ (.int .i64 d.near)).heap[w.heap.size]?=some (.cells #[.bool d.back,.slice a d.code.length cap,.int .i64 d.right,.int .i64 d.near] 41 (0,0)):=by
 have q1:=heap_setCell_same _ _ 0 _ _ (.bool d.back) hz;have q2:=heap_setCell_same _ _ 1 _ _ (.slice a d.code.length cap) q1;have q3:=heap_setCell_same _ _ 2 _ _ (.int .i64 d.right) q2;have q4:=heap_setCell_same _ _ 3 _ _ (.int .i64 d.near) q3;refine ⟨ReadOut.of h1 h2 ((((ho.otherR hz (by decide)).otherR q1 (by decide)).otherR q2 (by decide)).otherR q3 (by decide)) ?_,q4⟩;exact (((hb.setCell (p:=⟨w.heap.size,0,none⟩) (Nat.le_refl _) _).setCell (p:=⟨w.heap.size,1,none⟩) (Nat.le_refl _) _).setCell (p:=⟨w.heap.size,2,none⟩) (Nat.le_refl _) _).setCell (p:=⟨w.heap.size,3,none⟩) (Nat.le_refl _) _
theorem box_none {l:List UInt8} {w wi:World} (h:readD l=none) (hz:wi.heap[w.heap.size]?=some (.cells #[.bool false,.slice none 0 0,.int .i64 0,.int .i64 0] 41 (0,0)))
  (hb:Below w.heap.size w wi):
  ReadOut l w (.returned (.tuple #[.agg #[.bool false,.slice none 0 0,.int .i64 0,.int .i64 0],.bool false])) ((((wi.setCell ⟨w.heap.size,0,none⟩ (.bool false)).setCell ⟨w.heap.size,1,none⟩ (.slice none 0 0)).setCell ⟨w.heap.size,2,none⟩ (.int .i64 0)).setCell ⟨w.heap.size,3,none⟩ (.int .i64 0)) ∧
   ((((wi.setCell ⟨w.heap.size,0,none⟩ (.bool false)).setCell ⟨w.heap.size,1,none⟩ (.slice none 0 0)).setCell ⟨w.heap.size,2,none⟩ (.int .i64 0)).setCell ⟨w.heap.size,3,none⟩ (.int .i64 0)).heap[w.heap.size]?=some (.cells #[.bool false,.slice none 0 0,.int .i64 0,.int .i64 0] 41 (0,0)):=
 box_out (d:=⟨false,[],0,0⟩) (rd_none h).1 (rd_none h).2 hz hb (OwnI.empty _ _)
theorem words_le (c:UInt8):∀ (l:List UInt8) (u:List UInt8),u∈words c l→u.length≤l.length
 | [],u,h=>by
  simp only[words,List.mem_singleton] at h;subst h; exact Nat.le_refl _
 | b::t,u,h=>by
  have ih:=words_le c t;unfold words at h
  split at h
  ·rcases List.mem_cons.1 h with rfl | h
   ·simp
   ·have:=ih u h
    simp only[List.length_cons]; omega
  ·rcases e:words c t with _ | ⟨x,xs⟩
   ·exact absurd e (words_ne c t)
   ·rw[e] at h ih
    rcases List.mem_cons.1 h with rfl | h
    ·have:=ih x (by simp)
     simp only[List.length_cons]; omega
    ·have:=ih u (by simp[h])
     simp only[List.length_cons]; omega
def MadeD (w:World) (a:Option Addr) (n cap:Nat) (r q:Int) (s:Value) (wx:World):Prop:=
 ∃ g,s=.pointer (some ⟨g,0,none⟩)∧Below w.heap.size w wx∧w.heap.size≤g∧wx.heap[g]?=some (.cells #[.bool false,.slice a n cap,.int .i64 r,.int .i64 q] 41 (0,0))
theorem MadeD.new (w:World) (a:Option Addr) (n cap:Nat) (r q:Int):MadeD w a n cap r q (.pointer (some ⟨w.heap.size,0,none⟩)) (w.alloc (.cells #[.bool false,.slice a n cap,.int .i64 r,.int .i64 q] 41)).drew:=
 ⟨_,rfl,((Below.refl _ _).alloc (Nat.le_refl _) _).drew,Nat.le_refl _,heap_alloc_new w _⟩
theorem deed_cells {w:World} {g:Nat} {a b c d:Value} {t:TypeId} {fr:Nat×Nat} (h:w.heap[g]?=some (.cells #[a,b,c,d] t fr)):w.cell? ⟨g,0,none⟩=some a∧w.cell? ⟨g,1,none⟩=some b∧w.cell? ⟨g,2,none⟩=some c∧w.cell? ⟨g,3,none⟩=some d:=by
 refine ⟨?_,?_,?_,?_⟩ <;> rw[cell_of_row _ _ _ _ _ _ h] <;> simp
theorem OwnI.first {B cap:Nat} {w:World} {a:Option Addr} {xs t:List Int} {r:Int} (h:OwnI B w (.slice a xs.length cap) xs) (hx:xs=r::t):
  ∃ g,a=some ⟨g,0,none⟩∧g<w.heap.size∧B≤g∧w.cell? ⟨g,0,none⟩=some (.int .i64 r):=by
 subst hx;obtain ⟨a',cap',he,_,_,hd⟩:=h.opened;injection he with e1 _ _;subst e1;obtain ⟨g,hg,hb,hc,_⟩:=hd (by simp);have h0:=hc 0 (by simp);exact ⟨g,hg,cell_lt' h0,hb,h0⟩
set_option maxHeartbeats 8000000 in
theorem readDeedI_any (l:List UInt8) (w:World) (hl:l.length≤4000000) (hm:MaxIs w):
  Calls Tryz.prog 44 #[strV l] w (ReadOut l w):=by
 unfold strV
 by_cases hback:l=wordBack
 ·subst hback
  have HB:=hdd (show Below w.heap.size w (w.alloc (.cells #[.bool true,.slice none 0 0,.int .i64 0,.int .i64 0] 41)) from (Below.refl _ _).alloc (Nat.le_refl _) _);have HR:=hdd (heap_alloc_new w (.cells #[.bool true,.slice none 0 0,.int .i64 0,.int .i64 0] 41));unfold wordBack;go_enter Tryz.func44,Tryz.ntmps44;go_wp2
  ((try simp only[Exit.inBlock,Exit.then]); refine bodyPost_ret (results_cell_tmp rfl _ _ w.heap.size _ _ (0,0) _ rfl HR.out Tryz.underlying41 rfl (by kernel_rfl)) rfl ?_)
  exact ReadOut.of (d:=Dd.undo) rd_back.1 rd_back.2 (OwnI.empty _ _) HB.out
 ·have hbk:(l==[98,97,99,107])=false:=by simpa [wordBack] using hback
  obtain ⟨w1,hw1⟩:∃ z,z=w.alloc (.cells #[.bool false,.slice none 0 0,.int .i64 0,.int .i64 0] 41):=⟨_,rfl⟩
  have hb1:Below w.heap.size w w1:=by rw[hw1]; exact (Below.refl _ _).alloc (Nat.le_refl _) _
  have hR1:w1.heap[w.heap.size]?=some (.cells #[.bool false,.slice none 0 0,.int .i64 0,.int .i64 0] 41 (0,0)):=by rw[hw1]; exact heap_alloc_new w _
  have hS:=split_any l w1 hl (hm.below hb1);have HBK:=hdd hback;have HB:=hdd hb1;have HR:=hdd hR1;have HWL:=hdd (words_le 32 l);unfold strV at hS;clear hback hb1 hR1 hm;go_enter Tryz.func44,Tryz.ntmps44;go_wp2_with fail;rw[←hw1];clear hw1;refine hS.mono ?_;rintro e w2 ⟨g,cap,rfl,hc1,hc2,hcs,hg1,hg2,hb2⟩;have hb2':=HB.out.trans (hb2.mono HB.out.size);have hz2:=(hb2.block _ (Array.getElem?_eq_some_iff.1 HR.out).1).trans HR.out;obtain ⟨us,hus⟩:∃ us,us=words 32 l:=⟨_,rfl⟩
  have HUS:=hdd hus.symm;rw[←hus] at hc1 hcs HWL ⊢;clear hS hus hbk hg1 hb2 HB HR
  by_cases h4:us.length=4
  ·obtain ⟨u0,u1,u2,u3,rfl⟩:∃ a b c d,us=[a,b,c,d]:=by
    match us,h4 with
    | [a,b,c,d],_=>exact ⟨a,b,c,d,rfl⟩
   have c0:=hcs 0 (by simp);have c1:=hcs 1 (by simp);have c2:=hcs 2 (by simp);have c3:=hcs 3 (by simp);simp only[List.getElem_cons_zero,List.getElem_cons_succ,strV] at c0 c1 c2 c3;simp only[List.length_cons,List.length_nil,Nat.zero_add,Nat.reduceAdd] at hc1 ⊢;have hl1:u1.length≤4000000:=Nat.le_trans (HWL.out u1 (by simp)) hl;have hl2:u2.length≤4000000:=Nat.le_trans (HWL.out u2 (by simp)) hl;have hl3:u3.length≤4000000:=Nat.le_trans (HWL.out u3 (by simp)) hl;clear hcs h4
   by_cases hw0:u0=wordGuess
   ·subst hw0
    unfold wordGuess at c0;have hO1:=digitsOf_any u1 w2 hl1;go_wp2_with fail;refine hO1.mono ?_;rintro e w3 ⟨a1,k1,rfl,ho1,hb3⟩;have HS2:=hdd hb2'.size;have HB3:=hdd (hb2'.trans (hb3.mono hb2'.size));have HZ3:=hdd ((hb3.block _ (Array.getElem?_eq_some_iff.1 hz2).1).trans hz2);have HG3:=hdd (Nat.lt_of_lt_of_le hg2 hb3.size);have c2:=(hb3.cell hg2).trans c2;have c3:=(hb3.cell hg2).trans c3;have HO1:=hdd ho1;have hO2:=digitsOf_any u2 w3 hl2;clear hO1 ho1 hb2' hz2 hg2 c0 c1 hb3;go_wp2_with fail;refine hO2.mono ?_;rintro e w4 ⟨a2,k2,rfl,ho2,hb4⟩;have HB4:=hdd (HB3.out.trans (hb4.mono HB3.out.size));have HZ4:=hdd ((hb4.block _ (Array.getElem?_eq_some_iff.1 HZ3.out).1).trans HZ3.out);have c3:=(hb4.cell HG3.out).trans c3;have HO1:=hdd (HO1.out.below hb4);have HO2:=hdd ho2;have hO3:=digitsOf_any u3 w4 hl3;clear hO2 ho2 c2 hb4;go_wp2_with fail;refine hO3.mono ?_;rintro e w5 ⟨a3,k3,rfl,ho3,hb5⟩;have HB5:=hdd (HB4.out.trans (hb5.mono HB4.out.size));have HZ5:=hdd ((hb5.block _ (Array.getElem?_eq_some_iff.1 HZ4.out).1).trans HZ4.out);have HX1:=hdd ((HO1.out.below hb5).mono HS2.out);have HX2:=hdd (HO2.out.below hb5);have HX3:=hdd ho3;have HROW:=hdd (fun h=>read_row (l:=l) HBK.out HUS.out h);have HIMP:=hdd (fun r n t2 t3 h2 h3=>read_impl (l:=l) (r:=r) (n:=n) (t2:=t2) (t3:=t3) HBK.out HUS.out h2 h3);clear hO3 ho3 c3 hb5 HO1 HO2 HB3 HZ3 HB4 HZ4 hl1 hl2 hl3
    rcases e1:rowB u1 with _ | _
    ·have HF:=hdd (box_none (HROW.out (.inl e1)) HZ5.out HB5.out)
     obtain ⟨z0,z1,z2,z3,zf⟩:=box_zero HZ5.out;go_wp2
     ((try simp only[Exit.inBlock,Exit.then]); refine bodyPost_ret (results_cell_tmp rfl _ _ w.heap.size _ _ (0,0) _ rfl HF.out.2 Tryz.underlying41 rfl (by kernel_rfl)) rfl ?_)
     exact HF.out.1
    ·rcases e2:rowB u2 with _ | _
     ·have HF:=hdd (box_none (HROW.out (.inr (.inl e2))) HZ5.out HB5.out)
      obtain ⟨z0,z1,z2,z3,zf⟩:=box_zero HZ5.out;go_wp2
      ((try simp only[Exit.inBlock,Exit.then]); refine bodyPost_ret (results_cell_tmp rfl _ _ w.heap.size _ _ (0,0) _ rfl HF.out.2 Tryz.underlying41 rfl (by kernel_rfl)) rfl ?_)
      exact HF.out.1
     ·rcases e3:rowB u3 with _ | _
      ·have HF:=hdd (box_none (HROW.out (.inr (.inr e3))) HZ5.out HB5.out)
       obtain ⟨z0,z1,z2,z3,zf⟩:=box_zero HZ5.out;go_wp2
       ((try simp only[Exit.inBlock,Exit.then]); refine bodyPost_ret (results_cell_tmp rfl _ _ w.heap.size _ _ (0,0) _ rfl HF.out.2 Tryz.underlying41 rfl (by kernel_rfl)) rfl ?_)
       exact HF.out.1
      ·obtain ⟨r,t2,hx2⟩:=rowB_cons e2
       obtain ⟨n,t3,hx3⟩:=rowB_cons e3;have HI:=hdd (HIMP.out r n t2 t3 hx2 hx3);obtain ⟨g2,rfl,hg2,_,d2⟩:=HX2.out.first hx2;obtain ⟨g3,rfl,hg3,_,d3⟩:=HX3.out.first hx3;have hp2:0<(rowX u2).length:=by rw[hx2]; simp
       have hp3:0<(rowX u3).length:=by rw[hx3]; simp
       obtain ⟨L2,hL2⟩:∃ L,L=(rowX u2).length:=⟨_,rfl⟩
       obtain ⟨L3,hL3⟩:∃ L,L=(rowX u3).length:=⟨_,rfl⟩
       rw[←hL2] at hp2 ⊢;rw[←hL3] at hp3 ⊢;have HIN:=hdd (rowX_in u1);obtain ⟨xs,hxs⟩:∃ xs,xs=rowX u1:=⟨_,rfl⟩
       rw[←hxs] at HX1 HI HIN ⊢;have q2:(0:Int)<(L2:Int):=by omega
       have q3:(0:Int)<(L3:Int):=by omega
       clear hx2 hx3 hL2 hL3 hxs HX2 HX3 HIMP HROW e1 e2 e3;go_upto_region 11 with fail;go_cut [11] (fun s wx=>MadeD w5 a1 xs.length k1 r n s wx)
       case first=>
        go_region_held3 (fun w'=>w'.cell? ⟨g2,0,none⟩=some (.int .i64 r)∧w'.cell? ⟨g3,0,none⟩=some (.int .i64 n))
         (first
          | go_keep
          | fail)
         (fail)
        all_goals (go_wp2_with fail; go_meet; exact MadeD.new _ _ _ _ _ _)
       case rest=>
        obtain ⟨G,rfl,hb6,hG,hat⟩:=hcut;obtain ⟨w6,rfl⟩:∃ z,z=wc:=⟨_,rfl⟩
        have HB6:=hdd (HB5.out.trans (hb6.mono HB5.out.size));have HZ6:=hdd ((hb6.block _ (Array.getElem?_eq_some_iff.1 HZ5.out).1).trans HZ5.out);have HX6:=hdd (HX1.out.below hb6);have HAT:=hdd hat;have hT:=deedTextI_any false _ xs r n w6 (HX6.out.toInts HIN.out);obtain ⟨y0,y1,y2,y3⟩:=deed_cells hat;unfold TextOut strV at hT;obtain ⟨T,hTT⟩:∃ T,T=textD ⟨false,xs,r,n⟩:=⟨_,rfl⟩
        rw[←hTT] at HI hT;clear hb6 hat d2 d3 hg2 hg3 hp2 hp3 q2 q3 hTT HX1 HZ5 HB5 HIN;unfold dV at hT;go_wp2_with fail;refine hT.mono ?_;rintro e w7 ⟨rfl,hb7⟩;have HB7:=hdd (HB6.out.trans (hb7.mono HB6.out.size));have HZ7:=hdd ((hb7.block _ (Array.getElem?_eq_some_iff.1 HZ6.out).1).trans HZ6.out);have HX7:=hdd (HX6.out.below hb7);obtain ⟨y0,y1,y2,y3⟩:=deed_cells ((hb7.block _ (Array.getElem?_eq_some_iff.1 HAT.out).1).trans HAT.out);obtain ⟨z0,z1,z2,z3,zf⟩:=box_zero HZ7.out;clear hT hb7
        by_cases hTl:T=l
        ·have hr:=HI.out
         rw[if_pos hTl] at hr;have HF:=hdd (box_out (d:=⟨false,xs,r,n⟩) (rd_some hr).1 (rd_some hr).2 HZ7.out HB7.out HX7.out);have hq:(T==l)=true:=by simp[hTl]
         clear hTl hr;go_wp2
         ((try simp only[Exit.inBlock,Exit.then]); refine bodyPost_ret (results_cell_tmp rfl _ _ w.heap.size _ _ (0,0) _ rfl HF.out.2 Tryz.underlying41 rfl (by kernel_rfl)) rfl ?_)
         exact HF.out.1
        ·have hr:=HI.out
         rw[if_neg hTl] at hr;have HF:=hdd (box_none hr HZ7.out HB7.out);have hq:(T==l)=false:=by simpa using hTl
         clear hTl hr;go_wp2
         ((try simp only[Exit.inBlock,Exit.then]); refine bodyPost_ret (results_cell_tmp rfl _ _ w.heap.size _ _ (0,0) _ rfl HF.out.2 Tryz.underlying41 rfl (by kernel_rfl)) rfl ?_)
         exact HF.out.1
   ·have h0:(u0==[103,117,101,115,115])=false:=by simpa [wordGuess] using hw0
    have HF:=hdd (box_none (l:=l) (read_word HBK.out HUS.out hw0) hz2 hb2');obtain ⟨z0,z1,z2,z3,zf⟩:=box_zero hz2;clear hz2 hb2' c1 c2 c3;go_wp2
    ((try simp only[Exit.inBlock,Exit.then]); refine bodyPost_ret (results_cell_tmp rfl _ _ w.heap.size _ _ (0,0) _ rfl HF.out.2 Tryz.underlying41 rfl (by kernel_rfl)) rfl ?_)
    exact HF.out.1
  ·have h4':¬((us.length:Int)=4):=by omega
   have HF:=hdd (box_none (l:=l) (read_len HBK.out (by rw[HUS.out]; exact h4)) hz2 hb2');obtain ⟨z0,z1,z2,z3,zf⟩:=box_zero hz2;clear hz2 hb2' h4 hcs;go_wp2
   ((try simp only[Exit.inBlock,Exit.then]); refine bodyPost_ret (results_cell_tmp rfl _ _ w.heap.size _ _ (0,0) _ rfl HF.out.2 Tryz.underlying41 rfl (by kernel_rfl)) rfl ?_)
   exact HF.out.1
theorem zero_cellsD {w:World} {R:Nat} (h1:w.heap[R]?=some (.cells #[.int .i64 0,.int .i64 0,.slice none 0 0] 30 (0,0))):
  w.cell? ⟨R,0,none⟩=some (.int .i64 0)∧w.cell? ⟨R,1,none⟩=some (.int .i64 0)∧w.cell? ⟨R,2,none⟩=some (.slice none 0 0)∧∀ j,w.frozen? ⟨R,j,none⟩=false:=by
 refine ⟨?_,?_,?_,fun j=>frozen_of_row _ _ j _ _ h1⟩ <;> rw[cell_of_row _ _ _ _ _ _ h1] <;> simp
theorem OwnG.otherD {B D j:Nat} {w:World} {v z:Value} {gs:List Gs} {cs:Array Value} {t:TypeId} {fr:Nat×Nat} (h:OwnG B w v gs) (hD:w.heap[D]?=some (.cells cs t fr)) (h1:39≠t) (h2:3≠t):OwnG B (w.setCell ⟨D,j,none⟩ z) v gs:=by
 obtain ⟨ts,q1,q2,q3,q4⟩:=h;have hs:=grownBy_setCell w ⟨D,j,none⟩ z;exact ⟨ts,World.ownsRow.kept q1 hs (own_other q1 hD h1),q2,fun i hi hi'=>⟨World.ownsRow.kept (q3 i hi hi').1 hs (own_other (q3 i hi hi').1 hD h2),(q3 i hi hi').2⟩,q4⟩
end
section
open Go Go.RowKit
section
variable {P:Program} {l:List Oper} {Q:Exit→Act→World→Prop} {a0:Act} {w0:World} {dst:Nat→Nat} {Φ:Nat→Value→World→Prop}
def InvR (Rel:World→World→Prop) (l:List Oper) (a0:Act) (w0:World) (dst:Nat→Nat) (Φ:Nat→Value→World→Prop) (c:Nat) (G:World→Prop) (done:Array Bool) (a:Act) (w:World):Prop:=
 done.size=l.length∧Rel w0 w∧(done.getD c false=false→G w)∧∃ vs,a=invA dst l.length a0 done vs∧∀ k,k<l.length→done.getD k false=true→Φ k (vs k) w
theorem inv_anyR {Rel:World→World→Prop} {c:Nat} {G:World→Prop} (htr:∀ a b c:World,Rel a b→Rel b c→Rel a c) (hdst:∀ i (h:i<l.length),l[i].dst=some (dst i)) (hinj:∀ i,i<l.length→invIdx dst l.length (dst i)=some i) (hsz:∀ i,i<l.length→dst i<a0.tmps.size) (hdag:∀ i (h:i<l.length),∀ k∈invDeps l[i],k<i)
  (hmono:∀ k v w w',Φ k v w→Rel w w'→Φ k v w')
  (hstep:∀ i (h:i<l.length),∀ (A:Act) (W:World),Rel w0 W→(i=c→G W)→(∀ t,invIdx dst l.length t=none→A.tmps.getD t undef=a0.tmps.getD t undef)→(∀ k∈invDeps l[i],Φ k (A.tmps.getD (dst k) undef) W) →
   ∀ K:Act→World→Prop,Hid (∀ v W',Rel W W'→(i≠c→G W→G W')→Φ i v W'→K (A.put (some (dst i)) v) W')→if Region.wanted l[i] (yielded l.toArray A.tmps)=true then Oper.wp P l[i] A W K Q else K (A.put l[i].dst undef) W)
  (hend:∀ vs W,Rel w0 W→(∀ k,k<l.length→Φ k (vs k) W)→Q .normal (invA dst l.length a0 (Array.replicate l.length true) vs) W):
  ∀ (n:Nat) (done:Array Bool) (a:Act) (w:World),InvR Rel l a0 w0 dst Φ c G done a w→invLeft done=n→wpAny P .any l.toArray Q n done a w:=by
 have fin:∀ (done:Array Bool) (a:Act) (w:World),InvR Rel l a0 w0 dst Φ c G done a w→(∀ i,i<l.length→done.getD i false=true)→Q .normal a w:=by
  rintro done a w ⟨hs,hB,_,vs,rfl,hv⟩ h;have e:=inv_full hs h;rw[e];exact hend vs w hB fun k hk=>hv k hk (h k hk)
 intro n
 induction n with
 | zero=>
  intro done a w hI hz;have hall:=inv_zero hI.1 hz;refine ⟨?_,fin done a w hI hall⟩
  rcases q:Region.ready .any l.toArray done with _ | ⟨j,r⟩
  ·rfl
  ·exfalso
   have hj:j∈Region.ready .any l.toArray done:=by rw[q]; simp
   obtain ⟨h1,o,h2,_⟩:=mem_ready.1 hj;have hlt:j<l.length:=by simpa using (Array.getElem?_eq_some_iff.1 h2).1
   have h3:=hall j hlt;have h4:j<done.size:=by have:=hI.1; omega
   simp only[Array.getD_eq_getD_getElem?,Array.getElem?_eq_getElem h4,Option.getD_some] at h1 h3;rw[h1] at h3
   cases h3
 | succ n ih=>
  intro done a w hI hn;refine ⟨fun hr=>fin done a w hI (inv_all hI.1 hdag hr),fun i hi=>?_⟩;obtain ⟨h1,o,h2,h3⟩:=mem_ready.1 hi;have hlt:i<l.length:=by simpa using (Array.getElem?_eq_some_iff.1 h2).1
  have ho:o=l[i]:=by simpa [hlt] using h2.symm
  subst ho;obtain ⟨hs,hB,hG,vs,rfl,hv⟩:=hI;have hls:i<done.size:=by omega
  have hund:done.getD i false=false:=by
   simp only[Array.getD_eq_getD_getElem?,Array.getElem?_eq_getElem hls,Option.getD_some] at h1 ⊢;exact h1
  have hdep:∀ k∈invDeps l[i],done.getD k false=true:=by
   intro k hk;obtain ⟨e,he,rfl⟩:=List.mem_map.1 hk;obtain ⟨he1,he2⟩:=List.mem_filter.1 he;exact h3 e (by simpa using he1) he2
  refine wpOp_step h2 fun K' hK'=>?_
  refine hstep i hlt _ w hB (fun e=>hG (e ▸ hund)) (fun t ht=>invA_other ht) (fun k hk=>?_) K' (hdd fun v W' hb hGW hΦ=>hK' _ _ ?_)
  ·have hkl:=hdag i hlt k hk
   have hd:=hdep k hk;rw[invA_done (hinj k (by omega)) (hsz k (by omega)) hd];exact hv k (by omega) hd
  ·refine ih (done.setIfInBounds i true) _ W' ⟨by simpa using hs,htr _ _ _ hB hb,fun hc=>?_,fun k=>if k=i then v else vs k,invA_put (hinj i hlt) hls hund v,fun k hk hd=>?_⟩ (by have:=invLeft_set hls hund; omega)
   ·by_cases e:i=c
    ·subst e
     rw[show (done.setIfInBounds i true).getD i false=true by simp[hls]] at hc
     cases hc
    ·rw[Go.getD_set_ne false e] at hc
     exact hGW e (hG hc)
   by_cases e:k=i
   ·subst e
    simp only[if_true];exact hΦ
   ·rw[Go.getD_set_ne false (Ne.symm e)] at hd
    simp only[if_neg e];exact hmono k _ _ _ (hv k hk hd) hb
theorem wp_region_invR {Rel:World→World→Prop} {id:Nat} (c:Nat) (G:World→Prop) (htr:∀ a b c:World,Rel a b→Rel b c→Rel a c) (hrd:∀ w:World,Rel w w.drew) (hG:G w0.drew) (hm:P.follows .mixedOrders=true) (dst:Nat→Nat) (m:Nat) (Φ:Nat→Value→World→Prop) (hsz:a0.tmps.size=m) (hchk:invChk l dst m=true)
  (hmono:∀ k v w w',Φ k v w→Rel w w'→Φ k v w')
  (hstep:∀ i o,l[i]?=some o→∀ (A:Act) (W:World),Rel w0 W→(i=c→G W)→(∀ t,invIdx dst l.length t=none→A.tmps.getD t undef=a0.tmps.getD t undef)→(∀ k,(invDeps o).contains k=true→Φ k (A.tmps.getD (dst k) undef) W) →
   ∀ K:Act→World→Prop,Hid (∀ v W',Rel W W'→(i≠c→G W→G W')→Φ i v W'→K (A.put (some (dst i)) v) W')→if Region.wanted o (yielded l.toArray A.tmps)=true then Oper.wp P o A W K Q else K (A.put o.dst undef) W)
  (hend:∀ vs W,Rel w0 W→(∀ k,k<l.length→Φ k (vs k) W)→Q .normal (invA dst l.length a0 (Array.replicate l.length true) vs) W):(Code.region id l.toArray true).wp P Q a0 w0:=by
 refine wp_region_any hm ?_;have hnone:∀ k,(Array.replicate l.toArray.size false).getD k false=false:=fun k=>by
  simp only[Array.getD_eq_getD_getElem?]
  rcases q:(Array.replicate l.toArray.size false)[k]? with _ | b
  ·rfl
  ·obtain ⟨_,q2⟩:=Array.getElem?_eq_some_iff.1 q
   simp at q2;simp[←q2]
 refine inv_anyR (c:=c) (G:=G) (w0:=w0) (a0:=a0) htr (fun i h=>(invChk_at hchk h).1) (fun i h=>(invChk_at hchk h).2.1) (fun i h=>by rw[hsz]; exact (invChk_at hchk h).2.2.1) (fun i h=>(invChk_at hchk h).2.2.2) hmono
  (fun i h A W hB hg hA hD K hK=>hstep i l[i] (List.getElem?_eq_getElem h) A W hB hg hA (fun k hk=>hD k (by simpa using hk)) K hK) hend _ _ _ _ ⟨by simp,hrd w0,fun _=>hG,fun _=>undef,?_,fun k _ hk=>?_⟩ (by simpa using invLeft_none l.length)
 ·unfold invA
  rw[invL_none l.length _ _ hnone]
 ·rw[hnone] at hk; cases hk
end
end
section
open Go.RowKit
set_option maxRecDepth 100000
def tstB (q:Nat) (row x:List Int):Bool:=sureB q (confL row x)&&sureB q (confL row (othL row x))
def ansP (q:Nat) (row pre rest:List Int):Bool:=(asksL rest).any fun y=>tstB q row (pre++y)
theorem ansP_nil (q:Nat) (row pre:List Int):ansP q row pre []=tstB q row pre:=by simp[ansP,asksL]
theorem ansP_cons (q:Nat) (row pre r:List Int) (a:Int):ansP q row pre (a::r)=(List.range (a+1).toNat).any fun m=>ansP q row (pre++[(m:Int)]) r:=by
 simp only[ansP,asksL,List.any_flatMap,List.any_map]
 congr 1
 funext m
 congr 1
 funext y
 simp
theorem sureB_more (q:Nat) (row:List Int):sureB (q+1) row=(decide (totL row≤1)||ansP q row [] row):=by simp[sureB,ansP,tstB]
theorem askOk_of:∀ {row x:List Int},x.length=row.length→(∀ j (h:j<row.length) (h':j<x.length),0≤x[j]∧x[j]≤row[j])→askOk row x
 | [],[],_,_=>trivial
 | [],_::_,h,_=>by simp at h
 | _::_,[],h,_=>by simp at h
 | a::r,y::q,hl,h=>⟨(h 0 (by simp) (by simp)).1,(h 0 (by simp) (by simp)).2,askOk_of (by simpa using hl) fun j h1 h2=>by
   have:=h (j+1) (by simpa using h1) (by simpa using h2)
   simpa using this⟩
structure Grow2 (p q:Nat) (w w':World):Prop where
 os:w'.os=w.os
 tape:w'.tape=w.tape
 output:w'.output=w.output
 size:w.heap.size≤w'.heap.size
 block:∀ k,k<w.heap.size→k≠p→k≠q→w'.heap[k]?=w.heap[k]?
theorem Grow2.refl (p q:Nat) (w:World):Grow2 p q w w:=⟨rfl,rfl,rfl,Nat.le_refl _,fun _ _ _ _=>rfl⟩
theorem Grow2.trans {p q:Nat} {a b c:World} (h:Grow2 p q a b) (h':Grow2 p q b c):Grow2 p q a c:=
 ⟨h'.os.trans h.os,h'.tape.trans h.tape,h'.output.trans h.output,Nat.le_trans h.size h'.size,fun k hk h1 h2=>(h'.block k (Nat.lt_of_lt_of_le hk h.size) h1 h2).trans (h.block k hk h1 h2)⟩
theorem Grow2.of {p q:Nat} {w w':World} (h:w.grownBy w' (some p)):Grow2 p q w w':=⟨h.os,h.tape,h.output,h.size,fun k hk h1 _=>h.block k hk (fun e=>h1 (by injection e))⟩
theorem Grow2.of' {p q:Nat} {w w':World} (h:w.grownBy w' (some q)):Grow2 p q w w':=⟨h.os,h.tape,h.output,h.size,fun k hk _ h2=>h.block k hk (fun e=>h2 (by injection e))⟩
structure AskW (bm gq n q b off cap p1 p2 p3 p4 p5:Nat) (row:List Int) (W:World):Prop where
 c1:W.cell? ⟨p1,0,none⟩=some (.slice (some ⟨b,off,none⟩) n cap)
 c2:W.cell? ⟨p2,0,none⟩=some (.map (some bm))
 c3:W.cell? ⟨p3,0,none⟩=some (.slice (some ⟨gq,0,none⟩) n n)
 c4:W.cell? ⟨p4,0,none⟩=some (.int .i64 ((q:Int)+1))
 c5:W.cell? ⟨p5,0,none⟩=some (.func (.func 218) #[] #[.pointer (some ⟨p1,0,none⟩),.pointer (some ⟨p2,0,none⟩),.pointer (some ⟨p3,0,none⟩),.pointer (some ⟨p4,0,none⟩),.pointer (some ⟨p5,0,none⟩)])
 row:∀ i (h:i<row.length),W.cell? ⟨b,off+i,none⟩=some (.int .i64 row[i])
theorem AskW.next {bm gq n q b off cap p1 p2 p3 p4 p5:Nat} {row:List Int} {W W':World} (h:AskW bm gq n q b off cap p1 p2 p3 p4 p5 row W)
  (hn:p1≠gq∧p2≠gq∧p3≠gq∧p4≠gq∧p5≠gq∧b≠gq) (hs:∀ p u,p.block≠gq→W.cell? p=some u→W'.cell? p=some u):AskW bm gq n q b off cap p1 p2 p3 p4 p5 row W':=
 ⟨hs _ _ hn.1 h.c1,hs _ _ hn.2.1 h.c2,hs _ _ hn.2.2.1 h.c3,hs _ _ hn.2.2.2.1 h.c4,hs _ _ hn.2.2.2.2.1 h.c5,fun i hi=>hs _ _ hn.2.2.2.2.2 (h.row i hi)⟩
theorem opt_bool {o:Option Value} {b:Bool} (h:o.getD undef=.bool b):o=some (.bool b):=by
 cases o with
 | none=>simp[undef] at h
 | some v=>simpa using h
theorem small_in {x:Int} (h:0≤x∧x≤10):In64 x:=by unfold In64; omega
theorem AskW.ints {bm gq n q b off cap p1 p2 p3 p4 p5:Nat} {row:List Int} {W:World} (h:AskW bm gq n q b off cap p1 p2 p3 p4 p5 row W) (hl:row.length=n) (hc:n≤cap) (hm:cap≤9223372036854775807) (hs:smallR row):
  Ints 0 W (.slice (some ⟨b,off,none⟩) n cap) row:=by
 subst hl;refine ⟨⟨some ⟨b,off,none⟩,cap,by simp,by simpa using hc,hm,fun _=>⟨b,off,rfl,Nat.zero_le _,fun i hi=>?_⟩⟩,fun x hx=>small_in (hs.2 x hx)⟩;have:=h.row i (by simpa using hi)
 simpa using this
def SureC (n bm q:Nat):Prop:=∀ (W:World) (v:Value) (row:List Int),Ints 0 W v row→StOk n row q→Ora n bm W →
 Calls Tryz.prog 196 #[.map (some bm),v,.int .i64 (q:Nat)] W fun e W'=>e=.returned (.bool (sureB q row))∧Ora n bm W'∧W.grownBy W' (some bm)
def RelO (n bm:Nat) (W W':World):Prop:=W.grownBy W' (some bm)∧(Ora n bm W→Ora n bm W')∧∀ p u,W.cell? p=some u→W'.cell? p=some u
theorem RelO.refl (n bm:Nat) (W:World):RelO n bm W W:=⟨World.grownBy.refl _ _,id,fun _ _ h=>h⟩
theorem RelO.trans {n bm:Nat} {a b c:World} (h:RelO n bm a b) (h':RelO n bm b c):RelO n bm a c:=⟨grownT h.1 h'.1,fun q=>h'.2.1 (h.2.1 q),fun p u q=>h'.2.2 p u (h.2.2 p u q)⟩
theorem RelO.below {n bm:Nat} {W W':World} (h:Below W.heap.size W W'):RelO n bm W W':=⟨grownR h,fun q=>q.below h,fun p u q=>(Above.of_below (B:=0) h).cell (Nat.zero_le _) q⟩
theorem RelO.call {n bm:Nat} {W W':World} (ho:Ora n bm W) (h:Ora n bm W') (hg:W.grownBy W' (some bm)):RelO n bm W W':=⟨hg,fun _=>h,fun p u q=>ho.cell hg q⟩
theorem Ints.rel {n bm:Nat} {W W':World} {v:Value} {xs:List Int} (h:Ints 0 W v xs) (hr:RelO n bm W W'):Ints 0 W' v xs:=by
 obtain ⟨⟨a,cap,h1,h2,h3,h4⟩,h0⟩:=h;refine ⟨⟨a,cap,h1,h2,h3,fun hp=>?_⟩,h0⟩;obtain ⟨b,off,h5,hb,h6⟩:=h4 hp;exact ⟨b,off,h5,hb,fun i hi=>hr.2.2 _ _ (h6 i hi)⟩
theorem fresh_ints {xs:List Int} {w:World} {e:Ending} {w':World} (h:FreshI xs w e w') (hs:∀ y∈xs,0≤y∧y≤10):∃ v,e=.returned v∧Ints 0 w' v xs∧Below w.heap.size w w':=by
 obtain ⟨a,cap,rfl,ho,hb⟩:=h;exact ⟨_,rfl,(ho.toInts fun x hx=>small_in (hs x hx)).mono (Nat.zero_le _),hb⟩
set_option maxHeartbeats 8000000 in
theorem askEnd_any {bm gq n q b off cap p1 p2 p3 p4 p5:Nat} {row x:List Int} (hsure:SureC n bm q) (hk:knownB row=true) (hl:row.length=n) (hcap:n≤cap) (hmax:cap≤9223372036854775807) (hq:q≤8) (hok:askOk row x)
  (w:World) (hW:AskW bm gq n q b off cap p1 p2 p3 p4 p5 row w) (ho:OwnI 0 w (.slice (some ⟨gq,0,none⟩) n n) x) (hO:Ora n bm w):
  Calls Tryz.prog 218 #[.int .i64 (n:Nat),.pointer (some ⟨p1,0,none⟩),.pointer (some ⟨p2,0,none⟩),.pointer (some ⟨p3,0,none⟩),.pointer (some ⟨p4,0,none⟩),.pointer (some ⟨p5,0,none⟩)] w fun e w'=>
   e=.returned (.bool (tstB q row x))∧RelO n bm w w':=by
 have hsm:=known_small hk;have hr0:=hW.ints hl hcap hmax hsm;have hxm:=(ask_small hsm hok).2;have hu0:Ints 0 w (.slice (some ⟨gq,0,none⟩) n n) x:=ho.toInts fun y hy=>small_in (hxm y hy)
 have HC:=hdd (fun W (hR:RelO n bm w W)=>confI_any _ _ row x W (hr0.rel hR) (hu0.rel hR) hok hsm);have HT:=hdd (fun W (hR:RelO n bm w W)=>othI_any _ _ row x W (hr0.rel hR) (hu0.rel hR) hok hsm);have HD:=hdd (fun W v (hR:RelO n bm w W) (hv:Ints 0 W v (othL row x))=>confI_any _ v row (othL row x) W (hr0.rel hR) hv (oth_ok hok) hsm);have HS1:=hdd (fun W v (hR:RelO n bm w W) (hv:Ints 0 W v (confL row x))=>hsure W v (confL row x) hv ⟨known_conf hk hok,(conf_len hok).trans hl,by omega⟩ (hR.2.1 hO));have HS2:=hdd (fun W v (hR:RelO n bm w W) (hv:Ints 0 W v (confL row (othL row x)))=>hsure W v (confL row (othL row x)) hv ⟨known_conf hk (oth_ok hok),(conf_len (oth_ok hok)).trans hl,by omega⟩ (hR.2.1 hO));have HM1:=hdd (known_small (known_conf hk hok)).2;have HM2:=hdd (known_small (known_conf hk (oth_ok hok))).2;have HM3:=hdd (ask_small hsm (oth_ok hok)).2;have HO:=hdd hO;have HW:=hdd hW;have hwq:IntKind.i64.wrap (q:Int)=(q:Int):=IntWalk.i64_in _ (by omega);have hc1:=hW.c1;unfold tstB;obtain ⟨X,hX⟩:∃ X,X=confL row x:=⟨_,rfl⟩
 obtain ⟨Z,hZ⟩:∃ Z,Z=othL row x:=⟨_,rfl⟩
 rw[←hZ] at HT HD HS2 HM2 HM3 ⊢;obtain ⟨Y,hY⟩:∃ Y,Y=confL row Z:=⟨_,rfl⟩
 rw[←hX] at HC HS1 HM1 ⊢;rw[←hY] at HD HS2 HM2 ⊢;obtain ⟨b1,hb1⟩:∃ b1,b1=sureB q X:=⟨_,rfl⟩
 obtain ⟨b2,hb2⟩:∃ b2,b2=sureB q Y:=⟨_,rfl⟩
 rw[←hb1] at HS1 ⊢;rw[←hb2] at HS2 ⊢;clear hX hY hZ hb1 hb2 hO hW ho hr0 hu0 hxm hsm hok hk hl hsure;go_enter Tryz.func218,Tryz.ntmps218;go_wp2;refine wp_region_invR (Rel:=RelO n bm) 99 (fun _=>True) (fun a b c=>RelO.trans) (fun w=>⟨⟨rfl,rfl,rfl,Nat.le_refl _,fun _ _ _=>rfl⟩,fun q=>q,fun _ _ q=>q⟩) trivial (by kernel_rfl) (fun k=>(#[13,14,15,16,17,18,19,20,21,22,23,24,25,26,27,28,29,30,7]:Array Nat).getD k 0) 47
  (fun k v W=>match k with
   | 0=>v=.map (some bm)
   | 1=>v=.slice (some ⟨b,off,none⟩) n cap
   | 2=>v=.slice (some ⟨gq,0,none⟩) n n
   | 3=>Ints 0 W v X
   | 4=>v=.int .i64 ((q:Int)+1)
   | 5=>v=.int .i64 (q:Int)
   | 6=>v=.bool b1
   | 7=>v=.bool b1
   | 8=>b1=true→v=.map (some bm)
   | 9=>b1=true→v=.slice (some ⟨b,off,none⟩) n cap
   | 10=>b1=true→v=.slice (some ⟨b,off,none⟩) n cap
   | 11=>b1=true→v=.slice (some ⟨gq,0,none⟩) n n
   | 12=>b1=true→Ints 0 W v Z
   | 13=>b1=true→Ints 0 W v Y
   | 14=>b1=true→v=.int .i64 ((q:Int)+1)
   | 15=>b1=true→v=.int .i64 (q:Int)
   | 16=>b1=true→v=.bool b2
   | 17=>v=.bool (b1&&b2)
   | 18=>v=.bool (b1&&b2)
   | _=>False) rfl (by kernel_rfl) ?mono ?step ?fin
 case mono=>
  intro k v W W' h hb
  match k,h with
  | 0,h=>exact h
  | 1,h=>exact h
  | 2,h=>exact h
  | 3,h=>exact Ints.rel h hb
  | 4,h=>exact h
  | 5,h=>exact h
  | 6,h=>exact h
  | 7,h=>exact h
  | 8,h=>exact h
  | 9,h=>exact h
  | 10,h=>exact h
  | 11,h=>exact h
  | 12,h=>exact fun q=>(h q).rel hb
  | 13,h=>exact fun q=>(h q).rel hb
  | 14,h=>exact h
  | 15,h=>exact h
  | 16,h=>exact h
  | 17,h=>exact h
  | 18,h=>exact h
 case step=>
  intro i o ho A W hR hG hA hD K hK
  match i,ho with
  | 0,ho=>
   obtain rfl:=Option.some.inj ho;have e0:A.tmps.getD 2 undef=.pointer (some ⟨p2,0,none⟩):=(hA 2 (by kernel_rfl)).trans rfl;have e0':=gDq e0;have hcell:=hR.2.2 _ _ HW.out.c2;have HK:=hdd (show ∀ v W',RelO n bm W W'→(v=.map (some bm))→K (A.put (some 13) v) W' from fun v W' h1 h2=>hK.out v W' h1 (fun _ _=>trivial) h2);have HR:=hdd hR;clear hA hD hK hR hG;go_simp;exact HK.out _ _ (RelO.refl _ _ _) rfl
  | 1,ho=>
   obtain rfl:=Option.some.inj ho;have e0:A.tmps.getD 1 undef=.pointer (some ⟨p1,0,none⟩):=(hA 1 (by kernel_rfl)).trans rfl;have e0':=gDq e0;have hcell:=hR.2.2 _ _ HW.out.c1;have HK:=hdd (show ∀ v W',RelO n bm W W'→(v=.slice (some ⟨b,off,none⟩) n cap)→K (A.put (some 14) v) W' from fun v W' h1 h2=>hK.out v W' h1 (fun _ _=>trivial) h2);have HR:=hdd hR;clear hA hD hK hR hG;go_simp;exact HK.out _ _ (RelO.refl _ _ _) rfl
  | 2,ho=>
   obtain rfl:=Option.some.inj ho;have e0:A.tmps.getD 3 undef=.pointer (some ⟨p3,0,none⟩):=(hA 3 (by kernel_rfl)).trans rfl;have e0':=gDq e0;have hcell:=hR.2.2 _ _ HW.out.c3;have HK:=hdd (show ∀ v W',RelO n bm W W'→(v=.slice (some ⟨gq,0,none⟩) n n)→K (A.put (some 15) v) W' from fun v W' h1 h2=>hK.out v W' h1 (fun _ _=>trivial) h2);have HR:=hdd hR;clear hA hD hK hR hG;go_simp;exact HK.out _ _ (RelO.refl _ _ _) rfl
  | 3,ho=>
   obtain rfl:=Option.some.inj ho;have d1:A.tmps.getD 14 undef=.slice (some ⟨b,off,none⟩) n cap:=hD 1 (by kernel_rfl);have d2:A.tmps.getD 15 undef=.slice (some ⟨gq,0,none⟩) n n:=hD 2 (by kernel_rfl);have HK:=hdd (show ∀ v W',RelO n bm W W'→(Ints 0 W' v X)→K (A.put (some 16) v) W' from fun v W' h1 h2=>hK.out v W' h1 (fun _ _=>trivial) h2);have HR:=hdd hR;clear hA hD hK hR hG;have d1':=gDq d1;have d2':=gDq d2;have hT:=HC.out W HR.out;go_simp;refine hT.mono ?_;intro e W' hf;obtain ⟨v,rfl,hv,hb⟩:=fresh_ints hf HM1.out;exact HK.out _ _ (RelO.below hb) hv
  | 4,ho=>
   obtain rfl:=Option.some.inj ho;have e0:A.tmps.getD 4 undef=.pointer (some ⟨p4,0,none⟩):=(hA 4 (by kernel_rfl)).trans rfl;have e0':=gDq e0;have hcell:=hR.2.2 _ _ HW.out.c4;have HK:=hdd (show ∀ v W',RelO n bm W W'→(v=.int .i64 ((q:Int)+1))→K (A.put (some 17) v) W' from fun v W' h1 h2=>hK.out v W' h1 (fun _ _=>trivial) h2);have HR:=hdd hR;clear hA hD hK hR hG;go_simp;exact HK.out _ _ (RelO.refl _ _ _) rfl
  | 5,ho=>
   obtain rfl:=Option.some.inj ho;have d4:A.tmps.getD 17 undef=.int .i64 ((q:Int)+1):=hD 4 (by kernel_rfl);have HK:=hdd (show ∀ v W',RelO n bm W W'→(v=.int .i64 (q:Int))→K (A.put (some 18) v) W' from fun v W' h1 h2=>hK.out v W' h1 (fun _ _=>trivial) h2);have HR:=hdd hR;clear hA hD hK hR hG;have d4':=gDq d4;go_simp;exact HK.out _ _ (RelO.refl _ _ _) rfl
  | 6,ho=>
   obtain rfl:=Option.some.inj ho;have d0:A.tmps.getD 13 undef=.map (some bm):=hD 0 (by kernel_rfl);have d3:Ints 0 W (A.tmps.getD 16 undef) X:=hD 3 (by kernel_rfl);have d5:A.tmps.getD 18 undef=.int .i64 (q:Int):=hD 5 (by kernel_rfl);have HK:=hdd (show ∀ v W',RelO n bm W W'→(v=.bool b1)→K (A.put (some 19) v) W' from fun v W' h1 h2=>hK.out v W' h1 (fun _ _=>trivial) h2);have HR:=hdd hR;clear hA hD hK hR hG;have d0':=gDq d0;obtain ⟨v3,hv3⟩:∃ z,A.tmps.getD 16 undef=z:=⟨_,rfl⟩
   rw[hv3] at d3;have hv3':=gDq hv3;have d5':=gDq d5;have hT:=HS1.out W v3 HR.out d3;go_simp;refine hT.mono ?_;rintro e W' ⟨rfl,h1,h2⟩;exact HK.out _ _ (RelO.call (HR.out.2.1 HO.out) h1 h2) rfl
  | 7,ho=>
   obtain rfl:=Option.some.inj ho;have d6:A.tmps.getD 19 undef=.bool b1:=hD 6 (by kernel_rfl);have HK:=hdd (show ∀ v W',RelO n bm W W'→(v=.bool b1)→K (A.put (some 20) v) W' from fun v W' h1 h2=>hK.out v W' h1 (fun _ _=>trivial) h2);have HR:=hdd hR;clear hA hD hK hR hG;have d6':=gDq d6;go_simp;exact HK.out _ _ (RelO.refl _ _ _) rfl
  | 8,ho=>
   obtain rfl:=Option.some.inj ho;have e0:A.tmps.getD 2 undef=.pointer (some ⟨p2,0,none⟩):=(hA 2 (by kernel_rfl)).trans rfl;have e0':=gDq e0;have hcell:=hR.2.2 _ _ HW.out.c2;have d7:A.tmps.getD 20 undef=.bool b1:=hD 7 (by kernel_rfl);have HK:=hdd (show ∀ v W',RelO n bm W W'→(b1=true→v=.map (some bm))→K (A.put (some 21) v) W' from fun v W' h1 h2=>hK.out v W' h1 (fun _ _=>trivial) h2);have HR:=hdd hR;clear hA hD hK hR hG
   cases b1
   ·have d7':=opt_bool (by rw[Array.getD_eq_getD_getElem?] at d7; exact d7)
    clear d7;go_simp;exact HK.out _ _ (RelO.refl _ _ _) (fun q=>by cases q)
   ·skip
    have d7':=opt_bool (by rw[Array.getD_eq_getD_getElem?] at d7; exact d7);clear d7;go_simp;exact HK.out _ _ (RelO.refl _ _ _) (fun _=>rfl)
  | 9,ho=>
   obtain rfl:=Option.some.inj ho;have e0:A.tmps.getD 1 undef=.pointer (some ⟨p1,0,none⟩):=(hA 1 (by kernel_rfl)).trans rfl;have e0':=gDq e0;have hcell:=hR.2.2 _ _ HW.out.c1;have d7:A.tmps.getD 20 undef=.bool b1:=hD 7 (by kernel_rfl);have HK:=hdd (show ∀ v W',RelO n bm W W'→(b1=true→v=.slice (some ⟨b,off,none⟩) n cap)→K (A.put (some 22) v) W' from fun v W' h1 h2=>hK.out v W' h1 (fun _ _=>trivial) h2);have HR:=hdd hR;clear hA hD hK hR hG
   cases b1
   ·have d7':=opt_bool (by rw[Array.getD_eq_getD_getElem?] at d7; exact d7)
    clear d7;go_simp;exact HK.out _ _ (RelO.refl _ _ _) (fun q=>by cases q)
   ·skip
    have d7':=opt_bool (by rw[Array.getD_eq_getD_getElem?] at d7; exact d7);clear d7;go_simp;exact HK.out _ _ (RelO.refl _ _ _) (fun _=>rfl)
  | 10,ho=>
   obtain rfl:=Option.some.inj ho;have e0:A.tmps.getD 1 undef=.pointer (some ⟨p1,0,none⟩):=(hA 1 (by kernel_rfl)).trans rfl;have e0':=gDq e0;have hcell:=hR.2.2 _ _ HW.out.c1;have d7:A.tmps.getD 20 undef=.bool b1:=hD 7 (by kernel_rfl);have HK:=hdd (show ∀ v W',RelO n bm W W'→(b1=true→v=.slice (some ⟨b,off,none⟩) n cap)→K (A.put (some 23) v) W' from fun v W' h1 h2=>hK.out v W' h1 (fun _ _=>trivial) h2);have HR:=hdd hR;clear hA hD hK hR hG
   cases b1
   ·have d7':=opt_bool (by rw[Array.getD_eq_getD_getElem?] at d7; exact d7)
    clear d7;go_simp;exact HK.out _ _ (RelO.refl _ _ _) (fun q=>by cases q)
   ·skip
    have d7':=opt_bool (by rw[Array.getD_eq_getD_getElem?] at d7; exact d7);clear d7;go_simp;exact HK.out _ _ (RelO.refl _ _ _) (fun _=>rfl)
  | 11,ho=>
   obtain rfl:=Option.some.inj ho;have e0:A.tmps.getD 3 undef=.pointer (some ⟨p3,0,none⟩):=(hA 3 (by kernel_rfl)).trans rfl;have e0':=gDq e0;have hcell:=hR.2.2 _ _ HW.out.c3;have d7:A.tmps.getD 20 undef=.bool b1:=hD 7 (by kernel_rfl);have HK:=hdd (show ∀ v W',RelO n bm W W'→(b1=true→v=.slice (some ⟨gq,0,none⟩) n n)→K (A.put (some 24) v) W' from fun v W' h1 h2=>hK.out v W' h1 (fun _ _=>trivial) h2);have HR:=hdd hR;clear hA hD hK hR hG
   cases b1
   ·have d7':=opt_bool (by rw[Array.getD_eq_getD_getElem?] at d7; exact d7)
    clear d7;go_simp;exact HK.out _ _ (RelO.refl _ _ _) (fun q=>by cases q)
   ·skip
    have d7':=opt_bool (by rw[Array.getD_eq_getD_getElem?] at d7; exact d7);clear d7;go_simp;exact HK.out _ _ (RelO.refl _ _ _) (fun _=>rfl)
  | 12,ho=>
   obtain rfl:=Option.some.inj ho;have d7:A.tmps.getD 20 undef=.bool b1:=hD 7 (by kernel_rfl);have d10:b1=true→A.tmps.getD 23 undef=.slice (some ⟨b,off,none⟩) n cap:=hD 10 (by kernel_rfl);have d11:b1=true→A.tmps.getD 24 undef=.slice (some ⟨gq,0,none⟩) n n:=hD 11 (by kernel_rfl);have HK:=hdd (show ∀ v W',RelO n bm W W'→(b1=true→Ints 0 W' v Z)→K (A.put (some 25) v) W' from fun v W' h1 h2=>hK.out v W' h1 (fun _ _=>trivial) h2);have HR:=hdd hR;clear hA hD hK hR hG
   cases b1
   ·have d7':=opt_bool (by rw[Array.getD_eq_getD_getElem?] at d7; exact d7)
    clear d7;clear d10;clear d11;go_simp;exact HK.out _ _ (RelO.refl _ _ _) (fun q=>by cases q)
   ·skip
    have d10:=d10 rfl;have d11:=d11 rfl;have d7':=opt_bool (by rw[Array.getD_eq_getD_getElem?] at d7; exact d7);clear d7;have d10':=gDq d10;have d11':=gDq d11;have hT:=HT.out W HR.out;go_simp;refine hT.mono ?_;intro e W' hf;obtain ⟨v,rfl,hv,hb⟩:=fresh_ints hf HM3.out;exact HK.out _ _ (RelO.below hb) (fun _=>hv)
  | 13,ho=>
   obtain rfl:=Option.some.inj ho;have d7:A.tmps.getD 20 undef=.bool b1:=hD 7 (by kernel_rfl);have d9:b1=true→A.tmps.getD 22 undef=.slice (some ⟨b,off,none⟩) n cap:=hD 9 (by kernel_rfl);have d12:b1=true→Ints 0 W (A.tmps.getD 25 undef) Z:=hD 12 (by kernel_rfl);have HK:=hdd (show ∀ v W',RelO n bm W W'→(b1=true→Ints 0 W' v Y)→K (A.put (some 26) v) W' from fun v W' h1 h2=>hK.out v W' h1 (fun _ _=>trivial) h2);have HR:=hdd hR;clear hA hD hK hR hG
   cases b1
   ·have d7':=opt_bool (by rw[Array.getD_eq_getD_getElem?] at d7; exact d7)
    clear d7;clear d9;clear d12;go_simp;exact HK.out _ _ (RelO.refl _ _ _) (fun q=>by cases q)
   ·skip
    have d9:=d9 rfl;have d12:=d12 rfl;have d7':=opt_bool (by rw[Array.getD_eq_getD_getElem?] at d7; exact d7);clear d7;have d9':=gDq d9;obtain ⟨v12,hv12⟩:∃ z,A.tmps.getD 25 undef=z:=⟨_,rfl⟩
    rw[hv12] at d12;have hv12':=gDq hv12;have hT:=HD.out W v12 HR.out d12;go_simp;refine hT.mono ?_;intro e W' hf;obtain ⟨v,rfl,hv,hb⟩:=fresh_ints hf HM2.out;exact HK.out _ _ (RelO.below hb) (fun _=>hv)
  | 14,ho=>
   obtain rfl:=Option.some.inj ho;have e0:A.tmps.getD 4 undef=.pointer (some ⟨p4,0,none⟩):=(hA 4 (by kernel_rfl)).trans rfl;have e0':=gDq e0;have hcell:=hR.2.2 _ _ HW.out.c4;have d7:A.tmps.getD 20 undef=.bool b1:=hD 7 (by kernel_rfl);have HK:=hdd (show ∀ v W',RelO n bm W W'→(b1=true→v=.int .i64 ((q:Int)+1))→K (A.put (some 27) v) W' from fun v W' h1 h2=>hK.out v W' h1 (fun _ _=>trivial) h2);have HR:=hdd hR;clear hA hD hK hR hG
   cases b1
   ·have d7':=opt_bool (by rw[Array.getD_eq_getD_getElem?] at d7; exact d7)
    clear d7;go_simp;exact HK.out _ _ (RelO.refl _ _ _) (fun q=>by cases q)
   ·skip
    have d7':=opt_bool (by rw[Array.getD_eq_getD_getElem?] at d7; exact d7);clear d7;go_simp;exact HK.out _ _ (RelO.refl _ _ _) (fun _=>rfl)
  | 15,ho=>
   obtain rfl:=Option.some.inj ho;have d7:A.tmps.getD 20 undef=.bool b1:=hD 7 (by kernel_rfl);have d14:b1=true→A.tmps.getD 27 undef=.int .i64 ((q:Int)+1):=hD 14 (by kernel_rfl);have HK:=hdd (show ∀ v W',RelO n bm W W'→(b1=true→v=.int .i64 (q:Int))→K (A.put (some 28) v) W' from fun v W' h1 h2=>hK.out v W' h1 (fun _ _=>trivial) h2);have HR:=hdd hR;clear hA hD hK hR hG
   cases b1
   ·have d7':=opt_bool (by rw[Array.getD_eq_getD_getElem?] at d7; exact d7)
    clear d7;clear d14;go_simp;exact HK.out _ _ (RelO.refl _ _ _) (fun q=>by cases q)
   ·skip
    have d14:=d14 rfl;have d7':=opt_bool (by rw[Array.getD_eq_getD_getElem?] at d7; exact d7);clear d7;have d14':=gDq d14;go_simp;exact HK.out _ _ (RelO.refl _ _ _) (fun _=>rfl)
  | 16,ho=>
   obtain rfl:=Option.some.inj ho;have d7:A.tmps.getD 20 undef=.bool b1:=hD 7 (by kernel_rfl);have d8:b1=true→A.tmps.getD 21 undef=.map (some bm):=hD 8 (by kernel_rfl);have d13:b1=true→Ints 0 W (A.tmps.getD 26 undef) Y:=hD 13 (by kernel_rfl);have d15:b1=true→A.tmps.getD 28 undef=.int .i64 (q:Int):=hD 15 (by kernel_rfl);have HK:=hdd (show ∀ v W',RelO n bm W W'→(b1=true→v=.bool b2)→K (A.put (some 29) v) W' from fun v W' h1 h2=>hK.out v W' h1 (fun _ _=>trivial) h2);have HR:=hdd hR;clear hA hD hK hR hG
   cases b1
   ·have d7':=opt_bool (by rw[Array.getD_eq_getD_getElem?] at d7; exact d7)
    clear d7;clear d8;clear d13;clear d15;go_simp;exact HK.out _ _ (RelO.refl _ _ _) (fun q=>by cases q)
   ·skip
    have d8:=d8 rfl;have d13:=d13 rfl;have d15:=d15 rfl;have d7':=opt_bool (by rw[Array.getD_eq_getD_getElem?] at d7; exact d7);clear d7;have d8':=gDq d8;obtain ⟨v13,hv13⟩:∃ z,A.tmps.getD 26 undef=z:=⟨_,rfl⟩
    rw[hv13] at d13;have hv13':=gDq hv13;have d15':=gDq d15;have hT:=HS2.out W v13 HR.out d13;go_simp;refine hT.mono ?_;rintro e W' ⟨rfl,h1,h2⟩;exact HK.out _ _ (RelO.call (HR.out.2.1 HO.out) h1 h2) (fun _=>rfl)
  | 17,ho=>
   obtain rfl:=Option.some.inj ho;have d7:A.tmps.getD 20 undef=.bool b1:=hD 7 (by kernel_rfl);have d16:b1=true→A.tmps.getD 29 undef=.bool b2:=hD 16 (by kernel_rfl);have HK:=hdd (show ∀ v W',RelO n bm W W'→(v=.bool (b1&&b2))→K (A.put (some 30) v) W' from fun v W' h1 h2=>hK.out v W' h1 (fun _ _=>trivial) h2);have HR:=hdd hR;clear hA hD hK hR hG
   cases b1
   ·have d7':=gDq d7
    clear d16;go_simp;exact HK.out _ _ (RelO.refl _ _ _) rfl
   ·have d16:=d16 rfl
    have d7':=gDq d7;have d16':=gDq d16;go_simp;exact HK.out _ _ (RelO.refl _ _ _) rfl
  | 18,ho=>
   obtain rfl:=Option.some.inj ho;have d17:A.tmps.getD 30 undef=.bool (b1&&b2):=hD 17 (by kernel_rfl);have HK:=hdd (show ∀ v W',RelO n bm W W'→(v=.bool (b1&&b2))→K (A.put (some 7) v) W' from fun v W' h1 h2=>hK.out v W' h1 (fun _ _=>trivial) h2);have HR:=hdd hR;clear hA hD hK hR hG;have d17':=gDq d17;go_simp;exact HK.out _ _ (RelO.refl _ _ _) rfl
  | n+19,ho=>
   simp at ho
 case fin=>
  intro vs W hR h;have hlast:vs 18=.bool (b1&&b2):=h 18 (by simp);have HR:=hdd hR;rw[invA_lit [none,none,none,none,none,none,none,some 18,none,none,none,none,none,some 0,some 1,some 2,some 3,some 4,some 5,some 6,some 7,some 8,some 9,some 10,some 11,some 12,some 13,some 14,some 15,some 16,some 17,none,none,none,none,none,none,none,none,none,none,none,none,none,none,none,none] (by kernel_rfl) rfl];simp only[List.zipWith_cons_cons,List.zipWith_nil_left];rw[hlast];clear h hlast hR;go_wp2;go_ret;exact ⟨rfl,HR.out⟩
theorem take_set_next {x:List Int} {i:Nat} (h:i<x.length) (k:Int):(x.set i k).take (i+1)=x.take i++[k]:=by
 rw[List.take_succ_eq_append_getElem (by simpa using h),List.getElem_set_self,List.take_set_of_le (Nat.le_refl _)]
set_option maxHeartbeats 8000000 in
theorem ask_any {bm gq n q b off cap p1 p2 p3 p4 p5:Nat} {row:List Int} (hsure:SureC n bm q) (hk:knownB row=true) (hl:row.length=n) (hcap:n≤cap) (hmax:cap≤9223372036854775807) (hq:q≤8)
  (hne:(p1≠gq∧p2≠gq∧p3≠gq∧p4≠gq∧p5≠gq∧b≠gq)∧bm≠gq):∀ (m i:Nat),i+m=n→∀ (W:World) (x:List Int),AskW bm gq n q b off cap p1 p2 p3 p4 p5 row W→OwnI 0 W (.slice (some ⟨gq,0,none⟩) n n) x→x.length=n →
  (∀ j (h1:j<row.length) (h2:j<x.length),j<i→0≤x[j]∧x[j]≤row[j])→Ora n bm W →
  Calls Tryz.prog 218 #[.int .i64 (i:Nat),.pointer (some ⟨p1,0,none⟩),.pointer (some ⟨p2,0,none⟩),.pointer (some ⟨p3,0,none⟩),.pointer (some ⟨p4,0,none⟩),.pointer (some ⟨p5,0,none⟩)] W fun e W'=>
   e=.returned (.bool (ansP q row (x.take i) (row.drop i)))∧∃ x',AskW bm gq n q b off cap p1 p2 p3 p4 p5 row W'∧OwnI 0 W' (.slice (some ⟨gq,0,none⟩) n n) x'∧x'.length=n∧x'.take i=x.take i∧Ora n bm W'∧Grow2 bm gq W W':=by
 intro m
 induction m with
 | zero=>
  intro i hi W x hA ho hxl hx hO;have e:i=n:=by omega
  subst e;have hok:askOk row x:=askOk_of (by omega) fun j h1 h2=>hx j h1 h2 (by omega)
  rw[List.take_of_length_le (by omega),List.drop_of_length_le (by omega),ansP_nil];refine (askEnd_any hsure hk hl hcap hmax hq hok W hA ho hO).mono ?_;rintro e W' ⟨rfl,hg,h1,h2⟩;exact ⟨rfl,x,hA.next hne.1 (fun p u _ hc=>h2 p u hc),World.ownsRow.kept ho hg (.inr (fun e=>hne.2 (by have e':some gq=some bm:=e; injection e' with e'; exact e'.symm))),hxl,List.take_of_length_le (by omega),h1 hO,Grow2.of hg⟩
 | succ m ih=>
  intro i hi W x hA ho hxl hx hO;have hir:i<row.length:=by omega
  have hix:i<x.length:=by omega
  have hsm:=known_small hk;have ha:=hsm.2 row[i] (List.getElem_mem hir);have hdrop:row.drop i=row[i]::row.drop (i+1):=List.drop_eq_getElem_cons hir;have HREC:=hdd (fun W x h1 h2 h3 h4 h5=>ih (i+1) (by omega) W x h1 h2 h3 h4 h5);have HROW:=hdd (fun W (h:AskW bm gq n q b off cap p1 p2 p3 p4 p5 row W)=>h.row i hir);have HX:=hdd hx;obtain ⟨a,haa⟩:∃ a,a=row[i]:=⟨_,rfl⟩
  have HAA:=hdd haa;rw[←haa] at ha hdrop HROW;obtain ⟨R,hR⟩:∃ R,R=ansP q row (x.take i) (row.drop i):=⟨_,rfl⟩
  rw[←hR];rw[hdrop,ansP_cons] at hR;have HYES:=hdd (show ∀ k:Nat,(k:Int)≤a→ansP q row (x.take i++[(k:Int)]) (row.drop (i+1))=true→R=true from fun k h1 h2=>by
   rw[hR]; exact List.any_eq_true.2 ⟨k,List.mem_range.2 (by omega),h2⟩)
  have HNO:=hdd (show (∀ k:Nat,(k:Int)≤a→ansP q row (x.take i++[(k:Int)]) (row.drop (i+1))=false)→R=false from fun h=>by
   rw[hR,Bool.eq_false_iff];intro e;obtain ⟨k,h1,h2⟩:=List.any_eq_true.1 e;have:=h k (by have:=List.mem_range.1 h1; omega);rw[this] at h2; cases h2)
  obtain ⟨pre,hpre⟩:∃ pre,pre=x.take i:=⟨_,rfl⟩
  rw[←hpre] at HYES HNO ⊢;have HP:=hdd (show ∀ y:List Int,y.length=n→y.take i=pre→∀ j (h1:j<row.length) (h2:j<y.length),j<i→0≤y[j]∧y[j]≤row[j] from fun y hyl hy j h1 h2 h3=>by
   have e:y[j]=x[j]'(by omega):=by
    have e1:(y.take i)[j]?=(x.take i)[j]?:=by rw[hy,hpre]
    rw[List.getElem?_take_of_lt h3,List.getElem?_take_of_lt h3,List.getElem?_eq_getElem h2,List.getElem?_eq_getElem (by omega:j<x.length)] at e1;exact Option.some.inj e1
   rw[e];exact HX.out j h1 (by omega) h3)
  have HL:=hdd hl;have HXL:=hdd hxl;have HPRE:=hdd hpre;have HA:=hdd hA;have HO:=hdd hO;have HOW:=hdd ho;have c1:=hA.c1;have hin:((i:Int)==(n:Int))=false:=by rw[beq_eq_false_iff_ne]; omega
  have hin2:(i:Int)<(n:Int):=by omega
  have hi0:(0:Int)≤(i:Int):=by omega
  have hi3:(i:Int)≤3:=by have:=hsm.1.2; omega
  obtain ⟨a0,a10⟩:=ha;clear hA hO hx ho ih hsure hsm haa hdrop hR hpre hl hxl hi;go_enter Tryz.func218,Tryz.ntmps218;go_wp2;go_loopw [8] (fun iv wi=>∃ k:Nat,iv=.int .i64 k∧(k:Int)≤a+1∧(∀ j:Nat,j<k→ansP q row (pre++[(j:Int)]) (row.drop (i+1))=false)∧∃ x',AskW bm gq n q b off cap p1 p2 p3 p4 p5 row wi∧OwnI 0 wi (.slice (some ⟨gq,0,none⟩) n n) x'∧x'.length=n∧x'.take i=pre∧Ora n bm wi∧Grow2 bm gq W wi) (fun iv _=>(a+1).toNat-(intOf iv).toNat)
  case atStart=>exact ⟨0,rfl,by omega,fun j h=>by omega,x,HA.out,HOW.out,HXL.out,HPRE.out.symm,HO.out,Grow2.refl _ _ _⟩
  case round=>
   obtain ⟨k,rfl,hka,hno,x',hA,ho,hxl,hxt,hO,hG⟩:=hrel;obtain ⟨wk,rfl⟩:∃ z,z=wr:=⟨_,rfl⟩
   clear c1;have c1:=hA.c1;have crow:=HROW.out wk hA;have hk0:(0:Int)≤(k:Int):=by omega
   by_cases hlt:(k:Int)≤a
   ·have c3:=hA.c3
    obtain ⟨hcu,hfu⟩:=own_cell ho i (by omega);obtain ⟨z,hz⟩:∃ z,z=x'[i]'(by omega):=⟨_,rfl⟩
    rw[←hz] at hcu;clear hz;have hA2:AskW bm gq n q b off cap p1 p2 p3 p4 p5 row (wk.setCell ⟨gq,i,none⟩ (.int .i64 (k:Int))):=hA.next hne.1 fun p u hp hc=>by
     rw[World.cell?_of_block (w:=wk) (heap_setCell_other _ _ _ _ hp)]; exact hc
    have c5:=hA2.c5;have hgs:=grownBy_setCell wk ⟨gq,i,none⟩ (.int .i64 (k:Int));have hT:=HREC.out (wk.setCell ⟨gq,i,none⟩ (.int .i64 (k:Int))) (x'.set i k) hA2 (ho.set i k) (by simpa using hxl) (fun j h1 h2 h3=>by
     rw[List.getElem_set]
     split
     ·rename_i e; subst e; have:=HAA.out; omega
     ·exact HP.out x' hxl hxt j h1 (by simpa using h2) (by omega)) (hO.kept hgs (fun e=>hne.2 (by injection e)))
    rw[take_set_next (by omega),hxt] at hT;obtain ⟨G,hGG⟩:∃ G,G=ansP q row (pre++[(k:Int)]) (row.drop (i+1)):=⟨_,rfl⟩
    rw[←hGG] at hT;have HG1:=hdd (hG.trans (Grow2.of' (p:=bm) hgs));have HT:=hdd hT;have HNOK:=hdd hno;have HGG:=hdd hGG;have hi1:IntKind.i64.wrap ((i:Int)+1)=((i+1:Nat):Int):=IntWalk.i64_in _ (by omega);clear hA ho hxl hxt hO hG hA2 hgs hno hGG hT;go_wp2_with fail;refine HT.out.mono ?_;rintro e w3 ⟨rfl,x3,hA3,ho3,hxl3,hxt3,hO3,hG3⟩;have HA3:=hdd hA3;have HO3:=hdd ho3;have HXL3:=hdd hxl3;have HXT3:=hdd (show x3.take i=pre by
     have e1:(x3.take (i+1)).take i=x3.take i:=by rw[List.take_take]; congr 1; omega
     rw[←e1,hxt3];rw[List.take_append_of_le_length (by rw[HPRE.out,List.length_take,HXL.out]; omega),HPRE.out,List.take_take]; congr 1; omega)
    have HOR3:=hdd hO3;have HG3:=hdd (HG1.out.trans hG3);clear hA3 ho3 hxl3 hxt3 hO3 hG3 c1 c3 c5 crow hcu hfu
    cases G
    ·go_wp2
     go_roundw
     case rel=>
      exact ⟨k+1,by go_num,by omega,fun j hj=>by
       by_cases e:j=k
       ·subst e; exact HGG.out.symm
       ·exact HNOK.out j (by omega),x3,HA3.out,HO3.out,HXL3.out,HXT3.out,HOR3.out,HG3.out⟩
     case measure=>simp[intOf]; omega
    ·have HR:=hdd (HYES.out k hlt HGG.out.symm)
     go_wp2;go_ret;exact ⟨by rw[HR.out]; rfl,x3,HA3.out,HO3.out,HXL3.out,HXT3.out,HOR3.out,HG3.out⟩
   ·have HR:=hdd (HNO.out fun j hj=>hno j (by omega))
    have HA:=hdd hA;have HO:=hdd ho;have HXL:=hdd hxl;have HXT:=hdd hxt;have HOR:=hdd hO;have HG:=hdd hG;clear hA ho hxl hxt hO hG hno;go_wp2;go_ret;exact ⟨by rw[HR.out]; rfl,HA.out,x',HO.out,HXL.out,HXT.out,HOR.out,HG.out⟩
end
section
open Go Go.RowKit
theorem invSl_same {dst:Nat→Nat} {n:Nat} {done done':Array Bool} {vs:Nat→Value} (h:∀ k,k<n→done.getD k false=done'.getD k false) (t:Nat) (x:Value):invSl dst n done vs t x=invSl dst n done' vs t x:=by
 unfold invSl
 rcases q:invIdx dst n t with _ | k
 ·rfl
 ·simp only[h k (invIdx_lt q)]
theorem invL_same {dst:Nat→Nat} {n:Nat} {done done':Array Bool} {vs:Nat→Value} (h:∀ k,k<n→done.getD k false=done'.getD k false):∀ (l:List Value) (t:Nat),invL dst n done vs t l=invL dst n done' vs t l
 | [],t=>rfl
 | x::xs,t=>by
  simp only[invL,invL_same h xs (t+1),invSl_same h t x]
theorem invA_same {dst:Nat→Nat} {n:Nat} {a0:Act} {done done':Array Bool} {vs:Nat→Value} (h:∀ k,k<n→done.getD k false=done'.getD k false):invA dst n a0 done vs=invA dst n a0 done' vs:=by
 unfold invA;rw[invL_same h]
theorem replicate_getD (n k:Nat) (h:k<n):(Array.replicate n true).getD k false=true:=by
 simp[h]
section
variable {P:Program} {l:List Oper} {Q:Exit→Act→World→Prop} {a0:Act} {w0:World} {dst:Nat→Nat} {Φ:Nat→Value→World→Prop} {n:Nat}
theorem ready_nil {done:Array Bool} (hs:done.size=l.length) (h:∀ i,i<l.length→done.getD i false=true):Region.ready .any l.toArray done=[]:=by
 rcases q:Region.ready .any l.toArray done with _ | ⟨j,r⟩
 ·rfl
 ·exfalso
  have hj:j∈Region.ready .any l.toArray done:=by rw[q]; simp
  obtain ⟨h1,o,h2,_⟩:=mem_ready.1 hj;have hlt:j<l.length:=by simpa using (Array.getElem?_eq_some_iff.1 h2).1
  have h3:=h j hlt;have h4:j<done.size:=by omega
  simp only[Array.getD_eq_getD_getElem?,Array.getElem?_eq_getElem h4,Option.getD_some] at h1 h3;rw[h1] at h3
  cases h3
theorem wpAny_done {done:Array Bool} {a:Act} {w:World} (hs:done.size=l.length) (h:∀ i,i<l.length→done.getD i false=true) (hq:Q .normal a w):∀ c,wpAny P .any l.toArray Q c done a w
 | 0=>⟨ready_nil hs h,hq⟩
 | c+1=>⟨fun _=>hq,fun i hi=>by rw[ready_nil hs h] at hi; cases hi⟩
def InvE (l:List Oper) (a0:Act) (w0:World) (dst:Nat→Nat) (Φ:Nat→Value→World→Prop) (n:Nat) (done:Array Bool) (a:Act) (w:World):Prop:=
 done.size=l.length∧done.getD n false=false∧Below w0.heap.size w0 w∧∃ vs,a=invA dst n a0 done vs∧∀ k,k<n→done.getD k false=true→Φ k (vs k) w
theorem inv_anyE (hn:l.length=n+1) (hdst:∀ i (h:i<l.length),i<n→l[i].dst=some (dst i)) (hinj:∀ i,i<n→invIdx dst n (dst i)=some i) (hsz:∀ i,i<n→dst i<a0.tmps.size) (hdag:∀ i (h:i<l.length),∀ k∈invDeps l[i],k<i) (hlast:∀ (h:n<l.length),∀ k,k<n→k∈invDeps l[n])
  (hmono:∀ k v w w',Φ k v w→Below w.heap.size w w'→Φ k v w')
  (hstep:∀ i (h:i<l.length),i<n→∀ (A:Act) (W:World),Below w0.heap.size w0 W→(∀ t,invIdx dst n t=none→A.tmps.getD t undef=a0.tmps.getD t undef)→(∀ k∈invDeps l[i],Φ k (A.tmps.getD (dst k) undef) W) →
   ∀ K:Act→World→Prop,Hid (∀ v W',Below W.heap.size W W'→Φ i v W'→K (A.put (some (dst i)) v) W')→if Region.wanted l[i] (yielded l.toArray A.tmps)=true then Oper.wp P l[i] A W K Q else K (A.put l[i].dst undef) W)
  (hend:∀ (h:n<l.length),∀ vs W,Below w0.heap.size w0 W→(∀ k,k<n→Φ k (vs k) W)→∀ A,A=invA dst n a0 (Array.replicate n true) vs→(∀ k,k<n→A.tmps.getD (dst k) undef=vs k) →
   ∀ K:Act→World→Prop,Hid (∀ a w,Q .normal a w→K a w)→if Region.wanted l[n] (yielded l.toArray A.tmps)=true then Oper.wp P l[n] A W K Q else K (A.put l[n].dst undef) W):
  ∀ (c:Nat) (done:Array Bool) (a:Act) (w:World),InvE l a0 w0 dst Φ n done a w→invLeft done=c→wpAny P .any l.toArray Q c done a w:=by
 intro c
 induction c with
 | zero=>
  intro done a w hI hz;have h1:=inv_zero hI.1 hz n (by omega);rw[hI.2.1] at h1
  cases h1
 | succ c ih=>
  intro done a w hI hc;refine ⟨fun hr=>?_,fun i hi=>?_⟩
  ·have h1:=inv_all hI.1 hdag hr n (by omega)
   rw[hI.2.1] at h1
   cases h1
  ·obtain ⟨h1,o,h2,h3⟩:=mem_ready.1 hi
   have hlt:i<l.length:=by simpa using (Array.getElem?_eq_some_iff.1 h2).1
   have ho:o=l[i]:=by simpa [hlt] using h2.symm
   subst ho;obtain ⟨hs,hnf,hB,vs,rfl,hv⟩:=hI;have hls:i<done.size:=by omega
   have hund:done.getD i false=false:=by
    simp only[Array.getD_eq_getD_getElem?,Array.getElem?_eq_getElem hls,Option.getD_some] at h1 ⊢;exact h1
   have hdep:∀ k∈invDeps l[i],done.getD k false=true:=by
    intro k hk;obtain ⟨e,he,rfl⟩:=List.mem_map.1 hk;obtain ⟨he1,he2⟩:=List.mem_filter.1 he;exact h3 e (by simpa using he1) he2
   by_cases hin:i=n
   ·subst hin
    have hall:∀ k,k<i→done.getD k false=true:=fun k hk=>hdep k (hlast hlt k hk)
    refine wpOp_step h2 fun K' hK'=>?_
    refine hend hlt vs w hB (fun k hk=>hv k hk (hall k hk)) _ (invA_same fun k hk=>by rw[hall k hk,replicate_getD _ _ hk]) (fun k hk=>invA_done (hinj k hk) (hsz k hk) (hall k hk)) K' (hdd fun a' w' hq=>hK' _ _ ?_);refine wpAny_done (by simpa using hs) (fun j hj=>?_) hq c
    by_cases e:j=i
    ·subst e; simp[hls]
    ·rw[Go.getD_set_ne false (Ne.symm e)]; exact hall j (by omega)
   ·have hin':i<n:=by omega
    refine wpOp_step h2 fun K' hK'=>?_
    refine hstep i hlt hin' _ w hB (fun t ht=>invA_other ht) (fun k hk=>?_) K' (hdd fun v W' hb hΦ=>hK' _ _ ?_)
    ·have hkl:=hdag i hlt k hk
     have hd:=hdep k hk;rw[invA_done (hinj k (by omega)) (hsz k (by omega)) hd];exact hv k (by omega) hd
    ·refine ih (done.setIfInBounds i true) _ W' ⟨by simpa using hs,by rw[Go.getD_set_ne false hin]; exact hnf,hB.trans (hb.mono hB.size),fun k=>if k=i then v else vs k,invA_put (hinj i hin') hls hund v,fun k hk hd=>?_⟩ (by have:=invLeft_set hls hund; omega)
     by_cases e:k=i
     ·subst e
      simp only[if_true];exact hΦ
     ·rw[Go.getD_set_ne false (Ne.symm e)] at hd
      simp only[if_neg e];exact hmono k _ _ _ (hv k hk hd) hb
def invChkE (l:List Oper) (dst:Nat→Nat) (n m:Nat):Bool:=l.length==n+1&&((List.range n).all (fun i=>match l[i]? with
 | some o=>o.dst==some (dst i)&&(invIdx dst n (dst i)==some i&&(decide (dst i<m)&&(invDeps o).all (fun k=>decide (k<i))))
 | none=>false)&&(match l[n]? with
 | some o=>(invDeps o).all (fun k=>decide (k<n))&&(List.range n).all (fun k=>(invDeps o).contains k)
 | none=>false))
theorem wp_region_invE {id:Nat} (hm:P.follows .mixedOrders=true) (dst:Nat→Nat) (n m:Nat) (Φ:Nat→Value→World→Prop) (hsz:a0.tmps.size=m) (hchk:invChkE l dst n m=true)
  (hmono:∀ k v w w',Φ k v w→Below w.heap.size w w'→Φ k v w')
  (hstep:∀ i o,i<n→l[i]?=some o→∀ (A:Act) (W:World),Below w0.heap.size w0 W→(∀ t,invIdx dst n t=none→A.tmps.getD t undef=a0.tmps.getD t undef)→(∀ k,(invDeps o).contains k=true→Φ k (A.tmps.getD (dst k) undef) W) →
   ∀ K:Act→World→Prop,Hid (∀ v W',Below W.heap.size W W'→Φ i v W'→K (A.put (some (dst i)) v) W')→if Region.wanted o (yielded l.toArray A.tmps)=true then Oper.wp P o A W K Q else K (A.put o.dst undef) W)
  (hend:∀ o,l[n]?=some o→∀ vs W,Below w0.heap.size w0 W→(∀ k,k<n→Φ k (vs k) W)→∀ A,A=invA dst n a0 (Array.replicate n true) vs→(∀ k,k<n→A.tmps.getD (dst k) undef=vs k) →
   ∀ K:Act→World→Prop,Hid (∀ a w,Q .normal a w→K a w)→if Region.wanted o (yielded l.toArray A.tmps)=true then Oper.wp P o A W K Q else K (A.put o.dst undef) W):(Code.region id l.toArray true).wp P Q a0 w0:=by
 refine wp_region_any hm ?_;unfold invChkE at hchk;rw[Bool.and_eq_true,Bool.and_eq_true] at hchk;obtain ⟨hc1,hc2,hc3⟩:=hchk;have hn:l.length=n+1:=by simpa using hc1
 have at':∀ i (h:i<l.length),i<n→l[i].dst=some (dst i)∧invIdx dst n (dst i)=some i∧dst i<m∧∀ k∈invDeps l[i],k<i:=by
  intro i h hi;have:=List.all_eq_true.1 hc2 i (List.mem_range.2 hi);rw[List.getElem?_eq_getElem h] at this;simp only[Bool.and_eq_true,beq_iff_eq,decide_eq_true_eq,List.all_eq_true] at this;exact this
 have hnl:n<l.length:=by omega
 rw[List.getElem?_eq_getElem hnl] at hc3;simp only[Bool.and_eq_true,decide_eq_true_eq,List.all_eq_true,List.mem_range,List.contains_iff_mem] at hc3;have hnone:∀ k,(Array.replicate l.toArray.size false).getD k false=false:=fun k=>by
  simp only[Array.getD_eq_getD_getElem?]
  rcases q:(Array.replicate l.toArray.size false)[k]? with _ | b
  ·rfl
  ·obtain ⟨_,q2⟩:=Array.getElem?_eq_some_iff.1 q
   simp at q2;simp[←q2]
 refine inv_anyE (w0:=w0) (a0:=a0) hn (fun i h hi=>(at' i h hi).1) (fun i hi=>(at' i (by omega) hi).2.1) (fun i hi=>by rw[hsz]; exact (at' i (by omega) hi).2.2.1) (fun i h=>?_) (fun h k hk=>hc3.2 k hk) hmono
  (fun i h hi A W hB hA hD K hK=>hstep i l[i] hi (List.getElem?_eq_getElem h) A W hB hA (fun k hk=>hD k (by simpa using hk)) K hK) (fun h=>hend l[n] (List.getElem?_eq_getElem h)) _ _ _ _ ⟨by simp,hnone n,(Below.refl _ w0).drew,fun _=>undef,?_,fun k _ hk=>?_⟩ (by simpa using invLeft_none l.length)
 ·by_cases e:i=n
  ·subst e; exact hc3.1
  ·exact (at' i h (by omega)).2.2.2
 ·unfold invA
  rw[invL_none n _ _ hnone]
 ·rw[hnone] at hk; cases hk
end
end
section
open Go.RowKit
set_option maxRecDepth 100000
theorem MadeD.set {w W:World} {a:Option Addr} {n cap G:Nat} {r q:Int} (hb:Below w.heap.size w W) (hG:w.heap.size≤G) (hz:W.heap[G]?=some (.cells #[.bool false,.slice none 0 0,.int .i64 0,.int .i64 0] 41 (0,0))):
  MadeD w a n cap r q (.pointer (some ⟨G,0,none⟩)) ((((W.setCell ⟨G,0,none⟩ (.bool false)).setCell ⟨G,1,none⟩ (.slice a n cap)).setCell ⟨G,2,none⟩ (.int .i64 r)).setCell ⟨G,3,none⟩ (.int .i64 q)):=by
 have q1:=heap_setCell_same _ _ 0 _ _ (.bool false) hz;have q2:=heap_setCell_same _ _ 1 _ _ (.slice a n cap) q1;have q3:=heap_setCell_same _ _ 2 _ _ (.int .i64 r) q2;have q4:=heap_setCell_same _ _ 3 _ _ (.int .i64 q) q3;exact ⟨G,rfl,(((hb.setCell (p:=⟨G,0,none⟩) hG _).setCell (p:=⟨G,1,none⟩) hG _).setCell (p:=⟨G,2,none⟩) hG _).setCell (p:=⟨G,3,none⟩) hG _,hG,q4⟩
set_option maxHeartbeats 8000000 in
theorem readDeedS_any (l:List UInt8) (w:World) (hl:l.length≤4000000):
  Calls Tryz.prog 45 #[strV l] w (ReadOut l w):=by
 unfold strV
 by_cases hback:l=wordBack
 ·subst hback
  have HB:=hdd (show Below w.heap.size w (w.alloc (.cells #[.bool true,.slice none 0 0,.int .i64 0,.int .i64 0] 41)) from (Below.refl _ _).alloc (Nat.le_refl _) _);have HR:=hdd (heap_alloc_new w (.cells #[.bool true,.slice none 0 0,.int .i64 0,.int .i64 0] 41));unfold wordBack;go_enter Tryz.func45,Tryz.ntmps45;go_wp2
  ((try simp only[Exit.inBlock,Exit.then]); refine bodyPost_ret (results_cell_tmp rfl _ _ w.heap.size _ _ (0,0) _ rfl HR.out Tryz.underlying41 rfl (by kernel_rfl)) rfl ?_)
  exact ReadOut.of (d:=Dd.undo) rd_back.1 rd_back.2 (OwnI.empty _ _) HB.out
 ·have hbk:(l==[98,97,99,107])=false:=by simpa [wordBack] using hback
  obtain ⟨w1,hw1⟩:∃ z,z=w.alloc (.cells #[.bool false,.slice none 0 0,.int .i64 0,.int .i64 0] 41):=⟨_,rfl⟩
  have hb1:Below w.heap.size w w1:=by rw[hw1]; exact (Below.refl _ _).alloc (Nat.le_refl _) _
  have hR1:w1.heap[w.heap.size]?=some (.cells #[.bool false,.slice none 0 0,.int .i64 0,.int .i64 0] 41 (0,0)):=by rw[hw1]; exact heap_alloc_new w _
  have hS:Calls Tryz.prog 71 #[.string ⟨l.toArray⟩,.int .u8 32] w1 (WordsOut (words 32 l) w1):=l1Cut_any l 32 w1 hl;have HBK:=hdd hback;have HB:=hdd hb1;have HR:=hdd hR1;have HWL:=hdd (words_le 32 l);clear hback hb1 hR1;go_enter Tryz.func45,Tryz.ntmps45;go_wp2_with fail;rw[←hw1];clear hw1;refine hS.mono ?_;rintro e w2 ⟨g,cap,rfl,hc1,hc2,hcs,hg1,hg2,hb2⟩;have hb2':=HB.out.trans (hb2.mono HB.out.size);have hz2:=(hb2.block _ (Array.getElem?_eq_some_iff.1 HR.out).1).trans HR.out;obtain ⟨us,hus⟩:∃ us,us=words 32 l:=⟨_,rfl⟩
  have HUS:=hdd hus.symm;rw[←hus] at hc1 hcs HWL ⊢;clear hS hus hbk hg1 hb2 HB HR
  by_cases h4:us.length=4
  ·obtain ⟨u0,u1,u2,u3,rfl⟩:∃ a b c d,us=[a,b,c,d]:=by
    match us,h4 with
    | [a,b,c,d],_=>exact ⟨a,b,c,d,rfl⟩
   have c1:=hcs 1 (by simp);have c2:=hcs 2 (by simp);have c3:=hcs 3 (by simp);simp only[List.getElem_cons_zero,List.getElem_cons_succ,strV] at c1 c2 c3;simp only[List.length_cons,List.length_nil,Nat.zero_add,Nat.reduceAdd] at hc1 ⊢;have hl1:u1.length≤4000000:=Nat.le_trans (HWL.out u1 (by simp)) hl;have hl2:u2.length≤4000000:=Nat.le_trans (HWL.out u2 (by simp)) hl;have hl3:u3.length≤4000000:=Nat.le_trans (HWL.out u3 (by simp)) hl;have hO1:=l15Row_any u1 w2 hl1;clear hcs h4;go_wp2_with fail;refine hO1.mono ?_;rintro e w3 ⟨a1,k1,rfl,ho1,hb3⟩;have HS2:=hdd hb2'.size;have HB3:=hdd (hb2'.trans (hb3.mono hb2'.size));have HZ3:=hdd ((hb3.block _ (Array.getElem?_eq_some_iff.1 hz2).1).trans hz2);have hg3:=(Nat.lt_of_lt_of_le hg2 hb3.size)
   have q2:=(hb3.cell hg2).trans c2;have q3:=(hb3.cell hg2).trans c3;have HX1:=hdd (ho1.mono (B':=w.heap.size) HS2.out);have HROW:=hdd (fun h=>read_row (l:=l) HBK.out (u0:=u0) HUS.out h);have HI:=hdd (read_spec (l:=l) HBK.out HUS.out);have HN2:=hdd (fun W:World=>l1Digits_any u2 W hl2);have HN3:=hdd (fun W:World=>l1Digits_any u3 W hl3);have HIN:=hdd (rowX_in u1);obtain ⟨xs,hxs⟩:∃ xs,xs=rowX u1:=⟨_,rfl⟩
   obtain ⟨r,hr⟩:∃ r,r=numL u2:=⟨_,rfl⟩
   obtain ⟨n,hn⟩:∃ n,n=numL u3:=⟨_,rfl⟩
   obtain ⟨o,ho⟩:∃ o,o=rowB u1:=⟨_,rfl⟩
   rw[←hxs] at HX1 HI HIN ⊢;rw[←hr] at HN2 HI;rw[←hn] at HN3 HI;rw[←ho] at HROW ⊢;clear hO1 ho1 hb3 c1 c2 c3 hb2' hz2 hg2 hl1 hl2 hl3 hxs hr hn ho;go_upto_region 7 with fail;go_cut [7] (fun s wx=>MadeD w3 a1 xs.length k1 r n s wx)
   case first=>
    unfold strV at HN2 HN3;refine wp_region_invE (by kernel_rfl) (fun k=>(#[24,25,26,27,28,29,30,31,32,33,34,7]:Array Nat).getD k 0) 12 45
     (fun k v W=>match k with
      | 0=>v=Value.slice a1 xs.length k1
      | 1=>v=Value.slice (some ⟨g,0,none⟩) 4 cap
      | 2=>v=Value.pointer (some ⟨g,2,none⟩)
      | 3=>v=Value.string ⟨u2.toArray⟩
      | 4=>v=Value.int .i64 r
      | 5=>v=Value.slice (some ⟨g,0,none⟩) 4 cap
      | 6=>v=Value.pointer (some ⟨g,3,none⟩)
      | 7=>v=Value.string ⟨u3.toArray⟩
      | 8=>v=Value.int .i64 n
      | 9=>v=Value.agg #[Value.slice a1 xs.length k1,.int .i64 r,.int .i64 n]
      | 10=>v=Value.agg #[.bool false,Value.slice a1 xs.length k1,.int .i64 r,.int .i64 n]
      | 11=>∃ G,v=.pointer (some ⟨G,0,none⟩)∧w3.heap.size≤G∧W.heap[G]?=some (.cells #[.bool false,.slice none 0 0,.int .i64 0,.int .i64 0] 41 (0,0))
      | _=>False) rfl (by kernel_rfl) ?mono ?step ?fin
    case mono=>
     intro k v W W' h hb
     match k,h with
     | 0,h=>exact h
     | 1,h=>exact h
     | 2,h=>exact h
     | 3,h=>exact h
     | 4,h=>exact h
     | 5,h=>exact h
     | 6,h=>exact h
     | 7,h=>exact h
     | 8,h=>exact h
     | 9,h=>exact h
     | 10,h=>exact h
     | 11,h=>(obtain ⟨G,h1,h2,h3⟩:=h; exact ⟨G,h1,h2,(hb.block _ (Array.getElem?_eq_some_iff.1 h3).1).trans h3⟩)
    case step=>
     intro i o hi ho A W hW hA hD K hK
     match i,ho with
     | 0,ho=>
      obtain rfl:=Option.some.inj ho;have e5:A.tmps.getD 5 undef=Value.slice a1 xs.length k1:=(hA 5 (by kernel_rfl)).trans rfl;have e5':=gDq e5;have e4:A.tmps.getD 4 undef=Value.slice (some ⟨g,0,none⟩) 4 cap:=(hA 4 (by kernel_rfl)).trans rfl;have e4':=gDq e4;have HK:=hdd (show ∀ v W',Below W.heap.size W W'→(v=Value.slice a1 xs.length k1)→K (A.put (some 24) v) W' from hK.out);clear hA hD hK;go_simp;exact HK.out _ _ (Below.refl _ _) rfl
     | 1,ho=>
      obtain rfl:=Option.some.inj ho;have e5:A.tmps.getD 5 undef=Value.slice a1 xs.length k1:=(hA 5 (by kernel_rfl)).trans rfl;have e5':=gDq e5;have e4:A.tmps.getD 4 undef=Value.slice (some ⟨g,0,none⟩) 4 cap:=(hA 4 (by kernel_rfl)).trans rfl;have e4':=gDq e4;have HK:=hdd (show ∀ v W',Below W.heap.size W W'→(v=Value.slice (some ⟨g,0,none⟩) 4 cap)→K (A.put (some 25) v) W' from hK.out);clear hA hD hK;go_simp;exact HK.out _ _ (Below.refl _ _) rfl
     | 2,ho=>
      obtain rfl:=Option.some.inj ho;have e5:A.tmps.getD 5 undef=Value.slice a1 xs.length k1:=(hA 5 (by kernel_rfl)).trans rfl;have e5':=gDq e5;have e4:A.tmps.getD 4 undef=Value.slice (some ⟨g,0,none⟩) 4 cap:=(hA 4 (by kernel_rfl)).trans rfl;have e4':=gDq e4;have d1:A.tmps.getD 25 undef=Value.slice (some ⟨g,0,none⟩) 4 cap:=hD 1 (by kernel_rfl);have d1':=gDq d1;have HK:=hdd (show ∀ v W',Below W.heap.size W W'→(v=Value.pointer (some ⟨g,2,none⟩))→K (A.put (some 26) v) W' from hK.out);clear hA hD hK;go_simp;exact HK.out _ _ (Below.refl _ _) rfl
     | 3,ho=>
      obtain rfl:=Option.some.inj ho;have e5:A.tmps.getD 5 undef=Value.slice a1 xs.length k1:=(hA 5 (by kernel_rfl)).trans rfl;have e5':=gDq e5;have e4:A.tmps.getD 4 undef=Value.slice (some ⟨g,0,none⟩) 4 cap:=(hA 4 (by kernel_rfl)).trans rfl;have e4':=gDq e4;have d2:A.tmps.getD 26 undef=Value.pointer (some ⟨g,2,none⟩):=hD 2 (by kernel_rfl);have d2':=gDq d2;have HK:=hdd (show ∀ v W',Below W.heap.size W W'→(v=Value.string ⟨u2.toArray⟩)→K (A.put (some 27) v) W' from hK.out);have hcc:=(hW.cell hg3).trans q2;clear hA hD hK;go_simp;exact HK.out _ _ (Below.refl _ _) rfl
     | 4,ho=>
      obtain rfl:=Option.some.inj ho;have e5:A.tmps.getD 5 undef=Value.slice a1 xs.length k1:=(hA 5 (by kernel_rfl)).trans rfl;have e5':=gDq e5;have e4:A.tmps.getD 4 undef=Value.slice (some ⟨g,0,none⟩) 4 cap:=(hA 4 (by kernel_rfl)).trans rfl;have e4':=gDq e4;have d3:A.tmps.getD 27 undef=Value.string ⟨u2.toArray⟩:=hD 3 (by kernel_rfl);have d3':=gDq d3;have HK:=hdd (show ∀ v W',Below W.heap.size W W'→(v=Value.int .i64 r)→K (A.put (some 28) v) W' from hK.out);clear hA hD hK;go_simp;refine (HN2.out W).mono ?_;rintro e W' ⟨rfl,rfl⟩;exact HK.out _ _ (Below.refl _ _) rfl
     | 5,ho=>
      obtain rfl:=Option.some.inj ho;have e5:A.tmps.getD 5 undef=Value.slice a1 xs.length k1:=(hA 5 (by kernel_rfl)).trans rfl;have e5':=gDq e5;have e4:A.tmps.getD 4 undef=Value.slice (some ⟨g,0,none⟩) 4 cap:=(hA 4 (by kernel_rfl)).trans rfl;have e4':=gDq e4;have HK:=hdd (show ∀ v W',Below W.heap.size W W'→(v=Value.slice (some ⟨g,0,none⟩) 4 cap)→K (A.put (some 29) v) W' from hK.out);clear hA hD hK;go_simp;exact HK.out _ _ (Below.refl _ _) rfl
     | 6,ho=>
      obtain rfl:=Option.some.inj ho;have e5:A.tmps.getD 5 undef=Value.slice a1 xs.length k1:=(hA 5 (by kernel_rfl)).trans rfl;have e5':=gDq e5;have e4:A.tmps.getD 4 undef=Value.slice (some ⟨g,0,none⟩) 4 cap:=(hA 4 (by kernel_rfl)).trans rfl;have e4':=gDq e4;have d5:A.tmps.getD 29 undef=Value.slice (some ⟨g,0,none⟩) 4 cap:=hD 5 (by kernel_rfl);have d5':=gDq d5;have HK:=hdd (show ∀ v W',Below W.heap.size W W'→(v=Value.pointer (some ⟨g,3,none⟩))→K (A.put (some 30) v) W' from hK.out);clear hA hD hK;go_simp;exact HK.out _ _ (Below.refl _ _) rfl
     | 7,ho=>
      obtain rfl:=Option.some.inj ho;have e5:A.tmps.getD 5 undef=Value.slice a1 xs.length k1:=(hA 5 (by kernel_rfl)).trans rfl;have e5':=gDq e5;have e4:A.tmps.getD 4 undef=Value.slice (some ⟨g,0,none⟩) 4 cap:=(hA 4 (by kernel_rfl)).trans rfl;have e4':=gDq e4;have d6:A.tmps.getD 30 undef=Value.pointer (some ⟨g,3,none⟩):=hD 6 (by kernel_rfl);have d6':=gDq d6;have HK:=hdd (show ∀ v W',Below W.heap.size W W'→(v=Value.string ⟨u3.toArray⟩)→K (A.put (some 31) v) W' from hK.out);have hcc:=(hW.cell hg3).trans q3;clear hA hD hK;go_simp;exact HK.out _ _ (Below.refl _ _) rfl
     | 8,ho=>
      obtain rfl:=Option.some.inj ho;have e5:A.tmps.getD 5 undef=Value.slice a1 xs.length k1:=(hA 5 (by kernel_rfl)).trans rfl;have e5':=gDq e5;have e4:A.tmps.getD 4 undef=Value.slice (some ⟨g,0,none⟩) 4 cap:=(hA 4 (by kernel_rfl)).trans rfl;have e4':=gDq e4;have d7:A.tmps.getD 31 undef=Value.string ⟨u3.toArray⟩:=hD 7 (by kernel_rfl);have d7':=gDq d7;have HK:=hdd (show ∀ v W',Below W.heap.size W W'→(v=Value.int .i64 n)→K (A.put (some 32) v) W' from hK.out);clear hA hD hK;go_simp;refine (HN3.out W).mono ?_;rintro e W' ⟨rfl,rfl⟩;exact HK.out _ _ (Below.refl _ _) rfl
     | 9,ho=>
      obtain rfl:=Option.some.inj ho;have e5:A.tmps.getD 5 undef=Value.slice a1 xs.length k1:=(hA 5 (by kernel_rfl)).trans rfl;have e5':=gDq e5;have e4:A.tmps.getD 4 undef=Value.slice (some ⟨g,0,none⟩) 4 cap:=(hA 4 (by kernel_rfl)).trans rfl;have e4':=gDq e4;have d0:A.tmps.getD 24 undef=Value.slice a1 xs.length k1:=hD 0 (by kernel_rfl);have d0':=gDq d0;have d4:A.tmps.getD 28 undef=Value.int .i64 r:=hD 4 (by kernel_rfl);have d4':=gDq d4;have d8:A.tmps.getD 32 undef=Value.int .i64 n:=hD 8 (by kernel_rfl);have d8':=gDq d8;have HK:=hdd (show ∀ v W',Below W.heap.size W W'→(v=Value.agg #[Value.slice a1 xs.length k1,.int .i64 r,.int .i64 n])→K (A.put (some 33) v) W' from hK.out);clear hA hD hK;go_simp;exact HK.out _ _ (Below.refl _ _) rfl
     | 10,ho=>
      obtain rfl:=Option.some.inj ho;have e5:A.tmps.getD 5 undef=Value.slice a1 xs.length k1:=(hA 5 (by kernel_rfl)).trans rfl;have e5':=gDq e5;have e4:A.tmps.getD 4 undef=Value.slice (some ⟨g,0,none⟩) 4 cap:=(hA 4 (by kernel_rfl)).trans rfl;have e4':=gDq e4;have d9:A.tmps.getD 33 undef=Value.agg #[Value.slice a1 xs.length k1,.int .i64 r,.int .i64 n]:=hD 9 (by kernel_rfl);have d9':=gDq d9;have HK:=hdd (show ∀ v W',Below W.heap.size W W'→(v=Value.agg #[.bool false,Value.slice a1 xs.length k1,.int .i64 r,.int .i64 n])→K (A.put (some 34) v) W' from hK.out);clear hA hD hK;go_simp;exact HK.out _ _ (Below.refl _ _) rfl
     | 11,ho=>
      obtain rfl:=Option.some.inj ho;have e5:A.tmps.getD 5 undef=Value.slice a1 xs.length k1:=(hA 5 (by kernel_rfl)).trans rfl;have e5':=gDq e5;have e4:A.tmps.getD 4 undef=Value.slice (some ⟨g,0,none⟩) 4 cap:=(hA 4 (by kernel_rfl)).trans rfl;have e4':=gDq e4;have HK:=hdd (show ∀ v W',Below W.heap.size W W'→(∃ G,v=.pointer (some ⟨G,0,none⟩)∧w3.heap.size≤G∧W'.heap[G]?=some (.cells #[.bool false,.slice none 0 0,.int .i64 0,.int .i64 0] 41 (0,0)))→K (A.put (some 7) v) W' from hK.out);have hsz:=hW.size;clear hA hD hK;go_simp;exact HK.out _ _ ((Below.refl _ _).alloc (Nat.le_refl _) _) ⟨_,rfl,hsz,heap_alloc_new W _⟩
     | n+12,ho=>
      exact absurd hi (by omega)
    case fin=>
     intro o ho vs W hW h A hAe hV K hK;obtain rfl:=Option.some.inj ho;have h10:vs 10=Value.agg #[.bool false,Value.slice a1 xs.length k1,.int .i64 r,.int .i64 n]:=h 10 (by decide);obtain ⟨G,h11,hG,hrow⟩:=(show ∃ G,vs 11=.pointer (some ⟨G,0,none⟩)∧w3.heap.size≤G∧W.heap[G]?=some (.cells #[.bool false,.slice none 0 0,.int .i64 0,.int .i64 0] 41 (0,0)) from h 11 (by decide))
     have d10:A.tmps.getD 34 undef=Value.agg #[.bool false,Value.slice a1 xs.length k1,.int .i64 r,.int .i64 n]:=(hV 10 (by decide)).trans h10;have d10':=gDq d10;have d11:A.tmps.getD 7 undef=.pointer (some ⟨G,0,none⟩):=(hV 11 (by decide)).trans h11;have d11':=gDq d11;obtain ⟨z0,z1,z2,z3,zf⟩:=box_zero hrow;have HM:=hdd (MadeD.set (a:=a1) (n:=xs.length) (cap:=k1) (r:=r) (q:=n) hW hG hrow);have HK:=hK;have HAE:=hdd hAe;have H11:=hdd h11;clear h h10 h11 hrow hK hW hG hV hAe;go_simp;refine HK.out _ _ ?_;rw[HAE.out,invA_lit [none,none,none,none,none,none,none,some 11,none,none,none,none,none,none,none,none,none,none,none,none,none,none,none,none,some 0,some 1,some 2,some 3,some 4,some 5,some 6,some 7,some 8,some 9,some 10,none,none,none,none,none,none,none,none,none,none] (by kernel_rfl) rfl];simp only[List.zipWith_cons_cons,List.zipWith_nil_left];rw[H11.out];go_wp2_with fail;go_meet;exact HM.out
   case rest=>
    obtain ⟨G,rfl,hb6,hG,hat⟩:=hcut;obtain ⟨w6,rfl⟩:∃ z,z=wc:=⟨_,rfl⟩
    have HB6:=hdd (HB3.out.trans (hb6.mono HB3.out.size));have HZ6:=hdd ((hb6.block _ (Array.getElem?_eq_some_iff.1 HZ3.out).1).trans HZ3.out);have HX6:=hdd (HX1.out.below hb6);have HAT:=hdd hat
    cases o
    ·have HF:=hdd (box_none (HROW.out (.inl rfl)) HZ6.out HB6.out)
     obtain ⟨z0,z1,z2,z3,zf⟩:=box_zero HZ6.out;clear hb6 hat q2 q3;go_wp2
     ((try simp only[Exit.inBlock,Exit.then]); refine bodyPost_ret (results_cell_tmp rfl _ _ w.heap.size _ _ (0,0) _ rfl HF.out.2 Tryz.underlying41 rfl (by kernel_rfl)) rfl ?_)
     exact HF.out.1
    ·have hT:=deedTextS_any false _ xs r n w6 (HX6.out.toInts HIN.out)
     obtain ⟨y0,y1,y2,y3⟩:=deed_cells hat;unfold TextOut strV at hT;obtain ⟨T,hTT⟩:∃ T,T=textD ⟨false,xs,r,n⟩:=⟨_,rfl⟩
     rw[←hTT] at HI hT;clear hb6 hat q2 q3 hTT HX1 HZ3 HB3 HIN HROW HN2 HN3;unfold dV at hT;go_wp2_with fail;refine hT.mono ?_;rintro e w7 ⟨rfl,hb7⟩;have HB7:=hdd (HB6.out.trans (hb7.mono HB6.out.size));have HZ7:=hdd ((hb7.block _ (Array.getElem?_eq_some_iff.1 HZ6.out).1).trans HZ6.out);have HX7:=hdd (HX6.out.below hb7);obtain ⟨y0,y1,y2,y3⟩:=deed_cells ((hb7.block _ (Array.getElem?_eq_some_iff.1 HAT.out).1).trans HAT.out);obtain ⟨z0,z1,z2,z3,zf⟩:=box_zero HZ7.out;clear hT hb7
     by_cases hTl:T=l
     ·have hr:=HI.out
      rw[if_pos hTl] at hr;have HF:=hdd (box_out (d:=⟨false,xs,r,n⟩) (rd_some hr).1 (rd_some hr).2 HZ7.out HB7.out HX7.out);have hq:(T==l)=true:=by simp[hTl]
      clear hTl hr;go_wp2
      ((try simp only[Exit.inBlock,Exit.then]); refine bodyPost_ret (results_cell_tmp rfl _ _ w.heap.size _ _ (0,0) _ rfl HF.out.2 Tryz.underlying41 rfl (by kernel_rfl)) rfl ?_)
      exact HF.out.1
     ·have hr:=HI.out
      rw[if_neg hTl] at hr;have HF:=hdd (box_none hr HZ7.out HB7.out);have hq:(T==l)=false:=by simpa using hTl
      clear hTl hr;go_wp2
      ((try simp only[Exit.inBlock,Exit.then]); refine bodyPost_ret (results_cell_tmp rfl _ _ w.heap.size _ _ (0,0) _ rfl HF.out.2 Tryz.underlying41 rfl (by kernel_rfl)) rfl ?_)
      exact HF.out.1
  ·have h4':¬((us.length:Int)=4):=by omega
   have HF:=hdd (box_none (l:=l) (read_len HBK.out (by rw[HUS.out]; exact h4)) hz2 hb2');obtain ⟨z0,z1,z2,z3,zf⟩:=box_zero hz2;clear hz2 hb2' h4 hcs;go_wp2
   ((try simp only[Exit.inBlock,Exit.then]); refine bodyPost_ret (results_cell_tmp rfl _ _ w.heap.size _ _ (0,0) _ rfl HF.out.2 Tryz.underlying41 rfl (by kernel_rfl)) rfl ?_)
   exact HF.out.1
end
end Go.Proofs.YtenlngclocfnlaaGreatDoor
