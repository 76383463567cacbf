/- Texts of this claim, put together: LeftLaw, HuntMem, HuntImpl. -/
import Derived.Test.YtenlngclocfnlaaGreatDoorPdH
import Derived.Test.YtenlngclocfnlaaGreatDoorPdA
import Derived.Deep.Cut
import Derived.Deep.CutBlock
import Derived.Deep.RegionWith
import Derived.Test.YtenlngclocfnlaaGreatDoorPdS
import Derived.BigQuiet
import Derived.Maps.OwnSet
import Derived.Maps.OwnOps
import Derived.ArgAppend
import Derived.Test.YtenlngclocfnlaaGreatDoorPdE
import Derived.Deep.LoopGhost
import Derived.Test.YtenlngclocfnlaaGreatDoorPdGD
namespace Go.Proofs.YtenlngclocfnlaaGreatDoor
set_option linter.unusedVariables false
section
open Go.RowKit
theorem wpList_push_ints (w:World) {ops:Array Oper} {rest:List Oper} {o:Oper} {a:Act} {Q:Exit→Act→World→Prop}
  (hg:o.guard=none) (s x:Operand) (hop:o.op=Op.call { callee:=Callee.builtin Builtin.append,args:=#[s,x],argTypes:=#[37,37] })
  (B:Nat) (v:Value) (xs:List Int) (hs:a.eval s=v) (hown:OwnI B w v xs) (ad:Addr) (c:Nat) (ys:List Int) (hx:a.eval x=.slice (some ad) ys.length c) (hc:∀ i (h:i<ys.length),w.cell? (ad.add i)=some (.int .i64 ys[i]))
  (hlen:xs.length+ys.length≤1099511627776) (hB:B≤w.heap.size)
  (hK:∀ a' cap' w',OwnI B w' (.slice a' (xs.length+ys.length) cap') (xs++ys)→w.grownBy w' v.ownBlock→wpList Tryz.prog ops Q rest (a.put o.dst (.slice a' (xs.length+ys.length) cap')) w'):
  wpList Tryz.prog ops Q (o::rest) a w:=by
 obtain ⟨i0,hi,hz0,hz1,hz2⟩:=info_parts infoInt;refine wpList_append_own w hg s x 37 hop B 3 i0 (.int .i64 0) 1 8 Tryz.underlying37 hi hz0 hz1 hz2 rfl (by decide) v xs.length (ints xs) hs hown ad ys.length c (ints ys) hx (by simp) ?_ (by intro u hu; obtain ⟨y,_,rfl⟩:=List.mem_map.1 hu; simp[Value.oneCell']) (by unfold maxLen; omega) (by omega) hB ?_
 ·intro j u hj
  have hlt:j<ys.length:=by
   have:=(List.getElem?_eq_some_iff.1 hj).1
   simpa using this
  have:(ints ys)[j]?=some (.int .i64 ys[j]):=by rw[List.getElem?_eq_getElem (by simpa using hlt)]; simp
  rw[this] at hj;obtain rfl:=Option.some.inj hj;exact hc j hlt
 ·intro v' w' h1 h2 _
  obtain ⟨a',cap',rfl,_⟩:=own_shape h1;refine hK a' cap' w' ?_ h2;unfold OwnI;rw[ints_append]
  simpa [ints] using h1
end
section
open Go.RowKit Go.Maps
theorem keyLaw:Keyed Tryz.prog 3:=int_keyed Tryz.underlying3
theorem zeroInts (w:World):(zeroValue 37).run Tryz.prog w=.ok (.slice none 0 0) w:=by kernel_rfl
def heldR:Value→Option (DataW Value×List MemPlace):=fun v=>some (.held v,[])
def keyL (s:Nat):Lit:=.int .i64 s
theorem keyOf_keyL {s:Nat} (hs:s<64):keyOf Tryz.prog 3 (.int .i64 s)=some (keyL s):=keyOf_int_mk Tryz.underlying3 (WalkArith.wf_i64 (by omega))
theorem keyL_key {s:Nat} (hs:s<64):WideAt.IsKeyLit (keyL s):=keyLaw.key (keyOf_keyL hs)
theorem keyL_ne {s t:Nat} (h:s≠t):keyL s≠keyL t:=fun e=>h (by unfold keyL at e; injection e with _ e; omega)
def MapIs (xss:List (List Int)) (D:DataW Value) (L:List (List Nat)) (Vs:Nat→Value):Prop:=
 (∀ t,t<L.length→D.atKey (keyL (run0 xss (nth L t))) (.held (.slice none 0 0))=.held (Vs t)) ∧
 ∀ s,s<64→(Maps.has D (keyL s)=true↔∃ t,t<L.length∧run0 xss (nth L t)=s)
theorem run0_lt64 {xss:List (List Int)} (hn:xss.length≤6) (w:List Nat):run0 xss w<64:=
 pow_64 hn (runF_lt (full_lt xss) w)
theorem MapIs.put {xss:List (List Int)} {D:DataW Value} {L:List (List Nat)} {Vs:Nat→Value} (hn:xss.length≤6) (hD:IsMap D) (h:MapIs xss D L Vs) {x:List Nat} (hx:∀ t,t<L.length→run0 xss (nth L t)≠run0 xss x) (v:Value):
  MapIs xss (D.put (keyL (run0 xss x)) (.held v)) (L++[x]) (fun t=>if t=L.length then v else Vs t):=by
 have hk:=keyL_key (run0_lt64 hn x);refine ⟨fun t ht=>?_,fun s hs=>?_⟩
 ·by_cases e:t=L.length
  ·subst e
   rw[nth_new,show (fun t=>if t=L.length then v else Vs t) L.length=v from if_pos rfl];exact atKey_put_same hD hk _ _
  ·have ht':t<L.length:=by simp at ht; omega
   rw[nth_old ht',show (fun t=>if t=L.length then v else Vs t) t=Vs t from if_neg e,atKey_put_other (keyL_ne (hx t ht'))];exact h.1 t ht'
 ·by_cases e:s=run0 xss x
  ·subst e
   rw[has_put_same hD hk];simp only[true_iff];exact ⟨L.length,by simp,by rw[nth_new]⟩
  ·rw[has_put_other (keyL_ne e),h.2 s hs]
   constructor
   ·rintro ⟨t,ht,hr⟩
    exact ⟨t,by simp; omega,by rw[nth_old ht]; exact hr⟩
   ·rintro ⟨t,ht,hr⟩
    by_cases e2:t=L.length
    ·subst e2; rw[nth_new] at hr; exact absurd hr.symm e
    ·have ht':t<L.length:=by simp at ht; omega
     exact ⟨t,ht',by rw[nth_old ht'] at hr; exact hr⟩
def QueueW (B:Nat) (w:World) (qv:Value) (xs:List Int):Prop:=
 ∃ gq off c ps,qv=.slice (some ⟨gq,off,none⟩) xs.length c∧ps.length=off∧OwnI B w (.slice (some ⟨gq,0,none⟩) (off+xs.length) (off+c)) (ps++xs)
theorem QueueW.head {B:Nat} {w:World} {qv:Value} {x:Int} {xs:List Int} (h:QueueW B w qv (x::xs)):
  ∃ gq off c,qv=.slice (some ⟨gq,off,none⟩) (xs.length+1) c∧B≤gq∧xs.length+1≤c∧off+c≤9223372036854775807∧w.cell? ⟨gq,off,none⟩=some (.int .i64 x) ∧
   QueueW B w (.slice (some ⟨gq,off+1,none⟩) xs.length (c-1)) xs:=by
 obtain ⟨gq,off,c,ps,rfl,hp,ho⟩:=h;have hc:=(ho.cellD off (by simp; omega)).1;rw[getD_get (by simp; omega)] at hc;have e:(ps++x::xs)[off]'(by simp; omega)=x:=by simp[←hp]
 rw[e] at hc;obtain ⟨a,cap,he,h1,h2⟩:=own_shape ho;injection he with _ _ e3;subst e3;unfold maxLen at h2;rw[List.length_append,hp,List.length_cons] at h1;have hB:B≤gq:=(World.ownsRow.lt ho gq rfl).1;refine ⟨gq,off,c,rfl,hB,by omega,by omega,hc,⟨gq,off+1,c-1,ps++[x],rfl,by simp[hp],?_⟩⟩;have e1:off+1+xs.length=off+(x::xs).length:=by simp; omega
 have e2:off+1+(c-1)=off+c:=by omega
 rw[e1,e2]
 simpa using ho
theorem OwnI.room {B:Nat} {w:World} {g n cap:Nat} {xs:List Int} (h:OwnI B w (.slice (some ⟨g,0,none⟩) n cap) xs) (hl:xs.length=n) (hn:n<cap) (u:Int):
  OwnI B (w.setCell ⟨g,n,none⟩ (.int .i64 u)) (.slice (some ⟨g,0,none⟩) (n+1) cap) (xs++[u]):=by
 subst hl
 rcases h.2 with ⟨h',_⟩ | ⟨g',cap',cur,h',hb,hg,hnc,hcm,hcs,htake⟩
 ·simp at h'
 ·injection h' with h1 _ h3
  injection h1 with h1;injection h1 with h1 _ _;subst h1 h3;have hsz:cur.toList.length=cap:=by simpa using hcs
  refine ⟨by simp,.inr ⟨g,cap,cur.setIfInBounds xs.length (.int .i64 u),by simp,hb,heap_setCell_same w g xs.length cur _ _ hg,by simp; omega,hcm,by simpa using hcs,?_⟩⟩;rw[ints_append,←htake,Array.toList_setIfInBounds];have hlt:xs.length<cur.toList.length:=by omega
  have e1:(xs++[u]).length*1=xs.length+1:=by simp
  have e2:xs.length*1=xs.length:=by simp
  rw[e1,e2,List.take_succ_eq_append_getElem (by simpa using hlt),List.getElem_set_self,List.take_set_of_le (Nat.le_refl _)]
  rfl
set_option maxRecDepth 100000 in
theorem wpList_push_queue (w:World) {ops:Array Oper} {rest:List Oper} {o:Oper} {a:Act} {Q:Exit→Act→World→Prop}
  (hg:o.guard=none) (s x:Operand) (hop:o.op=Op.call { callee:=Callee.builtin Builtin.append,args:=#[s,x],argTypes:=#[37,37] })
  (B:Nat) (qv:Value) (xs:List Int) (hs:a.eval s=qv) (h:QueueW B w qv xs) (ad:Addr) (c0:Nat) (n:Int) (hx:a.eval x=.slice (some ad) 1 c0) (hc:w.cell? ad=some (.int .i64 n))
  (hlen:xs.length≤1000000) (hB:B≤w.heap.size)
  (hK:∀ a' c' w',QueueW B w' (.slice a' (xs.length+1) c') (xs++[n])→w.grownBy w' qv.ownBlock→((Value.slice a' (xs.length+1) c').ownBlock=qv.ownBlock∨∃ g,(Value.slice a' (xs.length+1) c').ownBlock=some g∧w.heap.size≤g) →
   wpList Tryz.prog ops Q rest (a.put o.dst (.slice a' (xs.length+1) c')) w'):
  wpList Tryz.prog ops Q (o::rest) a w:=by
 obtain ⟨gq,off,c,ps,rfl,hp,ho⟩:=h;obtain ⟨i0,hi,hz0,hz1,hz2⟩:=info_parts infoInt;have hpl:(ps++xs).length=off+xs.length:=by simp[hp]
 refine wpList_append_arg w hg s x 37 hop 3 i0 (.int .i64 0) 1 8 Tryz.underlying37 hi hz0 hz1 hz2 rfl (by decide) gq off xs.length c (ints xs) hs (by simp) ?_ ad 1 c0 [.int .i64 n] hx rfl ?_ (by simp[Value.oneCell']) ?_ (by unfold maxLen; omega) (by omega) ?_ ?_
 ·intro j u hj
  have hlt:j<xs.length:=by
   have:=(List.getElem?_eq_some_iff.1 hj).1
   simpa using this
  have:(ints xs)[j]?=some (.int .i64 xs[j]):=by rw[List.getElem?_eq_getElem (by simpa using hlt)]; simp
  rw[this] at hj;obtain rfl:=Option.some.inj hj;have hcd:=(ho.cellD (off+j) (by omega)).1;rw[getD_get (by omega)] at hcd;rw[hcd]
  congr 2
  rw[List.getElem_append_right (by omega)]
  congr 1
  omega
 ·intro j u hj
  match j,hj with
  | 0,hj=>simp at hj; subst hj; simpa [Addr.add] using hc
 ·intro hr j hj
  have hj0:j=0:=by simpa using hj
  subst hj0;have ho9:=ho;unfold OwnI at ho9;rw[hpl] at ho9;refine ⟨?_,World.ownsRow.frozenAt ho9 _⟩
  rcases ho.2 with ⟨h',_⟩ | ⟨g',cap',cur,h',hb,hgg,hnc,hcm,hcs,htake⟩
  ·simp at h'
  ·injection h' with h1 _ h3
   injection h1 with h1;injection h1 with h1 _ _;subst h1 h3;rw[cell_of_row w gq _ cur _ (0,0) hgg,Array.getElem?_eq_getElem (by omega)]
   rfl
 ·intro hr
  have hrm:=ho.room hpl (by omega) n;refine hK (some ⟨gq,off,none⟩) c _ ⟨gq,off,c,ps,by simp,hp,?_⟩ ?_ (.inl rfl)
  ·simp only[World.setCells,Nat.mul_one,List.length_append,List.length_singleton]
   rw[List.append_assoc] at hrm;rw[←Nat.add_assoc];exact hrm
  ·simp only[World.setCells,Nat.mul_one]
   exact grownBy_setCell w ⟨gq,off+xs.length,none⟩ (.int .i64 n)
 ·intro hr v' w' hown hgr
  obtain ⟨a',cap',rfl,_⟩:=own_shape hown;obtain ⟨g',cap2,he,hgB,_⟩:=own_head hown (by omega);injection he with e1 _ e3;subst e1 e3;refine hK (some ⟨g',0,none⟩) cap' w' ⟨g',0,cap',[],by simp,rfl,?_⟩ ⟨hgr.os,hgr.tape,hgr.output,hgr.size,fun k hk _=>hgr.block k hk (by simp)⟩ (.inr ⟨g',rfl,hgB⟩);have h9:=owns_mono hown hB;unfold OwnI;simp only[List.nil_append,Nat.zero_add,List.length_append,List.length_singleton];rw[ints_append];exact h9
end
section
open Go.RowKit Go.Maps
set_option maxRecDepth 100000
theorem run_eql_slice_nil (w:World) (t e:TypeId) (a:Option Addr) (l c:Nat) (h:Tryz.prog.underlying t=some (.slice e)):(binOp .eql t (.slice a l c) (.slice none 0 0)).run Tryz.prog w=.ok (.bool a.isNone) w:=by
 simp only[binOp];simp[run_equal_slice_nil w t e a l c h]
theorem clone_any {B:Nat} (ad:Addr) (xs:List Int) (cap:Nat) (w:World) (h:Ints B w (.slice (some ad) xs.length cap) xs) (hl:xs.length≤100000):
  Calls Tryz.prog 131 #[.slice (some ad) xs.length cap] w (FreshI xs w):=by
 obtain ⟨a',c',he,_,_,hyc⟩:=h.opened;injection he with e1 _ e3;subst e1 e3;have hlit:=OwnI.lit w;have hcells:∀ i (h:i<xs.length),(w.alloc (.cells #[] 3)).cell? (ad.add i)=some (.int .i64 xs[i]):=fun i hi=>by
  obtain ⟨b,off,hh,_,hc⟩:=hyc (by omega);injection hh with hh;subst hh;have hci:=hc i hi;have e:(⟨b,off,none⟩:Addr).add i=⟨b,off+i,none⟩:=by
   by_cases h0:i=0
   ·subst h0; simp[Addr.add]
   ·simp[Addr.add,h0]
  rw[e,World.cell?_of_block (w:=w) (Below.heap_alloc w _ b (World.block_lt_of_cell? w _ hci))];exact hci
 clear hyc h;have hund:=Tryz.underlying37;have hnil:=fun (W:World)=>run_eql_slice_nil W 37 3 (some ad) xs.length cap hund
 go_enter Tryz.func131,Tryz.ntmps131;go_wp2_with (at_builtin; refine wpList_push_ints _ rfl (.tmp 5) (.tmp 6) rfl w.heap.size (.slice (some ⟨w.heap.size,0,none⟩) 0 0) [] rfl hlit ad cap xs rfl hcells (by simp; omega) (by simp) ?_; intro a4 c4 w4 ho4 hg4; rw[List.nil_append] at ho4; (try rw[List.length_nil,Nat.zero_add] at ho4); (try rw[List.length_nil,Nat.zero_add]); have HO4:=hdd ho4; have HG4:=hdd hg4; clear ho4 hg4);go_ret;exact ⟨a4,c4,rfl,HO4.out,((Below.refl w.heap.size w).alloc (Nat.le_refl _) _).grown HG4.out (by simp <;> omega) (fun j hj=>by cases hj; exact Nat.le_refl _)⟩
theorem nodup_le:∀ (n:Nat) (l:List Nat),l.Nodup→(∀ x∈l,x<n)→l.length≤n:=by
 intro n
 induction n with
 | zero=>
  intro l _ h
  cases l with
  | nil=>simp
  | cons x l=>exact absurd (h x List.mem_cons_self) (by omega)
 | succ n ih=>
  intro l hd h
  by_cases hm:n∈l
  ·have h1:=ih (l.erase n) (hd.erase n) (fun x hx=>by
    have h2:=(hd.mem_erase_iff).1 hx;have:=h x h2.2;have:=h2.1;omega)
   have h2:=List.length_erase_of_mem hm;have h3:0<l.length:=List.length_pos_of_mem hm;omega
  ·have h1:=ih l hd (fun x hx=>by
    have:=h x hx;have:x≠n:=fun e=>hm (e ▸ hx)
    omega)
   omega
def queueL (xss:List (List Int)) (L:List (List Nat)) (i:Nat):List Int:=(L.drop i).map fun u=>((run0 xss u:Nat):Int)
theorem queueL_length (xss:List (List Int)) (L:List (List Nat)) (i:Nat):(queueL xss L i).length=L.length-i:=by simp[queueL]
theorem queueL_cons {xss:List (List Int)} {L:List (List Nat)} {i:Nat} (hi:i<L.length):queueL xss L i=((run0 xss (nth L i):Nat):Int)::queueL xss L (i+1):=by
 unfold queueL nth;rw[List.drop_eq_getElem_cons hi,List.map_cons,getD_get hi]
theorem queueL_push {xss:List (List Int)} {L:List (List Nat)} {i:Nat} (hi:i≤L.length) (x:List Nat):queueL xss (L++[x]) i=queueL xss L i++[((run0 xss x:Nat):Int)]:=by
 unfold queueL;rw[List.drop_append_of_le_length hi,List.map_append]
 rfl
def BfsW (xss:List (List Int)) (w:World) (bm:Nat) (L:List (List Nat)) (i b:Nat) (Vs:Nat→Value) (qv:Value) (wi:World):Prop:=
 Bfs xss L i b∧(L.map (run0 xss)).Nodup∧(∃ D,wi.ownsMap Tryz.prog 3 heldR bm L.length D∧MapIs xss D L Vs)∧QueueW w.heap.size wi qv (queueL xss L i) ∧
 (∀ t,t<L.length→∃ g c,Vs t=.slice (some ⟨g,0,none⟩) (nth L t).length c∧OwnI w.heap.size wi (Vs t) (toI (nth L t))∧some g≠qv.ownBlock)∧Below w.heap.size w wi∧w.heap.size≤bm
theorem has_empty (k:Lit):Maps.has (DataW.map (H:=Value) []) k=false:=rfl
theorem bfsW_start {xss:List (List Int)} {w w2 w3:World} {A:Nat} (hn:1≤xss.length∧xss.length≤6) (hA:A=2^xss.length-1) (hb2:Below w.heap.size w w2)
  (hm:w3.ownsMap Tryz.prog 3 heldR w2.heap.size 1 ((DataW.map []).put (keyL A) (.held (.slice (some ⟨w2.heap.size+1,0,none⟩) 0 0))))
  (hg:((w2.alloc (.map #[] 0)).alloc (.cells #[] 3)).grownBy w3 (some w2.heap.size)):
  BfsW xss w w2.heap.size [[]] 0 0 (fun t=>if t=0 then .slice (some ⟨w2.heap.size+1,0,none⟩) 0 0 else .slice none 0 0) (.slice (some ⟨w3.heap.size,0,none⟩) 1 1) (w3.alloc (.cells #[.int .i64 (A:Int)] 3)):=by
 have hs:=hb2.size;have hs3:=hg.size;have hs2:((w2.alloc (.map #[] 0)).alloc (.cells #[] 3)).heap.size=w2.heap.size+2:=by simp
 have hrow:OwnI w.heap.size ((w2.alloc (.map #[] 0)).alloc (.cells #[] 3)) (.slice (some ⟨w2.heap.size+1,0,none⟩) 0 0) []:=by
  have h9:=OwnI.lit (w2.alloc (.map #[] 0));rw[show (w2.alloc (.map #[] 0)).heap.size=w2.heap.size+1 by simp] at h9;exact h9.mono (by omega)
 have hrow3:OwnI w.heap.size w3 (.slice (some ⟨w2.heap.size+1,0,none⟩) 0 0) []:=World.ownsRow.kept hrow hg (.inr (by simp[Value.ownBlock]));have hq:OwnI w.heap.size (w3.alloc (.cells #[.int .i64 (A:Int)] 3)) (.slice (some ⟨w3.heap.size,0,none⟩) 1 1) [(A:Int)]:=
  ⟨rfl,.inr ⟨w3.heap.size,1,#[.int .i64 (A:Int)],rfl,by omega,heap_alloc_new w3 _,Nat.le_refl _,by simp[maxLen],rfl,rfl⟩⟩
 have hr0:run0 xss []=A:=hA.symm;have hM:MapIs xss ((DataW.map []).put (keyL A) (.held (.slice (some ⟨w2.heap.size+1,0,none⟩) 0 0))) [[]] (fun t=>if t=0 then .slice (some ⟨w2.heap.size+1,0,none⟩) 0 0 else .slice none 0 0):=by
  have h0:MapIs xss (DataW.map []) [] (fun _=>.slice none 0 0):=⟨fun t ht=>by simp at ht,fun s _=>by rw[has_empty]; simp⟩
  have h9:=h0.put hn.2 ⟨[],rfl⟩ (x:=[]) (fun t ht=>by simp at ht) (.slice (some ⟨w2.heap.size+1,0,none⟩) 0 0);rw[hr0] at h9;exact h9
 refine ⟨bfs_start hn.1,by simp,⟨_,hm.alloc _,hM⟩,⟨w3.heap.size,0,1,[],rfl,rfl,?_⟩,fun t ht=>?_,?_,by omega⟩
 ·have e:queueL xss [[]] 0=[(A:Int)]:=by unfold queueL; simp[hr0]
  rw[e]; exact hq
 ·have ht0:t=0:=by simpa using ht
  subst ht0;exact ⟨w2.heap.size+1,0,rfl,World.ownsRow.alloc hrow3 _,by simp[Value.ownBlock]; omega⟩
 ·exact ((((hb2.alloc hb2.size _).alloc (by simp; omega) _).grown hg (by simp; omega) (fun j hj=>by cases hj; exact hb2.size))).alloc (by omega) _
theorem own_not_map {w:World} {B bm n:Nat} {D:DataW Value} {v:Value} {xs:List Int} (hm:w.ownsMap Tryz.prog 3 heldR bm n D) (h:OwnI B w v xs):v.ownBlock≠some bm:=by
 intro e;obtain ⟨es,clock,hb,_⟩:=hm
 rcases h.2 with ⟨rfl,_⟩ | ⟨g,cap,cur,rfl,_,hg,_⟩
 ·cases e
 ·injection e with e
  have e:g=bm:=e;subst e;rw[hb] at hg
  cases hg
theorem QueueW.kept {B:Nat} {w w':World} {qv:Value} {xs:List Int} {row:Option Nat} (h:QueueW B w qv xs) (hg:w.grownBy w' row) (hne:qv.ownBlock≠row):QueueW B w' qv xs:=by
 obtain ⟨gq,off,c,ps,rfl,hp,ho⟩:=h;exact ⟨gq,off,c,ps,rfl,hp,World.ownsRow.kept ho hg (.inr hne)⟩
theorem QueueW.below {B:Nat} {w w':World} {qv:Value} {xs:List Int} (h:QueueW B w qv xs) (hb:Below w.heap.size w w'):QueueW B w' qv xs:=by
 obtain ⟨gq,off,c,ps,rfl,hp,ho⟩:=h;exact ⟨gq,off,c,ps,rfl,hp,ho.below hb⟩
theorem QueueW.block {B:Nat} {w:World} {qv:Value} {xs:List Int} (h:QueueW B w qv xs):∃ gq,qv.ownBlock=some gq∧B≤gq∧gq<w.heap.size:=by
 obtain ⟨gq,off,c,ps,rfl,hp,ho⟩:=h;have:=World.ownsRow.lt ho gq rfl;exact ⟨gq,rfl,this.1,this.2⟩
theorem QueueW.not_map {w:World} {B bm n:Nat} {D:DataW Value} {qv:Value} {xs:List Int} (hm:w.ownsMap Tryz.prog 3 heldR bm n D) (h:QueueW B w qv xs):qv.ownBlock≠some bm:=by
 obtain ⟨gq,off,c,ps,rfl,hp,ho⟩:=h;have h9:=own_not_map hm ho;exact h9
theorem bfsW_new {xss:List (List Int)} {w wr w7 w8 w9:World} {bm:Nat} {L:List (List Nat)} {i b:Nat} {Vs:Nat→Value} {qv qv':Value} {g5 c5:Nat} {o:Obj} {D:DataW Value}
  (hn:xss.length≤6) (hW:BfsW xss w bm L i b Vs qv wr) (hi:i<L.length) (hb:b<xss.length) (hl:(nth L i).length<16) (hr:run0 xss (nth L i++[b])≠0)
  (hnew:∀ t,t<L.length→run0 xss (nth L t)≠run0 xss (nth L i++[b])) (hMI:MapIs xss D L Vs) (hD:IsMap D)
  (h7:Below wr.heap.size wr w7) (hrow:OwnI wr.heap.size w7 (.slice (some ⟨g5,0,none⟩) ((nth L i).length+1) c5) (toI (nth L i++[b])))
  (hm7:w7.ownsMap Tryz.prog 3 heldR bm L.length D)
  (hm8:w8.ownsMap Tryz.prog 3 heldR bm (L.length+1) (D.put (keyL (run0 xss (nth L i++[b]))) (.held (.slice (some ⟨g5,0,none⟩) ((nth L i).length+1) c5)))) (h8:w7.grownBy w8 (some bm))
  (hq9:QueueW w.heap.size w9 qv' (queueL xss L i++[((run0 xss (nth L i++[b]):Nat):Int)])) (h9:(w8.alloc o).grownBy w9 qv.ownBlock)
  (hloc:qv'.ownBlock=qv.ownBlock∨∃ g,qv'.ownBlock=some g∧(w8.alloc o).heap.size≤g):
  BfsW xss w bm (L++[nth L i++[b]]) i (b+1) (fun t=>if t=L.length then .slice (some ⟨g5,0,none⟩) ((nth L i).length+1) c5 else Vs t) qv' w9:=by
 obtain ⟨hB,hnd,_,hq,hrows,hbw,hbm⟩:=hW;have hsz:=hbw.size;have hs7:=h7.size;have hs8:=h8.size;have hs9:=h9.size;have hsa:(w8.alloc o).heap.size=w8.heap.size+1:=by simp
 obtain ⟨gq,hgq,hgqB,hgqlt⟩:=hq.block;have hgq7:=(hq.below h7).not_map hm7;have hrow8:OwnI wr.heap.size w8 (.slice (some ⟨g5,0,none⟩) ((nth L i).length+1) c5) (toI (nth L i++[b])):=World.ownsRow.kept hrow h8 (.inr (own_not_map hm7 hrow));have hg5:=(World.ownsRow.lt hrow8 g5 rfl)
 refine ⟨bfs_new hB hi hb hl hr,?_,⟨_,by rw[List.length_append,List.length_singleton]; exact (hm8.alloc o).kept h9 (fun e=>hgq7 e.symm),hMI.put hn hD hnew _⟩,by rw[queueL_push (by omega)]; exact hq9,fun t ht=>?_,?_,hbm⟩
 ·rw[List.map_append,List.map_singleton,List.nodup_append]
  refine ⟨hnd,by simp,fun x hx y hy e=>?_⟩;obtain ⟨u,hu,rfl⟩:=List.mem_map.1 hx;obtain ⟨t,ht,rfl⟩:=List.getElem_of_mem hu;have hy:y=run0 xss (nth L i++[b]):=by simpa using hy
  refine hnew t ht ?_;unfold nth at hy ⊢;rw[getD_get ht,e,hy]
 ·by_cases e:t=L.length
  ·subst e
   refine ⟨g5,c5,by dsimp only; rw[if_pos rfl,nth_new]; simp,?_,?_⟩
   ·dsimp only; rw[if_pos rfl,nth_new]
    exact owns_mono (World.ownsRow.kept (World.ownsRow.alloc hrow8 o) h9 (.inr (by rw[hgq]; intro e; injection e with e; have e:g5=gq:=e; omega))) hsz
   ·rcases hloc with h | ⟨g,h,hge⟩
    ·rw[h,hgq]; intro e; injection e with e; omega
    ·rw[h]; intro e; injection e with e; omega
  ·have ht':t<L.length:=by simp at ht; omega
   obtain ⟨g,c,hv,hown,hne⟩:=hrows t ht';have hown7:=hown.below h7;have hglt:g<wr.heap.size:=(World.ownsRow.lt hown g (by rw[hv]; rfl)).2;refine ⟨g,c,by dsimp only; rw[if_neg e,nth_old ht']; exact hv,?_,?_⟩
   ·dsimp only; rw[if_neg e,nth_old ht']
    have hown8:OwnI w.heap.size w8 (Vs t) (toI (nth L t)):=World.ownsRow.kept hown7 h8 (.inr (own_not_map hm7 hown7));exact World.ownsRow.kept (World.ownsRow.alloc hown8 o) h9 (.inr (by rw[hv]; exact hne))
   ·rcases hloc with h | ⟨g',h,hge⟩
    ·rw[h]; exact hne
    ·rw[h]; intro e; injection e with e; omega
 ·refine ((((hbw.trans (h7.mono hsz)).grown h8 (by omega) (fun j hj=>by cases hj; exact hbm)).alloc (by omega) o).grown h9 (by omega) (fun j hj=>?_))
  rw[hgq] at hj
  cases hj
  exact hgqB
theorem lookup_word {xss:List (List Int)} {w wr:World} {bm:Nat} {L:List (List Nat)} {i b:Nat} {Vs:Nat→Value} {qv:Value} (hn:xss.length≤6) (hW:BfsW xss w bm L i b Vs qv wr) {t:Nat} (ht:t<L.length):
  (Instr.lookup 204 (.map (some bm)) (.int .i64 (run0 xss (nth L t):Nat)) false).run Tryz.prog wr=.ok (Vs t) wr:=by
 obtain ⟨_,_,⟨D,hmap,hMI⟩,_⟩:=hW;obtain ⟨vv,ps,hrun,hv⟩:=hmap.lookup keyLaw Tryz.underlying204 (zeroInts wr) (zd:=.held (.slice none 0 0)) (zp:=[]) rfl (keyOf_keyL (run0_lt64 hn (nth L t)));rw[hMI.1 t ht] at hv;have e:vv=Vs t:=by
  unfold heldR at hv;injection hv with hv;injection hv with hv _;injection hv with hv
 rw[hrun,e]
theorem lookup_ok {xss:List (List Int)} {w wr:World} {bm:Nat} {L:List (List Nat)} {i b:Nat} {Vs:Nat→Value} {qv:Value} (hn:xss.length≤6) (hW:BfsW xss w bm L i b Vs qv wr) {s:Nat} (hs:s<64):
  ∃ vv seen,(Instr.lookup 204 (.map (some bm)) (.int .i64 (s:Nat)) true).run Tryz.prog wr=.ok (.tuple #[vv,.bool seen]) wr∧(seen=true↔∃ t,t<L.length∧run0 xss (nth L t)=s):=by
 obtain ⟨_,_,⟨D,hmap,hMI⟩,_⟩:=hW;obtain ⟨vv,ps,hrun,hv⟩:=hmap.look_ok keyLaw Tryz.underlying204 (zeroInts wr) (zd:=.held (.slice none 0 0)) (zp:=[]) rfl (keyOf_keyL hs);exact ⟨vv,_,hrun,hMI.2 s hs⟩
theorem bfsW_len {xss:List (List Int)} {w wi:World} {bm:Nat} {L:List (List Nat)} {i b:Nat} {Vs:Nat→Value} {qv:Value} (hn:xss.length≤6) (h:BfsW xss w bm L i b Vs qv wi):L.length≤64:=by
 have h1:=nodup_le 64 _ h.2.1 (fun x hx=>by
  obtain ⟨u,_,rfl⟩:=List.mem_map.1 hx;exact run0_lt64 hn u)
 simpa using h1
def InnerW (xss:List (List Int)) (w:World) (bm i:Nat) (W0:List Nat) (V0:Value) (b:Nat) (qa:Option Addr) (m qc:Nat) (wi:World):Prop:=
 ∃ (L:List (List Nat)) (Vs:Nat→Value),m=L.length-i∧i<L.length∧nth L i=W0∧Vs i=V0∧BfsW xss w bm L i b Vs (.slice qa m qc) wi
set_option maxRecDepth 100000 in
set_option maxHeartbeats 4000000 in
theorem implShortestHunt_any {B:Nat} (v:Value) (xss:List (List Int)) (w:World) (h:Rows2 B w v xss):
  Calls Tryz.prog 174 #[v] w (HuntOut xss w):=by
 have hT:=implBesideOk_any v xss w h;have HR:=hdd h;obtain ⟨ad,cap,rfl,hcap,hmax,_⟩:=h.opened;clear h
 cases h1:besideB xss
 ·rw[h1] at hT
  have HE:=hdd h1;clear h1;go_enter Tryz.func174,Tryz.ntmps174;go_wp2_with fail;refine hT.mono ?_;rintro e w2 ⟨rfl,hb2⟩;go_wp2;go_ret2;exact ⟨[],false,none,0,rfl,.inr ⟨rfl,rfl,.inl HE.out⟩,OwnI.empty _ _,hb2⟩
 ·rw[h1] at hT
  have hn:=(besideB_spec h1).1;have HBE:=hdd h1;have hst:=left_start (n:=xss.length) (by omega);obtain ⟨A,hA⟩:∃ A,A=2^xss.length-1:=⟨_,rfl⟩
  rw[←hA] at hst;have hA64:A<64:=by rw[hA]; exact pow_64 hn.2 (full_lt xss)
  have HA:=hdd hA;have hmm:=@run_makeMap Tryz.prog;clear h1 hA;go_enter Tryz.func174,Tryz.ntmps174;go_wp2_with fail;refine hT.mono ?_;rintro e w2 ⟨rfl,hb2⟩;have hsz:=hb2.size;have hmap0:(w2.alloc (.map #[] 0)).ownsMap Tryz.prog 3 heldR w2.heap.size 0 (.map []):=World.ownsMap_made w2 Tryz.prog 3 heldR;have hmap1:((w2.alloc (.map #[] 0)).alloc (.cells #[] 3)).ownsMap Tryz.prog 3 heldR w2.heap.size 0 (.map []):=hmap0.alloc _;have hkeyA:=keyOf_keyL hA64;have hw1:w2.heap.size<(w2.alloc (.map #[] 0)).heap.size:=by simp
  obtain ⟨w3,hrun3,hown3,hg3⟩:=hmap1.update keyLaw Tryz.underlying204 (by unfold maxLen; omega) (val:=.slice (some ⟨w2.heap.size+1,0,none⟩) 0 0) (d:=.held (.slice (some ⟨w2.heap.size+1,0,none⟩) 0 0)) (ps:=[]) hkeyA rfl;have HM3:=hdd hown3;have HG3:=hdd hg3;clear hown3 hg3 hmap0 hmap1;have hW0:=bfsW_start hn HA.out hb2 HM3.out HG3.out;have hbm:w.heap.size≤w2.heap.size:=hsz;go_wp2;obtain ⟨wu,hwu⟩:∃ wu:World,wu=w3.alloc (.cells #[.int .i64 (A:Int)] 3):=⟨_,rfl⟩
  rw[←hwu] at hW0 ⊢;clear hwu;obtain ⟨bm,hbmq⟩:∃ bm,bm=w2.heap.size:=⟨_,rfl⟩
  rw[←hbmq] at hW0 hbm ⊢;clear hbmq hmm hrun3 hst;go_loopg [6] 64 (fun g qv wr=>∃ (L:List (List Nat)) (i:Nat) (Vs:Nat→Value) (qa:Option Addr) (m qc:Nat),g+i=64∧i≤L.length∧qv=.slice qa m qc∧m=L.length-i∧L.length≤64∧Bfs xss L i 0∧Below w.heap.size w wr∧(0<m→BfsW xss w bm L i 0 Vs qv wr))
  case atStart=>exact ⟨[[]],0,_,_,1,1,rfl,by omega,rfl,rfl,by simp,hW0.1,hW0.2.2.2.2.2.1,fun _=>hW0⟩
  case round=>
   obtain ⟨L,i,Vs,qa,m,qc,hgi,hiL,rfl,hm,hL64o,hBo,hbWo,hWo⟩:=hrel;clear hW0
   by_cases hm0:0<m
   ·have hW:=hWo hm0
    clear hBo hbWo hWo;have hiL2:i<L.length:=by omega
    have hLk:=lookup_word hn.2 hW hiL2;obtain ⟨hB,hnd,⟨D,hmap,hMI⟩,hq,hrows,hbW,hbmB⟩:=id hW;rw[queueL_cons hiL2] at hq;obtain ⟨gq,off,c,hqe,hgqB,hlen,hmax,hcell,hqt⟩:=hq.head;injection hqe with he1 he2 he3;subst he1 he3;obtain ⟨gv,cv,hv,hvown,hvne⟩:=hrows i hiL2;have hS64:=run0_lt64 hn.2 (nth L i);obtain ⟨S,hS⟩:∃ S,S=run0 xss (nth L i):=⟨_,rfl⟩
    rw[←hS] at hcell hS64 hLk;rw[hv] at hLk;obtain ⟨k16,hk16⟩:∃ k,k=(nth L i).length:=⟨_,rfl⟩
    rw[←hk16] at hLk hv;have hk17:k16≤16:=by rw[hk16]; exact (hB.2.2.1 i hiL2).2.1
    have HK:=hdd hk16;have HW:=hdd hW;have HS:=hdd hS;have HV:=hdd hv;have HQM:=hdd hm;have HBW:=hdd hbW;have hm0':(0:Int)<(m:Int):=by omega
    clear hB hnd hmap hMI hq hrows hW hqt he2 hvown hvne hk16 hS hv hm hbW
    by_cases hk:k16=16
    ·have hkb:((k16:Int)==16)=true:=by rw[beq_iff_eq]; omega
     have HNo:=hdd (bfs_long HW.out.1 (by omega) hiL2 (by rw[←HK.out]; exact hk));clear hk;go_wp2;go_ret2;exact ⟨[],false,none,0,rfl,.inr ⟨rfl,rfl,.inr HNo.out⟩,OwnI.empty _ _,HBW.out⟩
    ·have hkb:((k16:Int)==16)=false:=by rw[beq_eq_false_iff_ne]; omega
     have hk15:k16<16:=by omega
     clear hk;go_wp2;obtain ⟨W0,hW0⟩:∃ W0,W0=nth L i:=⟨_,rfl⟩
     rw[←hW0] at HK HS;have hstart:InnerW xss w bm i W0 (.slice (some ⟨gv,0,none⟩) k16 cv) 0 (some ⟨gq,off,none⟩) m qc wr:=⟨L,Vs,HQM.out,hiL2,hW0.symm,HV.out,HW.out⟩
     obtain ⟨wo,hwo⟩:∃ wo:World,wo=wr:=⟨_,rfl⟩
     rw[←hwo] at hstart ⊢;clear hwo hLk hcell HW HV HQM hW0 hiL2 hiL hlen hmax;go_loopw [6,40] (fun qv cv' wi=>∃ (b:Nat) (qa:Option Addr) (m' qc':Nat),b≤xss.length∧cv'=.int .i64 b∧qv=.slice qa m' qc'∧InnerW xss w bm i W0 (.slice (some ⟨gv,0,none⟩) k16 cv) b qa m' qc' wi) (fun _ cv' _=>xss.length-(intOf cv').toNat)
     case atStart=>exact ⟨0,_,m,qc,Nat.zero_le _,rfl,rfl,hstart⟩
     case round=>
      obtain ⟨b,qa,m',qc',hb,rfl,rfl,hIn⟩:=hrel;clear hstart
      by_cases hbn:(b:Int)<(xss.length:Int)
      ·obtain ⟨L',Vs',hm',hi',hw0,hv0,hW'⟩:=hIn
       obtain ⟨hB,hnd,⟨D,hmap,hMI⟩,hq,hrows,hbW,hbmB⟩:=id hW';have hq0:=hq;rw[queueL_cons hi'] at hq;obtain ⟨gq',off',c',hqe,hgqB',hlen',hmax',hcell,_⟩:=hq.head;injection hqe with he1 he2 he3;subst he1 he3;rw[hw0,←HS.out] at hcell;obtain ⟨g0,c0,hv1,hvown,hvne⟩:=hrows i hi';rw[hv0] at hv1;injection hv1 with hv1 hv2 hv3;rw[hw0] at hv2 hvown;rw[hv0] at hvown;have hAf:=after_any (.slice ad xss.length cap) xss S (b:Int) wr (HR.out.below hbW) HBE.out hS64 (by unfold In64; omega);obtain ⟨N,hN⟩:∃ N,N=afterN xss S (b:Int):=⟨_,rfl⟩
       rw[←hN] at hAf;have hNr:N=run0 xss (nth L' i++[b]):=by rw[run0_snoc,hw0,←HS.out,hN]
       have hN64:N<64:=by rw[hNr]; exact run0_lt64 hn.2 _
       obtain ⟨vv,seen,hlk,hseen⟩:=lookup_ok hn.2 hW' hN64;have hgood:∀ y∈toI W0,In64 y:=fun y hy=>by
        obtain ⟨x,hx,rfl⟩:=List.mem_map.1 hy;have:=(hB.2.2.1 i hi').1 x (by rw[hw0]; exact hx);unfold In64; omega
       have hclone:=clone_any ⟨gv,0,none⟩ (toI W0) cv wr (by have h9:=hvown.toInts hgood; rw[hv2] at h9; rw[toI_length]; exact h9) (by rw[toI_length]; omega);rw[toI_length,←hv2] at hclone;have HI:=hdd hi';have HV2:=hdd hv2;have HW0:=hdd hw0;have HV0:=hdd hv0;have HM':=hdd hm';have HW':=hdd hW';have HNr:=hdd hNr;have HMap:=hdd (And.intro hmap hMI);have HQ0:=hdd hq0;have HBW':=hdd hbW;have hm0'':(0:Int)<(m':Int):=by omega
       clear hB hnd hmap hMI hq hq0 hrows hbW hW' hN hNr hv1 hv3 hw0 hv0 hvown hvne he2 hm' hi' hgood hv2;go_wp2_with fail;refine hAf.mono ?_;rintro e wz ⟨rfl,rfl⟩
       cases seen
       ·have hns:∀ t,t<L'.length→run0 xss (nth L' t)≠run0 xss (nth L' i++[b]):=fun t ht e=>by
         have h9:=hseen.2 ⟨t,ht,by rw[e,HNr.out]⟩
         cases h9
        have HNS:=hdd hns;have hL64:=bfsW_len hn.2 HW'.out;clear hseen hns hAf;go_wp2_with fail;refine hclone.mono ?_;rintro e w5 ⟨a5,c5,rfl,ho5,hb5⟩;rw[toI_length,←HV2.out] at ho5 ⊢;have hown5:OwnI wr.heap.size (w5.alloc (.cells #[.int .i64 (b:Int)] 3)) (.slice a5 k16 c5) (toI W0):=World.ownsRow.alloc ho5 _;have HO5:=hdd ho5;have HB5:=hdd hb5;have hs5:=hb5.size;clear hclone ho5 hb5;go_wp2_with (at_builtin; refine wpList_push_int _ rfl (.tmp 59) (.tmp 61) rfl wr.heap.size (.slice a5 k16 c5) (toI W0) rfl hown5 ⟨w5.heap.size,0,none⟩ 1 (b:Int) rfl ?_ ?_ ?_ ?_)
        ·exact cell_of_one (heap_alloc_new w5 _)
        ·rw[toI_length,←HV2.out]; omega
        ·simp; omega
        ·intro a7 c7 w7 ho7 hg7
         (try rw[toI_length] at ho7)
         rw[←HV2.out] at ho7 ⊢;rw[←toI_snoc] at ho7;have hb7:Below wr.heap.size wr w7:=(HB5.out.alloc hs5 _).grown hg7 (by simp; omega) (fun j hj=>(World.ownsRow.lt HO5.out j hj).1);obtain ⟨g7,cap7,he7,_⟩:=own_head ho7 (by rw[toI_length]; simp);injection he7 with he71 he72 he73;subst he71 he73;have hmap7:=HMap.out.1.kept (w':=w7) (row:=none) ⟨hb7.os,hb7.tape,hb7.output,hb7.size,fun k hk _=>hb7.block k hk⟩ (by simp);obtain ⟨w8,hrun8,hown8,hg8⟩:=hmap7.update keyLaw Tryz.underlying204 (by unfold maxLen; omega) (val:=.slice (some ⟨g7,0,none⟩) (k16+1) c7) (d:=.held (.slice (some ⟨g7,0,none⟩) (k16+1) c7)) (ps:=[]) (keyOf_keyL hN64) rfl;have hs7:=hb7.size;have hs8:=hg8.size;have HO7:=hdd ho7;have HB7:=hdd hb7;have HM7:=hdd hmap7;have HM8:=hdd hown8;have HG8:=hdd hg8;clear ho7 hg7 hb7 he72 hmap7 hown8 hg8 hown5
         by_cases hN0:N=0
         ·have hNb:((N:Int)==0)=true:=by rw[beq_iff_eq]; omega
          obtain ⟨v9,ps9,hrun9,hv9⟩:=HM8.out.lookup keyLaw Tryz.underlying204 (zeroInts w8) (zd:=.held (.slice none 0 0)) (zp:=[]) rfl (keyOf_keyL hN64);have hv9e:v9=.slice (some ⟨g7,0,none⟩) (k16+1) c7:=by
           rw[atKey_put_same HMap.out.1.isMap (keyL_key hN64)] at hv9;unfold heldR at hv9;injection hv9 with hv9;injection hv9 with hv9 _;injection hv9 with hv9
          rw[hv9e] at hrun9;have HIs:=hdd (show IsHunt xss (W0++[b]) by
           have h9:=bfs_found HW'.out.1 (by omega) HI.out (show b<xss.length by omega) (by rw[HW0.out,←HV2.out]; exact hk15) (by rw[←HNr.out]; exact hN0)
           rwa [HW0.out] at h9)
          have hsw:=HBW'.out.size;have HOw:=hdd (show OwnI w.heap.size w8 (.slice (some ⟨g7,0,none⟩) (k16+1) c7) (toI (W0++[b])) from owns_mono (World.ownsRow.kept HO7.out HG8.out (.inr (own_not_map HM7.out HO7.out))) hsw);have HBe:=hdd ((HBW'.out.trans (HB7.out.mono hsw)).grown HG8.out (by omega) (fun j hj=>by cases hj; exact hbmB));have HN0:=hdd hN0;clear hN0 hv9 hv9e;go_wp2;go_ret2;exact ⟨toI (W0++[b]),true,some ⟨g7,0,none⟩,c7,congrArg (fun m=>Ending.returned (.tuple #[.slice (some ⟨g7,0,none⟩) m c7,.bool true])) (by rw[toI_length]; simp; exact HV2.out),.inl ⟨HBE.out,rfl,_,HIs.out,rfl⟩,by
           have e9:(toI (W0++[b])).length=k16+1:=by rw[toI_length]; simp; exact HV2.out.symm
           rw[e9]; exact HOw.out,HBe.out⟩
         ·have hNb:((N:Int)==0)=false:=by rw[beq_eq_false_iff_ne]; omega
          have hq8:QueueW w.heap.size (w8.alloc (.cells #[.int .i64 (N:Int)] 3)) (.slice (some ⟨gq',off',none⟩) m' qc') (queueL xss L' i):=
           ((HQ0.out.below HB7.out).kept HG8.out ((HQ0.out.below HB7.out).not_map HM7.out)).kept (World.grownBy_alloc w8 _ none) (by simp[Value.ownBlock])
          have hsw:=HBW'.out.size;have hkk:(nth L' i).length=k16:=by rw[HW0.out]; exact HV2.out.symm
          have HKK:=hdd hkk;have HN0:=hdd hN0;clear hN0 hkk;go_wp2_with (at_builtin; refine wpList_push_queue _ rfl (.tmp 68) (.tmp 70) rfl w.heap.size (.slice (some ⟨gq',off',none⟩) m' qc') (queueL xss L' i) rfl hq8 ⟨w8.heap.size,0,none⟩ 1 (N:Int) rfl ?_ ?_ ?_ ?_)
          ·exact cell_of_one (heap_alloc_new w8 _)
          ·rw[queueL_length]; omega
          ·simp; omega
          ·intro a9 c9 w9 hq9 hg9 hloc
           rw[queueL_length,←HM'.out] at hq9 hloc ⊢;have HIn:=hdd (show InnerW xss w bm i W0 (.slice (some ⟨gv,0,none⟩) k16 cv) (b+1) a9 (m'+1) c9 w9 from
            ⟨L'++[nth L' i++[b]],_,by rw[List.length_append,List.length_singleton]; have:=HI.out; have:=HM'.out; omega,by rw[List.length_append]; have:=HI.out; omega,by rw[nth_old HI.out]; exact HW0.out,by
             have h9:=HV0.out;have hne:¬i=L'.length:=by have:=HI.out; omega
             show (if i=L'.length then _ else Vs' i)=_
             rw[if_neg hne]; exact h9,
            bfsW_new hn.2 HW'.out HI.out (by omega) (by rw[HKK.out]; exact hk15) (by rw[←HNr.out]; exact HN0.out) HNS.out HMap.out.2 HMap.out.1.isMap HB7.out (by rw[HKK.out,HW0.out]; exact HO7.out) HM7.out (by rw[HKK.out,←HNr.out]; exact HM8.out) HG8.out (by rw[←HNr.out]; exact hq9) hg9 (by
             rcases hloc with h | ⟨g,h1,h2⟩
             ·exact .inl h
             ·exact .inr ⟨g,h1,by simp; omega⟩)⟩)
           clear hq9 hg9 hloc hq8;go_wp2;go_roundw
           case rel=>exact ⟨b+1,a9,m'+1,c9,by omega,by go_num,rfl,HIn.out⟩
           case measure=>simp[intOf]; omega
       ·have hsn:=hseen.1 rfl
        have HN2:=hdd (show InnerW xss w bm i W0 (.slice (some ⟨gv,0,none⟩) k16 cv) (b+1) (some ⟨gq',off',none⟩) m' qc' wr by
         obtain ⟨u,hu,hr⟩:=hsn;obtain ⟨q1,q2,q3,q4,q5,q6,q7⟩:=HW'.out;exact ⟨L',Vs',HM'.out,HI.out,HW0.out,HV0.out,bfs_seen q1 HI.out hu (by rw[hr,HNr.out]),q2,q3,q4,q5,q6,q7⟩)
        clear hsn hseen hclone hAf;go_wp2;go_roundw
        case rel=>exact ⟨b+1,_,m',qc',by omega,by go_num,rfl,HN2.out⟩
        case measure=>simp[intOf]; omega
      ·obtain ⟨L',Vs',hm',hi',hw0,hv0,hW'⟩:=hIn
       have hL64:=bfsW_len hn.2 hW';have hbn':b=xss.length:=by omega
       rw[hbn'] at hW';obtain ⟨hB,hnd,hmp,hq,hrows,hbW,hbmB⟩:=hW';rw[queueL_cons hi'] at hq;obtain ⟨gq',off',c',hqe,hgqB',hlen',hmax',_,hqt⟩:=hq.head;rw[queueL_length] at hqe hlen' hqt;injection hqe with he1 he2 he3;subst he1 he3;have e9:L'.length-(i+1)=m'-1:=by omega
       rw[e9] at hqt hlen';have hnx:=bfs_next hB (by omega);have HNx:=hdd hnx;have HBx:=hdd hbW;have HIn:=hdd (show BfsW xss w bm L' (i+1) 0 Vs' (.slice (some ⟨gq',off'+1,none⟩) (m'-1) (qc'-1)) wr from ⟨hnx,hnd,hmp,hqt,hrows,hbW,hbmB⟩);have HM':=hdd hm';have hi1:(1:Int)≤(m':Int):=by omega
       have hi2:(m':Int)≤(qc':Int):=by omega
       have hi3:1≤m':=by omega
       have hi4:m'≤qc':=by omega
       clear hB hnd hmp hq hrows hbW hqt e9 he2 hm' hbn' hw0 hv0 hnx
       by_cases hm1:m'=1
       ·have HM1:=hdd hm1
        clear hm1;go_wp2
        all_goals
         go_roundg (gk-1)
         case measure=>omega
         case rel=>exact ⟨L',i+1,Vs',_,m'-1,_,by omega,by omega,rfl,by have:=HM'.out; omega,hL64,HNx.out,HBx.out,fun h=>by have:=HM1.out; omega⟩
       ·have hi5:(2:Int)≤(qc':Int):=by omega
        have hi6:¬(qc'=1):=by omega
        have hi7:¬((qc':Int)=1):=by omega
        clear hm1;go_wp2;go_roundg (gk-1)
        case measure=>omega
        case rel=>exact ⟨L',i+1,Vs',_,m'-1,_,by omega,by omega,rfl,by have:=HM'.out; omega,hL64,HNx.out,HBx.out,fun _=>HIn.out⟩
   ·have hnone:=bfs_none hBo (by omega)
    have HN:=hdd hnone;have HB:=hdd hbWo;clear hWo hBo hbWo hnone hm;go_wp2;go_ret2;exact ⟨[],false,none,0,rfl,.inr ⟨rfl,rfl,.inr HN.out⟩,OwnI.empty _ _,HB.out⟩
end
end Go.Proofs.YtenlngclocfnlaaGreatDoor
