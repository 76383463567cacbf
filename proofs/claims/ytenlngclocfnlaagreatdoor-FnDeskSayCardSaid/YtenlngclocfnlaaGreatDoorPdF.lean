/- Texts of this claim, put together: BunK. -/
import Derived.Test.YtenlngclocfnlaaGreatDoorPdD
import Derived.Test.YtenlngclocfnlaaGreatDoorPdE
import Derived.Test.YtenlngclocfnlaaGreatDoorPdA
import Derived.TacticsIn
import Derived.RegionIn
import Derived.Shelf.RegionOpen
import Derived.Test.YtenlngclocfnlaaGreatDoorPdB
import Derived.Laws.StructEq
import Derived.BigQuiet
import Derived.Deep.QuietTactic
import Derived.Test.YtenlngclocfnlaaGreatDoorPdGD
namespace Go.Proofs.YtenlngclocfnlaaGreatDoor
set_option linter.unusedVariables false
section
open Go.RowKit Go.Shelf
set_option maxRecDepth 100000
attribute [local go_sem] Oper.semAt_some
theorem run_push_row (w:World) (ty:TypeId)
  (B:Nat) (v:Value) (xss:List (List Int)) (hown:OwnII B w v xss) (ad:Addr) (c:Nat) (r:Value) (xs:List Int) (hc:w.cell? ad=some r)
  (hr:OwnI B w r xs) (hd:∀ vs:List Value,w.ownsRow B 37 1 v vs.length vs→∀ i (h:i<vs.length),r.ownBlock=none∨vs[i].ownBlock=none∨vs[i].ownBlock≠r.ownBlock)
  (hlen:xss.length≤1099511627776) (hB:B≤w.heap.size)
  : ∃ a' cap' w',(Builtin.append_ #[79,79] ty #[v,.slice (some ad) 1 c]).run Tryz.prog w=.ok (.slice a' (xss.length+1) cap') w'∧OwnII B w' (.slice a' (xss.length+1) cap') (xss++[xs])∧w.grownBy w' v.ownBlock:=by
 obtain ⟨i0,hi,hz0,hz1,hz2⟩:=info_parts infoInts;obtain ⟨vs,h1,h2,h3,h4⟩:=hown;have hone:r.oneCell'=true:=by
  obtain ⟨_,_,rfl,_⟩:=own_shape hr
  rfl
 have hnews:∀ j u,[r][j]?=some u→w.cell? (ad.add j)=some u:=fun j u hj=>by
  match j,hj with
  | 0,hj=>simp at hj; subst hj; simpa [Addr.add] using hc
 obtain ⟨v',w',hrun,h5,h6,_,_⟩:=run_append_own_at (P:=Tryz.prog) w B 79 ty 37 i0 (.slice none 0 0) 1 24 Tryz.underlying79 hi hz0 hz1 hz2 rfl (by decide) v vs.length vs h1 ad 1 c [r] rfl hnews (by simp[hone]) (by unfold maxLen; omega) (by omega) hB;have hap:∀ u ys,OwnI B w u ys→OwnI B w' u ys:=fun u ys hu=>World.ownsRow.kept hu h6 (own_apart hu h1 (by decide))
 obtain ⟨a',cap',rfl,_⟩:=own_shape h5;rw[h2] at h5 hrun;refine ⟨a',cap',w',hrun,⟨vs++[r],by simpa [h2] using h5,by simp[h2],fun i hi' hi''=>?_,fun i j hi' hj' hij=>?_⟩,h6⟩
 ·by_cases hlt:i<vs.length
  ·rw[List.getElem_append_left hlt,List.getElem_append_left (by omega)]
   exact hap _ _ (h3 i hlt (by omega))
  ·have e:i=vs.length:=by simp at hi'; omega
   subst e;have:=hap _ _ hr
   simpa [h2] using this
 ·simp only[List.length_append,List.length_cons,List.length_nil] at hi' hj'
  by_cases h7:i<vs.length
  ·rw[List.getElem_append_left h7]
   by_cases h8:j<vs.length
   ·rw[List.getElem_append_left h8]; exact h4 i j h7 h8 hij
   ·have e:j=vs.length:=by omega
    subst e;rw[List.getElem_append_right (Nat.le_refl _)];simp only[Nat.sub_self,List.getElem_cons_zero]
    rcases hd vs h1 i h7 with h | h | h
    ·rw[h]; by_cases e:vs[i].ownBlock=none
     ·exact .inl e
     ·exact .inr e
    ·exact .inl h
    ·exact .inr h
  ·have e:i=vs.length:=by omega
   subst e;rw[List.getElem_append_right (Nat.le_refl _),List.getElem_append_left (show j<vs.length by omega)];simp only[Nat.sub_self,List.getElem_cons_zero]
   rcases hd vs h1 j (by omega) with h | h | h
   ·exact .inl h
   ·rw[h]; by_cases e:r.ownBlock=none
    ·exact .inl e
    ·exact .inr e
   ·exact .inr (fun e=>h e.symm)
theorem stepIn_push_row {F:Fence} {nF:Nat} (w:World) {ops:Array Oper} {o:Oper} {a:Act} {K:Act→World→Prop} {Q:Exit→Act→World→Prop} {E:Prop}
  (hg:o.guard=none) (s x:Operand) (hop:o.op=Op.call { callee:=Callee.builtin Builtin.append,args:=#[s,x],argTypes:=#[79,79] })
  (v:Value) (n:Nat) (ad:Addr) (c:Nat) (a':Option Addr) (cap':Nat) (w':World) (hs:a.eval s=v) (hx:a.eval x=.slice (some ad) 1 c)
  (hrun:(Builtin.append_ #[79,79] o.type #[v,.slice (some ad) 1 c]).run Tryz.prog w=.ok (.slice a' n cap') w')
  (h:K (a.put o.dst (.slice a' n cap')) w'):if Region.wanted o (yielded ops a.tmps)=true then Oper.wpIn F nF Tryz.prog o a w K Q else E:=by
 have hw:Region.wanted o (yielded ops a.tmps)=true:=by simp[Region.wanted,hg]
 rw[if_pos hw];unfold Oper.wpIn;refine ⟨by simp[Oper.about,hop,resolve,Target.leads,Sem.run_pure],?_⟩;rw[Oper.semAt_plain F _ _ (by rw[hop]; intro c hc'; cases hc')];simp[execOp,hop,resolve,invoke,builtin,hs,hx,hrun,Result.andThen];exact h
theorem rows_any (K c:Int) (w:World):
  Calls Tryz.prog 148 #[.int .i64 K,.int .i64 c] w fun e w'=>e=.returned (.func (.func 182) #[] #[.pointer (some ⟨w.heap.size,0,none⟩),.pointer (some ⟨w.heap.size+1,0,none⟩)])∧w'=(w.alloc (.cells #[.int .i64 K] 3)).alloc (.cells #[.int .i64 c] 3):=by
 go_enter Tryz.func148,Tryz.ntmps148;go_wp2;go_ret;exact ⟨rfl,rfl⟩
theorem allRows_small {c k:Nat} (hc:c≤5) (hk:k≤3):(allL c k).length≤125:=by
 have e:∀ k,(allL c k).length=c^k:=fun k=>by
  induction k with
  | zero=>rfl
  | succ k ih=>
   rw[allL,Nat.pow_succ,←ih]
   induction allL c k with
   | nil=>simp
   | cons a r ih=>rw[List.flatMap_cons,List.length_append,ih,List.length_map,List.length_range,List.length_cons,Nat.succ_mul]; omega
 rw[e];have:c^k≤5^k:=Nat.pow_le_pow_left hc _;have:5^k≤5^3:=Nat.pow_le_pow_right (by omega) hk;omega
def AllInv (N:Nat) (w:World) (pre:List (List Int)) (W:World):Prop:=
 (∃ a cap,W.heap[N]?=some (.cells #[.slice a pre.length cap] 79 (0,0))∧OwnII (N+9) W (.slice a pre.length cap) pre)∧Below N w W∧N+9≤W.heap.size+9
theorem allInv_bears (N:Nat) (w:World):Bears (N+3) 6 (AllInv N w):=by
 rintro s A B row ⟨⟨a,cap,h1,h2⟩,h3,h4⟩ hg hr;have hz:=hg.size;refine ⟨⟨a,cap,?_,?_⟩,?_,by omega⟩
 ·rw[hg.block N (Array.getElem?_eq_some_iff.1 h1).1 (fun e=>by have:=hr N e.symm; omega)]; exact h1
 ·exact h2.keep fun b hb hlt=>hg.block b hlt (fun e=>by have:=hr b e.symm; omega)
 ·exact h3.grown hg (Nat.le_of_lt (Array.getElem?_eq_some_iff.1 h1).1) (fun k hk=>by have:=hr k hk; omega)
theorem round_after {N D:Nat} {w W w3:World} {a a3:Option Addr} {cap c3 n:Nat} {pre:List (List Int)} {x:List Int} (hD:D=N+3) (hb0:W.heap[N]?=some (.cells #[.slice a pre.length cap] 79 (0,0))) (ho:OwnII (N+9) W (.slice a pre.length cap) pre)
  (hb:Below N w W) (hsz:N+9≤W.heap.size) (hn:x.length=n) (ho3:OwnI W.heap.size w3 (.slice a3 n c3) x) (hb3:Below W.heap.size W w3) (hpl:pre.length≤125):
  w3.cell? ⟨N,0,none⟩=some (.slice a pre.length cap)∧(w3.alloc (.cells #[.slice a3 n c3] 37)).cell? ⟨N,0,none⟩=some (.slice a pre.length cap)∧∃ a6 c6 w6,(Builtin.append_ #[79,79] 79 #[.slice a pre.length cap,.slice (some ⟨w3.heap.size,0,none⟩) 1 1]).run Tryz.prog (w3.alloc (.cells #[.slice a3 n c3] 37))=.ok (.slice a6 (pre.length+1) c6) w6 ∧
   w6.cell? ⟨N,0,none⟩=some (.slice a pre.length cap)∧w6.frozen? ⟨N,0,none⟩=false∧AllInv N w (pre++[x]) (w6.setCell ⟨N,0,none⟩ (.slice a6 (pre.length+1) c6)) ∧
   Win D (2+4) W (w6.setCell ⟨N,0,none⟩ (.slice a6 (pre.length+1) c6))∧Win (N+1) (D-(N+1)) W (w6.setCell ⟨N,0,none⟩ (.slice a6 (pre.length+1) c6)):=by
 subst hn hD;have hz3:=hb3.size;have hNW:=(Array.getElem?_eq_some_iff.1 hb0).1;have hb4:Below W.heap.size W (w3.alloc (.cells #[.slice a3 x.length c3] 37)):=hb3.alloc hz3 _;have ho4:OwnI W.heap.size (w3.alloc (.cells #[.slice a3 x.length c3] 37)) (.slice a3 x.length c3) x:=World.ownsRow.alloc ho3 _;have hc4:(w3.alloc (.cells #[.slice a3 x.length c3] 37)).cell? ⟨w3.heap.size,0,none⟩=some (.slice a3 x.length c3):=cell_of_one (heap_alloc_new w3 _);obtain ⟨a6,c6,w6,hrun,ho6,hg6⟩:=run_push_row _ 79 (N+9) (.slice a pre.length cap) pre (ho.below hb4) ⟨w3.heap.size,0,none⟩ 1 (.slice a3 x.length c3) x hc4 (ho4.mono (by omega)) (rows_old ho hb4 ho4) (by omega) (by simp; omega);have hz6:=hg6.size;have hown:∀ k,(Value.slice a pre.length cap).ownBlock=some k→N+9≤k:=fun k hk=>by
  obtain ⟨vs,h1,_⟩:=ho;exact (World.ownsRow.lt h1 k hk).1
 have hkeep:∀ b,b<N+9→w6.heap[b]?=W.heap[b]?:=fun b hlt=>by
  rw[hg6.block b (by simp; omega) (fun e=>by have:=hown b e.symm; omega),hb4.block b (by omega)]
 have h06:w6.heap[N]?=some (.cells #[.slice a pre.length cap] 79 (0,0)):=(hkeep N (by omega)).trans hb0;have hset:∀ b,b≠N→(w6.setCell ⟨N,0,none⟩ (.slice a6 (pre.length+1) c6)).heap[b]?=w6.heap[b]?:=fun b hb=>heap_setCell_other _ _ _ _ hb
 have hzs:(w6.setCell ⟨N,0,none⟩ (.slice a6 (pre.length+1) c6)).heap.size=w6.heap.size:=by simp[World.setCell]
 have hz4:(w3.alloc (.cells #[.slice a3 x.length c3] 37)).heap.size=w3.heap.size+1:=by simp
 refine ⟨cell_of_one ((hb3.block N hNW).trans hb0),cell_of_one ((hb4.block N hNW).trans hb0),a6,c6,w6,hrun,cell_of_one h06,frozen_of_row _ _ 0 _ _ h06,⟨⟨a6,c6,?_,?_⟩,?_,by omega⟩,⟨by omega,fun k h1 h2=>?_⟩,⟨by omega,fun k h1 h2=>?_⟩⟩
 ·have:=heap_setCell_same _ _ 0 _ _ (.slice a6 (pre.length+1) c6) h06
  rw[List.length_append,List.length_singleton];exact this
 ·rw[List.length_append,List.length_singleton]
  exact ho6.keep fun b h1 h2=>hset b (by omega)
 ·exact ((hb.trans (hb4.mono (Nat.le_of_lt hNW))).grown hg6 (by omega) (fun k hk=>by have:=hown k hk; omega)).setCell (p:=⟨N,0,none⟩) (Nat.le_refl _) _
 ·rw[hset k (by omega),hkeep k (by omega)]
 ·rw[hset k (by omega),hkeep k (by omega)]
set_option maxHeartbeats 4000000 in
theorem allRows_any (K c:Nat) (w:World) (hK:1≤K) (hK3:K≤3) (hc:c≤5):
  Calls Tryz.prog 113 #[.int .i64 K,.int .i64 c] w (FreshII (allL c K) w):=by
 obtain ⟨W2,hW2⟩:∃ W2,W2=(((w.alloc (.cells #[.slice none 0 0] 79)).alloc (.cells #[.int .i64 (K:Int)] 3)).alloc (.cells #[.int .i64 (c:Int)] 3)):=⟨_,rfl⟩
 have hs2:W2.heap.size=w.heap.size+3:=by rw[hW2]; simp
 have r0:W2.heap[w.heap.size]?=some (.cells #[.slice none 0 0] 79 (0,0)):=by
  rw[hW2,haoI _ _ _ (by simp only[World.size_alloc]; omega),haoI _ _ _ (by simp only[World.size_alloc]; omega)]; exact @Go.heap_alloc_new w _
 have r1:W2.heap[w.heap.size+1]?=some (.cells #[.int .i64 (K:Int)] 3 (0,0)):=by
  rw[hW2,haoI _ _ _ (by simp only[World.size_alloc]; omega)]; have q:=@Go.heap_alloc_new (w.alloc (.cells #[.slice none 0 0] 79)) (.cells #[.int .i64 (K:Int)] 3); simp only[World.size_alloc] at q; exact q
 have r2:W2.heap[w.heap.size+1+1]?=some (.cells #[.int .i64 (c:Int)] 3 (0,0)):=by
  rw[hW2]; have q:=@Go.heap_alloc_new ((w.alloc (.cells #[.slice none 0 0] 79)).alloc (.cells #[.int .i64 (K:Int)] 3)) (.cells #[.int .i64 (c:Int)] 3); simp only[World.size_alloc] at q; exact q
 have hSeq:=rows1_seq (w.heap.size+1) (w.heap.size+1+1) K c (w.heap.size+1) W2 (by omega) (by omega) (by omega) (by omega) r1 r2;have hinv:AllInv w.heap.size w [] W2:=⟨⟨none,0,r0,OwnII.empty _ _⟩,by rw[hW2]; exact (((Below.refl _ _).alloc (Nat.le_refl _) _).alloc (by simp) _).alloc (by simp; omega) _,by omega⟩
 have hbears:=allInv_bears w.heap.size w;rw[←hs2] at hbears;have hR:=rows_any K c (w.alloc (.cells #[.slice none 0 0] 79));rw[World.size_alloc] at hR;refine (callsIn_wide (n:=9)).1 ?_;refine callsIn_of_wp_marks Tryz.func113 rfl trivial ?_ rfl;simp only[Tryz.ntmps113,List.size_toArray,List.length_cons,List.length_nil,Nat.reduceAdd,Nat.reduceSub,Array.replicate_succ,Array.replicate_zero,List.push_toArray,List.append_toArray,List.nil_append,List.cons_append]
 gi_wp2_with (refine ⟨trivial,?_⟩; gi_at_call 148; refine (callsIn_wide.2 hR).mono ?_; rintro e w2 ⟨rfl,rfl⟩)
 rw[←hW2];have HW2:=hdd hW2;have HS2:=hdd hs2;clear hR r0 r1 r2 hW2 hs2;refine wpIn_rangeRows (gf:=182) (lb:=#[.pointer (some ⟨w.heap.size+1,0,none⟩),.pointer (some ⟨w.heap.size+1+1,0,none⟩)]) (lo:=w.heap.size+1) (c:=4) (enc:=encR K) (Info:=InfoR) (xs:=fillL c [] K)
  rfl (enters_of Tryz.func182 (by kernel_rfl) rfl) hSeq (Below.refl _ _) rfl (AllInv w.heap.size w) hbears hinv
  { tmps:=#[.int .i64 K,.int .i64 c,undef,undef,.slice none 0 0,.pointer (some ⟨w.heap.size,0,none⟩),encR K (W2.heap.size+2),.int .i64 K,.int .i64 c,.func (.func 182) #[] #[.pointer (some ⟨w.heap.size+1,0,none⟩),.pointer (some ⟨w.heap.size+1+1,0,none⟩)],encR K (W2.heap.size+2),undef,undef,undef,undef,undef,undef],defers:=[] } ?assign ?body ?info ?done
 case assign=>
  intro l m W Q hQ
  gi_wp2
  exact hQ
 case info=>
  intro x W l o h hl;unfold InfoR at h ⊢;rw[World.putObj_heap_other (by omega)];exact ⟨h.1,by simpa using h.2⟩
 case done=>
  rintro W ⟨⟨a,cap,hb0,ho⟩,hb,_⟩ hk;rw[fill_nil] at hb0 ho;have hs2:=HS2.out;have c0:=cell_of_row _ _ 0 _ _ (0,0) hb0;simp only[List.getElem?_toArray,List.getElem?_cons_zero] at c0;obtain ⟨D,hD⟩:∃ D,D=W2.heap.size:=⟨_,rfl⟩
  rw[←hD] at hk ⊢;have HD:=hdd hD;have HS:=hdd hs2;have HO:=hdd ho;have HB:=hdd hb;have hkD:=(Array.getElem?_eq_some_iff.1 hk).1;clear hD hs2 ho hb hb0 hSeq hinv hbears;simp only[Exit.inBlock,Exit.then]
  gi_wp2
  refine ⟨by simp,.inl ⟨_,_,rfl,run_takeDeferred hk,?_⟩⟩;have hD3:D=w.heap.size+3:=HD.out.trans HS.out;have hbz:=HB.out.size;exact ⟨_,results_tmp rfl _ _ _,a,cap,rfl,(HO.out.keep fun b h1 h2=>World.putObj_heap_other (by omega)).mono (by omega),HB.out.grown (grownBy_putObj' W D _) hbz (fun k hk=>by cases hk; omega)⟩
 case body=>
  rintro l m pre x W ⟨rest,hx⟩ ⟨⟨a,cap,hb0,ho⟩,hb,hsz⟩ hinf;have hs2:=HS2.out;have hxm:x∈allL c K:=by rw[←fill_nil,hx]; simp
  obtain ⟨hxl,hxr⟩:=allL_row hxm;have hpl:pre.length≤125:=by
   have h1:(allL c K).length=pre.length+(rest.length+1):=by rw[←fill_nil,hx]; simp
   have h2:=allRows_small hc hK3;omega
  obtain ⟨g,hg⟩:∃ g,g=W2.heap.size+2+1:=⟨_,rfl⟩
  have hinf':W.heap[g]?=some (.cells (ints x).toArray 3 (0,0)):=by rw[hg]; exact hinf.1
  have hgW:=(Array.getElem?_eq_some_iff.1 hinf').1;have hrow:Ints 0 W (.slice (some ⟨g,0,none⟩) K K) x:=by
   refine ⟨⟨some ⟨g,0,none⟩,K,by rw[ints_length,hxl],by rw[ints_length,hxl]; exact Nat.le_refl _,by omega,fun _=>⟨g,0,rfl,Nat.zero_le _,fun i hi=>?_⟩⟩,fun y hy=>?_⟩
   ·rw[Nat.zero_add,cell_of_row _ _ i _ _ (0,0) hinf',List.getElem?_toArray,List.getElem?_eq_getElem hi]
   ·have:=hxr y hy
    unfold In64; omega
  have hC:=cloneI_any (.slice (some ⟨g,0,none⟩) K K) x W.drew hrow (.inr ⟨_,_,_,rfl⟩) (by omega);unfold FreshI at hC;rw[hxl] at hC;have c0:=cell_of_row _ _ 0 _ _ (0,0) hb0;simp only[List.getElem?_toArray,List.getElem?_cons_zero] at c0;have f0:=frozen_of_row _ _ 0 _ _ hb0;have hmx:Tryz.prog.follows .mixedOrders=true:=by kernel_rfl
  show Code.wpIn (Fence.wide.inRound l) m _ _ _ { tmps:=#[.int .i64 K,.int .i64 c,undef,undef,.slice none 0 0,.pointer (some ⟨w.heap.size,0,none⟩),.slice (some ⟨W2.heap.size+2+1,0,none⟩) K K,.int .i64 K,.int .i64 c,.func (.func 182) #[] #[.pointer (some ⟨w.heap.size+1,0,none⟩),.pointer (some ⟨w.heap.size+1+1,0,none⟩)],.slice (some ⟨W2.heap.size+2+1,0,none⟩) K K,undef,undef,undef,undef,undef,undef],defers:=[] } W
  rw[←hg];have hfx:=fun (w3:World) (a3:Option Addr) (c3:Nat) (ho3:OwnI W.drew.heap.size w3 (.slice a3 K c3) x) (hb3:Below W.drew.heap.size W.drew w3)=>round_after (D:=W2.heap.size) (w:=w) (W:=W.drew) hs2 hb0 ho hb.drew (by have:=hinf.2; show w.heap.size+9≤W.heap.size; omega) hxl ho3 hb3 hpl
  have HO:=hdd ho;have HB:=hdd hb;have HB0:=hdd hb0;have HG:=hdd hg;have HX:=hdd hxl;have HX2:=hdd hx;clear hrow hinf hinf' ho hb hb0 hg hxl hx hs2
  gi_wp2
  have HFX:=hdd hfx;clear hfx;refine wpIn_region_any hmx ?_
  change wpAnyIn _ _ _ _ _ _ _ _ _ (World.drew _)
  repeat' (first
   | (refine wpAnyIn_done (by decide +kernel) ?_ _)
   | (refine wpAnyIn_ready (rs:=[0,1]) (by decide +kernel) (by simp) ?_)
   | (refine wpAnyIn_ready (rs:=[0,2]) (by decide +kernel) (by simp) ?_)
   | (refine wpAnyIn_ready (rs:=[0,3]) (by decide +kernel) (by simp) ?_)
   | (refine wpAnyIn_ready (rs:=[0]) (by decide +kernel) (by simp) ?_)
   | (refine wpAnyIn_ready (rs:=[1]) (by decide +kernel) (by simp) ?_)
   | (refine wpAnyIn_ready (rs:=[2]) (by decide +kernel) (by simp) ?_)
   | (refine wpAnyIn_ready (rs:=[3]) (by decide +kernel) (by simp) ?_)
   | (refine wpAnyIn_ready (rs:=[4]) (by decide +kernel) (by simp) ?_)
   | (refine wpAnyIn_ready (rs:=[5]) (by decide +kernel) (by simp) ?_)
   | exact AllReadyIn.nil
   | (refine AllReadyIn.cons rfl (fun K0 hK0=>?_) ?_)
   | (refine stepIn_push_row _ rfl (.tmp 11) (.tmp 14) rfl (.slice a pre.length cap) (pre.length+1) ⟨w3.heap.size,0,none⟩ 1 a6 c6 w6 rfl rfl HRUN.out ?_; refine hK0 _ _ ?_; clear hK0 K0)
   | (go_simp; refine hK0 _ _ ?_; clear hK0 K0)
   | (go_simp; refine ⟨trivial,fun h=>(by cases h),?_⟩; gi_at_call 131; refine (CallsIn.inRound l (callsIn_wide.2 hC)).mono ?_; rintro e w3 ⟨a3,c3,rfl,ho3,hb3⟩; obtain ⟨c03,c04,a6,c6,w6,hrun,c06,f06,hfin⟩:=HFX.out w3 a3 c3 ho3 hb3; have HRUN:=hdd hrun; have HFIN:=hdd hfin; clear ho3 hb3 hrun hfin; refine hK0 _ _ ?_; clear hK0 K0))
  all_goals
   simp only[Exit.inBlock];obtain ⟨h1,h2,h3⟩:=HFIN.out;exact ⟨h2,h3,h1⟩
structure GrownC (w:World) where
 val:World
 ok:Below w.heap.size w val
instance (w:World):Nonempty (GrownC w):=⟨⟨w,Below.refl _ _⟩⟩
theorem wp_region_grownC {id:Nat} {Q:Exit→Act→World→Prop} {a:Act} {w:World} {l:List Oper} (hm:Tryz.prog.follows .mixedOrders=true) (hB:Region.lexB .any l.toArray=true)
  (h:wpQuiet Tryz.prog l.toArray (fun w'=>∃ z:GrownC w,w'=z.val) (fun a'=>∀ w',(∃ z:GrownC w,w'=z.val)→Q .normal a' w') l a):(Code.region id l.toArray true).wp Tryz.prog Q a w:=
 wp_region_quiet (C:=fun w'=>∃ z:GrownC w,w'=z.val) hm hB ⟨⟨w.drewN 1,(show Drawn w (w.drewN 1) from ⟨1,rfl⟩).below⟩,rfl⟩ (by simpa using h)
theorem neAns (a b c d:Int) (w:World):(binOp .neq 174 (.agg #[.int .i64 a,.int .i64 b]) (.agg #[.int .i64 c,.int .i64 d])).run Tryz.prog w=.ok (.bool (!decide (a=c∧b=d))) w:=by
 have u3:=Tryz.underlying3;have a3:=Tryz.isAgg3;have z3:=Tryz.sizeOf3;have hS:Tryz.prog.underlying 174=some (.struct (Tryz.prog.fieldsOf 174)):=by kernel_rfl
 have hp:Tryz.prog.stoodInHeld 174=false:=by kernel_rfl
 rw[run_neq_struct,show (10000:Nat)=9999+1 from rfl,run_equalIn_agg w 9999 174 _ _ hS hp];simp only[Program.fieldsOf,Tryz.underlying174];go_simp
 by_cases h1:a=c <;> by_cases h2:b=d <;> simp[h1,h2]
theorem gdAns (op:BinOp) (x y:Operand) (a b c d:Int) (w:World):(eqGuard op 174 x y (.agg #[.int .i64 a,.int .i64 b]) (.agg #[.int .i64 c,.int .i64 d])).run Tryz.prog w=.ok () w:=run_eqGuard_agg w op _ x y _ _ (by kernel_rfl)
set_option maxHeartbeats 2000000 in
theorem misfit_tells {B C:Nat} (p c:Int) (bm:Nat) (u:Value) (x:List Int) (V:Nat→Value) (gs:List Gs) (w:World) (hV:∀ i (h:i<gs.length),Ints B w (V i) gs[i].code) (hx:Ints C w u x) (hm:w.cell? ⟨bm,0,none⟩=some u)
  (hcx:CodeP p c x) (hcg:∀ i (h:i<gs.length),CodeP p c gs[i].code):
  TellsG 149 #[.pointer (some ⟨bm,0,none⟩)] (fun g=>!decide (rightZ x g.code=g.right∧nearZ x g.code=g.near)) V gs w:=by
 refine ⟨enters_of Tryz.func149 (by kernel_rfl) rfl,fun W hB i hi=>?_⟩;have hv:=(hV i hi).below hB;have hxw:=hx.below hB;have hcgi:=hcg i hi;obtain ⟨g,hg⟩:∃ g,g=gs[i]:=⟨_,rfl⟩
 rw[←hg] at hv hcgi ⊢;obtain ⟨z,hz⟩:∃ z,z=V i:=⟨_,rfl⟩
 rw[←hz] at hv ⊢;obtain ⟨a,cap,rfl,_⟩:=hv.opened;obtain ⟨au,cu,rfl,_⟩:=hxw.opened;obtain ⟨W1,hW1⟩:∃ W1,W1=W.alloc (.cells #[.slice a g.code.length cap,.int .i64 g.right,.int .i64 g.near] 39):=⟨_,rfl⟩
 have hb1:Below W.heap.size W W1:=by rw[hW1]; exact (Below.refl _ _).alloc (Nat.le_refl _) _
 have hgr:W1.heap[W.heap.size]?=some (.cells #[.slice a g.code.length cap,.int .i64 g.right,.int .i64 g.near] 39 (0,0)):=by rw[hW1]; exact heap_alloc_new W _
 have c1:=(Above.of_below (B:=0) hb1).cell (Nat.zero_le _) ((Above.of_below (B:=0) hB).cell (Nat.zero_le _) hm);have k0:=cell_of_row _ _ 0 _ _ (0,0) hgr;have k1:=cell_of_row _ _ 1 _ _ (0,0) hgr;have k2:=cell_of_row _ _ 2 _ _ (0,0) hgr;simp only[List.getElem?_toArray,List.getElem?_cons_zero,List.getElem?_cons_succ] at k0 k1 k2;have HB1:=hdd hb1;have hlen:x.length=g.code.length:=by have h1:=hcx.2.1; have h2:=hcgi.2.1; omega
 have h5x:∀ y∈x,0≤y∧y<5:=fun y hy=>by have h1:=hcx.2.2 y hy; have h2:=hcx.1.2.2; omega
 have h5g:∀ y∈g.code,0≤y∧y<5:=fun y hy=>by have h1:=hcgi.2.2 y hy; have h2:=hcgi.1.2.2; omega
 have hC:∀ z:GrownC W1,Calls Tryz.prog 150 #[.slice au x.length cu,.slice a g.code.length cap] z.val (fun e w''=>e=.returned (.agg #[.int .i64 (rightZ x g.code),.int .i64 (nearZ x g.code)])∧∃ z':GrownC W1,w''=z'.val):=fun z=>
  (answerI_any _ _ x g.code z.val ((hxw.below hb1).below z.ok) ((hv.below hb1).below z.ok) hlen (by have:=hcx.2.1; have:=hcx.1.1; omega) h5x h5g).mono (fun e w'' ⟨he,hb⟩=>⟨he,⟨w'',z.ok.trans (hb.mono z.ok.size)⟩,rfl⟩)
 have C1:∀ z:GrownC W1,z.val.cell? ⟨bm,0,none⟩=some (.slice au x.length cu):=fun z=>(Above.of_below (B:=0) z.ok).cell (Nat.zero_le _) c1
 have K0:∀ z:GrownC W1,z.val.cell? ⟨W.heap.size,0,none⟩=some (.slice a g.code.length cap):=fun z=>(Above.of_below (B:=0) z.ok).cell (Nat.zero_le _) k0
 have K1:∀ z:GrownC W1,z.val.cell? ⟨W.heap.size,1,none⟩=some (.int .i64 g.right):=fun z=>(Above.of_below (B:=0) z.ok).cell (Nat.zero_le _) k1
 have K2:∀ z:GrownC W1,z.val.cell? ⟨W.heap.size,2,none⟩=some (.int .i64 g.near):=fun z=>(Above.of_below (B:=0) z.ok).cell (Nat.zero_le _) k2
 show Calls _ _ #[gsV (.slice a g.code.length cap) g,.pointer (some ⟨bm,0,none⟩)] W fun e W'=>e=.returned (.bool (!decide (rightZ x g.code=g.right∧nearZ x g.code=g.near)))∧Below W.heap.size W W'
 obtain ⟨r,hr⟩:∃ r,r=rightZ x g.code:=⟨_,rfl⟩
 obtain ⟨n,hn⟩:∃ n,n=nearZ x g.code:=⟨_,rfl⟩
 rw[←hr,←hn] at hC ⊢;have hne:=fun W=>neAns r n g.right g.near W
 have hgd:=fun op x y W=>gdAns op x y r n g.right g.near W
 obtain ⟨b,hb⟩:∃ b,b=(!decide (r=g.right∧n=g.near)):=⟨_,rfl⟩
 rw[←hb] at hne ⊢;clear hr hn hb hg hz hV hm hB hv hxw hx hcx hcg hcgi c1 k0 k1 k2 hgr hb1 hlen h5x h5g;unfold gsV;go_enter Tryz.func149,Tryz.ntmps149;go_wp2;rw[←hW1];clear hW1;refine wp_region_grownC (by kernel_rfl) (by kernel_rfl) ?_
 repeat (first | go_big_quiet_skip | (go_big_quiet_want; go_big_quiet_op; first | go_big_quiet_on | go_big_quiet_call ((go_at_call 150; exact hC _))))
 refine wpQuiet_nil ?_;intro w8 hw8;obtain ⟨z8,hz8⟩:=hw8;have HB8:=hdd (HB1.out.trans (z8.ok.mono HB1.out.size));rw[←hz8] at HB8;clear hz8;go_wp2;go_ret;exact ⟨rfl,HB8.out⟩
theorem any_misfit (x:List Int) (gs:List Gs):(!gs.any fun g=>!decide (rightZ x g.code=g.right∧nearZ x g.code=g.near))=fitsB x gs:=by
 unfold fitsB;rw[List.not_any_eq_all_not]
 congr 1
 funext g
 simp only[Bool.not_not]
theorem fitsI_any {B C:Nat} (p c:Int) (u v:Value) (x:List Int) (gs:List Gs) (w:World) (hx:Ints C w u x) (h:GL B w v gs) (hcx:CodeP p c x) (hg:guessesB p c gs=true):
  Calls Tryz.prog 115 #[u,v] w fun e w'=>e=.returned (.bool (fitsB x gs))∧Below w.heap.size w w':=by
 obtain ⟨W2,hW2⟩:∃ W2,W2=w.alloc (.cells #[u] 37):=⟨_,rfl⟩
 have hb2:Below w.heap.size w W2:=by rw[hW2]; exact (Below.refl _ _).alloc (Nat.le_refl _) _
 have c1:W2.cell? ⟨w.heap.size,0,none⟩=some u:=by rw[hW2]; exact cell_of_one (heap_alloc_new w _)
 have hT:=containsG_any v gs W2 (h.below hb2) 149 #[.pointer (some ⟨w.heap.size,0,none⟩)] (fun g=>!decide (rightZ x g.code=g.right∧nearZ x g.code=g.near)) (fun V hV=>misfit_tells p c _ u x V gs W2 hV (hx.below hb2) c1 hcx (fun i hi=>guess_code hg hi));obtain ⟨au,cu,rfl,_⟩:=hx.opened;have hsh:∃ a cap,v=.slice a gs.length cap:=by obtain ⟨a,cap,_,hv,_⟩:=h; exact ⟨a,cap,hv⟩
 obtain ⟨a,cap,rfl⟩:=hsh;have HB2:=hdd hb2;have HAN:=hdd (any_misfit x gs);rw[hW2] at hT;have HW:=hdd hW2;obtain ⟨r,hr⟩:∃ r,r=gs.any fun g=>!decide (rightZ x g.code=g.right∧nearZ x g.code=g.near):=⟨_,rfl⟩
 rw[←hr] at hT HAN;clear hb2 h hx c1 hW2 hr hcx hg;go_enter Tryz.func115,Tryz.ntmps115;go_wp2_with fail;refine hT.mono ?_;rintro e w3 ⟨rfl,hb3⟩;have HB3:=hdd hb3;clear hT hb3;go_wp2;go_ret;exact ⟨ret_bool (by rw[←HAN.out]),by have h1:=HB3.out; rw[←HW.out] at h1; exact HB2.out.trans (h1.mono HB2.out.size)⟩
theorem keep_tells {B:Nat} (p c:Int) (bm:Nat) (v:Value) (gs:List Gs) (xss:List (List Int)) (w0:World) (h:GL B w0 v gs) (hm:w0.cell? ⟨bm,0,none⟩=some v) (hx:∀ x∈xss,CodeP p c x) (hg:guessesB p c gs=true):
  TellsR 114 #[.pointer (some ⟨bm,0,none⟩)] (fun x=>!fitsB x gs) xss w0:=by
 refine ⟨enters_of Tryz.func114 (by kernel_rfl) rfl,fun W u x hB hu hxm=>?_⟩;have hcx:=hx x hxm;have hF:=fitsI_any p c u v x gs W (hu.toInts (code_in64 hcx)) (h.below hB) hcx hg;have hm':=(Above.of_below (B:=0) hB).cell (Nat.zero_le _) hm;obtain ⟨au,cu,rfl,_⟩:=own_shape hu;have hsh:∃ a cap,v=.slice a gs.length cap:=by obtain ⟨a,cap,_,hv,_⟩:=h; exact ⟨a,cap,hv⟩
 obtain ⟨a,cap,rfl⟩:=hsh
 show Calls _ _ #[.slice au x.length cu,.pointer (some ⟨bm,0,none⟩)] W fun e W'=>e=.returned (.bool (!fitsB x gs))∧Below W.heap.size W W'
 obtain ⟨r,hr⟩:∃ r,r=fitsB x gs:=⟨_,rfl⟩
 rw[←hr] at hF ⊢;clear hr hu hxm hcx hm h hx hg hB;go_enter Tryz.func114,Tryz.ntmps114;go_wp2_with fail;refine hF.mono ?_;rintro e w3 ⟨rfl,hb3⟩;have HB3:=hdd hb3;clear hF hb3;go_wp2;go_ret;exact ⟨rfl,HB3.out⟩
set_option maxHeartbeats 1000000 in
theorem fitI_any {B:Nat} (p c:Int) (v:Value) (gs:List Gs) (w:World) (h:GL B w v gs):
  Calls Tryz.prog 72 #[.int .i64 p,.int .i64 c,v] w (FreshR (fitL p c gs) w):=by
 obtain ⟨W1,hW1⟩:∃ W1,W1=w.alloc (.cells #[v] 28):=⟨_,rfl⟩
 have hb1:Below w.heap.size w W1:=by rw[hW1]; exact (Below.refl _ _).alloc (Nat.le_refl _) _
 have c1:W1.cell? ⟨w.heap.size,0,none⟩=some v:=by rw[hW1]; exact cell_of_one (heap_alloc_new w _)
 have hG:=guessesI_any p c v gs W1 (h.below hb1);have h1:=h.below hb1;have hsh:∃ a cap,v=.slice a gs.length cap:=by obtain ⟨a,cap,_,hv,_⟩:=h; exact ⟨a,cap,hv⟩
 obtain ⟨a,cap,rfl⟩:=hsh;have HB1:=hdd hb1;have HW1:=hdd hW1;have HC1:=hdd c1;rw[hW1] at hG c1;clear h hb1 hW1
 cases hg:guessesB p c gs
 ·rw[hg] at hG
  have HR:=hdd (show fitL p c gs=[] from by unfold fitL; rw[hg]; rfl);clear hg;go_enter Tryz.func72,Tryz.ntmps72;go_wp2_with fail;refine hG.mono ?_;rintro e w2 ⟨rfl,hb2⟩;rw[←HW1.out] at hb2;have HB2:=hdd (HB1.out.trans (hb2.mono HB1.out.size));clear hG hb2;go_wp2;go_ret;exact ⟨none,0,by rw[HR.out]; rfl,by rw[HR.out]; exact OwnR.empty _ _,HB2.out⟩
 ·rw[hg] at hG
  obtain ⟨n,m,rfl,rfl,hn3,hm5⟩:=own_nat (guesses_codes hg);have hcd:=guesses_codes hg;have HR:=hdd (show fitL n m gs=(allL m n).filter (fun x=>!!fitsB x gs) from by unfold fitL; rw[hg]; simp[allP]);have HA:=hdd (fun W=>allRows_any n m W (by unfold codesP at hcd; omega) hn3 hm5);have HT:=hdd (fun (W:World) (hb:Below W1.heap.size W1 W)=>keep_tells n m w.heap.size (.slice a gs.length cap) gs (allL m n) W (h1.below hb) ((Above.of_below (B:=0) hb).cell (Nat.zero_le _) HC1.out) (fun x hx=>(allP_mem hcd (x:=x)).1 (by simpa [allP] using hx)) hg);clear hg hcd h1;go_enter Tryz.func72,Tryz.ntmps72;go_wp2_with fail;refine hG.mono ?_;rintro e w2 ⟨rfl,hb2⟩;rw[←HW1.out] at hb2;have hA:=HA.out w2;have hT:=HT.out w2 hb2;have HB2:=hdd (HB1.out.trans (hb2.mono HB1.out.size));have HB12:=hdd hb2;clear hG hb2;go_wp2_with fail;refine hA.mono ?_;rintro e w3 ⟨a3,c3,rfl,ho3,hb3⟩;have hD:=deleteR_any _ _ w2 w3 hb3 ho3.toR _ _ _ hT;have HZ:=hdd HB2.out.size;clear hA ho3 hb3;go_wp2_with fail;refine hD.mono ?_;rintro e w4 ⟨a4,c4,rfl,ho4,hb4⟩;rw[←HR.out] at ho4 ⊢;have HO4:=hdd (ho4.mono HZ.out);have HB4:=hdd (HB2.out.trans (hb4.mono HZ.out));clear hD ho4 hb4;go_wp2;go_ret;exact ⟨a4,c4,rfl,HO4.out,HB4.out⟩
end
end Go.Proofs.YtenlngclocfnlaaGreatDoor
