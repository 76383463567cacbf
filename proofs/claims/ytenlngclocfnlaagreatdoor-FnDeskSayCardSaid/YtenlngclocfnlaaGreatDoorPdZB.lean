/- Texts of this claim, put together: Clos, AskS, Asked, SayN, SaysI, StrL. -/
import Derived.Test.YtenlngclocfnlaaGreatDoorPdW
import Derived.Test.YtenlngclocfnlaaGreatDoorPdQ
import Derived.Test.YtenlngclocfnlaaGreatDoorPdA
import Derived.Test.YtenlngclocfnlaaGreatDoorPdX
import Derived.Test.YtenlngclocfnlaaGreatDoorPdZ
import Derived.Test.YtenlngclocfnlaaGreatDoorPdU
import Derived.Test.YtenlngclocfnlaaGreatDoorPdZA
import Derived.Test.YtenlngclocfnlaaGreatDoorPdM
import Derived.Test.YtenlngclocfnlaaGreatDoorPdK
import Derived.Test.YtenlngclocfnlaaGreatDoorPdS
import Derived.Test.YtenlngclocfnlaaGreatDoorPdL
import Derived.Test.YtenlngclocfnlaaGreatDoorPdH
import Derived.Deep.RegionHeld3
import Derived.Deep.DeepCutAuto
import Derived.Test.YtenlngclocfnlaaGreatDoorPdGD
namespace Go.Proofs.YtenlngclocfnlaaGreatDoor
set_option linter.unusedVariables false
section
open Go.RowKit
set_option maxRecDepth 100000
def ClosOut (t:List UInt8) (w:World) (e:Ending) (w':World):Prop:=∃ s ok,e=.returned (.tuple #[strV s,.bool ok])∧(if ok=true then s else wNone)=t∧Below w.heap.size w w'
def ClosC (f:FuncId) (N:Nat) (t:List Int→List Int→List UInt8):Prop:=∀ (w:World) (vn vd:Value) (ns ds:List Int),Ints 0 w vn ns→ns.length=N→(∀ y∈ns,-1≤y∧y≤999)→Ints 0 w vd ds→GW w →
 Calls Tryz.prog f #[vn,vd] w (ClosOut (t ns ds) w)
theorem tell_clos (n:Int):(if decide (0≤n)=true then Lib.itoa n else wNone)=tellB n:=by
 unfold tellB Lib.itoa
 by_cases h:0≤n
 ·have hn:¬n<0:=by omega
  simp[h,hn]
 ·have hn:n<0:=by omega
  simp[h,hn]
theorem list_clos (l:List Int):(if decide (0<l.length)=true then dgs l else wNone)=listB l:=by
 unfold listB dgs
 cases l with
 | nil=>rfl
 | cons a r=>rw[if_pos (by simp),if_neg (by simp)]
theorem circL_len {xs:List Int}:(circL xs).length≤1000000:=by
 unfold circL
 split
 ·rename_i hb
  have h1:=(sortI_perm (lensL xs xs.length)).length_eq;have h2:=lensL_len xs xs.length;have h3:=(boxB_iff.1 hb).1.2;omega
 ·simp
theorem circ_small {xs:List Int}:allD (circL xs)=true∧(circL xs).length≤1000000:=by
 refine ⟨List.all_eq_true.2 fun x hx=>?_,circL_len⟩;have:=circL_mem hx;exact inB_of (by omega) (by omega)
theorem hats_small {n:Int} {hs:List Int}:allD (hatsL n hs)=true∧(hatsL n hs).length≤1000000:=
 ⟨List.all_eq_true.2 fun x hx=>inB_of (hatsL_mem hx).1 (hatsL_mem hx).2,by have:=hatsL_len (n:=n) (hs:=hs); omega⟩
set_option maxHeartbeats 4000000 in
theorem clos1_any:ClosC 162 1 tQuestions:=by
 intro w vn vd ns ds hn hl hm hd hg;obtain ⟨x,rfl⟩:∃ x,ns=[x]:=by match ns,hl with | [x],_=>exact ⟨x,rfl⟩
 have hx:=hm x (by simp);obtain ⟨a,cap,rfl,hcap,hmax,hcells⟩:=hn.opened;obtain ⟨b,off,rfl,_,hc⟩:=hcells (by simp);have c0:=hc 0 (by simp);rw[Nat.add_zero,show ([x]:List Int)[0]=x from rfl] at c0;have hT:=leastI_any x w;have HR:=hdd (leastQ_rng x);have HT:=hdd (show tellB (leastQ x)=tQuestions [x] ds from rfl);have HC:=hdd (tell_clos (leastQ x));obtain ⟨n,hnn⟩:∃ n,n=leastQ x:=⟨_,rfl⟩
 rw[←hnn] at hT HR HT HC;have hT2:=told_any n w hg.2 (by have:=HR.out; omega) (by have:=HR.out; omega);rw[←HT.out];obtain ⟨l,hll⟩:∃ l,l=Lib.itoa n:=⟨_,rfl⟩
 rw[←hll] at hT2 HC;unfold strV at hT2;clear hn hm hd hg hcells hc hnn hll;go_enter Tryz.func162,Tryz.ntmps162;go_wp2_with fail;refine hT.mono ?_;rintro e w1 ⟨rfl,rfl⟩;clear hT;go_wp2_with fail;refine hT2.mono ?_;rintro e w2 ⟨rfl,hb⟩;have HB:=hdd hb;clear hT2 hb;go_wp2;go_ret2;exact ⟨l,_,rfl,HC.out,HB.out⟩
set_option maxHeartbeats 4000000 in
theorem clos3_any:ClosC 166 0 tLies:=by
 intro w vn vd ns ds hn hl hm hd hg;have hT:=lieI_any vd ds w hd;have HR:=hdd (fewB_rng ds);have HT:=hdd (show tellB (fewB ds)=tLies ns ds from rfl);have HC:=hdd (tell_clos (fewB ds));obtain ⟨n,hnn⟩:∃ n,n=fewB ds:=⟨_,rfl⟩
 rw[←hnn] at hT HR HT HC;have HT2:=hdd (fun W (h:TabW W)=>told_any n W h (by have:=HR.out; omega) (by have:=HR.out; omega));rw[←HT.out];have HG:=hdd hg;obtain ⟨l,hll⟩:∃ l,l=Lib.itoa n:=⟨_,rfl⟩
 rw[←hll] at HT2 HC;unfold strV at HT2;obtain ⟨a,cap,rfl,_⟩:=hd.opened;obtain ⟨a2,cap2,rfl,_⟩:=hn.opened;clear hn hm hd hg hnn hll;go_enter Tryz.func166,Tryz.ntmps166;go_wp2_with fail;refine hT.mono ?_;rintro e w1 ⟨rfl,hb1⟩;have HB1:=hdd hb1;have hT2:=HT2.out w1 (HG.out.2.below hb1);clear hT hb1;go_wp2_with fail;refine hT2.mono ?_;rintro e w2 ⟨rfl,hb⟩;have HB:=hdd (HB1.out.trans (hb.mono HB1.out.size));clear hT2 hb;go_wp2;go_ret2;exact ⟨l,_,rfl,HC.out,HB.out⟩
theorem allD_in {l:List Int} (h:allD l=true):∀ y∈l,In64 y:=fun y hy=>by
 have:=inB_iff.1 (List.all_eq_true.1 h y hy);unfold In64; omega
set_option maxHeartbeats 4000000 in
theorem clos4_any:ClosC 168 1 tHats:=by
 intro w vn vd ns ds hn hl hm hd hg;obtain ⟨x,rfl⟩:∃ x,ns=[x]:=by match ns,hl with | [x],_=>exact ⟨x,rfl⟩
 have hx:=hm x (by simp);obtain ⟨a,cap,rfl,hcap,hmax,hcells⟩:=hn.opened;obtain ⟨b,off,rfl,_,hc⟩:=hcells (by simp);have c0:=hc 0 (by simp);rw[Nat.add_zero,show ([x]:List Int)[0]=x from rfl] at c0;have hT:=hatsI_any x vd ds w hd (by omega);have HSM:=hdd (hats_small (n:=x) (hs:=ds));have HSM64:=hdd (allD_in (hats_small (n:=x) (hs:=ds)).1);have HC:=hdd (show _=tHats [x] ds from list_clos (hatsL x ds));obtain ⟨L,hL⟩:∃ L,L=hatsL x ds:=⟨_,rfl⟩
 rw[←hL] at hT HSM HSM64 HC;obtain ⟨a,cap,rfl,_⟩:=hd.opened;clear hn hm hd hg hcells hc hL;go_enter Tryz.func168,Tryz.ntmps168;go_wp2_with fail;refine hT.mono ?_;rintro e w1 ⟨a1,c1,rfl,ho1,hb1⟩;have HB1:=hdd hb1;have hT2:=listed_any _ L w1 (ho1.toInts fun y hy=>HSM64.out y hy) HSM.out.1 HSM.out.2;obtain ⟨l,hll⟩:∃ l,l=dgs L:=⟨_,rfl⟩
 rw[←hll] at hT2 HC;unfold strV at hT2;obtain ⟨k,hk⟩:∃ k,k=decide (0<L.length):=⟨_,rfl⟩
 rw[←hk] at hT2 HC;clear hT ho1 hb1 hll hk;go_wp2_with fail;refine hT2.mono ?_;rintro e w2 ⟨rfl,hb⟩;have HB:=hdd (HB1.out.trans (hb.mono HB1.out.size));clear hT2 hb;go_wp2;go_ret2;exact ⟨l,_,rfl,HC.out,HB.out⟩
set_option maxHeartbeats 4000000 in
theorem clos5_any:ClosC 171 0 tCircles:=by
 intro w vn vd ns ds hn hl hm hd hg;have hT:=circI_any vd ds w hd;have HSM:=hdd (circ_small (xs:=ds));have HSM64:=hdd (allD_in (circ_small (xs:=ds)).1);have HC:=hdd (show _=tCircles ns ds from list_clos (circL ds));obtain ⟨L,hL⟩:∃ L,L=circL ds:=⟨_,rfl⟩
 rw[←hL] at hT HSM HSM64 HC;obtain ⟨a,cap,rfl,_⟩:=hd.opened;obtain ⟨a2,cap2,rfl,_⟩:=hn.opened;clear hn hm hd hg hL;go_enter Tryz.func171,Tryz.ntmps171;go_wp2_with fail;refine hT.mono ?_;rintro e w1 ⟨a1,c1,rfl,ho1,hb1⟩;have HB1:=hdd hb1;have hT2:=listed_any _ L w1 (ho1.toInts fun y hy=>HSM64.out y hy) HSM.out.1 HSM.out.2;obtain ⟨l,hll⟩:∃ l,l=dgs L:=⟨_,rfl⟩
 rw[←hll] at hT2 HC;unfold strV at hT2;obtain ⟨k,hk⟩:∃ k,k=decide (0<L.length):=⟨_,rfl⟩
 rw[←hk] at hT2 HC;clear hT ho1 hb1 hll hk;go_wp2_with fail;refine hT2.mono ?_;rintro e w2 ⟨rfl,hb⟩;have HB:=hdd (HB1.out.trans (hb.mono HB1.out.size));clear hT2 hb;go_wp2;go_ret2;exact ⟨l,_,rfl,HC.out,HB.out⟩
set_option maxHeartbeats 4000000 in
theorem clos6_any {hf:Int→List Int} (hh:HuntsOk hf):ClosC 173 1 (tHunt hf):=by
 intro w vn vd ns ds hn hl hm hd hg;obtain ⟨x,rfl⟩:∃ x,ns=[x]:=by match ns,hl with | [x],_=>exact ⟨x,rfl⟩
 have hx:=hm x (by simp);obtain ⟨a,cap,rfl,hcap,hmax,hcells⟩:=hn.opened;obtain ⟨b,off,rfl,_,hc⟩:=hcells (by simp);have c0:=hc 0 (by simp);rw[Nat.add_zero,show ([x]:List Int)[0]=x from rfl] at c0;have hT:=implInRow_any x w;have HH:=hdd (hh x);have HT:=hdd (show listB (hf x)=tHunt hf [x] ds from rfl);rw[←HT.out];obtain ⟨a,cap,rfl,_⟩:=hd.opened;clear hn hm hd hg hcells hc;go_enter Tryz.func173,Tryz.ntmps173;go_wp2_with fail;refine hT.mono ?_;rintro e w0 ⟨a0,k0,rfl,ho0,hb0⟩;have HB0:=hdd hb0;have hT1:=implShortestHunt_any _ (inRowR x) w0 (ho0.rows (inRowR_in64 x));clear hT ho0 hb0;go_wp2_with fail;refine hT1.mono ?_;rintro e w1 ⟨L,ok,a1,c1,rfl,hi,ho1,hb1'⟩;obtain ⟨h1,h2,h3,h4⟩:=HH.out L ok hi;have hT:=(show True from trivial)
 have hb1:=HB0.out.trans (hb1'.mono HB0.out.size);have HSM:=hdd (show allD L=true∧L.length≤1000000 from ⟨h3,by omega⟩);have HSM64:=hdd (allD_in h3);have HC:=hdd (show (if decide (0<L.length)=true then dgs L else wNone)=listB (hf x) by rw[←h1]; exact list_clos L);clear hT1 hi hb1' h1 h2 h3 h4;have HB1:=hdd hb1;have hT2:=listed_any _ L w1 (ho1.toInts fun y hy=>HSM64.out y hy) HSM.out.1 HSM.out.2;obtain ⟨l,hll⟩:∃ l,l=dgs L:=⟨_,rfl⟩
 rw[←hll] at hT2 HC;unfold strV at hT2;obtain ⟨k,hk⟩:∃ k,k=decide (0<L.length):=⟨_,rfl⟩
 rw[←hk] at hT2 HC;clear hT ho1 hb1 hll hk;go_wp2_with fail;refine hT2.mono ?_;rintro e w2 ⟨rfl,hb⟩;have HB:=hdd (HB1.out.trans (hb.mono HB1.out.size));clear hT2 hb;go_wp2;go_ret2;exact ⟨l,_,rfl,HC.out,HB.out⟩
set_option maxHeartbeats 4000000 in
theorem clos2_any:ClosC 164 2 tDrops:=by
 intro w vn vd ns ds hn hl hm hd hg;obtain ⟨x,y,rfl⟩:∃ x y,ns=[x,y]:=by match ns,hl with | [x,y],_=>exact ⟨x,y,rfl⟩
 obtain ⟨a,cap,rfl,hcap,hmax,hcells⟩:=hn.opened;obtain ⟨b,off,rfl,_,hc⟩:=hcells (by simp);have c0:=hc 0 (by simp);have c1:=hc 1 (by simp);rw[Nat.add_zero,show ([x,y]:List Int)[0]=x from rfl] at c0;rw[show ([x,y]:List Int)[1]=y from rfl] at c1;have hbl:=World.block_lt_of_cell? w _ c0;have HC0:=hdd (fun W (h:Below w.heap.size w W)=>(h.cell hbl).trans c0);have HC1:=hdd (fun W (h:Below w.heap.size w W)=>(h.cell (World.block_lt_of_cell? w _ c1)).trans c1);have HD:=hdd (fun W=>dropsI_any x y W);have HR:=hdd (dropsB_rng x y);have HT:=hdd (show tellB (dropsB x y)=tDrops [x,y] ds from rfl);have HC:=hdd (tell_clos (dropsB x y));obtain ⟨n,hnn⟩:∃ n,n=dropsB x y:=⟨_,rfl⟩
 rw[←hnn] at HD HR HT HC;have HG:=hdd hg;have HT2:=hdd (fun W (h:TabW W)=>told_any n W h (by have:=HR.out; omega) (by have:=HR.out; omega));rw[←HT.out];obtain ⟨l,hll⟩:∃ l,l=Lib.itoa n:=⟨_,rfl⟩
 rw[←hll] at HT2 HC;obtain ⟨kb,hk⟩:∃ kb,kb=decide (0≤n):=⟨_,rfl⟩
 rw[←hk] at HT2 HC;unfold strV at HT2;simp only[List.length_cons,List.length_nil,Nat.zero_add,Nat.reduceAdd] at hcap ⊢;clear hn hm hd hg hcells hc hnn hll hk c0 c1 hbl;go_enter Tryz.func164,Tryz.ntmps164;go_wp2;refine wp_region_inv (by kernel_rfl) (fun k=>(#[6,7,8,9,10,11,12,13,14,15,4,5]:Array Nat).getD k 0) 16
  (fun k v W=>match k with
   | 0=>v=.slice (some ⟨b,off,none⟩) 2 cap
   | 1=>v=.pointer (some ⟨b,off,none⟩)
   | 2=>v=.int .i64 x
   | 3=>v=.slice (some ⟨b,off,none⟩) 2 cap
   | 4=>v=.pointer (some ⟨b,off+1,none⟩)
   | 5=>v=.int .i64 y
   | 6=>v=.int .i64 n
   | 7=>v=.tuple #[.string ⟨l.toArray⟩,.bool kb]
   | 8=>v=.string ⟨l.toArray⟩
   | 9=>v=.bool kb
   | 10=>v=.string ⟨l.toArray⟩
   | 11=>v=.bool kb
   | _=>False) ?sz ?chk ?mono ?step ?fin
 case sz=>rfl
 case chk=>kernel_rfl
 case mono=>
  intro k v W W' h hb
  match k,h with
  | 0,h=>exact h
  | 1,h=>exact h
  | 2,h=>exact h
  | 3,h=>exact h
  | 4,h=>exact h
  | 5,h=>exact h
  | 6,h=>exact h
  | 7,h=>exact h
  | 8,h=>exact h
  | 9,h=>exact h
  | 10,h=>exact h
  | 11,h=>exact h
 case step=>
  intro i o ho A W hW hA hD K hK
  match i,ho with
  | 0,ho=>
   obtain rfl:=Option.some.inj ho;have e0:A.tmps.getD 0 undef=.slice (some ⟨b,off,none⟩) 2 cap:=(hA 0 (by kernel_rfl)).trans rfl;have e0':=gDq e0;have HK:=hdd (show ∀ v W',Below W.heap.size W W'→(v=.slice (some ⟨b,off,none⟩) 2 cap)→K (A.put (some 6) v) W' from hK.out);have HW:=hdd hW;clear hA hD hK hW;go_simp;exact HK.out _ _ (Below.refl _ _) rfl
  | 1,ho=>
   obtain rfl:=Option.some.inj ho;have d0:A.tmps.getD 6 undef=.slice (some ⟨b,off,none⟩) 2 cap:=hD 0 (by kernel_rfl);have HK:=hdd (show ∀ v W',Below W.heap.size W W'→(v=.pointer (some ⟨b,off,none⟩))→K (A.put (some 7) v) W' from hK.out);have HW:=hdd hW;clear hA hD hK hW;have d0':=gDq d0;go_simp;exact HK.out _ _ (Below.refl _ _) rfl
  | 2,ho=>
   obtain rfl:=Option.some.inj ho;have d1:A.tmps.getD 7 undef=.pointer (some ⟨b,off,none⟩):=hD 1 (by kernel_rfl);have HK:=hdd (show ∀ v W',Below W.heap.size W W'→(v=.int .i64 x)→K (A.put (some 8) v) W' from hK.out);have HW:=hdd hW;have hcc:=HC0.out W hW;clear hA hD hK hW;have d1':=gDq d1;go_simp;exact HK.out _ _ (Below.refl _ _) rfl
  | 3,ho=>
   obtain rfl:=Option.some.inj ho;have e0:A.tmps.getD 0 undef=.slice (some ⟨b,off,none⟩) 2 cap:=(hA 0 (by kernel_rfl)).trans rfl;have e0':=gDq e0;have HK:=hdd (show ∀ v W',Below W.heap.size W W'→(v=.slice (some ⟨b,off,none⟩) 2 cap)→K (A.put (some 9) v) W' from hK.out);have HW:=hdd hW;clear hA hD hK hW;go_simp;exact HK.out _ _ (Below.refl _ _) rfl
  | 4,ho=>
   obtain rfl:=Option.some.inj ho;have d3:A.tmps.getD 9 undef=.slice (some ⟨b,off,none⟩) 2 cap:=hD 3 (by kernel_rfl);have HK:=hdd (show ∀ v W',Below W.heap.size W W'→(v=.pointer (some ⟨b,off+1,none⟩))→K (A.put (some 10) v) W' from hK.out);have HW:=hdd hW;clear hA hD hK hW;have d3':=gDq d3;go_simp;exact HK.out _ _ (Below.refl _ _) rfl
  | 5,ho=>
   obtain rfl:=Option.some.inj ho;have d4:A.tmps.getD 10 undef=.pointer (some ⟨b,off+1,none⟩):=hD 4 (by kernel_rfl);have HK:=hdd (show ∀ v W',Below W.heap.size W W'→(v=.int .i64 y)→K (A.put (some 11) v) W' from hK.out);have HW:=hdd hW;have hcc:=HC1.out W hW;clear hA hD hK hW;have d4':=gDq d4;go_simp;exact HK.out _ _ (Below.refl _ _) rfl
  | 6,ho=>
   obtain rfl:=Option.some.inj ho;have d2:A.tmps.getD 8 undef=.int .i64 x:=hD 2 (by kernel_rfl);have d5:A.tmps.getD 11 undef=.int .i64 y:=hD 5 (by kernel_rfl);have HK:=hdd (show ∀ v W',Below W.heap.size W W'→(v=.int .i64 n)→K (A.put (some 12) v) W' from hK.out);have HW:=hdd hW;clear hA hD hK hW;have d2':=gDq d2;have d5':=gDq d5;go_simp;refine (HD.out W).mono ?_;rintro e W' ⟨rfl,hb⟩;exact HK.out _ _ hb rfl
  | 7,ho=>
   obtain rfl:=Option.some.inj ho;have d6:A.tmps.getD 12 undef=.int .i64 n:=hD 6 (by kernel_rfl);have HK:=hdd (show ∀ v W',Below W.heap.size W W'→(v=.tuple #[.string ⟨l.toArray⟩,.bool kb])→K (A.put (some 13) v) W' from hK.out);have HW:=hdd hW;clear hA hD hK hW;have d6':=gDq d6;go_simp;refine (HT2.out W (HG.out.2.below HW.out)).mono ?_;rintro e W' ⟨rfl,hb⟩;exact HK.out _ _ hb rfl
  | 8,ho=>
   obtain rfl:=Option.some.inj ho;have d7:A.tmps.getD 13 undef=.tuple #[.string ⟨l.toArray⟩,.bool kb]:=hD 7 (by kernel_rfl);have HK:=hdd (show ∀ v W',Below W.heap.size W W'→(v=.string ⟨l.toArray⟩)→K (A.put (some 14) v) W' from hK.out);have HW:=hdd hW;clear hA hD hK hW;have d7':=gDq d7;go_simp;exact HK.out _ _ (Below.refl _ _) rfl
  | 9,ho=>
   obtain rfl:=Option.some.inj ho;have d7:A.tmps.getD 13 undef=.tuple #[.string ⟨l.toArray⟩,.bool kb]:=hD 7 (by kernel_rfl);have HK:=hdd (show ∀ v W',Below W.heap.size W W'→(v=.bool kb)→K (A.put (some 15) v) W' from hK.out);have HW:=hdd hW;clear hA hD hK hW;have d7':=gDq d7;go_simp;exact HK.out _ _ (Below.refl _ _) rfl
  | 10,ho=>
   obtain rfl:=Option.some.inj ho;have d8:A.tmps.getD 14 undef=.string ⟨l.toArray⟩:=hD 8 (by kernel_rfl);have HK:=hdd (show ∀ v W',Below W.heap.size W W'→(v=.string ⟨l.toArray⟩)→K (A.put (some 4) v) W' from hK.out);have HW:=hdd hW;clear hA hD hK hW;have d8':=gDq d8;go_simp;exact HK.out _ _ (Below.refl _ _) rfl
  | 11,ho=>
   obtain rfl:=Option.some.inj ho;have d9:A.tmps.getD 15 undef=.bool kb:=hD 9 (by kernel_rfl);have HK:=hdd (show ∀ v W',Below W.heap.size W W'→(v=.bool kb)→K (A.put (some 5) v) W' from hK.out);have HW:=hdd hW;clear hA hD hK hW;have d9':=gDq d9;go_simp;exact HK.out _ _ (Below.refl _ _) rfl
  | n+12,ho=>
   simp at ho
 case fin=>
  intro vs W hW h;have h10:vs 10=.string ⟨l.toArray⟩:=h 10 (by simp);have h11:vs 11=.bool kb:=h 11 (by simp);have HB:=hdd hW;rw[invA_lit [none,none,none,none,some 10,some 11,some 0,some 1,some 2,some 3,some 4,some 5,some 6,some 7,some 8,some 9] (by kernel_rfl) rfl];simp only[List.zipWith_cons_cons,List.zipWith_nil_left];rw[h10,h11];clear h h10 h11 hW;go_wp2;go_ret2;exact ⟨l,kb,rfl,HC.out,HB.out⟩
def AskOut (l:List UInt8) (w:World) (e:Ending) (w':World):Prop:=e=.returned (strV l)∧Below w.heap.size w w'
structure WordsAt (g:Nat) (us:List (List UInt8)) (w:World):Prop where
 cell:∀ k (h:k<us.length),w.cell? ⟨g,k,none⟩=some (strV us[k])
 len:∀ u∈us,u.length≤2000000
theorem known_out {n:Int} {w:World} (h:n≤1000000000000):Calls Tryz.prog 103 #[.int .i64 n] w (AskOut (tellB n) w):=known_any n w h
theorem code_out {B:Nat} {v:Value} {L:List Int} {w:World} (h:Ints B w v L) (hs:allD L=true∧L.length≤1000000) (hne:L≠[]):Calls Tryz.prog 69 #[v] w (AskOut (listB L) w):=by
 refine (l15Code_any v L w h hs.1 hs.2).mono ?_;rintro e w' ⟨rfl,hb⟩;refine ⟨?_,hb⟩;unfold listB;rw[if_neg hne]; rfl
theorem rowX_len (l:List UInt8):(rowX l).length≤l.length:=by
 unfold rowX; split <;> simp
set_option maxHeartbeats 4000000 in
theorem askS1 (g cap:Nat) (a:List UInt8) (w:World) (hw:WordsAt g [wQuestions,a] w) (hcap:[wQuestions,a].length≤cap) (hmax:cap≤9223372036854775807):
  Calls Tryz.prog 70 #[.slice (some ⟨g,0,none⟩) [wQuestions,a].length cap] w (AskOut (tellB (leastQ (numL a))) w):=by
 have c0:=hw.cell 0 (by simp);have c1:=hw.cell 1 (by simp);simp only[List.getElem_cons_zero,List.getElem_cons_succ,strV] at c0 c1;have hla:a.length≤2000000:=hw.len a (by simp);simp only[List.length_cons,List.length_nil,Nat.zero_add,Nat.reduceAdd] at hcap ⊢;unfold wQuestions at c0;have hA:=l1Digits_any a w (by omega);have hB:=leastS_any (numL a) w;have hC:=known_out (n:=leastQ (numL a)) (w:=w) (by have:=leastQ_rng (numL a); omega);obtain ⟨x,hx⟩:∃ x,x=numL a:=⟨_,rfl⟩
 rw[←hx] at hA hB hC ⊢;obtain ⟨n,hn⟩:∃ n,n=leastQ x:=⟨_,rfl⟩
 rw[←hn] at hB hC ⊢;obtain ⟨l,hl⟩:∃ l,l=tellB n:=⟨_,rfl⟩
 rw[←hl] at hC ⊢;unfold AskOut strV at hC ⊢;unfold strV at hA;clear hw hx hn hl;go_enter Tryz.func70,Tryz.ntmps70;go_wp2_with fail;refine hA.mono ?_;rintro e w1 ⟨rfl,rfl⟩;go_wp2_with fail;refine hB.mono ?_;rintro e w1 ⟨rfl,rfl⟩;go_wp2_with fail;refine hC.mono ?_;rintro e w1 ⟨rfl,hb⟩;have HB:=hdd hb;clear hA hB hC hb;go_wp2;go_ret;exact ⟨rfl,HB.out⟩
set_option maxHeartbeats 4000000 in
theorem askS3 (g cap:Nat) (a:List UInt8) (w:World) (hw:WordsAt g [wLies,a] w) (hcap:[wLies,a].length≤cap) (hmax:cap≤9223372036854775807):
  Calls Tryz.prog 70 #[.slice (some ⟨g,0,none⟩) [wLies,a].length cap] w (AskOut (if rowB a=true then tellB (fewB (rowX a)) else wNone) w):=by
 have c0:=hw.cell 0 (by simp);have c1:=hw.cell 1 (by simp);simp only[List.getElem_cons_zero,List.getElem_cons_succ,strV] at c0 c1;have hla:a.length≤2000000:=hw.len a (by simp);simp only[List.length_cons,List.length_nil,Nat.zero_add,Nat.reduceAdd] at hcap ⊢;unfold wLies at c0;have hA:=l15Row_any a w (by omega);have HLX:=hdd (show (rowX a).length≤4000000 by have:=rowX_len a; omega);have HXI:=hdd (rowX_in a);obtain ⟨xs,hx⟩:∃ x,x=rowX a:=⟨_,rfl⟩
 obtain ⟨t,ht⟩:∃ x,x=rowB a:=⟨_,rfl⟩
 unfold RowOut at hA;rw[←hx,←ht] at hA;rw[←hx] at HLX HXI;rw[←hx,←ht];have HK:=hdd (fun W=>known_out (n:=fewB xs) (w:=W) (by have:=fewB_rng xs; omega));obtain ⟨l,hl⟩:∃ l,l=tellB (fewB xs):=⟨_,rfl⟩
 rw[←hl] at HK ⊢;unfold strV at hA;unfold AskOut strV at HK ⊢;clear hw hx hl ht
 cases t
 ·have HE:=hdd (show (if false=true then l else wNone)=wNone from rfl)
  go_enter Tryz.func70,Tryz.ntmps70;go_wp2_with fail;refine hA.mono ?_;rintro e w1 ⟨a1,c1',rfl,_,hb⟩;have HB:=hdd hb;clear hA hb;go_wp2;go_ret;exact ⟨rfl,HB.out⟩
 ·have HE:=hdd (show (if true=true then l else wNone)=l from rfl)
  go_enter Tryz.func70,Tryz.ntmps70;go_wp2_with fail;refine hA.mono ?_;rintro e w1 ⟨a1,c1',rfl,ho,hb⟩;have HB1:=hdd hb;have hT:=lieS_any _ xs w1 (ho.toInts HXI.out) HLX.out;obtain ⟨n,hn⟩:∃ n,n=fewB xs:=⟨_,rfl⟩
  rw[←hn] at hT HK;clear hA hb ho hn;go_wp2_with fail;refine hT.mono ?_;rintro e w2 ⟨rfl,hb⟩;have HB2:=hdd (HB1.out.trans (hb.mono HB1.out.size));have hT2:=HK.out w2;clear hT hb;go_wp2_with fail;refine hT2.mono ?_;rintro e w3 ⟨rfl,hb⟩;have HB:=hdd (HB2.out.trans (hb.mono HB2.out.size));clear hT2 hb;go_wp2;go_ret;exact ⟨rfl,HB.out⟩
set_option maxHeartbeats 4000000 in
theorem askS5 (g cap:Nat) (a:List UInt8) (w:World) (hw:WordsAt g [wCircles,a] w) (hcap:[wCircles,a].length≤cap) (hmax:cap≤9223372036854775807):
  Calls Tryz.prog 70 #[.slice (some ⟨g,0,none⟩) [wCircles,a].length cap] w (AskOut (if rowB a=true then listB (circL (rowX a)) else wNone) w):=by
 have c0:=hw.cell 0 (by simp);have c1:=hw.cell 1 (by simp);simp only[List.getElem_cons_zero,List.getElem_cons_succ,strV] at c0 c1;have hla:a.length≤2000000:=hw.len a (by simp);simp only[List.length_cons,List.length_nil,Nat.zero_add,Nat.reduceAdd] at hcap ⊢;unfold wCircles at c0;have hA:=l15Row_any a w (by omega);have HXI:=hdd (rowX_in a);obtain ⟨xs,hx⟩:∃ x,x=rowX a:=⟨_,rfl⟩
 obtain ⟨t,ht⟩:∃ x,x=rowB a:=⟨_,rfl⟩
 unfold RowOut at hA;rw[←hx,←ht] at hA;rw[←hx] at HXI;rw[←hx,←ht];have HS:=hdd (circ_small (xs:=xs));have HM:=hdd (fun W v (h:Ints 0 W v xs)=>circS_any v xs W h);obtain ⟨L,hL⟩:∃ L,L=circL xs:=⟨_,rfl⟩
 rw[←hL] at HS HM ⊢;have HS64:=hdd (allD_in HS.out.1);have HC:=hdd (fun W v (h:Ints 0 W v L) (hne:L≠[])=>code_out h HS.out hne);have HNIL:=hdd (show L=[]→listB L=wNone from fun q=>by rw[q]; rfl);obtain ⟨l,hl⟩:∃ l,l=listB L:=⟨_,rfl⟩
 rw[←hl] at HC HNIL ⊢;unfold strV at hA;unfold AskOut strV at HC ⊢;obtain ⟨r,hr⟩:∃ r,r=(if t=true then l else wNone):=⟨_,rfl⟩
 rw[←hr];have HR:=hdd hr;clear hw hx hl ht hL hr;go_enter Tryz.func70,Tryz.ntmps70;go_wp2_with fail;refine hA.mono ?_;rintro e w1 ⟨a1,c1',rfl,ho,hb⟩;have c0:=(hb.cell (World.block_lt_of_cell? w _ c0)).trans c0;have c1:=(hb.cell (World.block_lt_of_cell? w _ c1)).trans c1;have HB1:=hdd hb;have HX1:=hdd ((ho.toInts HXI.out).mono (Nat.zero_le _));clear hA hb ho;have hT:=HM.out w1 _ HX1.out;go_wp2_with fail;refine hT.mono ?_;rintro e w2 ⟨a2,c2',rfl,ho2,hb2⟩;have HB2:=hdd (HB1.out.trans (hb2.mono HB1.out.size));have HX2:=hdd ((ho2.toInts HS64.out).mono (Nat.zero_le _));clear hT ho2 hb2
 cases t
 ·have HE:=hdd (show r=wNone from HR.out)
  go_wp2;go_ret;exact ⟨by rw[HE.out]; rfl,HB2.out⟩
 ·have HE:=hdd (show r=l from HR.out)
  by_cases hz:L=[]
  ·have HE:=hdd (show r=wNone by rw[HE.out]; exact HNIL.out hz)
   have hz1:(L.length:Int)=0:=by rw[hz]; rfl
   have hz2:((L.length:Int)==0)=true:=by rw[hz]; rfl
   clear hz;go_wp2;go_ret;exact ⟨by rw[HE.out]; rfl,HB2.out⟩
  ·have hp:0<L.length:=by rcases L with _ | ⟨x,t⟩; exact absurd rfl hz; simp
   have hz1:¬((L.length:Int)=0):=by omega
   have hz2:((L.length:Int)==0)=false:=by rw[beq_eq_false_iff_ne]; omega
   have hT:=HC.out w2 _ HX2.out hz;clear hp hz;go_wp2_with fail;refine hT.mono ?_;rintro e w3 ⟨rfl,hb⟩;have HB:=hdd (HB2.out.trans (hb.mono HB2.out.size));clear hT hb;go_wp2;go_ret;exact ⟨by rw[HE.out]; rfl,HB.out⟩
set_option maxHeartbeats 4000000 in
theorem askS4 (g cap:Nat) (a b:List UInt8) (w:World) (hw:WordsAt g [wHats,a,b] w) (hcap:[wHats,a,b].length≤cap) (hmax:cap≤9223372036854775807):
  Calls Tryz.prog 70 #[.slice (some ⟨g,0,none⟩) [wHats,a,b].length cap] w (AskOut (if rowB b=true then listB (hatsL (numL a) (rowX b)) else wNone) w):=by
 have c0:=hw.cell 0 (by simp);have c1:=hw.cell 1 (by simp);have c2:=hw.cell 2 (by simp);simp only[List.getElem_cons_zero,List.getElem_cons_succ,strV] at c0 c1 c2;have hla:a.length≤2000000:=hw.len a (by simp);have hlb:b.length≤2000000:=hw.len b (by simp);simp only[List.length_cons,List.length_nil,Nat.zero_add,Nat.reduceAdd] at hcap ⊢;unfold wHats at c0;have hA:=l15Row_any b w (by omega);have HXI:=hdd (rowX_in b);obtain ⟨xs,hx⟩:∃ x,x=rowX b:=⟨_,rfl⟩
 obtain ⟨t,ht⟩:∃ x,x=rowB b:=⟨_,rfl⟩
 unfold RowOut at hA;rw[←hx,←ht] at hA;rw[←hx] at HXI;rw[←hx,←ht];have HD:=hdd (fun W=>l1Digits_any a W (by omega));have HRN:=hdd (numL_rng a);obtain ⟨n,hn⟩:∃ n,n=numL a:=⟨_,rfl⟩
 rw[←hn] at HD HRN ⊢;unfold strV at HD;clear hn;have HS:=hdd (hats_small (n:=n) (hs:=xs));have HM:=hdd (fun W v (h:Ints 0 W v xs)=>hatsS_any n v xs W h (by have:=HRN.out; omega));obtain ⟨L,hL⟩:∃ L,L=hatsL n xs:=⟨_,rfl⟩
 rw[←hL] at HS HM ⊢;have HS64:=hdd (allD_in HS.out.1);have HC:=hdd (fun W v (h:Ints 0 W v L) (hne:L≠[])=>code_out h HS.out hne);have HNIL:=hdd (show L=[]→listB L=wNone from fun q=>by rw[q]; rfl);obtain ⟨l,hl⟩:∃ l,l=listB L:=⟨_,rfl⟩
 rw[←hl] at HC HNIL ⊢;unfold strV at hA;unfold AskOut strV at HC ⊢;obtain ⟨r,hr⟩:∃ r,r=(if t=true then l else wNone):=⟨_,rfl⟩
 rw[←hr];have HR:=hdd hr;clear hw hx hl ht hL hr;go_enter Tryz.func70,Tryz.ntmps70;go_wp2_with fail;refine hA.mono ?_;rintro e w1 ⟨a1,c1',rfl,ho,hb⟩;have c0:=(hb.cell (World.block_lt_of_cell? w _ c0)).trans c0;have c1:=(hb.cell (World.block_lt_of_cell? w _ c1)).trans c1;have c2:=(hb.cell (World.block_lt_of_cell? w _ c2)).trans c2;have HB1:=hdd hb;have HX1:=hdd ((ho.toInts HXI.out).mono (Nat.zero_le _));clear hA hb ho;have hT:=HD.out w1;go_wp2_with fail;refine hT.mono ?_;rintro e w9 ⟨rfl,rfl⟩;clear hT;have hT:=HM.out w1 _ HX1.out;go_wp2_with fail;refine hT.mono ?_;rintro e w2 ⟨a2,c2',rfl,ho2,hb2⟩;have HB2:=hdd (HB1.out.trans (hb2.mono HB1.out.size));have HX2:=hdd ((ho2.toInts HS64.out).mono (Nat.zero_le _));clear hT ho2 hb2
 cases t
 ·have HE:=hdd (show r=wNone from HR.out)
  go_wp2;go_ret;exact ⟨by rw[HE.out]; rfl,HB2.out⟩
 ·have HE:=hdd (show r=l from HR.out)
  by_cases hz:L=[]
  ·have HE:=hdd (show r=wNone by rw[HE.out]; exact HNIL.out hz)
   have hz1:(L.length:Int)=0:=by rw[hz]; rfl
   have hz2:((L.length:Int)==0)=true:=by rw[hz]; rfl
   clear hz;go_wp2;go_ret;exact ⟨by rw[HE.out]; rfl,HB2.out⟩
  ·have hp:0<L.length:=by rcases L with _ | ⟨x,t⟩; exact absurd rfl hz; simp
   have hz1:¬((L.length:Int)=0):=by omega
   have hz2:((L.length:Int)==0)=false:=by rw[beq_eq_false_iff_ne]; omega
   have hT:=HC.out w2 _ HX2.out hz;clear hp hz;go_wp2_with fail;refine hT.mono ?_;rintro e w3 ⟨rfl,hb⟩;have HB:=hdd (HB2.out.trans (hb.mono HB2.out.size));clear hT hb;go_wp2;go_ret;exact ⟨by rw[HE.out]; rfl,HB.out⟩
set_option maxHeartbeats 4000000 in
theorem askS6 {hf:Int→List Int} (hh:HuntsOk hf) (g cap:Nat) (a:List UInt8) (w:World) (hw:WordsAt g [wHunt,a] w) (hcap:[wHunt,a].length≤cap) (hmax:cap≤9223372036854775807):
  Calls Tryz.prog 70 #[.slice (some ⟨g,0,none⟩) [wHunt,a].length cap] w (AskOut (listB (hf (numL a))) w):=by
 have c0:=hw.cell 0 (by simp);have c1:=hw.cell 1 (by simp);simp only[List.getElem_cons_zero,List.getElem_cons_succ,strV] at c0 c1;have hla:a.length≤2000000:=hw.len a (by simp);simp only[List.length_cons,List.length_nil,Nat.zero_add,Nat.reduceAdd] at hcap ⊢;unfold wHunt at c0;have hA:=l1Digits_any a w (by omega);obtain ⟨x,hx⟩:∃ x,x=numL a:=⟨_,rfl⟩
 rw[←hx] at hA ⊢;have hT:=specInRow_any x w;have HH:=hdd (hh x);obtain ⟨r,hr⟩:∃ r,r=listB (hf x):=⟨_,rfl⟩
 rw[←hr];have HR:=hdd hr;unfold strV at hA;unfold AskOut strV;clear hw hx hr;go_enter Tryz.func70,Tryz.ntmps70;go_wp2_with fail;refine hA.mono ?_;rintro e w1 ⟨rfl,rfl⟩;go_wp2_with fail;refine hT.mono ?_;rintro e w0 ⟨a0,k0,rfl,ho0,hb0⟩;have HB0:=hdd hb0;have hT1:=specShortestHunt_any _ (inRowR x) w0 (ho0.rows (inRowR_in64 x));clear hA hT ho0 hb0;go_wp2_with fail;refine hT1.mono ?_;rintro e w1 ⟨L,ok,a1,c1',rfl,hi,ho1,hb1⟩;obtain ⟨h1,h2,h3,h4⟩:=HH.out L ok hi;have HB1:=hdd (HB0.out.trans (hb1.mono HB0.out.size));have HX:=hdd ((ho1.toInts (allD_in h3)).mono (Nat.zero_le _));clear hT1 ho1 hb1 hi
 cases ok
 ·have hL:L=[]:=Classical.byContradiction fun q=>absurd (h2.2 q) (by simp)
  have HE:=hdd (show r=wNone by rw[HR.out,←h1,hL]; rfl);clear h1 h2 h3 h4 hL;go_wp2;go_ret;exact ⟨by rw[HE.out]; rfl,HB1.out⟩
 ·have hT:=code_out HX.out ⟨h3,by omega⟩ (h2.1 rfl)
  have HE:=hdd (show r=listB L by rw[HR.out,←h1]);obtain ⟨l,hl⟩:∃ l,l=listB L:=⟨_,rfl⟩
  rw[←hl] at hT HE;unfold AskOut strV at hT;clear h1 h2 h3 h4 hl;go_wp2_with fail;refine hT.mono ?_;rintro e w3 ⟨rfl,hb⟩;have HB:=hdd (HB1.out.trans (hb.mono HB1.out.size));clear hT hb;go_wp2;go_ret;exact ⟨by rw[HE.out]; rfl,HB.out⟩
set_option maxHeartbeats 4000000 in
theorem askS2 (g cap:Nat) (a b:List UInt8) (w:World) (hw:WordsAt g [wDrops,a,b] w) (hcap:[wDrops,a,b].length≤cap) (hmax:cap≤9223372036854775807):
  Calls Tryz.prog 70 #[.slice (some ⟨g,0,none⟩) [wDrops,a,b].length cap] w (AskOut (tellB (dropsB (numL a) (numL b))) w):=by
 have c0:=hw.cell 0 (by simp);have c1:=hw.cell 1 (by simp);have c2:=hw.cell 2 (by simp);simp only[List.getElem_cons_zero,List.getElem_cons_succ,strV] at c0 c1 c2;have hla:a.length≤2000000:=hw.len a (by simp);have hlb:b.length≤2000000:=hw.len b (by simp);simp only[List.length_cons,List.length_nil,Nat.zero_add,Nat.reduceAdd] at hcap ⊢;unfold wDrops at c0;have HDA:=hdd (fun W=>l1Digits_any a W (by omega));have HDB:=hdd (fun W=>l1Digits_any b W (by omega));obtain ⟨x,hx⟩:∃ x,x=numL a:=⟨_,rfl⟩
 obtain ⟨y,hy⟩:∃ y,y=numL b:=⟨_,rfl⟩
 rw[←hx] at HDA;rw[←hy] at HDB;rw[←hx,←hy];have HDR:=hdd (fun W=>dropsS_any x y W);have HKN:=hdd (fun W=>known_out (n:=dropsB x y) (w:=W) (by have:=dropsB_rng x y; omega));obtain ⟨n,hn⟩:∃ n,n=dropsB x y:=⟨_,rfl⟩
 rw[←hn] at HDR HKN ⊢;obtain ⟨l,hl⟩:∃ l,l=tellB n:=⟨_,rfl⟩
 rw[←hl] at HKN ⊢;have HC1:=hdd (fun W (h:Below w.heap.size w W)=>(h.cell (World.block_lt_of_cell? w _ c1)).trans c1);have HC2:=hdd (fun W (h:Below w.heap.size w W)=>(h.cell (World.block_lt_of_cell? w _ c2)).trans c2);unfold strV at HDA HDB;unfold AskOut strV at HKN ⊢;clear hw hx hy hn hl c1 c2;go_enter Tryz.func70,Tryz.ntmps70;go_wp2;refine wp_region_inv (by kernel_rfl) (fun k=>(#[39,40,41,42,43,44,45,46,47,48,2]:Array Nat).getD k 0) 154
  (fun k v W=>match k with
   | 0=>v=.slice (some ⟨g,0,none⟩) 3 cap
   | 1=>v=.pointer (some ⟨g,1,none⟩)
   | 2=>v=.string ⟨a.toArray⟩
   | 3=>v=.int .i64 x
   | 4=>v=.slice (some ⟨g,0,none⟩) 3 cap
   | 5=>v=.pointer (some ⟨g,2,none⟩)
   | 6=>v=.string ⟨b.toArray⟩
   | 7=>v=.int .i64 y
   | 8=>v=.int .i64 n
   | 9=>v=.string ⟨l.toArray⟩
   | 10=>v=.string ⟨l.toArray⟩
   | _=>False) ?sz ?chk ?mono ?step ?fin
 case sz=>rfl
 case chk=>kernel_rfl
 case mono=>
  intro k v W W' h hb
  match k,h with
  | 0,h=>exact h
  | 1,h=>exact h
  | 2,h=>exact h
  | 3,h=>exact h
  | 4,h=>exact h
  | 5,h=>exact h
  | 6,h=>exact h
  | 7,h=>exact h
  | 8,h=>exact h
  | 9,h=>exact h
  | 10,h=>exact h
 case step=>
  intro i o ho A W hW hA hD K hK
  match i,ho with
  | 0,ho=>
   obtain rfl:=Option.some.inj ho;have e0:A.tmps.getD 0 undef=.slice (some ⟨g,0,none⟩) 3 cap:=(hA 0 (by kernel_rfl)).trans rfl;have e0':=gDq e0;have HK:=hdd (show ∀ v W',Below W.heap.size W W'→(v=.slice (some ⟨g,0,none⟩) 3 cap)→K (A.put (some 39) v) W' from hK.out);have HW:=hdd hW;clear hA hD hK hW;go_simp;exact HK.out _ _ (Below.refl _ _) rfl
  | 1,ho=>
   obtain rfl:=Option.some.inj ho;have d0:A.tmps.getD 39 undef=.slice (some ⟨g,0,none⟩) 3 cap:=hD 0 (by kernel_rfl);have HK:=hdd (show ∀ v W',Below W.heap.size W W'→(v=.pointer (some ⟨g,1,none⟩))→K (A.put (some 40) v) W' from hK.out);have HW:=hdd hW;clear hA hD hK hW;have d0':=gDq d0;go_simp;exact HK.out _ _ (Below.refl _ _) rfl
  | 2,ho=>
   obtain rfl:=Option.some.inj ho;have d1:A.tmps.getD 40 undef=.pointer (some ⟨g,1,none⟩):=hD 1 (by kernel_rfl);have HK:=hdd (show ∀ v W',Below W.heap.size W W'→(v=.string ⟨a.toArray⟩)→K (A.put (some 41) v) W' from hK.out);have HW:=hdd hW;have hcc:=HC1.out W hW;clear hA hD hK hW;have d1':=gDq d1;go_simp;exact HK.out _ _ (Below.refl _ _) rfl
  | 3,ho=>
   obtain rfl:=Option.some.inj ho;have d2:A.tmps.getD 41 undef=.string ⟨a.toArray⟩:=hD 2 (by kernel_rfl);have HK:=hdd (show ∀ v W',Below W.heap.size W W'→(v=.int .i64 x)→K (A.put (some 42) v) W' from hK.out);have HW:=hdd hW;clear hA hD hK hW;have d2':=gDq d2;go_simp;refine (HDA.out W).mono ?_;rintro e W' ⟨rfl,rfl⟩;exact HK.out _ _ (Below.refl _ _) rfl
  | 4,ho=>
   obtain rfl:=Option.some.inj ho;have e0:A.tmps.getD 0 undef=.slice (some ⟨g,0,none⟩) 3 cap:=(hA 0 (by kernel_rfl)).trans rfl;have e0':=gDq e0;have HK:=hdd (show ∀ v W',Below W.heap.size W W'→(v=.slice (some ⟨g,0,none⟩) 3 cap)→K (A.put (some 43) v) W' from hK.out);have HW:=hdd hW;clear hA hD hK hW;go_simp;exact HK.out _ _ (Below.refl _ _) rfl
  | 5,ho=>
   obtain rfl:=Option.some.inj ho;have d4:A.tmps.getD 43 undef=.slice (some ⟨g,0,none⟩) 3 cap:=hD 4 (by kernel_rfl);have HK:=hdd (show ∀ v W',Below W.heap.size W W'→(v=.pointer (some ⟨g,2,none⟩))→K (A.put (some 44) v) W' from hK.out);have HW:=hdd hW;clear hA hD hK hW;have d4':=gDq d4;go_simp;exact HK.out _ _ (Below.refl _ _) rfl
  | 6,ho=>
   obtain rfl:=Option.some.inj ho;have d5:A.tmps.getD 44 undef=.pointer (some ⟨g,2,none⟩):=hD 5 (by kernel_rfl);have HK:=hdd (show ∀ v W',Below W.heap.size W W'→(v=.string ⟨b.toArray⟩)→K (A.put (some 45) v) W' from hK.out);have HW:=hdd hW;have hcc:=HC2.out W hW;clear hA hD hK hW;have d5':=gDq d5;go_simp;exact HK.out _ _ (Below.refl _ _) rfl
  | 7,ho=>
   obtain rfl:=Option.some.inj ho;have d6:A.tmps.getD 45 undef=.string ⟨b.toArray⟩:=hD 6 (by kernel_rfl);have HK:=hdd (show ∀ v W',Below W.heap.size W W'→(v=.int .i64 y)→K (A.put (some 46) v) W' from hK.out);have HW:=hdd hW;clear hA hD hK hW;have d6':=gDq d6;go_simp;refine (HDB.out W).mono ?_;rintro e W' ⟨rfl,rfl⟩;exact HK.out _ _ (Below.refl _ _) rfl
  | 8,ho=>
   obtain rfl:=Option.some.inj ho;have d3:A.tmps.getD 42 undef=.int .i64 x:=hD 3 (by kernel_rfl);have d7:A.tmps.getD 46 undef=.int .i64 y:=hD 7 (by kernel_rfl);have HK:=hdd (show ∀ v W',Below W.heap.size W W'→(v=.int .i64 n)→K (A.put (some 47) v) W' from hK.out);have HW:=hdd hW;clear hA hD hK hW;have d3':=gDq d3;have d7':=gDq d7;go_simp;refine (HDR.out W).mono ?_;rintro e W' ⟨rfl,hb⟩;exact HK.out _ _ hb rfl
  | 9,ho=>
   obtain rfl:=Option.some.inj ho;have d8:A.tmps.getD 47 undef=.int .i64 n:=hD 8 (by kernel_rfl);have HK:=hdd (show ∀ v W',Below W.heap.size W W'→(v=.string ⟨l.toArray⟩)→K (A.put (some 48) v) W' from hK.out);have HW:=hdd hW;clear hA hD hK hW;have d8':=gDq d8;go_simp;refine (HKN.out W).mono ?_;rintro e W' ⟨rfl,hb⟩;exact HK.out _ _ hb rfl
  | 10,ho=>
   obtain rfl:=Option.some.inj ho;have d9:A.tmps.getD 48 undef=.string ⟨l.toArray⟩:=hD 9 (by kernel_rfl);have HK:=hdd (show ∀ v W',Below W.heap.size W W'→(v=.string ⟨l.toArray⟩)→K (A.put (some 2) v) W' from hK.out);have HW:=hdd hW;clear hA hD hK hW;have d9':=gDq d9;go_simp;exact HK.out _ _ (Below.refl _ _) rfl
  | n+11,ho=>
   simp at ho
 case fin=>
  intro vs W hW h;have h10:vs 10=.string ⟨l.toArray⟩:=h 10 (by simp);have HB:=hdd hW;rw[invA_lit [none,none,some 10,none,none,none,none,none,none,none,none,none,none,none,none,none,none,none,none,none,none,none,none,none,none,none,none,none,none,none,none,none,none,none,none,none,none,none,none,some 0,some 1,some 2,some 3,some 4,some 5,some 6,some 7,some 8,some 9,none,none,none,none,none,none,none,none,none,none,none,none,none,none,none,none,none,none,none,none,none,none,none,none,none,none,none,none,none,none,none,none,none,none,none,none,none,none,none,none,none,none,none,none,none,none,none,none,none,none,none,none,none,none,none,none,none,none,none,none,none,none,none,none,none,none,none,none,none,none,none,none,none,none,none,none,none,none,none,none,none,none,none,none,none,none,none,none,none,none,none,none,none,none,none,none,none,none,none,none,none,none,none,none,none] (by kernel_rfl) rfl];simp only[List.zipWith_cons_cons,List.zipWith_nil_left];rw[h10];clear h h10 hW;go_wp2;go_ret;exact ⟨rfl,HB.out⟩
set_option maxHeartbeats 4000000 in
theorem whatS1 (g cap:Nat) (r:List (List UInt8)) (w:World) (hw:WordsAt g (wQuestions::r) w) (hr:r.length≠1) (hcap:(wQuestions::r).length≤cap) (hmax:cap≤9223372036854775807):
  Calls Tryz.prog 70 #[.slice (some ⟨g,0,none⟩) (wQuestions::r).length cap] w (AskOut wWhat w):=by
 have c0:=hw.cell 0 (by simp);simp only[List.getElem_cons_zero,strV] at c0;obtain ⟨L,hL⟩:∃ L,L=(wQuestions::r).length:=⟨_,rfl⟩
 rw[←hL] at hcap ⊢;have hp:(0:Int)<(L:Int):=by rw[hL,List.length_cons]; omega
 have hn1:¬((L:Int)=2):=by rw[hL]; simp; omega
 have hn2:((L:Int)==2)=false:=by rw[beq_eq_false_iff_ne]; exact hn1
 unfold wQuestions at c0;unfold AskOut strV wWhat;clear hw hr hL;go_enter Tryz.func70,Tryz.ntmps70;go_wp2;go_ret;exact ⟨rfl,Below.refl _ _⟩
set_option maxHeartbeats 4000000 in
theorem whatS2 (g cap:Nat) (r:List (List UInt8)) (w:World) (hw:WordsAt g (wDrops::r) w) (hr:r.length≠2) (hcap:(wDrops::r).length≤cap) (hmax:cap≤9223372036854775807):
  Calls Tryz.prog 70 #[.slice (some ⟨g,0,none⟩) (wDrops::r).length cap] w (AskOut wWhat w):=by
 have c0:=hw.cell 0 (by simp);simp only[List.getElem_cons_zero,strV] at c0;obtain ⟨L,hL⟩:∃ L,L=(wDrops::r).length:=⟨_,rfl⟩
 rw[←hL] at hcap ⊢;have hp:(0:Int)<(L:Int):=by rw[hL,List.length_cons]; omega
 have hn1:¬((L:Int)=3):=by rw[hL]; simp; omega
 have hn2:((L:Int)==3)=false:=by rw[beq_eq_false_iff_ne]; exact hn1
 unfold wDrops at c0;unfold AskOut strV wWhat;clear hw hr hL;go_enter Tryz.func70,Tryz.ntmps70;go_wp2;go_ret;exact ⟨rfl,Below.refl _ _⟩
set_option maxHeartbeats 4000000 in
theorem whatS3 (g cap:Nat) (r:List (List UInt8)) (w:World) (hw:WordsAt g (wLies::r) w) (hr:r.length≠1) (hcap:(wLies::r).length≤cap) (hmax:cap≤9223372036854775807):
  Calls Tryz.prog 70 #[.slice (some ⟨g,0,none⟩) (wLies::r).length cap] w (AskOut wWhat w):=by
 have c0:=hw.cell 0 (by simp);simp only[List.getElem_cons_zero,strV] at c0;obtain ⟨L,hL⟩:∃ L,L=(wLies::r).length:=⟨_,rfl⟩
 rw[←hL] at hcap ⊢;have hp:(0:Int)<(L:Int):=by rw[hL,List.length_cons]; omega
 have hn1:¬((L:Int)=2):=by rw[hL]; simp; omega
 have hn2:((L:Int)==2)=false:=by rw[beq_eq_false_iff_ne]; exact hn1
 unfold wLies at c0;unfold AskOut strV wWhat;clear hw hr hL;go_enter Tryz.func70,Tryz.ntmps70;go_wp2;go_ret;exact ⟨rfl,Below.refl _ _⟩
set_option maxHeartbeats 4000000 in
theorem whatS4 (g cap:Nat) (r:List (List UInt8)) (w:World) (hw:WordsAt g (wHats::r) w) (hr:r.length≠2) (hcap:(wHats::r).length≤cap) (hmax:cap≤9223372036854775807):
  Calls Tryz.prog 70 #[.slice (some ⟨g,0,none⟩) (wHats::r).length cap] w (AskOut wWhat w):=by
 have c0:=hw.cell 0 (by simp);simp only[List.getElem_cons_zero,strV] at c0;obtain ⟨L,hL⟩:∃ L,L=(wHats::r).length:=⟨_,rfl⟩
 rw[←hL] at hcap ⊢;have hp:(0:Int)<(L:Int):=by rw[hL,List.length_cons]; omega
 have hn1:¬((L:Int)=3):=by rw[hL]; simp; omega
 have hn2:((L:Int)==3)=false:=by rw[beq_eq_false_iff_ne]; exact hn1
 unfold wHats at c0;unfold AskOut strV wWhat;clear hw hr hL;go_enter Tryz.func70,Tryz.ntmps70;go_wp2;go_ret;exact ⟨rfl,Below.refl _ _⟩
set_option maxHeartbeats 4000000 in
theorem whatS5 (g cap:Nat) (r:List (List UInt8)) (w:World) (hw:WordsAt g (wCircles::r) w) (hr:r.length≠1) (hcap:(wCircles::r).length≤cap) (hmax:cap≤9223372036854775807):
  Calls Tryz.prog 70 #[.slice (some ⟨g,0,none⟩) (wCircles::r).length cap] w (AskOut wWhat w):=by
 have c0:=hw.cell 0 (by simp);simp only[List.getElem_cons_zero,strV] at c0;obtain ⟨L,hL⟩:∃ L,L=(wCircles::r).length:=⟨_,rfl⟩
 rw[←hL] at hcap ⊢;have hp:(0:Int)<(L:Int):=by rw[hL,List.length_cons]; omega
 have hn1:¬((L:Int)=2):=by rw[hL]; simp; omega
 have hn2:((L:Int)==2)=false:=by rw[beq_eq_false_iff_ne]; exact hn1
 unfold wCircles at c0;unfold AskOut strV wWhat;clear hw hr hL;go_enter Tryz.func70,Tryz.ntmps70;go_wp2;go_ret;exact ⟨rfl,Below.refl _ _⟩
set_option maxHeartbeats 4000000 in
theorem whatS6 (g cap:Nat) (r:List (List UInt8)) (w:World) (hw:WordsAt g (wHunt::r) w) (hr:r.length≠1) (hcap:(wHunt::r).length≤cap) (hmax:cap≤9223372036854775807):
  Calls Tryz.prog 70 #[.slice (some ⟨g,0,none⟩) (wHunt::r).length cap] w (AskOut wWhat w):=by
 have c0:=hw.cell 0 (by simp);simp only[List.getElem_cons_zero,strV] at c0;obtain ⟨L,hL⟩:∃ L,L=(wHunt::r).length:=⟨_,rfl⟩
 rw[←hL] at hcap ⊢;have hp:(0:Int)<(L:Int):=by rw[hL,List.length_cons]; omega
 have hn1:¬((L:Int)=2):=by rw[hL]; simp; omega
 have hn2:((L:Int)==2)=false:=by rw[beq_eq_false_iff_ne]; exact hn1
 unfold wHunt at c0;unfold AskOut strV wWhat;clear hw hr hL;go_enter Tryz.func70,Tryz.ntmps70;go_wp2;go_ret;exact ⟨rfl,Below.refl _ _⟩
set_option maxHeartbeats 4000000 in
theorem whatS (g cap:Nat) (u:List UInt8) (r:List (List UInt8)) (w:World) (hw:WordsAt g (u::r) w) (h1:u≠wQuestions) (h2:u≠wDrops) (h3:u≠wLies) (h4:u≠wHats) (h5:u≠wCircles) (h6:u≠wHunt) (hcap:(u::r).length≤cap) (hmax:cap≤9223372036854775807):
  Calls Tryz.prog 70 #[.slice (some ⟨g,0,none⟩) (u::r).length cap] w (AskOut wWhat w):=by
 have c0:=hw.cell 0 (by simp);simp only[List.getElem_cons_zero,strV] at c0;obtain ⟨L,hL⟩:∃ L,L=(u::r).length:=⟨_,rfl⟩
 rw[←hL] at hcap ⊢;have hp:(0:Int)<(L:Int):=by rw[hL,List.length_cons]; omega
 have b1:(u==[113,117,101,115,116,105,111,110,115])=false:=by simpa [wQuestions] using h1
 have b2:(u==[100,114,111,112,115])=false:=by simpa [wDrops] using h2
 have b3:(u==[108,105,101,115])=false:=by simpa [wLies] using h3
 have b4:(u==[104,97,116,115])=false:=by simpa [wHats] using h4
 have b5:(u==[99,105,114,99,108,101,115])=false:=by simpa [wCircles] using h5
 have b6:(u==[104,117,110,116])=false:=by simpa [wHunt] using h6
 unfold AskOut strV wWhat;clear hw hL h1 h2 h3 h4 h5 h6;go_enter Tryz.func70,Tryz.ntmps70;go_wp2;go_ret;exact ⟨rfl,Below.refl _ _⟩
theorem one_of {r:List (List UInt8)} (h:r.length=1):∃ a,r=[a]:=by match r,h with | [a],_=>exact ⟨a,rfl⟩
theorem two_of {r:List (List UInt8)} (h:r.length=2):∃ a b,r=[a,b]:=by match r,h with | [a,b],_=>exact ⟨a,b,rfl⟩
theorem l15Ask_any {hf:Int→List Int} (hh:HuntsOk hf) (us:List (List UInt8)) (hne:us≠[]) (g cap:Nat) (w:World) (hw:WordsAt g us w) (hcap:us.length≤cap) (hmax:cap≤9223372036854775807):
  Calls Tryz.prog 70 #[.slice (some ⟨g,0,none⟩) us.length cap] w (AskOut (askL hf us) w):=by
 obtain ⟨u,r,rfl⟩:∃ u r,us=u::r:=by match us,hne with | u::r,_=>exact ⟨u,r,rfl⟩
 rw[askL_cons hh]
 by_cases h1:u=wQuestions
 ·subst h1
  rw[if_pos rfl]
  by_cases hr:r.length=1
  ·obtain ⟨a,rfl⟩:=one_of hr
   have e:=askL_cons hh wQuestions [a];rw[if_pos rfl] at e;rw[←e,askL_two];rw[if_pos rfl];exact askS1 g cap a w hw hcap hmax
  ·rw[askG_len (by simpa using hr)]
   exact whatS1 g cap r w hw hr hcap hmax
 ·skip
  by_cases h2:u=wDrops
  ·subst h2
   rw[if_neg (show ¬wDrops=wQuestions by decide),if_pos rfl]
   by_cases hr:r.length=2
   ·obtain ⟨a,b,rfl⟩:=two_of hr
    have e:=askL_cons hh wDrops [a,b];rw[if_neg (show ¬wDrops=wQuestions by decide),if_pos rfl] at e;rw[←e,askL_three];rw[if_pos rfl];exact askS2 g cap a b w hw hcap hmax
   ·rw[askG_len (by simpa using hr)]
    exact whatS2 g cap r w hw hr hcap hmax
  ·skip
   by_cases h3:u=wLies
   ·subst h3
    rw[if_neg (show ¬wLies=wQuestions by decide),if_neg (show ¬wLies=wDrops by decide),if_pos rfl]
    by_cases hr:r.length=1
    ·obtain ⟨a,rfl⟩:=one_of hr
     have e:=askL_cons hh wLies [a];rw[if_neg (show ¬wLies=wQuestions by decide),if_neg (show ¬wLies=wDrops by decide),if_pos rfl] at e;rw[←e,askL_two];rw[if_neg (show ¬wLies=wQuestions by decide),if_pos rfl];exact askS3 g cap a w hw hcap hmax
    ·rw[askG_len (by simpa using hr)]
     exact whatS3 g cap r w hw hr hcap hmax
   ·skip
    by_cases h4:u=wHats
    ·subst h4
     rw[if_neg (show ¬wHats=wQuestions by decide),if_neg (show ¬wHats=wDrops by decide),if_neg (show ¬wHats=wLies by decide),if_pos rfl]
     by_cases hr:r.length=2
     ·obtain ⟨a,b,rfl⟩:=two_of hr
      have e:=askL_cons hh wHats [a,b];rw[if_neg (show ¬wHats=wQuestions by decide),if_neg (show ¬wHats=wDrops by decide),if_neg (show ¬wHats=wLies by decide),if_pos rfl] at e;rw[←e,askL_three];rw[if_neg (show ¬wHats=wDrops by decide),if_pos rfl];exact askS4 g cap a b w hw hcap hmax
     ·rw[askG_len (by simpa using hr)]
      exact whatS4 g cap r w hw hr hcap hmax
    ·skip
     by_cases h5:u=wCircles
     ·subst h5
      rw[if_neg (show ¬wCircles=wQuestions by decide),if_neg (show ¬wCircles=wDrops by decide),if_neg (show ¬wCircles=wLies by decide),if_neg (show ¬wCircles=wHats by decide),if_pos rfl]
      by_cases hr:r.length=1
      ·obtain ⟨a,rfl⟩:=one_of hr
       have e:=askL_cons hh wCircles [a];rw[if_neg (show ¬wCircles=wQuestions by decide),if_neg (show ¬wCircles=wDrops by decide),if_neg (show ¬wCircles=wLies by decide),if_neg (show ¬wCircles=wHats by decide),if_pos rfl] at e;rw[←e,askL_two];rw[if_neg (show ¬wCircles=wQuestions by decide),if_neg (show ¬wCircles=wLies by decide),if_pos rfl];exact askS5 g cap a w hw hcap hmax
      ·rw[askG_len (by simpa using hr)]
       exact whatS5 g cap r w hw hr hcap hmax
     ·skip
      by_cases h6:u=wHunt
      ·subst h6
       rw[if_neg (show ¬wHunt=wQuestions by decide),if_neg (show ¬wHunt=wDrops by decide),if_neg (show ¬wHunt=wLies by decide),if_neg (show ¬wHunt=wHats by decide),if_neg (show ¬wHunt=wCircles by decide),if_pos rfl]
       by_cases hr:r.length=1
       ·obtain ⟨a,rfl⟩:=one_of hr
        have e:=askL_cons hh wHunt [a];rw[if_neg (show ¬wHunt=wQuestions by decide),if_neg (show ¬wHunt=wDrops by decide),if_neg (show ¬wHunt=wLies by decide),if_neg (show ¬wHunt=wHats by decide),if_neg (show ¬wHunt=wCircles by decide),if_pos rfl] at e;rw[←e,askL_two];rw[if_neg (show ¬wHunt=wQuestions by decide),if_neg (show ¬wHunt=wLies by decide),if_neg (show ¬wHunt=wCircles by decide),if_pos rfl];exact askS6 hh g cap a w hw hcap hmax
       ·rw[askG_len (by simpa using hr)]
        exact whatS6 g cap r w hw hr hcap hmax
      ·skip
       rw[if_neg h1,if_neg h2,if_neg h3,if_neg h4,if_neg h5,if_neg h6];exact whatS g cap u r w hw h1 h2 h3 h4 h5 h6 hcap hmax
theorem ask_some {hf:Int→List Int} (hh:HuntsOk hf) {u:List UInt8} {n:Int} {D:Bool} {f:FuncId} (h:qOf u=some (n,D,f)):
  ∃ (m:Nat) (t:List Int→List Int→List UInt8),n=m∧(m≤2∧1≤m+D.toNat)∧ClosC f m t∧(f=162∨f=164∨f=166∨f=168∨f=171∨f=173)∧∀ r,askL hf (u::r)=askG m D r t:=by
 unfold qOf at h
 by_cases h1:u=wQuestions
 ·rw[if_pos h1] at h
  simp only[Option.some.injEq,Prod.mk.injEq] at h;obtain ⟨rfl,rfl,rfl⟩:=h;exact ⟨1,_,rfl,by decide,clos1_any,by decide,fun r=>by rw[askL_cons hh,if_pos h1]⟩
 rw[if_neg h1] at h
 by_cases h2:u=wDrops
 ·rw[if_pos h2] at h
  simp only[Option.some.injEq,Prod.mk.injEq] at h;obtain ⟨rfl,rfl,rfl⟩:=h;exact ⟨2,_,rfl,by decide,clos2_any,by decide,fun r=>by rw[askL_cons hh,if_neg h1,if_pos h2]⟩
 rw[if_neg h2] at h
 by_cases h3:u=wLies
 ·rw[if_pos h3] at h
  simp only[Option.some.injEq,Prod.mk.injEq] at h;obtain ⟨rfl,rfl,rfl⟩:=h;exact ⟨0,_,rfl,by decide,clos3_any,by decide,fun r=>by rw[askL_cons hh,if_neg h1,if_neg h2,if_pos h3]⟩
 rw[if_neg h3] at h
 by_cases h4:u=wHats
 ·rw[if_pos h4] at h
  simp only[Option.some.injEq,Prod.mk.injEq] at h;obtain ⟨rfl,rfl,rfl⟩:=h;exact ⟨1,_,rfl,by decide,clos4_any,by decide,fun r=>by rw[askL_cons hh,if_neg h1,if_neg h2,if_neg h3,if_pos h4]⟩
 rw[if_neg h4] at h
 by_cases h5:u=wCircles
 ·rw[if_pos h5] at h
  simp only[Option.some.injEq,Prod.mk.injEq] at h;obtain ⟨rfl,rfl,rfl⟩:=h;exact ⟨0,_,rfl,by decide,clos5_any,by decide,fun r=>by rw[askL_cons hh,if_neg h1,if_neg h2,if_neg h3,if_neg h4,if_pos h5]⟩
 rw[if_neg h5] at h
 by_cases h6:u=wHunt
 ·rw[if_pos h6] at h
  simp only[Option.some.injEq,Prod.mk.injEq] at h;obtain ⟨rfl,rfl,rfl⟩:=h;exact ⟨1,_,rfl,by decide,clos6_any hh,by decide,fun r=>by rw[askL_cons hh,if_neg h1,if_neg h2,if_neg h3,if_neg h4,if_neg h5,if_pos h6]⟩
 rw[if_neg h6] at h
 cases h
theorem ask_none {hf:Int→List Int} (hh:HuntsOk hf) {u:List UInt8} (h:qOf u=none) (r:List (List UInt8)):askL hf (u::r)=wWhat:=by
 unfold qOf at h
 by_cases h1:u=wQuestions
 ·rw[if_pos h1] at h; cases h
 rw[if_neg h1] at h
 by_cases h2:u=wDrops
 ·rw[if_pos h2] at h; cases h
 rw[if_neg h2] at h
 by_cases h3:u=wLies
 ·rw[if_pos h3] at h; cases h
 rw[if_neg h3] at h
 by_cases h4:u=wHats
 ·rw[if_pos h4] at h; cases h
 rw[if_neg h4] at h
 by_cases h5:u=wCircles
 ·rw[if_pos h5] at h; cases h
 rw[if_neg h5] at h
 by_cases h6:u=wHunt
 ·rw[if_pos h6] at h; cases h
 rw[askL_cons hh,if_neg h1,if_neg h2,if_neg h3,if_neg h4,if_neg h5,if_neg h6]
def QC (x y z:Value):Obj:=.cells #[x,y,z] 150 (0,0)
structure RelQ (B:Nat) (x y z:Value) (W W':World):Prop where
 below:Below B W W'
 maps:∀ b,QMap b W→QMap b W'
 box:∀ G,(∃ x y z,At W G (QC x y z))→∃ x y z,At W' G (QC x y z)
 full:∀ G,At W G (QC x y z)→At W' G (QC x y z)
theorem RelQ.refl (B:Nat) (x y z:Value) (W:World):RelQ B x y z W W:=⟨Below.refl _ _,fun _ h=>h,fun _ h=>h,fun _ h=>h⟩
theorem RelQ.trans {B:Nat} {x y z:Value} {a b c:World} (h:RelQ B x y z a b) (h':RelQ B x y z b c):RelQ B x y z a c:=
 ⟨h.below.trans h'.below,fun b q=>h'.maps b (h.maps b q),fun G q=>h'.box G (h.box G q),fun G q=>h'.full G (h.full G q)⟩
theorem RelQ.of {B:Nat} {x y z:Value} {W W':World} (h:Below W.heap.size W W') (hB:B≤W.heap.size):RelQ B x y z W W':=
 ⟨h.mono hB,fun _ q=>q.below h,fun G ⟨x,y,z,q⟩=>⟨x,y,z,q.below h⟩,fun G q=>q.below h⟩
theorem QMap.not_cells {b G:Nat} {W:World} {cs:Array Value} {t:TypeId} {fr:Nat×Nat} (h:QMap b W) (hG:W.heap[G]?=some (.cells cs t fr)):b≠G:=by
 obtain ⟨D,⟨es,clock,hb,_⟩,_⟩:=h;intro e;subst e;rw[hb] at hG
 cases hG
theorem RelQ.store {B G:Nat} {x y z x' y' z':Value} {W:World} (h:At W G (QC x' y' z')) (hG:B≤G):
  RelQ B x y z W (((W.setCell ⟨G,0,none⟩ x).setCell ⟨G,1,none⟩ y).setCell ⟨G,2,none⟩ z)∧At (((W.setCell ⟨G,0,none⟩ x).setCell ⟨G,1,none⟩ y).setCell ⟨G,2,none⟩ z) G (QC x y z):=by
 have q1:=heap_setCell_same _ _ 0 _ _ x h;have q2:=heap_setCell_same _ _ 1 _ _ y q1;have q3:At (((W.setCell ⟨G,0,none⟩ x).setCell ⟨G,1,none⟩ y).setCell ⟨G,2,none⟩ z) G (QC x y z):=heap_setCell_same _ _ 2 _ _ z q2;have hg:=grownT (grownT (grownBy_setCell W ⟨G,0,none⟩ x) (grownBy_setCell (W.setCell ⟨G,0,none⟩ x) ⟨G,1,none⟩ y)) (grownBy_setCell ((W.setCell ⟨G,0,none⟩ x).setCell ⟨G,1,none⟩ y) ⟨G,2,none⟩ z);have other:∀ k,k<W.heap.size→k≠G→(((W.setCell ⟨G,0,none⟩ x).setCell ⟨G,1,none⟩ y).setCell ⟨G,2,none⟩ z).heap[k]?=W.heap[k]?:=fun k hk hne=>hg.block k hk (fun e=>hne (by injection e))
 refine ⟨⟨(((Below.refl _ _).setCell (p:=⟨G,0,none⟩) hG _).setCell (p:=⟨G,1,none⟩) hG _).setCell (p:=⟨G,2,none⟩) hG _,fun b q=>?_,fun G' q=>?_,fun G' q=>?_⟩,q3⟩
 ·have hne:=q.not_cells h
  obtain ⟨D,hm,hD⟩:=q;exact ⟨D,hm.kept hg (fun e=>hne (by injection e)),hD⟩
 ·by_cases e:G'=G
  ·subst e; exact ⟨x,y,z,q3⟩
  ·obtain ⟨a,b,c,hq⟩:=q
   exact ⟨a,b,c,(other G' hq.lt e).trans hq⟩
 ·by_cases e:G'=G
  ·subst e; exact q3
  ·exact (other G' q.lt e).trans q
def MadeQ (W:World) (x y z:Value) (s:Value) (wx:World):Prop:=∃ G,s=.pointer (some ⟨G,0,none⟩)∧At wx G (QC x y z)∧Below W.heap.size W wx∧G<wx.heap.size
theorem qVal_agg (o:Option (Int×Bool×FuncId)):∃ (n:Int) (d:Bool) (z:Value),qVal o=.agg #[.int .i64 n,.bool d,z]∧z.oneCell'=true:=by
 rcases o with _ | ⟨n,d,f⟩
 ·exact ⟨0,false,.nilFunc,rfl,rfl⟩
 ·exact ⟨n,d,_,rfl,rfl⟩
def InvA (m:Nat) (r:List (List UInt8)) (i:Nat) (ns:List Int):Prop:=ns=(r.take (min i m)).map numL∧∀ u∈r.take (min i m),0≤numL u
theorem InvA.start (m:Nat) (r:List (List UInt8)):InvA m r 0 []:=by simp[InvA]
theorem InvA.num {m:Nat} {r:List (List UInt8)} {i:Nat} {ns:List Int} (h:InvA m r i ns) (hi:i<m) (hr:i<r.length) (h0:0≤numL r[i]):InvA m r (i+1) (ns++[numL r[i]]):=by
 obtain ⟨h1,h2⟩:=h;rw[Nat.min_eq_left (by omega)] at h1 h2;unfold InvA;rw[Nat.min_eq_left (by omega),List.take_succ_eq_append_getElem hr,List.map_append,h1];refine ⟨rfl,fun u hu=>?_⟩
 rcases List.mem_append.1 hu with hu | hu
 ·exact h2 u hu
 ·rw[List.mem_singleton.1 hu]; exact h0
theorem InvA.keep {m:Nat} {r:List (List UInt8)} {i:Nat} {ns:List Int} (h:InvA m r i ns) (hi:m≤i):InvA m r (i+1) ns:=by
 unfold InvA at h ⊢;rw[Nat.min_eq_right (by omega)] at h ⊢;exact h
theorem InvA.len {m:Nat} {r:List (List UInt8)} {i:Nat} {ns:List Int} (h:InvA m r i ns) (hi:i≤r.length):ns.length=min i m:=by
 rw[h.1]; simp; omega
theorem askG_bad {m:Nat} {D:Bool} {r:List (List UInt8)} {t:List Int→List Int→List UInt8} (hl:r.length=m+D.toNat) {i:Nat} (hi:i<m) (hr:i<r.length) (h:¬0≤numL r[i]):askG m D r t=wNone:=by
 have hb:goodG m D r=false:=by
  unfold goodG;rw[Bool.and_eq_false_iff]
  left
  rw[List.all_eq_false];refine ⟨r[i],?_,by simpa using h⟩;rw[List.mem_iff_getElem];exact ⟨i,by simp; omega,by rw[List.getElem_take]⟩
 unfold askG;rw[if_pos hl,hb]; rfl
theorem askG_badrow {m:Nat} {r:List (List UInt8)} {t:List Int→List Int→List UInt8} (hl:r.length=m+1) (hr:m<r.length) (h:rowB r[m]=false):askG m true r t=wNone:=by
 have hb:goodG m true r=false:=by
  unfold goodG;rw[Bool.and_eq_false_iff]
  right
  have:r.getD m []=r[m]:=by simp[List.getD,List.getElem?_eq_getElem hr]
  rw[this,h]; rfl
 unfold askG;rw[if_pos (show r.length=m+true.toNat by simpa using hl),hb]; rfl
theorem InvA.fin0 {m:Nat} {r:List (List UInt8)} {ns:List Int} (hl:r.length=m) (h:InvA m r r.length ns) (t:List Int→List Int→List UInt8):askG m false r t=t ns []∧ns.length=m∧∀ y∈ns,-1≤y∧y≤999:=by
 have hn:=h.len (Nat.le_refl _);obtain ⟨h1,h2⟩:=h;rw[Nat.min_eq_right (by omega)] at h1 h2 hn;have hg:goodG m false r=true:=by
  unfold goodG;rw[Bool.and_eq_true,List.all_eq_true];exact ⟨fun u hu=>decide_eq_true (h2 u hu),rfl⟩
 refine ⟨?_,hn,fun y hy=>?_⟩
 ·unfold askG
  rw[if_pos (by simpa using hl),if_pos hg,←h1]; rfl
 ·rw[h1] at hy
  obtain ⟨u,hu,rfl⟩:=List.mem_map.1 hy;exact numL_rng u
theorem InvA.fin1 {m:Nat} {r:List (List UInt8)} {ns:List Int} (hl:r.length=m+1) (h:InvA m r r.length ns) (hr:m<r.length) (hb:rowB r[m]=true) (t:List Int→List Int→List UInt8):askG m true r t=t ns (rowX r[m])∧ns.length=m∧∀ y∈ns,-1≤y∧y≤999:=by
 have hn:=h.len (Nat.le_refl _);obtain ⟨h1,h2⟩:=h;rw[Nat.min_eq_right (by omega)] at h1 h2 hn;have he:r.getD m []=r[m]:=by simp[List.getD,List.getElem?_eq_getElem hr]
 have hg:goodG m true r=true:=by
  unfold goodG;rw[Bool.and_eq_true,List.all_eq_true,he,hb];exact ⟨fun u hu=>decide_eq_true (h2 u hu),rfl⟩
 refine ⟨?_,hn,fun y hy=>?_⟩
 ·unfold askG
  rw[if_pos (by simpa using hl),if_pos hg,←h1,he]; rfl
 ·rw[h1] at hy
  obtain ⟨u,hu,rfl⟩:=List.mem_map.1 hy;exact numL_rng u
theorem num_in64 {ns:List Int} (h:∀ y∈ns,-1≤y∧y≤999):∀ y∈ns,In64 y:=fun y hy=>by have:=h y hy; unfold In64; omega
set_option maxHeartbeats 16000000 in
theorem asked_any {hf:Int→List Int} (hh:HuntsOk hf) (l:List UInt8) (w:World) (hl:l.length≤2000000) (hg:GW w):
  Calls Tryz.prog 93 #[strV l] w (AskOut (askL hf (words 32 l)) w):=by
 have hS:=split_any l w (by omega) hg.1;have HG:=hdd hg;have HWL:=hdd (words_le 32 l);have HWN:=hdd (words_ne 32 l);have HWC:=hdd (words_len 32 l);obtain ⟨ans,hans⟩:∃ a,a=askL hf (words 32 l):=⟨_,rfl⟩
 rw[←hans];unfold AskOut;unfold strV at hS ⊢;clear hg;go_enter Tryz.func93,Tryz.ntmps93;go_wp2_with fail;refine hS.mono ?_;rintro e w1 ⟨g,cap,rfl,hc1,hc2,hcs,hg1,hg2,hb1⟩;obtain ⟨us,hus⟩:∃ us,us=words 32 l:=⟨_,rfl⟩
 rw[←hus] at hc1 hcs HWL HWN HWC hans ⊢;have HCNT:=hdd (show us.length≤3000000 by rw[HWC.out]; have:=List.count_le_length (a:=32) (l:=l); omega);obtain ⟨u0,r,rfl⟩:∃ u r,us=u::r:=by match us,HWN.out with | u::r,_=>exact ⟨u,r,rfl⟩
 have HANS:=hdd hans;clear hans;have c0:=hcs 0 (by simp);simp only[List.getElem_cons_zero] at c0;unfold strV at c0;have HCW:=hdd (fun W (h:Below w1.heap.size w1 W)=>(h.cell hg2).trans c0);have HWS:=hdd (fun i (hi:i<r.length) W (h:Below w1.heap.size w1 W)=>show W.cell? ⟨g,i+1,none⟩=some (.string ⟨r[i].toArray⟩) from (h.cell hg2).trans (hcs (i+1) (by simp; omega)));have HRL:=hdd (fun u (hu:u∈r)=>show u.length≤2000000 from Nat.le_trans (HWL.out u (by simp[hu])) hl);have hu0:u0.length≤2000000:=Nat.le_trans (HWL.out u0 (by simp)) hl;have HB1:=hdd hb1;have HG1:=hdd (HG.out.below hb1);obtain ⟨o,ho⟩:∃ o,o=qOf u0:=⟨_,rfl⟩
 have HLK:=hdd (fun b W (h:QMap b W)=>h.look (u:=u0) (by omega));rw[←ho] at HLK;obtain ⟨n,d,z,hv,hone⟩:=qVal_agg o;have HST1:=hdd (fun (a:Addr) (W:World)=>show (store a z .plain).run Tryz.prog W=stored Tryz.prog W a z .plain from run_store _ W a z .plain hone);rw[hv] at HLK;have HV:=hdd hv;have HO:=hdd ho;obtain ⟨kn,hkn⟩:∃ kn,kn=o.isSome:=⟨_,rfl⟩
 have HKN:=hdd hkn;rw[←hkn] at HLK;unfold strV at HLK;obtain ⟨L,hL⟩:∃ L,L=(u0::r).length:=⟨_,rfl⟩
 rw[←hL] at hc1 HCNT ⊢;have HL:=hdd (show L=r.length+1 by rw[hL]; rfl);have hp0:0<L:=by rw[hL,List.length_cons]; omega
 have hp:(0:Int)<(L:Int):=by rw[hL,List.length_cons]; omega
 clear hone hS hus hcs hb1 c0 hv ho hkn hL hl hg1;go_upto_region 2 with fail;go_cut [4,5] (fun s t wx=>t=.bool kn∧MadeQ w1 (.int .i64 n) (.bool d) z s wx)
 case first=>
  refine wp_region_invN (Rel:=RelQ w1.heap.size (.int .i64 n) (.bool d) z) 9 8 (fun a b c=>RelQ.trans) (fun w=>⟨(Below.refl _ _).drew,fun _ q=>q.below (Below.refl _ _).drew,fun _ q=>q,fun _ q=>q⟩) (by kernel_rfl) (fun k=>(#[21,22,23,24,25,20,26,27,4,1000,5]:Array Nat).getD k 0) 89
   (fun k v W=>match k with
    | 0=>∃ b,v=.map (some b)∧QMap b W
    | 1=>v=.slice (some ⟨g,0,none⟩) L cap
    | 2=>v=.pointer (some ⟨g,0,none⟩)
    | 3=>v=.string ⟨u0.toArray⟩
    | 4=>v=.tuple #[.agg #[.int .i64 n,.bool d,z],.bool kn]
    | 5=>v=.tuple #[.agg #[.int .i64 n,.bool d,z],.bool kn]
    | 6=>v=.agg #[.int .i64 n,.bool d,z]
    | 7=>v=.bool kn
    | 8=>∃ G,v=.pointer (some ⟨G,0,none⟩)∧w1.heap.size≤G∧∃ x y z,At W G (QC x y z)
    | 9=>∃ G,v=.pointer (some ⟨G,0,none⟩)∧At W G (QC (.int .i64 n) (.bool d) z)
    | 10=>v=.bool kn
    | _=>False) ?sz ?chk ?mono ?step ?fin
  case sz=>rfl
  case chk=>kernel_rfl
  case mono=>
   intro k v W W' h hb
   match k,h with
   | 0,h=>exact (by obtain ⟨b,h1,h2⟩:=h; exact ⟨b,h1,hb.maps b h2⟩)
   | 1,h=>exact h
   | 2,h=>exact h
   | 3,h=>exact h
   | 4,h=>exact h
   | 5,h=>exact h
   | 6,h=>exact h
   | 7,h=>exact h
   | 8,h=>exact (by obtain ⟨G,h1,h2,h3⟩:=h; exact ⟨G,h1,h2,hb.box G h3⟩)
   | 9,h=>exact (by obtain ⟨G,h1,h2⟩:=h; exact ⟨G,h1,hb.full G h2⟩)
   | 10,h=>exact h
  case step=>
   intro i o ho A W hW hA hD K hK
   match i,ho with
   | 0,ho=>
    obtain rfl:=Option.some.inj ho;have HK:=hdd (show ∀ v W',RelQ w1.heap.size (.int .i64 n) (.bool d) z W W'→(∃ b,v=.map (some b)∧QMap b W')→K (A.put (some 21) v) W' from fun v W' h1 h2=>hK.out v W' h1 h2 (fun q=>absurd q (by decide)));have HW:=hdd hW;clear hA hD hK hW;go_simp;refine (questions_any W).mono ?_;rintro e W' ⟨b,rfl,hq,hb⟩;exact HK.out _ _ (RelQ.of hb HW.out.below.size) ⟨b,rfl,hq⟩
   | 1,ho=>
    obtain rfl:=Option.some.inj ho;have e3:A.tmps.getD 3 undef=.slice (some ⟨g,0,none⟩) L cap:=(hA 3 (by kernel_rfl)).trans rfl;have e3':=gDq e3;have HK:=hdd (show ∀ v W',RelQ w1.heap.size (.int .i64 n) (.bool d) z W W'→(v=.slice (some ⟨g,0,none⟩) L cap)→K (A.put (some 22) v) W' from fun v W' h1 h2=>hK.out v W' h1 h2 (fun q=>absurd q (by decide)));have HW:=hdd hW;clear hA hD hK hW;go_simp;exact HK.out _ _ (RelQ.refl _ _ _ _ _) rfl
   | 2,ho=>
    obtain rfl:=Option.some.inj ho;have d1:A.tmps.getD 22 undef=.slice (some ⟨g,0,none⟩) L cap:=hD 1 (by decide) (by kernel_rfl);have HK:=hdd (show ∀ v W',RelQ w1.heap.size (.int .i64 n) (.bool d) z W W'→(v=.pointer (some ⟨g,0,none⟩))→K (A.put (some 23) v) W' from fun v W' h1 h2=>hK.out v W' h1 h2 (fun q=>absurd q (by decide)));have HW:=hdd hW;clear hA hD hK hW;have d1':=gDq d1;go_simp;exact HK.out _ _ (RelQ.refl _ _ _ _ _) rfl
   | 3,ho=>
    obtain rfl:=Option.some.inj ho;have d2:A.tmps.getD 23 undef=.pointer (some ⟨g,0,none⟩):=hD 2 (by decide) (by kernel_rfl);have HK:=hdd (show ∀ v W',RelQ w1.heap.size (.int .i64 n) (.bool d) z W W'→(v=.string ⟨u0.toArray⟩)→K (A.put (some 24) v) W' from fun v W' h1 h2=>hK.out v W' h1 h2 (fun q=>absurd q (by decide)));have HW:=hdd hW;have hcc:=HCW.out W hW.below;clear hA hD hK hW;have d2':=gDq d2;go_simp;exact HK.out _ _ (RelQ.refl _ _ _ _ _) rfl
   | 4,ho=>
    obtain rfl:=Option.some.inj ho;have d0:∃ b,(A.tmps.getD 21 undef)=.map (some b)∧QMap b W:=hD 0 (by decide) (by kernel_rfl);have d3:A.tmps.getD 24 undef=.string ⟨u0.toArray⟩:=hD 3 (by decide) (by kernel_rfl);have HK:=hdd (show ∀ v W',RelQ w1.heap.size (.int .i64 n) (.bool d) z W W'→(v=.tuple #[.agg #[.int .i64 n,.bool d,z],.bool kn])→K (A.put (some 25) v) W' from fun v W' h1 h2=>hK.out v W' h1 h2 (fun q=>absurd q (by decide)));have HW:=hdd hW;clear hA hD hK hW;obtain ⟨v0,hv0⟩:∃ z,A.tmps.getD 21 undef=z:=⟨_,rfl⟩
    rw[hv0] at d0;have hv0':=gDq hv0;have d3':=gDq d3;obtain ⟨b,rfl,hq⟩:=d0;have hlk:=HLK.out b W hq;go_simp;exact HK.out _ _ (RelQ.refl _ _ _ _ _) rfl
   | 5,ho=>
    obtain rfl:=Option.some.inj ho;have d4:A.tmps.getD 25 undef=.tuple #[.agg #[.int .i64 n,.bool d,z],.bool kn]:=hD 4 (by decide) (by kernel_rfl);have HK:=hdd (show ∀ v W',RelQ w1.heap.size (.int .i64 n) (.bool d) z W W'→(v=.tuple #[.agg #[.int .i64 n,.bool d,z],.bool kn])→K (A.put (some 20) v) W' from fun v W' h1 h2=>hK.out v W' h1 h2 (fun q=>absurd q (by decide)));have HW:=hdd hW;clear hA hD hK hW;have d4':=gDq d4;go_simp;exact HK.out _ _ (RelQ.refl _ _ _ _ _) rfl
   | 6,ho=>
    obtain rfl:=Option.some.inj ho;have d5:A.tmps.getD 20 undef=.tuple #[.agg #[.int .i64 n,.bool d,z],.bool kn]:=hD 5 (by decide) (by kernel_rfl);have HK:=hdd (show ∀ v W',RelQ w1.heap.size (.int .i64 n) (.bool d) z W W'→(v=.agg #[.int .i64 n,.bool d,z])→K (A.put (some 26) v) W' from fun v W' h1 h2=>hK.out v W' h1 h2 (fun q=>absurd q (by decide)));have HW:=hdd hW;clear hA hD hK hW;have d5':=gDq d5;go_simp;exact HK.out _ _ (RelQ.refl _ _ _ _ _) rfl
   | 7,ho=>
    obtain rfl:=Option.some.inj ho;have d5:A.tmps.getD 20 undef=.tuple #[.agg #[.int .i64 n,.bool d,z],.bool kn]:=hD 5 (by decide) (by kernel_rfl);have HK:=hdd (show ∀ v W',RelQ w1.heap.size (.int .i64 n) (.bool d) z W W'→(v=.bool kn)→K (A.put (some 27) v) W' from fun v W' h1 h2=>hK.out v W' h1 h2 (fun q=>absurd q (by decide)));have HW:=hdd hW;clear hA hD hK hW;have d5':=gDq d5;go_simp;exact HK.out _ _ (RelQ.refl _ _ _ _ _) rfl
   | 8,ho=>
    obtain rfl:=Option.some.inj ho;have HK:=hdd (show ∀ v W',RelQ w1.heap.size (.int .i64 n) (.bool d) z W W'→(∃ G,v=.pointer (some ⟨G,0,none⟩)∧w1.heap.size≤G∧∃ x y z,At W' G (QC x y z))→K (A.put (some 4) v) W' from fun v W' h1 h2=>hK.out v W' h1 h2 (fun q=>absurd q (by decide)));have HW:=hdd hW;have hsz:=hW.below.size;clear hA hD hK hW;go_simp;exact HK.out _ _ (RelQ.of ((Below.refl _ _).alloc (Nat.le_refl _) _) hsz) ⟨_,rfl,hsz,_,_,_,At.new W _⟩
   | 9,ho=>
    obtain rfl:=Option.some.inj ho;have d6:A.tmps.getD 26 undef=.agg #[.int .i64 n,.bool d,z]:=hD 6 (by decide) (by kernel_rfl);have d8:∃ G,(A.tmps.getD 4 undef)=.pointer (some ⟨G,0,none⟩)∧w1.heap.size≤G∧∃ x y z,At W G (QC x y z):=hD 8 (by decide) (by kernel_rfl);have HK:=hdd (show ∀ W',RelQ w1.heap.size (.int .i64 n) (.bool d) z W W'→(∃ G,(A.tmps.getD 4 undef)=.pointer (some ⟨G,0,none⟩)∧At W' G (QC (.int .i64 n) (.bool d) z))→K A W' from fun W' h1 h2=>hK.out _ W' h1 h2 (fun _=>rfl));have HW:=hdd hW;clear hA hD hK hW;have d6':=gDq d6;obtain ⟨v8,hv8⟩:∃ z,A.tmps.getD 4 undef=z:=⟨_,rfl⟩
    rw[hv8] at d8 HK;have hv8':=gDq hv8;obtain ⟨G,rfl,hG,x',y',z',hat⟩:=d8;obtain ⟨x0,x1,x2⟩:=At.three hat;have hth:=At.thaw hat;have HST:=hdd (RelQ.store (x:=.int .i64 n) (y:=.bool d) (z:=z) hat hG);have hst:=HST1.out;clear hat;go_simp;exact HK.out _ HST.out.1 ⟨G,rfl,HST.out.2⟩
   | 10,ho=>
    obtain rfl:=Option.some.inj ho;have d7:A.tmps.getD 27 undef=.bool kn:=hD 7 (by decide) (by kernel_rfl);have HK:=hdd (show ∀ v W',RelQ w1.heap.size (.int .i64 n) (.bool d) z W W'→(v=.bool kn)→K (A.put (some 5) v) W' from fun v W' h1 h2=>hK.out v W' h1 h2 (fun q=>absurd q (by decide)));have HW:=hdd hW;clear hA hD hK hW;have d7':=gDq d7;go_simp;exact HK.out _ _ (RelQ.refl _ _ _ _ _) rfl
   | n+11,ho=>
    simp at ho
  case fin=>
   intro vs W hW h hce;obtain ⟨G,h8,hG,_⟩:=(show ∃ G,vs 8=.pointer (some ⟨G,0,none⟩)∧w1.heap.size≤G∧∃ x y z,At W G (QC x y z) from h 8 (by decide))
   obtain ⟨G',h9,hat⟩:=(show ∃ G,vs 9=.pointer (some ⟨G,0,none⟩)∧At W G (QC (.int .i64 n) (.bool d) z) from h 9 (by decide))
   have h10:vs 10=.bool kn:=h 10 (by decide);rw[h8,h9] at hce;injection hce with hce;injection hce with hce;injection hce with hce _ _;subst hce;have HM:=hdd (show MadeQ w1 (.int .i64 n) (.bool d) z (.pointer (some ⟨G',0,none⟩)) W from ⟨G',rfl,hat,hW.below,hat.lt⟩);rw[invA_lit [none,none,none,none,some 8,some 10,none,none,none,none,none,none,none,none,none,none,none,none,none,none,some 5,some 0,some 1,some 2,some 3,some 4,some 6,some 7,none,none,none,none,none,none,none,none,none,none,none,none,none,none,none,none,none,none,none,none,none,none,none,none,none,none,none,none,none,none,none,none,none,none,none,none,none,none,none,none,none,none,none,none,none,none,none,none,none,none,none,none,none,none,none,none,none,none,none,none,none] (by kernel_rfl) rfl];simp only[List.zipWith_cons_cons,List.zipWith_nil_left];rw[h8,h10];clear h h8 h9 h10 hW hat;go_wp2_with fail;go_meet;exact ⟨rfl,HM.out⟩
 case rest=>
  obtain ⟨rfl,G,rfl,hat,hb2,hGl⟩:=hcut;obtain ⟨w2,rfl⟩:∃ z,z=wc:=⟨_,rfl⟩
  have HB2:=hdd (HB1.out.trans (hb2.mono HB1.out.size));have HAT:=hdd hat;have HG2:=hdd (HG1.out.below hb2);have HWS2:=hdd (fun i (hi:i<r.length)=>HWS.out i hi w2 hb2);obtain ⟨z0,z1,z2⟩:=At.three hat;clear hat hb2 hg2 HLK HCW HWS
  rcases o with _ | ⟨n',d',f⟩
  ·have hk:kn=false:=HKN.out
   subst hk;have HE:=hdd (show ans=wWhat by rw[HANS.out]; exact ask_none hh HO.out.symm r);have hv:=HV.out;simp only[qVal,qZ,Value.agg.injEq,Array.mk.injEq,List.cons.injEq,Value.int.injEq,Value.bool.injEq,true_and,and_true] at hv;obtain ⟨rfl,rfl,rfl⟩:=hv;obtain ⟨C,rfl⟩:∃ C,cap=C+1:=⟨cap-1,by omega⟩
   obtain rfl:=HL.out;clear hu0;go_wp2
   all_goals
    go_ret;exact ⟨by rw[HE.out]; rfl,HB2.out⟩
  ·have hk:kn=true:=HKN.out
   subst hk;have hv:=HV.out;simp only[qVal,qV,Value.agg.injEq,Array.mk.injEq,List.cons.injEq,Value.int.injEq,Value.bool.injEq,true_and,and_true] at hv;obtain ⟨rfl,rfl,rfl⟩:=hv;obtain ⟨m,t,rfl,⟨hm,hmD⟩,hcl,hf6,hask⟩:=ask_some hh HO.out.symm;have HASK:=hdd (show ans=askG m d' r t by rw[HANS.out]; exact hask r);have HCL:=hdd hcl;obtain ⟨C,rfl⟩:∃ C,cap=C+1:=⟨cap-1,by omega⟩
   obtain rfl:=HL.out;clear hask hcl hu0
   by_cases hlen:r.length=m+d'.toNat
   ·have hC0:¬(C=0):=by omega
    cases d'
    ·have hrm:r.length=m:=by simpa using hlen
     have heq:((r.length:Int) != (m:Int))=false:=by simp[hrm]
     have heq2:(r.length:Int)=(m:Int):=by omega
     have HRM:=hdd hrm;have hr3:r.length≤3:=by omega
     clear hlen hmD hrm heq2;go_wp2;go_loopw [8,9,46] (fun nv lv iv wi=>∃ (i:Nat) (an:Option Addr) (cn:Nat) (ns:List Int),i≤r.length∧iv=.int .i64 i∧nv=.slice an ns.length cn∧OwnI w2.heap.size wi (.slice an ns.length cn) ns∧InvA m r i ns∧lv=.slice none 0 0∧Below w2.heap.size w2 wi) (fun _ _ iv _=>r.length-(intOf iv).toNat)
     case atStart=>exact ⟨0,none,0,[],by omega,rfl,rfl,OwnI.empty _ _,InvA.start _ _,rfl,Below.refl _ _⟩
     case round=>
      obtain ⟨i,an,cn,ns,hi,rfl,rfl,hon,hia,rfl,hb⟩:=hrel;obtain ⟨wi,rfl⟩:∃ z,z=wr:=⟨_,rfl⟩
      have HB:=hdd hb;have HON:=hdd hon;have HIA:=hdd hia;clear z0 z1 z2;obtain ⟨z0,z1,z2⟩:=At.three (HAT.out.below hb);clear hon hia
      by_cases hir:i<r.length
      ·have hcw:=(hb.cell (World.block_lt_of_cell? w2 _ (HWS2.out i hir))).trans (HWS2.out i hir)
       rw[Nat.add_comm i 1] at hcw;have hi0:(0:Int)≤(i:Int):=by omega
       have hi1:(i:Int)<(r.length:Int):=by omega
       have hi9:(i:Int)≤5:=by omega
       clear hb;have hT:=numberOf_any r[i] wi (by have:=HRL.out r[i] (List.getElem_mem hir); omega);unfold NumOut strV at hT;have HNUM:=hdd (show 0≤numL r[i]→InvA m r (i+1) (ns++[numL r[i]]) from fun q=>HIA.out.num (by have:=HRM.out; omega) hir q);have HBAD:=hdd (show ¬0≤numL r[i]→ans=wNone from fun q=>by rw[HASK.out]; exact askG_bad (by have:=HRM.out; simp; omega) (by have:=HRM.out; omega) hir q);have hnl:ns.length≤3:=by have:=HIA.out.len (by omega); omega
       obtain ⟨x,hx⟩:∃ x,x=numL r[i]:=⟨_,rfl⟩
       rw[←hx] at hT HNUM HBAD;have HX:=hdd (show In64 x by rw[hx]; have:=numL_rng r[i]; unfold In64; omega);obtain ⟨rw_,hrw⟩:∃ z,z=r[i]:=⟨_,rfl⟩
       rw[←hrw] at hT hcw;clear hx hrw
       by_cases h0:0≤x
       ·rw[if_neg (by omega),decide_eq_true h0] at hT
        have HI2:=hdd (HNUM.out h0);go_wp2_with fail;refine hT.mono ?_;rintro e w4 ⟨rfl,hb4⟩;have HB4:=hdd (HB.out.trans (hb4.mono HB.out.size));have HO4:=hdd (HON.out.below hb4);clear hT hb4 z0 z1 z2 hcw;go_wp2_with (at_builtin; refine wpList_push_int _ rfl (.tmp 74) (.tmp 76) rfl w2.heap.size (.slice an ns.length cn) ns rfl (World.ownsRow.alloc HO4.out _) ⟨w4.heap.size,0,none⟩ 1 x rfl (by simp) (by omega) (by have:=HB4.out.size; simp; omega) ?_; intro a7 c7 w7 ho7 hg7; have HB7:=hdd ((HB4.out.alloc HB4.out.size _).grown hg7 (by have:=HB4.out.size; simp; omega) (fun j hj=>(World.ownsRow.lt HO4.out j hj).1)); have HO7:=hdd (show OwnI w2.heap.size w7 (.slice a7 (ns++[x]).length c7) (ns++[x]) by rw[List.length_append]; exact ho7); have HLE:=hdd (show ns.length+1=(ns++[x]).length by simp); clear ho7 hg7; rw[HLE.out]);go_roundw
        case rel=>exact ⟨i+1,a7,c7,ns++[x],by omega,by go_num,(by rw[←HLE.out]),HO7.out,HI2.out,rfl,HB7.out⟩
        case measure=>simp[intOf]; omega
       ·rw[if_pos (by omega),decide_eq_false h0] at hT
        have HE:=hdd (HBAD.out h0);go_wp2_with fail;refine hT.mono ?_;rintro e w4 ⟨rfl,hb4⟩;have HB4:=hdd (HB2.out.trans ((HB.out.trans (hb4.mono HB.out.size)).mono HB2.out.size));clear hT hb4 z0 z1 z2 hcw;go_wp2;go_ret;exact ⟨by rw[HE.out]; rfl,HB4.out⟩
      ·have hri:i=r.length:=by omega
       subst hri;have hi1:¬((r.length:Int)<(r.length:Int)):=by omega
       clear hb;obtain ⟨f1,f2,f3⟩:=InvA.fin0 HRM.out HIA.out t;have HE:=hdd (show ans=t ns [] by rw[HASK.out]; exact f1);have hT:=HCL.out wi _ _ ns [] ((HON.out.toInts (num_in64 f3)).mono (Nat.zero_le _)) f2 f3 (Ints.nil _ _) (HG2.out.below HB.out);unfold ClosOut strV at hT;clear f1 f2 f3 z0 z1 HCL
       rcases hf6 with rfl | rfl | rfl | rfl | rfl | rfl
       all_goals
        go_wp2_with fail;refine hT.mono ?_;rintro e w5 ⟨s,ok,rfl,hs,hb5⟩;have HB5:=hdd (HB2.out.trans ((HB.out.trans (hb5.mono HB.out.size)).mono HB2.out.size));have HS:=hdd hs;clear hT hs hb5 z2
        cases ok
        ·have HE2:=hdd (show ans=wNone by rw[HE.out,←HS.out]; rfl)
         go_wp2;go_ret;exact ⟨by rw[HE2.out]; rfl,HB5.out⟩
        ·have HE2:=hdd (show ans=s by rw[HE.out,←HS.out]; rfl)
         go_wp2;go_ret;exact ⟨by rw[HE2.out]; rfl,HB5.out⟩
    ·have hrm:r.length=m+1:=by simpa using hlen
     have heq:((r.length:Int) != (m:Int)+1)=false:=by simp[hrm]
     have heq2:(r.length:Int)=(m:Int)+1:=by omega
     have hmr:m<r.length:=by omega
     have HRM:=hdd hrm;have hr3:r.length≤3:=by omega
     clear hlen hmD hrm heq2;go_wp2;go_loopw [8,9,46] (fun nv lv iv wi=>∃ (i:Nat) (an:Option Addr) (cn:Nat) (ns:List Int),i≤r.length∧iv=.int .i64 i∧nv=.slice an ns.length cn∧OwnI w2.heap.size wi (.slice an ns.length cn) ns∧InvA m r i ns∧(∃ lx,lv=lx∧((i≤m∧lx=.slice none 0 0)∨(m<i∧rowB r[m]=true∧∃ al cl,lx=.slice al (rowX r[m]).length cl∧OwnI w2.heap.size wi (.slice al (rowX r[m]).length cl) (rowX r[m]))))∧Below w2.heap.size w2 wi) (fun _ _ iv _=>r.length-(intOf iv).toNat)
     case atStart=>exact ⟨0,none,0,[],by omega,rfl,rfl,OwnI.empty _ _,InvA.start _ _,⟨_,rfl,.inl ⟨by omega,rfl⟩⟩,Below.refl _ _⟩
     case round=>
      obtain ⟨i,an,cn,ns,hi,rfl,rfl,hon,hia,⟨lx,hlx,hlv⟩,hb⟩:=hrel;have hlx2:=hlx.symm;subst hlx2;obtain ⟨wi,rfl⟩:∃ z,z=wr:=⟨_,rfl⟩
      have HB:=hdd hb;have HON:=hdd hon;have HIA:=hdd hia;clear z0 z1 z2;obtain ⟨z0,z1,z2⟩:=At.three (HAT.out.below hb);clear hon hia
      by_cases hir:i<r.length
      ·have hcw:=(hb.cell (World.block_lt_of_cell? w2 _ (HWS2.out i hir))).trans (HWS2.out i hir)
       rw[Nat.add_comm i 1] at hcw;have hi0:(0:Int)≤(i:Int):=by omega
       have hi1:(i:Int)<(r.length:Int):=by omega
       have hi9:(i:Int)≤5:=by omega
       clear hb;obtain rfl:lx=.slice none 0 0:=by
        rcases hlv with ⟨_,q⟩ | ⟨q,_⟩
        ·exact q
        ·have:=HRM.out; omega
       clear hlv
       by_cases him:i<m
       ·have hie:((i:Int)==(m:Int))=false:=by rw[beq_eq_false_iff_ne]; omega
        have hie2:¬((i:Int)=(m:Int)):=by omega
        have hT:=numberOf_any r[i] wi (by have:=HRL.out r[i] (List.getElem_mem hir); omega);unfold NumOut strV at hT;have HNUM:=hdd (show 0≤numL r[i]→InvA m r (i+1) (ns++[numL r[i]]) from fun q=>HIA.out.num (by have:=HRM.out; omega) hir q);have HBAD:=hdd (show ¬0≤numL r[i]→ans=wNone from fun q=>by rw[HASK.out]; exact askG_bad (by have:=HRM.out; simp; omega) (by have:=HRM.out; omega) hir q);have hnl:ns.length≤3:=by have:=HIA.out.len (by omega); omega
        obtain ⟨x,hx⟩:∃ x,x=numL r[i]:=⟨_,rfl⟩
        rw[←hx] at hT HNUM HBAD;have HX:=hdd (show In64 x by rw[hx]; have:=numL_rng r[i]; unfold In64; omega);obtain ⟨rw_,hrw⟩:∃ z,z=r[i]:=⟨_,rfl⟩
        rw[←hrw] at hT hcw;clear hx hrw
        by_cases h0:0≤x
        ·rw[if_neg (by omega),decide_eq_true h0] at hT
         have HI2:=hdd (HNUM.out h0);go_wp2_with fail;refine hT.mono ?_;rintro e w4 ⟨rfl,hb4⟩;have HB4:=hdd (HB.out.trans (hb4.mono HB.out.size));have HO4:=hdd (HON.out.below hb4);clear hT hb4 z0 z1 z2 hcw;go_wp2_with (at_builtin; refine wpList_push_int _ rfl (.tmp 74) (.tmp 76) rfl w2.heap.size (.slice an ns.length cn) ns rfl (World.ownsRow.alloc HO4.out _) ⟨w4.heap.size,0,none⟩ 1 x rfl (by simp) (by omega) (by have:=HB4.out.size; simp; omega) ?_; intro a7 c7 w7 ho7 hg7; have HB7:=hdd ((HB4.out.alloc HB4.out.size _).grown hg7 (by have:=HB4.out.size; simp; omega) (fun j hj=>(World.ownsRow.lt HO4.out j hj).1)); have HO7:=hdd (show OwnI w2.heap.size w7 (.slice a7 (ns++[x]).length c7) (ns++[x]) by rw[List.length_append]; exact ho7); have HLE:=hdd (show ns.length+1=(ns++[x]).length by simp); clear ho7 hg7; rw[HLE.out]);go_roundw
         case rel=>exact ⟨i+1,a7,c7,ns++[x],by omega,by go_num,(by rw[←HLE.out]),HO7.out,HI2.out,⟨_,rfl,.inl ⟨by omega,rfl⟩⟩,HB7.out⟩
         case measure=>simp[intOf]; omega
        ·rw[if_pos (by omega),decide_eq_false h0] at hT
         have HE:=hdd (HBAD.out h0);go_wp2_with fail;refine hT.mono ?_;rintro e w4 ⟨rfl,hb4⟩;have HB4:=hdd (HB2.out.trans ((HB.out.trans (hb4.mono HB.out.size)).mono HB2.out.size));clear hT hb4 z0 z1 z2 hcw;go_wp2;go_ret;exact ⟨by rw[HE.out]; rfl,HB4.out⟩
       ·obtain rfl:i=m:=by have:=HRM.out; omega
        have hie:((i:Int)==(i:Int))=true:=by simp
        have hT:=digitsOf_any r[i] wi (by have:=HRL.out r[i] (List.getElem_mem hir); omega);unfold RowOut strV at hT;have HBAD:=hdd (show rowB r[i]=false→ans=wNone from fun q=>by rw[HASK.out]; exact askG_badrow HRM.out hir q);obtain ⟨rw_,hrw⟩:∃ z,z=r[i]:=⟨_,rfl⟩
        have HRW:=hdd hrw;rw[←hrw] at hT hcw HBAD;obtain ⟨tb,htb⟩:∃ z,z=rowB rw_:=⟨_,rfl⟩
        rw[←htb] at hT HBAD;have HTB:=hdd htb;clear hrw htb;go_wp2_with fail;refine hT.mono ?_;rintro e w4 ⟨a4,c4,rfl,ho4,hb4⟩;have HB4:=hdd (HB.out.trans (hb4.mono HB.out.size));have HO4:=hdd (HON.out.below hb4);have HD4:=hdd (ho4.mono HB.out.size);clear hT ho4 hb4 z0 z1 z2 hcw
        cases tb
        ·have HE:=hdd (HBAD.out rfl)
         have HB5:=hdd (HB2.out.trans (HB4.out.mono HB2.out.size));go_wp2;go_ret;exact ⟨by rw[HE.out]; rfl,HB5.out⟩
        ·go_wp2
         go_roundw
         case rel=>exact ⟨i+1,an,cn,ns,by omega,by go_num,rfl,HO4.out,HIA.out.keep (by omega),⟨_,rfl,.inr ⟨by omega,by rw[←HRW.out]; exact HTB.out.symm,a4,c4,by rw[HRW.out],by rw[←HRW.out]; exact HD4.out⟩⟩,HB4.out⟩
         case measure=>simp[intOf]; omega
      ·have hri:i=r.length:=by omega
       subst hri;have hi1:¬((r.length:Int)<(r.length:Int)):=by omega
       obtain ⟨_,hrb,al,cl,rfl,hod⟩:m<r.length∧rowB r[m]=true∧∃ al cl,lx=.slice al (rowX r[m]).length cl∧OwnI w2.heap.size wi (.slice al (rowX r[m]).length cl) (rowX r[m]):=by
        rcases hlv with ⟨q,_⟩ | q
        ·omega
        ·exact q
       have HOD:=hdd hod;clear hb hlv hod;obtain ⟨f1,f2,f3⟩:=InvA.fin1 HRM.out HIA.out hmr hrb t;have HE:=hdd (show ans=t ns (rowX r[m]) by rw[HASK.out]; exact f1);have hT:=HCL.out wi _ _ ns (rowX r[m]) ((HON.out.toInts (num_in64 f3)).mono (Nat.zero_le _)) f2 f3 ((HOD.out.toInts (rowX_in _)).mono (Nat.zero_le _)) (HG2.out.below HB.out);unfold ClosOut strV at hT;clear f1 f2 f3 z0 z1 HCL
       rcases hf6 with rfl | rfl | rfl | rfl | rfl | rfl
       all_goals
        go_wp2_with fail;refine hT.mono ?_;rintro e w5 ⟨s,ok,rfl,hs,hb5⟩;have HB5:=hdd (HB2.out.trans ((HB.out.trans (hb5.mono HB.out.size)).mono HB2.out.size));have HS:=hdd hs;clear hT hs hb5 z2
        cases ok
        ·have HE2:=hdd (show ans=wNone by rw[HE.out,←HS.out]; rfl)
         go_wp2;go_ret;exact ⟨by rw[HE2.out]; rfl,HB5.out⟩
        ·have HE2:=hdd (show ans=s by rw[HE.out,←HS.out]; rfl)
         go_wp2;go_ret;exact ⟨by rw[HE2.out]; rfl,HB5.out⟩
   ·have HE:=hdd (show ans=wWhat by rw[HASK.out]; exact askG_len (t:=t) hlen)
    cases d'
    ·have hne:¬((r.length:Int)=(m:Int)):=fun q=>hlen (by simp; omega)
     have hne2:((r.length:Int) != (m:Int))=true:=by simpa using hne
     clear hlen;go_wp2
     all_goals
      go_ret;exact ⟨by rw[HE.out]; rfl,HB2.out⟩
    ·have hne:¬((r.length:Int)=(m:Int)+1):=fun q=>hlen (by simp; omega)
     have hne2:((r.length:Int) != (m:Int)+1)=true:=by simpa using hne
     clear hlen;go_wp2
     all_goals
      go_ret;exact ⟨by rw[HE.out]; rfl,HB2.out⟩
def ansN (hf:Int→List Int) (p c:Int) (gs:List Gs) (l:List UInt8):List UInt8:=
 if l=wFit then Lib.decDigits (fitL p c gs).length else if l=wNext then dgs (nextL (fitL p c gs)) else if l=wMade then Lib.decDigits gs.length else askL hf (words 32 l)
def lineG (p c:Int) (gs:List Gs) (l:List UInt8):List Gs:=match readD l with
 | some d=>(doneG p c gs d).1
 | none=>gs
def lineA (hf:Int→List Int) (p c:Int) (gs:List Gs) (l:List UInt8):List UInt8:=match readD l with
 | some d=>if (doneG p c gs d).2=true then wOk else wNo
 | none=>ansN hf p c gs l
theorem line_some {hf:Int→List Int} {p c:Int} {gs:List Gs} {l:List UInt8} {d:Dd} (h:readD l=some d):lineG p c gs l=(doneG p c gs d).1∧lineA hf p c gs l=if (doneG p c gs d).2=true then wOk else wNo:=by
 unfold lineG lineA; rw[h]; exact ⟨rfl,rfl⟩
theorem line_none {hf:Int→List Int} {p c:Int} {gs:List Gs} {l:List UInt8} (h:readD l=none):lineG p c gs l=gs∧lineA hf p c gs l=ansN hf p c gs l:=by
 unfold lineG lineA; rw[h]; exact ⟨rfl,rfl⟩
theorem next_code {p c:Int} {gs:List Gs} (h:deskB p c gs=true):codesP p c∧CodeP p c (nextL (fitL p c gs)):=by
 obtain ⟨x,hx⟩:=deskB_iff.1 h;have hp:0<(fitL p c gs).length:=List.length_pos_iff_exists_mem.2 ⟨x,hx⟩;have hm:=fitL_mem.1 (nextL_mem hp);have hg:=hm.1;unfold guessesB at hg;rw[Bool.and_eq_true] at hg;exact ⟨codesB_iff.1 hg.1,hm.2.1⟩
theorem next_digits {p c:Int} {gs:List Gs} (h:deskB p c gs=true):allD (nextL (fitL p c gs))=true∧(nextL (fitL p c gs)).length≤1000000:=by
 obtain ⟨⟨⟨h0,h1⟩,h2,h3⟩,_,hl,hy⟩:=next_code h;exact ⟨List.all_eq_true.2 fun x hx=>by have:=hy x hx; exact inB_of (by omega) (by omega),by omega⟩
theorem itoa_nat (k:Nat):Lib.itoa (k:Int)=Lib.decDigits k:=by
 unfold Lib.itoa;rw[if_neg (by omega),Int.toNat_natCast]
set_option maxHeartbeats 4000000 in
theorem sayFit {B:Nat} (p c:Int) (v:Value) (gs:List Gs) (l:List UInt8) (w:World) (hg:GW w) (h:RG B w v gs) (hl:l.length≤2000000) (hd:readD l=none) (hok:deskB p c gs=true) (hc:∀ g∈gs,g.code.length≤2000000) (b1:(l==[102,105,116])=true):
  Calls Tryz.prog 52 #[dkV p c v,strV l] w (SayOut p c gs (Lib.decDigits (fitL p c gs).length) w):=by
 have HRG:=hdd h;have HC:=hdd hc;have hlen:=deskB_len hok;obtain ⟨a,cap,rfl⟩:=h.shape;obtain ⟨w1,hw1⟩:∃ w1,w1=(w.alloc (.cells #[.int .i64 p,.int .i64 c,.slice a gs.length cap] 30)).alloc (.cells #[.int .i64 0,.int .i64 0,.slice none 0 0] 30):=⟨_,rfl⟩
 have hb1:Below w.heap.size w w1:=by rw[hw1]; exact ((Below.refl _ _).alloc (Nat.le_refl _) _).alloc (by simp) _
 have hs1:w1.heap.size=w.heap.size+2:=by rw[hw1]; simp
 have hz0:At w1 w.heap.size (.cells #[.int .i64 p,.int .i64 c,.slice a gs.length cap] 30):=by
  rw[hw1]; exact (At.new w _).below ((Below.refl _ _).alloc (Nat.le_refl _) _)
 have hz1:At w1 (w.heap.size+1) (.cells #[.int .i64 0,.int .i64 0,.slice none 0 0] 30):=by
  rw[hw1]; have q:=At.new (w.alloc (.cells #[.int .i64 p,.int .i64 c,.slice a gs.length cap] 30)) (.cells #[.int .i64 0,.int .i64 0,.slice none 0 0] 30); rw[World.size_alloc] at q; exact q
 have hI:=readDeedI_any l w1 (by omega) (hg.1.below hb1);unfold ReadOut at hI;rw[(rd_none hd).1,(rd_none hd).2] at hI;simp only at hI;have HG:=hdd hg;have HB1:=hdd hb1;have HS1:=hdd hs1;have HZ0:=hdd hz0;have HZ1:=hdd hz1;have HF3:=hdd (fun W (q:RG B W (.slice a gs.length cap) gs)=>fitI_any p c _ gs W q.toGL);have HFL:=hdd (fitL_len p c gs);obtain ⟨L,hL⟩:∃ L,L=fitL p c gs:=⟨_,rfl⟩
 rw[←hL] at HF3 HFL ⊢;have HT3:=hdd (fun W (q:TabW W)=>itoa_any (L.length:Nat) W q (by omega) (by have:=HFL.out; omega));rw[itoa_nat] at HT3;obtain ⟨an,han⟩:∃ an,an=Lib.decDigits L.length:=⟨_,rfl⟩
 rw[←han] at HT3 ⊢;clear han hL;unfold strV dV at hI;unfold dkV strV;clear h hc hb1 hs1 hz0 hz1 hd hg hok;go_enter Tryz.func52,Tryz.ntmps52;go_wp2_with fail;rw[←hw1];clear hw1;refine hI.mono ?_;rintro e w2 ⟨a2,k2,rfl,ho2,hb2⟩;simp only[List.length_nil];obtain ⟨w3,hw3⟩:∃ z,z=w2.alloc (.cells #[.bool false,.slice a2 0 k2,.int .i64 0,.int .i64 0] 41):=⟨_,rfl⟩
 have hb23:Below w2.heap.size w2 w3:=by rw[hw3]; exact (Below.refl _ _).alloc (Nat.le_refl _) _
 have HB13:=hdd (hb2.trans (hb23.mono hb2.size));have HB3:=hdd (HB1.out.trans (HB13.out.mono HB1.out.size));obtain ⟨x0,x1,x2⟩:=(HZ0.out.below HB13.out).three;clear hI ho2 hb2 hb23;go_upto_region 2 with fail;rw[←hw3];clear hw3;have hT:=HF3.out w3 (HRG.out.below HB3.out);go_wp2_with fail;refine hT.mono ?_;rintro e w4 ⟨a4,c4,rfl,_,hb4⟩;have HB4:=hdd (HB3.out.trans (hb4.mono HB3.out.size));have HB14:=hdd (HB13.out.trans (hb4.mono HB13.out.size));have hT2:=HT3.out w4 (HG.out.below HB4.out).2;unfold strV at hT2;clear hT hb4 x0 x1 x2;go_wp2_with fail;refine hT2.mono ?_;rintro e w5 ⟨rfl,hb5⟩;have HB5:=hdd (HB4.out.trans (hb5.mono HB4.out.size));have HB15:=hdd (HB14.out.trans (hb5.mono HB14.out.size));clear hT2 hb5;have hT:=dcop_any p c _ gs w5 (HRG.out.below HB5.out) (by omega) HC.out;unfold dkV at hT;have HZ1:=hdd (HZ1.out.below HB15.out);obtain ⟨x0,x1,x2⟩:=(HZ0.out.below HB15.out).three;go_wp2_with fail;refine hT.mono ?_;rintro e w6 ⟨a6,c6,rfl,ho6,hb6⟩;unfold dkV;have hR6:=HZ1.out.below hb6;obtain ⟨q6,q7⟩:=ho6.caps;obtain ⟨r0,r1,r2,rf⟩:=zero_cells hR6;have HF:=hdd (say_ret (w:=w) (p:=p) (c:=c) an hR6 (by omega) (ho6.mono HB5.out.size) (HB5.out.trans (hb6.mono HB5.out.size)) q6 q7);clear hT ho6 hb6 hR6 x0 x1 x2;go_wp2
 ((try simp only[Exit.inBlock,Exit.then]); refine bodyPost_ret (results_cell_tmp rfl _ _ (w.heap.size+1) _ _ (0,0) _ rfl HF.out.2 Tryz.underlying30 rfl (by kernel_rfl)) rfl ?_)
 exact HF.out.1
set_option maxHeartbeats 4000000 in
theorem sayNext {B:Nat} (p c:Int) (v:Value) (gs:List Gs) (l:List UInt8) (w:World) (hg:GW w) (h:RG B w v gs) (hl:l.length≤2000000) (hd:readD l=none) (hok:deskB p c gs=true) (hc:∀ g∈gs,g.code.length≤2000000) (b1:(l==[102,105,116])=false) (b2:(l==[110,101,120,116])=true):
  Calls Tryz.prog 52 #[dkV p c v,strV l] w (SayOut p c gs (dgs (nextL (fitL p c gs))) w):=by
 have HRG:=hdd h;have HC:=hdd hc;have hlen:=deskB_len hok;obtain ⟨a,cap,rfl⟩:=h.shape;obtain ⟨w1,hw1⟩:∃ w1,w1=(w.alloc (.cells #[.int .i64 p,.int .i64 c,.slice a gs.length cap] 30)).alloc (.cells #[.int .i64 0,.int .i64 0,.slice none 0 0] 30):=⟨_,rfl⟩
 have hb1:Below w.heap.size w w1:=by rw[hw1]; exact ((Below.refl _ _).alloc (Nat.le_refl _) _).alloc (by simp) _
 have hs1:w1.heap.size=w.heap.size+2:=by rw[hw1]; simp
 have hz0:At w1 w.heap.size (.cells #[.int .i64 p,.int .i64 c,.slice a gs.length cap] 30):=by
  rw[hw1]; exact (At.new w _).below ((Below.refl _ _).alloc (Nat.le_refl _) _)
 have hz1:At w1 (w.heap.size+1) (.cells #[.int .i64 0,.int .i64 0,.slice none 0 0] 30):=by
  rw[hw1]; have q:=At.new (w.alloc (.cells #[.int .i64 p,.int .i64 c,.slice a gs.length cap] 30)) (.cells #[.int .i64 0,.int .i64 0,.slice none 0 0] 30); rw[World.size_alloc] at q; exact q
 have hI:=readDeedI_any l w1 (by omega) (hg.1.below hb1);unfold ReadOut at hI;rw[(rd_none hd).1,(rd_none hd).2] at hI;simp only at hI;have HG:=hdd hg;have HB1:=hdd hb1;have HS1:=hdd hs1;have HZ0:=hdd hz0;have HZ1:=hdd hz1;have HF3:=hdd (fun W (q:RG B W (.slice a gs.length cap) gs)=>nextI_any p c _ gs W q.toGL);have HD3:=hdd (next_digits hok);unfold NextOut at HF3;obtain ⟨L,hL⟩:∃ L,L=nextL (fitL p c gs):=⟨_,rfl⟩
 rw[←hL] at HF3 HD3 ⊢;obtain ⟨kb,hkb⟩:∃ kb,kb=decide (0<(fitL p c gs).length):=⟨_,rfl⟩
 rw[←hkb] at HF3;obtain ⟨an,han⟩:∃ an,an=dgs L:=⟨_,rfl⟩
 have HAN:=hdd han;rw[←han];clear han hL hkb;unfold strV dV at hI;unfold dkV strV;clear h hc hb1 hs1 hz0 hz1 hd hg hok;go_enter Tryz.func52,Tryz.ntmps52;go_wp2_with fail;rw[←hw1];clear hw1;refine hI.mono ?_;rintro e w2 ⟨a2,k2,rfl,ho2,hb2⟩;simp only[List.length_nil];obtain ⟨w3,hw3⟩:∃ z,z=w2.alloc (.cells #[.bool false,.slice a2 0 k2,.int .i64 0,.int .i64 0] 41):=⟨_,rfl⟩
 have hb23:Below w2.heap.size w2 w3:=by rw[hw3]; exact (Below.refl _ _).alloc (Nat.le_refl _) _
 have HB13:=hdd (hb2.trans (hb23.mono hb2.size));have HB3:=hdd (HB1.out.trans (HB13.out.mono HB1.out.size));obtain ⟨x0,x1,x2⟩:=(HZ0.out.below HB13.out).three;clear hI ho2 hb2 hb23;go_upto_region 2 with fail;rw[←hw3];clear hw3;have hT:=HF3.out w3 (HRG.out.below HB3.out);go_wp2_with fail;refine hT.mono ?_;rintro e w4 ⟨a4,c4,rfl,ho4,hb4⟩;have HB4:=hdd (HB3.out.trans (hb4.mono HB3.out.size));have HB14:=hdd (HB13.out.trans (hb4.mono HB13.out.size));have hT2:=digits_any _ L w4 (ho4.toInts (allD_in HD3.out.1)) HD3.out.1 HD3.out.2;rw[←HAN.out] at hT2;unfold strV at hT2;clear hT ho4 hb4 x0 x1 x2;go_wp2_with fail;refine hT2.mono ?_;rintro e w5 ⟨rfl,hb5⟩;have HB5:=hdd (HB4.out.trans (hb5.mono HB4.out.size));have HB15:=hdd (HB14.out.trans (hb5.mono HB14.out.size));clear hT2 hb5;have hT:=dcop_any p c _ gs w5 (HRG.out.below HB5.out) (by omega) HC.out;unfold dkV at hT;have HZ1:=hdd (HZ1.out.below HB15.out);obtain ⟨x0,x1,x2⟩:=(HZ0.out.below HB15.out).three;go_wp2_with fail;refine hT.mono ?_;rintro e w6 ⟨a6,c6,rfl,ho6,hb6⟩;unfold dkV;have hR6:=HZ1.out.below hb6;obtain ⟨q6,q7⟩:=ho6.caps;obtain ⟨r0,r1,r2,rf⟩:=zero_cells hR6;have HF:=hdd (say_ret (w:=w) (p:=p) (c:=c) an hR6 (by omega) (ho6.mono HB5.out.size) (HB5.out.trans (hb6.mono HB5.out.size)) q6 q7);clear hT ho6 hb6 hR6 x0 x1 x2;go_wp2
 ((try simp only[Exit.inBlock,Exit.then]); refine bodyPost_ret (results_cell_tmp rfl _ _ (w.heap.size+1) _ _ (0,0) _ rfl HF.out.2 Tryz.underlying30 rfl (by kernel_rfl)) rfl ?_)
 exact HF.out.1
set_option maxHeartbeats 4000000 in
theorem sayMade {B:Nat} (p c:Int) (v:Value) (gs:List Gs) (l:List UInt8) (w:World) (hg:GW w) (h:RG B w v gs) (hl:l.length≤2000000) (hd:readD l=none) (hok:deskB p c gs=true) (hc:∀ g∈gs,g.code.length≤2000000) (b1:(l==[102,105,116])=false) (b2:(l==[110,101,120,116])=false) (b3:(l==[109,97,100,101])=true):
  Calls Tryz.prog 52 #[dkV p c v,strV l] w (SayOut p c gs (Lib.decDigits gs.length) w):=by
 have HRG:=hdd h;have HC:=hdd hc;have hlen:=deskB_len hok;obtain ⟨a,cap,rfl⟩:=h.shape;obtain ⟨w1,hw1⟩:∃ w1,w1=(w.alloc (.cells #[.int .i64 p,.int .i64 c,.slice a gs.length cap] 30)).alloc (.cells #[.int .i64 0,.int .i64 0,.slice none 0 0] 30):=⟨_,rfl⟩
 have hb1:Below w.heap.size w w1:=by rw[hw1]; exact ((Below.refl _ _).alloc (Nat.le_refl _) _).alloc (by simp) _
 have hs1:w1.heap.size=w.heap.size+2:=by rw[hw1]; simp
 have hz0:At w1 w.heap.size (.cells #[.int .i64 p,.int .i64 c,.slice a gs.length cap] 30):=by
  rw[hw1]; exact (At.new w _).below ((Below.refl _ _).alloc (Nat.le_refl _) _)
 have hz1:At w1 (w.heap.size+1) (.cells #[.int .i64 0,.int .i64 0,.slice none 0 0] 30):=by
  rw[hw1]; have q:=At.new (w.alloc (.cells #[.int .i64 p,.int .i64 c,.slice a gs.length cap] 30)) (.cells #[.int .i64 0,.int .i64 0,.slice none 0 0] 30); rw[World.size_alloc] at q; exact q
 have hI:=readDeedI_any l w1 (by omega) (hg.1.below hb1);unfold ReadOut at hI;rw[(rd_none hd).1,(rd_none hd).2] at hI;simp only at hI;have HG:=hdd hg;have HB1:=hdd hb1;have HS1:=hdd hs1;have HZ0:=hdd hz0;have HZ1:=hdd hz1;have HT3:=hdd (fun W (q:TabW W)=>itoa_any (gs.length:Nat) W q (by omega) (by omega));rw[itoa_nat] at HT3;obtain ⟨an,han⟩:∃ an,an=Lib.decDigits gs.length:=⟨_,rfl⟩
 rw[←han] at HT3 ⊢;clear han;unfold strV dV at hI;unfold dkV strV;clear h hc hb1 hs1 hz0 hz1 hd hg hok;go_enter Tryz.func52,Tryz.ntmps52;go_wp2_with fail;rw[←hw1];clear hw1;refine hI.mono ?_;rintro e w2 ⟨a2,k2,rfl,ho2,hb2⟩;simp only[List.length_nil];obtain ⟨w3,hw3⟩:∃ z,z=w2.alloc (.cells #[.bool false,.slice a2 0 k2,.int .i64 0,.int .i64 0] 41):=⟨_,rfl⟩
 have hb23:Below w2.heap.size w2 w3:=by rw[hw3]; exact (Below.refl _ _).alloc (Nat.le_refl _) _
 have HB13:=hdd (hb2.trans (hb23.mono hb2.size));have HB3:=hdd (HB1.out.trans (HB13.out.mono HB1.out.size));obtain ⟨x0,x1,x2⟩:=(HZ0.out.below HB13.out).three;clear hI ho2 hb2 hb23;go_upto_region 2 with fail;rw[←hw3];clear hw3;have hT2:=HT3.out w3 (HG.out.below HB3.out).2;unfold strV at hT2;go_wp2_with fail;refine hT2.mono ?_;rintro e w5 ⟨rfl,hb5⟩;have HB5:=hdd (HB3.out.trans (hb5.mono HB3.out.size));have HB15:=hdd (HB13.out.trans (hb5.mono HB13.out.size));clear hT2 hb5 x0 x1 x2;have hT:=dcop_any p c _ gs w5 (HRG.out.below HB5.out) (by omega) HC.out;unfold dkV at hT;have HZ1:=hdd (HZ1.out.below HB15.out);obtain ⟨x0,x1,x2⟩:=(HZ0.out.below HB15.out).three;go_wp2_with fail;refine hT.mono ?_;rintro e w6 ⟨a6,c6,rfl,ho6,hb6⟩;unfold dkV;have hR6:=HZ1.out.below hb6;obtain ⟨q6,q7⟩:=ho6.caps;obtain ⟨r0,r1,r2,rf⟩:=zero_cells hR6;have HF:=hdd (say_ret (w:=w) (p:=p) (c:=c) an hR6 (by omega) (ho6.mono HB5.out.size) (HB5.out.trans (hb6.mono HB5.out.size)) q6 q7);clear hT ho6 hb6 hR6 x0 x1 x2;go_wp2
 ((try simp only[Exit.inBlock,Exit.then]); refine bodyPost_ret (results_cell_tmp rfl _ _ (w.heap.size+1) _ _ (0,0) _ rfl HF.out.2 Tryz.underlying30 rfl (by kernel_rfl)) rfl ?_)
 exact HF.out.1
set_option maxHeartbeats 4000000 in
theorem sayAsk {B:Nat} {hf:Int→List Int} (hh:HuntsOk hf) (p c:Int) (v:Value) (gs:List Gs) (l:List UInt8) (w:World) (hg:GW w) (h:RG B w v gs) (hl:l.length≤2000000) (hd:readD l=none) (hok:deskB p c gs=true) (hc:∀ g∈gs,g.code.length≤2000000) (b1:(l==[102,105,116])=false) (b2:(l==[110,101,120,116])=false) (b3:(l==[109,97,100,101])=false):
  Calls Tryz.prog 52 #[dkV p c v,strV l] w (SayOut p c gs (askL hf (words 32 l)) w):=by
 have HRG:=hdd h;have HC:=hdd hc;have hlen:=deskB_len hok;obtain ⟨a,cap,rfl⟩:=h.shape;obtain ⟨w1,hw1⟩:∃ w1,w1=(w.alloc (.cells #[.int .i64 p,.int .i64 c,.slice a gs.length cap] 30)).alloc (.cells #[.int .i64 0,.int .i64 0,.slice none 0 0] 30):=⟨_,rfl⟩
 have hb1:Below w.heap.size w w1:=by rw[hw1]; exact ((Below.refl _ _).alloc (Nat.le_refl _) _).alloc (by simp) _
 have hs1:w1.heap.size=w.heap.size+2:=by rw[hw1]; simp
 have hz0:At w1 w.heap.size (.cells #[.int .i64 p,.int .i64 c,.slice a gs.length cap] 30):=by
  rw[hw1]; exact (At.new w _).below ((Below.refl _ _).alloc (Nat.le_refl _) _)
 have hz1:At w1 (w.heap.size+1) (.cells #[.int .i64 0,.int .i64 0,.slice none 0 0] 30):=by
  rw[hw1]; have q:=At.new (w.alloc (.cells #[.int .i64 p,.int .i64 c,.slice a gs.length cap] 30)) (.cells #[.int .i64 0,.int .i64 0,.slice none 0 0] 30); rw[World.size_alloc] at q; exact q
 have hI:=readDeedI_any l w1 (by omega) (hg.1.below hb1);unfold ReadOut at hI;rw[(rd_none hd).1,(rd_none hd).2] at hI;simp only at hI;have HG:=hdd hg;have HB1:=hdd hb1;have HS1:=hdd hs1;have HZ0:=hdd hz0;have HZ1:=hdd hz1;have HT3:=hdd (fun W (q:GW W)=>asked_any hh l W hl q);unfold AskOut at HT3;obtain ⟨an,han⟩:∃ an,an=askL hf (words 32 l):=⟨_,rfl⟩
 rw[←han] at HT3 ⊢;clear han;unfold strV dV at hI;unfold dkV strV;clear h hc hb1 hs1 hz0 hz1 hd hg hok;go_enter Tryz.func52,Tryz.ntmps52;go_wp2_with fail;rw[←hw1];clear hw1;refine hI.mono ?_;rintro e w2 ⟨a2,k2,rfl,ho2,hb2⟩;simp only[List.length_nil];obtain ⟨w3,hw3⟩:∃ z,z=w2.alloc (.cells #[.bool false,.slice a2 0 k2,.int .i64 0,.int .i64 0] 41):=⟨_,rfl⟩
 have hb23:Below w2.heap.size w2 w3:=by rw[hw3]; exact (Below.refl _ _).alloc (Nat.le_refl _) _
 have HB13:=hdd (hb2.trans (hb23.mono hb2.size));have HB3:=hdd (HB1.out.trans (HB13.out.mono HB1.out.size));obtain ⟨x0,x1,x2⟩:=(HZ0.out.below HB13.out).three;clear hI ho2 hb2 hb23;go_upto_region 2 with fail;rw[←hw3];clear hw3;have hT2:=HT3.out w3 (HG.out.below HB3.out);unfold strV at hT2;go_wp2_with fail;refine hT2.mono ?_;rintro e w5 ⟨rfl,hb5⟩;have HB5:=hdd (HB3.out.trans (hb5.mono HB3.out.size));have HB15:=hdd (HB13.out.trans (hb5.mono HB13.out.size));clear hT2 hb5 x0 x1 x2;have hT:=dcop_any p c _ gs w5 (HRG.out.below HB5.out) (by omega) HC.out;unfold dkV at hT;have HZ1:=hdd (HZ1.out.below HB15.out);obtain ⟨x0,x1,x2⟩:=(HZ0.out.below HB15.out).three;go_wp2_with fail;refine hT.mono ?_;rintro e w6 ⟨a6,c6,rfl,ho6,hb6⟩;unfold dkV;have hR6:=HZ1.out.below hb6;obtain ⟨q6,q7⟩:=ho6.caps;obtain ⟨r0,r1,r2,rf⟩:=zero_cells hR6;have HF:=hdd (say_ret (w:=w) (p:=p) (c:=c) an hR6 (by omega) (ho6.mono HB5.out.size) (HB5.out.trans (hb6.mono HB5.out.size)) q6 q7);clear hT ho6 hb6 hR6 x0 x1 x2;go_wp2
 ((try simp only[Exit.inBlock,Exit.then]); refine bodyPost_ret (results_cell_tmp rfl _ _ (w.heap.size+1) _ _ (0,0) _ rfl HF.out.2 Tryz.underlying30 rfl (by kernel_rfl)) rfl ?_)
 exact HF.out.1
theorem say_any {B:Nat} {hf:Int→List Int} (hh:HuntsOk hf) (p c:Int) (v:Value) (gs:List Gs) (l:List UInt8) (w:World) (hg:GW w) (h:RG B w v gs) (hl:l.length≤2000000) (hok:deskB p c gs=true) (hc:∀ g∈gs,g.code.length≤2000000):
  Calls Tryz.prog 52 #[dkV p c v,strV l] w (SayOut p c (lineG p c gs l) (lineA hf p c gs l) w):=by
 rcases hd:readD l with _ | d
 ·rw[(line_none (hf:=hf) hd).1,(line_none hd).2]
  unfold ansN
  by_cases h1:l=wFit
  ·rw[if_pos h1]; exact sayFit p c v gs l w hg h hl hd hok hc (by rw[h1]; rfl)
  rw[if_neg h1];have b1:(l==[102,105,116])=false:=by simpa [wFit] using h1
  by_cases h2:l=wNext
  ·rw[if_pos h2]; exact sayNext p c v gs l w hg h hl hd hok hc b1 (by rw[h2]; rfl)
  rw[if_neg h2];have b2:(l==[110,101,120,116])=false:=by simpa [wNext] using h2
  by_cases h3:l=wMade
  ·rw[if_pos h3]; exact sayMade p c v gs l w hg h hl hd hok hc b1 b2 (by rw[h3]; rfl)
  rw[if_neg h3];exact sayAsk hh p c v gs l w hg h hl hd hok hc b1 b2 (by simpa [wMade] using h3)
 ·rw[(line_some (hf:=hf) hd).1,(line_some hd).2]
  exact sayD_any p c v gs l d w hg.1 h hl hd (by have:=deskB_len hok; omega) hc
def LineOut (hf:Int→List Int) (p c:Int) (gs:List Gs) (l:List UInt8) (w:World) (e:Ending) (w':World):Prop:=
 if deskB p c gs=true then SayOut p c (lineG p c gs l) (lineA hf p c gs l) w e w' else SayOut 0 0 [] [] w e w'
theorem LineOut.yes {hf:Int→List Int} {p c:Int} {gs:List Gs} {l:List UInt8} {w:World} {e:Ending} {w':World} (h:deskB p c gs=true) (ho:SayOut p c (lineG p c gs l) (lineA hf p c gs l) w e w'):LineOut hf p c gs l w e w':=by
 unfold LineOut; rw[if_pos h]; exact ho
theorem LineOut.no {hf:Int→List Int} {p c:Int} {gs:List Gs} {l:List UInt8} {w:World} {e:Ending} {w':World} (h:deskB p c gs=false) (ho:SayOut 0 0 [] [] w e w'):LineOut hf p c gs l w e w':=by
 unfold LineOut; rw[if_neg (by simp[h])]; exact ho
set_option maxHeartbeats 4000000 in
theorem lineI_any {B:Nat} {hf:Int→List Int} (hh:HuntsOk hf) (p c:Int) (v:Value) (gs:List Gs) (l:List UInt8) (w:World) (hg:GW w) (h:RG B w v gs) (hl:l.length≤2000000) (hc:∀ g∈gs,g.code.length≤2000000):
  Calls Tryz.prog 14 #[dkV p c v,strV l] w (LineOut hf p c gs l w):=by
 have HRG:=hdd h;have HC:=hdd hc;obtain ⟨a,cap,rfl⟩:=h.shape;obtain ⟨w1,hw1⟩:∃ w1,w1=(w.alloc (.cells #[.int .i64 p,.int .i64 c,.slice a gs.length cap] 30)).alloc (.cells #[.int .i64 0,.int .i64 0,.slice none 0 0] 30):=⟨_,rfl⟩
 have hb1:Below w.heap.size w w1:=by rw[hw1]; exact ((Below.refl _ _).alloc (Nat.le_refl _) _).alloc (by simp) _
 have hs1:w1.heap.size=w.heap.size+2:=by rw[hw1]; simp
 have hz0:At w1 w.heap.size (.cells #[.int .i64 p,.int .i64 c,.slice a gs.length cap] 30):=by
  rw[hw1]; exact (At.new w _).below ((Below.refl _ _).alloc (Nat.le_refl _) _)
 have hz1:At w1 (w.heap.size+1) (.cells #[.int .i64 0,.int .i64 0,.slice none 0 0] 30):=by
  rw[hw1]; have q:=At.new (w.alloc (.cells #[.int .i64 p,.int .i64 c,.slice a gs.length cap] 30)) (.cells #[.int .i64 0,.int .i64 0,.slice none 0 0] 30); rw[World.size_alloc] at q; exact q
 have hK:=deskOkI_any p c _ gs w1 (HRG.out.below hb1).toGL;have HS:=hdd (fun (W:World) (q:GW W) (r:RG B W (.slice a gs.length cap) gs) (hok:deskB p c gs=true)=>say_any hh p c _ gs l W q r hl hok hc);have HYES:=hdd (fun (e:Ending) (w':World) (q:deskB p c gs=true)=>LineOut.yes (hf:=hf) (l:=l) (w:=w) (e:=e) (w':=w') q);have HNO:=hdd (fun (e:Ending) (w':World) (q:deskB p c gs=false)=>LineOut.no (hf:=hf) (l:=l) (w:=w) (e:=e) (w':=w') q);obtain ⟨t,ht⟩:∃ t,t=deskB p c gs:=⟨_,rfl⟩
 rw[←ht] at hK HS HYES HNO;have HB1:=hdd hb1;have HS1:=hdd hs1;have HZ0:=hdd hz0;have HZ1:=hdd hz1;have HG:=hdd hg;unfold dkV at hK;unfold dkV strV;obtain ⟨x0,x1,x2⟩:=hz0.three;clear h hc hb1 hs1 hz0 hz1 hg ht hl;go_enter Tryz.func14,Tryz.ntmps14;go_wp2_with fail;rw[←hw1];clear hw1;refine hK.mono ?_;rintro e w2 ⟨rfl,hb2⟩;have HB2:=hdd (HB1.out.trans (hb2.mono HB1.out.size));have HZ0:=hdd (HZ0.out.below hb2);have HZ1:=hdd (HZ1.out.below hb2);clear hK hb2 x0 x1 x2
 cases t
 ·have hR4:=HZ1.out
  obtain ⟨r0,r1,r2,rf⟩:=zero_cells hR4;have HF:=hdd (say_ret (w:=w) (p:=0) (c:=0) (gs:=[]) (a4:=none) (c4:=0) (cap2:=0) [] hR4 (by have:=HS1.out; omega) (OwnG.empty _ _) HB2.out (Nat.le_refl _) (by omega));clear hR4;go_wp2
  ((try simp only[Exit.inBlock,Exit.then]); refine bodyPost_ret (results_cell_tmp rfl _ _ (w.heap.size+1) _ _ (0,0) _ rfl HF.out.2 Tryz.underlying30 rfl (by kernel_rfl)) rfl ?_)
  exact HNO.out _ _ (by trivial) HF.out.1
 ·have hT:=HS.out w2 (HG.out.below HB2.out) (HRG.out.below HB2.out) rfl
  unfold dkV strV at hT;obtain ⟨x0,x1,x2⟩:=HZ0.out.three;obtain ⟨gs',hgs'⟩:∃ z,z=lineG p c gs l:=⟨_,rfl⟩
  obtain ⟨an,han⟩:∃ z,z=lineA hf p c gs l:=⟨_,rfl⟩
  rw[←hgs',←han] at hT HYES;clear hgs' han;go_wp2_with fail;refine hT.mono ?_;rintro e w4 ⟨a4,c4,k4,rfl,q1,q2,ho4,hb4⟩;unfold dkV strV;have hR4:=HZ1.out.below hb4;obtain ⟨r0,r1,r2,rf⟩:=zero_cells hR4;have HF:=hdd (say_ret (w:=w) (p:=p) (c:=c) an hR4 (by have:=HS1.out; omega) (ho4.mono HB2.out.size) (HB2.out.trans (hb4.mono HB2.out.size)) q1 q2);clear hT ho4 hb4 hR4 x0 x1 x2;go_wp2
  ((try simp only[Exit.inBlock,Exit.then]); refine bodyPost_ret (results_cell_tmp rfl _ _ (w.heap.size+1) _ _ (0,0) _ rfl HF.out.2 Tryz.underlying30 rfl (by kernel_rfl)) rfl ?_)
  exact HYES.out _ _ (by trivial) HF.out.1
def sayF (hf:Int→List Int) (p c:Int) (s:List Gs×List (List UInt8)) (l:List UInt8):List Gs×List (List UInt8):=(lineG p c s.1 l,s.2++[lineA hf p c s.1 l])
def sayL (hf:Int→List Int) (p c:Int) (gs:List Gs) (ls:List (List UInt8)):List Gs×List (List UInt8):=ls.foldl (sayF hf p c) (gs,[])
theorem say_next {hf:Int→List Int} {p c:Int} {gs:List Gs} {ls:List (List UInt8)} {k:Nat} (hk:k<ls.length):sayL hf p c gs (ls.take (k+1))=sayF hf p c (sayL hf p c gs (ls.take k)) ls[k]:=by
 unfold sayL;rw[List.take_succ_eq_append_getElem hk,List.foldl_append]; rfl
theorem line_desk {p c:Int} {gs:List Gs} (l:List UInt8) (h:deskB p c gs=true):deskB p c (lineG p c gs l)=true:=by
 unfold lineG
 split
 ·rename_i d _
  exact run_desk [d] gs h
 ·exact h
theorem line_i64 {p c:Int} {gs:List Gs} (l:List UInt8) (h:In64G gs):In64G (lineG p c gs l):=by
 unfold lineG
 split
 ·rename_i d hd
  have hc:=rd_code l;rw[(rd_some hd).1] at hc;exact done_i64 h (fun y hy=>by have:=hc.2 y hy; unfold In64; omega)
 ·exact h
theorem line_codes {p c:Int} {gs:List Gs} (l:List UInt8) (h:∀ g∈gs,g.code.length≤2000000):∀ g∈lineG p c gs l,g.code.length≤2000000:=by
 unfold lineG
 split
 ·rename_i d hd
  have hc:=rd_code l;rw[(rd_some hd).1] at hc;exact done_codes h (by omega)
 ·exact h
theorem say_keeps {hf:Int→List Int} {p c:Int} {gs:List Gs} (hd:deskB p c gs=true) (h64:In64G gs) (hc:∀ g∈gs,g.code.length≤2000000) (ls:List (List UInt8)):
  ∀ k,k≤ls.length→deskB p c (sayL hf p c gs (ls.take k)).1=true∧In64G (sayL hf p c gs (ls.take k)).1∧(∀ g∈(sayL hf p c gs (ls.take k)).1,g.code.length≤2000000)∧(sayL hf p c gs (ls.take k)).2.length=k:=by
 intro k
 induction k with
 | zero=>intro _; exact ⟨hd,h64,hc,rfl⟩
 | succ k ih=>
  intro hk;obtain ⟨h1,h2,h3,h4⟩:=ih (by omega);rw[say_next (by omega)];exact ⟨line_desk _ h1,line_i64 _ h2,line_codes _ h3,by simp[sayF,h4]⟩
def SaysOut (p c:Int) (gs:List Gs) (us:List (List UInt8)) (w:World) (e:Ending) (w':World):Prop:=
 ∃ a cap cap2 al cl,e=.returned (.tuple #[dkV p c (.slice a gs.length cap2),.slice al us.length cl])∧gs.length≤cap2∧cap2≤9223372036854775807∧OwnG w.heap.size w' (.slice a gs.length cap) gs∧OwnS w.heap.size w' (.slice al us.length cl) us∧Below w.heap.size w w'
def sayB (p c:Int) (gs:List Gs) (ls:List (List UInt8)):Bool:=deskB p c gs&&decide ((ls.length:Int)≤40)
def SaysRes (hf:Int→List Int) (p c:Int) (gs:List Gs) (ls:List (List UInt8)) (w:World) (e:Ending) (w':World):Prop:=
 if sayB p c gs ls=true then SaysOut p c (sayL hf p c gs ls).1 (sayL hf p c gs ls).2 w e w' else SaysOut 0 0 [] [] w e w'
theorem SaysRes.yes {hf:Int→List Int} {p c:Int} {gs:List Gs} {ls:List (List UInt8)} {w:World} {e:Ending} {w':World} (h:sayB p c gs ls=true) (ho:SaysOut p c (sayL hf p c gs ls).1 (sayL hf p c gs ls).2 w e w'):SaysRes hf p c gs ls w e w':=by
 unfold SaysRes; rw[if_pos h]; exact ho
theorem SaysRes.no {hf:Int→List Int} {p c:Int} {gs:List Gs} {ls:List (List UInt8)} {w:World} {e:Ending} {w':World} (h:sayB p c gs ls=false) (ho:SaysOut 0 0 [] [] w e w'):SaysRes hf p c gs ls w e w':=by
 unfold SaysRes; rw[if_neg (by simp[h])]; exact ho
theorem OwnS.empty (B:Nat) (w:World):OwnS B w (.slice none 0 0) []:=World.ownsRow_nil w B _ 1
theorem OwnS.below {B:Nat} {w w':World} {v:Value} {us:List (List UInt8)} (h:OwnS B w v us) (hb:Below w.heap.size w w'):OwnS B w' v us:=owns_keep h (.of_below hb)
theorem OwnS.mono {B B':Nat} {w:World} {v:Value} {us:List (List UInt8)} (h:OwnS B w v us) (hB:B'≤B):OwnS B' w v us:=owns_mono h hB
theorem OwnS.other {B D j:Nat} {w:World} {v z:Value} {us:List (List UInt8)} {cs:Array Value} {fr:Nat×Nat} (h:OwnS B w v us) (hD:w.heap[D]?=some (.cells cs 30 fr)):OwnS B (w.setCell ⟨D,j,none⟩ z) v us:=
 World.ownsRow.kept h (grownBy_setCell w ⟨D,j,none⟩ z) (own_other h hD (by decide))
theorem OwnS.put3 {B D:Nat} {w:World} {v x y z:Value} {us:List (List UInt8)} {x0 y0 z0:Value} (h:OwnS B w v us) (hD:At w D (.cells #[x0,y0,z0] 30)):
  OwnS B (((w.setCell ⟨D,0,none⟩ x).setCell ⟨D,1,none⟩ y).setCell ⟨D,2,none⟩ z) v us:=by
 have q1:=heap_setCell_same _ _ 0 _ _ x hD;have q2:=heap_setCell_same _ _ 1 _ _ y q1;exact ((h.other hD).other q1).other q2
theorem OwnS.block {B:Nat} {w:World} {v:Value} {us:List (List UInt8)} (h:OwnS B w v us):v.ownBlock=none∨∃ K cs fr,v.ownBlock=some K∧w.heap[K]?=some (.cells cs 9 fr):=by
 obtain ⟨_,h⟩:=h
 rcases h with ⟨rfl,_⟩ | ⟨g,cap,cur,rfl,_,hg,_⟩
 ·exact .inl rfl
 ·exact .inr ⟨g,cur,(0,0),rfl,hg⟩
theorem grown_none {w w':World} (h:w.grownBy w' none):Below w.heap.size w w':=⟨h.os,h.tape,h.output,h.size,fun k hk=>h.block k hk (by simp)⟩
theorem At.grownS {B D:Nat} {w w':World} {v:Value} {us:List (List UInt8)} {cs:Array Value} {fr:Nat×Nat} (hD:At w D (.cells cs 30 fr)) (h:OwnS B w v us) (hg:w.grownBy w' v.ownBlock):At w' D (.cells cs 30 fr):=by
 refine (hg.block D hD.lt fun e=>?_).trans hD
 rcases h.block with q | ⟨K,cs',fr',q,hK⟩
 ·rw[q] at e; cases e
 ·rw[q] at e
  injection e with e;subst e;unfold At at hD;rw[hK] at hD;injection hD with hD;injection hD with _ hD _;exact absurd hD (by decide)
theorem OwnG.grownS {B C:Nat} {w w':World} {v u:Value} {gs:List Gs} {us:List (List UInt8)} (hG:OwnG C w u gs) (h:OwnS B w v us) (hg:w.grownBy w' v.ownBlock):OwnG C w' u gs:=by
 rcases h.block with q | ⟨K,cs',fr',q,hK⟩
 ·rw[q] at hg
  exact hG.below (grown_none hg)
 ·rw[q] at hg
  obtain ⟨ts,h1,h2,h3,h4⟩:=hG;exact ⟨ts,World.ownsRow.kept h1 hg (own_other h1 hK (by decide)),h2,fun i hi hi'=>⟨World.ownsRow.kept (h3 i hi hi').1 hg (own_other (h3 i hi hi').1 hK (by decide)),(h3 i hi hi').2⟩,h4⟩
theorem RG.grownS {B C:Nat} {w w':World} {v u:Value} {gs:List Gs} {us:List (List UInt8)} (hG:RG C w u gs) (h:OwnS B w v us) (hg:w.grownBy w' v.ownBlock):RG C w' u gs:=by
 obtain ⟨a,cap,cap2,h1,h2,h3,h4,h5⟩:=hG;exact ⟨a,cap,cap2,h1,h2,h3,h4.grownS h hg,h5⟩
theorem RunW.grownS {B:Nat} {w:World} {D R:Nat} {p c:Int} {v u:Value} {gs:List Gs} {us:List (List UInt8)} {wr w':World} (hW:RunW w D R p c u gs wr) (h:OwnS B wr v us) (hB:w.heap.size≤B) (hg:wr.grownBy w' v.ownBlock):RunW w D R p c u gs w':=by
 obtain ⟨h1,h2,h3,h4,h5⟩:=hW;refine ⟨h1.grownS h hg,h2.grownS h hg,h3.grownS h hg,?_,h5⟩;exact h4.grown hg h4.size (fun k hk=>Nat.le_trans hB (World.ownsRow.lt h k hk).1)
theorem says_ret {w w4:World} {R:Nat} {p c:Int} {gs:List Gs} {v:Value} {al:Option Addr} {cl:Nat} {us:List (List UInt8)} (hR:w4.heap[R]?=some (.cells #[.int .i64 0,.int .i64 0,.slice none 0 0] 30 (0,0))) (hRB:w.heap.size≤R)
  (ho:RG w.heap.size w4 v gs) (hs:OwnS w.heap.size w4 (.slice al us.length cl) us) (hb:Below w.heap.size w w4):
  SaysOut p c gs us w (.returned (.tuple #[dkV p c v,.slice al us.length cl])) (((w4.setCell ⟨R,0,none⟩ (.int .i64 p)).setCell ⟨R,1,none⟩ (.int .i64 c)).setCell ⟨R,2,none⟩ v) ∧
   (((w4.setCell ⟨R,0,none⟩ (.int .i64 p)).setCell ⟨R,1,none⟩ (.int .i64 c)).setCell ⟨R,2,none⟩ v).heap[R]?=some (.cells #[.int .i64 p,.int .i64 c,v] 30 (0,0)):=by
 obtain ⟨⟨a,cap,cap2,e,h1,h2,h3,h4⟩,q⟩:=run_ret (p:=p) (c:=c) 0 hR hRB ho hb;obtain ⟨a',cap',cap2',rfl,_⟩:=ho;injection e with e;injection e with e;injection e with e;injection e with e _;unfold dkV at e;injection e with e;injection e with e;injection e with _ e;injection e with _ e;injection e with e _;rw[e];rw[e] at h3 h4;exact ⟨⟨a,cap,cap2,al,cl,rfl,h1,h2,h3,hs.put3 hR,h4⟩,by rw[←e]; exact q⟩
theorem strs_opened {C:Nat} {w:World} {vl:Value} {ls:List (List UInt8)} (h:SL C w vl (ls.map strV)):∃ a cap,vl=.slice a ls.length cap∧ls.length≤cap∧cap≤9223372036854775807 ∧
  (0<ls.length→∃ b off,a=some ⟨b,off,none⟩∧C≤b∧∀ i (h:i<ls.length),w.cell? ⟨b,off+i,none⟩=some (.string ⟨ls[i].toArray⟩)):=by
 obtain ⟨a,cap,h1,h2,h3,h4⟩:=h;simp only[List.length_map] at h1 h2 h4;refine ⟨a,cap,h1,h2,h3,fun hp=>?_⟩;obtain ⟨b,off,h5,h6,h7⟩:=h4 hp;refine ⟨b,off,h5,h6,fun i hi=>?_⟩;have:=h7 i (by first | exact hi | simpa using hi);simp only[List.getElem_map,strV] at this;exact this
set_option maxHeartbeats 4000000 in
theorem deskSayI_any {B C:Nat} {hf:Int→List Int} (hh:HuntsOk hf) (p c:Int) (v:Value) (gs:List Gs) (vl:Value) (ls:List (List UInt8)) (w:World) (hg:GW w) (h:RG B w v gs) (hl:SL C w vl (ls.map strV)) (hc:∀ g∈gs,g.code.length≤2000000) (hlen:∀ l∈ls,l.length≤2000000):
  Calls Tryz.prog 25 #[dkV p c v,vl] w (SaysRes hf p c gs ls w):=by
 have HRG:=hdd h;have H64:=hdd h.i64;have HGW:=hdd hg;obtain ⟨a,cap,rfl⟩:=h.shape;obtain ⟨al,capl,rfl,hcapl,hmaxl,hcells⟩:=strs_opened hl;have HCE:=hdd hcells;have HC:=hdd hc;have HLN:=hdd hlen;obtain ⟨w1,hw1⟩:∃ w1,w1=(w.alloc (.cells #[.int .i64 p,.int .i64 c,.slice a gs.length cap] 30)).alloc (.cells #[.int .i64 0,.int .i64 0,.slice none 0 0] 30):=⟨_,rfl⟩
 have hb1:Below w.heap.size w w1:=by rw[hw1]; exact ((Below.refl _ _).alloc (Nat.le_refl _) _).alloc (by simp) _
 have hz0:At w1 w.heap.size (.cells #[.int .i64 p,.int .i64 c,.slice a gs.length cap] 30):=by rw[hw1]; exact (At.new w _).below ((Below.refl _ _).alloc (Nat.le_refl _) _)
 have hz1:At w1 (w.heap.size+1) (.cells #[.int .i64 0,.int .i64 0,.slice none 0 0] 30):=by rw[hw1]; have q:=At.new (w.alloc (.cells #[.int .i64 p,.int .i64 c,.slice a gs.length cap] 30)) (.cells #[.int .i64 0,.int .i64 0,.slice none 0 0] 30); rw[World.size_alloc] at q; exact q
 have hT:=deskOkI_any p c _ gs w1 (h.toGL.below hb1);have HB:=hdd hb1;have HA0:=hdd hz0;have HA1:=hdd hz1;have HY:=hdd (fun (e:Ending) (w':World) (q:sayB p c gs ls=true)=>SaysRes.yes (hf:=hf) (w:=w) (e:=e) (w':=w') q);have HNO:=hdd (fun (e:Ending) (w':World) (q:sayB p c gs ls=false)=>SaysRes.no (hf:=hf) (w:=w) (e:=e) (w':=w') q);obtain ⟨t,ht⟩:∃ t,t=deskB p c gs:=⟨_,rfl⟩
 have HT:=hdd ht;rw[←ht] at hT;unfold dkV at hT;unfold dkV;clear h hc hb1 hz0 hz1 ht hcells hlen hg hl;go_enter Tryz.func25,Tryz.ntmps25;go_wp2_with fail;rw[←hw1];clear hw1;refine hT.mono ?_;rintro e w2 ⟨rfl,hb2⟩;replace HA0:=hdd (HA0.out.below hb2);replace HA1:=hdd (HA1.out.below hb2);replace HB:=hdd (HB.out.trans (hb2.mono HB.out.size));clear hT hb2;obtain ⟨e0,e1,e2⟩:=HA0.out.three;obtain ⟨r0,r1,r2,rf⟩:=zero_cells HA1.out;have hz0:=HA0.out.lt
 cases t
 ·have HF:=hdd (says_ret (w:=w) (p:=0) (c:=0) (gs:=[]) (v:=.slice none 0 0) (al:=none) (cl:=0) (us:=[]) HA1.out (by omega) ((OwnG.empty _ _).rg (fun g hg=>by cases hg)) (OwnS.empty _ _) HB.out)
  go_wp2
  ((try simp only[Exit.inBlock,Exit.then]); refine bodyPost_ret (results_cell_tmp rfl _ _ (w.heap.size+1) _ _ (0,0) _ rfl HF.out.2 Tryz.underlying30 rfl (by kernel_rfl)) rfl ?_)
  exact HNO.out _ _ (by unfold sayB; rw[←HT.out]; rfl) HF.out.1
 ·by_cases hlong:40<(ls.length:Int)
  ·have HF:=hdd (says_ret (w:=w) (p:=0) (c:=0) (gs:=[]) (v:=.slice none 0 0) (al:=none) (cl:=0) (us:=[]) HA1.out (by omega) ((OwnG.empty _ _).rg (fun g hg=>by cases hg)) (OwnS.empty _ _) HB.out)
   have HRB:=hdd (show sayB p c gs ls=false by unfold sayB; rw[decide_eq_false (by omega)]; simp);go_wp2
   ((try simp only[Exit.inBlock,Exit.then]); refine bodyPost_ret (results_cell_tmp rfl _ _ (w.heap.size+1) _ _ (0,0) _ rfl HF.out.2 Tryz.underlying30 rfl (by kernel_rfl)) rfl ?_)
   exact HNO.out _ _ HRB.out HF.out.1
  ·have HRB:=hdd (show sayB p c gs ls=true by unfold sayB; rw[←HT.out,decide_eq_true (by omega)]; rfl)
   have hdl:=deskB_len HT.out.symm;have hT:=dcop_any p c _ gs w2 (HRG.out.below HB.out) (by omega) HC.out;unfold dkV at hT;have ef:=HA0.out.thaw;have HKP:=hdd (say_keeps (hf:=hf) HT.out.symm H64.out HC.out ls);have HNEXT:=hdd (fun k (hk:k<ls.length)=>say_next (hf:=hf) (p:=p) (c:=c) (gs:=gs) hk);go_wp2_with fail;refine hT.mono ?_;rintro e w3 ⟨a3,c3,rfl,ho3,hb3⟩;unfold dkV;replace HA0:=hdd (HA0.out.below hb3);replace HA1:=hdd (HA1.out.below hb3);have HW3:=hdd (RunW.put (p:=p) (c:=c) HA0.out HA1.out (HB.out.trans (hb3.mono HB.out.size)) (Nat.le_refl _) (by omega) (by omega) ((ho3.rg H64.out).mono HB.out.size));obtain ⟨e0',e1',e2'⟩:=HA0.out.three;have ef':=HA0.out.thaw;clear hT ho3 hb3 HA0 HA1 e0 e1 e2 ef r0 r1 r2 rf;go_wp2;obtain ⟨W0,hW0⟩:∃ z,z=((w3.setCell ⟨w.heap.size,0,none⟩ (.int .i64 p)).setCell ⟨w.heap.size,1,none⟩ (.int .i64 c)).setCell ⟨w.heap.size,2,none⟩ (.slice a3 gs.length c3):=⟨_,rfl⟩
   rw[←hW0] at HW3 ⊢;clear hW0 e0' e1' e2' ef' HB;go_loopw [6,24] (fun s i wr=>∃ (k:Nat) (v':Value) (ao:Option Addr) (co:Nat),k≤ls.length∧i=.int .i64 k∧s=.slice ao k co∧OwnS w.heap.size wr (.slice ao k co) (sayL hf p c gs (ls.take k)).2∧RunW w w.heap.size (w.heap.size+1) p c v' (sayL hf p c gs (ls.take k)).1 wr) (fun _ i _=>ls.length-(intOf i).toNat)
   case atStart=>exact ⟨0,_,none,0,Nat.zero_le _,rfl,rfl,OwnS.empty _ _,HW3.out⟩
   case round=>
    obtain ⟨k,v',ao,co,hk,rfl,rfl,hos,hW⟩:=hrel;obtain ⟨wk,rfl⟩:∃ x,x=wr:=⟨_,rfl⟩
    clear HW3;obtain ⟨hdk,h64,hcd,hal⟩:=HKP.out k hk
    by_cases hlt:k<ls.length
    ·have hnx:=HNEXT.out k hlt
     obtain ⟨gk,hgk⟩:∃ z,z=(sayL hf p c gs (ls.take k)).1:=⟨_,rfl⟩
     obtain ⟨uk,huk⟩:∃ z,z=(sayL hf p c gs (ls.take k)).2:=⟨_,rfl⟩
     unfold sayF at hnx;rw[←hgk] at hnx h64 hcd hdk hW;rw[←huk] at hnx hal hos;obtain ⟨b,off,rfl,_,hcs⟩:=HCE.out (by omega);have hb:=hW.2.2.2.1;have q0:=(Above.of_below (B:=0) hb).cell (Nat.zero_le _) (hcs k hlt);have hxl:=HLN.out _ (List.getElem_mem hlt);obtain ⟨x,hx⟩:∃ x,x=ls[k]:=⟨_,rfl⟩
     rw[←hx] at q0 hxl hnx;obtain ⟨x0,x1,x2⟩:=hW.1.three;obtain ⟨ak,ck,hvk⟩:=hW.2.2.1.shape;subst hvk;have HD:=hdd (show ∀ W,GW W→RG w.heap.size W (.slice ak gk.length ck) gk→Calls Tryz.prog 52 #[.agg #[.int .i64 p,.int .i64 c,.slice ak gk.length ck],.string ⟨x.toArray⟩] W (SayOut p c (lineG p c gk x) (lineA hf p c gk x) W) from
      fun W r0 r1=>say_any hh p c _ gk x W r0 r1 hxl hdk hcd)
     have H6:=hdd (line_i64 (p:=p) (c:=c) x h64);have HNX:=hdd hnx;obtain ⟨g2,hg2⟩:∃ z,z=lineG p c gk x:=⟨_,rfl⟩
     obtain ⟨an,han⟩:∃ z,z=lineA hf p c gk x:=⟨_,rfl⟩
     rw[←hg2,←han] at HD HNX;rw[←hg2] at H6;have HW:=hdd hW;have HAL:=hdd hal;have HOS:=hdd hos;have hzk:=hW.1.lt;have hi0:(0:Int)≤(k:Int):=by omega
     have hi1:(k:Int)<(ls.length:Int):=by omega
     have HGK:=hdd (HGW.out.below hb);clear hnx h64 hcd hdk hgk huk hcs hb hx hg2 han hW hxl hal hos;go_wp2_with fail;refine (HD.out wk HGK.out HW.out.2.2.1).mono ?_;rintro e w4 ⟨a4,c4,cc4,rfl,r1,r2,ho4,hb4⟩;unfold dkV strV;have HW4:=hdd (HW.out.below hb4);have HR4:=hdd (show RG w.heap.size w4 (.slice a4 g2.length cc4) g2 from (ho4.rgcap r1 r2 H6.out).mono HW.out.2.2.2.1.size);have HP:=hdd ((RunW.put (p:=p) (c:=c) HW4.out.1 HW4.out.2.1 HW4.out.2.2.2.1 HW4.out.2.2.2.2.1 HW4.out.2.2.2.2.2.1 HW4.out.2.2.2.2.2.2 HR4.out).below ((Below.refl _ _).alloc (Nat.le_refl _) (.cells #[.int .i64 p,.int .i64 c,.slice a4 g2.length cc4] 30)));have HOP:=hdd (((HOS.out.below hb4).put3 (x:=.int .i64 p) (y:=.int .i64 c) (z:=.slice a4 g2.length cc4) HW4.out.1).below ((Below.refl _ _).alloc (Nat.le_refl _) (.cells #[.int .i64 p,.int .i64 c,.slice a4 g2.length cc4] 30)));have hz4:=HW4.out.1.lt;clear x0 x1 x2 q0;obtain ⟨x0,x1,x2⟩:=HW4.out.1.three;have xf:=HW4.out.1.thaw;clear ho4 hb4 hzk;go_upto_region 10 with fail;obtain ⟨wp,hwp⟩:∃ z,z=(((w4.setCell ⟨w.heap.size,0,none⟩ (.int .i64 p)).setCell ⟨w.heap.size,1,none⟩ (.int .i64 c)).setCell ⟨w.heap.size,2,none⟩ (.slice a4 g2.length cc4)).alloc (.cells #[.int .i64 p,.int .i64 c,.slice a4 g2.length cc4] 30):=⟨_,rfl⟩
     rw[←hwp] at HP HOP ⊢;clear hwp x0 x1 x2 xf hz4;have HPA:=hdd (fun o=>HP.out.below ((Below.refl _ wp).alloc (Nat.le_refl _) o));have HOA:=hdd (fun o=>HOP.out.below ((Below.refl _ wp).alloc (Nat.le_refl _) o));have hk9:k≤1000:=by omega
     go_wp2_with (at_builtin; refine wpList_push_str _ rfl (.tmp 35) (.tmp 37) rfl w.heap.size (.slice ao k co) uk rfl (HOA.out _) ⟨wp.heap.size,0,none⟩ 1 ⟨an.toArray⟩ an rfl (by simp) rfl (by rw[HAL.out]; omega) (by have:=HP.out.2.2.2.1.size; simp; omega) ?_; intro a7 c7 w7 ho7 hg7; rw[HAL.out] at ho7 ⊢; have HO7:=hdd ho7; have HW7:=hdd ((HPA.out _).grownS (HOA.out _) (Nat.le_refl _) hg7); clear ho7 hg7);go_roundw
     case rel=>exact ⟨k+1,_,a7,c7,by omega,by go_num,rfl,by rw[HNX.out]; exact HO7.out,by rw[HNX.out]; exact HW7.out⟩
     case measure=>simp[intOf]; omega
    ·have hkl:k=ls.length:=by omega
     have e:ls.take k=ls:=List.take_of_length_le (by omega);rw[e] at hW hos hal;obtain ⟨ak,ck,hvk⟩:=hW.2.2.1.shape;subst hvk;rw[←hal] at hos ⊢;have HF:=hdd (says_ret (p:=p) (c:=c) hW.2.1 (by omega) hW.2.2.1 hos hW.2.2.2.1);obtain ⟨x0,x1,x2⟩:=hW.1.three;obtain ⟨r0,r1,r2,rf⟩:=zero_cells hW.2.1;obtain ⟨G,hG⟩:∃ z,z=(sayL hf p c gs ls).1:=⟨_,rfl⟩
     obtain ⟨U,hU⟩:∃ z,z=(sayL hf p c gs ls).2:=⟨_,rfl⟩
     rw[←hU] at HF hal ⊢;rw[←hG] at HF x2;have HGM:=hdd (And.intro hG hU);have hi1:¬((U.length:Int)<(ls.length:Int)):=by omega
     clear hW e hG hU hal hos hdk h64 hcd hkl hk hlt;go_wp2
     ((try simp only[Exit.inBlock,Exit.then]); refine bodyPost_ret (results_cell_tmp rfl _ _ (w.heap.size+1) _ _ (0,0) _ rfl HF.out.2 Tryz.underlying30 rfl (by kernel_rfl)) rfl ?_)
     exact HY.out _ _ HRB.out (by rw[←HGM.out.1,←HGM.out.2]; exact HF.out.1)
end
section
open Go.RowKit Go.Shelf
set_option maxRecDepth 100000
def mtN (n:Nat) (s:List UInt8):List UInt8:=if n=0 then s else mtN (n/10) (dg ((n:Int)%10)::s)
termination_by n
decreasing_by omega
def markT (m:Int):List UInt8:=if m≤0 then [109,48] else 109::mtN m.toNat []
theorem OwnS.sl {B:Nat} {w:World} {v:Value} {us:List (List UInt8)} (h:OwnS B w v us):SL B w v (us.map strV):=by
 have:=h;unfold OwnS at this;rw[show us.length=(us.map strV).length by simp] at this;exact sl_of_own this
theorem own_zeros_str {w:World} {B n:Nat} {v:Value} (h:w.ownsRow B 9 1 v n (madeCells (Value.string ⟨#[]⟩).cells (n*1)).toList):OwnS B w v (List.replicate n []):=by
 unfold OwnS;rw[List.length_replicate];have e:(List.replicate n ([]:List UInt8)).map strV=(madeCells (Value.string ⟨#[]⟩).cells (n*1)).toList:=by
  rw[Nat.mul_one,show (Value.string ⟨#[]⟩).cells=#[Value.string ⟨#[]⟩] from rfl,toList_madeCells_one]; simp[strV]
 rw[e];exact h
theorem wpList_make_strs (w:World) {ops:Array Oper} {rest:List Oper} {o:Oper} {a:Act} {Q:Exit→Act→World→Prop}
  (hg:o.guard=none) (l c:Operand) (hop:o.op=Op.makeSlice 50 l c)
  (L C:Int) (n:Nat) (hl:a.eval l=.int .i64 L) (hc:a.eval c=.int .i64 C) (hL:L=(n:Int)) (hC:C=(n:Int)) (b2:n≤1099511627776)
  (hK:∀ w',OwnS w.heap.size w' (.slice (some ⟨w.heap.size,0,none⟩) n n) (List.replicate n [])→Below w.heap.size w w'→w.heap.size<w'.heap.size →
   wpList Tryz.prog ops Q rest (a.put o.dst (.slice (some ⟨w.heap.size,0,none⟩) n n)) w'):
  wpList Tryz.prog ops Q (o::rest) a w:=by
 obtain ⟨i0,hi,hz0,hz1,hz2⟩:=info_parts infoStr;refine wpList_make_full w hg l c 50 hop w.heap.size 9 i0 (.string ⟨#[]⟩) 1 Tryz.underlying50 hi hz0 hz1 .i64 .i64 L C n hl hc hL hC (by rw[hz2]; omega) (by unfold maxLen; omega) (Nat.le_refl _) ?_;intro w' h1 h2;refine hK w' (own_zeros_str h1) ((Below.refl _ w).grown h2 (Nat.le_refl _) (by simp)) ?_;exact (World.ownsRow.lt h1 _ rfl).2
def markUs (n:Nat) (m:Int):List (List UInt8):=(List.range n).map fun i:Nat=>markT (m+(i:Int))
@[simp] theorem markUs_length (n:Nat) (m:Int):(markUs n m).length=n:=by simp[markUs]
end
end Go.Proofs.YtenlngclocfnlaaGreatDoor
