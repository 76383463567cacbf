/- Texts of this claim, put together: CircI, CircS, CircS2. -/
import Derived.Test.YtenlngclocfnlaaGreatDoorPdA
import Derived.Test.YtenlngclocfnlaaGreatDoorPdO
import Derived.Test.YtenlngclocfnlaaGreatDoorShelfS
import Derived.Sort.OwnSortedInts
import Derived.Test.YtenlngclocfnlaaGreatDoorPdGD
namespace Go.Proofs.YtenlngclocfnlaaGreatDoor
set_option linter.unusedVariables false
section
open Go.RowKit
set_option maxRecDepth 100000
theorem indexI_any {B:Nat} (v:Value) (xs:List Int) (x:Int) (w:World) (h:Ints B w v xs):
  Calls Tryz.prog 231 #[v,.int .i64 x] w fun e w'=>∃ r:Int,e=.returned (.int .i64 r)∧(0≤r↔x∈xs)∧w=w':=by
 obtain ⟨a,cap,rfl,hcap,hmax,hcells⟩:=h.opened;clear h;go_enter Tryz.func231,Tryz.ntmps231;go_wp2;go_loop [8] (fun i=>∃ k:Nat,k≤xs.length∧i=.int .i64 k∧∀ j (hj:j<xs.length),j<k→x≠xs[j]) (fun i=>xs.length-(intOf i).toNat)
 case atStart=>exact ⟨0,Nat.zero_le _,rfl,fun j _ q=>absurd q (by omega)⟩
 case round=>
  obtain ⟨k,hk,rfl,hf⟩:=hrel;have HF:=hdd hf;clear hf
  by_cases hlt:k<xs.length
  ·obtain ⟨b,off,rfl,_,hc⟩:=hcells (by omega)
   have hck:=hc k hlt;have HM:=hdd (List.getElem_mem hlt);have HS:=hdd (show x≠xs[k]→∀ j (hj:j<xs.length),j<k+1→x≠xs[j] from fun q j hj q2=>by
    by_cases e:j=k
    ·subst e; exact q
    ·exact HF.out j hj (by omega))
   obtain ⟨y,hy⟩:∃ y,y=xs[k]:=⟨_,rfl⟩
   rw[←hy] at hck HM HS;clear hc hcells hy
   cases he:(x==y)
   ·have HN:=hdd (HS.out (by simpa using he))
    go_wp2;go_round
    case rel=>exact ⟨k+1,by omega,by go_num,HN.out⟩
    case measure=>simp[intOf]; omega
   ·have HN:=hdd (show x∈xs by rw[show x=y by simpa using he]; exact HM.out)
    go_wp2;go_ret;exact ⟨k,rfl,⟨fun _=>HN.out,fun _=>by omega⟩,rfl⟩
  ·have HN:=hdd (show ¬x∈xs from fun q=>by
    obtain ⟨j,hj,e⟩:=List.getElem_of_mem q;exact HF.out j hj (by omega) e.symm)
   clear hcells;go_wp2;go_ret;exact ⟨-1,rfl,⟨fun q=>absurd q (by omega),fun q=>absurd q HN.out⟩,rfl⟩
theorem hasI_any {B:Nat} (v:Value) (xs:List Int) (x:Int) (w:World) (h:Ints B w v xs):
  Calls Tryz.prog 221 #[v,.int .i64 x] w fun e w'=>e=.returned (.bool (decide (x∈xs)))∧w=w':=by
 have hI:=indexI_any v xs x w h;obtain ⟨a,cap,rfl,hcap,hmax,_⟩:=h.opened;clear h;go_enter Tryz.func221,Tryz.ntmps221;go_wp2_with fail;refine hI.mono ?_;rintro e w' ⟨r,rfl,hr,rfl⟩;have HR:=hdd hr;clear hr
 by_cases h0:0≤r
 ·go_wp2
  go_ret;exact ⟨ret_bool (decide_eq_true (HR.out.1 h0)).symm,rfl⟩
 ·go_wp2
  go_ret;exact ⟨ret_bool (by rw[decide_eq_false (show ¬0≤r by omega),decide_eq_false (show ¬x∈xs from fun q=>by have:=HR.out.2 q; omega)]),rfl⟩
theorem boxesI_any {B:Nat} (v:Value) (xs:List Int) (w:World) (h:Ints B w v xs):
  Calls Tryz.prog 200 #[v] w fun e w'=>e=.returned (.bool (boxB xs))∧w=w':=by
 have hC:=fun x=>hasI_any v xs x w h
 obtain ⟨a,cap,rfl,hcap,hmax,_⟩:=h.opened;have hI:=in_any (xs.length:Int) 1 7 w;have HC:=hdd hC;have HYES:=hdd (show (1≤xs.length∧xs.length≤7)→(∀ i,i<xs.length→(i:Int)∈xs)→boxB xs=true from fun q1 q2=>by
  unfold boxB;simp only[Bool.and_eq_true,decide_eq_true_eq,List.all_eq_true,List.mem_range,List.contains_iff_mem];exact ⟨q1,q2⟩)
 have HNO:=hdd (show (¬(1≤xs.length∧xs.length≤7)∨∃ i,i<xs.length∧¬(i:Int)∈xs)→boxB xs=false from fun q=>by
  rw[Bool.eq_false_iff];intro q2;unfold boxB at q2;simp only[Bool.and_eq_true,decide_eq_true_eq,List.all_eq_true,List.mem_range,List.contains_iff_mem] at q2
  rcases q with q | ⟨i,hi,q⟩
  ·exact q q2.1
  ·exact q (q2.2 i hi))
 obtain ⟨r,hr⟩:∃ r,r=boxB xs:=⟨_,rfl⟩
 rw[←hr] at HYES HNO ⊢;clear h hr hC
 by_cases hin:1≤(xs.length:Int)∧(xs.length:Int)≤7
 ·rw[show inB (xs.length:Int) 1 7=true by simp only[inB,decide_eq_true_eq]; exact hin] at hI
  have HIN:=hdd (show 1≤xs.length∧xs.length≤7 by omega);clear hin;go_enter Tryz.func200,Tryz.ntmps200;go_wp2_with fail;refine hI.mono ?_;rintro e w1 ⟨rfl,rfl⟩;clear hI;go_wp2;go_loop [10] (fun i=>∃ k:Nat,k≤xs.length∧i=.int .i64 k∧∀ j:Nat,j<k→(j:Int)∈xs) (fun i=>xs.length-(intOf i).toNat)
  case atStart=>exact ⟨0,Nat.zero_le _,rfl,fun j q=>absurd q (by omega)⟩
  case round=>
   obtain ⟨k,hk,rfl,hf⟩:=hrel;have HF:=hdd hf;clear hf
   by_cases hlt:k<xs.length
   ·have hT:=HC.out (k:Int)
    have hk0:(0:Int)≤(k:Int):=by omega
    have hk1:(k:Int)<(xs.length:Int):=by omega
    by_cases hm:(k:Int)∈xs
    ·rw[decide_eq_true hm] at hT
     have HN:=hdd (show ∀ j:Nat,j<k+1→(j:Int)∈xs from fun j q=>by
      by_cases e:j=k
      ·subst e; exact hm
      ·exact HF.out j (by omega))
     clear hm;go_wp2_with fail;refine hT.mono ?_;rintro e w1 ⟨rfl,rfl⟩;go_wp2;go_round
     case rel=>exact ⟨k+1,by omega,by go_num,HN.out⟩
     case measure=>simp[intOf]; omega
    ·rw[decide_eq_false hm] at hT
     have HR:=hdd (HNO.out (.inr ⟨k,hlt,hm⟩));clear hm;go_wp2_with fail;refine hT.mono ?_;rintro e w1 ⟨rfl,rfl⟩;go_wp2;go_ret;exact ⟨ret_bool (by rw[HR.out]),rfl⟩
   ·have HR:=hdd (HYES.out HIN.out (fun i hi=>HF.out i (by omega)))
    have hk1:¬((k:Int)<(xs.length:Int)):=by omega
    go_wp2;go_ret;exact ⟨ret_bool (by rw[HR.out]),rfl⟩
 ·rw[show inB (xs.length:Int) 1 7=false by simp only[inB,decide_eq_false_iff_not]; exact hin] at hI
  have HR:=hdd (HNO.out (.inl (by omega)));clear hin;go_enter Tryz.func200,Tryz.ntmps200;go_wp2_with fail;refine hI.mono ?_;rintro e w1 ⟨rfl,rfl⟩;go_wp2;go_ret;exact ⟨ret_bool (by rw[HR.out]),rfl⟩
def lenOf:Value→Nat
 | .slice _ n _=>n
 | _=>0
theorem OwnI.lit1 (w:World) (y:Int):OwnI w.heap.size (w.alloc (.cells #[.int .i64 y] 3)) (.slice (some ⟨w.heap.size,0,none⟩) 1 1) [y]:=
 World.ownsRow_lit w #[.int .i64 y] 1 (Nat.le_refl _) (by simp[maxLen]) rfl
set_option maxHeartbeats 2000000 in
theorem openedI_any {B:Nat} (v:Value) (xs:List Int) (p:Nat) (w:World) (h:Ints B w v xs) (hb:boxB xs=true) (hp:p<xs.length):
  Calls Tryz.prog 201 #[v,.int .i64 p] w (FreshI (orbL xs p (perN xs p)) w):=by
 obtain ⟨a,cap,rfl,hcap,hmax,hcells⟩:=h.opened;obtain ⟨b,off,rfl,_,hc⟩:=hcells (by omega);have HC:=hdd hc;have HLT:=hdd (it_lt hb hp);have HST:=hdd (show ∀ t,w.cell? ⟨b,off+itN xs p t,none⟩=some (.int .i64 (itN xs p (t+1):Nat)) from fun t=>by
  rw[hc _ (it_lt hb hp t),←step_cell hb (it_lt hb hp t)]; rfl)
 have HFEW:=hdd (fun t=>it_few hb hp (t:=t));have HPER:=hdd (fun t=>per_is (xs:=xs) (p:=p) (t:=t));have HL1:=hdd (OwnI.lit1 w (p:Int));have HB1:=hdd (show Below w.heap.size w (w.alloc (.cells #[.int .i64 (p:Int)] 3)) from (Below.refl _ _).alloc (Nat.le_refl _) _);have hst0:=(Above.of_below (B:=0) HB1.out).cell (Nat.zero_le _) (HST.out 0);rw[show itN xs p 0=p from rfl] at hst0;have h7:=(boxB_iff.1 hb).1.2;have hp0:(0:Int)≤(p:Int):=by omega
 have hp1:(p:Int)<(xs.length:Int):=by omega
 obtain ⟨R,hR⟩:∃ R,R=perN xs p:=⟨_,rfl⟩
 rw[←hR] at HPER ⊢;unfold FreshI;simp only[orbL_len];clear h hcells hc hb hR;go_enter Tryz.func201,Tryz.ntmps201;go_wp2;go_loopw [5,6] (fun s l wi=>∃ (t:Nat) (ao:Option Addr) (co:Nat),1≤t∧t≤xs.length∧s=.slice ao t co∧l=.int .i64 (itN xs p t:Nat)∧OwnI w.heap.size wi (.slice ao t co) (orbL xs p t)∧(∀ q,1≤q→q<t→itN xs p q≠p)∧Below w.heap.size w wi) (fun s _ _=>xs.length-lenOf s)
 case atStart=>exact ⟨1,_,1,Nat.le_refl _,by omega,rfl,rfl,HL1.out,fun q h1 h2=>absurd h2 (by omega),HB1.out⟩
 case round=>
  obtain ⟨t,ao,co,ht1,htl,rfl,rfl,ho,hno,hbw⟩:=hrel;obtain ⟨wk,rfl⟩:∃ x,x=wr:=⟨_,rfl⟩
  have HO:=hdd ho;have HNO:=hdd hno;have HB:=hdd hbw;have hlt:=HLT.out t;have hst:=(Above.of_below (B:=0) hbw).cell (Nat.zero_le _) (HST.out t);obtain ⟨y,hy⟩:∃ y,y=itN xs p t:=⟨_,rfl⟩
  have HY:=hdd hy;rw[←hy] at hlt hst ⊢;clear HL1 HB1 ho hno hbw hst0 hy;have hy0:(0:Int)≤(y:Int):=by omega
  have hy1:(y:Int)<(xs.length:Int):=by omega
  by_cases hyp:y=p
  ·have hyp2:((y:Int) != (p:Int))=false:=by rw[hyp]; simp
   have HR:=hdd (show R=t from HPER.out t ht1 htl (by rw[←HY.out]; exact hyp) HNO.out);clear hyp;go_wp2;go_ret;exact ⟨ao,co,by rw[HR.out]; rfl,by rw[HR.out]; exact HO.out,HB.out⟩
  ·have hyp2:((y:Int) != (p:Int))=true:=by simp; omega
   have HN2:=hdd (show ∀ q,1≤q→q<t+1→itN xs p q≠p from fun q h1 h2=>by
    by_cases e:q=t
    ·subst e; rw[←HY.out]; exact hyp
    ·exact HNO.out q h1 (by omega))
   have htlt:=HFEW.out t (fun q h1 h2=>HN2.out q h1 (by omega));have HLEN:=hdd (orbL_len xs p t);clear hyp;go_wp2_with (at_builtin; refine wpList_push_int _ rfl (.tmp 20) (.tmp 22) rfl w.heap.size (.slice ao t co) (orbL xs p t) rfl (World.ownsRow.alloc HO.out _) ⟨wk.heap.size,0,none⟩ 1 (y:Int) rfl (by simp) (by rw[HLEN.out]; omega) (by have:=HB.out.size; simp; omega) ?_; intro a7 c7 w7 ho7 hg7; rw[HLEN.out] at ho7 ⊢; have hb7:=(HB.out.alloc HB.out.size (.cells #[.int .i64 (y:Int)] 3)).grown hg7 (by have:=HB.out.size; simp; omega) (fun j hj=>(World.ownsRow.lt HO.out j hj).1); have HB7:=hdd hb7; have HO7:=hdd (show OwnI w.heap.size w7 (.slice a7 (t+1) c7) (orbL xs p (t+1)) by rw[orbL_succ,←HY.out]; exact ho7); have hst7:=(Above.of_below (B:=0) hb7).cell (Nat.zero_le _) (HST.out t); rw[←HY.out] at hst7; clear ho7 hg7 hb7);go_roundw
   case rel=>exact ⟨t+1,a7,c7,by omega,by omega,rfl,rfl,HO7.out,HN2.out,HB7.out⟩
   case measure=>simp[lenOf]; omega
theorem minOf_first {zs:List Int} {p:Int} (h:zs.headD 0=p):(Lib.minOf zs==p)=zs.all fun y=>decide (p≤y):=by
 have key:∀ (l:List Int) (m:Int),m≤p→(l.foldl min m=p↔m=p∧∀ y∈l,p≤y):=by
  intro l
  induction l with
  | nil=>intro m _; simp
  | cons x l ih=>
   intro m hm;rw[List.foldl_cons,ih (min m x) (by omega)];simp only[List.mem_cons,forall_eq_or_imp]
   constructor
   ·rintro ⟨h1,h2⟩
    refine ⟨by omega,by omega,h2⟩
   ·rintro ⟨h1,h2,h3⟩
    exact ⟨by omega,h3⟩
 unfold Lib.minOf;rw[h,Bool.eq_iff_iff,beq_iff_eq,key zs p (Int.le_refl _),List.all_eq_true];simp
theorem orbL_head {xs:List Int} {p t:Nat} (h:1≤t):(orbL xs p t).headD 0=p:=by
 obtain ⟨n,rfl⟩:∃ n,t=n+1:=⟨t-1,by omega⟩
 simp[orbL,List.range_succ_eq_map,itN]
theorem minI_any {B:Nat} (a:Option Addr) (n cap:Nat) (zs:List Int) (w:World) (h:OwnI B w (.slice a n cap) zs) (hp:0<zs.length) (hl:zs.length≤1000000):
  Calls Tryz.prog 202 #[.slice a n cap] w fun e w'=>e=.returned (.int .i64 (Lib.minOf zs))∧w=w':=by
 obtain ⟨a',cap',e,_,_,hc⟩:=h.opened;injection e with e1 e2 e3;subst e1 e2;obtain ⟨g,rfl,_,hcs,_⟩:=hc hp;have:=Tryz.slices_Min_int g 0 zs.length cap zs w hp (Nat.le_refl _) (by omega) (fun j hj=>by rw[Nat.zero_add,hcs j hj]; simp[List.getD,List.getElem?_eq_getElem hj]);rw[List.take_of_length_le (Nat.le_refl _)] at this;exact this.mono fun e w' ⟨h1,h2⟩=>⟨h1,h2.symm⟩
theorem sortI_any {B:Nat} (a:Option Addr) (n cap:Nat) (zs:List Int) (w:World) (h:OwnI B w (.slice a n cap) zs) (hl:zs.length≤1000000):
  Calls Tryz.prog 203 #[.slice a n cap] w fun e w'=>e=.returned (.tuple #[])∧OwnI B w' (.slice a n cap) (sortI zs)∧w.grownBy w' (Value.slice a n cap).ownBlock:=by
 have hlen:(sortI zs).length=zs.length:=(sortI_perm zs).length_eq;obtain ⟨a',cap',e,h1,h2,hc⟩:=h.opened;injection e with e1 e2 e3;subst e1 e2 e3
 by_cases hp:0<zs.length
 ·obtain ⟨g,rfl,hgB,hcs,hfr⟩:=hc hp
  obtain ⟨hx,hx2⟩:=h
  rcases hx2 with ⟨q,_⟩ | ⟨g',cap',cur,q1,q2,q3,q4,q5,q6,q7⟩
  ·cases q
  injection q1 with q1 _ q8;injection q1 with q1;injection q1 with q1 _;subst q1 q8;have hH:Sort.Holds (Value.int .i64) w g 0 zs.toArray:=by
   intro j hj;have hj':j<zs.length:=by simpa using hj
   rw[Nat.zero_add,hcs j hj',hfr j];simp[getElem!_pos,hj']
  refine (Tryz.slices_Sort_int g 0 cap zs w hH (Array.getElem?_eq_some_iff.1 q3).1 (by omega)).mono ?_;rintro e w' ⟨rfl,k,os,rfl⟩;refine ⟨rfl,?_,grownBy_sortedI _⟩;have:=ownsRow_sortedI (n:=k) (os:=os) (ts:=sortI zs) (ss:=zs) hlen q2 q3 q4 q5 q6;unfold OwnI;rw[hlen];exact this
 ·have hz:zs=[]:=List.eq_nil_of_length_eq_zero (by omega)
  subst hz;refine (Tryz.slices_Sort_int_none a cap w).mono ?_;rintro e w' ⟨rfl,rfl⟩;refine ⟨rfl,?_,⟨rfl,rfl,rfl,Nat.le_refl _,fun _ _ _=>rfl⟩⟩;have:sortI []=[]:=List.eq_nil_of_length_eq_zero hlen;rw[this];exact h
set_option maxHeartbeats 4000000 in
theorem circI_any {B:Nat} (v:Value) (xs:List Int) (w:World) (h:Ints B w v xs):
  Calls Tryz.prog 172 #[v] w (FreshI (circL xs) w):=by
 have HX:=hdd h;have hBx:=boxesI_any v xs w h;obtain ⟨a,cap,rfl,hcap,hmax,_⟩:=h.opened;have HNO:=hdd (show boxB xs=false→circL xs=[] from fun q=>by unfold circL; rw[if_neg (by simp[q])]);have HYES:=hdd (show boxB xs=true→circL xs=sortI (lensL xs xs.length) from fun q=>by unfold circL; rw[if_pos q]);have HLEN:=hdd (show ∀ (z:List Int),(sortI z).length=z.length from fun z=>(sortI_perm z).length_eq);have HL7:=hdd (show boxB xs=true→xs.length≤7 from fun q=>(boxB_iff.1 q).1.2);have HOP:=hdd (fun (q:boxB xs=true) (p:Nat) (hp:p<xs.length) (W:World) (hW:Ints B W (.slice a xs.length cap) xs)=>openedI_any _ xs p W hW q hp);obtain ⟨R,hR⟩:∃ R,R=circL xs:=⟨_,rfl⟩
 obtain ⟨t,ht⟩:∃ t,t=boxB xs:=⟨_,rfl⟩
 rw[←hR,←ht] at HNO HYES;rw[←ht] at hBx HL7;simp only[←ht] at HOP;rw[←hR];clear h hR ht;unfold FreshI
 cases t
 ·have HR:=hdd (HNO.out rfl)
  go_enter Tryz.func172,Tryz.ntmps172;go_wp2_with fail;refine hBx.mono ?_;rintro e w1 ⟨rfl,rfl⟩;go_wp2;go_ret;exact ⟨none,0,by rw[HR.out]; rfl,by rw[HR.out]; exact OwnI.empty _ _,Below.refl _ _⟩
 ·have HR:=hdd (HYES.out rfl)
  have hl7:=HL7.out rfl;go_enter Tryz.func172,Tryz.ntmps172;go_wp2_with fail;refine hBx.mono ?_;rintro e w1 ⟨rfl,rfl⟩;clear hBx;go_wp2;go_loopw [3,11] (fun s i wi=>∃ (k m:Nat) (ao:Option Addr) (co:Nat),k≤xs.length∧i=.int .i64 k∧s=.slice ao m co∧m=(lensL xs k).length∧OwnI w.heap.size wi (.slice ao m co) (lensL xs k)∧Below w.heap.size w wi) (fun _ i _=>xs.length-(intOf i).toNat)
  case atStart=>exact ⟨0,0,none,0,by omega,rfl,rfl,rfl,OwnI.empty _ _,Below.refl _ _⟩
  case round=>
   obtain ⟨k,m,ao,co,hk,rfl,rfl,hm,ho,hb⟩:=hrel;obtain ⟨wk,rfl⟩:∃ x,x=wr:=⟨_,rfl⟩
   have HM:=hdd hm;have HO:=hdd ho;have HB:=hdd hb;have hm7:m≤7:=by rw[hm]; have:=lensL_len xs k; omega
   by_cases hlt:k<xs.length
   ·have hT:=HOP.out (by first | rfl | trivial) k hlt wk (HX.out.below hb)
    have hper:=perN_le xs k;have HLB:=hdd (minOf_first (orbL_head (xs:=xs) (p:=k) hper.1));have HOL:=hdd (orbL_len xs k (perN xs k));have HNX:=hdd (show lensL xs (k+1)=lensL xs k++(if leastB xs k=true then [(perN xs k:Int)] else []) from rfl);obtain ⟨P,hP⟩:∃ P,P=perN xs k:=⟨_,rfl⟩
    have HLE:=hdd (show leastB xs k=(orbL xs k P).all fun y=>decide ((k:Int)≤y) by rw[hP]; rfl);rw[←hP] at hT hper HLB HOL HNX;have hk0:(0:Int)≤(k:Int):=by omega
    have hk1:(k:Int)<(xs.length:Int):=by omega
    unfold FreshI at hT;rw[HOL.out] at hT;clear hm ho hb hP;go_wp2_with fail;refine hT.mono ?_;rintro e w2 ⟨a2,c2,rfl,ho2,hb2⟩;have HO2:=hdd (HO.out.below hb2);have HB2:=hdd (HB.out.trans (hb2.mono HB.out.size));have hMin:=minI_any a2 P c2 (orbL xs k P) w2 ho2 (by rw[HOL.out]; omega) (by rw[HOL.out]; omega);obtain ⟨mn,hmn⟩:∃ z,z=Lib.minOf (orbL xs k P):=⟨_,rfl⟩
    rw[←hmn] at hMin HLB;clear hT ho2 hb2 hmn;go_wp2_with fail;refine hMin.mono ?_;rintro e w3 ⟨rfl,rfl⟩;clear hMin
    by_cases hmk:mn=(k:Int)
    ·have hmk2:(mn==(k:Int))=true:=by simpa using hmk
     have HN:=hdd (show lensL xs (k+1)=lensL xs k++[(P:Int)] by rw[HNX.out,if_pos (by rw[HLE.out,←HLB.out]; exact hmk2)]);clear hmk;go_wp2_with (at_builtin; refine wpList_push_int _ rfl (.tmp 21) (.tmp 24) rfl w.heap.size (.slice ao m co) (lensL xs k) rfl (World.ownsRow.alloc HO2.out _) ⟨w2.heap.size,0,none⟩ 1 (P:Int) rfl (by simp) (by rw[←HM.out]; omega) (by have:=HB2.out.size; simp; omega) ?_; intro a7 c7 w7 ho7 hg7; rw[←HM.out] at ho7 ⊢; have HB7:=hdd ((HB2.out.alloc HB2.out.size _).grown hg7 (by have:=HB2.out.size; simp; omega) (fun j hj=>(World.ownsRow.lt HO2.out j hj).1)); have HO7:=hdd (show OwnI w.heap.size w7 (.slice a7 (m+1) c7) (lensL xs (k+1)) by rw[HN.out]; exact ho7); clear ho7 hg7);go_roundw
     case rel=>exact ⟨k+1,m+1,a7,c7,by omega,by go_num,rfl,by rw[HN.out,HM.out]; simp,HO7.out,HB7.out⟩
     case measure=>simp[intOf]; omega
    ·have hmk2:(mn==(k:Int))=false:=by simpa using hmk
     have HN:=hdd (show lensL xs (k+1)=lensL xs k by rw[HNX.out,if_neg (by rw[HLE.out,←HLB.out,hmk2]; simp),List.append_nil]);clear hmk;go_wp2;go_roundw
     case rel=>exact ⟨k+1,m,ao,co,by omega,by go_num,rfl,by rw[HN.out]; exact HM.out,by rw[HN.out]; exact HO2.out,HB2.out⟩
     case measure=>simp[intOf]; omega
   ·have hkl:k=xs.length:=by omega
    have hS:=sortI_any ao m co (lensL xs k) wk ho (by rw[←hm]; omega);have HR2:=hdd (show R=sortI (lensL xs k) by rw[HR.out,hkl]);have HRL:=hdd (show R.length=m by rw[HR2.out,HLEN.out,HM.out]);have hk1:¬((k:Int)<(xs.length:Int)):=by omega
    rw[←HR2.out] at hS;clear hkl hm ho hb;go_wp2_with fail;refine hS.mono ?_;rintro e w2 ⟨rfl,ho2,hg2⟩;have HO2:=hdd ho2;have HB2:=hdd (HB.out.grown hg2 HB.out.size (fun j hj=>(World.ownsRow.lt HO.out j hj).1));clear hS ho2 hg2;go_wp2;go_ret;exact ⟨ao,co,by rw[HRL.out]; rfl,by rw[HRL.out]; exact HO2.out,HB2.out⟩
def OwnZ (B:Nat) (w:World) (v:Value) (bs:List Bool):Prop:=w.ownsRow B 4 1 v bs.length (bs.map Value.bool)
theorem infoBool:(Tryz.prog.info? 4).map (fun i=>(i.zero,i.size,i.bytes))=some (some (.bool false),1,1):=by kernel_rfl
theorem OwnZ.at {B:Nat} {w:World} {g n cap:Nat} {bs:List Bool} (h:OwnZ B w (.slice (some ⟨g,0,none⟩) n cap) bs) (k:Nat) (hk:k<bs.length):w.cell? ⟨g,k,none⟩=some (.bool bs[k])∧w.frozen? ⟨g,k,none⟩=false:=by
 obtain ⟨a,cap',e,_,_⟩:=own_shape h;injection e with e1 e2 e3;subst e2;refine ⟨?_,World.ownsRow.frozenAt h k⟩;have:=World.ownsRow.cellAt h k (by omega);rw[this,List.getElem?_eq_getElem (by simpa using hk)];simp
theorem OwnZ.set {B:Nat} {w:World} {g n cap:Nat} {bs:List Bool} (h:OwnZ B w (.slice (some ⟨g,0,none⟩) n cap) bs) (k:Nat) (u:Bool):OwnZ B (w.setCell ⟨g,k,none⟩ (.bool u)) (.slice (some ⟨g,0,none⟩) n cap) (bs.set k u):=by
 obtain ⟨a,cap',he,_⟩:=own_shape h;injection he with _ e2 _;subst e2;have:=(World.ownsRow.stored h k (.bool u)).1;unfold OwnZ;rw[List.length_set,List.map_set];exact this
def seenL (xs:List Int) (k:Nat):List Bool:=(List.range 7).map fun i:Nat=>decide ((i:Int)∈xs.take k)
theorem seenL_len (xs:List Int) (k:Nat):(seenL xs k).length=7:=by simp[seenL]
theorem seenL_get {xs:List Int} {k i:Nat} (h:i<7):(seenL xs k)[i]'(by rw[seenL_len]; exact h)=decide ((i:Int)∈xs.take k):=by simp[seenL]
theorem seenL_zero (xs:List Int):seenL xs 0=List.replicate 7 false:=by
 simp[seenL]
 rfl
theorem seenL_next {xs:List Int} {k y:Nat} (hk:k<xs.length) (hy:xs[k]=(y:Int)) (h7:y<7):(seenL xs k).set y true=seenL xs (k+1):=by
 refine List.ext_getElem (by simp[seenL_len]) fun i h1 h2=>?_
 rw[seenL_len] at h2;rw[List.getElem_set,seenL_get (k:=k+1) h2,List.take_succ_eq_append_getElem hk]
 split
 ·rename_i e; subst e
  simp[hy]
 ·rename_i e
  rw[seenL_get h2]
  congr 1
  rw[List.mem_append,List.mem_singleton,hy];apply propext
  constructor
  ·exact .inl
  ·rintro (q | q)
   ·exact q
   ·exact absurd (by omega) e
set_option maxHeartbeats 4000000 in
theorem boxesS_any {B:Nat} (v:Value) (xs:List Int) (w:World) (h:Ints B w v xs):
  Calls Tryz.prog 139 #[v] w fun e w'=>e=.returned (.bool (boxB xs))∧Below w.heap.size w w':=by
 obtain ⟨a,cap,rfl,hcap,hmax,hcells⟩:=h.opened;have HCE:=hdd hcells;have HI2:=hdd (l1In_any (xs.length:Int) 1 7);have HL:=hdd (fun (x:Int) W=>l1In_any x 0 ((xs.length:Int)-1) W);have HRNG:=hdd (show (∃ k,∃ hk:k<xs.length,¬(0≤xs[k]∧xs[k]≤(xs.length:Int)-1))→boxB xs=false from fun ⟨k,hk,q⟩=>by
  rw[Bool.eq_false_iff];intro q2;have:=box_rng q2 _ (List.getElem_mem hk);exact q (by omega))
 have HBIG:=hdd (show ¬(1≤(xs.length:Int)∧(xs.length:Int)≤7)→boxB xs=false from fun q=>by
  rw[Bool.eq_false_iff];intro q2;have:=(boxB_iff.1 q2).1;exact q (by omega))
 have HDUP:=hdd (show (∃ k,∃ hk:k<xs.length,xs[k]∈xs.take k)→boxB xs=false from fun ⟨k,hk,q⟩=>by
  rw[Bool.eq_false_iff];intro q2;have hd:=box_nodup q2;have h2:(xs.take k++xs[k]::xs.drop (k+1)).Nodup:=by rw[←List.drop_eq_getElem_cons hk,List.take_append_drop]; exact hd
  exact (List.nodup_append.1 h2).2.2 xs[k] q xs[k] List.mem_cons_self rfl)
 have HYES:=hdd (show (1≤xs.length∧xs.length≤7)→(∀ k (hk:k<xs.length),0≤xs[k]∧xs[k]≤(xs.length:Int)-1)→xs.Nodup→boxB xs=true from fun q1 q2 q3=>
  boxB_spec q1 (fun x hx=>by obtain ⟨k,hk,rfl⟩:=List.getElem_of_mem hx; have:=q2 k hk; omega) q3)
 obtain ⟨R,hR⟩:∃ R,R=boxB xs:=⟨_,rfl⟩
 rw[←hR] at HRNG HBIG HDUP HYES ⊢;clear h hcells hR;go_enter Tryz.func139,Tryz.ntmps139;go_wp2_with (at_make; obtain ⟨i0,hi,hz0,hz1,hz2⟩:=info_parts infoBool; refine wpList_make_full _ rfl _ _ 185 rfl w.heap.size 4 i0 (.bool false) 1 Tryz.underlying185 hi hz0 hz1 .i64 .i64 7 7 7 rfl rfl rfl rfl (by rw[hz2]; omega) (by simp[maxLen]) (Nat.le_refl _) ?_; intro w3 hr3 hg3);obtain ⟨g,hg⟩:∃ g,g=w.heap.size:=⟨_,rfl⟩
 have hgw:w.heap.size≤g:=by omega
 have HO:=hdd (show OwnZ w.heap.size w3 (.slice (some ⟨g,0,none⟩) 7 7) (seenL xs 0) by
  rw[seenL_zero,hg];have e:(madeCells (Value.bool false).cells (7*1)).toList=(List.replicate 7 false).map Value.bool:=by
   rw[Nat.mul_one,show (Value.bool false).cells=#[Value.bool false] from rfl,toList_madeCells_one]; simp
  rw[e] at hr3;exact hr3)
 have HB:=hdd (show Below w.heap.size w w3 from (Below.refl _ w).grown hg3 (Nat.le_refl _) (by simp));rw[←hg];clear hr3 hg3 hg hi hz0 hz1 hz2;obtain ⟨wf,rfl⟩:∃ wf:World,wf=w3:=⟨_,rfl⟩
 go_wp2;go_loopw [4] (fun i wi=>∃ k:Nat,k≤xs.length∧i=.int .i64 k∧OwnZ w.heap.size wi (.slice (some ⟨g,0,none⟩) 7 7) (seenL xs k)∧Below w.heap.size w wi∧(0<k→1≤xs.length∧xs.length≤7)∧(∀ j (hj:j<xs.length),j<k→0≤xs[j]∧xs[j]≤(xs.length:Int)-1)∧(xs.take k).Nodup) (fun i _=>xs.length-(intOf i).toNat)
 case atStart=>exact ⟨0,Nat.zero_le _,rfl,HO.out,HB.out,fun q=>absurd q (by omega),fun j _ q=>absurd q (by omega),by simp⟩
 case round=>
  obtain ⟨k,hk,rfl,ho,hb,h7,hall,hnd⟩:=hrel;obtain ⟨wk,rfl⟩:∃ x,x=wr:=⟨_,rfl⟩
  have HBK:=hdd hb;have HALL:=hdd hall;have HND:=hdd hnd;have H7:=hdd h7;clear HO HB hall hnd h7
  by_cases hlt:k<xs.length
  ·obtain ⟨b,off,rfl,_,hc⟩:=HCE.out (by omega)
   have hck:=(Above.of_below (B:=0) hb).cell (Nat.zero_le _) (hc k hlt);have hL:=HL.out xs[k] wk;have HX:=hdd (show xs[k]=xs[k] from rfl);obtain ⟨x,hx⟩:∃ x,x=xs[k]:=⟨_,rfl⟩
   have HXK:=hdd hx;rw[←hx] at hck hL;have hi0:(0:Int)≤(k:Int):=by omega
   have hi1:(k:Int)<(xs.length:Int):=by omega
   have hm1:(xs.length:Int)≤9223372036854775807:=by omega
   clear hc hx HX
   by_cases hr:0≤x∧x≤(xs.length:Int)-1
   ·rw[show inB x 0 ((xs.length:Int)-1)=true by simp only[inB,decide_eq_true_eq]; exact hr] at hL
    by_cases hn7:1≤(xs.length:Int)∧(xs.length:Int)≤7
    ·have hI2:=HI2.out wk
     rw[show inB (xs.length:Int) 1 7=true by simp only[inB,decide_eq_true_eq]; exact hn7] at hI2;obtain ⟨y,rfl⟩:∃ y:Nat,x=y:=⟨x.toNat,by omega⟩
     have hy7:y<7:=by omega
     obtain ⟨cy,fy⟩:=ho.at y (by rw[seenL_len]; omega);rw[seenL_get hy7] at cy;have HNX:=hdd (show OwnZ w.heap.size (wk.setCell ⟨g,y,none⟩ (.bool true)) (.slice (some ⟨g,0,none⟩) 7 7) (seenL xs (k+1)) by
      have:=ho.set y true;rw[seenL_next hlt HXK.out.symm hy7] at this;exact this)
     have HBX:=hdd (hb.setCell (p:=⟨g,y,none⟩) hgw (.bool true));have hy0:(0:Int)≤(y:Int):=by omega
     have hy1:(y:Int)<7:=by omega
     have HAL:=hdd (show ∀ j (hj:j<xs.length),j<k+1→0≤xs[j]∧xs[j]≤(xs.length:Int)-1 from fun j hj q=>by
      by_cases e:j=k
      ·subst e; rw[←HXK.out]; exact hr
      ·exact HALL.out j hj (by omega))
     have H77:=hdd (show 1≤xs.length∧xs.length≤7 by omega);clear ho hr hn7 hb
     by_cases hs:(y:Int)∈xs.take k
     ·rw[decide_eq_true hs] at cy
      have HR:=hdd (HDUP.out ⟨k,hlt,by rw[←HXK.out]; exact hs⟩);clear hs;go_wp2_with fail;refine hL.mono ?_;rintro e w5 ⟨rfl,rfl⟩;go_wp2_with fail;refine hI2.mono ?_;rintro e w5 ⟨rfl,rfl⟩;go_wp2;go_ret;exact ⟨ret_bool (by rw[HR.out]),HBK.out⟩
     ·rw[decide_eq_false hs] at cy
      have HN2:=hdd (show (xs.take (k+1)).Nodup by
       rw[List.take_succ_eq_append_getElem hlt,List.nodup_append];refine ⟨HND.out,by simp,fun u hu z hz e=>?_⟩;simp only[List.mem_singleton] at hz;rw[e,hz,←HXK.out] at hu;exact hs hu)
      clear hs;go_wp2_with fail;refine hL.mono ?_;rintro e w5 ⟨rfl,rfl⟩;go_wp2_with fail;refine hI2.mono ?_;rintro e w5 ⟨rfl,rfl⟩;go_wp2;go_roundw
      case rel=>exact ⟨k+1,by omega,by go_num,HNX.out,HBX.out,fun _=>H77.out,HAL.out,HN2.out⟩
      case measure=>simp[intOf]; omega
    ·have hI2:=HI2.out wk
     rw[show inB (xs.length:Int) 1 7=false by simp only[inB,decide_eq_false_iff_not]; exact hn7] at hI2;have HR:=hdd (HBIG.out hn7);clear ho hr hn7 hb;go_wp2_with fail;refine hL.mono ?_;rintro e w5 ⟨rfl,rfl⟩;go_wp2_with fail;refine hI2.mono ?_;rintro e w5 ⟨rfl,rfl⟩;go_wp2;go_ret;exact ⟨ret_bool (by rw[HR.out]),HBK.out⟩
   ·rw[show inB x 0 ((xs.length:Int)-1)=false by simp only[inB,decide_eq_false_iff_not]; exact hr] at hL
    have HR:=hdd (HRNG.out ⟨k,hlt,by rw[←HXK.out]; exact hr⟩);clear ho hr hb;go_wp2_with fail;refine hL.mono ?_;rintro e w5 ⟨rfl,rfl⟩;go_wp2;go_ret;exact ⟨ret_bool (by rw[HR.out]),HBK.out⟩
  ·have hkl:k=xs.length:=by omega
   have hk1:¬((k:Int)<(xs.length:Int)):=by omega
   by_cases h0:(0:Int)<(xs.length:Int)
   ·have HR:=hdd (HYES.out (H7.out (by omega)) (fun j hj=>HALL.out j hj (by omega)) (by have:=HND.out; rwa [List.take_of_length_le (by omega)] at this))
    clear ho hb hkl;go_wp2;go_ret;exact ⟨ret_bool (by rw[HR.out]; exact decide_eq_true (by omega)),HBK.out⟩
   ·have HR:=hdd (HBIG.out (by omega))
    clear ho hb hkl;go_wp2;go_ret;exact ⟨ret_bool (by rw[HR.out]; exact decide_eq_false (by omega)),HBK.out⟩
set_option maxHeartbeats 4000000 in
theorem openedS_any {B:Nat} (v:Value) (xs:List Int) (p:Nat) (w:World) (h:Ints B w v xs) (hb:boxB xs=true) (hp:p<xs.length):
  Calls Tryz.prog 140 #[v,.int .i64 p] w (FreshI (orbL xs p (perN xs p)) w):=by
 have HX:=hdd h;obtain ⟨a,cap,rfl,hcap,hmax,hcells⟩:=h.opened;obtain ⟨b,off,rfl,_,hc⟩:=hcells (by omega);have HLT:=hdd (it_lt hb hp);have HST:=hdd (show ∀ t,w.cell? ⟨b,off+itN xs p t,none⟩=some (.int .i64 (itN xs p (t+1):Nat)) from fun t=>by
  rw[hc _ (it_lt hb hp t),←step_cell hb (it_lt hb hp t)]; rfl)
 have HFEW:=hdd (fun t=>it_few hb hp (t:=t));have HPER:=hdd (fun t=>per_is (xs:=xs) (p:=p) (t:=t));have HL0:=hdd (OwnI.lit w);have hb0:Below w.heap.size w (w.alloc (.cells #[] 3)):=(Below.refl _ _).alloc (Nat.le_refl _) _;have HB0:=hdd hb0;have hBx:=boxesS_any (.slice (some ⟨b,off,none⟩) xs.length cap) xs (w.alloc (.cells #[] 3)) (h.below hb0);rw[hb] at hBx;have h7:=(boxB_iff.1 hb).1.2;have hp0:(0:Int)≤(p:Int):=by omega
 have hp1:(p:Int)<(xs.length:Int):=by omega
 have hI:=fun W=>l1In_any (p:Int) 0 ((xs.length:Int)-1) W
 simp only[show inB (p:Int) 0 ((xs.length:Int)-1)=true by simp only[inB,decide_eq_true_eq]; omega] at hI;have HI:=hdd hI;obtain ⟨R,hR⟩:∃ R,R=perN xs p:=⟨_,rfl⟩
 rw[←hR] at HPER ⊢;unfold FreshI;simp only[orbL_len];clear h hcells hc hb hR hI hb0;go_enter Tryz.func140,Tryz.ntmps140;go_wp2_with fail;refine hBx.mono ?_;rintro e w1 ⟨rfl,hb1⟩;have HL1:=hdd (HL0.out.below hb1);have HB1:=hdd (HB0.out.trans (hb1.mono HB0.out.size));have hI:=HI.out w1;clear hBx hb1 HL0 HB0 HI;go_wp2_with fail;refine hI.mono ?_;rintro e w2 ⟨rfl,rfl⟩;clear hI;obtain ⟨wf,rfl⟩:∃ x,x=w1:=⟨_,rfl⟩
 go_wp2;go_loopw [5,6] (fun s l wi=>∃ (t:Nat) (ao:Option Addr) (co:Nat),t<xs.length∧s=.slice ao t co∧l=.int .i64 (itN xs p t:Nat)∧OwnI w.heap.size wi (.slice ao t co) (orbL xs p t)∧(∀ q,1≤q→q≤t→itN xs p q≠p)∧Below w.heap.size w wi) (fun s _ _=>xs.length-lenOf s)
 case atStart=>exact ⟨0,_,0,by omega,rfl,rfl,HL1.out,fun q h1 h2=>absurd h2 (by omega),HB1.out⟩
 case round=>
  obtain ⟨t,ao,co,htl,rfl,rfl,ho,hno,hbw⟩:=hrel;obtain ⟨wk,rfl⟩:∃ x,x=wr:=⟨_,rfl⟩
  have HO:=hdd ho;have HNO:=hdd hno;have HB:=hdd hbw;have hlt:=HLT.out t;have hlt2:=HLT.out (t+1);have HLEN:=hdd (orbL_len xs p t);have HST2:=hdd (HST.out t);have HSUC:=hdd (orbL_succ xs p t);obtain ⟨z,hz⟩:∃ z,z=itN xs p (t+1):=⟨_,rfl⟩
  have HZ:=hdd hz;rw[←hz] at hlt2 HST2;obtain ⟨y,hy⟩:∃ y,y=itN xs p t:=⟨_,rfl⟩
  rw[←hy] at hlt HST2 HSUC ⊢;clear HL1 HB1 ho hno hbw hy hz;have hy0:(0:Int)≤(y:Int):=by omega
  have hy1:(y:Int)<(xs.length:Int):=by omega
  by_cases hzp:z=p
  ·have hzp2:((z:Int)==(p:Int))=true:=by rw[hzp]; simp
   have HR:=hdd (show R=t+1 from HPER.out (t+1) (by omega) (by omega) (by rw[←HZ.out]; exact hzp) (fun s h1 h2=>HNO.out s h1 (by omega)));clear hzp;go_wp2_with (at_builtin; refine wpList_push_int _ rfl (.tmp 21) (.tmp 23) rfl w.heap.size (.slice ao t co) (orbL xs p t) rfl (World.ownsRow.alloc HO.out _) ⟨wk.heap.size,0,none⟩ 1 (y:Int) rfl (by simp) (by rw[HLEN.out]; omega) (by have:=HB.out.size; simp; omega) ?_; intro a7 c7 w7 ho7 hg7; rw[HLEN.out] at ho7 ⊢; have hb7:=(HB.out.alloc HB.out.size (.cells #[.int .i64 (y:Int)] 3)).grown hg7 (by have:=HB.out.size; simp; omega) (fun j hj=>(World.ownsRow.lt HO.out j hj).1); have HB7:=hdd hb7; have HO7:=hdd (show OwnI w.heap.size w7 (.slice a7 (t+1) c7) (orbL xs p (t+1)) by rw[HSUC.out]; exact ho7); have hst7:=(Above.of_below (B:=0) hb7).cell (Nat.zero_le _) HST2.out; clear ho7 hg7 hb7);go_ret;exact ⟨a7,c7,by rw[HR.out]; rfl,by rw[HR.out]; exact HO7.out,HB7.out⟩
  ·have hzp2:((z:Int)==(p:Int))=false:=by rw[beq_eq_false_iff_ne]; omega
   have HN2:=hdd (show ∀ q,1≤q→q≤t+1→itN xs p q≠p from fun q h1 h2=>by
    by_cases e:q=t+1
    ·subst e; rw[←HZ.out]; exact hzp
    ·exact HNO.out q h1 (by omega))
   have htlt:=HFEW.out (t+1) HN2.out;clear hzp;go_wp2_with (at_builtin; refine wpList_push_int _ rfl (.tmp 21) (.tmp 23) rfl w.heap.size (.slice ao t co) (orbL xs p t) rfl (World.ownsRow.alloc HO.out _) ⟨wk.heap.size,0,none⟩ 1 (y:Int) rfl (by simp) (by rw[HLEN.out]; omega) (by have:=HB.out.size; simp; omega) ?_; intro a7 c7 w7 ho7 hg7; rw[HLEN.out] at ho7 ⊢; have hb7:=(HB.out.alloc HB.out.size (.cells #[.int .i64 (y:Int)] 3)).grown hg7 (by have:=HB.out.size; simp; omega) (fun j hj=>(World.ownsRow.lt HO.out j hj).1); have HB7:=hdd hb7; have HO7:=hdd (show OwnI w.heap.size w7 (.slice a7 (t+1) c7) (orbL xs p (t+1)) by rw[HSUC.out]; exact ho7); have hst7:=(Above.of_below (B:=0) hb7).cell (Nat.zero_le _) HST2.out; clear ho7 hg7 hb7);go_roundw
   case rel=>exact ⟨t+1,a7,c7,htlt,rfl,by rw[←HZ.out],HO7.out,HN2.out,HB7.out⟩
   case measure=>simp[lenOf]; omega
def InsAt (L zs:List Int) (k j:Nat):Prop:=
 ∃ (P:List Int) (x:Int) (Q T:List Int),zs=P++x::(Q++T)∧P.length=j∧j+Q.length=k∧(P++Q).Pairwise (·≤·)∧(∀ q∈Q,x≤q)∧zs.Perm L
theorem ins_start {L zs:List Int} {k:Nat} (hk:k<zs.length) (hs:(zs.take k).Pairwise (·≤·)) (hp:zs.Perm L):InsAt L zs k k:=
 ⟨zs.take k,zs[k],[],zs.drop (k+1),by rw[List.nil_append,←List.drop_eq_getElem_cons hk,List.take_append_drop],by rw[List.length_take]; omega,by simp,by simpa using hs,by simp,hp⟩
theorem ins_get {L zs:List Int} {k j:Nat} (h:InsAt L zs k (j+1)):∃ (h1:j+1<zs.length),∀ x y,zs[j+1]=x→zs[j]'(by omega)=y→(x<y→InsAt L ((zs.set (j+1) y).set j x) k j)∧(¬x<y→(zs.take (k+1)).Pairwise (·≤·)):=by
 obtain ⟨P,x,Q,T,rfl,hl,hq,hs,hx,hp⟩:=h;obtain ⟨P',y,rfl⟩:∃ P' y,P=P'++[y]:=by
  have hne:P≠[]:=fun e=>by rw[e] at hl; simp at hl
  exact ⟨P.dropLast,P.getLast hne,(List.dropLast_concat_getLast hne).symm⟩
 have hl':P'.length=j:=by simpa using hl
 subst hl';have h1:P'.length+1<((P'++[y])++x::(Q++T)).length:=by simp
 refine ⟨h1,fun x' y' ex ey=>?_⟩;have ex2:x'=x:=by
  rw[←ex];rw[List.getElem_append_right (by simp)];simp
 have ey2:y'=y:=by
  rw[←ey];rw[List.getElem_append_left (by simp)];simp
 subst ex2 ey2
 constructor
 ·intro hxy
  have e:(((P'++[y'])++x'::(Q++T)).set (P'.length+1) y').set P'.length x'=P'++x'::((y'::Q)++T):=by
   rw[List.append_assoc,List.singleton_append];rw[List.set_append_right _ _ (by omega),show P'.length+1-P'.length=1 by omega];rw[List.set_append_right _ _ (by omega),Nat.sub_self]
   rfl
  rw[e];refine ⟨P',x',y'::Q,T,rfl,rfl,by simp; omega,by simpa using hs,fun q hqm=>?_,?_⟩
  ·rcases List.mem_cons.1 hqm with rfl | hqm
   ·omega
   ·exact hx q hqm
  ·refine List.Perm.trans ?_ hp
   have:(P'++x'::(y'::Q++T)).Perm (P'++y'::x'::(Q++T)):=List.Perm.append_left P' (List.Perm.swap y' x' (Q++T))
   simpa using this
 ·intro hxy
  have e:((P'++[y'])++x'::(Q++T)).take (k+1)=(P'++[y'])++x'::Q:=by
   have e2:(P'++[y'])++x'::(Q++T)=((P'++[y'])++x'::Q)++T:=by simp
   rw[e2,List.take_append_of_le_length (by simp at hq ⊢; omega),List.take_of_length_le (by simp at hq ⊢; omega)]
  rw[e];rw[List.pairwise_append] at hs ⊢;obtain ⟨s1,s2,s3⟩:=hs;refine ⟨s1,List.pairwise_cons.2 ⟨hx,s2⟩,fun a ha b hb=>?_⟩
  rcases List.mem_cons.1 hb with rfl | hb
  ·rw[List.pairwise_append] at s1
   rcases List.mem_append.1 ha with ha | ha
   ·have:=s1.2.2 a ha y' (by simp)
    omega
   ·simp only[List.mem_singleton] at ha; omega
  ·exact s3 a ha b hb
theorem ins_zero {L zs:List Int} {k:Nat} (h:InsAt L zs k 0):(zs.take (k+1)).Pairwise (·≤·):=by
 obtain ⟨P,x,Q,T,rfl,hl,hq,hs,hx,hp⟩:=h;have:P=[]:=List.eq_nil_of_length_eq_zero hl;subst this;have e:([]++x::(Q++T)).take (k+1)=x::Q:=by
  simp only[List.nil_append,List.take_succ_cons];rw[List.take_append_of_le_length (by omega),List.take_of_length_le (by omega)]
 rw[e];exact List.pairwise_cons.2 ⟨hx,by simpa using hs⟩
theorem ins_perm {L zs:List Int} {k j:Nat} (h:InsAt L zs k j):zs.Perm L:=by obtain ⟨P,x,Q,T,_,_,_,_,_,hp⟩:=h; exact hp
theorem own_cellI {B:Nat} {w:World} {g n cap:Nat} {xs:List Int} (h:OwnI B w (.slice (some ⟨g,0,none⟩) n cap) xs) (k:Nat) (hk:k<xs.length):w.cell? ⟨g,k,none⟩=some (.int .i64 xs[k])∧w.frozen? ⟨g,k,none⟩=false:=by
 obtain ⟨a,cap',he,_,_,hd⟩:=h.opened;injection he with e1 _ _;subst e1;obtain ⟨g',hg,_,hc,hf⟩:=hd (by omega);injection hg with hg;injection hg with hg _ _;subst hg;exact ⟨hc k hk,hf k⟩
def leastTo (k:Int) (zs:List Int) (j:Nat):Int:=(zs.take j).foldl min k
theorem leastTo_next {k:Int} {zs:List Int} {j:Nat} (h:j<zs.length):leastTo k zs (j+1)=min (leastTo k zs j) zs[j]:=by
 unfold leastTo;rw[List.take_succ_eq_append_getElem h,List.foldl_append]
 rfl
theorem leastTo_end {k:Int} {zs:List Int}:(leastTo k zs zs.length==k)=zs.all fun y=>decide (k≤y):=by
 have key:∀ (l:List Int) (m:Int),m≤k→(l.foldl min m=k↔m=k∧∀ y∈l,k≤y):=by
  intro l
  induction l with
  | nil=>intro m _; simp
  | cons x l ih=>
   intro m hm;rw[List.foldl_cons,ih (min m x) (by omega)];simp only[List.mem_cons,forall_eq_or_imp]
   constructor
   ·rintro ⟨h1,h2⟩
    refine ⟨by omega,by omega,h2⟩
   ·rintro ⟨h1,h2,h3⟩
    exact ⟨by omega,h3⟩
 unfold leastTo;rw[List.take_length,Bool.eq_iff_iff,beq_iff_eq,key zs k (Int.le_refl _),List.all_eq_true];simp
set_option maxHeartbeats 8000000 in
theorem circS_any {B:Nat} (v:Value) (xs:List Int) (w:World) (h:Ints B w v xs):
  Calls Tryz.prog 108 #[v] w (FreshI (circL xs) w):=by
 have HX:=hdd h;have hBx:=fun W q=>boxesS_any (B:=B) v xs W q
 obtain ⟨a,cap,rfl,hcap,hmax,_⟩:=h.opened;have HNO:=hdd (show boxB xs=false→circL xs=[] from fun q=>by unfold circL; rw[if_neg (by simp[q])]);have HYES:=hdd (show boxB xs=true→circL xs=sortI (lensL xs xs.length) from fun q=>by unfold circL; rw[if_pos q]);have HL7:=hdd (show boxB xs=true→xs.length≤7 from fun q=>(boxB_iff.1 q).1.2);have HOP:=hdd (fun (q:boxB xs=true) (p:Nat) (hp:p<xs.length) (W:World) (hW:Ints B W (.slice a xs.length cap) xs)=>openedS_any _ xs p W hW q hp);obtain ⟨R,hR⟩:∃ R,R=circL xs:=⟨_,rfl⟩
 obtain ⟨t,ht⟩:∃ t,t=boxB xs:=⟨_,rfl⟩
 rw[←hR,←ht] at HNO HYES;rw[←ht] at HL7;simp only[←ht] at HOP hBx;rw[←hR];have HBX:=hdd hBx;have HL0:=hdd (OwnI.lit w);have HB0:=hdd (show Below w.heap.size w (w.alloc (.cells #[] 3)) from (Below.refl _ _).alloc (Nat.le_refl _) _);clear h hR ht hBx;unfold FreshI;go_enter Tryz.func108,Tryz.ntmps108
 cases t
 ·have HR:=hdd (HNO.out rfl)
  go_wp2;go_loopw [3,4] (fun s i wi=>s=.slice (some ⟨w.heap.size,0,none⟩) 0 0∧i=.int .i64 0∧wi=w.alloc (.cells #[] 3)) (fun _ _ _=>0)
  case atStart=>exact ⟨rfl,rfl,rfl⟩
  case round=>
   obtain ⟨rfl,rfl,rfl⟩:=hrel;have hend:∀ W,OwnI w.heap.size W (.slice (some ⟨w.heap.size,0,none⟩) 0 0) []→True:=fun _ _=>trivial
   by_cases h0:(0:Int)<(xs.length:Int)
   ·have hT:=HBX.out (w.alloc (.cells #[] 3)) (HX.out.below HB0.out)
    go_wp2_with fail;refine hT.mono ?_;rintro e w2 ⟨rfl,hb2⟩;have HB2:=hdd (HB0.out.trans (hb2.mono HB0.out.size));have HO2:=hdd (HL0.out.below hb2);clear hT hb2;go_wp2;go_loopw [8] (fun i wi=>i=.int .i64 1∧wi=w2) (fun _ _=>0)
    case atStart=>exact ⟨rfl,rfl⟩
    case round=>
     obtain ⟨rfl,rfl⟩:=hrel;go_wp2;go_ret;exact ⟨some ⟨w.heap.size,0,none⟩,0,by rw[HR.out]; rfl,by rw[HR.out]; exact HO2.out,HB2.out⟩
   ·go_wp2
    go_loopw [8] (fun i wi=>i=.int .i64 1∧wi=w.alloc (.cells #[] 3)) (fun _ _=>0)
    case atStart=>exact ⟨rfl,rfl⟩
    case round=>
     obtain ⟨rfl,rfl⟩:=hrel;go_wp2;go_ret;exact ⟨some ⟨w.heap.size,0,none⟩,0,by rw[HR.out]; rfl,by rw[HR.out]; exact HL0.out,HB0.out⟩
 ·have HR:=hdd (HYES.out rfl)
  have hl7:=HL7.out rfl;go_wp2;go_loopw [3,4] (fun s i wi=>∃ (k m:Nat) (ao:Option Addr) (co:Nat),k≤xs.length∧i=.int .i64 k∧s=.slice ao m co∧m=(lensL xs k).length∧OwnI w.heap.size wi (.slice ao m co) (lensL xs k)∧Below w.heap.size w wi) (fun _ i _=>xs.length-(intOf i).toNat)
  case atStart=>exact ⟨0,0,_,0,by omega,rfl,rfl,rfl,HL0.out,HB0.out⟩
  case round=>
   obtain ⟨k,m,ao,co,hk,rfl,rfl,hm,ho,hb⟩:=hrel;obtain ⟨wk,rfl⟩:∃ x,x=wr:=⟨_,rfl⟩
   have HM:=hdd hm;have HO:=hdd ho;have HB:=hdd hb;have hm7:m≤7:=by rw[hm]; have:=lensL_len xs k; omega
   clear HL0 HB0
   by_cases hlt:k<xs.length
   ·have hT:=HBX.out wk (HX.out.below hb)
    have hper:=perN_le xs k;have HOL:=hdd (orbL_len xs k (perN xs k));have HNX:=hdd (show lensL xs (k+1)=lensL xs k++(if leastB xs k=true then [(perN xs k:Int)] else []) from rfl);have HOPK:=hdd (fun W q=>HOP.out (by first | rfl | trivial) k hlt W q);obtain ⟨P,hP⟩:∃ P,P=perN xs k:=⟨_,rfl⟩
    have HLE:=hdd (show leastB xs k=(orbL xs k P).all fun y=>decide ((k:Int)≤y) by rw[hP]; rfl);simp only[←hP] at HOPK;rw[←hP] at hper HOL HNX;have hk0:(0:Int)≤(k:Int):=by omega
    have hk1:(k:Int)<(xs.length:Int):=by omega
    clear hm ho hb hP;go_wp2_with fail;refine hT.mono ?_;rintro e w2 ⟨rfl,hb2⟩;have HO2:=hdd (HO.out.below hb2);have HB2:=hdd (HB.out.trans (hb2.mono HB.out.size));have hQ:=HOPK.out w2 (HX.out.below HB2.out);unfold FreshI at hQ;rw[HOL.out] at hQ;clear hT hb2;go_wp2_with fail;refine hQ.mono ?_;rintro e w3 ⟨a3,c3,rfl,ho3,hb3⟩;have HO3:=hdd (HO2.out.below hb3);have HB3:=hdd (HB2.out.trans (hb3.mono HB2.out.size));obtain ⟨Z,hZ⟩:∃ Z,Z=orbL xs k P:=⟨_,rfl⟩
    rw[←hZ] at ho3 HLE HOL;have HZ3:=hdd ho3;clear hQ ho3 hb3 hZ;go_wp2;go_loopw [6,7] (fun l i wi=>∃ (j:Nat) (y:Int),j≤P∧i=.int .i64 j∧l=.int .i64 y∧y=leastTo k Z j∧wi=w3) (fun _ i _=>P-(intOf i).toNat)
    case atStart=>exact ⟨0,k,by omega,rfl,rfl,rfl,rfl⟩
    case round=>
     obtain ⟨j,y,hj,rfl,rfl,hy,hw⟩:=hrel;rw[hw];clear hw;have HY:=hdd hy;clear hy
     by_cases hjP:j<P
     ·obtain ⟨a',cap',e',_,_,hc3⟩:=HZ3.out.opened
      injection e' with e1 e2 e3;subst e1 e3;obtain ⟨g,rfl,_,hcs,_⟩:=hc3 (by rw[HOL.out]; omega);have hcj:=hcs j (by rw[HOL.out]; exact hjP);have HN:=hdd (leastTo_next (k:=(k:Int)) (zs:=Z) (j:=j) (by rw[HOL.out]; exact hjP));obtain ⟨z,hz⟩:∃ z,z=Z[j]'(by rw[HOL.out]; exact hjP):=⟨_,rfl⟩
      rw[←hz] at hcj HN;have hj0:(0:Int)≤(j:Int):=by omega
      have hj1:(j:Int)<(P:Int):=by omega
      clear hcs hc3 hz e2;go_wp2;go_roundw
      case rel=>exact ⟨j+1,min y z,by omega,by go_num,rfl,by rw[HN.out,HY.out],by first | rfl | trivial⟩
      case measure=>simp[intOf]; omega
     ·have hjP2:j=P:=by omega
      have HLAST:=hdd (show (y==(k:Int))=leastB xs k by
       rw[HLE.out,HY.out,hjP2,←HOL.out]; exact leastTo_end)
      have hj1:¬((j:Int)<(P:Int)):=by omega
      clear hjP2
      by_cases hyk:y=(k:Int)
      ·have hyk2:(y==(k:Int))=true:=by simpa using hyk
       have HN:=hdd (show lensL xs (k+1)=lensL xs k++[(P:Int)] by rw[HNX.out,if_pos (by rw[←HLAST.out]; exact hyk2)]);clear hyk;go_wp2_with (at_builtin; refine wpList_push_int _ rfl (.tmp 41) (.tmp 44) rfl w.heap.size (.slice ao m co) (lensL xs k) rfl (World.ownsRow.alloc HO3.out _) ⟨w3.heap.size,0,none⟩ 1 (P:Int) rfl (by simp) (by rw[←HM.out]; omega) (by have:=HB3.out.size; simp; omega) ?_; intro a7 c7 w7 ho7 hg7; rw[←HM.out] at ho7 ⊢; have HB7:=hdd ((HB3.out.alloc HB3.out.size _).grown hg7 (by have:=HB3.out.size; simp; omega) (fun j hj=>(World.ownsRow.lt HO3.out j hj).1)); have HO7:=hdd (show OwnI w.heap.size w7 (.slice a7 (m+1) c7) (lensL xs (k+1)) by rw[HN.out]; exact ho7); clear ho7 hg7);go_roundw
       case rel=>exact ⟨k+1,m+1,a7,c7,by omega,by go_num,rfl,by rw[HN.out,HM.out]; simp,HO7.out,HB7.out⟩
       case measure=>simp[intOf]; omega
      ·have hyk2:(y==(k:Int))=false:=by simpa using hyk
       have HN:=hdd (show lensL xs (k+1)=lensL xs k by rw[HNX.out,if_neg (by rw[←HLAST.out,hyk2]; simp),List.append_nil]);clear hyk;go_wp2;go_roundw
       case rel=>exact ⟨k+1,m,ao,co,by omega,by go_num,rfl,by rw[HN.out]; exact HM.out,by rw[HN.out]; exact HO3.out,HB3.out⟩
       case measure=>simp[intOf]; omega
   ·have hkl:k=xs.length:=by omega
    obtain ⟨L,hL⟩:∃ L,L=lensL xs k:=⟨_,rfl⟩
    rw[←hL] at ho hm;have HRS:=hdd (show R=sortI L by rw[HR.out,hL,hkl]);have HOL:=hdd ho;have HLM:=hdd (show L.length=m from hm.symm);have hk1:¬((k:Int)<(xs.length:Int)):=by omega
    clear hkl hL hm ho hb HM HO;go_wp2;go_loopw [8] (fun i wi=>∃ (q:Nat) (zs:List Int),1≤q∧q≤m+1∧i=.int .i64 q∧(zs.take q).Pairwise (·≤·)∧zs.Perm L∧OwnI w.heap.size wi (.slice ao m co) zs∧Below w.heap.size w wi) (fun i _=>m+1-(intOf i).toNat)
    case atStart=>exact ⟨1,L,Nat.le_refl _,by omega,rfl,by
     rcases L with _ | ⟨y,L⟩
     ·simp
     ·simp,List.Perm.refl _,HOL.out,HB.out⟩
    case round=>
     obtain ⟨q,zs,hq1,hqm,rfl,hsrt,hprm,ho,hb⟩:=hrel;obtain ⟨wq,rfl⟩:∃ x,x=wr:=⟨_,rfl⟩
     have hzl:zs.length=m:=by rw[hprm.length_eq]; exact HLM.out
     have HPR:=hdd hprm;have HSR:=hdd hsrt;clear HOL HB hprm hsrt
     by_cases hlt2:q<m
     ·have HI0:=hdd (ins_start (k:=q) (by omega) HSR.out HPR.out)
      obtain ⟨a',cap',e',_,_,hc3⟩:=ho.opened;injection e' with e1 e2 e3;subst e1 e3;obtain ⟨g,rfl,hgB,_,_⟩:=hc3 (by omega);have HO:=hdd ho;have HB:=hdd hb;have hq0:(0:Int)≤(q:Int):=by omega
      have hqm2:(q:Int)<(m:Int):=by omega
      clear ho hb hc3 e2 hzl HPR HSR;go_wp2;go_loopw [9] (fun i wi=>∃ (j:Nat) (zs:List Int),j≤q∧i=.int .i64 j∧InsAt L zs q j∧OwnI w.heap.size wi (.slice (some ⟨g,0,none⟩) m co) zs∧Below w.heap.size w wi) (fun i _=>(intOf i).toNat)
      case atStart=>exact ⟨q,zs,Nat.le_refl _,rfl,HI0.out,HO.out,HB.out⟩
      case round=>
       obtain ⟨j,zs,hj,rfl,hins,ho,hb⟩:=hrel;obtain ⟨wj,rfl⟩:∃ x,x=wr:=⟨_,rfl⟩
       have HINS:=hdd hins;have hzl:zs.length=m:=by rw[(ins_perm hins).length_eq]; exact HLM.out
       clear HI0 HO HB hins
       rcases j with _ | j
       ·have HS:=hdd (ins_zero HINS.out)
        have HPR:=hdd (ins_perm HINS.out);have HO:=hdd ho;have HB:=hdd hb;have hj0:decide ((0:Int)<((0:Nat):Int))=false:=by simp
        clear ho hb;go_wp2;go_quiet (fail);obtain ⟨wd,hwd⟩:∃ z,z=wj.drewN nq:=⟨_,rfl⟩
        have hbd:Below wj.heap.size wj wd:=by rw[hwd]; exact (show Drawn wj (wj.drewN nq) from ⟨nq,rfl⟩).below
        have HOD:=hdd (HO.out.below hbd);have HBD:=hdd (HB.out.trans (hbd.mono HB.out.size));rw[←hwd];clear hwd hbd;go_wp2;go_roundw
        case rel=>exact ⟨q+1,zs,by omega,by omega,by go_num,HS.out,HPR.out,HOD.out,HBD.out⟩
        case measure=>simp[intOf]; omega
       ·obtain ⟨hj1,hget⟩:=ins_get HINS.out
        obtain ⟨c1,f1⟩:=own_cellI ho (j+1) hj1;obtain ⟨c0,f0⟩:=own_cellI ho j (by omega);obtain ⟨x,hx⟩:∃ x,x=zs[j+1]:=⟨_,rfl⟩
        obtain ⟨y,hy⟩:∃ y,y=zs[j]'(by omega):=⟨_,rfl⟩
        obtain ⟨g1,g2⟩:=hget x y hx.symm hy.symm;rw[←hx] at c1;rw[←hy] at c0;have HG1:=hdd g1;have HG2:=hdd g2;have HPR:=hdd (ins_perm HINS.out);have HOS:=hdd (show ∀ W,Below wj.heap.size wj W→OwnI w.heap.size ((W.setCell ⟨g,j+1,none⟩ (.int .i64 y)).setCell ⟨g,j,none⟩ (.int .i64 x)) (.slice (some ⟨g,0,none⟩) m co) ((zs.set (j+1) y).set j x) from fun W hW=>((ho.below hW).set (j+1) y).set j x);have HBS:=hdd (show ∀ W,Below wj.heap.size wj W→Below w.heap.size w ((W.setCell ⟨g,j+1,none⟩ (.int .i64 y)).setCell ⟨g,j,none⟩ (.int .i64 x)) from fun W hW=>((hb.trans (hW.mono hb.size)).setCell (p:=⟨g,j+1,none⟩) hgB _).setCell (p:=⟨g,j,none⟩) hgB _);have HO:=hdd ho;have HB:=hdd hb;have hj0:decide ((0:Int)<(j:Int)+1)=true:=decide_eq_true (by omega);have hjp:(0:Int)<(j:Int)+1:=by omega
        have hj00:(0:Int)≤(j:Int):=by omega
        have hj01:(0:Int)≤(j:Int)+1:=by omega
        have hjm:(j:Int)<(m:Int):=by omega
        have hjm1:(j:Int)+1<(m:Int):=by omega
        have hji:(j:Int)+1≤100:=by omega
        clear ho hb g1 g2 hx hy hget hj1
        by_cases hxy:x<y
        ·have hd:decide (x<y)=true:=decide_eq_true hxy
         have HN:=hdd (HG1.out hxy);clear hxy;go_wp2;go_quiet (fail);obtain ⟨wd,hwd⟩:∃ z,z=wj.drewN nq:=⟨_,rfl⟩
         have hbd:Below wj.heap.size wj wd:=by rw[hwd]; exact (show Drawn wj (wj.drewN nq) from ⟨nq,rfl⟩).below
         have c1':=(Above.of_below (B:=0) hbd).cell (Nat.zero_le _) c1;have c0':=(Above.of_below (B:=0) hbd).cell (Nat.zero_le _) c0;obtain ⟨_,f1'⟩:=own_cellI (HO.out.below hbd) (j+1) (by omega);obtain ⟨_,f0'⟩:=own_cellI (HO.out.below hbd) j (by omega);have HOD:=hdd (HOS.out wd hbd);have HBD:=hdd (HBS.out wd hbd);rw[←hwd];clear hwd hbd c1 c0 f1 f0;go_wp2;go_roundw
         case rel=>exact ⟨j,_,by omega,by go_num,HN.out,HOD.out,HBD.out⟩
         case measure=>first | (simp[intOf]; done) | (simp[intOf]; omega)
        ·have hd:decide (x<y)=false:=decide_eq_false hxy
         have HN:=hdd (HG2.out hxy);clear hxy;go_wp2;go_quiet (fail);obtain ⟨wd,hwd⟩:∃ z,z=wj.drewN nq:=⟨_,rfl⟩
         have hbd:Below wj.heap.size wj wd:=by rw[hwd]; exact (show Drawn wj (wj.drewN nq) from ⟨nq,rfl⟩).below
         have HOD:=hdd (HO.out.below hbd);have HBD:=hdd (HB.out.trans (hbd.mono HB.out.size));rw[←hwd];clear hwd hbd c1 c0 f1 f0;go_wp2;go_roundw
         case rel=>exact ⟨q+1,zs,by omega,by omega,by go_num,HN.out,HPR.out,HOD.out,HBD.out⟩
         case measure=>simp[intOf]; omega
     ·have HZ:=hdd (show R=zs by
       rw[HRS.out];have hs:=HSR.out;rw[List.take_of_length_le (by omega)] at hs;exact (sortI_is HPR.out hs).symm)
      have HRL:=hdd (show R.length=m by rw[HZ.out]; exact hzl);have HO:=hdd ho;have HB:=hdd hb;have hqm2:¬((q:Int)<(m:Int)):=by omega
      clear ho hb hzl;go_wp2;go_ret;exact ⟨ao,co,by rw[HRL.out]; rfl,by rw[HRL.out,HZ.out]; exact HO.out,HB.out⟩
end
end Go.Proofs.YtenlngclocfnlaaGreatDoor
