/- Texts of this claim, put together: BunC, LieMem. -/
import Derived.Test.YtenlngclocfnlaaGreatDoorPdA
import Derived.WideKeyEntry
import Derived.DeepKeys4
import Derived.RangeFuncLeaves
import Derived.RangeFuncNested
import Derived.Maps.OwnSet
import Derived.Maps.OwnOps
import Derived.Maps.Range
import Derived.Test.YtenlngclocfnlaaGreatDoorPdO
import Derived.Test.YtenlngclocfnlaaGreatDoorPdGD
namespace Go.Proofs.YtenlngclocfnlaaGreatDoor
set_option linter.unusedVariables false
section
open Go.RowKit
set_option maxRecDepth 100000
def FreshR (xss:List (List Int)) (w:World) (e:Ending) (w':World):Prop:=∃ a cap,e=.returned (.slice a xss.length cap)∧OwnR w.heap.size w' (.slice a xss.length cap) xss∧Below w.heap.size w w'
def inL (x:List Int) (j:Nat):List (List Int):=(List.range j).map fun (n:Nat)=>x++[(n:Int)]
def midL (c:Nat) (L:List (List Int)) (n:Nat):List (List Int):=(L.take n).flatMap fun x=>inL x c
@[simp] theorem inL_length (x:List Int) (j:Nat):(inL x j).length=j:=by simp[inL]
theorem inL_step (x:List Int) (j:Nat):inL x (j+1)=inL x j++[x++[(j:Int)]]:=by simp[inL,List.range_succ]
theorem midL_step {c:Nat} {L:List (List Int)} {n:Nat} (h:n<L.length):midL c L (n+1)=midL c L n++inL L[n] c:=by
 unfold midL;rw[List.take_succ_eq_append_getElem h,List.flatMap_append];simp
theorem midL_full (c k:Nat) {n:Nat} (h:(allL c k).length≤n):midL c (allL c k) n=allL c (k+1):=by
 unfold midL;rw[List.take_of_length_le h]; rfl
theorem midL_length (c:Nat) (L:List (List Int)) {n:Nat} (h:n≤L.length):(midL c L n).length=n*c:=by
 induction n with
 | zero=>simp[midL]
 | succ n ih=>rw[midL_step (by omega),List.length_append,ih (by omega),inL_length,Nat.succ_mul]
theorem all_small {c k:Nat} (hc:c≤5) (hk:k≤3):(allL c k).length≤125:=by
 rw[allL_length];have:c^k≤5^k:=Nat.pow_le_pow_left hc _;have:5^k≤5^3:=Nat.pow_le_pow_right (by omega) hk;omega
theorem mid_small {c k n:Nat} (hc:c≤5) (hk:k≤2) (hn:n≤(allL c k).length):(midL c (allL c k) n).length≤625:=by
 rw[midL_length c _ hn];have:=all_small hc (show k≤3 by omega)
 calc n*c≤125*5:=Nat.mul_le_mul (by omega) hc
  _=625:=by omega
set_option maxHeartbeats 4000000 in
theorem allS_any (n c:Nat) (w:World) (h:codesP n c):
  Calls Tryz.prog 89 #[.int .i64 n,.int .i64 c] w (FreshR (allL c n) w):=by
 obtain ⟨⟨h1,h2⟩,h3,h4⟩:=h;have q1:=fun W=>l1In_yes n 1 3 W ⟨h1,h2⟩
 have q2:=fun W=>l1In_yes c 1 5 W ⟨h3,h4⟩
 have hn3:n≤3:=by omega
 have hc5:c≤5:=by omega
 obtain ⟨W1,hW1⟩:∃ W1,W1=(w.alloc (.cells #[] 37)).alloc (.cells #[] 3):=⟨_,rfl⟩
 have hb1:Below w.heap.size w (w.alloc (.cells #[] 37)):=(Below.refl _ _).alloc (Nat.le_refl _) _;have hsz1:(w.alloc (.cells #[] 37)).heap.size=w.heap.size+1:=by simp
 have hO1:OwnR w.heap.size (w.alloc (.cells #[] 37)) (.slice (some ⟨w.heap.size,0,none⟩) 0 0) []:=(OwnII.lit w).toR;have hR1:OwnI (w.heap.size+1) ((w.alloc (.cells #[] 37)).alloc (.cells #[] 3)) (.slice (some ⟨w.heap.size+1,0,none⟩) 0 0) []:=by have:=OwnI.lit (w.alloc (.cells #[] 37)); rw[hsz1] at this; exact this
 have hbb:Below (w.alloc (.cells #[] 37)).heap.size (w.alloc (.cells #[] 37)) ((w.alloc (.cells #[] 37)).alloc (.cells #[] 3)):=(Below.refl _ _).alloc (Nat.le_refl _) _;have HB1:=hdd hb1;have HO1:=hdd hO1;have HR1:=hdd hR1;have HBB:=hdd hbb;have HSZ:=hdd hsz1;clear h1 h2 h3 h4 hb1 hO1 hR1 hbb hsz1;go_enter Tryz.func89,Tryz.ntmps89;go_wp2_with fail;refine (q1 _).mono ?_;rintro e w2 ⟨rfl,rfl⟩;go_wp2_with fail;refine (q2 _).mono ?_;rintro e w2 ⟨rfl,rfl⟩;clear q1 q2;go_wp2_with (at_builtin; refine wpList_push_rnew (w.alloc (.cells #[] 37)) _ rfl (.tmp 20) (.tmp 22) rfl w.heap.size (.slice (some ⟨w.heap.size,0,none⟩) 0 0) [] rfl HO1.out HBB.out (w.heap.size+1+1) (by simp) (.slice (some ⟨w.heap.size+1,0,none⟩) 0 0) [] rfl (by rw[HSZ.out]; exact HR1.out) (by simp) (by simp) ?_; intro a3 c3 w3 ho3 hb3; have HO3:=hdd ho3; have HB3:=hdd hb3; clear ho3 hb3);have HL0:=hdd (show allL c 0=[[]] from rfl);clear hW1 HO1 HR1 HBB HSZ;go_loopw [5,6] (fun s i wr=>∃ (k:Nat) (a:Option Addr) (cap:Nat),k≤n∧i=.int .i64 k∧s=.slice a (allL c k).length cap∧OwnR w.heap.size wr (.slice a (allL c k).length cap) (allL c k)∧Below w.heap.size w wr) (fun _ i _=>n-(intOf i).toNat)
 case atStart=>exact ⟨0,a3,c3,Nat.zero_le _,rfl,rfl,HO3.out,HB1.out.trans HB3.out⟩
 case round=>
  obtain ⟨k,ak,ck,hk,rfl,rfl,ho,hb⟩:=hrel;obtain ⟨wo,rfl⟩:∃ x,x=wr:=⟨_,rfl⟩
  have HO:=hdd ho;have HB:=hdd hb;have hz:=hb.size;obtain ⟨L,hL⟩:∃ L,L=allL c k:=⟨_,rfl⟩
  obtain ⟨ak',ck',he,hck1,hck2⟩:=ho.shape;injection he with e1 _ e3;subst e1 e3;clear HO3 HB3 HB1 ho hb HL0
  by_cases hlt:k<n
  ·have hLs:=all_small hc5 (show k≤3 by omega)
   have HN:=hdd (show allL c (k+1)=midL c L L.length from by rw[hL]; exact (midL_full c k (Nat.le_refl _)).symm);have HMS:=hdd (fun j (hj:j≤L.length)=>show (midL c L j).length≤625 from by rw[hL] at hj ⊢; exact mid_small hc5 (by omega) hj);have HXL:=hdd (fun j (hj:j<L.length)=>show (L[j]).length≤3 from by have:=(allL_row (c:=c) (k:=k) (x:=L[j]) (by rw[←hL]; exact List.getElem_mem hj)).1; omega);rw[←hL] at HO hLs hck1 ⊢;clear hL;have hb1:Below wo.heap.size wo (wo.alloc (.cells #[] 37)):=(Below.refl _ _).alloc (Nat.le_refl _) _;have HO1:=hdd ((OwnII.lit wo).toR);have HBk:=hdd hb1;clear hb1;go_wp2;obtain ⟨wk,hwk⟩:∃ wk,wk=wo.alloc (.cells #[] 37):=⟨_,rfl⟩
   rw[←hwk] at HO1 HBk ⊢;clear hwk;go_loopw [7,8] (fun s i wi=>∃ (m:Nat) (a:Option Addr) (cap:Nat),m≤L.length∧i=.int .i64 m∧s=.slice a (midL c L m).length cap∧OwnR wo.heap.size wi (.slice a (midL c L m).length cap) (midL c L m)∧Below wo.heap.size wo wi) (fun _ i _=>L.length-(intOf i).toNat)
   case atStart=>exact ⟨0,_,_,Nat.zero_le _,rfl,rfl,HO1.out,HBk.out⟩
   case round=>
    obtain ⟨m,am,cm,hm,rfl,rfl,ho,hb⟩:=hrel;obtain ⟨wm,rfl⟩:∃ x,x=wr:=⟨_,rfl⟩
    have HOm:=hdd ho;have HBm:=hdd hb;obtain ⟨LM,hLM⟩:∃ LM,LM=midL c L m:=⟨_,rfl⟩
    have hms:=HMS.out m (by omega);rw[←hLM] at HOm hms ⊢;clear ho hb HO1 HBk
    by_cases hmL:m<L.length
    ·have HMN:=hdd (midL_step (c:=c) hmL)
     have hxl:=HXL.out m hmL;obtain ⟨g,u,e1,hgB,hcu,hou⟩:=(HO.out.below HBm.out).at m hmL;have HOU:=hdd hou;obtain ⟨x,hx⟩:∃ x,x=L[m]:=⟨_,rfl⟩
     rw[←hx,←hLM] at HMN;rw[←hx] at HOU hxl;subst e1;have HX:=hdd hx;clear hx hou hLM HMS HXL;go_wp2;go_loopw [7,9] (fun s i wi=>∃ (j:Nat) (a:Option Addr) (cap:Nat),j≤c∧i=.int .i64 j∧s=.slice a (LM++inL x j).length cap∧OwnR wo.heap.size wi (.slice a (LM++inL x j).length cap) (LM++inL x j)∧Below wo.heap.size wo wi) (fun _ i _=>c-(intOf i).toNat)
     case atStart=>exact ⟨0,am,cm,Nat.zero_le _,rfl,by simp[inL],by simpa [inL] using HOm.out,HBm.out⟩
     case round=>
      obtain ⟨j,aj,cj,hj,rfl,rfl,ho,hb⟩:=hrel;obtain ⟨wj,rfl⟩:∃ x,x=wr:=⟨_,rfl⟩
      by_cases hjc:j<c
      ·obtain ⟨g',u',e1,hgB',hcu',hou'⟩:=(HO.out.below hb).at m hmL
       injection e1 with e1;injection e1 with e1;subst e1;rw[←HX.out] at hou';have hlx:(inL x j).length=j:=inL_length x j;have hlen:(LM++inL x j).length≤1099511627776:=by rw[List.length_append,hlx]; omega
       have HSTEP:=hdd (inL_step x j);have HLEN:=hdd hlen;obtain ⟨M,hM⟩:∃ M,M=LM++inL x j:=⟨_,rfl⟩
       rw[←hM] at ho HLEN ⊢;have HM:=hdd hM;have HOj:=hdd ho;have HBj:=hdd hb;have HOU2:=hdd (show OwnI w.heap.size (wj.alloc (.cells #[] 3)) u' x from World.ownsRow.alloc hou' _);have hzj:=hb.size;have hcu2:=(Above.of_below (B:=0) ((Below.refl wj.heap.size wj).alloc (Nat.le_refl _) (.cells #[] 3))).cell (Nat.zero_le _) hcu';have hi0:(0:Int)≤(m:Int):=by omega
       have hi1:(m:Int)<(L.length:Int):=by omega
       clear hM ho hb hou' hlx hlen hcu hcu';go_wp2_with (first
        | (at_builtin; refine wpList_push_all (wj.alloc (.cells #[] 3)) rfl (.tmp 42) (.tmp 46) rfl wj.heap.size w.heap.size (.slice (some ⟨wj.heap.size,0,none⟩) 0 0) [] rfl (OwnI.lit wj) u' x rfl HOU2.out (by simp; omega) (by simp) ?_; intro a4 c4 w4 ho4 hg4; rw[List.nil_append] at ho4; rw[List.length_nil,Nat.zero_add] at ho4 ⊢; have hb4:=((Below.refl wj.heap.size wj).alloc (Nat.le_refl _) (.cells #[] 3)).grown hg4 (by simp) (fun k hk=>by cases hk; exact Nat.le_refl _); have HO4:=hdd ho4; have HB4:=hdd hb4; have hz4:=hb4.size; clear ho4 hg4 hb4)
        | (at_builtin; refine wpList_push_int (w4.alloc (.cells #[.int .i64 (j:Int)] 3)) rfl (.tmp 47) (.tmp 49) rfl wj.heap.size (.slice a4 x.length c4) x rfl (World.ownsRow.alloc HO4.out _) ⟨w4.heap.size,0,none⟩ 1 j rfl (cell_of_one (heap_alloc_new w4 _)) (by omega) (by simp; omega) ?_; intro a5 c5 w5 ho5 hg5; have hb5:=(HB4.out.alloc hz4 (.cells #[.int .i64 (j:Int)] 3)).grown hg5 (by simp; omega) (fun k hk=>(World.ownsRow.lt HO4.out k hk).1); have HO5:=hdd ho5; have HB5:=hdd hb5; have hz5:=hb5.size; clear ho5 hg5 hb5)
        | (at_builtin; refine wpList_push_rnew wj w5 rfl (.tmp 41) (.tmp 51) rfl wo.heap.size (.slice aj M.length cj) M rfl HOj.out HB5.out w5.heap.size rfl (.slice a5 (x.length+1) c5) (x++[(j:Int)]) rfl (by simpa using HO5.out) HLEN.out hzj ?_; intro a6 c6 w6 ho6 hb6; have HO6:=hdd ho6; have HB6:=hdd hb6; clear ho6 hb6))
       have hfin:M++[x++[(j:Int)]]=LM++inL x (j+1):=by rw[HM.out,HSTEP.out,List.append_assoc]
       have HF:=hdd hfin;clear hfin;go_roundw
       case rel=>exact ⟨j+1,a6,c6,by omega,by go_num,by rw[←HF.out]; simp,by rw[←HF.out]; simpa using HO6.out,HBj.out.trans HB6.out⟩
       case measure=>simp[intOf]; omega
      ·have e:j=c:=by omega
       subst e;have HOj:=hdd ho;have HBj:=hdd hb;clear ho hb;go_wp2;go_roundw
       case rel=>exact ⟨m+1,aj,cj,by omega,by go_num,by rw[HMN.out],by rw[HMN.out]; exact HOj.out,HBj.out⟩
       case measure=>simp[intOf]; omega
    ·have e:m=L.length:=by omega
     subst e;rw[←HN.out] at hLM;have HLM:=hdd hLM;clear hLM HMS HXL;go_wp2;go_roundw
     case rel=>exact ⟨k+1,am,cm,by omega,by go_num,by rw[HLM.out],by rw[←HLM.out]; exact HOm.out.mono hz,HB.out.trans (HBm.out.mono hz)⟩
     case measure=>simp[intOf]; omega
  ·have e:k=n:=by omega
   subst e;have HLL:=hdd hL;clear hL;go_wp2;go_ret;refine ⟨ak,ck,?_,?_,HB.out⟩
   ·rfl
   ·exact HO.out
theorem filter_hit {α:Type} {L:List α} {q:α→Bool} {k:Nat} (h:k<L.length) (e:q L[k]=true):(L.take (k+1)).filter q=(L.take k).filter q++[L[k]]:=by
 rw[List.take_succ_eq_append_getElem h,List.filter_append]; simp[e]
theorem filter_miss {α:Type} {L:List α} {q:α→Bool} {k:Nat} (h:k<L.length) (e:q L[k]=false):(L.take (k+1)).filter q=(L.take k).filter q:=by
 rw[List.take_succ_eq_append_getElem h,List.filter_append]; simp[e]
theorem code_in64 {p c:Int} {x:List Int} (h:CodeP p c x):∀ y∈x,In64 y:=fun y hy=>by
 obtain ⟨⟨_,h1,h2⟩,_,h4⟩:=h;have:=h4 y hy;unfold In64; omega
theorem own_nat {p c:Int} (h:codesP p c):∃ n m:Nat,p=n∧c=m∧n≤3∧m≤5:=by
 obtain ⟨⟨h1,h2⟩,h3,h4⟩:=h;exact ⟨p.toNat,c.toNat,by omega,by omega,by omega,by omega⟩
def Far (z A:Nat) (v:Value):Prop:=∀ k,v.ownBlock=some k→k=z∨A≤k
set_option maxHeartbeats 4000000 in
theorem fitS_any {B:Nat} (p c:Int) (v:Value) (gs:List Gs) (w:World) (h:GL B w v gs):
  Calls Tryz.prog 51 #[.int .i64 p,.int .i64 c,v] w (FreshR (fitL p c gs) w):=by
 have hb1:Below w.heap.size w (w.alloc (.cells #[] 37)):=(Below.refl _ _).alloc (Nat.le_refl _) _;have hO1:OwnR w.heap.size (w.alloc (.cells #[] 37)) (.slice (some ⟨w.heap.size,0,none⟩) 0 0) []:=(OwnII.lit w).toR;have hG:=guessesS_any p c v gs _ (h.below hb1);have hsh:∃ a cap,v=.slice a gs.length cap:=by obtain ⟨a,cap,_,hv,_⟩:=h; exact ⟨a,cap,hv⟩
 obtain ⟨a,cap,rfl⟩:=hsh
 cases hg:guessesB p c gs
 ·rw[hg] at hG
  have HR:=hdd (show fitL p c gs=[] from by unfold fitL; rw[hg]; rfl);have HO:=hdd hO1;have HB:=hdd hb1;clear h hg hb1 hO1;go_enter Tryz.func51,Tryz.ntmps51;go_wp2_with fail;refine hG.mono ?_;rintro e w2 ⟨rfl,rfl⟩;clear hG;go_wp2;go_ret;exact ⟨some ⟨w.heap.size,0,none⟩,0,by rw[HR.out]; rfl,by rw[HR.out]; exact HO.out,HB.out⟩
 ·rw[hg] at hG
  obtain ⟨n,m,rfl,rfl,hn3,hm5⟩:=own_nat (guesses_codes hg);have hA:=allS_any n m (w.alloc (.cells #[] 37)) (guesses_codes hg);have HR:=hdd (show fitL n m gs=(allL m n).filter (fun x=>fitsB x gs) from by unfold fitL; rw[hg]; rfl);have HC:=hdd (fun x (hx:x∈allL m n)=>(allP_mem (guesses_codes hg) (x:=x)).1 (by simpa [allP] using hx));have HLs:=hdd (all_small hm5 hn3);have HO:=hdd hO1;have HB:=hdd hb1;have HG:=hdd hg;have HH:=hdd h;clear h hg hb1 hO1;go_enter Tryz.func51,Tryz.ntmps51;go_wp2_with fail;refine hG.mono ?_;rintro e w2 ⟨rfl,rfl⟩;clear hG;go_wp2_with fail;refine hA.mono ?_;rintro e w2 ⟨a2,c2,rfl,ho2,hb2⟩;clear hA;have hz1:(w.alloc (.cells #[] 37)).heap.size=w.heap.size+1:=by simp
  rw[hz1] at ho2 hb2;have hz2:=hb2.size;rw[hz1] at hz2;have HO1:=hdd (HO.out.below (by rw[hz1]; exact hb2));have HB1:=hdd (HB.out.trans (hb2.mono (by omega)));obtain ⟨L,hL⟩:∃ L,L=allL m n:=⟨_,rfl⟩
  rw[←hL] at HC HLs HR ho2 ⊢;obtain ⟨a2',c2',he,hc21,hc22⟩:=ho2.shape;injection he with e1 _ e3;subst e1 e3;have HO2:=hdd ho2;clear hL HO HB ho2 hb2 hz1;go_wp2;go_loopw [7,9] (fun s i wr=>∃ (k:Nat) (a:Option Addr) (cap:Nat),k≤L.length∧i=.int .i64 k∧s=.slice a ((L.take k).filter fun x=>fitsB x gs).length cap∧OwnR w.heap.size wr (.slice a ((L.take k).filter fun x=>fitsB x gs).length cap) ((L.take k).filter fun x=>fitsB x gs) ∧
   Far w.heap.size w2.heap.size (.slice a ((L.take k).filter fun x=>fitsB x gs).length cap)∧Above (w.heap.size+1) w2 wr∧Below w.heap.size w wr∧w2.heap.size≤wr.heap.size) (fun _ i _=>L.length-(intOf i).toNat)
  case atStart=>exact ⟨0,_,_,Nat.zero_le _,rfl,rfl,HO1.out,fun k hk=>by cases hk; exact .inl rfl,Above.refl _ _,HB1.out,Nat.le_refl _⟩
  case round=>
   obtain ⟨k,ak,ck,hk,rfl,rfl,ho,hfar,hab,hb,hsz⟩:=hrel;obtain ⟨wk,rfl⟩:∃ x,x=wr:=⟨_,rfl⟩
   have hB2:=hb.size
   by_cases hlt:k<L.length
   ·have hHIT:=filter_hit (q:=fun x=>fitsB x gs) hlt
    have hMIS:=filter_miss (q:=fun x=>fitsB x gs) hlt;obtain ⟨g,u,e1,hgB,hcu,hou⟩:=(HO2.out.keep hab).at k hlt;have hcx:=HC.out _ (List.getElem_mem hlt);have hF:=fitsS_any n m (.slice a gs.length cap) u gs L[k] wk (HH.out.below hb) (hou.toInts (code_in64 hcx)) HG.out hcx;have hlen:((L.take k).filter fun x=>fitsB x gs).length≤125:=Nat.le_trans (List.length_filter_le _ _) (by have:=HLs.out; simp; omega);obtain ⟨x,hx⟩:∃ x,x=L[k]:=⟨_,rfl⟩
    rw[←hx] at hHIT hMIS hou hF;subst e1;obtain ⟨au,cu,rfl,_⟩:=own_shape hou;obtain ⟨M,hM⟩:∃ M,M=(L.take k).filter (fun x=>fitsB x gs):=⟨_,rfl⟩
    rw[←hM] at hHIT hMIS ho hfar hlen ⊢;have HOk:=hdd ho;have HFk:=hdd hfar;have HAk:=hdd hab;have HBk:=hdd hb;have HOU:=hdd (hou.mono (show w.heap.size≤w.heap.size+1 by omega));have hi0:(0:Int)≤(k:Int):=by omega
    have hi1:(k:Int)<(L.length:Int):=by omega
    have hgw:=World.block_lt_of_cell? wk _ hcu;simp only at hgw;clear hx hM ho hfar hab hb hou hcx
    cases hq:fitsB x gs
    ·rw[hq] at hF
     have HN:=hdd (hMIS hq);clear hHIT hMIS hq;go_wp2_with fail;refine hF.mono ?_;rintro e w3 ⟨rfl,nq,rfl⟩;clear hF;go_wp2;go_roundw
     case rel=>exact ⟨k+1,ak,ck,by omega,by go_num,by rw[HN.out],by rw[HN.out]; exact HOk.out,by rw[HN.out]; exact HFk.out,fun b h1 h2=>HAk.out b h1 h2,below_drewN HBk.out _,by simpa using hsz⟩
     case measure=>simp[intOf]; omega
    ·rw[hq] at hF
     have HN:=hdd (hHIT hq);clear hHIT hMIS hq;go_wp2_with fail;refine hF.mono ?_;rintro e w3 ⟨rfl,hq3⟩;have hD:Drawn wk w3:=hq3;clear hq3 hF;have hcu3:=hD.cell hcu;have hb3:=hD.below;have hz3:w3.heap.size=wk.heap.size:=by obtain ⟨q,rfl⟩:=hD; rfl
     have HO3:=hdd (HOk.out.below hb3);have HOU3:=hdd (owns_below HOU.out hb3);have HB3:=hdd hb3;have HZ3:=hdd hz3;clear hD hcu hb3 hz3;go_wp2_with (at_builtin; refine wpList_push_r (w3.alloc (.cells #[.slice au x.length cu] 37)) rfl (.tmp 34) (.tmp 39) rfl w.heap.size (.slice ak M.length ck) M rfl (OwnR.alloc HO3.out _) ⟨w3.heap.size,0,none⟩ 1 (.slice au x.length cu) x rfl (cell_of_one (heap_alloc_new w3 _)) (World.ownsRow.alloc HOU3.out _) (by omega) (by have:=HZ3.out; simp; omega) ?_; intro a6 c6 w6 ho6 hg6 hv6; have HO6:=hdd ho6; have HG6:=hdd hg6; have HV6:=hdd hv6; clear ho6 hg6 hv6);have hz3:=HZ3.out;have hbA:Below wk.heap.size wk (w3.alloc (.cells #[.slice au x.length cu] 37)):=HB3.out.alloc (by omega) _;have hz6:=HG6.out.size;have hza:(w3.alloc (.cells #[.slice au x.length cu] 37)).heap.size=w3.heap.size+1:=by simp
     have hlo:∀ k,(Value.slice ak M.length ck).ownBlock=some k→w.heap.size≤k:=fun k hk=>(HOk.out.lt k hk).1
     have HFN:=hdd (show M++[x]=(L.take (k+1)).filter (fun x=>fitsB x gs) from HN.out.symm);have HLT:=hdd (And.intro hz3 (And.intro hz6 hza));clear hz3 hz6 hza;go_roundw
     case rel=>
      obtain ⟨hz3,hz6,hza⟩:=HLT.out;refine ⟨k+1,a6,c6,by omega,by go_num,by rw[←HFN.out]; simp,by rw[←HFN.out]; simpa using HO6.out,by
       rw[←HFN.out];intro j hj
       rcases HV6.out with e | e
       ·exact HFk.out j (by rw[←e]; simpa using hj)
       ·right
        rw[List.length_append,List.length_singleton,e] at hj;injection hj with hj;omega,fun b h1 h2=>?_,(HBk.out.trans (hbA.mono hB2)).grown HG6.out (by omega) hlo,by omega⟩
      rw[HG6.out.block b (by omega) (fun e=>by have:=HFk.out b e.symm; omega),hbA.block b (by omega)];exact HAk.out b h1 h2
     case measure=>simp[intOf]; omega
   ·have hLk:L.take k=L:=List.take_of_length_le (by omega)
    rw[hLk,←HR.out] at ho ⊢;have HOk:=hdd ho;have HBk:=hdd hb;clear hLk ho hb hab hfar;go_wp2;go_ret;exact ⟨ak,ck,rfl,HOk.out,HBk.out⟩
end
section
def atN (n:Nat) (a:Int×Int):Nat:=a.1.toNat*(n+1)+a.2.toNat
def GoodA (n:Nat) (a:Int×Int):Prop:=0≤a.1∧a.1≤n∧0≤a.2∧a.2≤n
theorem atN_lt {n:Nat} {a:Int×Int} (h:GoodA n a) (hn:n≤3):atN n a<(n+1)*(n+1):=by
 obtain ⟨h1,h2,h3,h4⟩:=h;unfold atN;have:n=0∨n=1∨n=2∨n=3:=by omega
 rcases this with rfl | rfl | rfl | rfl <;> omega
theorem atN_inj {n:Nat} {a b:Int×Int} (h:GoodA n a) (k:GoodA n b) (hn:n≤3) (e:atN n a=atN n b):a=b:=by
 obtain ⟨h1,h2,h3,h4⟩:=h;obtain ⟨k1,k2,k3,k4⟩:=k;unfold atN at e;have:n=0∨n=1∨n=2∨n=3:=by omega
 have q:a.1=b.1∧a.2=b.2:=by
  rcases this with rfl | rfl | rfl | rfl <;> omega
 exact Prod.ext q.1 q.2
def lotsK (n:Nat) (ws:List (Int×Int)) (k:Nat):List Int:=(List.range ((n+1)*(n+1))).map fun i=>(((ws.take k).countP fun a=>atN n a==i:Nat):Int)
@[simp] theorem lotsK_length (n:Nat) (ws:List (Int×Int)) (k:Nat):(lotsK n ws k).length=(n+1)*(n+1):=by simp[lotsK]
theorem lotsK_zero (n:Nat) (ws:List (Int×Int)):lotsK n ws 0=List.replicate ((n+1)*(n+1)) 0:=by
 refine List.ext_getElem (by simp) fun i h1 h2=>?_
 simp[lotsK]
theorem lotsK_get {n:Nat} {ws:List (Int×Int)} {k:Nat} (hg:∀ a∈ws,GoodA n a) (hn:n≤3) {a:Int×Int} (ha:GoodA n a) (h:atN n a<(lotsK n ws k).length):(lotsK n ws k)[atN n a]=(((ws.take k).count a:Nat):Int):=by
 simp only[lotsK,List.getElem_map,List.getElem_range];rw[List.count]
 congr 1
 refine List.countP_congr fun b hb=>?_
 have hb':=hg b (List.mem_of_mem_take hb)
 constructor
 ·intro q
  have:=atN_inj hb' ha hn (by simpa using q);simp[this]
 ·intro q
  have:b=a:=by simpa using q
  simp[this]
theorem lotsK_set {n:Nat} {ws:List (Int×Int)} {k:Nat} (hk:k<ws.length) (hg:∀ a∈ws,GoodA n a) (hn:n≤3):
  (lotsK n ws k).set (atN n ws[k]) ((((ws.take k).count ws[k]:Nat):Int)+1)=lotsK n ws (k+1):=by
 have hgk:=hg _ (List.getElem_mem hk);have hlt:=atN_lt hgk hn;refine List.ext_getElem (by simp) fun i h1 h2=>?_
 rw[List.getElem_set]
 split
 ·rename_i e
  subst e;rw[lotsK_get hg hn hgk,List.take_succ_eq_append_getElem hk,List.count_append];simp
 ·rename_i e
  simp only[lotsK,List.getElem_map,List.getElem_range];rw[List.take_succ_eq_append_getElem hk,List.countP_append];simp[e]
theorem count_next {ws:List (Int×Int)} {k:Nat} (hk:k<ws.length):(ws.take (k+1)).count ws[k]=(ws.take k).count ws[k]+1:=by
 rw[List.take_succ_eq_append_getElem hk,List.count_append]; simp
theorem worst_next {ws:List (Int×Int)} {k:Nat} (hk:k<ws.length):worstK ws (k+1)=max (worstK ws k) ((ws.take k).count ws[k]+1):=by
 rw[worstK,show ws.getD k (0,0)=ws[k] from by simp[List.getD,List.getElem?_eq_getElem hk],count_next hk]
theorem good_ans {n c:Nat} {x y:List Int} (hx:CodeP n c x) (hy:CodeP n c y):GoodA n (ansZ x y):=ans_bounds hx hy
end
section
open Go.RowKit
open Go.WideMaps (KeyLaw)
set_option maxRecDepth 100000
theorem ansLaid:laidOutB Tryz.prog=true:=by kernel_rfl
theorem ansRow:(174:TypeId)<Tryz.prog.types.size:=of_decide_eq_true (by kernel_rfl)
theorem ansWide:(match Tryz.prog.underlying 174 with | some (.array _ _) | some (.struct _)=>true | _=>false)=true:=by rw[Tryz.underlying174]
theorem ansLaw:KeyLaw Tryz.prog 174:=deep_law_laid ansLaid (m:=2) (by omega) ansRow (by kernel_rfl) ansWide
def ansV (a:Int×Int):Value:=.agg #[.int .i64 a.1,.int .i64 a.2]
theorem ansV_inj {a b:Int×Int} (h:ansV a=ansV b):a=b:=by
 unfold ansV at h;injection h with h;have h1:=congrArg (fun x=>x[0]?) h;have h2:=congrArg (fun x=>x[1]?) h;simp at h1 h2;exact Prod.ext h1 h2
theorem ansKey (a:Int×Int) (h1:(Lit.int .i64 a.1).wf=true) (h2:(Lit.int .i64 a.2).wf=true):∃ kl,keyOf Tryz.prog 174 (ansV a)=some kl:=by
 have k1:Tryz.prog.keyType 174=true:=by kernel_rfl
 have k2:(ansV a).formed Tryz.prog 174=true:=by
  have c:Tryz.prog.cellsOf 174=2:=by kernel_rfl
  simp[ansV,Value.formed,Tryz.underlying174,c]
 have k3:∀ d,Tryz.prog.keyLits (d+1) 3 [.int .i64 a.1]=some [.int .i64 a.1]:=fun d=>by simp[Program.keyLits,Tryz.underlying3,h1]
 have k4:∀ d,Tryz.prog.keyLits (d+1) 3 [.int .i64 a.2]=some [.int .i64 a.2]:=fun d=>by simp[Program.keyLits,Tryz.underlying3,h2]
 have k5:∀ d,∃ ls,Tryz.prog.keyLits (d+1+1) 174 [.int .i64 a.1,.int .i64 a.2]=some ls:=fun d=>by
  have c:Tryz.prog.cellsOf 174=2:=by kernel_rfl
  have c3:Tryz.prog.cellsOf 3=1:=by kernel_rfl
  unfold Program.keyLits;simp[Tryz.underlying174,c,c3,k3 d,k4 d]
 obtain ⟨n,hn⟩:∃ n,Tryz.prog.types.size=n+1:=⟨Tryz.prog.types.size-1,(Nat.succ_pred_eq_of_pos (Nat.lt_of_le_of_lt (Nat.zero_le _) ansRow)).symm⟩
 obtain ⟨ls,hls⟩:=k5 n;unfold keyOf;rw[Tryz.underlying174,hn];simp only[k1,k2,Bool.and_self,if_true];have e:(ansV a).cells.toList=[.int .i64 a.1,.int .i64 a.2]:=rfl;rw[e,hls];exact ⟨_,rfl⟩
def GoodK (a:Int×Int):Prop:=(Lit.int .i64 a.1).wf=true∧(Lit.int .i64 a.2).wf=true
def MapSt (b:Nat) (f:Int×Int→Nat) (w:World):Prop:=
 ∃ (es:Array MapEntry) (clock:Nat),w.heap[b]?=some (.map es clock)∧(∀ e∈es.toList,∃ a,e.key=ansV a∧GoodK a∧e.val=.int .i64 (f a:Nat)) ∧
  (∀ e∈es.toList,e.born<clock)∧(es.toList.map (·.born)).Nodup∧(∀ a,f a≠0→∃ e∈es.toList,e.key=ansV a)∧(es.toList.map (·.key)).Nodup
def EntAt (b:Nat) (a:Int×Int) (st:Nat) (w:World):Prop:=∃ (es:Array MapEntry) (clock:Nat),w.heap[b]?=some (.map es clock)∧∃ e∈es.toList,e.key=ansV a∧e.born=st
theorem MapSt.keep {b:Nat} {f:Int×Int→Nat} {w w':World} (h:MapSt b f w) (hb:w'.heap[b]?=w.heap[b]?):MapSt b f w':=by
 obtain ⟨es,clock,h1,h2⟩:=h;exact ⟨es,clock,hb.trans h1,h2⟩
theorem mapSt_new (w:World):MapSt w.heap.size (fun _=>0) (w.alloc (.map #[] 0)):=⟨#[],0,World.alloc_heap_new w _,by simp,by simp,by simp,by simp,by simp⟩
theorem keys_ok {b:Nat} {f:Int×Int→Nat} {es:Array MapEntry} (h:∀ e∈es.toList,∃ a,e.key=ansV a∧GoodK a∧e.val=.int .i64 (f a:Nat)):∀ e∈es.toList,∃ l,keyOf Tryz.prog 174 e.key=some l:=fun e he=>by
 obtain ⟨a,ha,⟨h1,h2⟩,_⟩:=h e he;rw[ha];exact ansKey a h1 h2
theorem mapLook_run {b:Nat} {f:Int×Int→Nat} {w:World} (h:MapSt b f w) {a:Int×Int} (ha:GoodK a):
  (Instr.lookup 180 (.map (some b)) (ansV a) false).run Tryz.prog w=.ok (.int .i64 (f a:Nat)) w:=by
 obtain ⟨es,clock,hb,h1,h2,h3,h4,h5⟩:=h;obtain ⟨kl,hkl⟩:=ansKey a ha.1 ha.2;have ht:=Tryz.underlying180;have hz:=Tryz.zeroValue3
 rcases ansLaw.find w hkl es.toList (keys_ok (b:=b) h1) with ⟨e1,e2⟩ | ⟨j,e,e1,e2,e3⟩
 ·have hf:f a=0:=by
   apply Classical.byContradiction;intro hne;obtain ⟨e,he,hk⟩:=h4 a hne;exact e2 e he hk
  rw[hf];simp[Instr.lookup,run_underlying ht,MapKept.run_getObj_map hb,ansLaw.check w _ hkl,e1,hz,Result.andThen]
 ·have he:=List.mem_of_getElem? e2
  obtain ⟨a',ha',_,hv⟩:=h1 e he;have:a'=a:=ansV_inj (ha'.symm.trans e3);subst this;simp[Instr.lookup,run_underlying ht,MapKept.run_getObj_map hb,ansLaw.check w _ hkl,e1,hv,Result.andThen]
theorem mapEntry_run {b:Nat} {f:Int×Int→Nat} {w:World} (h:MapSt b f w) {a:Int×Int} (ha:GoodK a):
  ∃ st w1,(Instr.mapEntry 180 (.map (some b)) (ansV a)).run Tryz.prog w=.ok (.tuple #[.int .i64 (f a:Nat),.int .i64 (st:Nat)]) w1∧w.grownBy w1 (some b)∧MapSt b f w1∧EntAt b a st w1:=by
 obtain ⟨es,clock,hb,h1,h2,h3,h4,h5⟩:=h;obtain ⟨kl,hkl⟩:=ansKey a ha.1 ha.2;have ht:=Tryz.underlying180;have hz:=Tryz.zeroValue3;have hlt:=(Array.getElem?_eq_some_iff.1 hb).1
 rcases ansLaw.find w hkl es.toList (keys_ok (b:=b) h1) with ⟨e1,e2⟩ | ⟨j,e,e1,e2,e3⟩
 ·have hf:f a=0:=by
   apply Classical.byContradiction;intro hne;obtain ⟨e,he,hk⟩:=h4 a hne;exact e2 e he hk
  refine ⟨clock,w.putObj b (.map (es.push ⟨ansV a,.int .i64 0,clock⟩) (clock+1)),?_,grownBy_putObj' w b _,⟨es.push ⟨ansV a,.int .i64 0,clock⟩,clock+1,World.putObj_heap_same hlt,?_,?_,?_,?_,?_⟩,⟨es.push ⟨ansV a,.int .i64 0,clock⟩,clock+1,World.putObj_heap_same hlt,⟨ansV a,.int .i64 0,clock⟩,by simp,rfl,rfl⟩⟩
  ·rw[hf]
   simp[Instr.mapEntry,run_underlying ht,MapKept.run_getObj_map hb,ansLaw.check w false hkl,e1,hz,MapKept.run_setObj_map _ hb,Result.andThen,goInt,World.putObj]
  ·intro e he
   rw[Array.toList_push,List.mem_append,List.mem_singleton] at he
   rcases he with he | rfl
   ·exact h1 e he
   ·exact ⟨a,rfl,ha,by rw[hf]; rfl⟩
  ·intro e he
   rw[Array.toList_push,List.mem_append,List.mem_singleton] at he
   rcases he with he | rfl
   ·have:=h2 e he; omega
   ·simp
  ·rw[Array.toList_push,List.map_append]
   refine List.nodup_append.2 ⟨h3,by simp,fun x hx y hy=>?_⟩;simp only[List.map_cons,List.map_nil,List.mem_singleton] at hy;obtain ⟨e,he,rfl⟩:=List.mem_map.1 hx;have:=h2 e he;omega
  ·intro a' hne
   obtain ⟨e,he,hk⟩:=h4 a' hne;exact ⟨e,by rw[Array.toList_push,List.mem_append]; exact .inl he,hk⟩
  ·rw[Array.toList_push,List.map_append]
   refine List.nodup_append.2 ⟨h5,by simp,fun x hx y hy=>?_⟩;simp only[List.map_cons,List.map_nil,List.mem_singleton] at hy;obtain ⟨e,he,rfl⟩:=List.mem_map.1 hx;subst hy;exact e2 e he
 ·have he:=List.mem_of_getElem? e2
  obtain ⟨a',ha',_,hv⟩:=h1 e he;have:a'=a:=ansV_inj (ha'.symm.trans e3);subst this;have hj:es[j]?=some e:=by simpa using e2
  have hsame:es.modify j (fun e=>{ e with key:=ansV a' })=es:=by
   apply Array.ext';rw[Array.toList_modify,ChangeMaps.modify_eq_set _ _ _ _ e2];have:({ e with key:=ansV a' }:MapEntry)=e:=by rw[←e3]
   rw[this];exact WideElems.set_self _ _ _ e2
  refine ⟨e.born,w.putObj b (.map es clock),?_,grownBy_putObj' w b _,⟨es,clock,World.putObj_heap_same hlt,h1,h2,h3,h4,h5⟩,⟨es,clock,World.putObj_heap_same hlt,e,he,e3,rfl⟩⟩;simp[Instr.mapEntry,run_underlying ht,MapKept.run_getObj_map hb,ansLaw.check w false hkl,e1,hj,e3,ansLaw.stays w hkl,hsame,hv,MapKept.run_setObj_map _ hb,Result.andThen,goInt,World.putObj]
theorem mapStore_run {b st:Nat} {f:Int×Int→Nat} {w:World} (h:MapSt b f w) {a:Int×Int} (he:EntAt b a st w) (ty:TypeId) (v:Nat):
  ∃ w2,(Instr.entryStore ty (.map (some b)) (.int .i64 (st:Nat)) (.int .i64 (v:Nat))).run Tryz.prog w=.ok () w2∧w.grownBy w2 (some b)∧MapSt b (fun x=>if x=a then v else f x) w2:=by
 obtain ⟨es,clock,hb,h1,h2,h3,h4,h5⟩:=h;obtain ⟨es',clock',hb',e0,he0,hk0,rfl⟩:=he;rw[hb] at hb';injection hb' with hb';injection hb' with q1 q2;subst q1;subst q2;have hlt:=(Array.getElem?_eq_some_iff.1 hb).1;obtain ⟨j,hj,hj0⟩:=List.getElem_of_mem he0;have hj1:es.toList[j]?=some e0:=by rw[List.getElem?_eq_getElem hj,hj0]
 have hidx:es.findIdx? (fun e=>((e.born:Nat):Int)==((e0.born:Nat):Int))=some j:=by
  rw[WideElems.findIdx_arr];exact WideElems.findIdx_born h3 hj1
 have hmod:(es.modify j (fun e=>{ e with val:=.int .i64 (v:Nat) })).toList=es.toList.set j { e0 with val:=.int .i64 (v:Nat) }:=by
  rw[Array.toList_modify,ChangeMaps.modify_eq_set _ _ _ _ hj1]
 refine ⟨w.putObj b (.map (es.modify j (fun e=>{ e with val:=.int .i64 (v:Nat) })) clock),?_,grownBy_putObj' w b _,⟨_,clock,World.putObj_heap_same hlt,?_,?_,?_,?_,?_⟩⟩
 ·simp[Instr.entryStore,MapKept.run_getObj_map hb,asInt,asIntOf,hidx,MapKept.run_setObj_map _ hb,Result.andThen,World.putObj]
 ·intro e hm
  rw[hmod] at hm;obtain ⟨i,hi,rfl⟩:=List.getElem_of_mem hm;rw[List.getElem_set]
  split
  ·rename_i e; subst e
   obtain ⟨a',ha',hg,_⟩:=h1 e0 he0;have:a'=a:=ansV_inj (ha'.symm.trans hk0);subst this;exact ⟨a',ha',hg,by simp⟩
  ·rename_i hne
   have hi':i<es.toList.length:=by simpa using hi
   obtain ⟨a',ha',hg,hv⟩:=h1 _ (List.getElem_mem hi');refine ⟨a',ha',hg,?_⟩;have hna:¬a'=a:=by
    rintro rfl;have:(es.toList.map (·.key))[i]'(by simpa using hi')=(es.toList.map (·.key))[j]'(by simpa using hj):=by
     simp only[List.getElem_map];rw[ha',hj0,hk0]
    have hp:=List.pairwise_iff_getElem.1 h5
    rcases Nat.lt_trichotomy i j with hl | hl | hl
    ·exact hp i j _ _ hl this
    ·exact hne hl.symm
    ·exact hp j i _ _ hl this.symm
   simp only[if_neg hna];exact hv
 ·intro e hm
  rw[hmod] at hm
  rcases List.mem_or_eq_of_mem_set hm with hm | rfl
  ·exact h2 e hm
  ·exact h2 e0 he0
 ·rw[hmod,List.map_set]
  have:(es.toList.map (·.born)).set j e0.born=es.toList.map (·.born):=by
   apply WideElems.set_self;rw[List.getElem?_map,hj1]; rfl
  rw[this]; exact h3
 ·intro a' hne
  have hkey:∀ e∈es.toList,∃ e'∈(es.modify j (fun e=>{ e with val:=.int .i64 (v:Nat) })).toList,e'.key=e.key:=fun e hm=>by
   obtain ⟨i,hi,rfl⟩:=List.getElem_of_mem hm
   by_cases hij:i=j
   ·subst hij
    refine ⟨{ e0 with val:=.int .i64 (v:Nat) },?_,by rw[hj0]⟩;rw[hmod];exact List.mem_iff_getElem.2 ⟨i,by simpa using hj,by rw[List.getElem_set_self]⟩
   ·refine ⟨es.toList[i],?_,rfl⟩
    rw[hmod];refine List.mem_iff_getElem.2 ⟨i,by simpa using hi,?_⟩;rw[List.getElem_set_ne (fun e=>hij e.symm)]
  by_cases e:a'=a
  ·subst e
   obtain ⟨e',hm,hk⟩:=hkey e0 he0;exact ⟨e',hm,hk.trans hk0⟩
  ·simp only[if_neg e] at hne
   obtain ⟨e1,he1,hk1⟩:=h4 a' hne;obtain ⟨e',hm,hk⟩:=hkey e1 he1;exact ⟨e',hm,hk.trans hk1⟩
 ·rw[hmod,List.map_set]
  have:(es.toList.map (·.key)).set j e0.key=es.toList.map (·.key):=by
   apply WideElems.set_self;rw[List.getElem?_map,hj1]; rfl
  rw[this]; exact h5
end
section
open Go.RowKit
set_option maxRecDepth 100000
def GrownInt (x:Int) (w:World) (e:Ending) (w':World):Prop:=e=.returned (.int .i64 x)∧Below w.heap.size w w'
set_option maxHeartbeats 4000000 in
theorem worstS_any {B C:Nat} (n c:Nat) (v u:Value) (left:List (List Int)) (y:List Int) (w:World) (h:Rows2 B w v left) (hu:Ints C w u y) (hl:∀ x∈left,CodeP n c x) (hy:CodeP n c y) (hlen:left.length≤1000000):
  Calls Tryz.prog 102 #[.int .i64 n,.int .i64 c,v,u] w (GrownInt (worstN left y) w):=by
 have hn3:n≤3:=by have:=hy.1; unfold codesP at this; omega
 obtain ⟨ws,hws⟩:∃ ws,ws=left.map (fun x=>ansZ x y):=⟨_,rfl⟩
 have HLW:=hdd (show ws.length=left.length from by rw[hws]; simp);have HG:=hdd (show ∀ a∈ws,GoodA n a from by
  intro a ha;rw[hws] at ha;obtain ⟨x,hx,rfl⟩:=List.mem_map.1 ha;exact good_ans (hl x hx) hy)
 have HW:=hdd (show worstN left y=worstK ws left.length from by rw[hws]; rfl);have HWS:=hdd (fun (k:Nat) (hk:k<left.length) (hk':k<ws.length)=>show ws[k]=ansZ left[k] y from by subst hws; simp);have HL:=hdd hl;have HY:=hdd hy;have HH:=hdd h;have HU:=hdd hu;obtain ⟨a,cap,rfl,hcap,hmax,V,hcells,hV⟩:=h.opened;obtain ⟨au,cu,rfl,_⟩:=hu.opened;obtain ⟨N,hN⟩:∃ N,N=(n+1)*(n+1):=⟨_,rfl⟩
 have hNm:((n:Int)+1)*((n:Int)+1)=(N:Int):=by rw[hN]; push_cast; rfl
 have hN16 : N ≤ 16 := by have : n = 0 ∨ n = 1 ∨ n = 2 ∨ n = 3 := by omega
                          rcases this with rfl | rfl | rfl | rfl <;> omega
 have HN:=hdd hN;clear hws hN hl hy h hu;go_enter Tryz.func102,Tryz.ntmps102;go_wp2_with (at_make; refine wpList_make_ints _ rfl _ _ rfl _ _ N rfl rfl rfl rfl (by omega) ?_; intro w1 hown hb1 hs1; have HOWN:=hdd hown; have HB1:=hdd hb1; clear hown hb1);go_loopw [10,11] (fun s i wr=>∃ k:Nat,k≤left.length∧i=.int .i64 k∧s=.int .i64 (worstK ws k:Nat)∧OwnI w.heap.size wr (.slice (some ⟨w.heap.size,0,none⟩) N N) (lotsK n ws k)∧Below w.heap.size w wr) (fun _ i _=>left.length-(intOf i).toNat)
 case atStart=>exact ⟨0,Nat.zero_le _,rfl,rfl,by rw[lotsK_zero,←HN.out]; exact HOWN.out,HB1.out⟩
 case round=>
  obtain ⟨k,hk,rfl,rfl,ho,hb⟩:=hrel;obtain ⟨wk,rfl⟩:∃ x,x=wr:=⟨_,rfl⟩
  have hwl:=worstK_le ws k;clear HOWN HB1 hNm
  by_cases hlt:k<left.length
  ·obtain ⟨b,off,rfl,_,hc⟩:=hcells (by omega)
   have hck:=(Above.of_below (B:=0) hb).cell (Nat.zero_le _) (hc k hlt);have hlw:=HLW.out;have hk2:k<ws.length:=by omega
   have hgd:=HG.out _ (List.getElem_mem hk2);have hat:=atN_lt hgd hn3;have hA:=answerS_ok n c (V k) (.slice au y.length cu) left[k] y wk ((hV k hlt).below hb) (HU.out.below hb) (HL.out _ (List.getElem_mem hlt)) HY.out;have e1:rightZ left[k] y=ws[k].1:=by rw[HWS.out k hlt hk2]; rfl
   have e2:nearZ left[k] y=ws[k].2:=by rw[HWS.out k hlt hk2]; rfl
   rw[e1,e2] at hA;have hget:=lotsK_get (k:=k) HG.out hn3 hgd (by rw[lotsK_length]; exact hat);have HSET:=hdd (lotsK_set hk2 HG.out hn3);have HNX:=hdd (worst_next hk2);have hcb:(ws.take k).count ws[k]≤k:=Nat.le_trans List.count_le_length (by simp; omega);obtain ⟨ao,co,he,_,_,hod⟩:=ho.opened;injection he with ea eb ec;subst ea;clear eb ec;obtain ⟨g,ea,_,hoc,hof⟩:=hod (by rw[lotsK_length]; omega);injection ea with ea;injection ea with ea;subst ea;have hcell:=hoc (atN n ws[k]) (by rw[lotsK_length]; exact hat);rw[hget] at hcell;have hfr:=hof (atN n ws[k]);obtain ⟨R,hR⟩:∃ R:Nat,R=ws[k].1.toNat*(n+1):=⟨_,rfl⟩
   have hR2:atN n ws[k]=R+ws[k].2.toNat:=by unfold atN; rw[hR]
   obtain ⟨q1,q2,q3,q4⟩:=hgd;have hmul:ws[k].1*((n:Int)+1)=(R:Int):=by
    rw[hR]; push_cast; rw[Int.toNat_of_nonneg q1]
   obtain ⟨A,hAt⟩:∃ A,A=atN n ws[k]:=⟨_,rfl⟩
   rw[←hAt] at hR2 hat hcell hfr HSET;obtain ⟨r,hr⟩:∃ r,r=ws[k].1:=⟨_,rfl⟩
   obtain ⟨t,ht⟩:∃ t,t=ws[k].2:=⟨_,rfl⟩
   rw[←hr] at hA hmul q1 q2;rw[←ht] at hA hR2 q3 q4;obtain ⟨M,hM⟩:∃ M,M=(ws.take k).count ws[k]:=⟨_,rfl⟩
   rw[←hM] at hcell HSET HNX hcb;obtain ⟨X,hX⟩:∃ X,X=worstK ws k:=⟨_,rfl⟩
   rw[←hX] at HNX hwl ⊢;have hsum:(R:Int)+t=(A:Int):=by omega
   have hAN:A<N:=by rw[HN.out]; exact hat
   have hRb:R≤16:=by omega
   have HO:=hdd ho;have HB:=hdd hb;have hi0:(0:Int)≤(k:Int):=by omega
   have hi1:(k:Int)<(left.length:Int):=by omega
   have hi2:(0:Int)≤(A:Int):=by omega
   have hi3:(A:Int)<(N:Int):=by omega
   clear hc hcells hV hlw e1 e2 hget hod hoc hof hR hR2 hAt hr ht hM hX ho hb hat
   rcases Nat.lt_or_ge X (M+1) with hm | hm
   ·have hm1:(X:Int)<(M:Int)+1:=by omega
    have HMX:=hdd (show max X (M+1)=M+1 from Nat.max_eq_right (by omega));clear hm;go_wp2_with fail;refine hA.mono ?_;rintro e w3 ⟨rfl,hq3⟩;have hD:Drawn wk w3:=hq3;clear hq3 hA;have hck3:=hD.cell hck;have hcell3:=hD.cell hcell;have hfr3:w3.frozen? ⟨w.heap.size,A,none⟩=false:=by obtain ⟨q,rfl⟩:=hD; exact hfr
    have HB3:=hdd (HB.out.trans (hD.below.mono HB.out.size));have HO3:=hdd (HO.out.below hD.below);clear hD hck hcell hfr;go_wp2;go_roundw
    case rel=>exact ⟨k+1,by omega,by go_num,by rw[HNX.out,HMX.out]; go_num,by rw[←HSET.out]; exact HO3.out.set A _,HB3.out.setCell (p:=⟨w.heap.size,A,none⟩) (Nat.le_refl _) _⟩
    case measure=>simp[intOf]; omega
   ·have hm1:¬(X:Int)<(M:Int)+1:=by omega
    have HMX:=hdd (show max X (M+1)=X from Nat.max_eq_left (by omega));clear hm;go_wp2_with fail;refine hA.mono ?_;rintro e w3 ⟨rfl,hq3⟩;have hD:Drawn wk w3:=hq3;clear hq3 hA;have hck3:=hD.cell hck;have hcell3:=hD.cell hcell;have hfr3:w3.frozen? ⟨w.heap.size,A,none⟩=false:=by obtain ⟨q,rfl⟩:=hD; exact hfr
    have HB3:=hdd (HB.out.trans (hD.below.mono HB.out.size));have HO3:=hdd (HO.out.below hD.below);clear hD hck hcell hfr;go_wp2;go_roundw
    case rel=>exact ⟨k+1,by omega,by go_num,by rw[HNX.out,HMX.out],by rw[←HSET.out]; exact HO3.out.set A _,HB3.out.setCell (p:=⟨w.heap.size,A,none⟩) (Nat.le_refl _) _⟩
    case measure=>simp[intOf]; omega
  ·have e:k=left.length:=by omega
   have HR:=hdd (show worstN left y=worstK ws k from by rw[e]; exact HW.out);have HB:=hdd hb;clear e hcells hV ho hb;go_wp2;go_ret;exact ⟨ret_int (by rw[HR.out]),HB.out⟩
theorem fit_codes {p c:Int} {gs:List Gs}:∀ x∈fitL p c gs,CodeP p c x:=fun x hx=>(fitL_mem.1 hx).2.1
def NextOut (p c:Int) (gs:List Gs) (w:World) (e:Ending) (w':World):Prop:=
 ∃ a cap,e=.returned (.tuple #[.slice a (nextL (fitL p c gs)).length cap,.bool (decide (0<(fitL p c gs).length))])∧OwnI w.heap.size w' (.slice a (nextL (fitL p c gs)).length cap) (nextL (fitL p c gs))∧Below w.heap.size w w'
theorem best_hit {left:List (List Int)} {k:Nat} (hk:k<left.length) (h:(bestK left k).2<0∨(worstN left left[k]:Int)<(bestK left k).2):bestK left (k+1)=(left[k],(worstN left left[k]:Int)):=by
 have e:left.getD k []=left[k]:=by simp[List.getD,List.getElem?_eq_getElem hk]
 rw[bestK,e,if_pos h]
theorem best_miss {left:List (List Int)} {k:Nat} (hk:k<left.length) (h:¬(bestK left k).2<0) (h2:¬(worstN left left[k]:Int)<(bestK left k).2):bestK left (k+1)=bestK left k:=by
 have e:left.getD k []=left[k]:=by simp[List.getD,List.getElem?_eq_getElem hk]
 rw[bestK,e,if_neg (by rintro (q | q); exact h q; exact h2 q)]
theorem best_end (left:List (List Int)):decide (0≤(bestK left left.length).2)=decide (0<left.length):=by
 rw[decide_eq_decide]
 constructor
 ·intro h
  rcases Nat.eq_zero_or_pos left.length with e | e
  ·rw[e] at h; simp[bestK] at h
  ·exact e
 ·exact bestK_pos left _
set_option maxHeartbeats 4000000 in
theorem nextS_any {B:Nat} (p c:Int) (v:Value) (gs:List Gs) (w:World) (h:GL B w v gs):
  Calls Tryz.prog 68 #[.int .i64 p,.int .i64 c,v] w (NextOut p c gs w):=by
 have hF:=fitS_any p c v gs w h;have hsh:∃ a cap,v=.slice a gs.length cap:=by obtain ⟨a,cap,_,hv,_⟩:=h; exact ⟨a,cap,hv⟩
 obtain ⟨a,cap,rfl⟩:=hsh;have HLN:=hdd (fitL_len p c gs);have HCD:=hdd (fit_codes (p:=p) (c:=c) (gs:=gs));unfold NextOut;obtain ⟨L,hL⟩:∃ L,L=fitL p c gs:=⟨_,rfl⟩
 rw[←hL] at hF HLN HCD ⊢;clear hL h;go_enter Tryz.func68,Tryz.ntmps68;go_wp2_with fail;refine hF.mono ?_;rintro e w2 ⟨b,d,rfl,ho2,hb2⟩;obtain ⟨b',d',he,hd1,hd2⟩:=ho2.shape;injection he with e1 e2 e3;subst e1 e3;clear e2;have hlit:=OwnI.lit w2;have hb3:Below w2.heap.size w2 (w2.alloc (.cells #[] 3)):=(Below.refl _ _).alloc (Nat.le_refl _) _;have hz2:=hb2.size;have HO2:=hdd (ho2.below hb3);have HB2:=hdd (hb2.trans (hb3.mono hz2));have HLIT:=hdd (hlit.mono hz2);clear hF ho2 hb2 hlit hb3;go_wp2;obtain ⟨w3,hw3⟩:∃ w3,w3=w2.alloc (.cells #[] 3):=⟨_,rfl⟩
 rw[←hw3] at HO2 HB2 HLIT ⊢;clear hw3;go_loopw [9,10,11] (fun s l i wr=>∃ (k:Nat) (a:Option Addr) (cap:Nat),k≤L.length∧i=.int .i64 k∧l=.int .i64 (bestK L k).2∧s=.slice a (bestK L k).1.length cap∧OwnI w.heap.size wr (.slice a (bestK L k).1.length cap) (bestK L k).1∧Below w3.heap.size w3 wr) (fun _ _ i _=>L.length-(intOf i).toNat)
 case atStart=>exact ⟨0,_,_,Nat.zero_le _,rfl,rfl,rfl,HLIT.out,Below.refl _ _⟩
 case round=>
  obtain ⟨k,ak,ck,hk,rfl,rfl,rfl,ho,hb⟩:=hrel;obtain ⟨wk,rfl⟩:∃ x,x=wr:=⟨_,rfl⟩
  clear HLIT
  by_cases hlt:k<L.length
  ·have HS1:=hdd (@best_hit L k hlt)
   have HS2:=hdd (@best_miss L k hlt);obtain ⟨g,u,e1,hgB,hcu,hou⟩:=(HO2.out.below hb).at k hlt;subst e1;obtain ⟨au,cu,rfl,_⟩:=own_shape hou;have hcp:=HCD.out _ (List.getElem_mem hlt);obtain ⟨n,m,rfl,rfl,_,_⟩:=own_nat hcp.1;have hW:=worstS_any n m _ _ L L[k] wk ((HO2.out.below hb).rows fun x hx=>code_in64 (HCD.out x hx)) (hou.toInts (code_in64 hcp)) HCD.out hcp (by have:=HLN.out; omega);obtain ⟨x,hx⟩:∃ x,x=L[k]:=⟨_,rfl⟩
   rw[←hx] at HS1 HS2 hcu hou hW;obtain ⟨W,hWn⟩:∃ W:Int,W=(worstN L x:Int):=⟨_,rfl⟩
   unfold GrownInt at hW;rw[←hWn] at HS1 HS2 hW;obtain ⟨l,hl⟩:∃ l,l=(bestK L k).2:=⟨_,rfl⟩
   rw[←hl] at HS1 HS2 ⊢;obtain ⟨y,hy⟩:∃ y,y=(bestK L k).1:=⟨_,rfl⟩
   rw[←hy] at ho ⊢;have HY:=hdd (show bestK L k=(y,l) from Prod.ext hy.symm hl.symm);have HO:=hdd ho;have HB:=hdd hb;have HOU:=hdd hou;have hi0:(0:Int)≤(k:Int):=by omega
   have hi1:(k:Int)<(L.length:Int):=by omega
   clear hx hWn hl hy ho hb hou hcp
   by_cases hl0:l<0
   ·have HN:=hdd (HS1.out (.inl hl0))
    clear HS1 HS2;go_wp2_with fail;refine hW.mono ?_;rintro e w4 ⟨rfl,hb4⟩;have hcu4:=(Above.of_below (B:=0) hb4).cell (Nat.zero_le _) hcu;have HO4:=hdd (owns_below HOU.out hb4);have HB4:=hdd (HB.out.trans (hb4.mono HB.out.size));clear hW hb4 hcu;go_wp2;go_roundw
    case rel=>exact ⟨k+1,au,cu,by omega,by go_num,by rw[HN.out],by rw[HN.out],by rw[HN.out]; exact HO4.out,HB4.out⟩
    case measure=>simp[intOf]; omega
   ·by_cases hl1:W<l
    ·have HN:=hdd (HS1.out (.inr hl1))
     clear HS1 HS2;go_wp2_with fail;refine hW.mono ?_;rintro e w4 ⟨rfl,hb4⟩;have hcu4:=(Above.of_below (B:=0) hb4).cell (Nat.zero_le _) hcu;have HO4:=hdd (owns_below HOU.out hb4);have HB4:=hdd (HB.out.trans (hb4.mono HB.out.size));clear hW hb4 hcu;go_wp2;go_roundw
     case rel=>exact ⟨k+1,au,cu,by omega,by go_num,by rw[HN.out],by rw[HN.out],by rw[HN.out]; exact HO4.out,HB4.out⟩
     case measure=>simp[intOf]; omega
    ·have HN:=hdd ((HS2.out hl0 hl1).trans HY.out)
     clear HS1 HS2;go_wp2_with fail;refine hW.mono ?_;rintro e w4 ⟨rfl,hb4⟩;have hcu4:=(Above.of_below (B:=0) hb4).cell (Nat.zero_le _) hcu;have HO4:=hdd (owns_below HO.out hb4);have HB4:=hdd (HB.out.trans (hb4.mono HB.out.size));clear hW hb4 hcu;go_wp2;go_roundw
     case rel=>exact ⟨k+1,ak,ck,by omega,by go_num,by rw[HN.out],by rw[HN.out],by rw[HN.out]; exact HO4.out,HB4.out⟩
     case measure=>simp[intOf]; omega
  ·have e:k=L.length:=by omega
   subst e;have HN:=hdd (show bestK L L.length=(nextL L,(bestK L L.length).2) from rfl);have hE:=best_end L;obtain ⟨l,hl⟩:∃ l,l=(bestK L L.length).2:=⟨_,rfl⟩
   rw[←hl] at hE ⊢;have HO:=hdd ho;have HB:=hdd hb;clear hl ho hb
   cases hd:decide (0<L.length)
   ·rw[hd] at hE
    have HE:=hdd hE;have hn:¬0≤l:=of_decide_eq_false hE;have HD:=hdd hd;clear hE hd;go_wp2;go_ret2;exact ⟨ak,ck,by rw[HD.out]; rfl,HO.out,HB2.out.trans (HB.out.mono HB2.out.size)⟩
   ·rw[hd] at hE
    have HE:=hdd hE;have hn:0≤l:=of_decide_eq_true hE;have HD:=hdd hd;clear hE hd;go_wp2;go_ret2;exact ⟨ak,ck,by rw[HD.out]; rfl,HO.out,HB2.out.trans (HB.out.mono HB2.out.size)⟩
end
section
open Go.RowKit Go.Maps
open Go.WideMaps (KeyLaw)
set_option maxRecDepth 100000
theorem nodupO:∀ (n:Nat) (l:List Nat),l.Nodup→(∀ x∈l,x<n)→l.length≤n:=by
 intro n
 induction n with
 | zero=>
  intro l _ h
  cases l with
  | nil=>simp
  | cons x l=>exact absurd (h x List.mem_cons_self) (by omega)
 | succ n ih=>
  intro l hd h
  by_cases hm:n∈l
  ·have h1:=ih (l.erase n) (hd.erase n) (fun x hx=>by
    have h2:=(hd.mem_erase_iff).1 hx;have:=h x h2.2;have:=h2.1;omega)
   have h2:=List.length_erase_of_mem hm;have h3:0<l.length:=List.length_pos_of_mem hm;omega
  ·have h1:=ih l hd (fun x hx=>by
    have:=h x hx;have:x≠n:=fun e=>hm (e ▸ hx)
    omega)
   omega
theorem grownO {w w':World} (hb:Below w.heap.size w w'):w.grownBy w' none:=⟨hb.os,hb.tape,hb.output,hb.size,fun k hk _=>hb.block k hk⟩
theorem grownR {a b:World} {row:Option Nat} (h:Below a.heap.size a b):a.grownBy b row:=⟨h.os,h.tape,h.output,h.size,fun k hk _=>h.block k hk⟩
theorem grownT {a b c:World} {K:Nat} (h:a.grownBy b (some K)) (h':b.grownBy c (some K)):a.grownBy c (some K):=h.andThen h' (fun _ e=>by cases e; exact .inr rfl)
theorem stRow:(213:TypeId)<Tryz.prog.types.size:=of_decide_eq_true (by kernel_rfl)
theorem stWide:(match Tryz.prog.underlying 213 with | some (.array _ _) | some (.struct _)=>true | _=>false)=true:=by rw[Tryz.underlying213]
theorem stLaw:KeyLaw Tryz.prog 213:=deep_law_laid ansLaid (m:=3) (by omega) stRow (by kernel_rfl) stWide
theorem stKeyed:Keyed Tryz.prog 213:=Keyed.of_law stLaw
def stV4 (a b c q:Int):Value:=.agg #[.int .i64 a,.int .i64 b,.int .i64 c,.int .i64 q]
theorem stV4_inj {a b c q a' b' c' q':Int} (h:stV4 a b c q=stV4 a' b' c' q'):a=a'∧b=b'∧c=c'∧q=q':=by
 unfold stV4 at h;injection h with h;have h1:=congrArg (fun x=>x[0]?) h;have h2:=congrArg (fun x=>x[1]?) h;have h3:=congrArg (fun x=>x[2]?) h;have h4:=congrArg (fun x=>x[3]?) h;simp at h1 h2 h3 h4;exact ⟨h1,h2,h3,h4⟩
theorem stKey4 (a b c q:Int) (ha:(Lit.int .i64 a).wf=true) (hb:(Lit.int .i64 b).wf=true) (hc:(Lit.int .i64 c).wf=true) (hq:(Lit.int .i64 q).wf=true):∃ kl,keyOf Tryz.prog 213 (stV4 a b c q)=some kl:=by
 have k1:Tryz.prog.keyType 213=true:=by kernel_rfl
 have k2:(stV4 a b c q).formed Tryz.prog 213=true:=by
  have c:Tryz.prog.cellsOf 213=4:=by kernel_rfl
  simp[stV4,Value.formed,Tryz.underlying213,c]
 have kk:∀ d (x:Int),(Lit.int .i64 x).wf=true→Tryz.prog.keyLits (d+1) 3 [.int .i64 x]=some [.int .i64 x]:=fun d x hx=>by simp[Program.keyLits,Tryz.underlying3,hx]
 have c1:Tryz.prog.cellsOf 3=1:=by kernel_rfl
 have c3:Tryz.prog.cellsOf 211=3:=by kernel_rfl
 have c0:Tryz.prog.cellsOf 213=4:=by kernel_rfl
 have k3:∀ d,∃ ls,Tryz.prog.keyLits (d+1+1) 211 [.int .i64 a,.int .i64 b,.int .i64 c]=some ls:=fun d=>by
  unfold Program.keyLits;simp[Tryz.underlying211,c1,c3,kk d a ha,kk d b hb,kk d c hc,List.range_succ]
 have k5:∀ d,∃ ls,Tryz.prog.keyLits (d+1+1+1) 213 [.int .i64 a,.int .i64 b,.int .i64 c,.int .i64 q]=some ls:=fun d=>by
  obtain ⟨ls,hls⟩:=k3 d;unfold Program.keyLits;simp[Tryz.underlying213,c1,c3,c0,hls,kk (d+1) q hq]
 obtain ⟨n,hn⟩:∃ n,Tryz.prog.types.size=n+1+1:=⟨Tryz.prog.types.size-2,by
  have:2≤Tryz.prog.types.size:=of_decide_eq_true (by kernel_rfl);omega⟩
 obtain ⟨ls,hls⟩:=k5 n;unfold keyOf;rw[Tryz.underlying213,hn];simp only[k1,k2,Bool.and_self,if_true];have e:(stV4 a b c q).cells.toList=[.int .i64 a,.int .i64 b,.int .i64 c,.int .i64 q]:=rfl;rw[e,hls];exact ⟨_,rfl⟩
def stV (row:List Int) (q:Nat):Value:=stV4 (row.getD 0 0) (row.getD 1 0) (row.getD 2 0) q
def StOk (n:Nat) (row:List Int) (q:Nat):Prop:=knownB row=true∧row.length=n∧q≤9
theorem getD_small {row:List Int} (h:knownB row=true) (j:Nat):0≤row.getD j 0∧row.getD j 0≤10:=by
 obtain ⟨h1,h2,h3,h4⟩:=knownB_iff.1 h
 by_cases hj:j<row.length
 ·rw[show row.getD j 0=row[j] by simp[List.getD,List.getElem?_eq_getElem hj]]
  exact h3 _ (List.getElem_mem hj)
 ·rw[show row.getD j 0=0 by simp[List.getD,List.getElem?_eq_none (by omega:row.length≤j)]]
  omega
theorem stKey {n:Nat} {row:List Int} {q:Nat} (h:StOk n row q):∃ kl,keyOf Tryz.prog 213 (stV row q)=some kl:=by
 have h0:=getD_small h.1 0;have h1:=getD_small h.1 1;have h2:=getD_small h.1 2;have h9:=h.2.2;exact stKey4 _ _ _ _ (WalkArith.wf_i64 (by omega)) (WalkArith.wf_i64 (by omega)) (WalkArith.wf_i64 (by omega)) (WalkArith.wf_i64 (by omega))
noncomputable def keyS (row:List Int) (q:Nat):Lit:=(keyOf Tryz.prog 213 (stV row q)).getD (.bool false)
theorem keyOf_keyS {n:Nat} {row:List Int} {q:Nat} (h:StOk n row q):keyOf Tryz.prog 213 (stV row q)=some (keyS row q):=by
 obtain ⟨kl,hk⟩:=stKey h;unfold keyS;rw[hk]; rfl
theorem keyS_key {n:Nat} {row:List Int} {q:Nat} (h:StOk n row q):WideAt.IsKeyLit (keyS row q):=stKeyed.key (keyOf_keyS h)
theorem row_of_three {n:Nat} {r s:List Int} (hr:r.length=n) (hs:s.length=n) (hn:n≤3) (h0:r.getD 0 0=s.getD 0 0) (h1:r.getD 1 0=s.getD 1 0) (h2:r.getD 2 0=s.getD 2 0):r=s:=by
 refine List.ext_getElem (by omega) fun j h3 h4=>?_
 have e1:r.getD j 0=r[j]:=by simp[List.getD,List.getElem?_eq_getElem h3]
 have e2:s.getD j 0=s[j]:=by simp[List.getD,List.getElem?_eq_getElem h4]
 rw[←e1,←e2];have hj:j=0∨j=1∨j=2:=by omega
 rcases hj with rfl | rfl | rfl
 ·exact h0
 ·exact h1
 ·exact h2
theorem keyS_inj {n:Nat} {r s:List Int} {q p:Nat} (h1:StOk n r q) (h2:StOk n s p) (h:keyS r q=keyS s p):r=s∧q=p:=by
 have e:=stKeyed.inj (keyOf_keyS h1) ((keyOf_keyS h2).trans (congrArg some h.symm));obtain ⟨e0,e1,e2,e3⟩:=stV4_inj e;have:=(knownB_iff.1 h1.1).2.1;exact ⟨row_of_three h1.2.1 h2.2.1 (by have:=h1.2.1; omega) e0 e1 e2,by omega⟩
abbrev MapO (w:World) (bm m:Nat) (D:DataW Value):Prop:=w.ownsMap Tryz.prog 213 (plainElem Tryz.prog 4) bm m D
def KeysO (n:Nat) (D:DataW Value):Prop:=∀ k,WideAt.IsKeyLit k→Maps.has D k=true→∃ row q,StOk n row q∧k=keyS row q
theorem mapO_exact {w:World} {bm n:Nat} {D:DataW Value} (h:MapO w bm n D):MapO w bm (Maps.size D) D:=by
 obtain ⟨es,clock,hb,F,hs,rfl⟩:=h;exact ⟨es,clock,hb,F,by simp[Maps.size,length_sorted],rfl⟩
theorem mapO_small {w:World} {bm m n:Nat} {D:DataW Value} (h:MapO w bm m D) (hk:KeysO n D):MapO w bm 13310 D:=by
 classical
 refine (mapO_exact h).mono ?_;obtain ⟨es,rfl,hp,hl⟩:=h.entries stKeyed;have hs:∀ p∈es,∃ rq:List Int×Nat,StOk n rq.1 rq.2∧p.1=keyS rq.1 rq.2:=fun p hp=>by
  obtain ⟨row,q,h1,h2⟩:=hk p.1 (hl p hp) (List.any_eq_true.2 ⟨p,hp,WideAt.sameKey_self (hl p hp)⟩);exact ⟨(row,q),h1,h2⟩
 let f:Lit×DataW Value→Nat:=fun p=>if h:∃ rq:List Int×Nat,StOk n rq.1 rq.2∧p.1=keyS rq.1 rq.2 then (atL (h.choose.2:Nat) h.choose.1).toNat else 0
 have hf:∀ p∈es,∃ rq:List Int×Nat,StOk n rq.1 rq.2∧p.1=keyS rq.1 rq.2∧f p=(atL (rq.2:Nat) rq.1).toNat:=fun p hp=>by
  have h:=hs p hp;refine ⟨h.choose,h.choose_spec.1,h.choose_spec.2,?_⟩
  show (if h:∃ rq:List Int×Nat,StOk n rq.1 rq.2∧p.1=keyS rq.1 rq.2 then (atL (h.choose.2:Nat) h.choose.1).toNat else 0)=_
  rw[dif_pos h]
 have h1:(es.map f).Nodup:=by
  rw[List.nodup_iff_pairwise_ne,List.pairwise_map];refine hp.imp_of_mem fun {a b} ha hb hne e=>hne ?_
  obtain ⟨r,r1,r2,r3⟩:=hf a ha;obtain ⟨s,s1,s2,s3⟩:=hf b hb;rw[r2,s2];have b1:=at_in r1.1 r1.2.2;have b2:=at_in s1.1 s1.2.2;have:=atL_inj r.1 s.1 _ _ (known_okR r1.1).1 (known_okR s1.1).1 (by rw[r1.2.1,s1.2.1]) (show atL (r.2:Nat) r.1=atL (s.2:Nat) s.1 by omega);rw[this.2,show r.2=s.2 by have:=this.1; omega]
 have h2:=nodupO 13310 (es.map f) h1 fun x hx=>by
  obtain ⟨p,hp,rfl⟩:=List.mem_map.1 hx;obtain ⟨r,r1,r2,r3⟩:=hf p hp;have b1:=at_in r1.1 r1.2.2;omega
 simpa [Maps.size] using h2
def OraD (n:Nat) (D:DataW Value):Prop:=
 KeysO n D∧∀ row q,StOk n row q→Maps.has D (keyS row q)=true→D.atKey (keyS row q) (.lit (.bool false))=.lit (.bool (sureB q row))
def Ora (n bm:Nat) (w:World):Prop:=∃ D,MapO w bm 13310 D∧OraD n D
theorem oraD_put {n:Nat} {D:DataW Value} (hD:IsMap D) (h:OraD n D) {row:List Int} {q:Nat} (hs:StOk n row q):OraD n (D.put (keyS row q) (.lit (.bool (sureB q row)))):=by
 have hk:=keyS_key hs;refine ⟨fun k hkk hh=>?_,fun r p hr hh=>?_⟩
 ·by_cases e:k=keyS row q
  ·exact ⟨row,q,hs,e⟩
  ·rw[has_put_other e] at hh
   exact h.1 k hkk hh
 ·by_cases e:keyS r p=keyS row q
  ·obtain ⟨rfl,rfl⟩:=keyS_inj hr hs e
   exact atKey_put_same hD hk _ _
  ·rw[has_put_other e] at hh
   rw[atKey_put_other e];exact h.2 r p hr hh
theorem zeroB (w:World):(zeroValue 4).run Tryz.prog w=.ok (.bool false) w:=by kernel_rfl
theorem plainElem_bool_inv {P:Program} {e:TypeId} (he:P.underlying e=some .bool) {v:Value} {z:DataW Value×List MemPlace} (h:plainElem P e v=some z):∃ b,v=.bool b∧z=(.lit (.bool b),[]):=by
 unfold plainElem at h;rw[he] at h
 cases v <;> simp at h
 exact ⟨_,rfl,h.symm⟩
theorem Ora.look {n bm:Nat} {w:World} (h:Ora n bm w) {row:List Int} {q:Nat} (hs:StOk n row q):
  ∃ (x b:Bool),(Instr.lookup 201 (.map (some bm)) (stV row q) true).run Tryz.prog w=.ok (.tuple #[.bool x,.bool b]) w∧(b=true→x=sureB q row):=by
 obtain ⟨D,hm,hk,hv⟩:=h;obtain ⟨v,ps,hrun,hat⟩:=hm.look_ok stKeyed Tryz.underlying201 (zeroB w) (plainElem_bool Tryz.underlying4 false) (keyOf_keyS hs);obtain ⟨c,rfl,hc⟩:=plainElem_bool_inv Tryz.underlying4 hat;simp only[Prod.mk.injEq] at hc;refine ⟨c,_,hrun,fun hb=>?_⟩;have:=hv row q hs hb;rw[hc.1] at this
 simpa using this
theorem Ora.store {n bm:Nat} {w:World} (h:Ora n bm w) {row:List Int} {q:Nat} (hs:StOk n row q):
  ∃ w',(Instr.mapUpdate 201 (.map (some bm)) (stV row q) (.bool (sureB q row))).run Tryz.prog w=.ok () w'∧Ora n bm w'∧w.grownBy w' (some bm) ∧
   (Instr.lookup 201 (.map (some bm)) (stV row q) false).run Tryz.prog w'=.ok (.bool (sureB q row)) w':=by
 obtain ⟨D,hm,hD⟩:=h;obtain ⟨w',hrun,hm2,hg⟩:=hm.update stKeyed Tryz.underlying201 (by unfold maxLen; omega) (keyOf_keyS hs) (plainElem_bool Tryz.underlying4 (sureB q row));have hD2:=oraD_put hm.isMap hD hs;refine ⟨w',hrun,⟨_,mapO_small hm2 hD2.1,hD2⟩,hg,?_⟩;obtain ⟨v,ps,hrun2,hat⟩:=hm2.lookup stKeyed Tryz.underlying201 (zeroB w') (plainElem_bool Tryz.underlying4 false) (keyOf_keyS hs);obtain ⟨c,rfl,hc⟩:=plainElem_bool_inv Tryz.underlying4 hat;simp only[Prod.mk.injEq] at hc;have:=atKey_put_same hm.isMap (keyS_key hs) (.lit (.bool (sureB q row))) (.lit (.bool false));rw[hc.1] at this;have e:c=sureB q row:=by simpa using this
 rw[←e]; exact hrun2
theorem Ora.made (n:Nat) (w:World):Ora n w.heap.size (w.alloc (.map #[] 0)):=
 ⟨.map [],(World.ownsMap_made w Tryz.prog 213 (plainElem Tryz.prog 4)).mono (by omega),
  (⟨fun k _ h=>absurd h (by rw[show Maps.has (DataW.map (H:=Value) []) k=false from rfl]; simp),fun r q _ h=>absurd h (by rw[show Maps.has (DataW.map (H:=Value) []) (keyS r q)=false from rfl]; simp)⟩:OraD n (DataW.map []))⟩
theorem Ora.kept {n bm:Nat} {w w':World} {row:Option Nat} (h:Ora n bm w) (hg:w.grownBy w' row) (hne:some bm≠row):Ora n bm w':=by
 obtain ⟨D,hm,hD⟩:=h;exact ⟨D,hm.kept hg hne,hD⟩
theorem Ora.lt {n bm:Nat} {w:World} (h:Ora n bm w):bm<w.heap.size:=by
 obtain ⟨D,hm,_⟩:=h;exact hm.lt
theorem Ora.below {n bm:Nat} {w w':World} (h:Ora n bm w) (hb:Below w.heap.size w w'):Ora n bm w':=h.kept (grownO hb) (by simp)
theorem Ora.block {n bm:Nat} {w:World} (h:Ora n bm w):∃ es clock,w.heap[bm]?=some (.map es clock):=by
 obtain ⟨D,⟨es,clock,hb,_⟩,_⟩:=h;exact ⟨es,clock,hb⟩
theorem Ora.cell {n bm:Nat} {w w':World} (h:Ora n bm w) (hg:w.grownBy w' (some bm)) {p:Addr} {u:Value} (hc:w.cell? p=some u):w'.cell? p=some u:=by
 obtain ⟨es,clock,hb⟩:=h.block;have hlt:=World.block_lt_of_cell? w _ hc;have hne:p.block≠bm:=fun e=>by
  unfold World.cell? at hc;rw[e,hb] at hc;simp at hc
 rw[World.cell?_of_block (w:=w) (hg.block p.block hlt (fun e=>hne (by injection e)))];exact hc
end
end Go.Proofs.YtenlngclocfnlaaGreatDoor
