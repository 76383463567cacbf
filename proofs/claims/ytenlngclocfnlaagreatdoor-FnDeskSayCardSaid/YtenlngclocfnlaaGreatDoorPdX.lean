/- Texts of this claim, put together: Drops, ExInRow. -/
import Derived.Test.YtenlngclocfnlaaGreatDoorPdA
import Derived.Test.YtenlngclocfnlaaGreatDoorPdO
import Derived.Test.YtenlngclocfnlaaGreatDoorPdGD
namespace Go.Proofs.YtenlngclocfnlaaGreatDoor
set_option linter.unusedVariables false
section
open Go.RowKit
set_option maxRecDepth 100000
theorem own_cell {B:Nat} {w:World} {g n cap:Nat} {xs:List Int} (h:OwnI B w (.slice (some ⟨g,0,none⟩) n cap) xs) (k:Nat) (hk:k<xs.length):w.cell? ⟨g,k,none⟩=some (.int .i64 xs[k])∧w.frozen? ⟨g,k,none⟩=false:=by
 obtain ⟨a,cap',he,_,_,hd⟩:=h.opened;injection he with e1 _ _;subst e1;obtain ⟨g',hg,_,hc,hf⟩:=hd (by omega);injection hg with hg;injection hg with hg _ _;subst hg;exact ⟨hc k hk,hf k⟩
theorem ones_next (k m:Nat):(List.replicate k (1:Int)++List.replicate (m+1) 0).set k 1=List.replicate (k+1) 1++List.replicate m 0:=by
 rw[List.set_append_right _ _ (by simp)];simp only[List.length_replicate,Nat.sub_self,List.replicate_succ,List.set_cons_zero];rw[show (1:Int)::List.replicate m 0=[1]++List.replicate m 0 from rfl,←List.append_assoc,←List.replicate_succ',List.replicate_succ]
set_option maxHeartbeats 4000000 in
theorem apartI_any (c d:Nat) (w:World) (hc:c≤8) (hd:d≤14):
  Calls Tryz.prog 193 #[.int .i64 c,.int .i64 d] w fun e w'=>e=.returned (.int .i64 (chs d c))∧Below w.heap.size w w':=by
 obtain ⟨r,hr⟩:∃ r,r=chs d c:=⟨_,rfl⟩
 have HR:=hdd hr;rw[←hr];clear hr;go_enter Tryz.func193,Tryz.ntmps193;go_wp2_with (at_make; refine wpList_make_ints _ rfl _ _ rfl _ _ (c+1) rfl rfl (by omega) (by omega) (by omega) ?_; intro w3 hr3 hb3 hs3);obtain ⟨g,hg⟩:∃ g,g=w.heap.size:=⟨_,rfl⟩
 have hgw:w.heap.size≤g:=by omega
 rw[←hg] at hr3 ⊢;have HG:=hdd hg;have HO:=hdd (show OwnI w.heap.size w3 (.slice (some ⟨g,0,none⟩) (c+1) (c+1)) (List.replicate 0 1++List.replicate (c+1-0) 0) by rw[hg] at hr3 ⊢; simpa using hr3);have HB:=hdd hb3;clear hr3 hb3 hs3 hg;obtain ⟨wf,rfl⟩:∃ wf:World,wf=w3:=⟨_,rfl⟩
 go_wp2;go_loopw [13] (fun i wi=>∃ k:Nat,k≤c+1∧i=.int .i64 k∧OwnI w.heap.size wi (.slice (some ⟨g,0,none⟩) (c+1) (c+1)) (List.replicate k 1++List.replicate (c+1-k) 0)∧Below w.heap.size w wi) (fun i _=>c+1-(intOf i).toNat)
 case atStart=>exact ⟨0,by omega,rfl,HO.out,HB.out⟩
 case round=>
  obtain ⟨k,hk,rfl,ho,hb⟩:=hrel;obtain ⟨wk,rfl⟩:∃ x,x=wr:=⟨_,rfl⟩
  clear HO HB
  by_cases hlt:k<c+1
  ·obtain ⟨⟨u,hcu⟩,hfu⟩:=ho.at k (by simp; omega)
   have HN:=hdd (show OwnI w.heap.size (wk.setCell ⟨g,k,none⟩ (.int .i64 1)) (.slice (some ⟨g,0,none⟩) (c+1) (c+1)) (List.replicate (k+1) 1++List.replicate (c+1-(k+1)) 0) by
    have:=ho.set k 1;rw[show c+1-k=(c+1-(k+1))+1 by omega,ones_next] at this;exact this)
   have HBN:=hdd (hb.setCell (p:=⟨g,k,none⟩) hgw (.int .i64 1));have hk0:(0:Int)≤(k:Int):=by omega
   have hk1:(k:Int)<(c:Int)+1:=by omega
   have hk2:(k:Int)≤(c:Int):=by omega
   clear ho hb;go_wp2;go_roundw
   case rel=>exact ⟨k+1,by omega,by go_num,HN.out,HBN.out⟩
   case measure=>simp[intOf]; omega
  ·have hkc:k=c+1:=by omega
   have HO:=hdd (show OwnI w.heap.size wk (.slice (some ⟨g,0,none⟩) (c+1) (c+1)) (chsRow 0 c) by rw[chsRow_zero]; rw[hkc] at ho; simpa using ho);have HB:=hdd hb;have hk1:¬((k:Int)<(c:Int)+1):=by omega
   have hk2:¬((k:Int)≤(c:Int)):=by omega
   clear ho hb hkc;go_wp2;go_loopw [21] (fun i wi=>∃ e:Nat,e≤d∧i=.int .i64 e∧OwnI w.heap.size wi (.slice (some ⟨g,0,none⟩) (c+1) (c+1)) (chsRow e c)∧Below w.heap.size w wi) (fun i _=>d-(intOf i).toNat)
   case atStart=>exact ⟨0,by omega,rfl,HO.out,HB.out⟩
   case round=>
    obtain ⟨e,he,rfl,ho,hb⟩:=hrel;obtain ⟨we,rfl⟩:∃ x,x=wr:=⟨_,rfl⟩
    clear HO HB
    by_cases hle:e<d
    ·have HO:=hdd (show OwnI w.heap.size we (.slice (some ⟨g,0,none⟩) (c+1) (c+1)) (chsMid e c c) by rw[chsMid_start]; exact ho)
     have HB:=hdd hb;have he0:(0:Int)≤(e:Int):=by omega
     have he1:(e:Int)<(d:Int):=by omega
     clear ho hb;go_wp2;go_loopw [7] (fun i wi=>∃ k:Nat,k≤c∧i=.int .i64 k∧OwnI w.heap.size wi (.slice (some ⟨g,0,none⟩) (c+1) (c+1)) (chsMid e c k)∧Below w.heap.size w wi) (fun i _=>(intOf i).toNat)
     case atStart=>exact ⟨c,Nat.le_refl _,rfl,HO.out,HB.out⟩
     case round=>
      obtain ⟨q,hq,rfl,ho,hb⟩:=hrel;obtain ⟨wq,rfl⟩:∃ x,x=wr:=⟨_,rfl⟩
      clear HO HB
      rcases q with _ | j
      ·have HN:=hdd (show OwnI w.heap.size wq (.slice (some ⟨g,0,none⟩) (c+1) (c+1)) (chsRow (e+1) c) by rw[←chsMid_end]; exact ho)
       have HBN:=hdd hb;clear ho hb;go_wp2;go_roundw
       case rel=>exact ⟨e+1,by omega,by go_num,HN.out,HBN.out⟩
       case measure=>simp[intOf]; omega
      ·obtain ⟨c1,f1⟩:=own_cell ho (j+1) (by rw[chsMid_len]; omega)
       obtain ⟨c0,f0⟩:=own_cell ho j (by rw[chsMid_len]; omega);rw[chsMid_get (by omega),if_neg (by omega)] at c1 c0;have HN:=hdd (show OwnI w.heap.size (wq.setCell ⟨g,j+1,none⟩ (.int .i64 (chs e (j+1)+chs e j))) (.slice (some ⟨g,0,none⟩) (c+1) (c+1)) (chsMid e c j) by
        have:=ho.set (j+1) (chs e (j+1)+chs e j);rw[chsMid_next (by omega)] at this;exact this)
       have HBN:=hdd (hb.setCell (p:=⟨g,j+1,none⟩) hgw (.int .i64 (chs e (j+1)+chs e j)));have s1:=chs_small e (j+1) (by omega);have s0:=chs_small e j (by omega);obtain ⟨x,hx⟩:∃ x,x=chs e (j+1):=⟨_,rfl⟩
       obtain ⟨y,hy⟩:∃ y,y=chs e j:=⟨_,rfl⟩
       rw[←hx] at c1 s1 HN HBN;rw[←hy] at c0 s0 HN HBN;have hj0:(0:Int)≤(j:Int):=by omega
       have hj1:(j:Int)<(c:Int):=by omega
       have hj2:(j:Int)<(c:Int)+1:=by omega
       have hj3:(j:Int)+1<(c:Int)+1:=by omega
       have hj4:(0:Int)<(j:Int)+1:=by omega
       have hj5:(0:Int)≤(j:Int)+1:=by omega
       clear ho hb hx hy
       --@Z
       go_wp2;go_region;go_wp2;go_roundw
       case rel=>exact ⟨j,by omega,by go_num,HN.out,HBN.out.drew⟩
       case measure=>first | (simp[intOf]; done) | (simp[intOf]; omega)
    ·have hed:e=d:=by omega
     have HB:=hdd hb;obtain ⟨c1,f1⟩:=own_cell ho c (by rw[chsRow_len]; omega);rw[chsRow_get (by omega),hed,←HR.out] at c1;have he1:¬((e:Int)<(d:Int)):=by omega
     have hc0:(0:Int)≤(c:Int):=by omega
     have hc1:(c:Int)<(c:Int)+1:=by omega
     clear ho hb hed;go_wp2;go_ret;exact ⟨rfl,HB.out⟩
set_option maxHeartbeats 4000000 in
theorem toldS_any (c d:Nat) (w:World) (hc:c≤8) (hd:d≤14):
  Calls Tryz.prog 133 #[.int .i64 c,.int .i64 d] w fun e w'=>e=.returned (.int .i64 (chs d c))∧Below w.heap.size w w':=by
 have hI1:=l1In_any (c:Int) 0 8 w;have hI2:=l1In_any (d:Int) 0 14 w;rw[show inB (c:Int) 0 8=true by simp[inB]; omega] at hI1;rw[show inB (d:Int) 0 14=true by simp[inB]; omega] at hI2;obtain ⟨r,hr⟩:∃ r,r=chs d c:=⟨_,rfl⟩
 have HR:=hdd hr;rw[←hr];clear hr;go_enter Tryz.func133,Tryz.ntmps133;go_wp2_with fail;refine hI1.mono ?_;rintro e w1 ⟨rfl,rfl⟩;clear hI1;go_wp2_with fail;refine hI2.mono ?_;rintro e w1 ⟨rfl,rfl⟩;clear hI2;go_wp2_with (at_make; refine wpList_make_ints _ rfl _ _ rfl _ _ (c+1) rfl rfl (by omega) (by omega) (by omega) ?_; intro w3 hr3 hb3 hs3);obtain ⟨g,hg⟩:∃ g,g=w.heap.size:=⟨_,rfl⟩
 have hgw:w.heap.size≤g:=by omega
 rw[←hg] at hr3 ⊢;have HG:=hdd hg;have HO:=hdd (show OwnI w.heap.size w3 (.slice (some ⟨g,0,none⟩) (c+1) (c+1)) (List.replicate 0 1++List.replicate (c+1-0) 0) by rw[hg] at hr3 ⊢; simpa using hr3);have HB:=hdd hb3;clear hr3 hb3 hs3 hg;obtain ⟨wf,rfl⟩:∃ wf:World,wf=w3:=⟨_,rfl⟩
 go_wp2;go_loopw [6] (fun i wi=>∃ k:Nat,k≤c+1∧i=.int .i64 k∧OwnI w.heap.size wi (.slice (some ⟨g,0,none⟩) (c+1) (c+1)) (List.replicate k 1++List.replicate (c+1-k) 0)∧Below w.heap.size w wi) (fun i _=>c+1-(intOf i).toNat)
 case atStart=>exact ⟨0,by omega,rfl,HO.out,HB.out⟩
 case round=>
  obtain ⟨k,hk,rfl,ho,hb⟩:=hrel;obtain ⟨wk,rfl⟩:∃ x,x=wr:=⟨_,rfl⟩
  clear HO HB
  by_cases hlt:k<c+1
  ·obtain ⟨⟨u,hcu⟩,hfu⟩:=ho.at k (by simp; omega)
   have HN:=hdd (show OwnI w.heap.size (wk.setCell ⟨g,k,none⟩ (.int .i64 1)) (.slice (some ⟨g,0,none⟩) (c+1) (c+1)) (List.replicate (k+1) 1++List.replicate (c+1-(k+1)) 0) by
    have:=ho.set k 1;rw[show c+1-k=(c+1-(k+1))+1 by omega,ones_next] at this;exact this)
   have HBN:=hdd (hb.setCell (p:=⟨g,k,none⟩) hgw (.int .i64 1));have hk0:(0:Int)≤(k:Int):=by omega
   have hk1:(k:Int)<(c:Int)+1:=by omega
   have hk2:(k:Int)≤(c:Int):=by omega
   clear ho hb;go_wp2;go_roundw
   case rel=>exact ⟨k+1,by omega,by go_num,HN.out,HBN.out⟩
   case measure=>simp[intOf]; omega
  ·have hkc:k=c+1:=by omega
   have HO:=hdd (show OwnI w.heap.size wk (.slice (some ⟨g,0,none⟩) (c+1) (c+1)) (chsRow 0 c) by rw[chsRow_zero]; rw[hkc] at ho; simpa using ho);have HB:=hdd hb;have hk1:¬((k:Int)<(c:Int)+1):=by omega
   have hk2:¬((k:Int)≤(c:Int)):=by omega
   clear ho hb hkc;go_wp2;go_loopw [7] (fun i wi=>∃ e:Nat,e≤d∧i=.int .i64 e∧OwnI w.heap.size wi (.slice (some ⟨g,0,none⟩) (c+1) (c+1)) (chsRow e c)∧Below w.heap.size w wi) (fun i _=>d-(intOf i).toNat)
   case atStart=>exact ⟨0,by omega,rfl,HO.out,HB.out⟩
   case round=>
    obtain ⟨e,he,rfl,ho,hb⟩:=hrel;obtain ⟨we,rfl⟩:∃ x,x=wr:=⟨_,rfl⟩
    clear HO HB
    by_cases hle:e<d
    ·have HO:=hdd (show OwnI w.heap.size we (.slice (some ⟨g,0,none⟩) (c+1) (c+1)) (chsMid e c c) by rw[chsMid_start]; exact ho)
     have HB:=hdd hb;have he0:(0:Int)≤(e:Int):=by omega
     have he1:(e:Int)<(d:Int):=by omega
     clear ho hb;go_wp2;go_loopw [8] (fun i wi=>∃ k:Nat,k≤c∧i=.int .i64 k∧OwnI w.heap.size wi (.slice (some ⟨g,0,none⟩) (c+1) (c+1)) (chsMid e c k)∧Below w.heap.size w wi) (fun i _=>(intOf i).toNat)
     case atStart=>exact ⟨c,Nat.le_refl _,rfl,HO.out,HB.out⟩
     case round=>
      obtain ⟨q,hq,rfl,ho,hb⟩:=hrel;obtain ⟨wq,rfl⟩:∃ x,x=wr:=⟨_,rfl⟩
      clear HO HB
      rcases q with _ | j
      ·have HN:=hdd (show OwnI w.heap.size wq (.slice (some ⟨g,0,none⟩) (c+1) (c+1)) (chsRow (e+1) c) by rw[←chsMid_end]; exact ho)
       have HBN:=hdd hb;clear ho hb;go_wp2;go_roundw
       case rel=>exact ⟨e+1,by omega,by go_num,HN.out,HBN.out⟩
       case measure=>simp[intOf]; omega
      ·obtain ⟨c1,f1⟩:=own_cell ho (j+1) (by rw[chsMid_len]; omega)
       obtain ⟨c0,f0⟩:=own_cell ho j (by rw[chsMid_len]; omega);rw[chsMid_get (by omega),if_neg (by omega)] at c1 c0;have HN:=hdd (show OwnI w.heap.size (wq.setCell ⟨g,j+1,none⟩ (.int .i64 (chs e (j+1)+chs e j))) (.slice (some ⟨g,0,none⟩) (c+1) (c+1)) (chsMid e c j) by
        have:=ho.set (j+1) (chs e (j+1)+chs e j);rw[chsMid_next (by omega)] at this;exact this)
       have HBN:=hdd (hb.setCell (p:=⟨g,j+1,none⟩) hgw (.int .i64 (chs e (j+1)+chs e j)));have s1:=chs_small e (j+1) (by omega);have s0:=chs_small e j (by omega);obtain ⟨x,hx⟩:∃ x,x=chs e (j+1):=⟨_,rfl⟩
       obtain ⟨y,hy⟩:∃ y,y=chs e j:=⟨_,rfl⟩
       rw[←hx] at c1 s1 HN HBN;rw[←hy] at c0 s0 HN HBN;have hj0:(0:Int)≤(j:Int):=by omega
       have hj1:(j:Int)<(c:Int):=by omega
       have hj2:(j:Int)<(c:Int)+1:=by omega
       have hj3:(j:Int)+1<(c:Int)+1:=by omega
       have hj4:(0:Int)<(j:Int)+1:=by omega
       have hj5:(0:Int)≤(j:Int)+1:=by omega
       clear ho hb hx hy
       --@Z
       go_wp2;go_region;go_wp2;go_roundw
       case rel=>exact ⟨j,by omega,by go_num,HN.out,HBN.out.drew⟩
       case measure=>first | (simp[intOf]; done) | (simp[intOf]; omega)
    ·have hed:e=d:=by omega
     have HB:=hdd hb;obtain ⟨c1,f1⟩:=own_cell ho c (by rw[chsRow_len]; omega);rw[chsRow_get (by omega),hed,←HR.out] at c1;have he1:¬((e:Int)<(d:Int)):=by omega
     have hc0:(0:Int)≤(c:Int):=by omega
     have hc1:(c:Int)<(c:Int)+1:=by omega
     clear ho hb hed;go_wp2;go_ret;exact ⟨rfl,HB.out⟩
set_option maxHeartbeats 4000000 in
theorem dropsI_any (f c:Int) (w:World):
  Calls Tryz.prog 165 #[.int .i64 f,.int .i64 c] w fun e w'=>e=.returned (.int .i64 (dropsB f c))∧Below w.heap.size w w':=by
 have hI1:=in_any f 0 9999 w;have hI2:=in_any c 0 8 w;have HQ:=hdd (show dropsB f c=if (0≤f∧f≤9999)∧(0≤c∧c≤8) then dropsA f c.toNat 15 0 else -1 from rfl);obtain ⟨r,hr⟩:∃ r,r=dropsB f c:=⟨_,rfl⟩
 rw[←hr] at HQ ⊢;clear hr
 by_cases hf:0≤f∧f≤9999
 ·rw[show inB f 0 9999=true by simp[inB,hf]] at hI1
  by_cases hc:0≤c∧c≤8
  ·rw[show inB c 0 8=true by simp[inB,hc]] at hI2
   obtain ⟨n,rfl⟩:∃ n:Nat,c=n:=⟨c.toNat,by omega⟩
   have HR:=hdd (show r=dropsA f n 15 0 by rw[HQ.out,if_pos ⟨hf,hc⟩]; rfl);have hn8:n≤8:=by omega
   clear HQ hf hc;go_enter Tryz.func165,Tryz.ntmps165;go_wp2_with fail;refine hI1.mono ?_;rintro e w1 ⟨rfl,rfl⟩;clear hI1;go_wp2_with fail;refine hI2.mono ?_;rintro e w1 ⟨rfl,rfl⟩;clear hI2;go_wp2;go_loopw [14] (fun i wr=>∃ d:Nat,d≤15∧i=.int .i64 d∧r=dropsA f n (15-d) d∧Below w.heap.size w wr) (fun i _=>15-(intOf i).toNat)
   case atStart=>exact ⟨0,by omega,rfl,HR.out,Below.refl _ _⟩
   case round=>
    obtain ⟨d,hd,rfl,he,hb⟩:=hrel;obtain ⟨wd,rfl⟩:∃ x,x=wr:=⟨_,rfl⟩
    have HE:=hdd he;have HB:=hdd hb;clear he hb HR
    by_cases hlt:d<15
    ·have hA:=apartI_any n d wd hn8 (by omega)
     have hd2:(d:Int)<15:=by omega
     have hd0:(0:Int)≤(d:Int):=by omega
     obtain ⟨x,hx⟩:∃ x,x=chs d n:=⟨_,rfl⟩
     have HE2:=hdd (show r=if f<x then (d:Int) else dropsA f n (15-(d+1)) (d+1) by
      rw[HE.out,show 15-d=(15-(d+1))+1 by omega,hx]; rfl)
     rw[←hx] at hA;clear HE hx;go_wp2_with fail;refine hA.mono ?_;rintro e w2 ⟨rfl,hb2⟩;have HB2:=hdd (HB.out.trans (hb2.mono HB.out.size));clear hA hb2
     by_cases hlt2:f<x
     ·have HN:=hdd (show r=(d:Int) by rw[HE2.out,if_pos hlt2])
      clear HE2;go_wp2;go_ret;exact ⟨by rw[HN.out]; rfl,HB2.out⟩
     ·have HN:=hdd (show r=dropsA f n (15-(d+1)) (d+1) by rw[HE2.out,if_neg hlt2])
      clear HE2;go_wp2;go_roundw
      case rel=>exact ⟨d+1,by omega,by go_num,HN.out,HB2.out⟩
      case measure=>simp[intOf]; omega
    ·have HN:=hdd (show r=-1 by rw[HE.out,show 15-d=0 by omega]; rfl)
     have hd2:¬((d:Int)<15):=by omega
     clear HE;go_wp2;go_ret;exact ⟨by rw[HN.out]; rfl,HB.out⟩
  ·rw[show inB c 0 8=false from by simp only[inB,decide_eq_false_iff_not]; exact hc] at hI2
   have HN:=hdd (show r=-1 by rw[HQ.out,if_neg (fun q=>hc q.2)]);clear HQ hf hc;go_enter Tryz.func165,Tryz.ntmps165;go_wp2_with fail;refine hI1.mono ?_;rintro e w1 ⟨rfl,rfl⟩;clear hI1;go_wp2_with fail;refine hI2.mono ?_;rintro e w1 ⟨rfl,rfl⟩;clear hI2;go_wp2;go_ret;exact ⟨by rw[HN.out]; rfl,Below.refl _ _⟩
 ·rw[show inB f 0 9999=false from by simp only[inB,decide_eq_false_iff_not]; exact hf] at hI1
  have HN:=hdd (show r=-1 by rw[HQ.out,if_neg (fun q=>hf q.1)]);clear HQ hf hI2;go_enter Tryz.func165,Tryz.ntmps165;go_wp2_with fail;refine hI1.mono ?_;rintro e w1 ⟨rfl,rfl⟩;clear hI1;go_wp2;go_ret;exact ⟨by rw[HN.out]; rfl,Below.refl _ _⟩
set_option maxHeartbeats 4000000 in
theorem dropsS_any (f c:Int) (w:World):
  Calls Tryz.prog 105 #[.int .i64 f,.int .i64 c] w fun e w'=>e=.returned (.int .i64 (dropsB f c))∧Below w.heap.size w w':=by
 have hI1:=l1In_any f 0 9999 w;have hI2:=l1In_any c 0 8 w;have HQ:=hdd (show dropsB f c=if (0≤f∧f≤9999)∧(0≤c∧c≤8) then dropsA f c.toNat 15 0 else -1 from rfl);obtain ⟨r,hr⟩:∃ r,r=dropsB f c:=⟨_,rfl⟩
 rw[←hr] at HQ ⊢;clear hr
 by_cases hf:0≤f∧f≤9999
 ·rw[show inB f 0 9999=true by simp[inB,hf]] at hI1
  by_cases hc:0≤c∧c≤8
  ·rw[show inB c 0 8=true by simp[inB,hc]] at hI2
   obtain ⟨n,rfl⟩:∃ n:Nat,c=n:=⟨c.toNat,by omega⟩
   have HR:=hdd (show r=dropsA f n 15 0 by rw[HQ.out,if_pos ⟨hf,hc⟩]; rfl);have hn8:n≤8:=by omega
   clear HQ hf hc;go_enter Tryz.func105,Tryz.ntmps105;go_wp2_with fail;refine hI1.mono ?_;rintro e w1 ⟨rfl,rfl⟩;clear hI1;go_wp2_with fail;refine hI2.mono ?_;rintro e w1 ⟨rfl,rfl⟩;clear hI2;go_wp2;go_loopw [5] (fun i wr=>∃ d:Nat,d≤15∧i=.int .i64 d∧r=dropsA f n (15-d) d∧Below w.heap.size w wr) (fun i _=>15-(intOf i).toNat)
   case atStart=>exact ⟨0,by omega,rfl,HR.out,Below.refl _ _⟩
   case round=>
    obtain ⟨d,hd,rfl,he,hb⟩:=hrel;obtain ⟨wd,rfl⟩:∃ x,x=wr:=⟨_,rfl⟩
    have HE:=hdd he;have HB:=hdd hb;clear he hb HR
    by_cases hlt:d<15
    ·have hA:=toldS_any n d wd hn8 (by omega)
     have hd2:(d:Int)≤14:=by omega
     have hd0:(0:Int)≤(d:Int):=by omega
     obtain ⟨x,hx⟩:∃ x,x=chs d n:=⟨_,rfl⟩
     have HE2:=hdd (show r=if f<x then (d:Int) else dropsA f n (15-(d+1)) (d+1) by
      rw[HE.out,show 15-d=(15-(d+1))+1 by omega,hx]; rfl)
     rw[←hx] at hA;clear HE hx;go_wp2_with fail;refine hA.mono ?_;rintro e w2 ⟨rfl,hb2⟩;have HB2:=hdd (HB.out.trans (hb2.mono HB.out.size));clear hA hb2
     by_cases hlt2:f<x
     ·have HN:=hdd (show r=(d:Int) by rw[HE2.out,if_pos hlt2])
      clear HE2;go_wp2;go_ret;exact ⟨by rw[HN.out]; rfl,HB2.out⟩
     ·have HN:=hdd (show r=dropsA f n (15-(d+1)) (d+1) by rw[HE2.out,if_neg hlt2])
      clear HE2;go_wp2;go_roundw
      case rel=>exact ⟨d+1,by omega,by go_num,HN.out,HB2.out⟩
      case measure=>simp[intOf]; omega
    ·have HN:=hdd (show r=-1 by rw[HE.out,show 15-d=0 by omega]; rfl)
     have hd2:¬((d:Int)≤14):=by omega
     clear HE;go_wp2;go_ret;exact ⟨by rw[HN.out]; rfl,HB.out⟩
  ·rw[show inB c 0 8=false from by simp only[inB,decide_eq_false_iff_not]; exact hc] at hI2
   have HN:=hdd (show r=-1 by rw[HQ.out,if_neg (fun q=>hc q.2)]);clear HQ hf hc;go_enter Tryz.func105,Tryz.ntmps105;go_wp2_with fail;refine hI1.mono ?_;rintro e w1 ⟨rfl,rfl⟩;clear hI1;go_wp2_with fail;refine hI2.mono ?_;rintro e w1 ⟨rfl,rfl⟩;clear hI2;go_wp2;go_ret;exact ⟨by rw[HN.out]; rfl,Below.refl _ _⟩
 ·rw[show inB f 0 9999=false from by simp only[inB,decide_eq_false_iff_not]; exact hf] at hI1
  have HN:=hdd (show r=-1 by rw[HQ.out,if_neg (fun q=>hf q.1)]);clear HQ hf hI2;go_enter Tryz.func105,Tryz.ntmps105;go_wp2_with fail;refine hI1.mono ?_;rintro e w1 ⟨rfl,rfl⟩;clear hI1;go_wp2;go_ret;exact ⟨by rw[HN.out]; rfl,Below.refl _ _⟩
end
section
open Go.RowKit
theorem adj01 (n:Nat) (ring:Bool) (i k:Nat):adjI n ring i k=0∨adjI n ring i k=1:=by unfold adjI; split <;> simp
theorem lineR_in64 (n:Nat) (ring:Bool):∀ xs∈lineR n ring,∀ x∈xs,In64 x:=by
 intro xs h x hx;simp only[lineR,List.mem_map] at h;obtain ⟨i,_,rfl⟩:=h;simp only[rowR,List.mem_map] at hx;obtain ⟨k,_,rfl⟩:=hx;unfold In64
 rcases adj01 n ring i k with h | h <;> omega
theorem inRowR_in64 (b:Int):∀ xs∈inRowR b,∀ x∈xs,In64 x:=by
 unfold inRowR; split
 ·exact lineR_in64 _ _
 ·simp
end
end Go.Proofs.YtenlngclocfnlaaGreatDoor
