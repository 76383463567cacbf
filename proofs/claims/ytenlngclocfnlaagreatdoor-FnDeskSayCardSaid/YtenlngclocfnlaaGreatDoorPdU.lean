/- Texts of this claim, put together: HuntMore, Hats, LieI, Hats2, LieS, LieS2, LieS3, LieS4. -/
import Derived.Test.YtenlngclocfnlaaGreatDoorPdE
import Derived.Test.YtenlngclocfnlaaGreatDoorPdA
import Derived.Test.YtenlngclocfnlaaGreatDoorPdX
import Derived.Test.YtenlngclocfnlaaGreatDoorPdO
import Derived.BigQuiet
import Derived.Test.YtenlngclocfnlaaGreatDoorPdGD
namespace Go.Proofs.YtenlngclocfnlaaGreatDoor
set_option linter.unusedVariables false
section
open Go.RowKit
theorem toI_getD {w:List Nat} {k:Nat} (hk:k<w.length):(toI w).getD k 0=((w[k]:Nat):Int):=by
 unfold toI;rw[getD_get (by simpa using hk)];simp
theorem left_run (xss:List (List Int)) (w:List Nat):∀ k,k≤w.length→leftN xss (toI w) k=run0 xss (w.take k):=by
 intro k
 induction k with
 | zero=>intro _; rfl
 | succ k ih=>
  intro hk;rw[leftN,ih (by omega),toI_getD (by omega),List.take_succ_eq_append_getElem (by omega),run0_snoc]
def nextH (xss:List (List Int)) (l:List Nat):List Nat:=(l.flatMap fun s=>(List.range xss.length).map fun k=>afterN xss s ((k:Nat):Int)).eraseDups
def levelL (xss:List (List Int)):Nat→List Nat
 | 0=>[2^xss.length-1]
 | d+1=>nextH xss (levelL xss d)
theorem next_mem {xss:List (List Int)} {l:List Nat} {s k:Nat} (hs:s∈l) (hk:k<xss.length):afterN xss s (k:Int)∈nextH xss l:=by
 unfold nextH;rw[List.mem_eraseDups,List.mem_flatMap];exact ⟨s,hs,List.mem_map.2 ⟨k,List.mem_range.2 hk,rfl⟩⟩
theorem level_mem {xss:List (List Int)} {w:List Nat} (hg:good xss.length w):∀ t,t≤w.length→run0 xss (w.take t)∈levelL xss t:=by
 intro t
 induction t with
 | zero=>intro _; simp[levelL,run0,runF]
 | succ t ih=>
  intro ht;rw[List.take_succ_eq_append_getElem (by omega),run0_snoc,levelL];exact next_mem (ih (by omega)) (hg _ (List.getElem_mem _))
theorem hunt_days {xss:List (List Int)} {d:Nat} (hb:besideB xss=true) (hd:d≤16) {u:List Nat} (hu:good xss.length u) (hul:u.length=d) (hr:run0 xss u=0) (hno:∀ t,t<d→0∉levelL xss t) {l:List Int} {ok:Bool} (h:HuntIs xss l ok):
  ok=true∧l.length=d:=by
 have hn:=(besideB_spec hb).1
 rcases h with ⟨_,rfl,w,⟨h1,h2,h3,h4⟩,rfl⟩ | ⟨_,_,h9⟩
 ·refine ⟨rfl,?_⟩
  rw[show (toI w).length=w.length by simp[toI]];have h5:=level_mem h1 w.length (Nat.le_refl _);rw[List.take_length,h2] at h5;have h6:¬w.length<d:=fun hh=>hno _ hh h5
  have h7:=h4 u hu hr (by omega);have h8:¬u.length<w.length:=fun hh=>by
   have:=enc_len (show xss.length≤8 by omega) hu h1 hh;omega
  omega
 ·rcases h9 with h9 | h9
  ·rw[hb] at h9; cases h9
  ·exact absurd hr (h9 u hu (by omega))
def daysOfRow (n:Nat):Nat:=[0,1,2,2,4,6,8].getD n 0
def huntOfRow (n:Nat):List Nat:=[[],[0],[0,0],[1,1],[1,2,2,1],[1,2,3,3,2,1],[1,2,3,4,4,3,2,1]].getD n []
set_option maxRecDepth 100000 in
theorem row_hunt {n:Nat} (h1:1≤n) (h6:n≤6) {l:List Int} {ok:Bool} (h:HuntIs (lineR n false) l ok):ok=true∧l.length=daysOfRow n:=by
 have hb:besideB (lineR n false)=true:=by
  have:n=1∨n=2∨n=3∨n=4∨n=5∨n=6:=by omega
  rcases this with rfl | rfl | rfl | rfl | rfl | rfl <;> decide +kernel
 have:n=1∨n=2∨n=3∨n=4∨n=5∨n=6:=by omega
 rcases this with rfl | rfl | rfl | rfl | rfl | rfl
 ·exact hunt_days hb (by decide) (u:=huntOfRow 1) (by unfold good; decide +kernel) (by decide) (by decide +kernel) (by decide +kernel) h
 ·exact hunt_days hb (by decide) (u:=huntOfRow 2) (by unfold good; decide +kernel) (by decide) (by decide +kernel) (by decide +kernel) h
 ·exact hunt_days hb (by decide) (u:=huntOfRow 3) (by unfold good; decide +kernel) (by decide) (by decide +kernel) (by decide +kernel) h
 ·exact hunt_days hb (by decide) (u:=huntOfRow 4) (by unfold good; decide +kernel) (by decide) (by decide +kernel) (by decide +kernel) h
 ·exact hunt_days hb (by decide) (u:=huntOfRow 5) (by unfold good; decide +kernel) (by decide) (by decide +kernel) (by decide +kernel) h
 ·exact hunt_days hb (by decide) (u:=huntOfRow 6) (by unfold good; decide +kernel) (by decide) (by decide +kernel) (by decide +kernel) h
end
section
open Go.RowKit
set_option maxRecDepth 100000
theorem totL_app:∀ (a b:List Int),totL (a++b)=totL a+totL b
 | [],b=>by simp[totL]
 | x::a,b=>by simp only[List.cons_append,totL,totL_app a b]; omega
theorem sum64_tot {xs:List Int} (hl:xs.length≤1000) (h:∀ y∈xs,0≤y∧y≤1000):sum64 xs=totL xs:=by
 have key:∀ (xs:List Int) (a:Int),(∀ y∈xs,0≤y∧y≤1000)→0≤a→a+1000*xs.length≤1000000000→xs.foldl (fun a x=>wrap64 (a+x)) a=a+totL xs:=by
  intro xs
  induction xs with
  | nil=>intro a _ _ _; simp[totL]
  | cons x xs ih=>
   intro a h h0 h1;have hx:=h x (by simp);simp only[List.length_cons] at h1;have hw:wrap64 (a+x)=a+x:=by unfold wrap64; omega
   rw[List.foldl_cons,hw,ih _ (fun y hy=>h y (by simp[hy])) (by omega) (by omega)];simp only[totL]; omega
 have:=key xs 0 h (by omega) (by omega);unfold sum64;rw[this]; omega
theorem hatsOkB_eq (n:Int) (hs:List Int):hatsOkB n hs=(inB n 1 5&&inB (hs.length:Int) 1 5&&allB hs 0 (n-1)):=by
 rw[Bool.eq_iff_iff,hatsOkB_iff];unfold allB;simp only[Bool.and_eq_true,List.all_eq_true,inB,decide_eq_true_eq]
 constructor
 ·rintro ⟨h1,h2,h3⟩; exact ⟨⟨h1,by omega⟩,h3⟩
 ·rintro ⟨⟨h1,h2⟩,h3⟩; exact ⟨h1,by omega,h3⟩
theorem inB_no {n lo hi:Int} (h:¬(lo≤n∧n≤hi)):inB n lo hi=false:=by simp only[inB,decide_eq_false_iff_not]; exact h
theorem inB_yes {n lo hi:Int} (h:lo≤n∧n≤hi):inB n lo hi=true:=by simp only[inB,decide_eq_true_eq]; exact h
theorem hatsOkI_any {B:Nat} (n:Int) (v:Value) (hs:List Int) (w:World) (h:Ints B w v hs) (hn:-1≤n∧n≤1000):
  Calls Tryz.prog 197 #[.int .i64 n,v] w fun e w'=>e=.returned (.bool (hatsOkB n hs))∧Below w.heap.size w w':=by
 obtain ⟨a,cap,rfl,_⟩:=id h.opened;have hI1:=in_any n 1 5 w;have hI2:=in_any (hs.length:Int) 1 5 w;have hA:=allIn_any _ hs 0 (n-1) w h;have HE:=hdd (hatsOkB_eq n hs);obtain ⟨r,hr⟩:∃ r,r=hatsOkB n hs:=⟨_,rfl⟩
 rw[←hr] at HE ⊢;clear hr h
 by_cases h1:1≤n∧n≤5
 ·rw[inB_yes h1] at hI1 HE
  by_cases h2:1≤(hs.length:Int)∧(hs.length:Int)≤5
  ·rw[inB_yes h2] at hI2 HE
   obtain ⟨t,ht⟩:∃ t,t=allB hs 0 (n-1):=⟨_,rfl⟩
   rw[←ht] at hA HE;have h3:=h1.1;have h4:=h1.2;clear h1 h2 ht;go_enter Tryz.func197,Tryz.ntmps197;go_wp2_with fail;refine hI1.mono ?_;rintro e w1 ⟨rfl,rfl⟩;go_wp2_with fail;refine hI2.mono ?_;rintro e w1 ⟨rfl,rfl⟩;go_wp2_with fail;refine hA.mono ?_;rintro e w2 ⟨rfl,hb2⟩;have HB:=hdd hb2;clear hb2;go_wp2;go_ret;exact ⟨ret_bool (by rw[HE.out]; rfl),HB.out⟩
  ·rw[inB_no h2] at hI2 HE
   clear h1 h2 hA;go_enter Tryz.func197,Tryz.ntmps197;go_wp2_with fail;refine hI1.mono ?_;rintro e w1 ⟨rfl,rfl⟩;go_wp2_with fail;refine hI2.mono ?_;rintro e w1 ⟨rfl,rfl⟩;go_wp2;go_ret;exact ⟨ret_bool (by rw[HE.out]; rfl),Below.refl _ _⟩
 ·rw[inB_no h1] at hI1 HE
  clear h1 hI2 hA;go_enter Tryz.func197,Tryz.ntmps197;go_wp2_with fail;refine hI1.mono ?_;rintro e w1 ⟨rfl,rfl⟩;go_wp2;go_ret;exact ⟨ret_bool (by rw[HE.out]; rfl),Below.refl _ _⟩
theorem hatsOkS_any {B:Nat} (n:Int) (v:Value) (hs:List Int) (w:World) (h:Ints B w v hs) (hn:-1≤n∧n≤1000):
  Calls Tryz.prog 137 #[.int .i64 n,v] w fun e w'=>e=.returned (.bool (hatsOkB n hs))∧w=w':=by
 obtain ⟨a,cap,rfl,hcap,hmax,hcells⟩:=h.opened;have hI1:=l1In_any n 1 5 w;have hI2:=l1In_any (hs.length:Int) 1 5 w;have HE:=hdd (hatsOkB_eq n hs);have HCE:=hdd hcells;have HNO:=hdd (show ∀ k (hk:k<hs.length),inB hs[k] 0 (n-1)=false→hatsOkB n hs=false from fun k hk q=>by
  rw[hatsOkB_eq];have:allB hs 0 (n-1)=false:=by
   rw[Bool.eq_false_iff];intro q2;have:=List.all_eq_true.1 (show (hs.all fun x=>inB x 0 (n-1))=true from q2) _ (List.getElem_mem hk);rw[q] at this; cases this
  rw[this,Bool.and_false])
 have HYES:=hdd (show (∀ k (hk:k<hs.length),inB hs[k] 0 (n-1)=true)→allB hs 0 (n-1)=true from fun q=>List.all_eq_true.2 fun x hx=>by
  obtain ⟨k,hk,rfl⟩:=List.getElem_of_mem hx;exact q k hk)
 obtain ⟨r,hr⟩:∃ r,r=hatsOkB n hs:=⟨_,rfl⟩
 rw[←hr] at HE HNO ⊢;obtain ⟨t,ht⟩:∃ t,t=allB hs 0 (n-1):=⟨_,rfl⟩
 rw[←ht] at HE HYES;have HI1:=hdd hI1;have HI2:=hdd hI2;have hn0:=hn.1;have hn1:=hn.2;clear hr ht h hcells hI1 hI2 hn;go_enter Tryz.func137,Tryz.ntmps137;go_wp2;go_loop [5] (fun i=>∃ k:Nat,k≤hs.length∧i=.int .i64 k∧∀ j (hj:j<hs.length),j<k→inB hs[j] 0 (n-1)=true) (fun i=>hs.length-(intOf i).toNat)
 case atStart=>exact ⟨0,Nat.zero_le _,rfl,fun j _ q=>absurd q (by omega)⟩
 case round=>
  obtain ⟨k,hk,rfl,hall⟩:=hrel;have HALL:=hdd hall;clear hall
  by_cases hlt:k<hs.length
  ·obtain ⟨b,off,rfl,_,hc⟩:=HCE.out (by omega)
   have hck:=hc k hlt;have hi0:(0:Int)≤(k:Int):=by omega
   have hi1:(k:Int)<(hs.length:Int):=by omega
   have hL:=l1In_any hs[k] 0 (n-1) w;have HN:=hdd (HNO.out k hlt);have HSTEP:=hdd (show inB hs[k] 0 (n-1)=true→∀ j (hj:j<hs.length),j<k+1→inB hs[j] 0 (n-1)=true from fun q j hj q2=>by
    by_cases e:j=k
    ·subst e; exact q
    ·exact HALL.out j hj (by omega))
   obtain ⟨x,hx⟩:∃ x,x=hs[k]:=⟨_,rfl⟩
   rw[←hx] at hck hL HN HSTEP;obtain ⟨q,hq⟩:∃ q,q=inB x 0 (n-1):=⟨_,rfl⟩
   rw[←hq] at hL HN HSTEP;clear hc hx hq
   cases q
   ·have HR:=hdd (HN.out rfl)
    go_wp2_with fail;refine hL.mono ?_;rintro e w2 ⟨rfl,rfl⟩;go_wp2;go_ret;exact ⟨ret_bool (by rw[HR.out]),rfl⟩
   ·have HS2:=hdd (HSTEP.out rfl)
    go_wp2_with fail;refine hL.mono ?_;rintro e w2 ⟨rfl,rfl⟩;go_wp2;go_round
    case rel=>exact ⟨k+1,by omega,by go_num,HS2.out⟩
    case measure=>simp[intOf]; omega
  ·have HT:=hdd (HYES.out (fun j hj=>HALL.out j hj (by omega)))
   have hk1:¬((k:Int)<(hs.length:Int)):=by omega
   by_cases h1:1≤n∧n≤5
   ·have hI1:=HI1.out
    rw[inB_yes h1] at hI1
    by_cases h2:1≤(hs.length:Int)∧(hs.length:Int)≤5
    ·have hI2:=HI2.out
     rw[inB_yes h2] at hI2;have HR:=hdd (show r=true by rw[HE.out,HT.out,inB_yes h1,inB_yes h2]; rfl);clear h1 h2;go_wp2_with fail;refine hI1.mono ?_;rintro e w2 ⟨rfl,rfl⟩;go_wp2_with fail;refine hI2.mono ?_;rintro e w2 ⟨rfl,rfl⟩;go_wp2;go_ret;exact ⟨ret_bool (by rw[HR.out]),rfl⟩
    ·have hI2:=HI2.out
     rw[inB_no h2] at hI2;have HR:=hdd (show r=false by rw[HE.out,inB_no h2,Bool.and_false,Bool.false_and]);clear h1 h2;go_wp2_with fail;refine hI1.mono ?_;rintro e w2 ⟨rfl,rfl⟩;go_wp2_with fail;refine hI2.mono ?_;rintro e w2 ⟨rfl,rfl⟩;go_wp2;go_ret;exact ⟨ret_bool (by rw[HR.out]),rfl⟩
   ·have hI1:=HI1.out
    rw[inB_no h1] at hI1;have HR:=hdd (show r=false by rw[HE.out,inB_no h1]; rfl);clear h1;go_wp2_with fail;refine hI1.mono ?_;rintro e w2 ⟨rfl,rfl⟩;go_wp2;go_ret;exact ⟨ret_bool (by rw[HR.out]),rfl⟩
def mixL (f g:Nat→Int) (n k:Nat):List Int:=(List.range n).map fun j=>if j<k then f j else g j
theorem mixL_len (f g:Nat→Int) (n k:Nat):(mixL f g n k).length=n:=by simp[mixL]
theorem mixL_get (f g:Nat→Int) {n k j:Nat} (h:j<n):(mixL f g n k)[j]'(by rw[mixL_len]; exact h)=if j<k then f j else g j:=by simp[mixL]
theorem mixL_set (f g:Nat→Int) {n k:Nat} (h:k<n):(mixL f g n k).set k (f k)=mixL f g n (k+1):=by
 refine List.ext_getElem (by simp[mixL_len]) fun j h1 h2=>?_
 rw[mixL_len] at h2;rw[List.getElem_set]
 split
 ·rename_i e; subst e; rw[mixL_get f g h2,if_pos (by omega)]
 ·rename_i e
  rw[mixL_get f g h2,mixL_get f g h2]
  by_cases hj:j<k
  ·rw[if_pos hj,if_pos (by omega)]
  ·rw[if_neg hj,if_neg (by omega)]
theorem mixL_eq (f g:Nat→Int) {n k:Nat} (xs:List Int) (hl:xs.length=n) (h:∀ j (hj:j<xs.length),xs[j]=if j<k then f j else g j):mixL f g n k=xs:=by
 refine List.ext_getElem (by rw[mixL_len,hl]) fun j h1 h2=>?_
 rw[mixL_get f g (by omega),h j h2]
theorem oth_get:∀ {row x:List Int},askOk row x→∀ j (hj:j<(othL row x).length),(othL row x)[j]=row.getD j 0-x.getD j 0
 | [],[],_,j,hj=>by simp[othL] at hj
 | a::r,y::q,h,0,hj=>by simp[othL]
 | a::r,y::q,h,j+1,hj=>by
  have:=oth_get h.2.2 j (by simpa [othL] using hj)
  simpa [othL] using this
theorem conf_get:∀ {row x:List Int},askOk row x→∀ j (hj:j<(confL row x).length),(confL row x)[j]=if j<row.length-1 then x.getD j 0+(row.getD (j+1) 0-x.getD (j+1) 0) else x.getD j 0
 | [],[],_,j,hj=>by simp[confL] at hj
 | [a],[y],_,j,hj=>by
  have:j=0:=by simp[confL] at hj; omega
  subst this; simp[confL]
 | [a],y::z::q,h,j,hj=>by simp[askOk] at h
 | a::b::r,[y],h,j,hj=>by simp[askOk] at h
 | a::b::r,y::z::q,h,0,hj=>by simp[confL]
 | a::b::r,y::z::q,h,j+1,hj=>by
  have:=conf_get (row:=b::r) (x:=z::q) h.2.2 j (by simpa [confL] using hj);simp only[confL,List.getElem_cons_succ,this,List.length_cons,List.getD_cons_succ]
  by_cases hj2:j<r.length+1-1
  ·rw[if_pos hj2,if_pos (by omega)]
  ·rw[if_neg hj2,if_neg (by omega)]
theorem getD_is {xs:List Int} {j:Nat} (h:j<xs.length):xs.getD j 0=xs[j]:=by simp[List.getD,List.getElem?_eq_getElem h]
theorem knownB_eq (row:List Int):knownB row=(inB (row.length:Int) 1 3&&allB row 0 10&&decide (totL row≤10)):=by
 rw[Bool.eq_iff_iff,knownB_iff];unfold allB;simp only[Bool.and_eq_true,List.all_eq_true,inB,decide_eq_true_eq]
 constructor
 ·rintro ⟨h1,h2,h3,h4⟩; exact ⟨⟨by omega,h3⟩,h4⟩
 ·rintro ⟨⟨h1,h3⟩,h4⟩; exact ⟨by omega,by omega,h3,h4⟩
theorem allB_mem {row:List Int} {lo hi:Int} (h:allB row lo hi=true):∀ y∈row,lo≤y∧y≤hi:=fun y hy=>by
 have:=List.all_eq_true.1 (show (row.all fun x=>inB x lo hi)=true from h) y hy
 simpa [inB] using this
theorem knownI_any {B:Nat} (v:Value) (row:List Int) (w:World) (h:Ints B w v row):
  Calls Tryz.prog 217 #[v] w fun e w'=>e=.returned (.bool (knownB row))∧Below w.heap.size w w':=by
 obtain ⟨a,cap,rfl,_⟩:=id h.opened;have hI:=in_any (row.length:Int) 1 3 w;have hA:=allIn_any _ row 0 10 w h;have HE:=hdd (knownB_eq row);have HX:=hdd h;obtain ⟨r,hr⟩:∃ r,r=knownB row:=⟨_,rfl⟩
 rw[←hr] at HE ⊢;clear hr h
 by_cases h1:1≤(row.length:Int)∧(row.length:Int)≤3
 ·rw[inB_yes h1] at hI HE
  have HM:=hdd (show allB row 0 10=true→sum64 row=totL row from fun q=>sum64_tot (by omega) (fun y hy=>by have:=allB_mem q y hy; omega));obtain ⟨t,ht⟩:∃ t,t=allB row 0 10:=⟨_,rfl⟩
  rw[←ht] at hA HE HM;clear h1 ht
  cases t
  ·go_enter Tryz.func217,Tryz.ntmps217
   go_wp2_with fail;refine hI.mono ?_;rintro e w1 ⟨rfl,rfl⟩;go_wp2_with fail;refine hA.mono ?_;rintro e w2 ⟨rfl,hb2⟩;have HB:=hdd hb2;clear hb2;go_wp2;go_ret;exact ⟨ret_bool (by rw[HE.out]; rfl),HB.out⟩
  ·have HS:=hdd (HM.out rfl)
   obtain ⟨T,hT⟩:∃ T,T=totL row:=⟨_,rfl⟩
   rw[←hT] at HE HS;clear HM hT;go_enter Tryz.func217,Tryz.ntmps217;go_wp2_with fail;refine hI.mono ?_;rintro e w1 ⟨rfl,rfl⟩;go_wp2_with fail;refine hA.mono ?_;rintro e w2 ⟨rfl,hb2⟩;have hTot:=total_any _ row w2 (HX.out.below hb2);rw[HS.out] at hTot;have HB:=hdd hb2;clear hb2;go_wp2_with fail;refine hTot.mono ?_;rintro e w3 ⟨rfl,rfl⟩;go_wp2;go_ret;exact ⟨ret_bool (by rw[HE.out]; rfl),HB.out⟩
 ·rw[inB_no h1] at hI HE
  clear h1 hA;go_enter Tryz.func217,Tryz.ntmps217;go_wp2_with fail;refine hI.mono ?_;rintro e w1 ⟨rfl,rfl⟩;go_wp2;go_ret;exact ⟨ret_bool (by rw[HE.out]; rfl),Below.refl _ _⟩
def smallR (row:List Int):Prop:=(1≤row.length∧row.length≤3)∧∀ y∈row,0≤y∧y≤10
theorem known_small {row:List Int} (h:knownB row=true):smallR row:=by
 obtain ⟨h1,h2,h3,h4⟩:=knownB_iff.1 h;exact ⟨⟨h1,h2⟩,h3⟩
theorem ask_small {row x:List Int} (h:smallR row) (hok:askOk row x):smallR x:=by
 refine ⟨by rw[askOk_len hok]; exact h.1,?_⟩;have h2:=h.2;clear h
 induction row generalizing x with
 | nil=>cases x with
  | nil=>simp
  | cons y q=>simp[askOk] at hok
 | cons a r ih=>cases x with
  | nil=>simp[askOk] at hok
  | cons y q=>
   intro z hz
   rcases List.mem_cons.1 hz with rfl | hz
   ·have:=h2 a (by simp); have:=hok.1; have:=hok.2.1; omega
   ·exact ih hok.2.2 (fun y hy=>h2 y (by simp[hy])) z hz
set_option maxHeartbeats 4000000 in
theorem othI_any {B:Nat} (v u:Value) (row x:List Int) (w:World) (h:Ints B w v row) (hu:Ints B w u x) (hok:askOk row x) (hs:smallR row):
  Calls Tryz.prog 220 #[v,u] w (FreshI (othL row x) w):=by
 obtain ⟨a,cap,rfl,_⟩:=id h.opened;have hC:=cloneI_any _ row w h (by
  obtain ⟨a',c',he,_,_,hcc⟩:=h.opened;injection he with e1 e2 e3;obtain ⟨b,off,e4,_⟩:=hcc hs.1.1;exact .inr ⟨_,_,_,by rw[e1,e4]⟩) (by have:=hs.1.2; omega)
 obtain ⟨a2,cap2,rfl,_,_,hcells⟩:=hu.opened;have hxl:=askOk_len hok;have hrl:=hs.1.2;have HEND:=hdd (mixL_eq (fun j=>row.getD j 0-x.getD j 0) (fun j=>row.getD j 0) (n:=row.length) (k:=row.length) (othL row x) (oth_len hok) (fun j hj=>by rw[oth_get hok j hj,if_pos (by rw[oth_len hok] at hj; exact hj)]));have HST:=hdd (mixL_eq (fun j=>row.getD j 0-x.getD j 0) (fun j=>row.getD j 0) (n:=row.length) (k:=0) row rfl (fun j hj=>by rw[if_neg (by omega),getD_is hj]));have HCE:=hdd hcells;have HRM:=hdd hs.2;have HXM:=hdd (ask_small hs hok).2;have HLen:=hdd (oth_len hok);obtain ⟨R,hR⟩:∃ R,R=othL row x:=⟨_,rfl⟩
 rw[←hR] at HEND HLen ⊢;have HXL:=hdd hxl;clear h hu hok hs hR hcells hxl;unfold FreshI at hC ⊢;go_enter Tryz.func220,Tryz.ntmps220;go_wp2_with fail;refine hC.mono ?_;rintro e w1 ⟨ag,cg,rfl,ho1,hb1⟩;have HO1:=hdd ho1;have HB1:=hdd hb1;clear hC ho1 hb1;go_wp2;go_loopw [12] (fun i wi=>∃ k:Nat,k≤x.length∧i=.int .i64 k∧OwnI w.heap.size wi (.slice ag row.length cg) (mixL (fun j=>row.getD j 0-x.getD j 0) (fun j=>row.getD j 0) row.length k)∧Below w.heap.size w wi) (fun i _=>x.length-(intOf i).toNat)
 case atStart=>exact ⟨0,by omega,rfl,by rw[HST.out]; exact HO1.out,HB1.out⟩
 case round=>
  obtain ⟨k,hk,rfl,ho,hb⟩:=hrel;obtain ⟨wk,rfl⟩:∃ x,x=wr:=⟨_,rfl⟩
  have hXL:=HXL.out
  by_cases hlt:k<x.length
  ·obtain ⟨b,off,rfl,_,hc⟩:=HCE.out (by omega)
   have hck:=(Above.of_below (B:=0) hb).cell (Nat.zero_le _) (hc k hlt);obtain ⟨g,cap3,he3,hg,_⟩:=own_head ho (by rw[mixL_len]; omega);injection he3 with e1 e2 e3;clear e2;subst e1 e3;obtain ⟨hcu,hfu⟩:=own_cell ho k (by rw[mixL_len]; omega);rw[mixL_get _ _ (by omega),if_neg (by omega),getD_is (by omega)] at hcu;have hy:=HRM.out row[k] (List.getElem_mem (by omega));have hz:=HXM.out x[k] (List.getElem_mem hlt);have HN:=hdd (show OwnI w.heap.size (wk.setCell ⟨g,k,none⟩ (.int .i64 (row[k]-x[k]))) (.slice (some ⟨g,0,none⟩) row.length cg) (mixL (fun j=>row.getD j 0-x.getD j 0) (fun j=>row.getD j 0) row.length (k+1)) by
    have:=ho.set k (row[k]-x[k]);rw[←mixL_set _ _ (by omega)]
    simpa only[getD_is (show k<row.length by omega),getD_is hlt] using this)
   have HBN:=hdd (hb.setCell (p:=⟨g,k,none⟩) hg (.int .i64 (row[k]-x[k])));obtain ⟨y,hyy⟩:∃ y,y=row[k]:=⟨_,rfl⟩
   obtain ⟨z,hzz⟩:∃ z,z=x[k]:=⟨_,rfl⟩
   rw[←hyy] at hcu hy HN HBN;rw[←hzz] at hck hz HN HBN;obtain ⟨y0,y1⟩:=hy;obtain ⟨z0,z1⟩:=hz;have hk0:(0:Int)≤(k:Int):=by omega
   have hk1:(k:Int)<(x.length:Int):=by omega
   have hk2:(k:Int)<(row.length:Int):=by omega
   have hk5:(k:Int)≤5:=by omega
   clear ho hb hc hyy hzz HO1 HB1 hXL hrl;go_wp2;go_roundw
   case rel=>exact ⟨k+1,by omega,by go_num,HN.out,HBN.out⟩
   case measure=>simp[intOf]; omega
  ·have hkl:k=row.length:=by omega
   have HO:=hdd (show OwnI w.heap.size wk (.slice ag row.length cg) R by
    rw[←HEND.out]; rw[hkl] at ho; exact ho)
   have HB:=hdd hb;have hk1:¬((k:Int)<(x.length:Int)):=by omega
   clear ho hb hkl hXL;go_wp2;go_ret;exact ⟨ag,cg,by rw[HLen.out]; rfl,by rw[HLen.out]; exact HO.out,HB.out⟩
theorem nilOr_of {B:Nat} {w:World} {a:Option Addr} {n cap:Nat} {xs:List Int} (h:Ints B w (.slice a n cap) xs) (h1:1≤xs.length):(Value.slice a n cap)=.slice none 0 0∨∃ ad n' c,(Value.slice a n cap)=.slice (some ad) n' c:=by
 obtain ⟨a',c',he,_,_,hcc⟩:=h.opened;injection he with e1 e2 e3;obtain ⟨b,off,e4,_⟩:=hcc h1;exact .inr ⟨_,_,_,by rw[e1,e4]⟩
theorem OwnI.kept2 {B g:Nat} {w:World} {v u:Value} {xs:List Int} {j:Nat} (h:OwnI B w v xs) (hg:v.ownBlock≠some g):OwnI B (w.setCell ⟨g,j,none⟩ u) v xs:=
 World.ownsRow.kept h (grownBy_setCell w ⟨g,j,none⟩ u) (.inr hg)
set_option maxHeartbeats 4000000 in
theorem confI_any {B:Nat} (v u:Value) (row x:List Int) (w:World) (h:Ints B w v row) (hu:Ints B w u x) (hok:askOk row x) (hs:smallR row):
  Calls Tryz.prog 219 #[v,u] w (FreshI (confL row x) w):=by
 obtain ⟨a,cap,rfl,_⟩:=id h.opened;obtain ⟨a2,cap2,rfl,_,_,_⟩:=id hu.opened;have hxl:=askOk_len hok;have hC:=cloneI_any _ x w hu (nilOr_of hu (by have:=hs.1; omega)) (by have:=hs.1.2; omega);have hxs:=ask_small hs hok;have HO:=hdd (fun W (hb:Below w.heap.size w W)=>othI_any _ _ row x W (h.below hb) (hu.below hb) hok hs);have HOL:=hdd (oth_len hok);have HOM:=hdd (show ∀ y∈othL row x,0≤y∧y≤10 from (ask_small hs (oth_ok hok)).2);have HOG:=hdd (oth_get hok);obtain ⟨O,hO⟩:∃ O,O=othL row x:=⟨_,rfl⟩
 rw[←hO] at HOL HOM HOG;rw[←hO] at HO;have hr1:=hs.1.1;have hr3:=hs.1.2;have HEND:=hdd (mixL_eq (fun j=>x.getD j 0+O.getD (j+1) 0) (fun j=>x.getD j 0) (n:=x.length) (k:=x.length-1) (confL row x) (by rw[conf_len hok,hxl]) (fun j hj=>by
  rw[conf_get hok j hj,hxl];rw[conf_len hok] at hj
  by_cases q:j<row.length-1
  ·rw[if_pos q,if_pos q,getD_is (xs:=O) (by rw[HOL.out]; omega),HOG.out _ (by rw[HOL.out]; omega)]
  ·rw[if_neg q,if_neg q]))
 have HST:=hdd (mixL_eq (fun j=>x.getD j 0+O.getD (j+1) 0) (fun j=>x.getD j 0) (n:=x.length) (k:=0) x rfl (fun j hj=>by rw[if_neg (by omega),getD_is hj]));have HXM:=hdd hxs.2;have HLen:=hdd (show (confL row x).length=x.length by rw[conf_len hok,hxl]);obtain ⟨R,hR⟩:∃ R,R=confL row x:=⟨_,rfl⟩
 rw[←hR] at HEND HLen ⊢;have HXL:=hdd hxl;have hx1:1≤x.length:=by omega
 have hx3:x.length≤3:=by omega
 clear h hu hok hs hR hxl hxs hO hr1 hr3;unfold FreshI at hC HO ⊢;go_enter Tryz.func219,Tryz.ntmps219;go_wp2_with fail;refine hC.mono ?_;rintro e w1 ⟨ag,cg,rfl,ho1,hb1⟩;have HO1:=hdd ho1;have HB1:=hdd hb1;clear hC ho1 hb1;have hO2:=HO.out w1 HB1.out;go_wp2_with fail;refine hO2.mono ?_;rintro e w2 ⟨ah,ch,rfl,ho2,hb2⟩;clear hO2 HO;obtain ⟨h,ch3,he3,hh,_⟩:=own_head ho2 (by rw[HOL.out,←HXL.out]; omega);injection he3 with e1 e2 e3;clear e2;subst e1 e3;have hch:O.length≤ch:=by
  obtain ⟨_,_,he,q,_⟩:=own_shape ho2;injection he with _ _ q3;omega
 have HOw:=hdd ho2;have HO2:=hdd (show OwnI w.heap.size w2 (.slice ag x.length cg) x from HO1.out.below hb2);have HB2:=hdd (HB1.out.trans (hb2.mono HB1.out.size));have hne:∀ g,(Value.slice ag x.length cg).ownBlock=some g→g≠h:=fun g hg e=>by
  have:=(World.ownsRow.lt HO1.out g hg).2;omega
 have HNE:=hdd hne;have hOl:O.length=x.length:=by rw[HOL.out,HXL.out]
 rw[hOl] at hch ⊢;have HOl:=hdd hOl;clear ho2 hb2 hne hOl HO1 HB1 hh
 by_cases hc1:ch=1
 ·subst hc1
  have hx:x.length=1:=by omega
  have HR:=hdd (show R=x by
   have e1:=HEND.out;have e2:=HST.out;rw[hx] at e1 e2;exact e1.symm.trans e2)
  go_wp2;go_loop [15] (fun i=>i=.int .i64 0) (fun _=>0)
  case atStart=>rfl
  case round=>
   subst hrel;go_wp2;go_ret;exact ⟨ag,cg,by rw[HR.out,hx]; rfl,by rw[HR.out]; exact HO2.out,HB2.out⟩
 go_wp2;go_loopw [15] (fun i wi=>∃ k:Nat,k≤x.length-1∧i=.int .i64 k∧OwnI w.heap.size wi (.slice ag x.length cg) (mixL (fun j=>x.getD j 0+O.getD (j+1) 0) (fun j=>x.getD j 0) x.length k)∧OwnI w1.heap.size wi (.slice (some ⟨h,0,none⟩) O.length ch) O∧Below w.heap.size w wi) (fun i _=>x.length-(intOf i).toNat)
 case atStart=>exact ⟨0,by omega,rfl,by rw[HST.out]; exact HO2.out,HOw.out,HB2.out⟩
 case round=>
  obtain ⟨k,hk,rfl,ho,hoO,hb⟩:=hrel;obtain ⟨wk,rfl⟩:∃ x,x=wr:=⟨_,rfl⟩
  by_cases hlt:k<x.length-1
  ·obtain ⟨g,cap3,he3,hg,_⟩:=own_head ho (by rw[mixL_len]; omega)
   have hne:=HNE.out g (by rw[he3]; rfl);injection he3 with e1 e2 e3;clear e2;subst e1 e3;obtain ⟨hcu,hfu⟩:=own_cell ho k (by rw[mixL_len]; omega);rw[mixL_get _ _ (by omega),if_neg (by omega),getD_is (by omega)] at hcu;have hck:wk.cell? ⟨h,1+k,none⟩=some (.int .i64 (O[k+1]'(by rw[HOl.out]; omega))):=by rw[Nat.add_comm]; exact (own_cell hoO (k+1) (by rw[HOl.out]; omega)).1
   have hy:=HXM.out x[k] (List.getElem_mem (by omega));have hz:=HOM.out (O[k+1]'(by rw[HOl.out]; omega)) (List.getElem_mem _);have HN:=hdd (show OwnI w.heap.size (wk.setCell ⟨g,k,none⟩ (.int .i64 (x[k]+O[k+1]'(by rw[HOl.out]; omega)))) (.slice (some ⟨g,0,none⟩) x.length cg) (mixL (fun j=>x.getD j 0+O.getD (j+1) 0) (fun j=>x.getD j 0) x.length (k+1)) by
    have:=ho.set k (x[k]+O[k+1]'(by rw[HOl.out]; omega));rw[←mixL_set _ _ (by omega)]
    simpa only[getD_is (show k<x.length by omega),getD_is (show k+1<O.length by rw[HOl.out]; omega)] using this)
   have HON:=hdd (fun z=>OwnI.kept2 (g:=g) (j:=k) (u:=z) hoO (fun e=>by have e':some h=some g:=e; injection e' with e'; exact hne e'.symm));have HBN:=hdd (fun z=>hb.setCell (p:=⟨g,k,none⟩) hg z);obtain ⟨y,hyy⟩:∃ y,y=x[k]:=⟨_,rfl⟩
   obtain ⟨z,hzz⟩:∃ z,z=O[k+1]'(by rw[HOl.out]; omega):=⟨_,rfl⟩
   rw[←hyy] at hcu hy HN;rw[←hzz] at hck hz HN;obtain ⟨y0,y1⟩:=hy;obtain ⟨z0,z1⟩:=hz;have hk0:(0:Int)≤(k:Int):=by omega
   have hk1:(k:Int)<((x.length-1:Nat):Int):=by omega
   have hk2:(k:Int)<(x.length:Int):=by omega
   have hk5:(k:Int)≤5:=by omega
   clear ho hb hyy hzz hoO HO2 HB2 HOw hne;go_wp2;go_roundw
   case rel=>exact ⟨k+1,by omega,by go_num,HN.out,HON.out _,HBN.out _⟩
   case measure=>simp[intOf]; omega
  ·have hkl:k=x.length-1:=by omega
   have HO:=hdd (show OwnI w.heap.size wk (.slice ag x.length cg) R by
    rw[←HEND.out]; rw[hkl] at ho; exact ho)
   have HB:=hdd hb;have hk1:¬((k:Int)<((x.length-1:Nat):Int)):=by omega
   clear ho hb hkl hoO;go_wp2;go_ret;exact ⟨ag,cg,by rw[HLen.out]; rfl,by rw[HLen.out]; exact HO.out,HB.out⟩
theorem rem_eq {x n:Int} (hn1:1≤n) (hn5:n≤5) (hx0:-1000≤x) (hx1:x≤1000):(wrap64 (x.tmod n+n)).tmod n=x%n:=by
 have h1:-n<x.tmod n:=by
  have q:=Int.tmod_lt_of_pos (-x) (show 0<n by omega);rw[Int.neg_tmod] at q;omega
 have h2:x.tmod n<n:=Int.tmod_lt_of_pos x (by omega);have hw:wrap64 (x.tmod n+n)=x.tmod n+n:=by unfold wrap64; omega
 have e:=Int.tmod_add_mul_tdiv x n;rw[hw,Int.tmod_eq_emod_of_nonneg (by omega)];have e2:x.tmod n+n=x+n*(1-x.tdiv n):=by rw[Int.mul_sub,Int.mul_one]; omega
 rw[e2,Int.add_mul_emod_self_left]
theorem rem_any (x n:Int) (w:World) (hn1:1≤n) (hn5:n≤5) (hx0:-1000≤x) (hx1:x≤1000):
  Calls Tryz.prog 199 #[.int .i64 x,.int .i64 n] w fun e w'=>e=.returned (.int .i64 (x%n))∧w=w':=by
 have hne:¬(n=0):=by omega
 have hne2:(n==0)=false:=by simpa using hne
 have HE:=hdd (rem_eq hn1 hn5 hx0 hx1);go_enter Tryz.func199,Tryz.ntmps199;go_wp2;go_ret;exact ⟨by rw[←HE.out]; rfl,rfl⟩
theorem hats_bounds {n:Int} {hs:List Int} (h:hatsOkB n hs=true):1≤n∧n≤5∧hs.length≤5∧0≤totL hs∧totL hs≤20∧sum64 hs=totL hs∧∀ y∈hs,0≤y∧y≤4:=by
 obtain ⟨⟨h1,h2⟩,⟨h3,h4⟩,h5⟩:=hatsOkB_iff.1 h;have h6:∀ y∈hs,0≤y∧y≤4:=fun y hy=>by have:=h5 y hy; omega
 have key:∀ xs:List Int,(∀ y∈xs,0≤y∧y≤4)→0≤totL xs∧totL xs≤4*xs.length:=by
  intro xs
  induction xs with
  | nil=>simp[totL]
  | cons x xs ih=>
   intro q;have:=ih (fun y hy=>q y (by simp[hy]));have:=q x (by simp);simp only[totL,List.length_cons]; omega
 have h7:=key hs h6;exact ⟨h1,h2,by omega,h7.1,by omega,sum64_tot (by omega) (fun y hy=>by have:=h6 y hy; omega),h6⟩
def hatsTo (n:Int) (hs:List Int) (k:Nat):List Int:=(List.range k).map fun i=>hatAt n hs i
theorem hatsTo_len (n:Int) (hs:List Int) (k:Nat):(hatsTo n hs k).length=k:=by simp[hatsTo]
theorem hatsTo_next (n:Int) (hs:List Int) (k:Nat):hatsTo n hs (k+1)=hatsTo n hs k++[hatAt n hs k]:=by simp[hatsTo,List.range_succ]
theorem hatsTo_end {n:Int} {hs:List Int} (h:hatsOkB n hs=true):hatsTo n hs hs.length=hatsL n hs:=by unfold hatsL hatsTo; rw[if_pos h]
theorem put_next (xs:List Int) (k m:Nat) (y:Int) (hk:xs.length=k):(xs++List.replicate (m+1) 0).set k y=(xs++[y])++List.replicate m 0:=by
 rw[List.set_append_right _ _ (by omega),hk,Nat.sub_self,List.replicate_succ,List.set_cons_zero];simp
set_option maxHeartbeats 4000000 in
theorem hatsI_any {B:Nat} (n:Int) (v:Value) (hs:List Int) (w:World) (h:Ints B w v hs) (hn:-1≤n∧n≤1000):
  Calls Tryz.prog 170 #[.int .i64 n,v] w (FreshI (hatsL n hs) w):=by
 obtain ⟨a,cap,rfl,hcap,hmax,hcells⟩:=h.opened;have hK:=hatsOkI_any n _ hs w h hn;have HX:=hdd h;have HCE:=hdd hcells;have HEND:=hdd (hatsTo_end (n:=n) (hs:=hs));have HBD:=hdd (hats_bounds (n:=n) (hs:=hs));have HNO:=hdd (show hatsOkB n hs=false→hatsL n hs=[] from fun q=>by unfold hatsL; rw[if_neg (by simp[q])]);obtain ⟨R,hR⟩:∃ R,R=hatsL n hs:=⟨_,rfl⟩
 rw[←hR] at HEND HNO ⊢;obtain ⟨t,ht⟩:∃ t,t=hatsOkB n hs:=⟨_,rfl⟩
 rw[←ht] at hK HEND HBD HNO;clear h hcells hR ht;unfold FreshI
 cases t
 ·have HR:=hdd (HNO.out rfl)
  go_enter Tryz.func170,Tryz.ntmps170;go_wp2_with fail;refine hK.mono ?_;rintro e w1 ⟨rfl,hb1⟩;have HB1:=hdd hb1;clear hK hb1;go_wp2;go_ret;refine ⟨none,0,by rw[HR.out]; rfl,by rw[HR.out]; exact OwnI.empty _ _,HB1.out⟩
 ·obtain ⟨n1,n5,hl5,t0,t20,hsum,hmem⟩:=HBD.out rfl
  have HS:=hdd hsum;have HME:=hdd hmem;have HT:=hdd (HEND.out rfl);clear HBD HEND HNO hsum hmem;go_enter Tryz.func170,Tryz.ntmps170;go_wp2_with fail;refine hK.mono ?_;rintro e w1 ⟨rfl,hb1⟩;have HB1:=hdd hb1;clear hK hb1;go_wp2_with (at_make; refine wpList_make_ints _ rfl _ _ rfl _ _ hs.length rfl rfl rfl rfl (by omega) ?_; intro w3 hr3 hb3 hs3);obtain ⟨g,hg⟩:∃ g,g=w1.heap.size:=⟨_,rfl⟩
  have hgw:w.heap.size≤g:=by rw[hg]; exact HB1.out.size
  have HB3:=hdd (HB1.out.trans (hb3.mono HB1.out.size));have HO:=hdd (show OwnI w.heap.size w3 (.slice (some ⟨g,0,none⟩) hs.length hs.length) (hatsTo n hs 0++List.replicate (hs.length-0) 0) by rw[hg]; simpa [hatsTo] using hr3.mono HB1.out.size);rw[←hg];have hTot:=total_any _ hs w3 (HX.out.below HB3.out);rw[HS.out] at hTot;obtain ⟨T,hTT⟩:∃ T,T=totL hs:=⟨_,rfl⟩
  have HTT:=hdd hTT;rw[←hTT] at hTot t0 t20;clear hr3 hb3 hs3 hg hTT;go_wp2_with fail;refine hTot.mono ?_;rintro e w4 ⟨rfl,rfl⟩;clear hTot;obtain ⟨wf,rfl⟩:∃ wf:World,wf=w3:=⟨_,rfl⟩
  go_wp2;go_loopw [20] (fun i wi=>∃ k:Nat,k≤hs.length∧i=.int .i64 k∧OwnI w.heap.size wi (.slice (some ⟨g,0,none⟩) hs.length hs.length) (hatsTo n hs k++List.replicate (hs.length-k) 0)∧Below w.heap.size w wi) (fun i _=>hs.length-(intOf i).toNat)
  case atStart=>exact ⟨0,by omega,rfl,HO.out,HB3.out⟩
  case round=>
   obtain ⟨k,hk,rfl,ho,hb⟩:=hrel;obtain ⟨wk,rfl⟩:∃ x,x=wr:=⟨_,rfl⟩
   clear HO HB3
   by_cases hlt:k<hs.length
   ·obtain ⟨b,off,rfl,_,hc⟩:=HCE.out (by omega)
    have hck:=(Above.of_below (B:=0) hb).cell (Nat.zero_le _) (hc k hlt);have hy:=HME.out hs[k] (List.getElem_mem hlt);have hat:hatAt n hs k=((k:Int)-(T-hs[k]))%n:=by
     unfold hatAt; rw[HTT.out]; simp[List.getD,List.getElem?_eq_getElem hlt]
    obtain ⟨⟨u,hcu⟩,hfu⟩:=ho.at k (by simp[hatsTo_len]; omega);obtain ⟨y,hyy⟩:∃ y,y=hs[k]:=⟨_,rfl⟩
    rw[←hyy] at hck hy hat;obtain ⟨y0,y4⟩:=hy;have hRem:=rem_any ((k:Int)-(T-y)) n wk n1 n5 (by omega) (by omega);rw[←hat] at hRem;have HN:=hdd (show OwnI w.heap.size (wk.setCell ⟨g,k,none⟩ (.int .i64 (hatAt n hs k))) (.slice (some ⟨g,0,none⟩) hs.length hs.length) (hatsTo n hs (k+1)++List.replicate (hs.length-(k+1)) 0) by
     have:=ho.set k (hatAt n hs k);rw[show hs.length-k=(hs.length-(k+1))+1 by omega,put_next _ _ _ _ (hatsTo_len n hs k),←hatsTo_next] at this;exact this)
    have HBN:=hdd (hb.setCell (p:=⟨g,k,none⟩) hgw (.int .i64 (hatAt n hs k)));obtain ⟨z,hz⟩:∃ z,z=hatAt n hs k:=⟨_,rfl⟩
    rw[←hz] at hRem HN HBN;have hk0:(0:Int)≤(k:Int):=by omega
    have hk1:(k:Int)<(hs.length:Int):=by omega
    have hk5:(k:Int)≤5:=by omega
    clear ho hb hc hat hyy hz;go_wp2_with fail;refine hRem.mono ?_;rintro e w5 ⟨rfl,rfl⟩;clear hRem;go_wp2;go_roundw
    case rel=>exact ⟨k+1,by omega,by go_num,HN.out,HBN.out⟩
    case measure=>simp[intOf]; omega
   ·have hkl:k=hs.length:=by omega
    have HO:=hdd (show OwnI w.heap.size wk (.slice (some ⟨g,0,none⟩) hs.length hs.length) R by
     rw[hkl,Nat.sub_self,List.replicate_zero,List.append_nil,HT.out] at ho; exact ho)
    have HL:=hdd (show R.length=hs.length by rw[←HT.out,hatsTo_len]);have HB:=hdd hb;have hk1:¬((k:Int)<(hs.length:Int)):=by omega
    clear ho hb hkl;go_wp2;go_ret;exact ⟨some ⟨g,0,none⟩,hs.length,by rw[HL.out]; rfl,by rw[HL.out]; exact HO.out,HB.out⟩
theorem seen_eq {n:Int} {T y:Int} {k:Nat} (n1:1≤n) (n5:n≤5) (hk:k≤5) (t0:0≤T) (t20:T≤5*n) (y0:0≤y) (y4:y≤4):((k:Int)+n*5-(T-y))%n=((k:Int)-(T-y))%n:=by
 rw[show (k:Int)+n*5-(T-y)=(k:Int)-(T-y)+n*5 by omega,Int.add_mul_emod_self_left]
set_option maxHeartbeats 4000000 in
theorem hatsS_any {B:Nat} (n:Int) (v:Value) (hs:List Int) (w:World) (h:Ints B w v hs) (hn:-1≤n∧n≤1000):
  Calls Tryz.prog 107 #[.int .i64 n,v] w (FreshI (hatsL n hs) w):=by
 obtain ⟨a,cap,rfl,hcap,hmax,hcells⟩:=h.opened;have hK:=fun W q=>hatsOkS_any (B:=B) n (.slice a hs.length cap) hs W q hn
 have HX:=hdd h;have HCE:=hdd hcells;have HEND:=hdd (hatsTo_end (n:=n) (hs:=hs));have HBD:=hdd (hats_bounds (n:=n) (hs:=hs));have HNO:=hdd (show hatsOkB n hs=false→hatsL n hs=[] from fun q=>by unfold hatsL; rw[if_neg (by simp[q])]);have HOKB:=hdd (hatsOkB_iff (n:=n) (hs:=hs));obtain ⟨R,hR⟩:∃ R,R=hatsL n hs:=⟨_,rfl⟩
 rw[←hR] at HEND HNO ⊢;obtain ⟨t,ht⟩:∃ t,t=hatsOkB n hs:=⟨_,rfl⟩
 simp only[←ht] at hK;rw[←ht] at HEND HBD HNO HOKB;have HK:=hdd hK;have HLIT:=hdd (OwnI.lit w);have HBL:=hdd (show Below w.heap.size w (w.alloc (.cells #[] 3)) from (Below.refl _ _).alloc (Nat.le_refl _) _);clear h hcells hR ht hK;unfold FreshI
 cases t
 ·have HR:=hdd (HNO.out rfl)
  go_enter Tryz.func107,Tryz.ntmps107;go_wp2;go_loopw [5,6] (fun s i wr=>s=.slice (some ⟨w.heap.size,0,none⟩) 0 0∧i=.int .i64 0∧wr=w.alloc (.cells #[] 3)) (fun _ i _=>0)
  case atStart=>exact ⟨rfl,rfl,rfl⟩
  case round=>
   obtain ⟨rfl,rfl,rfl⟩:=hrel
   by_cases h0:(0:Int)<(hs.length:Int)
   ·have hT:=HK.out (w.alloc (.cells #[] 3)) (HX.out.below HBL.out)
    go_wp2_with fail;refine hT.mono ?_;rintro e w2 ⟨rfl,rfl⟩;clear hT;go_wp2;go_ret;exact ⟨some ⟨w.heap.size,0,none⟩,0,by rw[HR.out]; rfl,by rw[HR.out]; exact HLIT.out,HBL.out⟩
   ·go_wp2
    go_ret;exact ⟨some ⟨w.heap.size,0,none⟩,0,by rw[HR.out]; rfl,by rw[HR.out]; exact HLIT.out,HBL.out⟩
 ·obtain ⟨n1,n5,hl5,t0,t20,hsum,hmem⟩:=HBD.out rfl
  have HS:=hdd hsum;have HME:=hdd hmem;have HT:=hdd (HEND.out rfl);have ht4:totL hs≤5*n:=by
   have q:=(HOKB.out.1 rfl).2.2;have key:∀ xs:List Int,(∀ y∈xs,0≤y∧y≤n-1)→totL xs≤(n-1)*xs.length:=by
    intro xs
    induction xs with
    | nil=>simp[totL]
    | cons x xs ih=>
     intro q;have h1:=ih (fun y hy=>q y (by simp[hy]));have h2:=q x (by simp);simp only[totL,List.length_cons];rw[show ((xs.length+1:Nat):Int)=(xs.length:Int)+1 by omega,Int.mul_add]; omega
   have h1:=key hs q;have h2:(n-1)*(hs.length:Int)≤(n-1)*5:=Int.mul_le_mul_of_nonneg_left (by omega) (by omega);omega
  obtain ⟨T,hTT⟩:∃ T,T=totL hs:=⟨_,rfl⟩
  have HTT:=hdd hTT;rw[←hTT] at t0 t20 ht4;clear HBD HEND HNO hsum hmem hTT HOKB;go_enter Tryz.func107,Tryz.ntmps107;go_wp2;go_loopw [5,6] (fun s i wi=>∃ (k:Nat) (ao:Option Addr) (co:Nat),k≤hs.length∧i=.int .i64 k∧s=.slice ao k co∧OwnI w.heap.size wi (.slice ao k co) (hatsTo n hs k)∧Below w.heap.size w wi) (fun _ i _=>hs.length-(intOf i).toNat)
  case atStart=>exact ⟨0,_,0,by omega,rfl,rfl,by simpa [hatsTo] using HLIT.out,HBL.out⟩
  case round=>
   obtain ⟨k,ao,co,hk,rfl,rfl,ho,hb⟩:=hrel;obtain ⟨wk,rfl⟩:∃ x,x=wr:=⟨_,rfl⟩
   clear HLIT HBL
   by_cases hlt:k<hs.length
   ·obtain ⟨b,off,rfl,_,hc⟩:=HCE.out (by omega)
    have hck:=(Above.of_below (B:=0) hb).cell (Nat.zero_le _) (hc k hlt);have hy:=HME.out hs[k] (List.getElem_mem hlt);have hT:=HK.out wk (HX.out.below hb);have hS:∀ q,Calls Tryz.prog 138 #[.slice (some ⟨b,off,none⟩) hs.length cap] (wk.drewN q) fun e w'=>e=.returned (.int .i64 T)∧w'=wk.drewN q:=fun q=>by
     have:=l1Sum_any (.slice (some ⟨b,off,none⟩) hs.length cap) hs (wk.drewN q) (HX.out.below (hb.trans ((show Drawn wk (wk.drewN q) from ⟨q,rfl⟩).below.mono hb.size)));rw[HS.out,←HTT.out] at this;exact this.mono fun e w' ⟨h1,h2⟩=>⟨h1,h2.symm⟩
    have hat:hatAt n hs k=((k:Int)+n*5-(T-hs[k]))%n:=by
     rw[seen_eq n1 n5 (by omega) t0 (by omega) hy.1 hy.2];unfold hatAt; rw[HTT.out]; simp[List.getD,List.getElem?_eq_getElem hlt]
    obtain ⟨y,hyy⟩:∃ y,y=hs[k]:=⟨_,rfl⟩
    rw[←hyy] at hck hy hat;obtain ⟨y0,y4⟩:=hy;have HAT:=hdd hat;have HO:=hdd ho;have HB:=hdd hb;have hk0:(0:Int)≤(k:Int):=by omega
    have hk1:(k:Int)<(hs.length:Int):=by omega
    have hk5:(k:Int)≤5:=by omega
    have hne:¬(n=0):=by omega
    have hne2:(n==0)=false:=by simpa using hne
    clear ho hb hc hat hyy;go_wp2_with fail;refine hT.mono ?_;rintro e w5 ⟨rfl,rfl⟩;clear hT;go_wp2;go_quiet ((go_at_call 138; exact Calls.quiet_of_same (hS _)));obtain ⟨wd,hwd⟩:∃ z,z=wk.drewN nq:=⟨_,rfl⟩
    have hbd:Below wk.heap.size wk wd:=by rw[hwd]; exact (show Drawn wk (wk.drewN nq) from ⟨nq,rfl⟩).below
    have HOD:=hdd (HO.out.below hbd);have HBD:=hdd (HB.out.trans (hbd.mono HB.out.size));have HLEN:=hdd (hatsTo_len n hs k);rw[←hwd];clear hwd hbd;go_wp2_with (at_builtin; refine wpList_push_int _ rfl (.tmp 27) (.tmp 36) rfl w.heap.size (.slice ao k co) (hatsTo n hs k) rfl (World.ownsRow.alloc HOD.out _) ⟨wd.heap.size,0,none⟩ 1 (((k:Int)+n*5-(T-y))%n) rfl (by simp) (by rw[HLEN.out]; omega) (by have:=HBD.out.size; simp; omega) ?_; intro a7 c7 w7 ho7 hg7; rw[HLEN.out] at ho7 ⊢; have HB7:=hdd ((HBD.out.alloc HBD.out.size _).grown hg7 (by have:=HBD.out.size; simp; omega) (fun j hj=>(World.ownsRow.lt HOD.out j hj).1)); have HO7:=hdd (show OwnI w.heap.size w7 (.slice a7 (k+1) c7) (hatsTo n hs (k+1)) by rw[hatsTo_next,HAT.out]; exact ho7); clear ho7 hg7);go_roundw
    case rel=>exact ⟨k+1,a7,c7,by omega,by go_num,rfl,HO7.out,HB7.out⟩
    case measure=>simp[intOf]; omega
   ·have hkl:k=hs.length:=by omega
    have HO:=hdd (show OwnI w.heap.size wk (.slice ao k co) R by
     rw[←HT.out,←hkl]; exact ho)
    have HL:=hdd (show R.length=k by rw[←HT.out,hatsTo_len,hkl]);have HB:=hdd hb;have hk1:¬((k:Int)<(hs.length:Int)):=by omega
    clear ho hb hkl;go_wp2;go_ret;exact ⟨ao,co,by rw[HL.out]; rfl,by rw[HL.out]; exact HO.out,HB.out⟩
theorem totL_take {xs:List Int} {k:Nat} (h:k<xs.length):totL (xs.take (k+1))=totL (xs.take k)+xs[k]:=by
 rw[List.take_succ_eq_append_getElem h,totL_app]; simp[totL]
theorem totL_bound:∀ {xs:List Int},(∀ y∈xs,0≤y∧y≤10)→0≤totL xs∧totL xs≤10*xs.length
 | [],_=>by simp[totL]
 | a::r,h=>by
  have h1:=h a (by simp);have h2:=totL_bound (xs:=r) (fun y hy=>h y (by simp[hy]));simp only[totL,List.length_cons]; omega
set_option maxHeartbeats 4000000 in
theorem knownS_any {B:Nat} (v:Value) (row:List Int) (w:World) (h:Ints B w v row) (hlen:row.length≤4000000):
  Calls Tryz.prog 135 #[v] w fun e w'=>e=.returned (.bool (knownB row))∧w=w':=by
 obtain ⟨a,cap,rfl,hcap,hmax,hcells⟩:=h.opened;have HI:=hdd (l1In_any (row.length:Int) 1 3 w);have HE:=hdd (knownB_eq row);have HCE:=hdd hcells;have HNO:=hdd (show ∀ k (hk:k<row.length),inB row[k] 0 10=false→knownB row=false from fun k hk q=>by
  rw[knownB_eq];have:allB row 0 10=false:=by
   rw[Bool.eq_false_iff];intro q2;have:=List.all_eq_true.1 (show (row.all fun x=>inB x 0 10)=true from q2) _ (List.getElem_mem hk);rw[q] at this; cases this
  rw[this,Bool.and_false,Bool.false_and])
 have HYES:=hdd (show (∀ k (hk:k<row.length),inB row[k] 0 10=true)→allB row 0 10=true from fun q=>List.all_eq_true.2 fun x hx=>by
  obtain ⟨k,hk,rfl⟩:=List.getElem_of_mem hx;exact q k hk)
 have HTB:=hdd (show ∀ k,k≤row.length→(∀ j (hj:j<row.length),j<k→inB row[j] 0 10=true)→0≤totL (row.take k)∧totL (row.take k)≤40000000 from fun k hk q=>by
  have:=totL_bound (xs:=row.take k) (fun y hy=>by
   obtain ⟨j,hj,rfl⟩:=List.getElem_of_mem hy;have hj2:j<k∧j<row.length:=by simp at hj; omega
   have:=q j hj2.2 hj2.1;rw[List.getElem_take]
   simpa [inB] using this)
  have e:(row.take k).length≤4000000:=by simp; omega
  omega)
 obtain ⟨r,hr⟩:∃ r,r=knownB row:=⟨_,rfl⟩
 rw[←hr] at HE HNO ⊢;obtain ⟨t,ht⟩:∃ t,t=allB row 0 10:=⟨_,rfl⟩
 rw[←ht] at HE HYES;clear hr ht h hcells;go_enter Tryz.func135,Tryz.ntmps135;go_wp2;go_loop [3,4] (fun s i=>∃ k:Nat,k≤row.length∧i=.int .i64 k∧s=.int .i64 (totL (row.take k))∧∀ j (hj:j<row.length),j<k→inB row[j] 0 10=true) (fun _ i=>row.length-(intOf i).toNat)
 case atStart=>exact ⟨0,Nat.zero_le _,rfl,by simp[totL],fun j _ q=>absurd q (by omega)⟩
 case round=>
  obtain ⟨k,hk,rfl,rfl,hall⟩:=hrel;have hT:=HTB.out k hk hall;have HALL:=hdd hall;clear hall
  by_cases hlt:k<row.length
  ·obtain ⟨b,off,rfl,_,hc⟩:=HCE.out (by omega)
   have hck:=hc k hlt;have hi0:(0:Int)≤(k:Int):=by omega
   have hi1:(k:Int)<(row.length:Int):=by omega
   have hL:=l1In_any row[k] 0 10 w;have HN:=hdd (HNO.out k hlt);have HSTEP:=hdd (show inB row[k] 0 10=true→∀ j (hj:j<row.length),j<k+1→inB row[j] 0 10=true from fun q j hj q2=>by
    by_cases e:j=k
    ·subst e; exact q
    ·exact HALL.out j hj (by omega))
   have HX:=hdd (show inB row[k] 0 10=true→0≤row[k]∧row[k]≤10 from fun q=>by simpa [inB] using q);have HTT:=hdd (totL_take hlt);obtain ⟨x,hx⟩:∃ x,x=row[k]:=⟨_,rfl⟩
   rw[←hx] at hck hL HN HSTEP HTT HX;obtain ⟨T,hTe⟩:∃ T,T=totL (row.take k):=⟨_,rfl⟩
   rw[←hTe] at hT HTT ⊢;obtain ⟨q,hq⟩:∃ q,q=inB x 0 10:=⟨_,rfl⟩
   rw[←hq] at hL HN HSTEP HX;obtain ⟨t0,t1⟩:=hT;clear hc hx hq hTe
   cases q
   ·have HR:=hdd (HN.out rfl)
    go_wp2_with fail;refine hL.mono ?_;rintro e w2 ⟨rfl,rfl⟩;go_wp2;go_ret;exact ⟨ret_bool (by rw[HR.out]),rfl⟩
   ·have HS2:=hdd (HSTEP.out rfl)
    obtain ⟨x0,x1⟩:=HX.out rfl;go_wp2_with fail;refine hL.mono ?_;rintro e w2 ⟨rfl,rfl⟩;go_wp2;go_round
    case rel=>exact ⟨k+1,by omega,by go_num,by rw[HTT.out],HS2.out⟩
    case measure=>simp[intOf]; omega
  ·have HT:=hdd (HYES.out (fun j hj=>HALL.out j hj (by omega)))
   have hk1:¬((k:Int)<(row.length:Int)):=by omega
   rw[List.take_of_length_le (by omega)] at hT ⊢;obtain ⟨T,hTe⟩:∃ T,T=totL row:=⟨_,rfl⟩
   rw[←hTe] at hT HE ⊢;obtain ⟨t0,t1⟩:=hT;clear hTe
   by_cases h1:1≤(row.length:Int)∧(row.length:Int)≤3
   ·have hI1:=HI.out
    rw[inB_yes h1] at hI1;have HR:=hdd (show r=decide (T≤10) by rw[HE.out,HT.out,inB_yes h1]; rfl);clear h1;go_wp2_with fail;refine hI1.mono ?_;rintro e w2 ⟨rfl,rfl⟩;go_wp2;go_ret;exact ⟨ret_bool (by rw[HR.out]),rfl⟩
   ·have hI1:=HI.out
    rw[inB_no h1] at hI1;have HR:=hdd (show r=false by rw[HE.out,inB_no h1,Bool.false_and,Bool.false_and]);clear h1;go_wp2_with fail;refine hI1.mono ?_;rintro e w2 ⟨rfl,rfl⟩;go_wp2;go_ret;exact ⟨ret_bool (by rw[HR.out]),rfl⟩
def binN:Nat→Nat→Nat
 | _,0=>1
 | 0,_+1=>0
 | q+1,k+1=>binN q (k+1)+binN q k
def binS (q:Nat):Nat→Nat
 | 0=>0
 | k+1=>binS q k+binN q k
theorem bin_next:∀ q,q<10→∀ k,k<3→k≤q→((binN q k:Nat):Int)*((q:Int)-(k:Int))=((binN q k*(q-k):Nat):Int)∧binN q k*(q-k)/(k+1)=binN q (k+1)∧binN q k*(q-k)≤1000∧binN q k≤1000∧binS q k≤1000:=by decide +kernel
theorem bin_end:∀ q,q<10→∀ m,m<3→((binS q (min m q+1):Nat):Int)=chs q m:=by decide +kernel
set_option maxHeartbeats 4000000 in
theorem choices_any (q m:Nat) (w:World) (hq:q≤9) (hm:m≤2):
  Calls Tryz.prog 209 #[.int .i64 (q:Nat),.int .i64 (m:Nat)] w fun e w'=>e=.returned (.int .i64 (chs q m))∧w=w':=by
 have HE:=hdd (bin_end q (by omega) m (by omega));obtain ⟨R,hR⟩:∃ R,R=chs q m:=⟨_,rfl⟩
 rw[←hR] at HE ⊢;clear hR;go_enter Tryz.func209,Tryz.ntmps209;go_wp2;go_loop [5,6,7] (fun s c i=>∃ k:Nat,k≤min m q+1∧i=.int .i64 k∧s=.int .i64 (binS q k:Nat)∧c=.int .i64 (binN q k:Nat)) (fun _ _ i=>min m q+1-(intOf i).toNat)
 case atStart=>exact ⟨0,Nat.zero_le _,rfl,rfl,by cases q <;> rfl⟩
 case round=>
  obtain ⟨k,hk,rfl,rfl,rfl⟩:=hrel;have hk0:(0:Int)≤(k:Int):=by omega
  by_cases hlt:k≤min m q
  ·have hkm:(k:Int)≤(m:Int):=by omega
   have hkq:(k:Int)≤(q:Int):=by omega
   obtain ⟨e1,e2,e3,e4,e5⟩:=bin_next q (by omega) k (by omega) (by omega);have HS:=hdd (show binS q (k+1)=binS q k+binN q k from rfl);obtain ⟨c',hc'⟩:∃ c',c'=binN q (k+1):=⟨_,rfl⟩
   rw[←hc'] at e2;have HC:=hdd hc';obtain ⟨c,hc⟩:∃ c,c=binN q k:=⟨_,rfl⟩
   rw[←hc] at e1 e2 e3 e4 HS ⊢;obtain ⟨s,hs⟩:∃ s,s=binS q k:=⟨_,rfl⟩
   rw[←hs] at e5 HS ⊢;obtain ⟨P,hP⟩:∃ P,P=c*(q-k):=⟨_,rfl⟩
   rw[←hP] at e1 e2 e3;have hw:IntKind.i64.wrap ((P:Nat):Int)=((P:Nat):Int):=IntWalk.i64_in _ (by omega);have hdv:((P:Nat):Int).tdiv ((k:Int)+1)=((c':Nat):Int):=by
    rw[Int.tdiv_eq_ediv_of_nonneg (by omega),←e2]; rfl
   have hc0:c'≤1000:=by rw[←e2]; exact Nat.le_trans (Nat.div_le_self _ _) e3
   have hwc:IntKind.i64.wrap ((c':Nat):Int)=((c':Nat):Int):=IntWalk.i64_in _ (by omega);have hk9:(k:Int)≤9:=by omega
   clear hc' hc hs hP e2;go_wp2;go_round
   case rel=>exact ⟨k+1,by omega,by go_num,by rw[HS.out]; go_num,by rw[HC.out]⟩
   case measure=>simp[intOf]; omega
  ·have hkk:k=min m q+1:=by omega
   have HR:=hdd (show ((binS q k:Nat):Int)=R by rw[hkk]; exact HE.out);obtain ⟨s,hs⟩:∃ s,s=binS q k:=⟨_,rfl⟩
   rw[←hs] at HR ⊢;obtain ⟨c,hc⟩:∃ c,c=binN q k:=⟨_,rfl⟩
   rw[←hc];clear hkk hs hc
   by_cases hkm:(k:Int)≤(m:Int)
   ·have hkq:¬((k:Int)≤(q:Int)):=by omega
    go_wp2;go_ret;exact ⟨by rw[←HR.out]; rfl,rfl⟩
   ·go_wp2
    go_ret;exact ⟨by rw[←HR.out]; rfl,rfl⟩
theorem wgtA_app (q:Nat):∀ (a b:List Int) (j:Nat),wgtA q j (a++b)=wgtA q j a+wgtA q (j+a.length) b
 | [],b,j=>by simp[wgtA]
 | x::a,b,j=>by
  simp only[List.cons_append,wgtA,wgtA_app q a b (j+1),List.length_cons];rw[show j+1+a.length=j+(a.length+1) by omega]; omega
theorem wgt_take {xs:List Int} {k:Nat} (h:k<xs.length) (q:Nat):wgt (xs.take (k+1)) q=wgt (xs.take k) q+xs[k]*chs q k:=by
 rw[List.take_succ_eq_append_getElem h];unfold wgt;rw[wgtA_app];have:(xs.take k).length=k:=by simp; omega
 rw[this,Nat.zero_add];simp[wgtA]
theorem wgtA_nonneg (q:Nat):∀ (row:List Int) (k:Nat),nonN row→0≤wgtA q k row
 | [],k,_=>by simp[wgtA]
 | a::r,k,h=>by
  have h1:=wgtA_nonneg q r (k+1) (fun y hy=>h y (by simp[hy]));have h2:=Int.mul_nonneg (h a (by simp)) (chs_pos q k);simp only[wgtA]; omega
theorem pow512 {q:Nat} (h:q≤9):(2:Int)^q≤512:=by
 have:(2:Int)^9=2^q*2^(9-q):=by rw[←Int.pow_add]; congr 1; omega
 have h2:(1:Int)≤2^(9-q):=Int.pow_pos (by omega);have h3:(0:Int)≤2^q:=Int.le_of_lt (Int.pow_pos (by omega));have h4:(2:Int)^q*1≤2^q*2^(9-q):=Int.mul_le_mul_of_nonneg_left h2 h3;have:(2:Int)^9=512:=by decide
 omega
theorem wgt_small {row:List Int} (h:smallR row) {q:Nat} (hq:q≤9) (k:Nat):0≤wgt (row.take k) q∧wgt (row.take k) q≤20480:=by
 have hm:∀ y∈row.take k,0≤y∧y≤10:=fun y hy=>h.2 y (List.mem_of_mem_take hy)
 have h1:=wgtA_nonneg q (row.take k) 0 (fun y hy=>(hm y hy).1);have h2:=wgtA_le q (row.take k) 0 (fun y hy=>(hm y hy).1);have h3:=totL_bound hm;have h4:(row.take k).length≤3:=by have:=h.1.2; simp; omega
 have h5:totL (row.take k)*2^q≤30*2^q:=Int.mul_le_mul_of_nonneg_right (by omega) (Int.le_of_lt (Int.pow_pos (by omega)));have h6:=pow512 hq;unfold wgt;omega
set_option maxHeartbeats 4000000 in
theorem weightS_any {B:Nat} (v:Value) (row:List Int) (q:Nat) (w:World) (h:Ints B w v row) (hk:knownB row=true) (hq:q≤9):
  Calls Tryz.prog 177 #[v,.int .i64 (q:Nat)] w fun e w'=>e=.returned (.int .i64 (wgt row q))∧Drawn w w':=by
 obtain ⟨a,cap,rfl,hcap,hmax,hcells⟩:=h.opened;have hsm:=known_small hk;have hK:=knownS_any _ row w h (by have:=hsm.1.2; omega);rw[hk] at hK;have hI:=l1In_any (q:Int) 0 9 w;rw[inB_yes ⟨by omega,by omega⟩] at hI;have HCE:=hdd hcells;have HW:=hdd (fun k=>wgt_small hsm hq k);have HT:=hdd (fun k (hk:k<row.length)=>wgt_take hk q);have HX:=hdd hsm.2;have hl3:=hsm.1.2;have HC:=hdd (fun (k:Nat) (hk:k<row.length) W=>choices_any q k W hq (by omega));have HCB:=hdd (fun k=>And.intro (chs_pos q k) (Int.le_trans (chs_le q k) (pow512 hq)));have HEND:=hdd (show wgt (row.take row.length) q=wgt row q by rw[List.take_length]);obtain ⟨R,hR⟩:∃ R,R=wgt row q:=⟨_,rfl⟩
 rw[←hR] at HEND ⊢;clear hR h hk hsm hcells;go_enter Tryz.func177,Tryz.ntmps177;go_wp2_with fail;refine hK.mono ?_;rintro e w1 ⟨rfl,rfl⟩;clear hK;go_wp2_with fail;refine hI.mono ?_;rintro e w2 ⟨rfl,rfl⟩;clear hI;obtain ⟨ws,hws⟩:∃ ws:World,ws=w:=⟨_,rfl⟩
 go_wp2;go_loopw [5,6] (fun s i wi=>∃ k:Nat,k≤row.length∧i=.int .i64 k∧s=.int .i64 (wgt (row.take k) q)∧Drawn w wi) (fun _ i _=>row.length-(intOf i).toNat)
 case atStart=>exact ⟨0,Nat.zero_le _,rfl,rfl,Drawn.refl _⟩
 case round=>
  obtain ⟨k,hk,rfl,rfl,hb⟩:=hrel;obtain ⟨wk,rfl⟩:∃ z,z=wr:=⟨_,rfl⟩
  have HB:=hdd hb;have hwk:=HW.out k
  by_cases hlt:k<row.length
  ·obtain ⟨b,off,rfl,_,hc⟩:=HCE.out (by omega)
   have hck:=hb.cell (hc k hlt);have hx:=HX.out row[k] (List.getElem_mem hlt);have hT:=HT.out k hlt;have hwk1:=HW.out (k+1);have hcb:=HCB.out k;have hCall:=HC.out k hlt;rw[hT] at hwk1;obtain ⟨x,hxx⟩:∃ x,x=row[k]:=⟨_,rfl⟩
   rw[←hxx] at hck hx hT hwk1;obtain ⟨T,hTT⟩:∃ T,T=wgt (row.take k) q:=⟨_,rfl⟩
   rw[←hTT] at hwk hwk1 hT ⊢;obtain ⟨c,hcc⟩:∃ c,c=chs q k:=⟨_,rfl⟩
   rw[←hcc] at hwk1 hT hcb hCall;have hS:∀ n,Calls Tryz.prog 209 #[.int .i64 (q:Nat),.int .i64 (k:Nat)] (wk.drewN n) fun e w'=>e=.returned (.int .i64 c)∧w'=wk.drewN n:=fun n=>(hCall (wk.drewN n)).mono fun e w' ⟨h1,h2⟩=>⟨h1,h2.symm⟩
   have hp:0≤x*c∧x*c≤5120:=⟨Int.mul_nonneg hx.1 hcb.1,by
    have h1:x*c≤10*c:=Int.mul_le_mul_of_nonneg_right hx.2 hcb.1;have h2:=hcb.2;omega⟩
   obtain ⟨p,hpp⟩:∃ p,p=x*c:=⟨_,rfl⟩
   rw[←hpp] at hp hT hwk1;have hwp:IntKind.i64.wrap (x*c)=p:=by rw[←hpp]; exact IntWalk.i64_in _ (by omega)
   have HTT:=hdd hT;have hk0:(0:Int)≤(k:Int):=by omega
   have hk1:(k:Int)<(row.length:Int):=by omega
   have hk5:(k:Int)≤5:=by omega
   obtain ⟨p0,p1⟩:=hp;obtain ⟨t0,t1⟩:=hwk;clear hb hc hxx hTT hcc hCall hpp hT hwk1 hcb hx hws;go_wp2;go_quiet ((go_at_call 209; exact Calls.quiet_of_same (hS _)));have HB2:=hdd (HB.out.more nq);go_wp2;go_roundw
   case rel=>exact ⟨k+1,by omega,by go_num,by rw[HTT.out],HB2.out⟩
   case measure=>simp[intOf]; omega
  ·have hkl:k=row.length:=by omega
   have HR:=hdd (show wgt (row.take k) q=R by rw[hkl]; exact HEND.out);have hk1:¬((k:Int)<(row.length:Int)):=by omega
   rw[HR.out];clear hkl hb hwk hws;go_wp2;go_ret;exact ⟨rfl,HB.out⟩
theorem askOk_get:∀ {row x:List Int},askOk row x→∀ j (h:j<row.length) (h':j<x.length),0≤x[j]∧x[j]≤row[j]
 | [],[],_,j,h,_=>by simp at h
 | a::r,y::q,h,0,_,_=>⟨h.1,h.2.1⟩
 | a::r,y::q,h,j+1,h1,h2=>askOk_get h.2.2 j (by simpa using h1) (by simpa using h2)
set_option maxHeartbeats 4000000 in
theorem splitS_any {B:Nat} (v u:Value) (row x:List Int) (w:World) (h:Ints B w v row) (hu:Ints B w u x) (hok:askOk row x) (hk:knownB row=true):
  Calls Tryz.prog 210 #[v,u] w fun e w'=>e=.returned (.bool true)∧Below w.heap.size w w':=by
 obtain ⟨a,cap,rfl,_,_,hcells⟩:=h.opened;obtain ⟨a2,cap2,rfl,_,_,hcells2⟩:=hu.opened;have hsm:=known_small hk;have hl3:=hsm.1.2;have hxl:=askOk_len hok;rw[hxl];have HKN:=hdd (fun W (hb:Below w.heap.size w W)=>knownS_any _ row W (h.below hb) (by omega));rw[hk] at HKN;have HCE:=hdd hcells;have HCE2:=hdd hcells2;have HG:=hdd (askOk_get hok);have HXL:=hdd hxl;clear h hu hcells hcells2 hxl hok hk hsm;obtain ⟨ws,hws⟩:∃ ws:World,ws=w:=⟨_,rfl⟩
 go_enter Tryz.func210,Tryz.ntmps210;go_wp2;go_loopw [5] (fun i wi=>∃ k:Nat,k≤row.length∧i=.int .i64 k∧Below w.heap.size w wi) (fun i _=>row.length-(intOf i).toNat)
 case atStart=>exact ⟨0,Nat.zero_le _,rfl,Below.refl _ _⟩
 case round=>
  obtain ⟨k,hk,rfl,hb⟩:=hrel;obtain ⟨wk,rfl⟩:∃ z,z=wr:=⟨_,rfl⟩
  have HB:=hdd hb
  by_cases hlt:k<row.length
  ·have hxlt:k<x.length:=by rw[HXL.out]; exact hlt
   obtain ⟨b,off,rfl,_,hc⟩:=HCE.out (by omega);obtain ⟨b2,off2,rfl,_,hc2⟩:=HCE2.out (by omega);have hck:=(Above.of_below (B:=0) hb).cell (Nat.zero_le _) (hc k hlt);have hck2:=(Above.of_below (B:=0) hb).cell (Nat.zero_le _) (hc2 k hxlt);have hg:=HG.out k hlt hxlt;have hL:=l1In_any x[k] 0 row[k];rw[inB_yes hg] at hL;obtain ⟨y,hy⟩:∃ y,y=row[k]:=⟨_,rfl⟩
   obtain ⟨z,hz⟩:∃ z,z=x[k]:=⟨_,rfl⟩
   rw[←hy] at hck hL;rw[←hz] at hck2 hL;have hS:∀ n,Calls Tryz.prog 88 #[.int .i64 z,.int .i64 0,.int .i64 y] (wk.drewN n) fun e w'=>e=.returned (.bool true)∧w'=wk.drewN n:=fun n=>(hL (wk.drewN n)).mono fun e w' ⟨h1,h2⟩=>⟨h1,h2.symm⟩
   have hk0:(0:Int)≤(k:Int):=by omega
   have hk1:(k:Int)<(row.length:Int):=by omega
   have hk5:(k:Int)≤5:=by omega
   clear hb hc hc2 hg hL hy hz hws hxlt;go_wp2;go_quiet ((go_at_call 88; exact Calls.quiet_of_same (hS _)));have HB2:=hdd (HB.out.trans ((show Drawn wk (wk.drewN nq) from ⟨nq,rfl⟩).below.mono HB.out.size));go_wp2;go_roundw
   case rel=>exact ⟨k+1,by omega,by go_num,HB2.out⟩
   case measure=>simp[intOf]; omega
  ·have hk1:¬((k:Int)<(row.length:Int)):=by omega
   have hT:=HKN.out wk hb;clear hb hws;go_wp2_with fail;refine hT.mono ?_;rintro e w2 ⟨rfl,rfl⟩;go_wp2;go_ret;exact ⟨rfl,HB.out⟩
set_option maxHeartbeats 8000000 in
theorem afterYesS_any {B:Nat} (v u:Value) (row x:List Int) (w:World) (h:Ints B w v row) (hu:Ints B w u x) (hok:askOk row x) (hk:knownB row=true):
  Calls Tryz.prog 179 #[v,u] w (FreshI (confL row x) w):=by
 obtain ⟨a,cap,rfl,_,_,hcells⟩:=h.opened;obtain ⟨a2,cap2,rfl,_,_,hcells2⟩:=hu.opened;have hsm:=known_small hk;have hl3:=hsm.1.2;have hxl:=askOk_len hok;have hw0:Below w.heap.size w (w.alloc (.cells #[] 3)):=(Below.refl _ _).alloc (Nat.le_refl _) _;have hSp:=splitS_any _ _ row x _ (h.below hw0) (hu.below hw0) hok hk;rw[hxl] at hSp ⊢;have HW0:=hdd hw0;have HLIT:=hdd (OwnI.lit w);have HCE:=hdd hcells;have HCE2:=hdd hcells2;have HG:=hdd (conf_get hok);have HXM:=hdd (ask_small hsm hok).2;have HRM:=hdd hsm.2;have HXL:=hdd hxl;have HCL:=hdd (conf_len hok);obtain ⟨C,hC⟩:∃ C,C=confL row x:=⟨_,rfl⟩
 rw[←hC] at HG HCL ⊢;clear h hu hcells hcells2 hxl hok hk hsm hw0 hC;unfold FreshI;go_enter Tryz.func179,Tryz.ntmps179;go_wp2_with fail;refine hSp.mono ?_;rintro e w1 ⟨rfl,hb1⟩;have HB1:=hdd (show Below w.heap.size w w1 from HW0.out.trans (hb1.mono HW0.out.size));have HO1:=hdd (show OwnI w.heap.size w1 (.slice (some ⟨w.heap.size,0,none⟩) 0 0) [] from HLIT.out.below hb1);clear hSp hb1;go_wp2;go_loopw [5,6,7] (fun s i z wi=>∃ (k:Nat) (ao:Option Addr) (co:Nat),k≤row.length∧i=.int .i64 k∧s=.slice ao k co∧OwnI w.heap.size wi (.slice ao k co) (C.take k)∧Below w.heap.size w wi) (fun _ i _ _=>row.length-(intOf i).toNat)
 case atStart=>exact ⟨0,_,0,by omega,rfl,rfl,by simpa using HO1.out,HB1.out⟩
 case round=>
  obtain ⟨k,ao,co,hk,rfl,rfl,ho,hb⟩:=hrel;obtain ⟨wk,rfl⟩:∃ z,z=wr:=⟨_,rfl⟩
  have HB:=hdd hb;have HO:=hdd ho
  by_cases hlt:k<row.length
  ·have hxlt:k<x.length:=by rw[HXL.out]; exact hlt
   have hclt:k<C.length:=by rw[HCL.out]; exact hlt
   obtain ⟨b,off,rfl,_,hc⟩:=HCE.out (by omega);obtain ⟨b2,off2,rfl,_,hc2⟩:=HCE2.out (by omega);have hck2:=(Above.of_below (B:=0) hb).cell (Nat.zero_le _) (hc2 k hxlt);have hg:=HG.out k hclt;have hz:=HXM.out x[k] (List.getElem_mem hxlt);have hTT:=(show C.take (k+1)=C.take k++[C[k]] from List.take_succ_eq_append_getElem hclt)
   obtain ⟨cv,hcv⟩:∃ c,c=C[k]:=⟨_,rfl⟩
   rw[←hcv] at hTT hg;have HT:=hdd hTT;clear hcv hTT;have HL:=hdd (show (C.take k).length=k by simp; omega);rw[getD_is hxlt] at hg;obtain ⟨z,hzz⟩:∃ z,z=x[k]:=⟨_,rfl⟩
   rw[←hzz] at hck2 hz hg;obtain ⟨z0,z1⟩:=hz;have hk0:(0:Int)≤(k:Int):=by omega
   have hk1:(k:Int)<(row.length:Int):=by omega
   have hk5:(k:Int)≤5:=by omega
   by_cases hnx:k+1<row.length
   ·have hxn:k+1<x.length:=by rw[HXL.out]; exact hnx
    have hr1:=(Above.of_below (B:=0) hb).cell (Nat.zero_le _) (hc (k+1) hnx);have hq1:=(Above.of_below (B:=0) hb).cell (Nat.zero_le _) (hc2 (k+1) hxn);have hry:=HRM.out row[k+1] (List.getElem_mem hnx);have hqy:=HXM.out x[k+1] (List.getElem_mem hxn);rw[if_pos (by omega),getD_is hnx,getD_is hxn] at hg;obtain ⟨r,hrr⟩:∃ z,z=row[k+1]:=⟨_,rfl⟩
    rw[←hrr] at hr1 hry hg;obtain ⟨p,hpp⟩:∃ z,z=x[k+1]:=⟨_,rfl⟩
    rw[←hpp] at hq1 hqy hg;have HG2:=hdd (show cv=z+r-p by rw[hg]; omega);obtain ⟨r0,r1⟩:=hry;obtain ⟨p0,p1⟩:=hqy;have hkn:(k:Int)+1<(row.length:Int):=by omega
    clear ho hb hc hc2 hg hzz hrr hpp hxlt hclt hxn;go_wp2;go_quiet (fail);obtain ⟨wd,hwd⟩:∃ z,z=wk.drewN nq:=⟨_,rfl⟩
    have hbd:Below wk.heap.size wk wd:=by rw[hwd]; exact (show Drawn wk (wk.drewN nq) from ⟨nq,rfl⟩).below
    have HOD:=hdd (HO.out.below hbd);have HBD:=hdd (HB.out.trans (hbd.mono HB.out.size));rw[←hwd];clear hwd hbd;go_wp2_with (at_builtin; refine wpList_push_int _ rfl (.tmp 42) (.tmp 44) rfl w.heap.size (.slice ao k co) (C.take k) rfl (World.ownsRow.alloc HOD.out _) ⟨wd.heap.size,0,none⟩ 1 (z+r-p) rfl (by simp) (by rw[HL.out]; omega) (by have:=HBD.out.size; simp; omega) ?_; intro a7 c7 w7 ho7 hg7; rw[HL.out] at ho7 ⊢; have HB7:=hdd ((HBD.out.alloc HBD.out.size _).grown hg7 (by have:=HBD.out.size; simp; omega) (fun j hj=>(World.ownsRow.lt HOD.out j hj).1)); have HO7:=hdd (show OwnI w.heap.size w7 (.slice a7 (k+1) c7) (C.take (k+1)) by rw[HT.out,HG2.out]; exact ho7); clear ho7 hg7);go_roundw
    case rel=>exact ⟨k+1,a7,c7,by omega,by go_num,rfl,HO7.out,HB7.out⟩
    case measure=>simp[intOf]; omega
   ·rw[if_neg (by omega)] at hg
    have HG2:=hdd hg;have hkn:¬((k:Int)+1<(row.length:Int)):=by omega
    clear ho hb hc hc2 hg hzz hxlt hclt;go_wp2_with (at_builtin; refine wpList_push_int _ rfl (.tmp 42) (.tmp 44) rfl w.heap.size (.slice ao k co) (C.take k) rfl (World.ownsRow.alloc HO.out _) ⟨wk.heap.size,0,none⟩ 1 z rfl (by simp) (by rw[HL.out]; omega) (by have:=HB.out.size; simp; omega) ?_; intro a7 c7 w7 ho7 hg7; rw[HL.out] at ho7 ⊢; have HB7:=hdd ((HB.out.alloc HB.out.size _).grown hg7 (by have:=HB.out.size; simp; omega) (fun j hj=>(World.ownsRow.lt HO.out j hj).1)); have HO7:=hdd (show OwnI w.heap.size w7 (.slice a7 (k+1) c7) (C.take (k+1)) by rw[HT.out,HG2.out]; exact ho7); clear ho7 hg7);go_roundw
    case rel=>exact ⟨k+1,a7,c7,by omega,by go_num,rfl,HO7.out,HB7.out⟩
    case measure=>simp[intOf]; omega
  ·have hkl:k=C.length:=by rw[HCL.out]; omega
   have HOE:=hdd (show OwnI w.heap.size wk (.slice ao k co) C by
    rw[hkl,List.take_length] at ho; rw[hkl]; exact ho)
   have HKL:=hdd hkl;have hk1:¬((k:Int)<(row.length:Int)):=by omega
   clear ho hb hkl;go_wp2;go_ret;exact ⟨ao,co,by rw[←HKL.out]; rfl,by rw[←HKL.out]; exact HOE.out,HB.out⟩
end
end Go.Proofs.YtenlngclocfnlaaGreatDoor
