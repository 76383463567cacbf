/- Texts of this claim, put together: BunX. -/
import Derived.Calls
namespace Go.Proofs.YtenlngclocfnlaaGreatDoor
set_option linter.unusedVariables false
section
def totL:List Int→Int
 | []=>0
 | a::r=>a+totL r
def confL:List Int→List Int→List Int
 | [a],[x]=>[x]
 | a::b::r,x::y::q=>(x+(b-y))::confL (b::r) (y::q)
 | _,_=>[]
def othL:List Int→List Int→List Int
 | a::r,x::q=>(a-x)::othL r q
 | _,_=>[]
def asksL:List Int→List (List Int)
 | []=>[[]]
 | a::r=>(List.range (a+1).toNat).flatMap fun (n:Nat)=>(asksL r).map fun x=>(n:Int)::x
def askOk:List Int→List Int→Prop
 | [],[]=>True
 | a::r,x::q=>0≤x∧x≤a∧askOk r q
 | _,_=>False
def nonN (row:List Int):Prop:=∀ y∈row,0≤y
theorem asksL_mem:∀ (row x:List Int),x∈asksL row↔askOk row x
 | [],[]=>by simp[asksL,askOk]
 | [],y::q=>by simp[asksL,askOk]
 | a::r,[]=>by simp[asksL,askOk]
 | a::r,y::q=>by
  simp only[asksL,askOk,List.mem_flatMap,List.mem_range,List.mem_map,List.cons.injEq]
  constructor
  ·rintro ⟨n,hn,z,hz,rfl,rfl⟩
   exact ⟨by omega,by omega,(asksL_mem r z).1 hz⟩
  ·rintro ⟨h0,h1,h2⟩
   exact ⟨y.toNat,by omega,q,(asksL_mem r q).2 h2,by omega,rfl⟩
theorem askOk_len:∀ {row x:List Int},askOk row x→x.length=row.length
 | [],[],_=>rfl
 | a::r,y::q,h=>by simp[askOk_len h.2.2]
theorem oth_ok:∀ {row x:List Int},askOk row x→askOk row (othL row x)
 | [],[],_=>trivial
 | a::r,y::q,h=>⟨by have:=h.2.1; omega,by have:=h.1; omega,oth_ok h.2.2⟩
theorem oth_oth:∀ {row x:List Int},askOk row x→othL row (othL row x)=x
 | [],[],_=>rfl
 | a::r,y::q,h=>by simp only[othL,oth_oth h.2.2]; rw[show a-(a-y)=y by omega]
theorem oth_tot:∀ {row x:List Int},askOk row x→totL (othL row x)=totL row-totL x
 | [],[],_=>rfl
 | a::r,y::q,h=>by simp only[othL,totL,oth_tot h.2.2]; omega
theorem oth_len {row x:List Int} (h:askOk row x):(othL row x).length=row.length:=askOk_len (oth_ok h)
theorem conf_len:∀ {row x:List Int},askOk row x→(confL row x).length=row.length
 | [],[],_=>rfl
 | [a],[y],_=>rfl
 | [a],y::z::q,h=>by simp[askOk] at h
 | a::b::r,[y],h=>by simp[askOk] at h
 | a::b::r,y::z::q,h=>by simp[confL,conf_len (row:=b::r) (x:=z::q) h.2.2]
theorem conf_nonN:∀ {row x:List Int},askOk row x→nonN (confL row x)
 | [],[],_=>by simp[nonN,confL]
 | [a],[y],h=>by intro z hz; simp[confL] at hz; subst hz; exact h.1
 | [a],y::z::q,h=>by simp[askOk] at h
 | a::b::r,[y],h=>by simp[askOk] at h
 | a::b::r,y::z::q,h=>by
  intro u hu;simp only[confL,List.mem_cons] at hu
  rcases hu with rfl | hu
  ·have:=h.1; have:=h.2.2.2.1; omega
  ·exact conf_nonN (row:=b::r) (x:=z::q) h.2.2 u hu
theorem conf_tot:∀ {row x:List Int},askOk row x→totL (confL row x)≤totL row
 | [],[],_=>by simp[confL]
 | [a],[y],h=>by have:=h.2.1; simp[confL,totL]; exact this
 | [a],y::z::q,h=>by simp[askOk] at h
 | a::b::r,[y],h=>by simp[askOk] at h
 | a::b::r,y::z::q,h=>by
  have key:∀ (b:Int) (r:List Int) (z:Int) (q:List Int),askOk (b::r) (z::q)→totL (confL (b::r) (z::q))=totL (b::r)-(b-z):=by
   intro b r
   induction r generalizing b with
   | nil=>
    intro z q h
    cases q with
    | nil=>simp[confL,totL]; omega
    | cons u q=>simp[askOk] at h
   | cons c r ih=>
    intro z q h
    cases q with
    | nil=>simp[askOk] at h
    | cons u q=>
     have:=ih c u q h.2.2;simp only[confL,totL] at this ⊢;omega
  have h1:=key b r z q h.2.2;have:=h.2.1;simp only[confL,totL] at h1 ⊢;omega
theorem totL_nonN:∀ {row:List Int},nonN row→0≤totL row
 | [],_=>by simp[totL]
 | a::r,h=>by
  have h1:=h a (by simp);have h2:=totL_nonN (row:=r) (fun y hy=>h y (by simp[hy]));simp only[totL]; omega
theorem totL_mem:∀ {row:List Int},nonN row→∀ y∈row,y≤totL row
 | [],_,y,hy=>by simp at hy
 | a::r,h,y,hy=>by
  have h2:=totL_nonN (row:=r) (fun y hy=>h y (by simp[hy]));have h1:=h a (by simp);simp only[totL]
  rcases List.mem_cons.1 hy with rfl | hy
  ·omega
  ·have:=totL_mem (row:=r) (fun y hy=>h y (by simp[hy])) y hy
   omega
def sureB:Nat→List Int→Bool
 | 0,row=>decide (totL row≤1)
 | q+1,row=>decide (totL row≤1)||(asksL row).any fun x=>sureB q (confL row x)&&sureB q (confL row (othL row x))
def chs:Nat→Nat→Int
 | 0,_=>1
 | _+1,0=>1
 | q+1,k+1=>chs q (k+1)+chs q k
def wgtA (q:Nat):Nat→List Int→Int
 | _,[]=>0
 | k,a::r=>a*chs q k+wgtA q (k+1) r
def wgt (row:List Int) (q:Nat):Int:=wgtA q 0 row
def winB:Nat→List Int→Bool
 | 0,row=>decide (totL row≤1)
 | q+1,row=>decide (totL row≤1)||(decide (wgt row (q+1)≤2^(q+1))&&(asksL row).any fun x=>decide (2*totL x≤totL row+1)&&(winB q (confL row x)&&winB q (confL row (othL row x))))
theorem chs_zero:∀ q,chs q 0=1
 | 0=>rfl
 | _+1=>rfl
theorem chs_pos:∀ q k,0≤chs q k
 | 0,_=>by simp[chs]
 | _+1,0=>by simp[chs]
 | q+1,k+1=>by have h1:=chs_pos q (k+1); have h2:=chs_pos q k; simp only[chs]; omega
theorem chs_le:∀ q k,chs q k≤2^q
 | 0,_=>by simp[chs]
 | q+1,0=>by
  have:=chs_le q 0;rw[chs_zero] at this ⊢;rw[Int.pow_succ]; omega
 | q+1,k+1=>by have h1:=chs_le q (k+1); have h2:=chs_le q k; simp only[chs]; rw[Int.pow_succ]; omega
theorem wgt_split (q:Nat):∀ (r:List Int) (a x:Int) (y:List Int) (k:Nat),askOk (a::r) (x::y) →
  wgtA q k (confL (a::r) (x::y))+wgtA q k (confL (a::r) (othL (a::r) (x::y)))=a*chs q k+wgtA (q+1) (k+1) r:=by
 intro r
 induction r with
 | nil=>
  intro a x y k h
  cases y with
  | nil=>
   simp only[confL,othL,wgtA];rw[Int.sub_mul]; omega
  | cons u y=>simp[askOk] at h
 | cons b r ih=>
  intro a x y k h
  cases y with
  | nil=>simp[askOk] at h
  | cons u y=>
   have:=ih b u y (k+1) h.2.2;simp only[othL,confL,wgtA,chs] at this ⊢;rw[show b-(b-u)=u by omega];have e1:(x+(b-u))*chs q k+(a-x+u)*chs q k=a*chs q k+b*chs q k:=by
    rw[←Int.add_mul,←Int.add_mul]; congr 1; omega
   have e2:b*(chs q (k+1)+chs q k)=b*chs q (k+1)+b*chs q k:=Int.mul_add _ _ _;omega
theorem wgt_sum {row x:List Int} (q:Nat) (h:askOk row x):wgt (confL row x) q+wgt (confL row (othL row x)) q=wgt row (q+1):=by
 cases row with
 | nil=>
  cases x with
  | nil=>simp[wgt,confL,wgtA]
  | cons y x=>simp[askOk] at h
 | cons a r=>
  cases x with
  | nil=>simp[askOk] at h
  | cons y x=>
   have:=wgt_split q r a y x 0 h;unfold wgt;rw[this,chs_zero];simp only[wgtA,chs_zero]
theorem wgtA_le (q:Nat):∀ (row:List Int) (k:Nat),nonN row→wgtA q k row≤totL row*2^q
 | [],k,_=>by simp[wgtA,totL]
 | a::r,k,h=>by
  have h1:=wgtA_le q r (k+1) (fun y hy=>h y (by simp[hy]));have h2:=Int.mul_le_mul_of_nonneg_left (chs_le q k) (h a (by simp));simp only[wgtA,totL];rw[Int.add_mul]; omega
theorem sure_wgt:∀ (q:Nat) (row:List Int),nonN row→sureB q row=true→wgt row q≤2^q:=by
 have base:∀ (q:Nat) (row:List Int),nonN row→totL row≤1→wgt row q≤2^q:=fun q row h h1=>by
  have h2:=wgtA_le q row 0 h;have h3:(0:Int)≤2^q:=by exact Int.le_of_lt (Int.pow_pos (by omega))
  have h4:=Int.mul_le_mul_of_nonneg_right h1 h3;unfold wgt;omega
 intro q
 induction q with
 | zero=>intro row h hs; exact base 0 row h (by simpa [sureB] using hs)
 | succ q ih=>
  intro row h hs;simp only[sureB,Bool.or_eq_true,decide_eq_true_eq,List.any_eq_true,Bool.and_eq_true] at hs
  rcases hs with hs | ⟨x,hx,h1,h2⟩
  ·exact base _ _ h hs
  ·have hok:=(asksL_mem row x).1 hx
   have a1:=ih _ (conf_nonN hok) h1;have a2:=ih _ (conf_nonN (oth_ok hok)) h2;have a3:=wgt_sum q hok;rw[Int.pow_succ];omega
theorem win_sure:∀ (q:Nat) (row:List Int),nonN row→winB q row=sureB q row:=by
 intro q
 induction q with
 | zero=>intro row _; rfl
 | succ q ih=>
  intro row h;rw[Bool.eq_iff_iff]
  by_cases ht:totL row≤1
  ·simp[winB,sureB,ht]
  ·constructor
   ·intro hw
    simp only[winB,sureB,ht,decide_false,Bool.false_or,Bool.and_eq_true,List.any_eq_true] at hw ⊢;obtain ⟨_,x,hx,_,h1,h2⟩:=hw;have hok:=(asksL_mem row x).1 hx;exact ⟨x,hx,by rw[←ih _ (conf_nonN hok)]; exact h1,by rw[←ih _ (conf_nonN (oth_ok hok))]; exact h2⟩
   ·intro hs
    have hw:=sure_wgt _ _ h hs;simp only[winB,sureB,ht,decide_false,Bool.false_or,Bool.and_eq_true,List.any_eq_true,decide_eq_true_eq] at hs ⊢;refine ⟨hw,?_⟩;obtain ⟨x,hx,h1,h2⟩:=hs;have hok:=(asksL_mem row x).1 hx;rw[←ih _ (conf_nonN hok)] at h1;rw[←ih _ (conf_nonN (oth_ok hok))] at h2
    by_cases hh:2*totL x≤totL row+1
    ·exact ⟨x,hx,hh,h1,h2⟩
    ·have e:=oth_tot hok
     refine ⟨othL row x,(asksL_mem _ _).2 (oth_ok hok),by omega,h2,?_⟩;rw[oth_oth hok]; exact h1
def knownB (row:List Int):Bool:=decide (1≤row.length)&&decide (row.length≤3)&&row.all (fun y=>decide (0≤y)&&decide (y≤10))&&decide (totL row≤10)
theorem knownB_iff {row:List Int}:knownB row=true↔1≤row.length∧row.length≤3∧(∀ y∈row,0≤y∧y≤10)∧totL row≤10:=by
 unfold knownB;simp only[Bool.and_eq_true,decide_eq_true_eq,List.all_eq_true]
 constructor
 ·rintro ⟨⟨⟨h1,h2⟩,h3⟩,h4⟩; exact ⟨h1,h2,fun y hy=>h3 y hy,h4⟩
 ·rintro ⟨h1,h2,h3,h4⟩; exact ⟨⟨⟨h1,h2⟩,fun y hy=>h3 y hy⟩,h4⟩
theorem known_conf {row x:List Int} (h:knownB row=true) (hok:askOk row x):knownB (confL row x)=true:=by
 obtain ⟨h1,h2,h3,h4⟩:=knownB_iff.1 h;have e:=conf_len hok;have t:=conf_tot hok;refine knownB_iff.2 ⟨by omega,by omega,fun y hy=>⟨conf_nonN hok y hy,?_⟩,by omega⟩;have:=totL_mem (conf_nonN hok) y hy;omega
def fewA (row:List Int):Nat→Nat→Int
 | 0,_=>-1
 | m+1,n=>if sureB n row=true then n else fewA row m (n+1)
def fewB (row:List Int):Int:=if knownB row=true then fewA row 10 0 else -1
def atL (q:Int):List Int→Int
 | []=>q
 | y::r=>atL (11*q+y) r
def okR (row:List Int):Prop:=∀ y∈row,0≤y∧y≤10
theorem okR_cons {y:Int} {r:List Int} (h:okR (y::r)):(0≤y∧y≤10)∧okR r:=⟨h y (by simp),fun z hz=>h z (by simp[hz])⟩
theorem atL_app:∀ (r:List Int) (q y:Int),atL q (r++[y])=11*atL q r+y
 | [],q,y=>rfl
 | z::r,q,y=>by simp only[List.cons_append,atL]; exact atL_app r _ y
theorem atL_range:∀ (r:List Int) (q:Int),okR r→q*11^r.length≤atL q r∧atL q r<(q+1)*11^r.length
 | [],q,_=>by simp[atL]; omega
 | y::r,q,h=>by
  obtain ⟨⟨h0,h1⟩,h2⟩:=okR_cons h;obtain ⟨h3,h4⟩:=atL_range r (11*q+y) h2;have hp:(0:Int)<11^r.length:=Int.pow_pos (by omega);simp only[atL,List.length_cons];rw[Int.pow_succ];have e1:q*(11^r.length*11)=(11*q)*11^r.length:=by rw[Int.mul_comm (11^r.length) 11,←Int.mul_assoc,Int.mul_comm q 11]
  have e2:(q+1)*(11^r.length*11)=(11*q+11)*11^r.length:=by rw[Int.mul_comm (11^r.length) 11,←Int.mul_assoc]; congr 1; omega
  have m1:(11*q)*11^r.length≤(11*q+y)*11^r.length:=Int.mul_le_mul_of_nonneg_right (by omega) (Int.le_of_lt hp);have m2:(11*q+y+1)*11^r.length≤(11*q+11)*11^r.length:=Int.mul_le_mul_of_nonneg_right (by omega) (Int.le_of_lt hp);rw[e1,e2];omega
theorem atL_inj:∀ (r s:List Int) (q p:Int),okR r→okR s→r.length=s.length→atL q r=atL p s→q=p∧r=s
 | [],[],q,p,_,_,_,h=>⟨h,rfl⟩
 | [],_::_,_,_,_,_,hl,_=>by simp at hl
 | _::_,[],_,_,_,_,hl,_=>by simp at hl
 | y::r,z::s,q,p,h1,h2,hl,h=>by
  obtain ⟨⟨a0,a1⟩,a2⟩:=okR_cons h1;obtain ⟨⟨b0,b1⟩,b2⟩:=okR_cons h2;obtain ⟨e1,e2⟩:=atL_inj r s (11*q+y) (11*p+z) a2 b2 (by simpa using hl) h;exact ⟨by omega,by rw[e2]; congr 1; omega⟩
theorem pow11 {n:Nat} (h:n≤3):(11:Int)^n≤1331:=by
 have:n=0∨n=1∨n=2∨n=3:=by omega
 rcases this with rfl | rfl | rfl | rfl <;> decide
theorem atL_bound {r:List Int} {q:Int} (h:okR r) (hl:r.length≤3) (h0:0≤q) (h9:q≤9):0≤atL q r∧atL q r<13310:=by
 obtain ⟨h1,h2⟩:=atL_range r q h;have hp:=pow11 hl;have hpos:(0:Int)<11^r.length:=Int.pow_pos (by omega);have m1:0≤q*11^r.length:=Int.mul_nonneg h0 (Int.le_of_lt hpos);have m2:(q+1)*11^r.length≤10*11^r.length:=Int.mul_le_mul_of_nonneg_right (by omega) (Int.le_of_lt hpos);omega
theorem known_okR {row:List Int} (h:knownB row=true):okR row∧1≤row.length∧row.length≤3:=by
 obtain ⟨h1,h2,h3,_⟩:=knownB_iff.1 h;exact ⟨h3,h1,h2⟩
def FoundOk (n q:Nat) (fs:List Int):Prop:=fs.length=13310∧(∀ y∈fs,0≤y∧y≤2) ∧
 ∀ (p:Nat) (row:List Int),p≤q→knownB row=true→row.length=n→(fs.getD (atL p row).toNat 0=1→winB p row=true)∧(fs.getD (atL p row).toNat 0=2→winB p row=false)
def SameOn (n q:Nat) (fs gs:List Int):Prop:=∀ i:Nat,(q+1:Int)*11^n≤i→gs.getD i 0=fs.getD i 0
theorem SameOn.refl (n q:Nat) (fs:List Int):SameOn n q fs fs:=fun _ _=>rfl
theorem SameOn.trans {n q:Nat} {fs gs hs:List Int} (h1:SameOn n q fs gs) (h2:SameOn n q gs hs):SameOn n q fs hs:=fun i hi=>(h2 i hi).trans (h1 i hi)
theorem FoundOk.down {n q p:Nat} {fs:List Int} (h:FoundOk n q fs) (hp:p≤q):FoundOk n p fs:=⟨h.1,h.2.1,fun a row ha=>h.2.2 a row (by omega)⟩
theorem FoundOk.zero (n q:Nat):FoundOk n q (List.replicate 13310 0):=by
 refine ⟨List.length_replicate,fun y hy=>?_,fun p row _ _ _=>?_⟩
 ·rw[List.eq_of_mem_replicate hy]; omega
 ·have:(List.replicate 13310 (0:Int)).getD (atL p row).toNat 0=0:=by
   rw[List.getD_eq_getElem?_getD,List.getElem?_replicate]
   split <;> rfl
  rw[this];exact ⟨fun h=>by omega,fun h=>by omega⟩
theorem getD_set_same {fs:List Int} {i:Nat} (h:i<fs.length) (v:Int):(fs.set i v).getD i 0=v:=by
 rw[List.getD_eq_getElem?_getD,List.getElem?_set_self h]; rfl
theorem getD_set_ne {fs:List Int} {i j:Nat} (h:i≠j) (v:Int):(fs.set i v).getD j 0=fs.getD j 0:=by
 rw[List.getD_eq_getElem?_getD,List.getElem?_set_ne h,←List.getD_eq_getElem?_getD]
theorem at_above {n q:Nat} {row:List Int} (hk:knownB row=true) (hl:row.length=n):(q+1:Int)*11^n≤atL (q+1:Nat) row:=by
 have:=(atL_range row ((q+1:Nat):Int) (known_okR hk).1).1;rw[hl] at this;have e:((q+1:Nat):Int)=(q:Int)+1:=by omega
 rw[e] at this ⊢;exact this
theorem at_in {q:Nat} {row:List Int} (hk:knownB row=true) (h9:q≤9):0≤atL q row∧atL q row<13310:=
 atL_bound (known_okR hk).1 (known_okR hk).2.2 (by omega) (by omega)
theorem FoundOk.mark {n q:Nat} {fs:List Int} {row:List Int} (h:FoundOk n q fs) (hk:knownB row=true) (hl:row.length=n) (h9:q+1≤9) {v:Int} (hv:0≤v∧v≤2):FoundOk n q (fs.set (atL (q+1:Nat) row).toNat v):=by
 refine ⟨by simpa using h.1,fun y hy=>?_,fun p row' hp hk' hl'=>?_⟩
 ·rcases List.mem_or_eq_of_mem_set hy with hy | rfl
  ·exact h.2.1 y hy
  ·exact hv
 ·have h1:=at_in (q:=q+1) hk h9
  have h2:=at_in (q:=p) hk' (by omega);rw[getD_set_ne (fun e=>?_)]
  ·exact h.2.2 p row' hp hk' hl'
  ·have:=(atL_inj row row' ((q+1:Nat):Int) p (known_okR hk).1 (known_okR hk').1 (by omega) (by omega)).1
   omega
theorem FoundOk.done {n q:Nat} {fs gs:List Int} {row:List Int} (h:FoundOk n (q+1) fs) (hk:knownB row=true) (hl:row.length=n) (h9:q+1≤9) {v:Int} (hg:FoundOk n q gs)
  (hs:SameOn n q (fs.set (atL (q+1:Nat) row).toNat 2) gs) (hv:(v=1∧winB (q+1) row=true)∨(v=2∧winB (q+1) row=false)):
  FoundOk n (q+1) (gs.set (atL (q+1:Nat) row).toNat v)∧SameOn n (q+1) fs (gs.set (atL (q+1:Nat) row).toNat v):=by
 have h1:=at_in (q:=q+1) hk h9;have hab:=at_above (q:=q) hk hl;have hr:=(atL_range row ((q+1:Nat):Int) (known_okR hk).1).2;rw[hl] at hr;have hm:=hg.mark hk hl h9 (v:=v) (by rcases hv with ⟨rfl,_⟩ | ⟨rfl,_⟩ <;> omega);refine ⟨⟨hm.1,hm.2.1,fun p row' hp hk' hl'=>?_⟩,fun i hi=>?_⟩
 ·by_cases e:p≤q
  ·exact hm.2.2 p row' e hk' hl'
  ·have ep:p=q+1:=by omega
   subst ep
   by_cases er:row'=row
   ·subst er
    rw[getD_set_same (by rw[hg.1]; omega)]
    rcases hv with ⟨rfl,h5⟩ | ⟨rfl,h5⟩
    ·exact ⟨fun _=>h5,fun e=>by omega⟩
    ·exact ⟨fun e=>by omega,fun _=>h5⟩
   ·have hne:(atL ((q+1:Nat):Int) row).toNat≠(atL ((q+1:Nat):Int) row').toNat:=fun e=>er (by
     have h2:=at_in (q:=q+1) hk' h9;exact ((atL_inj row row' ((q+1:Nat):Int) ((q+1:Nat):Int) (known_okR hk).1 (known_okR hk').1 (by omega) (by omega)).2).symm)
    have hab':=at_above (q:=q) hk' hl';have h2:=at_in (q:=q+1) hk' h9;rw[getD_set_ne hne,hs _ (by omega),getD_set_ne hne];exact h.2.2 (q+1) row' (Nat.le_refl _) hk' hl'
 ·have hpos:(0:Int)≤11^n:=Int.le_of_lt (Int.pow_pos (by omega))
  have hlt:((q:Int)+1)*11^n≤(((q+1:Nat):Int)+1)*11^n:=Int.mul_le_mul_of_nonneg_right (by omega) hpos;have hne:(atL ((q+1:Nat):Int) row).toNat≠i:=fun e=>by omega
  rw[getD_set_ne hne,hs i (by omega),getD_set_ne hne]
def rangeI (n:Nat):List Int:=(List.range n).map fun i:Nat=>(i:Int)
theorem rangeI_len (n:Nat):(rangeI n).length=n:=by simp[rangeI]
theorem rangeI_nodup (n:Nat):(rangeI n).Nodup:=by
 unfold rangeI;rw[List.nodup_iff_pairwise_ne,List.pairwise_map];exact (List.nodup_iff_pairwise_ne.1 List.nodup_range).imp fun h e=>h (by omega)
theorem rangeI_mem {n:Nat} {x:Int}:x∈rangeI n↔0≤x∧x<n:=by
 unfold rangeI;simp only[List.mem_map,List.mem_range]
 constructor
 ·rintro ⟨i,h,rfl⟩; omega
 ·rintro ⟨h0,h1⟩; exact ⟨x.toNat,by omega,by omega⟩
theorem perm_of_sub:∀ (l m:List Int),l.Nodup→(∀ x∈l,x∈m)→m.length≤l.length→l.Perm m
 | [],m,_,_,h=>by
  have:m=[]:=List.length_eq_zero_iff.1 (by simpa using h);subst this; exact .nil
 | a::t,m,hd,hs,h=>by
  have ha:=hs a (by simp);have hd':=List.nodup_cons.1 hd;have h1:=List.length_erase_of_mem ha;have hpos:0<m.length:=List.length_pos_of_mem ha;have ih:=perm_of_sub t (m.erase a) hd'.2 (fun x hx=>(List.mem_erase_of_ne (fun e=>hd'.1 (by rw[←e]; exact hx))).2 (hs x (by simp[hx]))) (by simp at h; omega);exact (ih.cons a).trans (List.perm_cons_erase ha).symm
theorem bound_nodup:∀ (n:Nat) (l:List Nat),l.Nodup→(∀ x∈l,x<n)→l.length≤n:=by
 intro n
 induction n with
 | zero=>
  intro l _ h
  cases l with
  | nil=>simp
  | cons x l=>exact absurd (h x List.mem_cons_self) (by omega)
 | succ n ih=>
  intro l hd h
  by_cases hm:n∈l
  ·have h1:=ih (l.erase n) (hd.erase n) (fun x hx=>by
    have h2:=(hd.mem_erase_iff).1 hx;have:=h x h2.2;have:=h2.1;omega)
   have h2:=List.length_erase_of_mem hm;have h3:0<l.length:=List.length_pos_of_mem hm;omega
  ·have h1:=ih l hd (fun x hx=>by
    have:=h x hx;have:x≠n:=fun e=>hm (e ▸ hx)
    omega)
   omega
def boxB (xs:List Int):Bool:=decide (1≤xs.length)&&decide (xs.length≤7)&&(List.range xs.length).all fun i=>xs.contains (i:Int)
theorem boxB_iff {xs:List Int}:boxB xs=true↔(1≤xs.length∧xs.length≤7)∧(rangeI xs.length).Perm xs:=by
 unfold boxB;simp only[Bool.and_eq_true,decide_eq_true_eq,List.all_eq_true,List.mem_range,List.contains_iff_mem]
 constructor
 ·rintro ⟨h,h2⟩
  refine ⟨h,perm_of_sub _ _ (rangeI_nodup _) (fun x hx=>?_) (by rw[rangeI_len]; omega)⟩;obtain ⟨h0,h1⟩:=rangeI_mem.1 hx;have:=h2 x.toNat (by omega)
  rwa [show ((x.toNat:Nat):Int)=x by omega] at this
 ·rintro ⟨h,hp⟩
  exact ⟨h,fun i hi=>hp.mem_iff.1 (rangeI_mem.2 (by omega))⟩
theorem boxB_spec {xs:List Int} (hl:1≤xs.length∧xs.length≤7) (hr:∀ x∈xs,0≤x∧x<xs.length) (hd:xs.Nodup):boxB xs=true:=
 boxB_iff.2 ⟨hl,(perm_of_sub _ _ hd (fun x hx=>rangeI_mem.2 (hr x hx)) (by rw[rangeI_len]; omega)).symm⟩
theorem box_rng {xs:List Int} (h:boxB xs=true):∀ x∈xs,0≤x∧x<xs.length:=fun x hx=>rangeI_mem.1 ((boxB_iff.1 h).2.mem_iff.2 hx)
theorem box_nodup {xs:List Int} (h:boxB xs=true):xs.Nodup:=(boxB_iff.1 h).2.nodup_iff.1 (rangeI_nodup _)
def stepN (xs:List Int) (i:Nat):Nat:=(xs.getD i 0).toNat
def itN (xs:List Int) (p:Nat):Nat→Nat
 | 0=>p
 | k+1=>stepN xs (itN xs p k)
theorem getD_at {xs:List Int} {i:Nat} (h:i<xs.length):xs.getD i 0=xs[i]:=by rw[List.getD_eq_getElem?_getD,List.getElem?_eq_getElem h]; rfl
theorem step_lt {xs:List Int} (h:boxB xs=true) {i:Nat} (hi:i<xs.length):stepN xs i<xs.length:=by
 have:=box_rng h _ (List.getElem_mem hi);unfold stepN;rw[getD_at hi];omega
theorem step_cell {xs:List Int} (h:boxB xs=true) {i:Nat} (hi:i<xs.length):((stepN xs i:Nat):Int)=xs[i]:=by
 have:=box_rng h _ (List.getElem_mem hi);unfold stepN;rw[getD_at hi];omega
theorem step_inj {xs:List Int} (h:boxB xs=true) {i j:Nat} (hi:i<xs.length) (hj:j<xs.length) (e:stepN xs i=stepN xs j):i=j:=by
 have e2:xs[i]=xs[j]:=by rw[←step_cell h hi,←step_cell h hj,e]
 exact (List.getElem_inj (box_nodup h)).1 e2
theorem it_lt {xs:List Int} (h:boxB xs=true) {p:Nat} (hp:p<xs.length):∀ k,itN xs p k<xs.length
 | 0=>hp
 | k+1=>step_lt h (it_lt h hp k)
theorem it_back {xs:List Int} (h:boxB xs=true) {p:Nat} (hp:p<xs.length):∀ i d,itN xs p i=itN xs p (i+d)→itN xs p d=p
 | 0,d,e=>by rw[Nat.zero_add] at e; exact e.symm
 | i+1,d,e=>by
  refine it_back h hp i d (step_inj h (it_lt h hp _) (it_lt h hp _) ?_);rw[show i+1+d=i+d+1 by omega] at e;exact e
theorem it_few {xs:List Int} (h:boxB xs=true) {p:Nat} (hp:p<xs.length) {t:Nat} (ht:∀ s,1≤s→s≤t→itN xs p s≠p):t<xs.length:=by
 have:=bound_nodup xs.length ((List.range (t+1)).map (itN xs p)) (by
  rw[List.nodup_iff_pairwise_ne,List.pairwise_map];refine (List.pairwise_lt_range).imp_of_mem ?_;intro a b ha hb hab e;have hb':=List.mem_range.1 hb;refine ht (b-a) (by omega) (by omega) (it_back h hp a (b-a) ?_);rw[show a+(b-a)=b by omega]; exact e) (fun x hx=>by
   obtain ⟨k,_,rfl⟩:=List.mem_map.1 hx;exact it_lt h hp k)
 simp at this;omega
def perN (xs:List Int) (p:Nat):Nat:=((List.range xs.length).find? fun t=>itN xs p (t+1)==p).getD 0+1
theorem per_is {xs:List Int} {p t:Nat} (h1:1≤t) (hl:t≤xs.length) (he:itN xs p t=p) (hn:∀ s,1≤s→s<t→itN xs p s≠p):perN xs p=t:=by
 have:(List.range xs.length).find? (fun t=>itN xs p (t+1)==p)=some (t-1):=by
  rw[List.find?_eq_some_iff_getElem];refine ⟨by simp; rw[show t-1+1=t by omega]; exact he,t-1,by simp; omega,by simp,fun j hj=>?_⟩;simp;exact hn (j+1) (by omega) (by omega)
 unfold perN;rw[this];simp; omega
def orbL (xs:List Int) (p t:Nat):List Int:=(List.range t).map fun s=>(itN xs p s:Int)
theorem orbL_succ (xs:List Int) (p t:Nat):orbL xs p (t+1)=orbL xs p t++[(itN xs p t:Int)]:=by simp[orbL,List.range_succ]
theorem orbL_len (xs:List Int) (p t:Nat):(orbL xs p t).length=t:=by simp[orbL]
def leastB (xs:List Int) (p:Nat):Bool:=(orbL xs p (perN xs p)).all fun y=>decide ((p:Int)≤y)
def lensL (xs:List Int):Nat→List Int
 | 0=>[]
 | k+1=>lensL xs k++(if leastB xs k=true then [(perN xs k:Int)] else [])
theorem lensL_len (xs:List Int):∀ k,(lensL xs k).length≤k
 | 0=>by simp[lensL]
 | k+1=>by have:=lensL_len xs k; simp only[lensL,List.length_append]; split <;> simp <;> omega
theorem perN_le (xs:List Int) (p:Nat):1≤perN xs p∧perN xs p≤xs.length+1:=by
 unfold perN
 rcases e:(List.range xs.length).find? (fun t=>itN xs p (t+1)==p) with _ | t
 ·simp
 ·have:=List.mem_of_find?_eq_some e
  simp at this ⊢;omega
theorem lensL_mem (xs:List Int):∀ k,∀ y∈lensL xs k,1≤y∧y≤xs.length+1
 | 0,y,hy=>by simp[lensL] at hy
 | k+1,y,hy=>by
  simp only[lensL,List.mem_append] at hy
  rcases hy with hy | hy
  ·exact lensL_mem xs k y hy
  ·split at hy
   ·have:=perN_le xs k
    simp at hy; subst hy; omega
   ·simp at hy
theorem sorted_eq:∀ (l m:List Int),l.Pairwise (·≤·)→m.Pairwise (·≤·)→l.Perm m→l=m
 | [],m,_,_,h=>(List.nil_perm.1 h).symm ▸ rfl
 | a::t,[],_,_,h=>absurd h.length_eq (by simp)
 | a::t,b::u,h1,h2,h=>by
  have hp1:=List.pairwise_cons.1 h1;have hp2:=List.pairwise_cons.1 h2;have ha:a∈b::u:=h.mem_iff.1 (by simp);have hb:b∈a::t:=h.mem_iff.2 (by simp);have e:a=b:=by
   rcases List.mem_cons.1 ha with rfl | ha
   ·rfl
   ·rcases List.mem_cons.1 hb with rfl | hb
    ·rfl
    ·have:=hp2.1 a ha
     have:=hp1.1 b hb;omega
  subst e;rw[sorted_eq t u hp1.2 hp2.2 ((List.perm_cons a).1 h)]
def sortI (l:List Int):List Int:=l.mergeSort (fun x y=>decide (x≤y))
theorem sortI_perm (l:List Int):(sortI l).Perm l:=List.mergeSort_perm _ _
theorem sortI_sorted (l:List Int):(sortI l).Pairwise (·≤·):=by
 have:=List.pairwise_mergeSort (le:=fun x y:Int=>decide (x≤y)) (fun a b c h1 h2=>by simp at *; omega) (fun a b=>by simp; omega) l;exact this.imp fun h=>by simpa using h
theorem sortI_is {l m:List Int} (hp:m.Perm l) (hs:m.Pairwise (·≤·)):m=sortI l:=sorted_eq _ _ hs (sortI_sorted l) (hp.trans (sortI_perm l).symm)
def circL (xs:List Int):List Int:=if boxB xs=true then sortI (lensL xs xs.length) else []
theorem circL_mem {xs:List Int} {y:Int} (h:y∈circL xs):1≤y∧y≤8:=by
 unfold circL at h
 split at h
 ·rename_i hb
  have h1:=lensL_mem xs _ y ((sortI_perm _).mem_iff.1 h);have h2:=(boxB_iff.1 hb).1;omega
 ·simp at h
def leastA (t:Int):Nat→Nat→Int
 | 0,n=>n
 | f+1,n=>if (2:Int)^n<t then leastA t f (n+1) else n
def leastQ (t:Int):Int:=if 1≤t∧t≤1000000 then leastA t 20 0 else -1
theorem leastA_rng (t:Int):∀ (f n:Nat),(n:Int)≤leastA t f n∧leastA t f n≤n+f
 | 0,n=>by simp[leastA]
 | f+1,n=>by
  have:=leastA_rng t f (n+1);simp only[leastA]
  split <;> omega
theorem leastQ_rng (t:Int):-1≤leastQ t∧leastQ t≤20:=by
 unfold leastQ
 split
 ·have:=leastA_rng t 20 0; omega
 ·omega
theorem pow_lt (n:Nat) (h:n≤20):1≤(2:Int)^n∧(2:Int)^n≤1048576:=by
 have h1:(1:Int)≤2^n:=Int.pow_pos (by omega);refine ⟨h1,?_⟩;have:(2:Int)^20=2^n*2^(20-n):=by rw[←Int.pow_add]; congr 1; omega
 have h2:(1:Int)≤2^(20-n):=Int.pow_pos (by omega);have h3:(2:Int)^n*1≤2^n*2^(20-n):=Int.mul_le_mul_of_nonneg_left h2 (by omega);have:(2:Int)^20=1048576:=by decide
 omega
theorem leastA_more {t:Int} {f n:Nat} (h:(2:Int)^n<t):leastA t (f+1) n=leastA t f (n+1):=by simp[leastA,h]
theorem leastA_stop {t:Int} {f n:Nat} (h:¬(2:Int)^n<t):leastA t f n=n:=by
 cases f with
 | zero=>rfl
 | succ f=>simp[leastA,h]
def dropsA (f:Int) (c:Nat):Nat→Nat→Int
 | 0,_=>-1
 | m+1,d=>if f<chs d c then d else dropsA f c m (d+1)
def dropsB (f c:Int):Int:=if (0≤f∧f≤9999)∧(0≤c∧c≤8) then dropsA f c.toNat 15 0 else -1
theorem dropsA_rng (f:Int) (c:Nat):∀ m d,-1≤dropsA f c m d∧dropsA f c m d≤d+m
 | 0,d=>by simp only[dropsA]; omega
 | m+1,d=>by
  have:=dropsA_rng f c m (d+1);simp only[dropsA]
  split <;> omega
theorem dropsB_rng (f c:Int):-1≤dropsB f c∧dropsB f c≤15:=by
 unfold dropsB
 split
 ·have:=dropsA_rng f c.toNat 15 0; omega
 ·omega
theorem chs_small (q k:Nat) (h:q≤15):1≤chs q k∧chs q k≤32768:=by
 refine ⟨?_,?_⟩
 ·clear h
  induction q generalizing k with
  | zero=>simp[chs]
  | succ q ih=>
   cases k with
   | zero=>simp[chs]
   | succ k=>have:=ih (k+1); have:=ih k; simp only[chs]; omega
 ·have h1:=chs_le q k
  have h2:(2:Int)^15=2^q*2^(15-q):=by rw[←Int.pow_add]; congr 1; omega
  have h3:(1:Int)≤2^(15-q):=Int.pow_pos (by omega);have h4:(0:Int)≤2^q:=Int.le_of_lt (Int.pow_pos (by omega));have h5:(2:Int)^q*1≤2^q*2^(15-q):=Int.mul_le_mul_of_nonneg_left h3 h4;have:(2:Int)^15=32768:=by decide
  omega
def chsRow (d c:Nat):List Int:=(List.range (c+1)).map fun k=>chs d k
def chsMid (d c k:Nat):List Int:=(List.range (c+1)).map fun j=>if k<j then chs (d+1) j else chs d j
theorem chsRow_len (d c:Nat):(chsRow d c).length=c+1:=by simp[chsRow]
theorem chsMid_len (d c k:Nat):(chsMid d c k).length=c+1:=by simp[chsMid]
theorem chsMid_start (d c:Nat):chsMid d c c=chsRow d c:=by
 unfold chsMid chsRow;refine List.map_congr_left fun j hj=>?_
 have:=List.mem_range.1 hj;rw[if_neg (by omega)]
theorem chsMid_end (d c:Nat):chsMid d c 0=chsRow (d+1) c:=by
 unfold chsMid chsRow;refine List.map_congr_left fun j hj=>?_
 by_cases h:0<j
 ·rw[if_pos h]
 ·have:j=0:=by omega
  subst this;rw[if_neg (by omega),chs_zero,chs_zero]
theorem chsMid_get {d c k j:Nat} (h:j≤c):(chsMid d c k)[j]'(by rw[chsMid_len]; omega)=if k<j then chs (d+1) j else chs d j:=by simp[chsMid]
theorem chsRow_get {d c j:Nat} (h:j≤c):(chsRow d c)[j]'(by rw[chsRow_len]; omega)=chs d j:=by simp[chsRow]
theorem chsMid_next {d c k:Nat} (h:k+1≤c):(chsMid d c (k+1)).set (k+1) (chs d (k+1)+chs d k)=chsMid d c k:=by
 refine List.ext_getElem (by simp[chsMid_len]) fun j h1 h2=>?_
 rw[chsMid_len] at h2;rw[List.getElem_set]
 split
 ·rename_i e; subst e
  rw[chsMid_get (by omega),if_pos (by omega)]; rfl
 ·rename_i e
  rw[chsMid_get (by omega),chsMid_get (by omega)]
  by_cases hj:k<j
  ·rw[if_pos hj,if_pos (by omega)]
  ·rw[if_neg hj,if_neg (by omega)]
theorem chsRow_zero (c:Nat):chsRow 0 c=List.replicate (c+1) 1:=by
 refine List.ext_getElem (by simp[chsRow_len]) fun j h1 h2=>?_
 rw[chsRow_len] at h1;rw[chsRow_get (by omega),List.getElem_replicate]
 cases j <;> rfl
def hatsOkB (n:Int) (hs:List Int):Bool:=decide (1≤n)&&decide (n≤5)&&(decide (1≤hs.length)&&decide (hs.length≤5))&&hs.all fun y=>decide (0≤y)&&decide (y≤n-1)
def hatAt (n:Int) (hs:List Int) (i:Nat):Int:=((i:Int)-(totL hs-hs.getD i 0))%n
def hatsL (n:Int) (hs:List Int):List Int:=if hatsOkB n hs=true then (List.range hs.length).map fun i=>hatAt n hs i else []
theorem hatsOkB_iff {n:Int} {hs:List Int}:hatsOkB n hs=true↔(1≤n∧n≤5)∧(1≤hs.length∧hs.length≤5)∧∀ y∈hs,0≤y∧y≤n-1:=by
 unfold hatsOkB;simp only[Bool.and_eq_true,decide_eq_true_eq,List.all_eq_true]
 constructor
 ·rintro ⟨⟨h1,h2⟩,h3⟩; exact ⟨h1,h2,fun y hy=>h3 y hy⟩
 ·rintro ⟨h1,h2,h3⟩; exact ⟨⟨h1,h2⟩,fun y hy=>h3 y hy⟩
theorem hatAt_rng {n:Int} (hs:List Int) (i:Nat) (h:1≤n):0≤hatAt n hs i∧hatAt n hs i<n:=by
 unfold hatAt;exact ⟨Int.emod_nonneg _ (by omega),Int.emod_lt_of_pos _ (by omega)⟩
theorem hatsL_mem {n:Int} {hs:List Int} {y:Int} (h:y∈hatsL n hs):0≤y∧y≤9:=by
 unfold hatsL at h
 split at h
 ·rename_i hb
  obtain ⟨h1,_⟩:=hatsOkB_iff.1 hb;obtain ⟨i,_,rfl⟩:=List.mem_map.1 h;have:=hatAt_rng hs i h1.1;omega
 ·simp at h
theorem hatsL_len {n:Int} {hs:List Int}:(hatsL n hs).length≤5:=by
 unfold hatsL
 split
 ·rename_i hb
  have:=(hatsOkB_iff.1 hb).2.1;simp; omega
 ·simp
theorem fewA_rng (row:List Int):∀ m n,-1≤fewA row m n∧fewA row m n≤n+m
 | 0,n=>by simp only[fewA]; omega
 | m+1,n=>by
  have:=fewA_rng row m (n+1);simp only[fewA]
  split <;> omega
theorem fewB_rng (row:List Int):-1≤fewB row∧fewB row≤10:=by
 unfold fewB
 split
 ·have:=fewA_rng row 10 0; omega
 ·omega
end
end Go.Proofs.YtenlngclocfnlaaGreatDoor
