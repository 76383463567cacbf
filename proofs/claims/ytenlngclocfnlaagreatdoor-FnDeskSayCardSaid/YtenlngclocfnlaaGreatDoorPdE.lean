/- Texts of this claim, put together: BunD, Table, Beside, Beside2, Cat, Cat2, Left, Met, Hunt. -/
import Derived.Test.YtenlngclocfnlaaGreatDoorPdA
import Derived.Shelf.Abstract
import Derived.Lib.SliceRun
import Derived.Test.YtenlngclocfnlaaGreatDoorPdGD
namespace Go.Proofs.YtenlngclocfnlaaGreatDoor
set_option linter.unusedVariables false
section
open Go.RowKit Go.Shelf
def idxN (p:Nat→Bool) (n:Nat):Int:=match (List.range n).find? p with | some i=>(i:Int) | none=>-1
def anyN (p:Nat→Bool) (n:Nat):Bool:=(List.range n).any p
theorem idxN_hit {p:Nat→Bool} {n k:Nat} (hk:k<n) (h:∀ j,j<k→p j=false) (hp:p k=true):idxN p n=k:=by
 have:(List.range n).find? p=some k:=by
  rw[List.find?_range_eq_some];exact ⟨hp,by simpa using hk,fun j hj=>by simp[h j hj]⟩
 unfold idxN;rw[this]
theorem idxN_none {p:Nat→Bool} {n:Nat} (h:∀ j,j<n→p j=false):idxN p n=-1:=by
 have:(List.range n).find? p=none:=by
  rw[List.find?_eq_none];intro x hx;simp[h x (by simpa using hx)]
 unfold idxN;rw[this]
theorem idxN_nonneg (p:Nat→Bool) (n:Nat):decide (0≤idxN p n)=anyN p n:=by
 unfold idxN anyN
 cases h:(List.range n).find? p with
 | none=>
  rw[List.find?_eq_none] at h;have:(List.range n).any p=false:=by
   rw[List.any_eq_false]; exact h
  rw[this]; rfl
 | some i=>
  have h1:=List.find?_some h;have h2:=List.mem_of_find?_eq_some h;have:(List.range n).any p=true:=List.any_eq_true.2 ⟨i,h2,h1⟩;rw[this]; simp
theorem upto_step {p:Nat→Bool} {k:Nat} (h:∀ j,j<k→p j=false) (hp:p k=false):∀ j,j<k+1→p j=false:=by
 intro j hj
 by_cases e:j<k
 ·exact h j e
 ·have e2:j=k:=by omega
  rw[e2]; exact hp
def Tells (g:Nat) (lb:Array Value) (vs:List Value) (p:Nat→Bool) (w:World):Prop:=
 (∀ args W,(callFunc g args).run Tryz.prog W=.ok (.enter g args) W) ∧
 ∀ W,Below w.heap.size w W→∀ i (h:i<vs.length),Calls Tryz.prog g (#[vs[i]]++lb) W fun e W'=>e=.returned (.bool (p i))∧Below W.heap.size W W'
set_option maxHeartbeats 400000 in
theorem index_int {B:Nat} (v:Value) (vs:List Value) (w:World) (h:SL B w v vs) (g:Nat) (lb:Array Value) (p:Nat→Bool) (hf:Tells g lb vs p w):
  Calls Tryz.prog 130 #[v,.func (.func g) #[] lb] w fun e w'=>e=.returned (.int .i64 (idxN p vs.length))∧Below w.heap.size w w':=by
 obtain ⟨a,cap,rfl,hcap,hmax,hcells⟩:=h;obtain ⟨eg,hf⟩:=hf;go_enter Tryz.func130,Tryz.ntmps130;go_wp2;go_loopw [8] (fun i wr=>∃ k:Nat,k≤vs.length∧i=.int .i64 k∧(∀ j,j<k→p j=false)∧Below w.heap.size w wr) (fun i _=>vs.length-(intOf i).toNat)
 case atStart=>exact ⟨0,Nat.zero_le _,rfl,by omega,Below.refl _ _⟩
 case round=>
  obtain ⟨k,hk,rfl,hn,hb⟩:=hrel;have HN:=hdd hn;have HB:=hdd hb
  by_cases hlt:k<vs.length
  ·obtain ⟨b,off,rfl,_,hc⟩:=hcells (by omega)
   have hck:=(Above.of_below (B:=0) hb).cell (Nat.zero_le _) (hc k hlt);have hF:=hf wr hb k hlt;obtain ⟨u,hu⟩:∃ u,u=vs[k]:=⟨_,rfl⟩
   rw[←hu] at hck hF;clear hc hcells hf hn hb hu
   cases hp:p k
   ·rw[hp] at hF
    have HP:=hdd hp;clear hp;go_wp2_with fail;refine hF.mono ?_;rintro e w2 ⟨rfl,hb2⟩;have HB2:=hdd hb2;clear hb2;go_wp2;go_roundw
    case rel=>exact ⟨k+1,by omega,by go_num,upto_step HN.out HP.out,HB.out.trans (HB2.out.mono HB.out.size)⟩
    case measure=>simp[intOf]; omega
   ·rw[hp] at hF
    have HP:=hdd hp;clear hp;go_wp2_with fail;refine hF.mono ?_;rintro e w2 ⟨rfl,hb2⟩;have HB2:=hdd hb2;clear hb2;go_wp2;go_ret;exact ⟨ret_int (by rw[idxN_hit hlt HN.out HP.out]),HB.out.trans (HB2.out.mono HB.out.size)⟩
  ·have e:k=vs.length:=by omega
   have HE:=hdd e;clear e hn hb hf;go_wp2;go_ret;exact ⟨ret_int (by rw[idxN_none (by rw[←HE.out]; exact HN.out)]),HB.out⟩
theorem contains_int {B:Nat} (v:Value) (vs:List Value) (w:World) (h:SL B w v vs) (g:Nat) (lb:Array Value) (p:Nat→Bool) (hf:Tells g lb vs p w):
  Calls Tryz.prog 94 #[v,.func (.func g) #[] lb] w fun e w'=>e=.returned (.bool (anyN p vs.length))∧Below w.heap.size w w':=by
 have hI:=index_int v vs w h g lb p hf;have hE:=hdd (idxN_nonneg p vs.length);clear h hf;go_enter Tryz.func94,Tryz.ntmps94;go_wp2_with fail;refine hI.mono ?_;rintro e w2 ⟨rfl,hb2⟩;have HB2:=hdd hb2;clear hb2;go_wp2;go_ret;exact ⟨ret_bool (by rw[←hE.out]),HB2.out⟩
theorem anyN_getD {α:Type} (f:α→Bool) (xs:List α) (d:α):anyN (fun i=>f (xs.getD i d)) xs.length=xs.any f:=by
 rw[Bool.eq_iff_iff];unfold anyN;rw[List.any_eq_true,List.any_eq_true]
 constructor
 ·rintro ⟨i,hi,h⟩
  have hi':i<xs.length:=by simpa using hi
  exact ⟨xs[i],List.getElem_mem _,by simpa [List.getD,List.getElem?_eq_getElem hi'] using h⟩
 ·rintro ⟨x,hx,h⟩
  obtain ⟨i,hi,rfl⟩:=List.getElem_of_mem hx;exact ⟨i,by simpa using hi,by simpa [List.getD,List.getElem?_eq_getElem hi] using h⟩
def allB (xs:List Int) (lo hi:Int):Bool:=xs.all fun x=>inB x lo hi
theorem allB_any (xs:List Int) (lo hi:Int):(!anyN (fun i=>!inB (xs.getD i 0) lo hi) xs.length)=allB xs lo hi:=by
 rw[anyN_getD (fun x=>!inB x lo hi) xs 0];unfold allB;rw[List.not_any_eq_all_not];simp
theorem allIn1_tells (xs:List Int) (lo hi:Int) (w:World) (b c:Nat) (hb:w.cell? ⟨b,0,none⟩=some (.int .i64 lo)) (hc:w.cell? ⟨c,0,none⟩=some (.int .i64 hi)):
  Tells 95 #[.pointer (some ⟨b,0,none⟩),.pointer (some ⟨c,0,none⟩)] (ints xs) (fun i=>!inB (xs.getD i 0) lo hi) w:=by
 refine ⟨enters_of Tryz.func95 (by kernel_rfl) rfl,fun W hB i h=>?_⟩;have hb':=(Above.of_below (B:=0) hB).cell (Nat.zero_le _) hb;have hc':=(Above.of_below (B:=0) hB).cell (Nat.zero_le _) hc;rw[ints_get];have hi':i<xs.length:=by simpa using h
 obtain ⟨x,hx⟩:∃ x,x=xs[i]:=⟨_,rfl⟩
 have hx2:xs.getD i 0=x:=by rw[hx]; simp[List.getD,List.getElem?_eq_getElem hi']
 rw[←hx]
 show Calls _ _ _ _ (fun e W'=>e=.returned (.bool (!inB (xs.getD i 0) lo hi))∧_)
 rw[hx2];clear hx hx2 hb hc hB h hi'
 show Calls _ _ #[.int .i64 x,.pointer (some ⟨b,0,none⟩),.pointer (some ⟨c,0,none⟩)] _ _
 go_enter Tryz.func95,Tryz.ntmps95;go_wp2_with (go_at_call 54; refine (in_any _ _ _ _).mono ?_; rintro e w' ⟨rfl,rfl⟩);go_ret;exact ⟨rfl,Below.refl _ _⟩
theorem allIn_any {B:Nat} (v:Value) (xs:List Int) (lo hi:Int) (w:World) (h:Ints B w v xs):
  Calls Tryz.prog 55 #[v,.int .i64 lo,.int .i64 hi] w fun e w'=>e=.returned (.bool (allB xs lo hi))∧Below w.heap.size w w':=by
 have hE:=hdd (allB_any xs lo hi);go_enter Tryz.func55,Tryz.ntmps55;go_wp2_with fail;have hb2:Below w.heap.size w ((w.alloc (.cells #[.int .i64 lo] 3)).alloc (.cells #[.int .i64 hi] 3)):=((Below.refl _ _).alloc (Nat.le_refl _) _).alloc (by simp) _;have hT:=allIn1_tells xs lo hi ((w.alloc (.cells #[.int .i64 lo] 3)).alloc (.cells #[.int .i64 hi] 3)) w.heap.size (w.heap.size+1) (by simp) (by simp);refine (contains_int v (ints xs) _ (h.1.below hb2) _ _ _ hT).mono ?_;rintro e w2 ⟨rfl,hb3⟩;have HB:=hdd (hb2.trans (hb3.mono hb2.size));clear hb3 hb2 hT h;rw[ints_length];obtain ⟨r,hr⟩:∃ r,r=anyN (fun i=>!inB (xs.getD i 0) lo hi) xs.length:=⟨_,rfl⟩
 have HR:=hdd hr;rw[←hr];clear hr;go_wp2;go_ret;exact ⟨ret_bool (by rw[←hE.out,←HR.out]),HB.out⟩
end
section
open Go.RowKit Go.Shelf
set_option maxRecDepth 100000
theorem in_yes (n lo hi:Int) (w:World) (h:lo≤n∧n≤hi):
  Calls Tryz.prog 54 #[.int .i64 n,.int .i64 lo,.int .i64 hi] w fun e w'=>e=.returned (.bool true)∧w=w':=by
 have q:=in_any n lo hi w;rw[show inB n lo hi=true from decide_eq_true h] at q;exact q
theorem in_no (n lo hi:Int) (w:World) (h:¬(lo≤n∧n≤hi)):
  Calls Tryz.prog 54 #[.int .i64 n,.int .i64 lo,.int .i64 hi] w fun e w'=>e=.returned (.bool false)∧w=w':=by
 have q:=in_any n lo hi w;rw[show inB n lo hi=false from decide_eq_false h] at q;exact q
theorem codesI_any (p c:Int) (w:World):
  Calls Tryz.prog 145 #[.int .i64 p,.int .i64 c] w fun e w'=>e=.returned (.bool (codesB p c))∧w=w':=by
 by_cases h1:1≤p∧p≤3
 ·have q1:=in_yes p 1 3 w h1
  by_cases h2:1≤c∧c≤5
  ·have q2:=in_yes c 1 5 w h2
   have HR:=hdd (show codesB p c=true from codesB_iff.2 ⟨h1,h2⟩);clear h1 h2;go_enter Tryz.func145,Tryz.ntmps145;go_wp2_with fail;refine q1.mono ?_;rintro e w2 ⟨rfl,rfl⟩;clear q1;go_wp2_with fail;refine q2.mono ?_;rintro e w2 ⟨rfl,rfl⟩;clear q2;go_wp2;go_ret;exact ⟨ret_bool (by rw[HR.out]),rfl⟩
  ·have q2:=in_no c 1 5 w h2
   have HR:=hdd (show codesB p c=false from by rw[←Bool.not_eq_true,codesB_iff]; exact fun q=>h2 q.2);clear h1 h2;go_enter Tryz.func145,Tryz.ntmps145;go_wp2_with fail;refine q1.mono ?_;rintro e w2 ⟨rfl,rfl⟩;clear q1;go_wp2_with fail;refine q2.mono ?_;rintro e w2 ⟨rfl,rfl⟩;clear q2;go_wp2;go_ret;exact ⟨ret_bool (by rw[HR.out]),rfl⟩
 ·have q1:=in_no p 1 3 w h1
  have HR:=hdd (show codesB p c=false from by rw[←Bool.not_eq_true,codesB_iff]; exact fun q=>h1 q.1);clear h1;go_enter Tryz.func145,Tryz.ntmps145;go_wp2_with fail;refine q1.mono ?_;rintro e w2 ⟨rfl,rfl⟩;clear q1;go_wp2;go_ret;exact ⟨ret_bool (by rw[HR.out]),rfl⟩
theorem inRow_all (c:Int) (xs:List Int):inRow c xs=allB xs 0 (c-1):=rfl
theorem codeOkI_any {B:Nat} (p c:Int) (v:Value) (xs:List Int) (w:World) (h:Ints B w v xs):
  Calls Tryz.prog 144 #[.int .i64 p,.int .i64 c,v] w fun e w'=>e=.returned (.bool (codeOkB p c xs))∧Below w.heap.size w w':=by
 have hC:=codesI_any p c w
 cases hc:codesB p c
 ·rw[hc] at hC
  have HR:=hdd (show codeOkB p c xs=false from by unfold codeOkB; rw[hc]; rfl);obtain ⟨a,cap,rfl,_⟩:=h.opened;clear hc h;go_enter Tryz.func144,Tryz.ntmps144;go_wp2_with fail;refine hC.mono ?_;rintro e w2 ⟨rfl,rfl⟩;clear hC;go_wp2;go_ret;exact ⟨ret_bool (by rw[HR.out]),Below.refl _ _⟩
 ·rw[hc] at hC
  obtain ⟨⟨h1,h2⟩,h3,h4⟩:=codesB_iff.1 hc
  cases hl:((xs.length:Int)==p)
  ·have HR:=hdd (show codeOkB p c xs=false from by unfold codeOkB; rw[decide_eq_false (by simpa using hl)]; simp)
   obtain ⟨a,cap,rfl,_⟩:=h.opened;clear hc h;go_enter Tryz.func144,Tryz.ntmps144;go_wp2_with fail;refine hC.mono ?_;rintro e w2 ⟨rfl,rfl⟩;clear hC;go_wp2;go_ret;exact ⟨ret_bool (by rw[HR.out]),Below.refl _ _⟩
  ·have HR:=hdd (show codeOkB p c xs=allB xs 0 (c-1) from by unfold codeOkB; rw[hc,decide_eq_true (by simpa using hl),inRow_all]; rfl)
   have hA:=allIn_any v xs 0 (c-1) w h;obtain ⟨a,cap,rfl,_⟩:=h.opened;clear hc h;obtain ⟨r,hr⟩:∃ r,r=allB xs 0 (c-1):=⟨_,rfl⟩
   rw[←hr] at hA HR;clear hr;go_enter Tryz.func144,Tryz.ntmps144;go_wp2_with fail;refine hC.mono ?_;rintro e w2 ⟨rfl,rfl⟩;clear hC;go_wp2_with fail;refine hA.mono ?_;rintro e w2 ⟨rfl,hb2⟩;have HB2:=hdd hb2;clear hA hb2;go_wp2;go_ret;exact ⟨ret_bool (by rw[HR.out]),HB2.out⟩
end
section
open Go.RowKit
set_option maxRecDepth 100000
def manyL (x y:List Int) (k m:Nat):List Int:=((List.range 5).map fun (c:Nat)=>((cntK x c k:Nat):Int))++(List.range 5).map fun (c:Nat)=>((cntK y c m:Nat):Int)
def manyA (x y:List Int) (k m:Nat):Array Value:=(ints (manyL x y k m)).toArray
theorem manyA_x (x y:List Int) (k m:Nat) {c:Nat} (h:c<5):(manyA x y k m)[c]?=some (.int .i64 (cntK x c k:Nat)):=by
 have:c=0∨c=1∨c=2∨c=3∨c=4:=by omega
 rcases this with rfl | rfl | rfl | rfl | rfl <;> rfl
theorem manyA_y (x y:List Int) (k m:Nat) {c:Nat} (h:c<5):(manyA x y k m)[5+c]?=some (.int .i64 (cntK y c m:Nat)):=by
 have:c=0∨c=1∨c=2∨c=3∨c=4:=by omega
 rcases this with rfl | rfl | rfl | rfl | rfl <;> rfl
theorem manyL_x {x y:List Int} {k m c:Nat} (hk:k<x.length) (hx:x[k]=(c:Int)) (h:c<5):(manyL x y k m).set c ((cntK x c k:Nat)+1:Int)=manyL x y (k+1) m:=by
 refine List.ext_getElem (by simp[manyL]) fun i h1 h2=>?_
 rw[List.getElem_set]
 split
 ·rename_i e
  subst e;simp only[manyL];rw[List.getElem_append_left (by simpa using h)];simp only[List.getElem_map,List.getElem_range];rw[cntK_hit hk hx]; push_cast; rfl
 ·rename_i e
  simp only[manyL]
  by_cases hi:i<5
  ·rw[List.getElem_append_left (by simpa using hi),List.getElem_append_left (by simpa using hi)]
   simp only[List.getElem_map,List.getElem_range];rw[cntK_miss hk (by rw[hx]; omega)]
  ·rw[List.getElem_append_right (by simp; omega),List.getElem_append_right (by simp; omega)]
   simp only[List.getElem_map,List.getElem_range,List.length_map]
theorem manyL_y {x y:List Int} {k m c:Nat} (hk:m<y.length) (hy:y[m]=(c:Int)) (h:c<5):(manyL x y k m).set (5+c) ((cntK y c m:Nat)+1:Int)=manyL x y k (m+1):=by
 refine List.ext_getElem (by simp[manyL]) fun i h1 h2=>?_
 rw[List.getElem_set]
 split
 ·rename_i e
  subst e;simp only[manyL];rw[List.getElem_append_right (by simp)];simp only[List.getElem_map,List.getElem_range,List.length_map,List.length_range,Nat.add_sub_cancel_left];rw[cntK_hit hk hy]; push_cast; rfl
 ·rename_i e
  simp only[manyL]
  by_cases hi:i<5
  ·rw[List.getElem_append_left (by simpa using hi),List.getElem_append_left (by simpa using hi)]
  ·rw[List.getElem_append_right (by simp; omega)]
   rw[List.getElem_append_right (by simp; omega)];simp only[List.getElem_map,List.getElem_range,List.length_map,List.length_range];rw[cntK_miss hk (by rw[hy]; omega)]
theorem manyA_setx {x y:List Int} {k m c:Nat} (hk:k<x.length) (hx:x[k]=(c:Int)) (h:c<5):(manyA x y k m).setIfInBounds c (.int .i64 ((cntK x c k:Nat)+1:Int))=manyA x y (k+1) m:=by
 unfold manyA;rw[List.setIfInBounds_toArray,ints_set,manyL_x hk hx h]
theorem manyA_sety {x y:List Int} {k m c:Nat} (hk:m<y.length) (hy:y[m]=(c:Int)) (h:c<5):(manyA x y k m).setIfInBounds (5+c) (.int .i64 ((cntK y c m:Nat)+1:Int))=manyA x y k (m+1):=by
 unfold manyA;rw[List.setIfInBounds_toArray,ints_set,manyL_y hk hy h]
def AnsSt (b:Nat) (x y:List Int) (k:Nat) (r n:Int) (w:World):Prop:=
 w.heap[b]?=some (.cells #[.int .i64 0,.int .i64 0] 174 (0,0))∧w.heap[b+1]?=some (.cells #[.int .i64 r,.int .i64 n] 174 (0,0))∧w.heap[b+1+1]?=some (.cells (manyA x y k k) 188 (0,0))
theorem ansSt_start (w:World) (x y:List Int):AnsSt w.heap.size x y 0 0 0 (((w.alloc (.cells #[.int .i64 0,.int .i64 0] 174)).alloc (.cells #[.int .i64 0,.int .i64 0] 174)).alloc (.cells (manyA x y 0 0) 188)):=by
 refine ⟨?_,?_,?_⟩
 ·rw[haoM _ _ (by simp; omega),haoM _ _ (by simp)]; exact heap_alloc_new w _
 ·rw[haoM _ _ (by simp)]; have q:=@Go.heap_alloc_new (w.alloc (.cells #[.int .i64 0,.int .i64 0] 174)) (.cells #[.int .i64 0,.int .i64 0] 174); rw[World.size_alloc] at q; exact q
 ·have q:=@Go.heap_alloc_new ((w.alloc (.cells #[.int .i64 0,.int .i64 0] 174)).alloc (.cells #[.int .i64 0,.int .i64 0] 174)) (.cells (manyA x y 0 0) 188); rw[World.size_alloc,World.size_alloc] at q; exact q
def AnsOut (x y:List Int) (w:World) (e:Ending) (w':World):Prop:=e=.returned (.agg #[.int .i64 (rightZ x y),.int .i64 (nearZ x y)])∧Below w.heap.size w w'
set_option maxHeartbeats 4000000 in
theorem answerI_any {B C:Nat} (u v:Value) (x y:List Int) (w:World) (hx:Ints B w u x) (hy:Ints C w v y) (hl:x.length=y.length) (hl3:x.length≤1000) (h5:∀ z∈x,0≤z∧z<5) (h6:∀ z∈y,0≤z∧z<5):
  Calls Tryz.prog 150 #[u,v] w (AnsOut x y w):=by
 obtain ⟨a,cap,rfl,hcap,hmax,hcells⟩:=hx.opened;obtain ⟨b,cap',rfl,hcap',hmax',hcells'⟩:=hy.opened;have HLL:=hdd hl;have H5:=hdd h5;have H6:=hdd h6;have HST:=hdd (ansSt_start w x y);have HBS:=hdd ((((Below.refl w.heap.size w).alloc (Nat.le_refl _) (.cells #[.int .i64 0,.int .i64 0] 174)).alloc (by simp) (.cells #[.int .i64 0,.int .i64 0] 174)).alloc (by simp; omega) (.cells (manyA x y 0 0) 188));clear hl h5 h6 hx hy;go_enter Tryz.func150,Tryz.ntmps150;go_wp2;go_loopw [12] (fun i wr=>∃ k:Nat,k≤x.length∧i=.int .i64 k∧AnsSt w.heap.size x y k (rightN x y k:Nat) 0 wr∧Below w.heap.size w wr) (fun i _=>x.length-(intOf i).toNat)
 case atStart=>exact ⟨0,Nat.zero_le _,rfl,HST.out,HBS.out⟩
 case round=>
  obtain ⟨k,hk,rfl,hst,hb⟩:=hrel;obtain ⟨wk,rfl⟩:∃ x,x=wr:=⟨_,rfl⟩
  have hR:=right_le x y k;obtain ⟨s0,s1,s2⟩:=hst;clear HST HBS
  by_cases hlt:k<x.length
  ·have hll:=HLL.out
   obtain ⟨b1,o1,rfl,_,hc⟩:=hcells (by omega);obtain ⟨b2,o2,rfl,_,hc'⟩:=hcells' (by omega);have hk2:k<y.length:=by omega
   have hck:=(Above.of_below (B:=0) hb).cell (Nat.zero_le _) (hc k hlt);have hck':=(Above.of_below (B:=0) hb).cell (Nat.zero_le _) (hc' k hk2);have q5:=H5.out _ (List.getElem_mem hlt);have q6:=H6.out _ (List.getElem_mem hk2);obtain ⟨c,hcx⟩:∃ c:Nat,x[k]=(c:Int):=⟨x[k].toNat,by omega⟩
   obtain ⟨d,hdy⟩:∃ d:Nat,y[k]=(d:Int):=⟨y[k].toNat,by omega⟩
   have hc5:c<5:=by omega
   have hd5:d<5:=by omega
   have HT1:=hdd (manyA_setx (y:=y) (m:=k) hlt hcx hc5);have HT2:=hdd (manyA_sety (x:=x) (k:=k+1) hk2 hdy hd5);rw[hcx] at hck;rw[hdy] at hck';have HCY:=hdd (hdy ▸ hc' k hk2);have hi0:(0:Int)≤(k:Int):=by omega
   have hi1:(k:Int)<(x.length:Int):=by omega
   have hi2:(k:Int)<(y.length:Int):=by omega
   have hi3:(0:Int)≤(c:Int):=by omega
   have hi4:(c:Int)<5:=by omega
   have hi5:(0:Int)≤(d:Int):=by omega
   have hi6:(d:Int)<5:=by omega
   have hn1:=cntK_le x c k;have hn2:=cntK_le y d k;have HLT:=hdd (And.intro hlt hk2);clear hc hcells hc' hcells' hll q5 q6
   by_cases e:c=d
   ·have e1:((c:Int)==(d:Int))=true:=by rw[e]; simp
    have u1:=heap_setCell_same _ _ 0 _ _ (.int .i64 ((rightN x y k:Nat)+1:Int)) s1;have u2:(wk.setCell ⟨w.heap.size+1,0,none⟩ (.int .i64 ((rightN x y k:Nat)+1:Int))).heap[w.heap.size+1+1]?=_:=(heap_setCell_other _ _ _ _ (by simp)).trans s2;have u0:(wk.setCell ⟨w.heap.size+1,0,none⟩ (.int .i64 ((rightN x y k:Nat)+1:Int))).heap[w.heap.size]?=_:=(heap_setCell_other _ _ _ _ (by simp)).trans s0;have l0:=cell_of_row _ _ 0 _ _ (0,0) s1;have f0:=frozen_of_row _ _ 0 _ _ s1;have HN:=hdd (rightN_hit (x:=x) (y:=y) hlt hk2 (by rw[hcx,hdy,e]));simp only[List.getElem?_toArray,List.getElem?_cons_zero] at l0;have v2:=heap_setCell_same (wk.setCell ⟨w.heap.size+1,0,none⟩ (.int .i64 ((rightN x y k:Nat)+1:Int))) _ c _ _ (.int .i64 ((cntK x c k:Nat)+1:Int)) u2;rw[HT1.out] at v2;have v1:((wk.setCell ⟨w.heap.size+1,0,none⟩ (.int .i64 ((rightN x y k:Nat)+1:Int))).setCell ⟨w.heap.size+1+1,c,none⟩ (.int .i64 ((cntK x c k:Nat)+1:Int))).heap[w.heap.size+1]?=_:=(heap_setCell_other _ _ _ _ (by simp)).trans u1;have v0:((wk.setCell ⟨w.heap.size+1,0,none⟩ (.int .i64 ((rightN x y k:Nat)+1:Int))).setCell ⟨w.heap.size+1+1,c,none⟩ (.int .i64 ((cntK x c k:Nat)+1:Int))).heap[w.heap.size]?=_:=(heap_setCell_other _ _ _ _ (by simp; omega)).trans u0;have l1:=(cell_of_row _ _ c _ _ (0,0) u2).trans (manyA_x x y k k hc5);have l2:=(cell_of_row _ _ (5+d) _ _ (0,0) v2).trans (manyA_y x y (k+1) k hd5);have f1:=frozen_of_row _ _ c _ _ u2;have f2:=frozen_of_row _ _ (5+d) _ _ v2;have w2:=heap_setCell_same _ _ (5+d) _ _ (.int .i64 ((cntK y d k:Nat)+1:Int)) v2;rw[HT2.out] at w2;have w1:=(heap_setCell_other ((wk.setCell ⟨w.heap.size+1,0,none⟩ (.int .i64 ((rightN x y k:Nat)+1:Int))).setCell ⟨w.heap.size+1+1,c,none⟩ (.int .i64 ((cntK x c k:Nat)+1:Int))) ⟨w.heap.size+1+1,5+d,none⟩ (w.heap.size+1) (.int .i64 ((cntK y d k:Nat)+1:Int)) (by simp)).trans v1;have w0:=(heap_setCell_other ((wk.setCell ⟨w.heap.size+1,0,none⟩ (.int .i64 ((rightN x y k:Nat)+1:Int))).setCell ⟨w.heap.size+1+1,c,none⟩ (.int .i64 ((cntK x c k:Nat)+1:Int))) ⟨w.heap.size+1+1,5+d,none⟩ (w.heap.size) (.int .i64 ((cntK y d k:Nat)+1:Int)) (by simp; omega)).trans v0
    have m2:=(Above.of_below (B:=0) ((hb.setCell (p:=⟨w.heap.size+1,0,none⟩) (by simp) (.int .i64 ((rightN x y k:Nat)+1:Int))).setCell (p:=⟨w.heap.size+1+1,c,none⟩) (by simp; omega) (.int .i64 ((cntK x c k:Nat)+1:Int)))).cell (Nat.zero_le _) HCY.out;have HS:=hdd (And.intro w0 (And.intro w1 w2));have HB:=hdd hb;clear w0 w1 w2 v0 v1 v2 u0 u1 u2 hb s0 s1 s2 hcx hdy HT1 HT2;clear e;go_wp2;go_roundw
    case rel=>exact ⟨k+1,by omega,by go_num,by rw[HN.out]; exact HS.out,((HB.out.setCell (p:=⟨w.heap.size+1,0,none⟩) (by simp) _).setCell (p:=⟨w.heap.size+1+1,c,none⟩) (by simp; omega) _).setCell (p:=⟨w.heap.size+1+1,5+d,none⟩) (by simp; omega) _⟩
    case measure=>simp[intOf]; omega
   ·have e1:((c:Int)==(d:Int))=false:=by rw[beq_eq_false_iff_ne]; omega
    have u1:=s1;have u2:=s2;have u0:=s0;have HN:=hdd (rightN_miss (x:=x) (y:=y) hlt hk2 (by rw[hcx,hdy]; omega));have v2:=heap_setCell_same wk _ c _ _ (.int .i64 ((cntK x c k:Nat)+1:Int)) u2;rw[HT1.out] at v2;have v1:(wk.setCell ⟨w.heap.size+1+1,c,none⟩ (.int .i64 ((cntK x c k:Nat)+1:Int))).heap[w.heap.size+1]?=_:=(heap_setCell_other _ _ _ _ (by simp)).trans u1;have v0:(wk.setCell ⟨w.heap.size+1+1,c,none⟩ (.int .i64 ((cntK x c k:Nat)+1:Int))).heap[w.heap.size]?=_:=(heap_setCell_other _ _ _ _ (by simp; omega)).trans u0;have l1:=(cell_of_row _ _ c _ _ (0,0) u2).trans (manyA_x x y k k hc5);have l2:=(cell_of_row _ _ (5+d) _ _ (0,0) v2).trans (manyA_y x y (k+1) k hd5);have f1:=frozen_of_row _ _ c _ _ u2;have f2:=frozen_of_row _ _ (5+d) _ _ v2;have w2:=heap_setCell_same _ _ (5+d) _ _ (.int .i64 ((cntK y d k:Nat)+1:Int)) v2;rw[HT2.out] at w2;have w1:=(heap_setCell_other (wk.setCell ⟨w.heap.size+1+1,c,none⟩ (.int .i64 ((cntK x c k:Nat)+1:Int))) ⟨w.heap.size+1+1,5+d,none⟩ (w.heap.size+1) (.int .i64 ((cntK y d k:Nat)+1:Int)) (by simp)).trans v1;have w0:=(heap_setCell_other (wk.setCell ⟨w.heap.size+1+1,c,none⟩ (.int .i64 ((cntK x c k:Nat)+1:Int))) ⟨w.heap.size+1+1,5+d,none⟩ (w.heap.size) (.int .i64 ((cntK y d k:Nat)+1:Int)) (by simp; omega)).trans v0;have m2:=(Above.of_below (B:=0) (hb.setCell (p:=⟨w.heap.size+1+1,c,none⟩) (by simp; omega) (.int .i64 ((cntK x c k:Nat)+1:Int)))).cell (Nat.zero_le _) HCY.out;have HS:=hdd (And.intro w0 (And.intro w1 w2));have HB:=hdd hb;clear w0 w1 w2 v0 v1 v2 u0 u1 u2 hb s0 s1 s2 hcx hdy HT1 HT2;clear e;go_wp2;go_roundw
    case rel=>exact ⟨k+1,by omega,by go_num,by rw[HN.out]; exact HS.out,(HB.out.setCell (p:=⟨w.heap.size+1+1,c,none⟩) (by simp; omega) _).setCell (p:=⟨w.heap.size+1+1,5+d,none⟩) (by simp; omega) _⟩
    case measure=>simp[intOf]; omega
  ·have e:k=x.length:=by omega
   subst e;have HLX:=hdd (fun (c:Nat)=>show cntK x c x.length=cntC x c from cntK_full _ (Nat.le_refl _));have HLY:=hdd (fun (c:Nat)=>show cntK y c x.length=cntC y c from cntK_full _ (by rw[HLL.out]; exact Nat.le_refl _));have HS:=hdd (And.intro s0 (And.intro s1 s2));have HB:=hdd hb;clear hcells hcells' s0 s1 s2 hb hlt;go_wp2;go_loopw [45] (fun i wr=>∃ j:Nat,j≤5∧i=.int .i64 j∧AnsSt w.heap.size x y x.length (rightN x y x.length:Nat) (bothN x y j:Nat) wr∧Below w.heap.size w wr) (fun i _=>5-(intOf i).toNat)
   case atStart=>exact ⟨0,Nat.zero_le _,rfl,HS.out,HB.out⟩
   case round=>
    obtain ⟨j,hj,rfl,hst,hb⟩:=hrel;obtain ⟨wj,rfl⟩:∃ x,x=wr:=⟨_,rfl⟩
    obtain ⟨s0,s1,s2⟩:=hst;have hB:=both_len (x:=x) (y:=y) (c:=j);clear HS HB
    by_cases hlt:j<5
    ·have l1:=(cell_of_row _ _ j _ _ (0,0) s2).trans (manyA_x x y x.length x.length hlt)
     have l2:=(cell_of_row _ _ (5+j) _ _ (0,0) s2).trans (manyA_y x y x.length x.length hlt);have l3:=cell_of_row _ _ 1 _ _ (0,0) s1;have f3:=frozen_of_row _ _ 1 _ _ s1;rw[HLX.out] at l1;rw[HLY.out] at l2;simp only[List.getElem?_toArray,List.getElem?_cons_zero,List.getElem?_cons_succ] at l3;have u1:=heap_setCell_same _ _ 1 _ _ (.int .i64 (((bothN x y j:Nat):Int)+(min (cntC x j) (cntC y j):Nat))) s1;have u2:=(heap_setCell_other wj ⟨w.heap.size+1,1,none⟩ (w.heap.size+1+1) (.int .i64 (((bothN x y j:Nat):Int)+(min (cntC x j) (cntC y j):Nat))) (by simp)).trans s2;have u0:=(heap_setCell_other wj ⟨w.heap.size+1,1,none⟩ (w.heap.size) (.int .i64 (((bothN x y j:Nat):Int)+(min (cntC x j) (cntC y j):Nat))) (by simp)).trans s0;have HS:=hdd (And.intro u0 (And.intro u1 u2));have HB:=hdd hb;have hi0:(0:Int)≤(j:Int):=by omega
     have hi1:(j:Int)<5:=by omega
     have hc1:cntC x j≤x.length:=List.count_le_length;have HST:=hdd (show bothN x y (j+1)=bothN x y j+min (cntC x j) (cntC y j) from rfl);clear s0 s1 s2 u0 u1 u2 hb
     rcases Nat.lt_or_ge (cntC y j) (cntC x j) with hm | hm
     ·have hm1:((cntC y j:Nat):Int)<(cntC x j:Nat):=by omega
      have HM:=hdd (Nat.min_eq_right (Nat.le_of_lt hm));clear hm;go_wp2;go_region;go_wp2;go_roundw
      case rel=>
       refine ⟨j+1,by omega,by go_num,?_,?_⟩
       ·have q:=HS.out
        have e:((bothN x y j:Nat):Int)+(min (cntC x j) (cntC y j):Nat)=((bothN x y (j+1):Nat):Int):=by rw[HST.out]; push_cast; rfl
        rw[e] at q;rw[HM.out] at e;rw[e];exact q
       ·exact (show Drawn _ _ from ⟨1,rfl⟩).below.mono (by have:=HB.out.size; simpa using this) |> fun q=>(HB.out.setCell (p:=⟨w.heap.size+1,1,none⟩) (by simp) _).trans q
      case measure=>simp[intOf]; omega
     ·have hm1:¬((cntC y j:Nat):Int)<(cntC x j:Nat):=by omega
      have HM:=hdd (Nat.min_eq_left hm);clear hm;go_wp2;go_region;go_wp2;go_roundw
      case rel=>
       refine ⟨j+1,by omega,by go_num,?_,?_⟩
       ·have q:=HS.out
        have e:((bothN x y j:Nat):Int)+(min (cntC x j) (cntC y j):Nat)=((bothN x y (j+1):Nat):Int):=by rw[HST.out]; push_cast; rfl
        rw[e] at q;rw[HM.out] at e;rw[e];exact q
       ·exact (show Drawn _ _ from ⟨1,rfl⟩).below.mono (by have:=HB.out.size; simpa using this) |> fun q=>(HB.out.setCell (p:=⟨w.heap.size+1,1,none⟩) (by simp) _).trans q
      case measure=>simp[intOf]; omega
    ·have e:j=5:=by omega
     subst e;have l3:=cell_of_row _ _ 1 _ _ (0,0) s1;have l4:=cell_of_row _ _ 0 _ _ (0,0) s1;have f3:=frozen_of_row _ _ 1 _ _ s1;simp only[List.getElem?_toArray,List.getElem?_cons_zero,List.getElem?_cons_succ] at l3 l4;have u1:=heap_setCell_same _ _ 1 _ _ (.int .i64 (((bothN x y 5:Nat):Int)-(rightN x y x.length:Nat))) s1;have u0:=(heap_setCell_other wj ⟨w.heap.size+1,1,none⟩ (w.heap.size) (.int .i64 (((bothN x y 5:Nat):Int)-(rightN x y x.length:Nat))) (by simp)).trans s0;have m0:=cell_of_row _ _ 0 _ _ (0,0) u1;have m1:=cell_of_row _ _ 1 _ _ (0,0) u1;have n0:=cell_of_row _ _ 0 _ _ (0,0) u0;have n1:=cell_of_row _ _ 1 _ _ (0,0) u0;have g0:=frozen_of_row _ _ 0 _ _ u0;have g1:=frozen_of_row _ _ 1 _ _ u0;have v0:=heap_setCell_same _ _ 1 _ _ (.int .i64 (((bothN x y 5:Nat):Int)-(rightN x y x.length:Nat))) (heap_setCell_same _ _ 0 _ _ (.int .i64 (rightN x y x.length:Nat)) u0);simp only[List.setIfInBounds_toArray,List.set_cons_succ,List.set_cons_zero,List.getElem?_toArray,List.getElem?_cons_zero,List.getElem?_cons_succ] at u1 m0 m1 n0 n1 v0;have HB:=hdd hb;have HV:=hdd v0;have hR:=right_le x y x.length;clear s0 s1 s2 u0 u1 v0 hb;go_wp2
     ((try simp only[Exit.inBlock,Exit.then]); refine bodyPost_ret (results_cell_row rfl _ _ w.heap.size _ _ (0,0) _ rfl HV.out Tryz.underlying174 rfl (by kernel_rfl)) rfl ?_)
     exact ⟨rfl,((HB.out.setCell (p:=⟨w.heap.size+1,1,none⟩) (by simp) _).setCell (p:=⟨w.heap.size,0,none⟩) (by simp) _).setCell (p:=⟨w.heap.size,1,none⟩) (by simp) _⟩
end
section
open Go.RowKit Go.Shelf
set_option maxRecDepth 100000
def gsV (v:Value) (g:Gs):Value:=.agg #[v,.int .i64 g.right,.int .i64 g.near]
def TellsG (g:Nat) (lb:Array Value) (q:Gs→Bool) (V:Nat→Value) (gs:List Gs) (w:World):Prop:=
 (∀ args W,(callFunc g args).run Tryz.prog W=.ok (.enter g args) W) ∧
 ∀ W,Below w.heap.size w W→∀ i (h:i<gs.length),Calls Tryz.prog g (#[gsV (V i) gs[i]]++lb) W fun e W'=>e=.returned (.bool (q gs[i]))∧Below W.heap.size W W'
def atG (gs:List Gs) (i:Nat):Gs:=gs.getD i ⟨[],0,0⟩
theorem atG_get {gs:List Gs} {i:Nat} (h:i<gs.length):atG gs i=gs[i]:=by simp[atG,List.getD,List.getElem?_eq_getElem h]
set_option maxHeartbeats 1000000 in
theorem indexG_any {B:Nat} (a:Option Addr) (cap:Nat) (V:Nat→Value) (gs:List Gs) (w:World) (hcap:gs.length≤cap) (hmax:cap≤9223372036854775807)
  (hcells:0<gs.length→∃ b off,a=some ⟨b,off,none⟩∧B≤b∧∀ i (h:i<gs.length),
   w.cell? ⟨b,off+i*3,none⟩=some (V i)∧w.cell? ⟨b,off+i*3+1,none⟩=some (.int .i64 gs[i].right)∧w.cell? ⟨b,off+i*3+2,none⟩=some (.int .i64 gs[i].near))
  (g:Nat) (lb:Array Value) (q:Gs→Bool) (hf:TellsG g lb q V gs w) (hsh:∀ i,i<gs.length→∃ a n c,V i=.slice a n c):
  Calls Tryz.prog 181 #[.slice a gs.length cap,.func (.func g) #[] lb] w fun e w'=>e=.returned (.int .i64 (idxN (fun i=>q (atG gs i)) gs.length))∧Below w.heap.size w w':=by
 obtain ⟨eg,hf⟩:=hf;go_enter Tryz.func181,Tryz.ntmps181;go_wp2;go_loopw [8] (fun i wr=>∃ k:Nat,k≤gs.length∧i=.int .i64 k∧(∀ j,j<k→(fun i=>q (atG gs i)) j=false)∧Below w.heap.size w wr) (fun i _=>gs.length-(intOf i).toNat)
 case atStart=>exact ⟨0,Nat.zero_le _,rfl,by omega,Below.refl _ _⟩
 case round=>
  obtain ⟨k,hk,rfl,hn,hb⟩:=hrel;have HN:=hdd hn;have HB:=hdd hb
  by_cases hlt:k<gs.length
  ·obtain ⟨b,off,rfl,_,hc⟩:=hcells (by omega)
   obtain ⟨c1,c2,c3⟩:=hc k hlt;have d1:=(Above.of_below (B:=0) hb).cell (Nat.zero_le _) c1;have d2:=(Above.of_below (B:=0) hb).cell (Nat.zero_le _) c2;have d3:=(Above.of_below (B:=0) hb).cell (Nat.zero_le _) c3;have hF:=hf wr hb k hlt;have hq:(fun i=>q (atG gs i)) k=q gs[k]:=by simp only[atG_get hlt]
   obtain ⟨av,nv,cv,hv⟩:=hsh k hlt;rw[hv] at d1 hF;obtain ⟨u,hu⟩:∃ u,u=gs[k]:=⟨_,rfl⟩
   rw[←hu] at d2 d3 hF hq;unfold gsV at hF;have hi0:(0:Int)≤(k:Int):=by omega
   have hi1:(k:Int)<(gs.length:Int):=by omega
   clear hc hcells hf hn hb hu c1 c2 c3 hsh hv
   cases hp:q u
   ·rw[hp] at hF hq
    have HP:=hdd hq;clear hp hq;go_wp2_with fail;refine hF.mono ?_;rintro e w2 ⟨rfl,hb2⟩;have HB2:=hdd hb2;clear hb2;go_wp2;go_roundw
    case rel=>exact ⟨k+1,by omega,by go_num,upto_step HN.out HP.out,HB.out.trans (HB2.out.mono HB.out.size)⟩
    case measure=>simp[intOf]; omega
   ·rw[hp] at hF hq
    have HP:=hdd hq;clear hp hq;go_wp2_with fail;refine hF.mono ?_;rintro e w2 ⟨rfl,hb2⟩;have HB2:=hdd hb2;clear hb2;go_wp2;go_ret;exact ⟨ret_int (by rw[idxN_hit hlt HN.out HP.out]),HB.out.trans (HB2.out.mono HB.out.size)⟩
  ·have e:k=gs.length:=by omega
   have HE:=hdd e;clear e hn hb hf hcells hsh;go_wp2;go_ret;exact ⟨ret_int (by rw[idxN_none (by rw[←HE.out]; exact HN.out)]),HB.out⟩
theorem containsG_any {B:Nat} (v:Value) (gs:List Gs) (w:World) (h:GL B w v gs) (g:Nat) (lb:Array Value) (q:Gs→Bool)
  (hf:∀ V:Nat→Value,(∀ i (h:i<gs.length),Ints B w (V i) gs[i].code)→TellsG g lb q V gs w):
  Calls Tryz.prog 146 #[v,.func (.func g) #[] lb] w fun e w'=>e=.returned (.bool (gs.any q))∧Below w.heap.size w w':=by
 obtain ⟨a,cap,V,rfl,hcap,hmax,hcells,hV⟩:=h;have hI:=indexG_any a cap V gs w hcap hmax hcells g lb q (hf V hV) (fun i hi=>by obtain ⟨a,c,e,_⟩:=(hV i hi).opened; exact ⟨a,_,c,e⟩);have hE:=hdd (idxN_nonneg (fun i=>q (atG gs i)) gs.length);have hA:=hdd (anyN_getD q gs ⟨[],0,0⟩);obtain ⟨z,hz⟩:∃ z,z=idxN (fun i=>q (atG gs i)) gs.length:=⟨_,rfl⟩
 rw[←hz] at hI;have HZ:=hdd hz;clear hf hcells hV hz;go_enter Tryz.func146,Tryz.ntmps146;go_wp2_with fail;refine hI.mono ?_;rintro e w2 ⟨rfl,hb2⟩;have HB2:=hdd hb2;clear hb2;go_wp2;go_ret;exact ⟨ret_bool (by rw[←hA.out,HZ.out]; exact hE.out),HB2.out⟩
theorem wrong_tells {B:Nat} (p c:Int) (bm bl:Nat) (V:Nat→Value) (gs:List Gs) (w:World) (hV:∀ i (h:i<gs.length),Ints B w (V i) gs[i].code) (hm:w.cell? ⟨bm,0,none⟩=some (.int .i64 p)) (hl:w.cell? ⟨bl,0,none⟩=some (.int .i64 c)):
  TellsG 143 #[.pointer (some ⟨bm,0,none⟩),.pointer (some ⟨bl,0,none⟩)] (fun g=>!guessOkB p c g) V gs w:=by
 refine ⟨enters_of Tryz.func143 (by kernel_rfl) rfl,fun W hB i hi=>?_⟩;have hv:=(hV i hi).below hB;obtain ⟨g,hg⟩:∃ g,g=gs[i]:=⟨_,rfl⟩
 rw[←hg] at hv ⊢;obtain ⟨u,hu⟩:∃ u,u=V i:=⟨_,rfl⟩
 rw[←hu] at hv ⊢;obtain ⟨a,cap,rfl,_⟩:=hv.opened;have hb1:Below W.heap.size W (W.alloc (.cells #[.slice a g.code.length cap,.int .i64 g.right,.int .i64 g.near] 39)):=(Below.refl _ _).alloc (Nat.le_refl _) _;have c1:=(Above.of_below (B:=0) hb1).cell (Nat.zero_le _) ((Above.of_below (B:=0) hB).cell (Nat.zero_le _) hm);have c2:=(Above.of_below (B:=0) hb1).cell (Nat.zero_le _) ((Above.of_below (B:=0) hB).cell (Nat.zero_le _) hl);have hO:=codeOkI_any p c _ g.code _ (hv.below hb1);have HB1:=hdd hb1;have HY:=hdd (@guessOk_yes p c g);have HN1:=hdd (@guessOk_code p c g);have HN2:=hdd (@guessOk_right p c g);have HN3:=hdd (@guessOk_near p c g);clear hg hu hV hm hl hB hv hb1
 show Calls _ _ #[gsV (.slice a g.code.length cap) g,.pointer (some ⟨bm,0,none⟩),.pointer (some ⟨bl,0,none⟩)] _ _
 unfold gsV;have fin:∀ (b:Bool) (W':World),guessOkB p c g=!b→Below W.heap.size W W'→Ending.returned (.bool b)=.returned (.bool (!guessOkB p c g))∧Below W.heap.size W W':=fun b W' e hb=>⟨by rw[e,Bool.not_not],hb⟩
 have FIN:=hdd fin;clear fin
 cases ho:codeOkB p c g.code
 ·rw[ho] at hO
  have HR:=hdd (HN1.out ho);clear ho;go_enter Tryz.func143,Tryz.ntmps143;go_wp2_with fail;refine hO.mono ?_;rintro e w2 ⟨rfl,hb2⟩;have HB2:=hdd (HB1.out.trans (hb2.mono HB1.out.size));clear hO hb2;go_wp2;go_ret;exact FIN.out true _ HR.out HB2.out
 ·rw[ho] at hO
  have hz:(W.alloc (.cells #[.slice a g.code.length cap,.int .i64 g.right,.int .i64 g.near] 39)).heap[W.heap.size]?=some (.cells #[.slice a g.code.length cap,.int .i64 g.right,.int .i64 g.near] 39 (0,0)):=heap_alloc_new W _;have HZ:=hdd hz;clear hz
  by_cases hr:g.right<0
  ·have HR:=hdd (HN2.out hr)
   clear ho;go_enter Tryz.func143,Tryz.ntmps143;go_wp2_with fail;refine hO.mono ?_;rintro e w2 ⟨rfl,hb2⟩;have k1:=cell_of_row _ _ 1 _ _ (0,0) ((hb2.block W.heap.size (by simp)).trans HZ.out);simp only[List.getElem?_toArray,List.getElem?_cons_zero,List.getElem?_cons_succ] at k1;have HB2:=hdd (HB1.out.trans (hb2.mono HB1.out.size));clear hO hb2;go_wp2;go_ret;exact FIN.out true _ HR.out HB2.out
  ·by_cases hn:g.near<0
   ·have HR:=hdd (HN3.out hn)
    clear ho;go_enter Tryz.func143,Tryz.ntmps143;go_wp2_with fail;refine hO.mono ?_;rintro e w2 ⟨rfl,hb2⟩;have k1:=cell_of_row _ _ 1 _ _ (0,0) ((hb2.block W.heap.size (by simp)).trans HZ.out);have k2:=cell_of_row _ _ 2 _ _ (0,0) ((hb2.block W.heap.size (by simp)).trans HZ.out);simp only[List.getElem?_toArray,List.getElem?_cons_zero,List.getElem?_cons_succ] at k1 k2;have HB2:=hdd (HB1.out.trans (hb2.mono HB1.out.size));clear hO hb2;go_wp2;go_ret;exact FIN.out true _ HR.out HB2.out
   ·have HR:=hdd (HY.out ho hr hn)
    have hr2:decide (g.right<0)=false:=decide_eq_false hr;have hn2:decide (g.near<0)=false:=decide_eq_false hn;clear ho;go_enter Tryz.func143,Tryz.ntmps143;go_wp2_with fail;refine hO.mono ?_;rintro e w2 ⟨rfl,hb2⟩;have k1:=cell_of_row _ _ 1 _ _ (0,0) ((hb2.block W.heap.size (by simp)).trans HZ.out);have k2:=cell_of_row _ _ 2 _ _ (0,0) ((hb2.block W.heap.size (by simp)).trans HZ.out);simp only[List.getElem?_toArray,List.getElem?_cons_zero,List.getElem?_cons_succ] at k1 k2;have HB2:=hdd (HB1.out.trans (hb2.mono HB1.out.size));clear hO hb2;go_wp2;go_ret;exact FIN.out false _ HR.out HB2.out
theorem any_wrong (p c:Int) (gs:List Gs):(!gs.any fun g=>!guessOkB p c g)=gs.all (guessOkB p c):=by
 rw[List.not_any_eq_all_not];simp
set_option maxHeartbeats 1000000 in
theorem guessesI_any {B:Nat} (p c:Int) (v:Value) (gs:List Gs) (w:World) (h:GL B w v gs):
  Calls Tryz.prog 111 #[.int .i64 p,.int .i64 c,v] w fun e w'=>e=.returned (.bool (guessesB p c gs))∧Below w.heap.size w w':=by
 obtain ⟨W2,hW2⟩:∃ W2,W2=(w.alloc (.cells #[.int .i64 p] 3)).alloc (.cells #[.int .i64 c] 3):=⟨_,rfl⟩
 have hb2:Below w.heap.size w W2:=by rw[hW2]; exact ((Below.refl _ _).alloc (Nat.le_refl _) _).alloc (by simp) _
 have hC:=codesI_any p c W2;have hsh:∃ a cap,v=.slice a gs.length cap∧gs.length≤cap∧cap≤9223372036854775807:=by obtain ⟨a,cap,_,hv,h1,h2,_⟩:=h; exact ⟨a,cap,hv,h1,h2⟩
 have c1:W2.cell? ⟨w.heap.size,0,none⟩=some (.int .i64 p):=by rw[hW2]; exact cell_of_one ((haoM _ _ (by simp)).trans (heap_alloc_new w _))
 have c2:W2.cell? ⟨w.heap.size+1,0,none⟩=some (.int .i64 c):=by rw[hW2]; have q:=@Go.heap_alloc_new (w.alloc (.cells #[.int .i64 p] 3)) (.cells #[.int .i64 c] 3); rw[World.size_alloc] at q; exact cell_of_one q
 have hT:=containsG_any v gs W2 (h.below hb2) 143 #[.pointer (some ⟨w.heap.size,0,none⟩),.pointer (some ⟨w.heap.size+1,0,none⟩)] (fun g=>!guessOkB p c g) (fun V hV=>wrong_tells p c _ _ V gs W2 hV c1 c2);obtain ⟨a,cap,rfl,hcap,hmax⟩:=hsh;have HB2:=hdd hb2;have HAN:=hdd (any_wrong p c gs);rw[hW2] at hC hT;have HW:=hdd hW2;clear hb2 h c1 c2 hW2
 cases hc:codesB p c
 ·rw[hc] at hC
  have HR:=hdd (show guessesB p c gs=false from by unfold guessesB; rw[hc]; rfl);clear hc hT;go_enter Tryz.func111,Tryz.ntmps111;go_wp2_with fail;refine hC.mono ?_;rintro e w2 ⟨rfl,rfl⟩;clear hC;go_wp2;go_ret;exact ⟨ret_bool (by rw[HR.out]),by have:=HB2.out; rw[HW.out] at this; exact this⟩
 ·rw[hc] at hC
  by_cases hl:gs.length≤9
  ·have HR:=hdd (show guessesB p c gs=gs.all (guessOkB p c) from by unfold guessesB; rw[hc,decide_eq_true hl]; rfl)
   have hl2:decide ((gs.length:Int)≤9)=true:=decide_eq_true (by omega);obtain ⟨r,hr⟩:∃ r,r=gs.any fun g=>!guessOkB p c g:=⟨_,rfl⟩
   rw[←hr] at hT HAN;clear hc hr hl;go_enter Tryz.func111,Tryz.ntmps111;go_wp2_with fail;refine hC.mono ?_;rintro e w2 ⟨rfl,rfl⟩;clear hC;go_wp2_with fail;refine hT.mono ?_;rintro e w3 ⟨rfl,hb3⟩;have HB3:=hdd hb3;clear hT hb3;go_wp2;go_ret;exact ⟨ret_bool (by rw[HR.out,←HAN.out]),by have h1:=HB3.out; rw[←HW.out] at h1; exact HB2.out.trans (h1.mono HB2.out.size)⟩
  ·have HR:=hdd (show guessesB p c gs=false from by unfold guessesB; rw[decide_eq_false hl]; simp)
   have hl2:decide ((gs.length:Int)≤9)=false:=decide_eq_false (by omega);clear hc hT;go_enter Tryz.func111,Tryz.ntmps111;go_wp2_with fail;refine hC.mono ?_;rintro e w2 ⟨rfl,rfl⟩;clear hC;go_wp2;go_ret;exact ⟨ret_bool (by rw[HR.out]),by have:=HB2.out; rw[HW.out] at this; exact this⟩
def TellsR (g:Nat) (lb:Array Value) (q:List Int→Bool) (xss:List (List Int)) (w0:World):Prop:=
 (∀ args W,(callFunc g args).run Tryz.prog W=.ok (.enter g args) W) ∧
 ∀ W u x,Below w0.heap.size w0 W→OwnI 0 W u x→x∈xss→Calls Tryz.prog g (#[u]++lb) W fun e W'=>e=.returned (.bool (q x))∧Below W.heap.size W W'
def atR (xss:List (List Int)) (i:Nat):List Int:=xss.getD i []
theorem atR_get {xss:List (List Int)} {i:Nat} (h:i<xss.length):atR xss i=xss[i]:=by simp[atR,List.getD,List.getElem?_eq_getElem h]
set_option maxHeartbeats 1000000 in
theorem indexR_any {B:Nat} (v:Value) (xss:List (List Int)) (w0 w:World) (hb0:Below w0.heap.size w0 w) (h:OwnR B w v xss) (g:Nat) (lb:Array Value) (q:List Int→Bool) (hf:TellsR g lb q xss w0):
  Calls Tryz.prog 147 #[v,.func (.func g) #[] lb] w fun e w'=>e=.returned (.int .i64 (idxN (fun i=>q (atR xss i)) xss.length))∧Below w.heap.size w w':=by
 obtain ⟨a,cap,rfl,hcap,hmax⟩:=h.shape;obtain ⟨eg,hf⟩:=hf;have HH:=hdd h;have HB0:=hdd hb0;clear h hb0;go_enter Tryz.func147,Tryz.ntmps147;go_wp2;go_loopw [8] (fun i wr=>∃ k:Nat,k≤xss.length∧i=.int .i64 k∧(∀ j,j<k→(fun i=>q (atR xss i)) j=false)∧Below w.heap.size w wr) (fun i _=>xss.length-(intOf i).toNat)
 case atStart=>exact ⟨0,Nat.zero_le _,rfl,by omega,Below.refl _ _⟩
 case round=>
  obtain ⟨k,hk,rfl,hn,hb⟩:=hrel;have HN:=hdd hn;have HB:=hdd hb
  by_cases hlt:k<xss.length
  ·obtain ⟨b,u,rfl,_,hc,hou⟩:=(HH.out.below hb).at k hlt
   have hF:=hf wr u xss[k] (HB0.out.trans (hb.mono HB0.out.size)) (hou.mono (Nat.zero_le _)) (List.getElem_mem hlt);have hq:(fun i=>q (atR xss i)) k=q xss[k]:=by simp only[atR_get hlt]
   obtain ⟨au,cu,hu,_⟩:=own_shape hou;rw[hu] at hc hF;obtain ⟨x,hx⟩:∃ x,x=xss[k]:=⟨_,rfl⟩
   rw[←hx] at hF hq hc;have hi0:(0:Int)≤(k:Int):=by omega
   have hi1:(k:Int)<(xss.length:Int):=by omega
   clear hf hn hb hou hu hx
   cases hp:q x
   ·rw[hp] at hF hq
    have HP:=hdd hq;clear hp hq;go_wp2_with fail;refine hF.mono ?_;rintro e w2 ⟨rfl,hb2⟩;have HB2:=hdd hb2;clear hb2;go_wp2;go_roundw
    case rel=>exact ⟨k+1,by omega,by go_num,upto_step HN.out HP.out,HB.out.trans (HB2.out.mono HB.out.size)⟩
    case measure=>simp[intOf]; omega
   ·rw[hp] at hF hq
    have HP:=hdd hq;clear hp hq;go_wp2_with fail;refine hF.mono ?_;rintro e w2 ⟨rfl,hb2⟩;have HB2:=hdd hb2;clear hb2;go_wp2;go_ret;exact ⟨ret_int (by rw[idxN_hit hlt HN.out HP.out]),HB.out.trans (HB2.out.mono HB.out.size)⟩
  ·have e:k=xss.length:=by omega
   have HE:=hdd e;clear e hn hb hf;go_wp2;go_ret;exact ⟨ret_int (by rw[idxN_none (by rw[←HE.out]; exact HN.out)]),HB.out⟩
def DelL (ps:List (List Int)) (kp:List Int→Bool) (i j:Nat) (L:List (List Int)):Prop:=L.length=ps.length∧i<j∧j≤ps.length∧L.take i=(ps.take j).filter kp∧L.drop j=ps.drop j
theorem DelL.start {ps:List (List Int)} {kp:List Int→Bool} {k:Nat} (hk:k<ps.length) (hn:∀ j,j<k→kp (atR ps j)=true) (h:kp (atR ps k)=false):DelL ps kp k (k+1) ps:=by
 refine ⟨rfl,by omega,hk,?_,rfl⟩;rw[List.take_succ_eq_append_getElem hk,List.filter_append];rw[atR_get hk] at h;rw[List.filter_cons_of_neg (by simp[h]),List.filter_nil,List.append_nil]
 symm
 rw[List.filter_eq_self];intro x hx;obtain ⟨i,hi,rfl⟩:=List.getElem_of_mem hx;have hi':i<k:=by simp at hi; omega
 have:=hn i hi';rw[atR_get (by omega)] at this;rw[List.getElem_take];exact this
theorem DelL.get {ps:List (List Int)} {kp:List Int→Bool} {i j:Nat} {L:List (List Int)} (h:DelL ps kp i j L) (hj:j<ps.length):∃ h':j<L.length,L[j]=ps[j]:=by
 obtain ⟨h1,h2,h3,h4,h5⟩:=h;refine ⟨by omega,?_⟩;have e1:L.drop j=L[j]::L.drop (j+1):=List.drop_eq_getElem_cons (by omega);have e2:ps.drop j=ps[j]::ps.drop (j+1):=List.drop_eq_getElem_cons hj;rw[e1,e2] at h5;injection h5
theorem DelL.keep {ps:List (List Int)} {kp:List Int→Bool} {i j:Nat} {L:List (List Int)} (h:DelL ps kp i j L) (hj:j<ps.length) (hk:kp ps[j]=true):DelL ps kp (i+1) (j+1) (L.set i ps[j]):=by
 obtain ⟨h1,h2,h3,h4,h5⟩:=h;refine ⟨by simp[h1],by omega,hj,?_,?_⟩
 ·rw[List.take_succ_eq_append_getElem (by simp; omega),List.take_set_of_le (by omega),h4,List.getElem_set_self,List.take_succ_eq_append_getElem hj,List.filter_append]
  rw[List.filter_cons_of_pos hk,List.filter_nil]
 ·rw[List.drop_set_of_lt (by omega),←List.drop_drop,h5,List.drop_drop]
theorem DelL.skip {ps:List (List Int)} {kp:List Int→Bool} {i j:Nat} {L:List (List Int)} (h:DelL ps kp i j L) (hj:j<ps.length) (hk:kp ps[j]=false):DelL ps kp i (j+1) L:=by
 obtain ⟨h1,h2,h3,h4,h5⟩:=h;refine ⟨h1,by omega,hj,?_,?_⟩
 ·rw[h4,List.take_succ_eq_append_getElem hj,List.filter_append,List.filter_cons_of_neg (by simp[hk]),List.filter_nil,List.append_nil]
 ·rw[←List.drop_drop,h5,List.drop_drop]
theorem OwnR.thawed {B:Nat} {w:World} {g n cap:Nat} {xss:List (List Int)} (h:OwnR B w (.slice (some ⟨g,0,none⟩) n cap) xss) (i:Nat):w.frozen? ⟨g,i,none⟩=false:=by
 obtain ⟨vs,h1,_⟩:=h;obtain ⟨a,cap',he,_⟩:=own_shape h1;injection he with _ e2 _;subst e2;exact World.ownsRow.frozenAt h1 i
theorem OwnR.set {B:Nat} {w:World} {g n cap:Nat} {xss:List (List Int)} (h:OwnR B w (.slice (some ⟨g,0,none⟩) n cap) xss) (i:Nat) {u:Value} {x:List Int} (hu:OwnI B w u x):
  OwnR B (w.setCell ⟨g,i,none⟩ u) (.slice (some ⟨g,0,none⟩) n cap) (xss.set i x)∧w.grownBy (w.setCell ⟨g,i,none⟩ u) (some g):=by
 obtain ⟨vs,h1,h2,h3⟩:=h;obtain ⟨a,cap',he,_⟩:=own_shape h1;injection he with _ e2 _;subst e2;have hst:=(World.ownsRow.stored h1 i u).1;have hkeep:∀ z ys,OwnI B w z ys→OwnI B (w.setCell ⟨g,i,none⟩ u) z ys:=fun z ys hz=>by
  refine World.ownsRow.kept hz (grownBy_setCell w ⟨g,i,none⟩ u) ?_;have:=own_apart hz h1 (by decide)
  simpa [Value.ownBlock] using this
 refine ⟨⟨vs.set i u,by rw[List.length_set]; exact hst,by simpa using h2,fun j hj hj'=>?_⟩,grownBy_setCell w ⟨g,i,none⟩ u⟩;rw[List.getElem_set,List.getElem_set]
 split
 ·exact hkeep _ _ hu
 ·exact hkeep _ _ (h3 j (by simpa using hj) (by simpa using hj'))
theorem setCells_ownR {B:Nat} {g n cap:Nat}:∀ (k:Nat) (o:Nat) (w:World) (xss:List (List Int)),OwnR B w (.slice (some ⟨g,0,none⟩) n cap) xss →
  ∃ xss',xss'.take o=xss.take o∧OwnR B (w.setCells g o (List.replicate k (.slice none 0 0))) (.slice (some ⟨g,0,none⟩) n cap) xss'∧w.grownBy (w.setCells g o (List.replicate k (.slice none 0 0))) (some g)∧xss'.length=xss.length
 | 0,o,w,xss,h=>⟨xss,rfl,h,World.grownBy.refl _ _,rfl⟩
 | k+1,o,w,xss,h=>by
  have h1:=h.set o (OwnI.empty B w);obtain ⟨xss',q1,q2,q3,q4⟩:=setCells_ownR k (o+1) _ _ h1.1;refine ⟨xss',?_,q2,h1.2.andThen q3 (fun _ e=>by cases e; exact .inr rfl),by rw[q4]; simp⟩;have:(xss'.take (o+1)).take o=((xss.set o []).take (o+1)).take o:=by rw[q1]
  rw[List.take_take,List.take_take,show min o (o+1)=o by omega] at this;rw[this,List.take_set_of_le (Nat.le_refl _)]
theorem OwnR.cut {B:Nat} {w:World} {g n cap:Nat} {L:List (List Int)} (h:OwnR B w (.slice (some ⟨g,0,none⟩) n cap) L) (i:Nat) (hi:i≤L.length):
  OwnR B w (.slice (some ⟨g,0,none⟩) i cap) (L.take i):=by
 obtain ⟨vs,h1,h2,h3⟩:=h;refine ⟨vs.take i,?_,by simp[h2],fun j hj hj'=>?_⟩
 ·obtain ⟨q4,q5⟩:=h1
  have hl:(vs.take i).length=i:=by rw[List.length_take]; omega
  rw[hl];refine ⟨by rw[List.length_take]; omega,?_⟩
  rcases q5 with ⟨q6,_⟩ | ⟨g',cap',cur,q6,q7,q8,q9,q10,q11,q12⟩
  ·simp at q6
  ·injection q6 with e1 _ e3
   injection e1 with e1;injection e1 with e1;subst e1 e3;refine .inr ⟨g,cap,cur,rfl,q7,q8,by omega,q10,q11,?_⟩;rw[←q12,List.take_take]
   congr 1
   omega
 ·rw[List.getElem_take,List.getElem_take]
  exact h3 j (by simp at hj; omega) (by simp at hj'; omega)
def DelOut (B:Nat) (xss:List (List Int)) (w0:World) (e:Ending) (w':World):Prop:=
 ∃ a cap,e=.returned (.slice a xss.length cap)∧OwnR B w' (.slice a xss.length cap) xss∧Below w0.heap.size w0 w'
set_option maxHeartbeats 4000000 in
theorem deleteR_any (v:Value) (xss:List (List Int)) (w0 w:World) (hb0:Below w0.heap.size w0 w) (h:OwnR w0.heap.size w v xss) (g:Nat) (lb:Array Value) (q:List Int→Bool) (hf:TellsR g lb q xss w0):
  Calls Tryz.prog 112 #[v,.func (.func g) #[] lb] w (DelOut w0.heap.size (xss.filter fun x=>!q x) w0):=by
 have hI:=indexR_any v xss w0 w hb0 h g lb q hf;have HB0:=hdd hb0;have hsz0:=hb0.size
 by_cases hno:∀ j,j<xss.length→(fun i=>q (atR xss i)) j=false
 ·rw[idxN_none hno] at hI
  have HF:=hdd (show xss.filter (fun x=>!q x)=xss from by
   rw[List.filter_eq_self];intro x hx;obtain ⟨i,hi,rfl⟩:=List.getElem_of_mem hx;have:=hno i hi;simp only[atR_get hi] at this;rw[this]; rfl)
  have HO:=hdd h;obtain ⟨a,cap,rfl,_⟩:=h.shape;clear hno hf h hb0;go_enter Tryz.func112,Tryz.ntmps112;go_wp2_with fail;refine hI.mono ?_;rintro e w2 ⟨rfl,hb2⟩;have HB2:=hdd hb2;clear hb2;go_wp2;go_ret;refine ⟨a,cap,?_,?_,HB0.out.trans (HB2.out.mono hsz0)⟩
  ·rw[HF.out]; rfl
  ·rw[HF.out]; exact HO.out.below HB2.out
 ·obtain ⟨k,hk,hqk,hmin⟩:∃ k,k<xss.length∧(fun i=>q (atR xss i)) k=true∧∀ j,j<k→(fun i=>q (atR xss i)) j=false:=by
   have hex:∃ k,k<xss.length∧(fun i=>q (atR xss i)) k=true:=by
    apply Classical.byContradiction;intro hc;apply hno;intro j hj
    cases hq:(fun i=>q (atR xss i)) j
    ·rfl
    ·exact absurd ⟨j,hj,hq⟩ hc
   obtain ⟨k,hk⟩:=hex
   induction k using Nat.strongRecOn with
   | _ k ih=>
    by_cases hm:∃ j,j<k∧(fun i=>q (atR xss i)) j=true
    ·obtain ⟨j,hj,hqj⟩:=hm
     exact ih j hj ⟨by omega,hqj⟩
    ·refine ⟨k,hk.1,hk.2,fun j hj=>?_⟩
     cases hq:(fun i=>q (atR xss i)) j
     ·rfl
     ·exact absurd ⟨j,hj,hq⟩ hm
  rw[idxN_hit hk hmin hqk] at hI;obtain ⟨g0,_,e0,hBg,_,_⟩:∃ g u,v.ownBlock=some g∧w0.heap.size≤g∧OwnI w0.heap.size w u xss[k]∧True:=by
   obtain ⟨a,cap,rfl,_⟩:=h.shape;obtain ⟨g,u,rfl,hg,_,hu⟩:=h.at k hk;exact ⟨g,u,rfl,hg,hu,trivial⟩
  obtain ⟨a,cap,rfl,hcap,hmax⟩:=h.shape;obtain ⟨g1,u1,rfl,hg1,_,_⟩:=h.at k hk;injection e0 with e0;subst e0;have hst:DelL xss (fun x=>!q x) k (k+1) xss:=DelL.start hk (fun j hj=>by have:=hmin j hj; simp only at this; simp only[this]; rfl) (by simp only at hqk; simp only[hqk]; rfl);have HST:=hdd hst;have HH:=hdd h;obtain ⟨eg,hf⟩:=hf;have HF:=hdd hf;have hne:((k:Int)==-1)=false:=by rw[beq_eq_false_iff_ne]; omega
  clear hno hqk hmin hst h hf hb0;go_enter Tryz.func112,Tryz.ntmps112;go_wp2_with fail;refine hI.mono ?_;rintro e w2 ⟨rfl,hb2⟩;have HB2:=hdd hb2;clear hb2 hI;go_wp2;go_loopw [5,6] (fun s5 s6 wr=>∃ (i j:Nat) (L:List (List Int)),s5=.int .i64 i∧s6=.int .i64 j∧DelL xss (fun x=>!q x) i j L∧OwnR w0.heap.size wr (.slice (some ⟨g1,0,none⟩) xss.length cap) L∧Below w0.heap.size w0 wr) (fun _ j _=>xss.length-(intOf j).toNat)
  case atStart=>exact ⟨k,k+1,xss,rfl,by go_num,HST.out,HH.out.below HB2.out,HB0.out.trans (HB2.out.mono hsz0)⟩
  case round=>
   obtain ⟨i,j,L,rfl,rfl,hD,ho,hb⟩:=hrel;obtain ⟨wk,rfl⟩:∃ x,x=wr:=⟨_,rfl⟩
   have HD:=hdd hD;have HO:=hdd ho;have HB:=hdd hb;obtain ⟨hLl,hij,hjn,_,_⟩:=id hD
   by_cases hlt:j<xss.length
   ·obtain ⟨hjL,eL⟩:=hD.get hlt
    obtain ⟨g2,u,eg2,_,hcu,hou⟩:=ho.at j hjL;injection eg2 with eg2;injection eg2 with eg2;subst eg2;rw[eL] at hou;obtain ⟨au,cu,rfl,_⟩:=own_shape hou;have HK:=hdd (hD.keep hlt);have HS:=hdd (hD.skip hlt);have hF:=HF.out wk _ xss[j] hb (hou.mono (Nat.zero_le _)) (List.getElem_mem hlt);obtain ⟨x,hx⟩:∃ x,x=xss[j]:=⟨_,rfl⟩
    rw[←hx] at hou HK HS hF hcu;have hi0:(0:Int)≤(j:Int):=by omega
    have hi1:(j:Int)<(xss.length:Int):=by omega
    have hi2:(0:Int)≤(i:Int):=by omega
    have hi3:(i:Int)<(xss.length:Int):=by omega
    have hi4:(j:Int)<9223372036854775807:=by omega
    have hi5:(i:Int)<9223372036854775807:=by omega
    have HOU:=hdd hou;clear hx eL hjL hD ho hb hou
    cases hq:q x
    ·rw[hq] at hF
     have HQ:=hdd (HK.out (by rw[hq]; rfl));clear hq HK HS;go_wp2_with fail;refine hF.mono ?_;rintro e w3 ⟨rfl,hb3⟩;have ho3:=HO.out.below hb3;obtain ⟨g3,u3,eg3,_,hcu3,_⟩:=ho3.at i (by omega);injection eg3 with eg3;injection eg3 with eg3;subst eg3;have hfz:=ho3.thawed i;have HP:=hdd (ho3.set i (owns_below HOU.out hb3));have HB3:=hdd (HB.out.trans (hb3.mono HB.out.size));clear hF hb3 ho3;go_wp2;go_roundw
     case rel=>exact ⟨i+1,j+1,_,by go_num,by go_num,HQ.out,HP.out.1,HB3.out.setCell (p:=⟨g1,i,none⟩) (by exact hg1) _⟩
     case measure=>simp[intOf]; omega
    ·rw[hq] at hF
     have HQ:=hdd (HS.out (by rw[hq]; rfl));clear hq HK HS;go_wp2_with fail;refine hF.mono ?_;rintro e w3 ⟨rfl,hb3⟩;have HO3:=hdd (HO.out.below hb3);have HB3:=hdd (HB.out.trans (hb3.mono HB.out.size));clear hF hb3;go_wp2;go_roundw
     case rel=>exact ⟨i,j+1,L,rfl,by go_num,HQ.out,HO3.out,HB3.out⟩
     case measure=>simp[intOf]; omega
   ·have e:j=xss.length:=by omega
    subst e;have hcl:∀ ty,(Builtin.clear_ #[79] ty #[.slice (some ⟨g1,i,none⟩) (xss.length-i) (cap-i)]).run Tryz.prog wk=.ok (.tuple #[]) (wk.setCells g1 i (List.replicate (xss.length-i) (.slice none 0 0))):=fun ty=>by
     refine Lib.run_clear_slice wk 79 37 ty (.slice none 0 0) Tryz.underlying79 (fun w=>Tryz.zeroValue37 w) rfl rfl g1 i _ _ (by omega) (fun t ht=>?_) (fun t ht=>?_)
     ·obtain ⟨g3,u3,eg3,_,hcu3,_⟩:=ho.at (i+t) (by omega)
      injection eg3 with eg3;injection eg3 with eg3;subst eg3;rw[hcu3]; rfl
     ·exact ho.thawed _
    obtain ⟨xss',q1,q2,q3,q4⟩:=setCells_ownR (xss.length-i) i wk L ho;have hLi:L.take i=xss.filter (fun x=>!q x):=by rw[HD.out.2.2.2.1,List.take_of_length_le (Nat.le_refl _)]
    have hcut:=q2.cut i (by omega);rw[q1,hLi] at hcut;have hil:(xss.filter (fun x=>!q x)).length=i:=by rw[←hLi,List.length_take]; omega
    have HC:=hdd hcut;have HI:=hdd hil;have HG:=hdd (hb.grown q3 hb.size (fun k hk=>by cases hk; exact hg1));have hi2:(0:Int)≤(i:Int):=by omega
    have hi3:(i:Int)<(xss.length:Int):=by omega
    have hi5:(i:Int)≤(cap:Int):=by omega
    clear hLi hil hcut q1 q2 q3 q4 ho hb hD hLl HF;go_wp2;go_ret;refine ⟨some ⟨g1,0,none⟩,cap,?_,?_,HG.out⟩
    ·rw[HI.out]; rfl
    ·rw[HI.out]; exact HC.out
end
section
open Go.RowKit
set_option maxRecDepth 100000
theorem run_eqlnil (w:World) (t e:TypeId) (a:Option Addr) (l c:Nat) (h:Tryz.prog.underlying t=some (.slice e)):(binOp .eql t (.slice a l c) (.slice none 0 0)).run Tryz.prog w=.ok (.bool a.isNone) w:=by
 simp only[binOp];simp[run_equal_slice_nil w t e a l c h]
theorem wpList_push_src (w:World) {ops:Array Oper} {rest:List Oper} {o:Oper} {a:Act} {Q:Exit→Act→World→Prop}
  (hg:o.guard=none) (s x:Operand) (hop:o.op=Op.call { callee:=Callee.builtin Builtin.append,args:=#[s,x],argTypes:=#[37,37] })
  (B:Nat) (v:Value) (xs:List Int) (hs:a.eval s=v) (hown:OwnI B w v xs) (ad:Addr) (c:Nat) (ys:List Int) (hx:a.eval x=.slice (some ad) ys.length c) (hc:∀ i (h:i<ys.length),w.cell? (ad.add i)=some (.int .i64 ys[i]))
  (hlen:xs.length+ys.length≤1099511627776) (hB:B≤w.heap.size)
  (hK:∀ a' cap' w',OwnI B w' (.slice a' (xs.length+ys.length) cap') (xs++ys)→w.grownBy w' v.ownBlock→wpList Tryz.prog ops Q rest (a.put o.dst (.slice a' (xs.length+ys.length) cap')) w'):
  wpList Tryz.prog ops Q (o::rest) a w:=by
 obtain ⟨i0,hi,hz0,hz1,hz2⟩:=info_parts infoInt;refine wpList_append_own w hg s x 37 hop B 3 i0 (.int .i64 0) 1 8 Tryz.underlying37 hi hz0 hz1 hz2 rfl (by decide) v xs.length (ints xs) hs hown ad ys.length c (ints ys) hx (by simp) ?_ (by intro u hu; obtain ⟨y,_,rfl⟩:=List.mem_map.1 hu; simp[Value.oneCell']) (by unfold maxLen; omega) (by omega) hB ?_
 ·intro j u hj
  have hlt:j<ys.length:=by
   have:=(List.getElem?_eq_some_iff.1 hj).1
   simpa using this
  have:(ints ys)[j]?=some (.int .i64 ys[j]):=by rw[List.getElem?_eq_getElem (by simpa using hlt)]; simp
  rw[this] at hj;obtain rfl:=Option.some.inj hj;exact hc j hlt
 ·intro v' w' h1 h2 _
  obtain ⟨a',cap',rfl,_⟩:=own_shape h1;refine hK a' cap' w' ?_ h2;unfold OwnI;rw[ints_append]
  simpa [ints] using h1
set_option maxHeartbeats 1000000 in
theorem cloneI_any {B:Nat} (v:Value) (xs:List Int) (w:World) (h:Ints B w v xs) (hnil:v=.slice none 0 0∨∃ ad n c,v=.slice (some ad) n c) (hl:xs.length≤1099511627776):
  Calls Tryz.prog 131 #[v] w (FreshI xs w):=by
 have hund:=Tryz.underlying37
 rcases hnil with rfl | ⟨ad,n,cap,rfl⟩
 ·obtain ⟨a',c',he,_,_,hyc⟩:=h.opened
  injection he with e1 e2 e3;have e0:xs=[]:=List.eq_nil_of_length_eq_zero e2.symm;subst e0;clear e1 e2 e3 hyc h;have hnil:=fun (W:World)=>run_eqlnil W 37 3 none 0 0 hund
  go_enter Tryz.func131,Tryz.ntmps131;go_wp2;go_ret;exact ⟨none,0,rfl,OwnI.empty _ _,Below.refl _ _⟩
 ·obtain ⟨a',c',he,_,_,hyc⟩:=h.opened
  injection he with e1 e2 e3;subst e1 e2 e3;have hlit:=OwnI.lit w;clear h
  rcases Nat.eq_zero_or_pos xs.length with h0 | h0
  ·have e0:xs=[]:=List.eq_nil_of_length_eq_zero h0
   subst e0;have hcells:∀ i (h:i<([]:List Int).length),(w.alloc (.cells #[] 3)).cell? (ad.add i)=some (.int .i64 ([]:List Int)[i]):=fun i hi=>by simp at hi
   have hnil:=fun (W:World)=>run_eqlnil W 37 3 (some ad) 0 cap hund
   clear hyc h0;go_enter Tryz.func131,Tryz.ntmps131;go_wp2_with (at_builtin; refine wpList_push_src _ rfl (.tmp 5) (.tmp 6) rfl w.heap.size (.slice (some ⟨w.heap.size,0,none⟩) 0 0) [] rfl hlit ad cap [] rfl hcells (by simp) (by simp) ?_; intro a4 c4 w4 ho4 hg4; rw[List.nil_append] at ho4; (try rw[List.length_nil,Nat.zero_add] at ho4); (try rw[List.length_nil,Nat.zero_add]); have HO4:=hdd ho4; have HG4:=hdd hg4; clear ho4 hg4);go_ret;exact ⟨a4,c4,rfl,HO4.out,((Below.refl w.heap.size w).alloc (Nat.le_refl _) _).grown HG4.out (by simp <;> omega) (fun j hj=>by cases hj; exact Nat.le_refl _)⟩
  ·have hcells:∀ i (h:i<xs.length),(w.alloc (.cells #[] 3)).cell? (ad.add i)=some (.int .i64 xs[i]):=fun i hi=>by
    obtain ⟨b,off,hh,_,hc⟩:=hyc (by omega);injection hh with hh;subst hh;have hci:=hc i hi;have e:(⟨b,off,none⟩:Addr).add i=⟨b,off+i,none⟩:=by
     by_cases h0:i=0
     ·subst h0; simp[Addr.add]
     ·simp[Addr.add,h0]
    rw[e,World.cell?_of_block (w:=w) (Below.heap_alloc w _ b (World.block_lt_of_cell? w _ hci))];exact hci
   have hnil:=fun (W:World)=>run_eqlnil W 37 3 (some ad) xs.length cap hund
   clear hyc h0;go_enter Tryz.func131,Tryz.ntmps131;go_wp2_with (at_builtin; refine wpList_push_src _ rfl (.tmp 5) (.tmp 6) rfl w.heap.size (.slice (some ⟨w.heap.size,0,none⟩) 0 0) [] rfl hlit ad cap xs rfl hcells (by simp; omega) (by simp) ?_; intro a4 c4 w4 ho4 hg4; rw[List.nil_append] at ho4; (try rw[List.length_nil,Nat.zero_add] at ho4); (try rw[List.length_nil,Nat.zero_add]); have HO4:=hdd ho4; have HG4:=hdd hg4; clear ho4 hg4);go_ret;exact ⟨a4,c4,rfl,HO4.out,((Below.refl w.heap.size w).alloc (Nat.le_refl _) _).grown HG4.out (by simp <;> omega) (fun j hj=>by cases hj; exact Nat.le_refl _)⟩
end
section
open Go.RowKit Go.Shelf
theorem Ints.shape {B:Nat} {w:World} {v:Value} {xs:List Int} (h:Ints B w v xs):∃ a cap,v=.slice a xs.length cap∧xs.length≤cap∧cap≤9223372036854775807:=by
 obtain ⟨a,cap,h1,h2,h3,_⟩:=h.opened;exact ⟨a,cap,h1,h2,h3⟩
theorem allB_upto {r:List Int} {lo hi:Int} (h:∀ t (h:t<r.length),inB r[t] lo hi=true):allB r lo hi=true:=by
 unfold allB;rw[List.all_eq_true];intro x hx;obtain ⟨i,hi,rfl⟩:=List.getElem_of_mem hx;exact h i hi
theorem allB_no {r:List Int} {lo hi:Int} {t:Nat} (ht:t<r.length) (h:inB r[t] lo hi=false):allB r lo hi=false:=by
 unfold allB;rw[List.all_eq_false];exact ⟨r[t],List.getElem_mem _,by simp[h]⟩
def cell2 (xss:List (List Int)) (i k:Nat):Int:=(xss.getD i []).getD k 0
theorem cell2_eq {xss:List (List Int)} {i k:Nat} (hi:i<xss.length) (hk:k<xss[i].length):cell2 xss i k=xss[i][k]:=by
 unfold cell2;simp[List.getD,List.getElem?_eq_getElem hi,List.getElem?_eq_getElem hk]
def rowBb (xss:List (List Int)) (i:Nat):Prop:=
 (xss.getD i []).length=xss.length∧allB (xss.getD i []) 0 1=true∧cell2 xss i i=0∧(1<xss.length→sum64 (xss.getD i [])≠0)
def besideP (xss:List (List Int)):Prop:=
 (1≤xss.length∧xss.length≤6)∧(∀ i,i<xss.length→rowBb xss i)∧∀ i,i<xss.length→∀ k,k<i→cell2 xss i k=cell2 xss k i
instance (xss:List (List Int)) (i:Nat):Decidable (rowBb xss i):=by unfold rowBb; infer_instance
instance (xss:List (List Int)):Decidable (besideP xss):=by unfold besideP; infer_instance
def besideB (xss:List (List Int)):Bool:=decide (besideP xss)
theorem besideB_yes {xss:List (List Int)} (h:besideP xss):besideB xss=true:=decide_eq_true h
theorem besideB_no {xss:List (List Int)} (h:¬besideP xss):besideB xss=false:=decide_eq_false h
theorem getD_get {α:Type} {xs:List α} {d:α} {i:Nat} (h:i<xs.length):xs.getD i d=xs[i]:=by simp[List.getD,List.getElem?_eq_getElem h]
def upB (xss:List (List Int)) (k:Nat):Prop:=∀ i,i<k→rowBb xss i∧∀ j,j<i→cell2 xss i j=cell2 xss j i
theorem upB_zero (xss:List (List Int)):upB xss 0:=fun i h=>by omega
theorem upB_step {xss:List (List Int)} {k:Nat} (h:upB xss k) (hr:rowBb xss k) (hs:∀ j,j<k→cell2 xss k j=cell2 xss j k):upB xss (k+1):=by
 intro i hi
 by_cases e:i<k
 ·exact h i e
 ·have e2:i=k:=by omega
  subst e2;exact ⟨hr,hs⟩
theorem upB_all {xss:List (List Int)} (h:upB xss xss.length) (hn:1≤xss.length∧xss.length≤6):besideB xss=true:=
 besideB_yes ⟨hn,fun i hi=>(h i hi).1,fun i hi=>(h i hi).2⟩
theorem besideB_row {xss:List (List Int)} {k:Nat} (hk:k<xss.length) (h:¬rowBb xss k):besideB xss=false:=besideB_no fun hh=>h (hh.2.1 k hk)
theorem besideB_sym {xss:List (List Int)} {k j:Nat} (hk:k<xss.length) (hj:j<k) (h:¬cell2 xss k j=cell2 xss j k):besideB xss=false:=besideB_no fun hh=>h (hh.2.2 k hk j hj)
theorem sym_step {xss:List (List Int)} {k j:Nat} (h:∀ t,t<j→cell2 xss k t=cell2 xss t k) (hj:cell2 xss k j=cell2 xss j k):∀ t,t<j+1→cell2 xss k t=cell2 xss t k:=by
 intro t ht
 by_cases e:t<j
 ·exact h t e
 ·have e2:t=j:=by omega
  subst e2;exact hj
set_option maxHeartbeats 2000000 in
theorem implBesideOk_any {B:Nat} (v:Value) (xss:List (List Int)) (w:World) (h:Rows2 B w v xss):
  Calls Tryz.prog 204 #[v] w fun e w'=>e=.returned (.bool (besideB xss))∧Below w.heap.size w w':=by
 obtain ⟨a,cap,rfl,hcap,hmax,V,hcells,hV⟩:=h.opened;clear h
 by_cases hn:1≤xss.length∧xss.length≤6
 ·have hI:inB (xss.length:Int) 1 6=true:=by simp[inB]; omega
  obtain ⟨g,off,rfl,_,hc⟩:=hcells (by omega);clear hcells;go_enter Tryz.func204,Tryz.ntmps204;go_wp2_with (first | (go_at_call 54; refine (in_any _ _ _ _).mono ?_; rintro e w' ⟨rfl,rfl⟩));go_loopw [12] (fun i wr=>∃ k:Nat,k≤xss.length∧i=.int .i64 k∧upB xss k∧Below w.heap.size w wr) (fun i _=>xss.length-(intOf i).toNat)
  case atStart=>exact ⟨0,Nat.zero_le _,rfl,upB_zero _,Below.refl _ _⟩
  case round=>
   obtain ⟨k,hk,rfl,hu,hb⟩:=hrel;have HU:=hdd hu;have HB:=hdd hb
   by_cases hlt:k<xss.length
   ·have hck:=(Above.of_below (B:=0) hb).cell (Nat.zero_le _) (hc k hlt)
    obtain ⟨ak,ck,hvk,hk1,hk2,hkc⟩:=(hV k hlt).opened;have hIk:=(hV k hlt).below hb;rw[hvk] at hck hIk;have eg:xss.getD k []=xss[k]:=getD_get hlt;have HGd:=hdd eg;clear hvk
    by_cases hl:xss[k].length=xss.length
    ·have hl1:((xss[k].length:Int) != (xss.length:Int))=false:=by rw[bne_eq_false_iff_eq]; omega
     have hA:=allIn_any (.slice ak xss[k].length ck) xss[k] 0 1 wr hIk;have hS:=fun W (hW:Below wr.heap.size wr W)=>total_any (.slice ak xss[k].length ck) xss[k] W (hIk.below hW)
     obtain ⟨b2,o2,rfl,_,hx⟩:=hkc (by omega);have hxk:=(Above.of_below (B:=0) hb).cell (Nat.zero_le _) (hx k (by omega));obtain ⟨x,hx2⟩:∃ x,x=xss[k][k]'(by omega):=⟨_,rfl⟩
     rw[←hx2] at hxk;have HX:=hdd (show cell2 xss k k=x by rw[hx2]; exact cell2_eq hlt (by omega));have HL:=hdd hl;have hlen0:xss[k].length≤xss.length:=by omega
     have hlen1:xss.length≤xss[k].length:=by omega
     clear hl hx2 eg hb hkc hIk hu
     cases hal:allB xss[k] 0 1
     ·rw[hal] at hA
      have HR:=hdd (besideB_row hlt (fun hh=>by have:=hh.2.1; rw[HGd.out,hal] at this; simp at this));clear hal hS;go_wp2_with (first | (go_at_call 55; refine hA.mono ?_; rintro e w2 ⟨rfl,hb2⟩; have HB2:=hdd hb2; clear hb2));go_ret;exact ⟨ret_bool (by rw[HR.out]),HB.out.trans (HB2.out.mono HB.out.size)⟩
     ·rw[hal] at hA
      have HAL:=hdd hal;clear hal
      by_cases hx0:x=0
      ·have hx01:(x != 0)=false:=by simpa using hx0
       have HX0:=hdd hx0;clear hx0;have hcase:(1<xss.length∧sum64 xss[k]=0)∨(1<xss.length∧¬sum64 xss[k]=0)∨¬1<xss.length:=by omega
       rcases hcase with ⟨h1,hs⟩ | hgood
       ·have hd1:decide ((1:Int)<(xss.length:Int))=true:=by simp; omega
        have hs1:(sum64 xss[k]==0)=true:=by simpa using hs
        have HR:=hdd (besideB_row hlt (fun hh=>hh.2.2.2 h1 (by rw[HGd.out]; exact hs)));clear hs;go_wp2_with (first | (go_at_call 55; refine hA.mono ?_; rintro e w2 ⟨rfl,hb2⟩; have hxk2:=(Above.of_below (B:=0) hb2).cell (Nat.zero_le _) hxk; have HB2:=hdd hb2; clear hb2) | (go_at_call 198; refine (hS _ HB2.out).mono ?_; rintro e w3 ⟨rfl,rfl⟩));go_ret;exact ⟨ret_bool (by rw[HR.out]),HB.out.trans (HB2.out.mono HB.out.size)⟩
       ·have HRow:=hdd (show rowBb xss k from ⟨by rw[HGd.out]; exact HL.out,by rw[HGd.out]; exact HAL.out,by rw[HX.out,HX0.out],fun h1=>by rw[HGd.out]; rcases hgood with h | h; exact h.2; exact absurd h1 h⟩)
        rcases hgood with ⟨h1,hs⟩ | h1
        ·have hd1:decide ((1:Int)<(xss.length:Int))=true:=by simp; omega
         have hs1:(sum64 xss[k]==0)=false:=by simpa using hs
         clear hs;go_wp2_with (first | (go_at_call 55; refine hA.mono ?_; rintro e w2 ⟨rfl,hb2⟩; have hxk2:=(Above.of_below (B:=0) hb2).cell (Nat.zero_le _) hxk; have HB2:=hdd hb2; clear hb2) | (go_at_call 198; refine (hS _ HB2.out).mono ?_; rintro e w3 ⟨rfl,rfl⟩));have hW:=HB.out.trans (HB2.out.mono HB.out.size);clear hxk2 hxk hck hA hS;go_loopw [45] (fun i wi=>∃ j:Nat,j≤k∧i=.int .i64 j∧(∀ t,t<j→cell2 xss k t=cell2 xss t k)∧Below w.heap.size w wi) (fun i _=>k-(intOf i).toNat)
         case atStart=>exact ⟨0,Nat.zero_le _,rfl,by omega,hW⟩
         case round=>
          obtain ⟨j,hj,rfl,hp,hbi⟩:=hrel;have HP:=hdd hp;have HBI:=hdd hbi
          by_cases hjk:j<k
          ·have hrj:=(HU.out j hjk).1
           have ljn:j<xss.length:=by omega
           have egj:xss.getD j []=xss[j]:=getD_get ljn;have hlj:xss[j].length=xss.length:=by rw[←egj]; exact hrj.1
           have hcj:=(Above.of_below (B:=0) hbi).cell (Nat.zero_le _) (hc j ljn);obtain ⟨aj,cj,hvj,hj1,hj2,hjc⟩:=(hV j ljn).opened;obtain ⟨b3,o3,rfl,_,hy⟩:=hjc (by omega);rw[hvj] at hcj;have hyk:=(Above.of_below (B:=0) hbi).cell (Nat.zero_le _) (hy k (by omega));have hxj:=(Above.of_below (B:=0) hbi).cell (Nat.zero_le _) (hx j (by omega));have hne:((xss[k]'hlt)[j]'(by omega) != xss[j][k]'(by omega))=decide (¬cell2 xss k j=cell2 xss j k):=by
            rw[cell2_eq hlt (by omega),cell2_eq ljn (by omega),Bool.eq_iff_iff]; simp
           obtain ⟨p,hp1⟩:∃ p,p=(xss[k]'hlt)[j]'(by omega):=⟨_,rfl⟩
           obtain ⟨q,hq1⟩:∃ q,q=xss[j][k]'(by omega):=⟨_,rfl⟩
           rw[←hp1] at hxj hne;rw[←hq1] at hyk hne;have hlj1:xss[j].length≤xss.length:=by omega
           have hlj2:xss.length≤xss[j].length:=by omega
           have hi0:(0:Int)≤(j:Int):=by omega
           have hi1:(j:Int)<(xss[k].length:Int):=by omega
           have hi2:(j:Int)<(xss.length:Int):=by omega
           have hi3:(0:Int)≤(k:Int):=by omega
           have hi4:(k:Int)<(xss[j].length:Int):=by omega
           have HN:=hdd hne;clear hp hbi hrj egj hlj hvj hjc hy hp1 hq1 hne hW
           by_cases hs:cell2 xss k j=cell2 xss j k
           ·have hpq:(p != q)=false:=by rw[HN.out]; simp[hs]
            have HS:=hdd hs;clear hs;go_wp2;go_quiet (fail);go_wp2;go_roundw
            case rel=>exact ⟨j+1,by omega,by go_num,sym_step HP.out HS.out,below_drewN HBI.out _⟩
            case measure=>simp[intOf]; omega
           ·have hpq:(p != q)=true:=by rw[HN.out]; simp[hs]
            have HR:=hdd (besideB_sym hlt hjk hs);clear hs;go_wp2;go_quiet (fail);go_wp2;go_ret;exact ⟨ret_bool (by rw[HR.out]),below_drewN HBI.out _⟩
          ·have e:j=k:=by omega
           subst e;clear hp hbi hW;go_wp2;go_roundw
           case rel=>exact ⟨j+1,by omega,by go_num,upB_step HU.out HRow.out HP.out,HBI.out⟩
           case measure=>simp[intOf]; omega
        ·have hd1:decide ((1:Int)<(xss.length:Int))=false:=by simp; omega
         clear hS;go_wp2_with (first | (go_at_call 55; refine hA.mono ?_; rintro e w2 ⟨rfl,hb2⟩; have hxk2:=(Above.of_below (B:=0) hb2).cell (Nat.zero_le _) hxk; have HB2:=hdd hb2; clear hb2));have hW:=HB.out.trans (HB2.out.mono HB.out.size);clear hxk2 hxk hck hA;go_loopw [45] (fun i wi=>∃ j:Nat,j≤k∧i=.int .i64 j∧(∀ t,t<j→cell2 xss k t=cell2 xss t k)∧Below w.heap.size w wi) (fun i _=>k-(intOf i).toNat)
         case atStart=>exact ⟨0,Nat.zero_le _,rfl,by omega,hW⟩
         case round=>
          obtain ⟨j,hj,rfl,hp,hbi⟩:=hrel;have HP:=hdd hp;have HBI:=hdd hbi
          by_cases hjk:j<k
          ·have hrj:=(HU.out j hjk).1
           have ljn:j<xss.length:=by omega
           have egj:xss.getD j []=xss[j]:=getD_get ljn;have hlj:xss[j].length=xss.length:=by rw[←egj]; exact hrj.1
           have hcj:=(Above.of_below (B:=0) hbi).cell (Nat.zero_le _) (hc j ljn);obtain ⟨aj,cj,hvj,hj1,hj2,hjc⟩:=(hV j ljn).opened;obtain ⟨b3,o3,rfl,_,hy⟩:=hjc (by omega);rw[hvj] at hcj;have hyk:=(Above.of_below (B:=0) hbi).cell (Nat.zero_le _) (hy k (by omega));have hxj:=(Above.of_below (B:=0) hbi).cell (Nat.zero_le _) (hx j (by omega));have hne:((xss[k]'hlt)[j]'(by omega) != xss[j][k]'(by omega))=decide (¬cell2 xss k j=cell2 xss j k):=by
            rw[cell2_eq hlt (by omega),cell2_eq ljn (by omega),Bool.eq_iff_iff]; simp
           obtain ⟨p,hp1⟩:∃ p,p=(xss[k]'hlt)[j]'(by omega):=⟨_,rfl⟩
           obtain ⟨q,hq1⟩:∃ q,q=xss[j][k]'(by omega):=⟨_,rfl⟩
           rw[←hp1] at hxj hne;rw[←hq1] at hyk hne;have hlj1:xss[j].length≤xss.length:=by omega
           have hlj2:xss.length≤xss[j].length:=by omega
           have hi0:(0:Int)≤(j:Int):=by omega
           have hi1:(j:Int)<(xss[k].length:Int):=by omega
           have hi2:(j:Int)<(xss.length:Int):=by omega
           have hi3:(0:Int)≤(k:Int):=by omega
           have hi4:(k:Int)<(xss[j].length:Int):=by omega
           have HN:=hdd hne;clear hp hbi hrj egj hlj hvj hjc hy hp1 hq1 hne hW
           by_cases hs:cell2 xss k j=cell2 xss j k
           ·have hpq:(p != q)=false:=by rw[HN.out]; simp[hs]
            have HS:=hdd hs;clear hs;go_wp2;go_quiet (fail);go_wp2;go_roundw
            case rel=>exact ⟨j+1,by omega,by go_num,sym_step HP.out HS.out,below_drewN HBI.out _⟩
            case measure=>simp[intOf]; omega
           ·have hpq:(p != q)=true:=by rw[HN.out]; simp[hs]
            have HR:=hdd (besideB_sym hlt hjk hs);clear hs;go_wp2;go_quiet (fail);go_wp2;go_ret;exact ⟨ret_bool (by rw[HR.out]),below_drewN HBI.out _⟩
          ·have e:j=k:=by omega
           subst e;clear hp hbi hW;go_wp2;go_roundw
           case rel=>exact ⟨j+1,by omega,by go_num,upB_step HU.out HRow.out HP.out,HBI.out⟩
           case measure=>simp[intOf]; omega
      ·have hx01:(x != 0)=true:=by simpa using hx0
       have HR:=hdd (besideB_row hlt (fun hh=>hx0 (by rw[←HX.out]; exact hh.2.2.1)));clear hx0 hS;go_wp2_with (first | (go_at_call 55; refine hA.mono ?_; rintro e w2 ⟨rfl,hb2⟩; have hxk2:=(Above.of_below (B:=0) hb2).cell (Nat.zero_le _) hxk; have HB2:=hdd hb2; clear hb2));go_ret;exact ⟨ret_bool (by rw[HR.out]),HB.out.trans (HB2.out.mono HB.out.size)⟩
    ·have hl1:((xss[k].length:Int) != (xss.length:Int))=true:=by rw[bne_iff_ne]; omega
     have HR:=hdd (besideB_row hlt (fun hh=>hl (by have:=hh.1; rwa [eg] at this)));clear hl eg hkc hb hIk hu;go_wp2;go_ret;exact ⟨ret_bool (by rw[HR.out]),HB.out⟩
   ·have e:k=xss.length:=by omega
    have HE:=hdd (upB_all (by rw[←e]; exact HU.out) hn);clear hu hb hc hV e;go_wp2;go_ret;exact ⟨ret_bool (by rw[HE.out]),HB.out⟩
 ·have hI:inB (xss.length:Int) 1 6=false:=by simp[inB]; omega
  have HT:=hdd (besideB_no (xss:=xss) fun hh=>hn hh.1);clear hn hcells hV;go_enter Tryz.func204,Tryz.ntmps204;go_wp2_with (go_at_call 54; refine (in_any _ _ _ _).mono ?_; rintro e w' ⟨rfl,rfl⟩);go_ret;exact ⟨ret_bool (by rw[HT.out]),Below.refl _ _⟩
theorem l1In_q (n lo hi:Int) (w:World):∀ k,Calls Tryz.prog 88 #[.int .i64 n,.int .i64 lo,.int .i64 hi] (w.drewN k) fun e w'=>e=.returned (.bool (inB n lo hi))∧w'=w.drewN k:=
 fun k=>(l1In_any n lo hi (w.drewN k)).mono fun _ _ h=>⟨h.1,h.2.symm⟩
def upS (xss:List (List Int)) (k:Nat):Prop:=∀ i,i<k→rowBb xss i∧∀ j,j<xss.length→cell2 xss i j=cell2 xss j i
def inS (xss:List (List Int)) (k j:Nat):Prop:=∀ t,t<j→inB (cell2 xss k t) 0 1=true∧cell2 xss k t=cell2 xss t k∧cell2 xss k k=0
theorem upS_step {xss:List (List Int)} {k:Nat} (h:upS xss k) (hr:rowBb xss k) (hs:inS xss k xss.length):upS xss (k+1):=by
 intro i hi
 by_cases e:i<k
 ·exact h i e
 ·have e2:i=k:=by omega
  subst e2;exact ⟨hr,fun j hj=>(hs j hj).2.1⟩
theorem inS_step {xss:List (List Int)} {k j:Nat} (h:inS xss k j) (h1:inB (cell2 xss k j) 0 1=true) (h2:cell2 xss k j=cell2 xss j k) (h3:cell2 xss k k=0):inS xss k (j+1):=by
 intro t ht
 by_cases e:t<j
 ·exact h t e
 ·have e2:t=j:=by omega
  subst e2;exact ⟨h1,h2,h3⟩
theorem upS_all {xss:List (List Int)} (h:upS xss xss.length) (hn:1≤xss.length∧xss.length≤6):besideB xss=true:=
 besideB_yes ⟨hn,fun i hi=>(h i hi).1,fun i hi k hk=>(h i hi).2 k (by omega)⟩
theorem besideB_in {xss:List (List Int)} {k j:Nat} (hk:k<xss.length) (hj:j<xss.length) (hl:xss[k].length=xss.length) (h:inB (cell2 xss k j) 0 1=false):besideB xss=false:=
 besideB_row hk fun hh=>by
  have h2:=hh.2.1;rw[getD_get hk] at h2;have h3:=allB_no (r:=xss[k]) (t:=j) (by omega) (by rw[cell2_eq hk (by omega)] at h; exact h);rw[h3] at h2; simp at h2
theorem besideB_sym2 {xss:List (List Int)} {k j:Nat} (hk:k<xss.length) (hj:j<xss.length) (h:¬cell2 xss k j=cell2 xss j k):besideB xss=false:=by
 rcases Nat.lt_trichotomy j k with e | e | e
 ·exact besideB_sym hk e h
 ·subst e; exact absurd rfl h
 ·exact besideB_sym hj e (fun hh=>h hh.symm)
theorem row_of_in {xss:List (List Int)} {k:Nat} (hk:k<xss.length) (hl:xss[k].length=xss.length) (h:inS xss k xss.length) (hs:1<xss.length→sum64 xss[k]≠0):rowBb xss k:=by
 have eg:xss.getD k []=xss[k]:=getD_get hk;refine ⟨by rw[eg]; exact hl,?_,(h 0 (by omega)).2.2,by rw[eg]; exact hs⟩;rw[eg];apply allB_upto;intro t ht;have:=(h t (by omega)).1
 rwa [cell2_eq hk ht] at this
theorem len_step {xss:List (List Int)} {k n:Nat} (hk:k<xss.length) (h:∀ i (h:i<xss.length),i<k→xss[i].length=n) (hl:xss[k].length=n):∀ i (h:i<xss.length),i<k+1→xss[i].length=n:=by
 intro i hi hik
 by_cases e:i<k
 ·exact h i hi e
 ·have e2:i=k:=by omega
  subst e2;exact hl
set_option maxHeartbeats 2000000 in
theorem specBesideOk_any {B:Nat} (v:Value) (xss:List (List Int)) (w:World) (h:Rows2 B w v xss):
  Calls Tryz.prog 141 #[v] w (Quiet (.bool (besideB xss)) w):=by
 obtain ⟨a,cap,rfl,hcap,hmax,V,hcells,hV⟩:=h.opened;clear h;go_enter Tryz.func141,Tryz.ntmps141;go_wp2;go_loopw [3] (fun i wr=>∃ k:Nat,k≤xss.length∧i=.int .i64 k∧(∀ i (h:i<xss.length),i<k→xss[i].length=xss.length)∧(0<k→1≤xss.length∧xss.length≤6)∧w=wr) (fun i _=>xss.length-(intOf i).toNat)
 case atStart=>exact ⟨0,Nat.zero_le _,rfl,by omega,by omega,rfl⟩
 case round=>
  obtain ⟨k,hk,rfl,hg,hn,rfl⟩:=hrel;have HG:=hdd hg;have HN:=hdd hn;clear hg hn
  by_cases hlt:k<xss.length
  ·obtain ⟨g,off,rfl,_,hc⟩:=hcells (by omega)
   have hck:=hc k hlt;obtain ⟨ak,ck,hvk,hk1,hk2⟩:=(hV k hlt).shape;rw[hvk] at hck;clear hcells hc hV hvk
   by_cases hl:xss[k].length=xss.length
   ·have hl1:((xss[k].length:Int) != (xss.length:Int))=false:=by rw[bne_eq_false_iff_eq]; omega
    by_cases h6:1≤xss.length∧xss.length≤6
    ·have hI:inB (xss.length:Int) 1 6=true:=by simp[inB]; omega
     have H6:=hdd h6;have HL:=hdd hl;clear hl h6;go_wp2_with (go_at_call 88; refine (l1In_any _ _ _ _).mono ?_; rintro e w' ⟨rfl,rfl⟩);go_roundw
     case rel=>exact ⟨k+1,by omega,by go_num,len_step hlt HG.out HL.out,fun _=>H6.out,trivial⟩
     case measure=>simp[intOf]; omega
    ·have hI:inB (xss.length:Int) 1 6=false:=by simp[inB]; omega
     have HT:=hdd (besideB_no (xss:=xss) fun hh=>h6 hh.1);clear hl h6;go_wp2_with (go_at_call 88; refine (l1In_any _ _ _ _).mono ?_; rintro e w' ⟨rfl,rfl⟩);go_ret;exact ⟨ret_bool (by rw[HT.out]),Drawn.refl _⟩
   ·have hl1:((xss[k].length:Int) != (xss.length:Int))=true:=by rw[bne_iff_ne]; omega
    have HT:=hdd (besideB_row hlt (fun hh=>hl (by have:=hh.1; rwa [getD_get hlt] at this)));clear hl;go_wp2;go_ret;exact ⟨ret_bool (by rw[HT.out]),Drawn.refl _⟩
  ·have ek:k=xss.length:=by omega
   have hlens:∀ i (h:i<xss.length),xss[i].length=xss.length:=fun i hi=>HG.out i hi (by omega)
   have hn6:0<xss.length→1≤xss.length∧xss.length≤6:=fun h=>HN.out (by omega)
   have HLens:=hdd hlens;have HN6:=hdd hn6;clear HG HN hlens hn6 ek;go_wp2;go_loopw [4] (fun i wi=>∃ k:Nat,k≤xss.length∧i=.int .i64 k∧upS xss k∧Drawn w wi) (fun i _=>xss.length-(intOf i).toNat)
   case atStart=>exact ⟨0,Nat.zero_le _,rfl,fun i h=>by omega,Drawn.refl _⟩
   case round=>
    obtain ⟨k,hk,rfl,hu,hD⟩:=hrel;have HU:=hdd hu;clear hu
    by_cases hlt:k<xss.length
    ·obtain ⟨g,off,rfl,_,hc⟩:=hcells (by omega)
     obtain ⟨ak,ck,hvk,hk1,hk2,hkc⟩:=(hV k hlt).opened;have hlk:xss[k].length=xss.length:=HLens.out k hlt;obtain ⟨b2,o2,rfl,_,hx⟩:=hkc (by omega);have hIk:=hV k hlt;have hck0:=hc k hlt;rw[hvk] at hck0 hIk;have HLK:=hdd hlk;have hlk1:xss[k].length≤xss.length:=by omega
     have hlk2:xss.length≤xss[k].length:=by omega
     clear hcells hvk hkc hlk;go_wp2;obtain ⟨wo,hwo⟩:∃ wo:World,wo=wr:=⟨_,rfl⟩
     rw[←hwo] at hD ⊢;clear hwo;go_loopw [5] (fun i wi=>∃ j:Nat,j≤xss.length∧i=.int .i64 j∧inS xss k j∧Drawn w wi) (fun i _=>xss.length-(intOf i).toNat)
     case atStart=>exact ⟨0,Nat.zero_le _,rfl,fun i h=>by omega,hD⟩
     case round=>
      obtain ⟨j,hj,rfl,hp,hDi⟩:=hrel;have HP:=hdd hp;clear hp hD
      by_cases hjn:j<xss.length
      ·have hlj:xss[j].length=xss.length:=HLens.out j hjn
       obtain ⟨aj,cj,hvj,hj1,hj2,hjc⟩:=(hV j hjn).opened;obtain ⟨b3,o3,rfl,_,hy⟩:=hjc (by omega);have hcj:=hDi.cell (hc j hjn);have hck:=hDi.cell hck0;rw[hvj] at hcj;have hxj:=hDi.cell (hx j (by omega));have hxk:=hDi.cell (hx k (by omega));have hyk:=hDi.cell (hy k (by omega));obtain ⟨p,hp1⟩:∃ p,p=(xss[k]'hlt)[j]'(by omega):=⟨_,rfl⟩
       obtain ⟨q,hq1⟩:∃ q,q=xss[j][k]'(by omega):=⟨_,rfl⟩
       obtain ⟨z,hz1⟩:∃ z,z=(xss[k]'hlt)[k]'(by omega):=⟨_,rfl⟩
       rw[←hp1] at hxj;rw[←hq1] at hyk;rw[←hz1] at hxk;have HPV:=hdd (show cell2 xss k j=p by rw[hp1]; exact cell2_eq hlt (by omega));have HQV:=hdd (show cell2 xss j k=q by rw[hq1]; exact cell2_eq hjn (by omega));have HZV:=hdd (show cell2 xss k k=z by rw[hz1]; exact cell2_eq hlt (by omega));have hlj1:xss[j].length≤xss.length:=by omega
       have hlj2:xss.length≤xss[j].length:=by omega
       have hi0:(0:Int)≤(j:Int):=by omega
       have hi1:(j:Int)<(xss[k].length:Int):=by omega
       have hi2:(j:Int)<(xss.length:Int):=by omega
       have hi3:(0:Int)≤(k:Int):=by omega
       have hi4:(k:Int)<(xss[j].length:Int):=by omega
       have hi5:(k:Int)<(xss.length:Int):=by omega
       have hi6:(k:Int)<(xss[k].length:Int):=by omega
       have hL:=l1In_q p 0 1 wr;clear hlj hvj hjc hy hp1 hq1 hz1
       cases hb:inB p 0 1
       ·rw[hb] at hL
        have HR:=hdd (besideB_in hlt hjn HLK.out (by rw[HPV.out]; exact hb));clear hb;go_wp2;go_quiet ((go_at_call 88; exact Calls.quiet_of_same (hL _)));go_wp2;go_ret;exact ⟨ret_bool (by rw[HR.out]),hDi.more _⟩
       ·rw[hb] at hL
        have HIn:=hdd hb;clear hb
        by_cases hs:p=q
        ·have hs1:(p != q)=false:=by simpa using hs
         have HS:=hdd hs;clear hs
         by_cases hz:z=0
         ·have hz1:(z != 0)=false:=by simpa using hz
          have HZ:=hdd hz;clear hz;go_wp2;go_quiet ((go_at_call 88; exact Calls.quiet_of_same (hL _)));go_wp2;go_roundw
          case rel=>exact ⟨j+1,by omega,by go_num,inS_step HP.out (by rw[HPV.out]; exact HIn.out) (by rw[HPV.out,HQV.out]; exact HS.out) (by rw[HZV.out]; exact HZ.out),hDi.more _⟩
          case measure=>simp[intOf]; omega
         ·have hz1:(z != 0)=true:=by simpa using hz
          have HR:=hdd (besideB_row hlt (fun hh=>hz (by rw[←HZV.out]; exact hh.2.2.1)));clear hz;go_wp2;go_quiet ((go_at_call 88; exact Calls.quiet_of_same (hL _)));go_wp2;go_ret;exact ⟨ret_bool (by rw[HR.out]),hDi.more _⟩
        ·have hs1:(p != q)=true:=by simpa using hs
         have HR:=hdd (besideB_sym2 hlt hjn (fun hh=>hs (by rw[←HPV.out,←HQV.out]; exact hh)));clear hs;go_wp2;go_quiet ((go_at_call 88; exact Calls.quiet_of_same (hL _)));go_wp2;go_ret;exact ⟨ret_bool (by rw[HR.out]),hDi.more _⟩
      ·have ej:j=xss.length:=by omega
       have hck:=hDi.cell hck0;have hIk2:=hIk.below hDi.below;have HIN:=hdd (show inS xss k xss.length by have:=HP.out; rwa [ej] at this);clear hx ej;have hcase:(1<xss.length∧sum64 xss[k]=0)∨(1<xss.length∧¬sum64 xss[k]=0)∨¬1<xss.length:=by omega
       rcases hcase with ⟨h1,hs⟩ | ⟨h1,hs⟩ | h1
       ·have hd1:decide ((1:Int)<(xss.length:Int))=true:=by simp; omega
        have hs1:(sum64 xss[k]==0)=true:=by simpa using hs
        have HR:=hdd (besideB_row hlt (fun hh=>hh.2.2.2 h1 (by rw[getD_get hlt]; exact hs)));clear hs;go_wp2_with (go_at_call 138; refine (l1Sum_any _ _ _ hIk2).mono ?_; rintro e w' ⟨rfl,rfl⟩);go_ret;exact ⟨ret_bool (by rw[HR.out]),hDi⟩
       ·have hd1:decide ((1:Int)<(xss.length:Int))=true:=by simp; omega
        have hs1:(sum64 xss[k]==0)=false:=by simpa using hs
        have HR:=hdd (row_of_in hlt HLK.out HIN.out (fun _=>hs));clear hs;go_wp2_with (go_at_call 138; refine (l1Sum_any _ _ _ hIk2).mono ?_; rintro e w' ⟨rfl,rfl⟩);go_roundw
        case rel=>exact ⟨k+1,by omega,by go_num,upS_step HU.out HR.out HIN.out,hDi⟩
        case measure=>simp[intOf]; omega
       ·have hd1:decide ((1:Int)<(xss.length:Int))=false:=decide_eq_false (by omega)
        have HR:=hdd (row_of_in hlt HLK.out HIN.out (fun h=>absurd h h1));have h1':xss.length≤1:=by omega
        clear h1;go_wp2;go_roundw
        case rel=>exact ⟨k+1,by omega,by go_num,upS_step HU.out HR.out HIN.out,hDi⟩
        case measure=>simp[intOf]; omega
    ·have ek2:k=xss.length:=by omega
     clear hcells hV
     by_cases h0:0<xss.length
     ·have HT:=hdd (upS_all (by rw[←ek2]; exact HU.out) (HN6.out h0))
      have hd:decide ((0:Int)<(xss.length:Int))=true:=by simp; omega
      go_wp2;go_ret;exact ⟨ret_bool (by rw[HT.out]),hD⟩
     ·have HT:=hdd (besideB_no (xss:=xss) fun hh=>h0 (by have:=hh.1; omega))
      have hd:decide ((0:Int)<(xss.length:Int))=false:=decide_eq_false (by omega);go_wp2;go_ret;exact ⟨ret_bool (by rw[HT.out]),hD⟩
theorem testBit_lotN (f:Nat→Bool) (n j:Nat):(lotN f n).testBit j=(decide (j<n)&&f j):=by
 induction n with
 | zero=>simp[lotN]
 | succ n ih=>
  rw[lotN]
  by_cases hj:j<n
  ·have e:decide (j<n+1)=decide (j<n):=by simp[hj]; omega
   split
   ·rw[Nat.add_comm,Nat.testBit_two_pow_add_gt hj,ih,e]
   ·rw[Nat.add_zero,ih,e]
  ·by_cases he:j=n
   ·subst he
    split
    ·rename_i hf
     rw[Nat.add_comm,Nat.testBit_two_pow_add_eq,ih]; simp[hf]
    ·rename_i hf
     rw[Nat.add_zero,ih]; simp at hf; simp[hf]
   ·have h1:=lotN_lt f (n+1)
    rw[lotN] at h1;have h2:2^(n+1)≤2^j:=Nat.pow_le_pow_right (by omega) (by omega);rw[Nat.testBit_lt_two_pow (by omega)];simp; omega
theorem lotN_congr {f g:Nat→Bool} {n:Nat} (h:∀ j,j<n→f j=g j):lotN f n=lotN g n:=by
 apply Nat.eq_of_testBit_eq;intro j;rw[testBit_lotN,testBit_lotN]
 by_cases hj:j<n
 ·rw[h j hj]
 ·simp[hj]
theorem lotN_or {f:Nat→Bool} {n k:Nat} (hk:k<n):lotN f n ||| 2^k=lotN (fun j=>f j||j==k) n:=by
 apply Nat.eq_of_testBit_eq;intro j;rw[Nat.testBit_or,testBit_lotN,testBit_lotN,Nat.testBit_two_pow]
 by_cases hj:j<n
 ·simp only[hj,decide_true,Bool.true_and]
  congr 1
  rw[Bool.eq_iff_iff]; simp; omega
 ·simp only[hj,decide_false,Bool.false_and,Bool.false_or]
  simp; omega
def edge (xss:List (List Int)) (i j:Nat):Bool:=cell2 xss i j==1
def reachN (xss:List (List Int)) (S:Nat) (o:Int) (j:Nat):Nat→Bool
 | 0=>false
 | i+1=>reachN xss S o j i||(((i:Int) != o)&&bitN S i&&edge xss i j)
def afterN (xss:List (List Int)) (S:Nat) (o:Int):Nat:=lotN (fun j=>reachN xss S o j xss.length) xss.length
def midN (xss:List (List Int)) (S:Nat) (o:Int) (i k:Nat):Nat:=lotN (fun j=>reachN xss S o j i||(decide (j<k)&&edge xss i j)) xss.length
theorem midN_zero (xss:List (List Int)) (S:Nat) (o:Int) (i:Nat):midN xss S o i 0=lotN (fun j=>reachN xss S o j i) xss.length:=lotN_congr fun j _=>by simp
theorem midN_end {xss:List (List Int)} {S:Nat} {o:Int} {i:Nat} (h1:((i:Int) != o)=true) (h2:bitN S i=true):midN xss S o i xss.length=lotN (fun j=>reachN xss S o j (i+1)) xss.length:=
 lotN_congr fun j hj=>by simp[reachN,hj,h1,h2]
theorem skipN {xss:List (List Int)} {S:Nat} {o:Int} {i:Nat} (h:(((i:Int) != o)&&bitN S i)=false):lotN (fun j=>reachN xss S o j i) xss.length=lotN (fun j=>reachN xss S o j (i+1)) xss.length:=
 lotN_congr fun j hj=>by simp only[reachN,h,Bool.false_and,Bool.or_false]
theorem midN_step {xss:List (List Int)} {S:Nat} {o:Int} {i k:Nat} {x:Int} (hk:k<xss.length) (hk60:k≤60) (hn:xss.length≤60) (he:cell2 xss i k=x) (hx:x=0∨x=1):
  bits .or .i64 (midN xss S o i k:Nat) (wrap64 (x*(2:Int)^k))=(midN xss S o i (k+1):Nat):=by
 have h1:=lotN_lt (fun j=>reachN xss S o j i||(decide (j<k)&&edge xss i j)) xss.length;have h2:=pow_small hn;have h3:=pow_small hk60
 rcases hx with rfl | rfl
 ·rw[Int.zero_mul]
  have e:wrap64 0=((0:Nat):Int):=IntWalk.wrap64_in _ ⟨by omega,by omega⟩;rw[e,i64_or_nat _ _ (by unfold midN; omega) (by omega),Nat.or_zero]
  congr 1
  refine lotN_congr fun j hj=>?_
  have:(decide (j<k+1)&&edge xss i j)=(decide (j<k)&&edge xss i j):=by
   by_cases e:j=k
   ·subst e; simp[edge,he]
   ·have:decide (j<k+1)=decide (j<k):=by simp; omega
    rw[this]
  rw[this]
 ·rw[Int.one_mul,shl_cast hk60,i64_or_nat _ _ (by unfold midN; omega) (by omega)]
  congr 1
  unfold midN;rw[lotN_or hk];refine lotN_congr fun j hj=>?_
  by_cases e:j=k
  ·subst e; simp[edge,he]
  ·have e1:(j==k)=false:=by simpa using e
   have e2:decide (j<k+1)=decide (j<k):=by simp; omega
   rw[e1,e2,Bool.or_false]
theorem besideB_spec {xss:List (List Int)} (h:besideB xss=true):(1≤xss.length∧xss.length≤6)∧(∀ i (hi:i<xss.length),xss[i].length=xss.length∧∀ k (hk:k<xss[i].length),xss[i][k]=0∨xss[i][k]=1):=by
 have hp:besideP xss:=of_decide_eq_true h;refine ⟨hp.1,fun i hi=>?_⟩;obtain ⟨h1,h2,_⟩:=hp.2.1 i hi;rw[getD_get hi] at h1 h2;refine ⟨h1,fun k hk=>?_⟩;unfold allB at h2;simp only[List.all_eq_true] at h2;have:=h2 xss[i][k] (List.getElem_mem _);simp[inB] at this;omega
theorem lotN_false {f:Nat→Bool} {n:Nat} (h:∀ j,f j=false):lotN f n=0:=by
 induction n with
 | zero=>rfl
 | succ n ih=>simp[lotN,ih,h]
theorem bit_and0 (L k:Nat) (hL:L<9223372036854775808):(bits .and .i64 ((L:Int)/2^k) 1==0)=!bitN L k:=by
 have h1:L/2^k≤L:=Nat.div_le_self _ _;rw[shr_cast,show (1:Int)=((1:Nat):Int) from rfl,i64_and_nat _ _ (by omega) (by omega),nat_mask1];unfold bitN
 generalize L/2^k=m
 rw[Bool.eq_iff_iff];simp;omega
set_option maxHeartbeats 1000000 in
theorem after_any {B:Nat} (v:Value) (xss:List (List Int)) (S:Nat) (o:Int) (w:World) (h:Rows2 B w v xss) (hb:besideB xss=true) (hS:S<64) (ho:In64 o):
  Calls Tryz.prog 205 #[v,.int .i64 S,.int .i64 o] w fun e w'=>e=.returned (.int .i64 (afterN xss S o:Nat))∧w=w':=by
 obtain ⟨ad,cap,rfl,hcap,hmax,V,hcells,hV⟩:=h.opened;obtain ⟨⟨hn1,hn6⟩,hrow⟩:=besideB_spec hb;have HROW:=hdd hrow;clear h hb hrow;unfold In64 at ho;go_enter Tryz.func205,Tryz.ntmps205;go_wp2;go_loop [7,14] (fun s i=>∃ k:Nat,k≤xss.length∧i=.int .i64 k∧s=.int .i64 (lotN (fun j=>reachN xss S o j k) xss.length:Nat)) (fun _ i=>xss.length-(intOf i).toNat)
 case atStart=>exact ⟨0,Nat.zero_le _,rfl,by rw[show lotN (fun j=>reachN xss S o j 0) xss.length=0 from lotN_false fun _=>rfl]; rfl⟩
 case round=>
  obtain ⟨k,hk,rfl,rfl⟩:=hrel
  by_cases hlt:k<xss.length
  ·obtain ⟨b,off,rfl,_,hc⟩:=hcells (by omega)
   have hck:=hc k hlt;obtain ⟨ak,ck,hvk,hk1,hk2,hkc⟩:=(hV k hlt).opened;rw[hvk] at hck;have hlk:=(HROW.out k hlt).1;obtain ⟨b2,o2,rfl,_,hx⟩:=hkc (by omega);have hba:=bit_and0 S k (by omega);have hk6:k<6:=by omega
   clear hc hcells hV hvk hkc
   by_cases he:(k:Int)=o
   ·have he1:((k:Int)==o)=true:=by simpa using he
    have HH:=hdd (skipN (xss:=xss) (S:=S) (o:=o) (i:=k) (by simp[he]));clear he hx hba hlk;go_wp2;go_round
    case rel=>exact ⟨k+1,by omega,by go_num,by rw[HH.out]⟩
    case measure=>simp[intOf]; omega
   ·have he1:((k:Int)==o)=false:=by simpa using he
    cases hbit:bitN S k
    ·rw[hbit] at hba
     have HH:=hdd (skipN (xss:=xss) (S:=S) (o:=o) (i:=k) (by simp[hbit]));clear he hx hbit hlk;go_wp2;go_round
     case rel=>exact ⟨k+1,by omega,by go_num,by rw[HH.out]⟩
     case measure=>simp[intOf]; omega
    ·rw[hbit] at hba
     have HH:=hdd (midN_end (xss:=xss) (S:=S) (o:=o) (i:=k) (by simpa using he) hbit);have HX:=hdd (fun t (ht:t<xss[k].length)=>hx t ht);have HLK:=hdd hlk;have hlk1:xss[k].length≤6:=by omega
     clear he hx hbit hlk;rw[←midN_zero];go_wp2;go_loop [7,31] (fun s i=>∃ j:Nat,j≤xss[k].length∧i=.int .i64 j∧s=.int .i64 (midN xss S o k j:Nat)) (fun _ i=>xss[k].length-(intOf i).toNat)
     case atStart=>exact ⟨0,Nat.zero_le _,rfl,rfl⟩
     case round=>
      obtain ⟨j,hj,rfl,rfl⟩:=hrel
      by_cases hjl:j<xss[k].length
      ·have hxj:=HX.out j hjl
       have hv:=(HROW.out k hlt).2 j hjl;have hcl:=cell2_eq hlt hjl;obtain ⟨x,hxe⟩:∃ x,x=xss[k][j]:=⟨_,rfl⟩
       rw[←hxe] at hxj hv hcl;have HS:=hdd (midN_step (xss:=xss) (S:=S) (o:=o) (i:=k) (k:=j) (by have:=HLK.out; omega) (by omega) (by omega) hcl hv);clear hxe hcl;go_wp2;go_round
       case rel=>exact ⟨j+1,by omega,by go_num,by rw[←HS.out]⟩
       case measure=>simp[intOf]; omega
      ·have HE:=hdd (show j=xss.length by have:=HLK.out; omega)
       go_wp2;go_round
       case rel=>exact ⟨k+1,by omega,by go_num,by rw[HE.out,HH.out]⟩
       case measure=>simp[intOf]; omega
  ·have HE:=hdd (show k=xss.length by omega)
   clear hcells hV;go_wp2;go_ret;exact ⟨ret_int (by rw[HE.out]; rfl),rfl⟩
def wordB (n:Nat) (s:Int):Bool:=inB s 0 ((2:Int)^n-1)
theorem wordB_nat {n:Nat} {s:Int} (h:wordB n s=true):∃ S:Nat,s=S∧S<2^n:=by
 have h:0≤s∧s≤(2:Int)^n-1:=by simpa [wordB,inB] using h
 obtain ⟨S,rfl⟩:=Int.eq_ofNat_of_zero_le h.1;refine ⟨S,rfl,?_⟩;have e:(2:Int)^n=((2^n:Nat):Int):=by simp
 have:=h.2;rw[e] at this;omega
def boxBb (n:Nat) (o:Int):Bool:=inB o 0 ((n:Int)-1)
def afterR (xss:List (List Int)) (s o:Int):Int:=
 if (besideB xss&&wordB xss.length s&&boxBb xss.length o)=true then (afterN xss s.toNat o:Nat) else -1
theorem pow_64 {n S:Nat} (hn:n≤6) (h:S<2^n):S<64:=Nat.lt_of_lt_of_le h (Nat.pow_le_pow_right (by omega) hn)
def there (b:Bool):Int:=if b then 1 else 0
theorem wrap_powB {n:Int} (h0:0≤n) (h1:n≤60):wrap64 (wrap64 (2^n.toNat)-1)=2^n.toNat-1:=by
 have this:(1:Int)≤2^n.toNat∧(2:Int)^n.toNat≤1152921504606846976:=by
  have e:(2:Int)^n.toNat=((2^n.toNat:Nat):Int):=by simp
  rw[e];have a:2^n.toNat≤2^60:=Nat.pow_le_pow_right (by omega) (by omega);have b:0<2^n.toNat:=Nat.pow_pos (by omega);omega
 have e:=IntWalk.wrap64_in (2^n.toNat) ⟨by omega,by omega⟩;rw[e];exact IntWalk.wrap64_in _ ⟨by omega,by omega⟩
set_option maxHeartbeats 1000000 in
theorem specAfterDay_any {B:Nat} (v:Value) (xss:List (List Int)) (s o:Int) (w:World) (h:Rows2 B w v xss):
  Calls Tryz.prog 142 #[v,.int .i64 s,.int .i64 o] w (Quiet (.int .i64 (afterR xss s o)) w):=by
 have hT:=specBesideOk_any v xss w h;obtain ⟨ad,cap,rfl,hcap,hmax,V,hcells,hV⟩:=h.opened
 cases h1:besideB xss
 ·rw[h1] at hT
  have HE:=hdd (show afterR xss s o=-1 by unfold afterR; rw[h1]; rfl);clear h1 hcells hV h;go_enter Tryz.func142,Tryz.ntmps142;go_wp2_with fail;refine hT.mono ?_;rintro e w2 ⟨rfl,hq2⟩;have hD:Drawn w w2:=hq2;clear hq2;go_wp2;go_ret;exact ⟨ret_int (by rw[HE.out]),hD⟩
 ·rw[h1] at hT
  obtain ⟨hn,hrow⟩:=besideB_spec h1;have HROW:=hdd hrow;have hn1:(1:Int)≤(xss.length:Int):=by omega
  have hn6:(xss.length:Int)≤6:=by omega
  have hwp:wrap64 (wrap64 ((2:Int)^xss.length)-1)=2^xss.length-1:=by
   have:=wrap_powB (n:=(xss.length:Int)) (by omega) (by omega)
   simpa using this
  clear h hrow;have e2:inB s 0 (wrap64 (wrap64 ((2:Int)^xss.length)-1))=wordB xss.length s:=by rw[hwp]; rfl
  have e3:inB o 0 ((xss.length:Int)-1)=boxBb xss.length o:=rfl;clear hwp
  cases h2:wordB xss.length s
  ·rw[h2] at e2
   have HE:=hdd (show afterR xss s o=-1 by unfold afterR; rw[h1,h2]; rfl);clear h1 h2 hcells hV;go_enter Tryz.func142,Tryz.ntmps142;go_wp2_with fail;refine hT.mono ?_;rintro e w2 ⟨rfl,hq2⟩;have hD:Drawn w w2:=hq2;clear hq2;go_wp2_with (first | (go_at_call 88; refine (l1In_any _ _ _ _).mono ?_; rintro e w3 ⟨rfl,rfl⟩));go_ret;exact ⟨ret_int (by rw[HE.out]),hD⟩
  ·rw[h2] at e2
   cases h3:boxBb xss.length o
   ·rw[h3] at e3
    have HE:=hdd (show afterR xss s o=-1 by unfold afterR; rw[h1,h2,h3]; rfl);clear h1 h2 h3 hcells hV;go_enter Tryz.func142,Tryz.ntmps142;go_wp2_with fail;refine hT.mono ?_;rintro e w2 ⟨rfl,hq2⟩;have hD:Drawn w w2:=hq2;clear hq2;go_wp2_with (first | (go_at_call 88; refine (l1In_any _ _ _ _).mono ?_; rintro e w3 ⟨rfl,rfl⟩));go_ret;exact ⟨ret_int (by rw[HE.out]),hD⟩
   ·rw[h3] at e3
    obtain ⟨S,rfl,hS⟩:=wordB_nat h2;have ho:0≤o∧o≤(xss.length:Int)-1:=by simpa [boxBb,inB] using h3
    have hS64:=pow_64 hn.2 hS;have HE:=hdd (show afterR xss S o=(afterN xss S o:Nat) by unfold afterR; rw[h1,h2,h3]; rfl);clear h1 h2 h3 hS;go_enter Tryz.func142,Tryz.ntmps142;go_wp2_with fail;refine hT.mono ?_;rintro e w2 ⟨rfl,hq2⟩;have hD:Drawn w w2:=hq2;clear hq2;go_wp2_with (first | (go_at_call 88; refine (l1In_any _ _ _ _).mono ?_; rintro e w3 ⟨rfl,rfl⟩));clear e2 e3;go_loop [7,8] (fun s i=>∃ k:Nat,k≤xss.length∧i=.int .i64 k∧s=.int .i64 (lotN (fun j=>reachN xss S o j xss.length) k:Nat)) (fun _ i=>xss.length-(intOf i).toNat)
    case atStart=>exact ⟨0,Nat.zero_le _,rfl,rfl⟩
    case round=>
     obtain ⟨j,hj,rfl,rfl⟩:=hrel
     by_cases hlt:j<xss.length
     ·have hlo:=lotN_lt (fun j=>reachN xss S o j xss.length) j
      have hpo:=pow_small (k:=j) (by omega);have hlo2:((lotN (fun j=>reachN xss S o j xss.length) j:Nat):Int)≤1152921504606846976:=by omega
      have H60:=hdd (show j≤60 by omega);clear hlo hpo;go_wp2;go_loop [9,10] (fun t i=>∃ k:Nat,k≤xss.length∧i=.int .i64 k∧t=.int .i64 (there (reachN xss S o j k))) (fun _ i=>xss.length-(intOf i).toNat)
      case atStart=>exact ⟨0,Nat.zero_le _,rfl,rfl⟩
      case round=>
       obtain ⟨k,hk,rfl,rfl⟩:=hrel
       by_cases hkl:k<xss.length
       ·have hba:=bit_mod S k
        have hnn:(0:Int)≤(S:Int)/2^k:=by rw[shr_cast]; exact Int.natCast_nonneg _
        by_cases ho1:(k:Int)=o
        ·have hb1:((k:Int) != o)=false:=by simpa using ho1
         have HH:=hdd (show reachN xss S o j (k+1)=reachN xss S o j k by simp[reachN,ho1]);clear ho1;go_wp2;go_round
         case rel=>exact ⟨k+1,by omega,by go_num,by rw[HH.out]⟩
         case measure=>simp[intOf]; omega
        ·have hb1:((k:Int) != o)=true:=by simpa using ho1
         cases hbit:bitN S k
         ·rw[hbit] at hba
          have HH:=hdd (show reachN xss S o j (k+1)=reachN xss S o j k by simp[reachN,hbit]);clear ho1 hbit;go_wp2;go_round
          case rel=>exact ⟨k+1,by omega,by go_num,by rw[HH.out]⟩
          case measure=>simp[intOf]; omega
         ·rw[hbit] at hba
          obtain ⟨b,off,rfl,_,hc⟩:=hcells (by omega);have hck:=hD.cell (hc k hkl);obtain ⟨ak,ck,hvk,hk1,hk2,hkc⟩:=(hV k hkl).opened;rw[hvk] at hck;have hlk:=(HROW.out k hkl).1;have hjl:j<xss[k].length:=by omega
          obtain ⟨b2,o2,rfl,_,hx⟩:=hkc (by omega);have hxj:=hD.cell (hx j hjl);have hcl:=cell2_eq hkl hjl;obtain ⟨x,hxe⟩:∃ x,x=xss[k][j]:=⟨_,rfl⟩
          rw[←hxe] at hxj hcl;clear hcells hc hvk hkc hx hlk hxe hV
          by_cases hx1:x=1
          ·have hb2:(x==1)=true:=by simpa using hx1
           have HH:=hdd (show there (reachN xss S o j (k+1))=1 by simp[reachN,hbit,ho1,edge,hcl,hx1,there]);clear hx1 hcl ho1 hbit;go_wp2;go_round
           case rel=>exact ⟨k+1,by omega,by go_num,by rw[HH.out]⟩
           case measure=>simp[intOf]; omega
          ·have hb2:(x==1)=false:=by simpa using hx1
           have HH:=hdd (show reachN xss S o j (k+1)=reachN xss S o j k by simp[reachN,edge,hcl,hx1]);clear hx1 hcl ho1 hbit;go_wp2;go_round
           case rel=>exact ⟨k+1,by omega,by go_num,by rw[HH.out]⟩
           case measure=>simp[intOf]; omega
       ·have ek:k=xss.length:=by omega
        subst ek
        cases hr:reachN xss S o j xss.length
        ·have HH:=hdd (lotN_miss (f:=fun j=>reachN xss S o j xss.length) (k:=j) hr)
         have HW:=hdd (show wrap64 (((lotN (fun j=>reachN xss S o j xss.length) j:Nat):Int)+wrap64 0)=((lotN (fun j=>reachN xss S o j xss.length) j:Nat):Int) by
          rw[show wrap64 0=0 from IntWalk.wrap64_in _ ⟨by omega,by omega⟩,Int.add_zero];exact IntWalk.wrap64_in _ ⟨by omega,by omega⟩)
         clear hr;go_wp2;go_round
         case rel=>exact ⟨j+1,by omega,by go_num,by rw[HH.out]; simp[there]; exact HW.out⟩
         case measure=>simp[intOf]; omega
        ·have HH:=hdd (add_hit (f:=fun j=>reachN xss S o j xss.length) H60.out hr)
         clear hr;go_wp2;go_round
         case rel=>exact ⟨j+1,by omega,by go_num,by rw[←HH.out]; simp[there]⟩
         case measure=>simp[intOf]; omega
     ·have HJ:=hdd (show j=xss.length by omega)
      go_wp2;go_ret;exact ⟨ret_int (by rw[HE.out,HJ.out]; rfl),hD⟩
def leftN (xss:List (List Int)) (xs:List Int):Nat→Nat
 | 0=>2^xss.length-1
 | k+1=>afterN xss (leftN xss xs k) (xs.getD k 0)
theorem left_start {n:Nat} (h:n≤60):wrap64 (wrap64 ((2:Int)^n)-1)=((2^n-1:Nat):Int):=by
 have h1:=pow_small h;have h2:=Nat.pow_pos (n:=n) (show 0<2 by omega);rw[shl_cast h,IntWalk.wrap64_in _ ⟨by omega,by omega⟩];omega
theorem afterR_in {xss:List (List Int)} {S:Nat} {o:Int} (hb:besideB xss=true) (hS:S<2^xss.length) (ho:inB o 0 ((xss.length:Int)-1)=true):afterR xss S o=(afterN xss S o:Nat):=by
 have e:wordB xss.length S=true:=by
  unfold wordB inB;have e:(2:Int)^xss.length=((2^xss.length:Nat):Int):=by simp
  rw[e];simp;omega
 unfold afterR;rw[hb,e,show boxBb xss.length o=true from ho]
 rfl
def hop (xss:List (List Int)) (ys:List Int) (k:Nat):Int:=cell2 xss (ys.getD (k-1) 0).toNat (ys.getD k 0).toNat
end
section
open Go.RowKit
def encC (c:Nat) (w:List Nat):Nat:=w.foldl (fun (c:Nat) (b:Nat)=>8*c+b) c
def enc (w:List Nat):Nat:=encC 1 w
def good (n:Nat) (w:List Nat):Prop:=∀ b∈w,b<n
def runF (xss:List (List Int)) (S:Nat) (w:List Nat):Nat:=w.foldl (fun (S:Nat) (b:Nat)=>afterN xss S (b:Int)) S
def run0 (xss:List (List Int)) (w:List Nat):Nat:=runF xss (2^xss.length-1) w
theorem enc_nil:enc []=1:=rfl
theorem enc_snoc (w:List Nat) (b:Nat):enc (w++[b])=8*enc w+b:=by simp[enc,encC,List.foldl_append]
theorem runF_snoc (xss:List (List Int)) (S:Nat) (w:List Nat) (b:Nat):runF xss S (w++[b])=afterN xss (runF xss S w) (b:Int):=by simp[runF,List.foldl_append]
theorem runF_append (xss:List (List Int)) (S:Nat) (w u:List Nat):runF xss S (w++u)=runF xss (runF xss S w) u:=by simp[runF,List.foldl_append]
theorem runF_cons (xss:List (List Int)) (S:Nat) (b:Nat) (w:List Nat):runF xss S (b::w)=runF xss (afterN xss S (b:Int)) w:=rfl
theorem run0_snoc (xss:List (List Int)) (w:List Nat) (b:Nat):run0 xss (w++[b])=afterN xss (run0 xss w) (b:Int):=runF_snoc _ _ _ _
theorem good_nil (n:Nat):good n []:=fun b h=>by simp at h
theorem good_snoc {n:Nat} {w:List Nat} {b:Nat} (h:good n w) (hb:b<n):good n (w++[b]):=fun x hx=>by
 rcases List.mem_append.1 hx with hx | hx
 ·exact h x hx
 ·simp at hx; omega
theorem good_cons {n:Nat} {w:List Nat} {b:Nat}:good n (b::w)↔b<n∧good n w:=by
 simp[good]
theorem good_take {n:Nat} {w:List Nat} (h:good n w) (t:Nat):good n (w.take t):=fun x hx=>h x (List.mem_of_mem_take hx)
theorem runF_lt {xss:List (List Int)} {S:Nat} (hS:S<2^xss.length) (w:List Nat):runF xss S w<2^xss.length:=by
 induction w generalizing S with
 | nil=>exact hS
 | cons b w ih=>rw[runF_cons]; exact ih (lotN_lt _ _)
theorem full_lt (xss:List (List Int)):2^xss.length-1<2^xss.length:=by
 have:=Nat.pow_pos (n:=xss.length) (show 0<2 by omega); omega
theorem encC_bounds {n:Nat} (hn:n≤8) (w:List Nat):∀ c,good n w→c*8^w.length≤encC c w∧encC c w<(c+1)*8^w.length:=by
 induction w with
 | nil=>intro c _; simp[encC]
 | cons b w ih=>
  intro c hg;obtain ⟨hb,hg⟩:=good_cons.1 hg;obtain ⟨h1,h2⟩:=ih (8*c+b) hg;have e:encC c (b::w)=encC (8*c+b) w:=rfl;rw[e,List.length_cons,Nat.pow_succ];refine ⟨Nat.le_trans ?_ h1,Nat.lt_of_lt_of_le h2 ?_⟩
  ·rw[Nat.mul_comm (8^w.length) 8,←Nat.mul_assoc]
   exact Nat.mul_le_mul_right _ (by omega)
  ·rw[Nat.mul_comm (8^w.length) 8,←Nat.mul_assoc]
   exact Nat.mul_le_mul_right _ (by omega)
theorem enc_len {n:Nat} (hn:n≤8) {w u:List Nat} (hw:good n w) (hu:good n u) (h:w.length<u.length):enc w<enc u:=by
 have h1:=(encC_bounds hn w 1 hw).2;have h2:=(encC_bounds hn u 1 hu).1;have h3:8^(w.length+1)≤8^u.length:=Nat.pow_le_pow_right (by omega) h;rw[Nat.pow_succ] at h3;have h4:enc w=encC 1 w:=rfl;have h5:enc u=encC 1 u:=rfl;omega
theorem encC_inj {n:Nat} (hn:n≤8) (w:List Nat):∀ (u:List Nat) (c d:Nat),good n w→good n u→w.length=u.length→encC c w=encC d u→c=d∧w=u:=by
 induction w with
 | nil=>
  intro u c d _ _ hl h;have:u=[]:=List.eq_nil_of_length_eq_zero hl.symm;subst this;exact ⟨h,rfl⟩
 | cons b w ih=>
  intro u c d hw hu hl h
  cases u with
  | nil=>simp at hl
  | cons b' u=>
   obtain ⟨hb,hw⟩:=good_cons.1 hw;obtain ⟨hb',hu⟩:=good_cons.1 hu;obtain ⟨h1,h2⟩:=ih u (8*c+b) (8*d+b') hw hu (by simpa using hl) h;refine ⟨by omega,?_⟩;rw[h2,show b=b' by omega]
theorem enc_inj {n:Nat} (hn:n≤8) {w u:List Nat} (hw:good n w) (hu:good n u) (h:enc w=enc u):w=u:=by
 rcases Nat.lt_trichotomy w.length u.length with e | e | e
 ·have:=enc_len hn hw hu e; omega
 ·exact (encC_inj hn w u 1 1 hw hu e h).2
 ·have:=enc_len hn hu hw e; omega
theorem enc_prefix {n:Nat} (hn:n≤8) {w u:List Nat} (hu:good n u):enc w≤enc (w++u):=by
 have e:enc (w++u)=encC (enc w) u:=by simp[enc,encC,List.foldl_append]
 have h:=(encC_bounds hn u (enc w) hu).1;have h2:=Nat.pow_pos (n:=u.length) (show 0<8 by omega);rw[e];exact Nat.le_trans (Nat.le_mul_of_pos_right _ h2) h
theorem enc_take {n:Nat} (hn:n≤8) {u:List Nat} (hu:good n u) (t:Nat):enc (u.take t)≤enc u:=by
 have:=enc_prefix hn (w:=u.take t) (u:=u.drop t) (fun x hx=>hu x (List.mem_of_mem_drop hx))
 rwa [List.take_append_drop] at this
def IsHunt (xss:List (List Int)) (w:List Nat):Prop:=
 good xss.length w∧run0 xss w=0∧w.length≤16∧∀ u,good xss.length u→run0 xss u=0→u.length≤16→enc w≤enc u
def toI (w:List Nat):List Int:=w.map fun b:Nat=>(b:Int)
def HuntIs (xss:List (List Int)) (l:List Int) (ok:Bool):Prop:=
 (besideB xss=true∧ok=true∧∃ w,IsHunt xss w∧l=toI w) ∨
 (ok=false∧l=[]∧(besideB xss=false∨∀ u,good xss.length u→u.length≤16→run0 xss u≠0))
theorem HuntIs.unique {xss:List (List Int)} {l l':List Int} {ok ok':Bool} (h:HuntIs xss l ok) (h':HuntIs xss l' ok'):l=l'∧ok=ok':=by
 rcases h with ⟨hb,rfl,w,hw,rfl⟩ | ⟨rfl,rfl,hno⟩
 ·rcases h' with ⟨_,rfl,w',hw',rfl⟩ | ⟨rfl,rfl,hno⟩
  ·have hn:=(besideB_spec hb).1
   have h1:=hw.2.2.2 w' hw'.1 hw'.2.1 hw'.2.2.1;have h2:=hw'.2.2.2 w hw.1 hw.2.1 hw.2.2.1;rw[enc_inj (by omega) hw.1 hw'.1 (by omega)];exact ⟨rfl,rfl⟩
  ·rcases hno with hno | hno
   ·rw[hb] at hno; cases hno
   ·exact absurd hw.2.1 (hno w hw.1 hw.2.2.1)
 ·rcases h' with ⟨hb,rfl,w',hw',rfl⟩ | ⟨rfl,rfl,_⟩
  ·rcases hno with hno | hno
   ·rw[hb] at hno; cases hno
   ·exact absurd hw'.2.1 (hno w' hw'.1 hw'.2.2.1)
  ·exact ⟨rfl,rfl⟩
def nth (L:List (List Nat)) (t:Nat):List Nat:=L.getD t []
theorem nth_old {L:List (List Nat)} {x:List Nat} {t:Nat} (h:t<L.length):nth (L++[x]) t=nth L t:=by
 unfold nth; rw[getD_get (by simp; omega),getD_get h,List.getElem_append_left h]
theorem nth_new (L:List (List Nat)) (x:List Nat):nth (L++[x]) L.length=x:=by
 unfold nth; rw[getD_get (by simp)]; simp
def Bfs (xss:List (List Int)) (L:List (List Nat)) (i b:Nat):Prop:=
 1≤L.length∧nth L 0=[] ∧
 (∀ t,t<L.length→good xss.length (nth L t)∧(nth L t).length≤16∧run0 xss (nth L t)≠0) ∧
 (∀ t u,t<u→u<L.length→enc (nth L t)<enc (nth L u)) ∧
 (i<L.length→∀ t,t<L.length→enc (nth L t)<8*enc (nth L i)+b) ∧
 (∀ t c,t<L.length→c<xss.length→(t<i∨(t=i∧c<b))→∃ u,u<L.length∧run0 xss (nth L u)=run0 xss (nth L t++[c])∧enc (nth L u)≤enc (nth L t++[c]))
theorem bfs_start {xss:List (List Int)} (hn:1≤xss.length):Bfs xss [[]] 0 0:=by
 have h0:nth [[]] 0=[]:=rfl;have h1:=Nat.pow_lt_pow_right (show 1<2 by omega) (show 0<xss.length by omega);refine ⟨by simp,rfl,fun t ht=>?_,fun t u htu hu=>?_,fun _ t ht=>?_,fun t c ht hc hh=>by omega⟩
 ·have:t=0:=by simpa using ht
  subst this;rw[h0];refine ⟨good_nil _,by simp,?_⟩
  show 2^xss.length-1≠0
  omega
 ·simp at hu; omega
 ·have:t=0:=by simpa using ht
  subst this;rw[h0,enc_nil]; omega
theorem bfs_seen {xss:List (List Int)} {L:List (List Nat)} {i b u:Nat} (h:Bfs xss L i b) (hi:i<L.length) (hu:u<L.length) (hr:run0 xss (nth L u)=run0 xss (nth L i++[b])):Bfs xss L i (b+1):=by
 obtain ⟨h1,h2,h3,h4,h5,h6⟩:=h;refine ⟨h1,h2,h3,h4,fun hi t ht=>by have:=h5 hi t ht; omega,fun t c ht hc hh=>?_⟩
 by_cases e:t<i∨(t=i∧c<b)
 ·exact h6 t c ht hc e
 ·have e1:t=i:=by omega
  have e2:c=b:=by omega
  subst e1 e2;exact ⟨u,hu,hr,by have:=h5 hi u hu; rw[enc_snoc]; omega⟩
theorem bfs_new {xss:List (List Int)} {L:List (List Nat)} {i b:Nat} (h:Bfs xss L i b) (hi:i<L.length) (hb:b<xss.length) (hl:(nth L i).length<16) (hr:run0 xss (nth L i++[b])≠0):Bfs xss (L++[nth L i++[b]]) i (b+1):=by
 obtain ⟨h1,h2,h3,h4,h5,h6⟩:=h;have hlen:(L++[nth L i++[b]]).length=L.length+1:=by simp
 have hlast:∀ t,¬t<L.length→t<L.length+1→nth (L++[nth L i++[b]]) t=nth L i++[b]:=fun t h1 h2=>by
  rw[show t=L.length by omega,nth_new]
 refine ⟨by omega,by rw[nth_old (by omega)]; exact h2,fun t ht=>?_,fun t u htu hu=>?_,fun _ t ht=>?_,fun t c ht hc hh=>?_⟩
 ·by_cases e:t<L.length
  ·rw[nth_old e]; exact h3 t e
  ·rw[hlast t e (by omega)]
   exact ⟨good_snoc (h3 i hi).1 hb,by simp; omega,hr⟩
 ·rw[nth_old (show t<L.length by omega)]
  by_cases e:u<L.length
  ·rw[nth_old e]; exact h4 t u htu e
  ·rw[hlast u e (by omega),enc_snoc]
   exact h5 hi t (by omega)
 ·rw[nth_old hi]
  by_cases e:t<L.length
  ·rw[nth_old e]; have:=h5 hi t e; omega
  ·rw[hlast t e (by omega),enc_snoc]; omega
 ·have htL:t<L.length:=by omega
  rw[nth_old htL]
  by_cases e:t<i∨(t=i∧c<b)
  ·obtain ⟨u,hu,e1,e2⟩:=h6 t c htL hc e
   exact ⟨u,by omega,by rw[nth_old hu]; exact e1,by rw[nth_old hu]; exact e2⟩
  ·have e1:t=i:=by omega
   have e2:c=b:=by omega
   subst e1 e2;exact ⟨L.length,by omega,by rw[nth_new],by rw[nth_new]; exact Nat.le_refl _⟩
theorem bfs_next {xss:List (List Int)} {L:List (List Nat)} {i:Nat} (h:Bfs xss L i xss.length) (hn:xss.length≤8):Bfs xss L (i+1) 0:=by
 obtain ⟨h1,h2,h3,h4,h5,h6⟩:=h;refine ⟨h1,h2,h3,h4,fun hi t ht=>?_,fun t c ht hc hh=>h6 t c ht hc (by omega)⟩;have e1:=h5 (by omega) t ht;have e2:=h4 i (i+1) (by omega) hi;omega
theorem bfs_reach {xss:List (List Int)} {L:List (List Nat)} {i b:Nat} (h:Bfs xss L i b) {u:List Nat} (hu:good xss.length u)
  (hd:∀ t (ht:t<u.length) q,q<L.length→enc (nth L q)≤enc (u.take t)→q<i∨(q=i∧u[t]<b)):
  ∀ t,t≤u.length→∃ q,q<L.length∧run0 xss (nth L q)=run0 xss (u.take t)∧enc (nth L q)≤enc (u.take t):=by
 obtain ⟨h1,h2,h3,h4,h5,h6⟩:=h;intro t
 induction t with
 | zero=>intro _; exact ⟨0,h1,by rw[h2,List.take_zero],by rw[h2,List.take_zero]; exact Nat.le_refl _⟩
 | succ t ih=>
  intro ht;obtain ⟨q,hq,e1,e2⟩:=ih (by omega);obtain ⟨r,hr,e3,e4⟩:=h6 q u[t] hq (hu _ (List.getElem_mem _)) (hd t (by omega) q hq e2);have e5:u.take (t+1)=u.take t++[u[t]]:=List.take_succ_eq_append_getElem (by omega);refine ⟨r,hr,by rw[e3,e5,run0_snoc,run0_snoc,e1],Nat.le_trans e4 ?_⟩;rw[e5,enc_snoc,enc_snoc]; omega
theorem bfs_found {xss:List (List Int)} {L:List (List Nat)} {i b:Nat} (h:Bfs xss L i b) (hn:xss.length≤8) (hi:i<L.length) (hb:b<xss.length) (hl:(nth L i).length<16) (hr:run0 xss (nth L i++[b])=0):
  IsHunt xss (nth L i++[b]):=by
 have h3:=h.2.2.1;have h4:=h.2.2.2.1;refine ⟨good_snoc (h3 i hi).1 hb,hr,by simp; omega,fun u hu hru _=>Classical.byContradiction fun hlt=>?_⟩;rw[enc_snoc] at hlt;obtain ⟨q,hq,e1,_⟩:=bfs_reach h hu (fun t ht q hq he=>by
  have e5:u.take (t+1)=u.take t++[u[t]]:=List.take_succ_eq_append_getElem (by omega);have e6:=enc_take hn hu (t+1);rw[e5,enc_snoc] at e6;have hc:=hu _ (List.getElem_mem ht)
  rcases Nat.lt_trichotomy q i with e | e | e
  ·exact .inl e
  ·subst e; exact .inr ⟨rfl,by omega⟩
  ·have:=h4 i q e hq; omega) u.length (Nat.le_refl _)
 rw[List.take_length] at e1;exact (h3 q hq).2.2 (e1.trans hru)
theorem bfs_none {xss:List (List Int)} {L:List (List Nat)} {i b:Nat} (h:Bfs xss L i b) (hi:L.length≤i):∀ u,good xss.length u→u.length≤16→run0 xss u≠0:=by
 intro u hu _ hru;obtain ⟨q,hq,e1,_⟩:=bfs_reach h hu (fun t ht q hq he=>.inl (by omega)) u.length (Nat.le_refl _);rw[List.take_length] at e1;exact (h.2.2.1 q hq).2.2 (e1.trans hru)
theorem bfs_long {xss:List (List Int)} {L:List (List Nat)} {i b:Nat} (h:Bfs xss L i b) (hn:xss.length≤8) (hi:i<L.length) (hl:(nth L i).length=16):∀ u,good xss.length u→u.length≤16→run0 xss u≠0:=by
 intro u hu hul hru;have h3:=h.2.2.1;have h4:=h.2.2.2.1;obtain ⟨q,hq,e1,_⟩:=bfs_reach h hu (fun t ht q hq he=>by
  have hlt:=enc_len hn (good_take hu t) (h3 i hi).1 (by rw[List.length_take]; omega)
  rcases Nat.lt_trichotomy q i with e | e | e
  ·exact .inl e
  ·subst e; omega
  ·have:=h4 i q e hq; omega) u.length (Nat.le_refl _)
 rw[List.take_length] at e1;exact (h3 q hq).2.2 (e1.trans hru)
def DpLow (xss:List (List Int)) (T:List Int):Prop:=
 T.length=2^xss.length∧∀ s,s<2^xss.length→0≤T.getD s 0∧T.getD s 0≤17∧(T.getD s 0≤16→∃ w,good xss.length w∧(w.length:Int)=T.getD s 0∧runF xss s w=0)
def DpUp (xss:List (List Int)) (T:List Int) (d s:Nat):Prop:=∀ w,good xss.length w→w.length≤d→runF xss s w=0→T.getD s 0≤w.length
def Dp (xss:List (List Int)) (T:List Int) (d s k:Nat):Prop:=
 DpLow xss T∧(∀ s',s'<2^xss.length→DpUp xss T d s')∧(∀ s',s'<s→DpUp xss T (d+1) s') ∧
 ∀ c w,c<k→good xss.length w→w.length≤d→runF xss (afterN xss s (c:Int)) w=0→T.getD s 0≤(w.length:Int)+1
theorem getD_set_neH {T:List Int} {s t:Nat} {x:Int} (h:s≠t):(T.set s x).getD t 0=T.getD t 0:=by
 simp[List.getD,List.getElem?_set_ne h]
theorem getD_set_self {T:List Int} {s:Nat} {x:Int} (h:s<T.length):(T.set s x).getD s 0=x:=by
 simp[List.getD,List.getElem?_set_self h]
theorem dp_start {xss:List (List Int)} {T:List Int} (hl:T.length=2^xss.length) (h0:T.getD 0 0=0) (h1:∀ s,1≤s→s<2^xss.length→T.getD s 0=17):Dp xss T 0 1 0:=by
 have key:∀ s,s<2^xss.length→DpUp xss T 0 s:=fun s hs w hw hwl hr=>by
  have:w=[]:=List.eq_nil_of_length_eq_zero (by omega);subst this;have hs0:s=0:=hr;subst hs0;rw[h0]; simp
 refine ⟨⟨hl,fun s hs=>?_⟩,key,fun s' hs' w hw hwl hr=>?_,fun c w hc=>by omega⟩
 ·by_cases e:s=0
  ·subst e
   rw[h0];exact ⟨by omega,by omega,fun _=>⟨[],good_nil _,rfl,rfl⟩⟩
  ·rw[h1 s (by omega) hs]
   exact ⟨by omega,by omega,fun h=>by omega⟩
 ·have e:s'=0:=by omega
  subst e;rw[h0]; omega
theorem dp_step {xss:List (List Int)} {T:List Int} {d s k:Nat} (h:Dp xss T d s k) (hs:s<2^xss.length) (hk:k<xss.length):
  Dp xss (T.set s (min (T.getD s 0) (T.getD (afterN xss s (k:Int)) 0+1))) d s (k+1):=by
 obtain ⟨⟨hl,hlow⟩,hup,hup2,hcur⟩:=h;have ha:afterN xss s (k:Int)<2^xss.length:=lotN_lt _ _;obtain ⟨x,hx⟩:∃ x,x=min (T.getD s 0) (T.getD (afterN xss s (k:Int)) 0+1):=⟨_,rfl⟩
 rw[←hx];have hval:∀ t,t<2^xss.length→(T.set s x).getD t 0≤T.getD t 0:=fun t ht=>by
  by_cases e:s=t
  ·subst e; rw[getD_set_self (by omega)]; omega
  ·rw[getD_set_neH e]; exact Int.le_refl _
 have hself:(T.set s x).getD s 0=x:=getD_set_self (by omega);refine ⟨⟨by simpa using hl,fun t ht=>?_⟩,fun t ht w hw hwl hr=>Int.le_trans (hval t ht) (hup t ht w hw hwl hr),fun t ht w hw hwl hr=>Int.le_trans (hval t (by omega)) (hup2 t ht w hw hwl hr),fun c w hc hw hwl hr=>?_⟩
 ·by_cases e:s=t
  ·subst e
   rw[hself];have a1:=(hlow s hs).1;have a2:=(hlow s hs).2.1;have b1:=(hlow _ ha).1;refine ⟨by omega,by omega,fun h16=>?_⟩
   by_cases e2:x=T.getD s 0
   ·rw[e2] at h16 ⊢; exact (hlow s hs).2.2 h16
   ·obtain ⟨w,hw1,hw2,hw3⟩:=(hlow _ ha).2.2 (by omega)
    exact ⟨k::w,good_cons.2 ⟨hk,hw1⟩,by rw[List.length_cons]; omega,by rw[runF_cons]; exact hw3⟩
  ·rw[getD_set_neH e]; exact hlow t ht
 ·rw[hself]
  by_cases e:c<k
  ·have:=hcur c w e hw hwl hr; omega
  ·have e2:c=k:=by omega
   subst e2;have:=hup _ ha w hw hwl hr;omega
theorem dp_set {xss:List (List Int)} {T:List Int} {d s:Nat} (h:Dp xss T d s xss.length) (hs:s<2^xss.length):Dp xss T d (s+1) 0:=by
 obtain ⟨hlow,hup,hup2,hcur⟩:=h;refine ⟨hlow,hup,fun t ht w hw hwl hr=>?_,fun c w hc=>by omega⟩
 by_cases e:t<s
 ·exact hup2 t e w hw hwl hr
 ·have e2:t=s:=by omega
  subst e2
  cases w with
  | nil=>exact hup t hs [] hw (by simp) hr
  | cons c w=>
   obtain ⟨hc,hw⟩:=good_cons.1 hw;rw[List.length_cons] at hwl ⊢;have:=hcur c w hc hw (by omega) hr;omega
theorem dp_day {xss:List (List Int)} {T:List Int} {d s:Nat} (h:Dp xss T d s 0) (hs:2^xss.length≤s):Dp xss T (d+1) 1 0:=by
 obtain ⟨hlow,hup,hup2,hcur⟩:=h;have hp:=Nat.pow_pos (n:=xss.length) (show 0<2 by omega);refine ⟨hlow,fun t ht=>hup2 t (by omega),fun t ht w hw hwl hr=>?_,fun c w hc=>by omega⟩;have e:t=0:=by omega
 subst e;have h2:T.getD 0 0≤(([]:List Nat).length:Int):=hup 0 hp [] (good_nil _) (by simp) rfl;rw[List.length_nil] at h2;omega
def DpEnd (xss:List (List Int)) (T:List Int):Prop:=DpLow xss T∧∀ s,s<2^xss.length→DpUp xss T 16 s
theorem dp_end {xss:List (List Int)} {T:List Int} {s k:Nat} (h:Dp xss T 16 s k):DpEnd xss T:=⟨h.1,h.2.1⟩
theorem DpEnd.zero {xss:List (List Int)} {T:List Int} (h:DpEnd xss T):T.getD 0 0=0:=by
 have hp:=Nat.pow_pos (n:=xss.length) (show 0<2 by omega);have h1:=(h.1.2 0 hp).1;have h2:T.getD 0 0≤(([]:List Nat).length:Int):=h.2 0 hp [] (good_nil _) (by simp) rfl;rw[List.length_nil] at h2;omega
theorem DpEnd.pos {xss:List (List Int)} {T:List Int} (h:DpEnd xss T) {s:Nat} (hs:s<2^xss.length) (h0:0<s):0<T.getD s 0:=by
 have a1:=(h.1.2 s hs).1;apply Classical.byContradiction;intro hno;obtain ⟨w,_,hw,hr⟩:=(h.1.2 s hs).2.2 (by omega);have:w=[]:=List.eq_nil_of_length_eq_zero (by omega);subst this;have:s=0:=hr;omega
theorem DpEnd.none {xss:List (List Int)} {T:List Int} (h:DpEnd xss T) (hT:16<T.getD (2^xss.length-1) 0):∀ u,good xss.length u→u.length≤16→run0 xss u≠0:=by
 intro u hu hul hr;have:=h.2 _ (full_lt xss) u hu hul hr;omega
def Way (xss:List (List Int)) (T:List Int) (out:List Nat) (set:Nat):Prop:=
 good xss.length out∧run0 xss out=set∧(out.length:Int)+T.getD set 0=T.getD (2^xss.length-1) 0∧T.getD (2^xss.length-1) 0≤16 ∧
 ∀ u,good xss.length u→(u.length:Int)=T.getD (2^xss.length-1) 0→run0 xss u=0→enc out≤enc (u.take out.length)
theorem way_start {xss:List (List Int)} {T:List Int} (h:T.getD (2^xss.length-1) 0≤16):Way xss T [] (2^xss.length-1):=
 ⟨good_nil _,rfl,by simp,h,fun u _ _ _=>by simp⟩
theorem way_set {xss:List (List Int)} {T:List Int} {out:List Nat} {set:Nat} (h:Way xss T out set):set<2^xss.length:=by
 rw[←h.2.1]; exact runF_lt (full_lt xss) _
theorem way_has {xss:List (List Int)} {T:List Int} {out:List Nat} {set:Nat} (hE:DpEnd xss T) (h:Way xss T out set) (h0:0<set):∃ k,k<xss.length∧T.getD (afterN xss set (k:Int)) 0+1=T.getD set 0:=by
 have hs:=way_set h;have hp:=hE.pos hs h0;obtain ⟨w,hw,hwl,hr⟩:=(hE.1.2 set hs).2.2 (by have:=h.2.2.1; have:=h.2.2.2.1; omega)
 cases w with
 | nil=>rw[List.length_nil] at hwl; omega
 | cons c w=>
  obtain ⟨hc,hw⟩:=good_cons.1 hw;rw[List.length_cons] at hwl;refine ⟨c,hc,?_⟩;rw[runF_cons] at hr;have ha:afterN xss set (c:Int)<2^xss.length:=lotN_lt _ _;have h16:=h.2.2.2.1;have hsum:=h.2.2.1;have h1:=hE.2 _ ha w hw (by omega) hr;obtain ⟨w2,hw2,hwl2,hr2⟩:=(hE.1.2 _ ha).2.2 (by omega);have h2:=hE.2 set hs (c::w2) (good_cons.2 ⟨hc,hw2⟩) (by rw[List.length_cons]; omega) (by rw[runF_cons]; exact hr2);rw[List.length_cons] at h2;omega
theorem way_step {xss:List (List Int)} {T:List Int} {out:List Nat} {set k:Nat} (hE:DpEnd xss T) (hn:xss.length≤8) (h:Way xss T out set) (h0:0<set) (hk:k<xss.length) (he:T.getD (afterN xss set (k:Int)) 0+1=T.getD set 0)
  (hmin:∀ c,c<k→T.getD (afterN xss set (c:Int)) 0+1≠T.getD set 0):Way xss T (out++[k]) (afterN xss set (k:Int)):=by
 have hs:=way_set h;have hpos:=hE.pos hs h0;obtain ⟨h1,h2,h3,h4,h5⟩:=h;refine ⟨good_snoc h1 hk,by rw[run0_snoc,h2],by rw[List.length_append,List.length_singleton]; omega,h4,fun u hu hul hr=>?_⟩;have h6:=h5 u hu hul hr;have hlt:out.length<u.length:=by omega
 rw[List.length_append,List.length_singleton,List.take_succ_eq_append_getElem hlt,enc_snoc,enc_snoc];have hc:=hu _ (List.getElem_mem hlt)
 by_cases e:enc out<enc (u.take out.length)
 ·omega
 ·have e2:out=u.take out.length:=enc_inj hn h1 (good_take hu _) (by omega)
  have hsplit:u=out++u[out.length]::u.drop (out.length+1):=by
   have:=(List.take_append_drop out.length u).symm;rw[←e2,List.drop_eq_getElem_cons hlt] at this;exact this
  have hr2:runF xss (afterN xss set ((u[out.length]:Nat):Int)) (u.drop (out.length+1))=0:=by
   have:run0 xss u=runF xss (run0 xss out) (u[out.length]::u.drop (out.length+1)):=by
    have:=congrArg (run0 xss) hsplit;rw[this]; exact runF_append _ _ _ _
   rw[h2,runF_cons] at this;rw[←this]; exact hr
  have hgd:good xss.length (u.drop (out.length+1)):=fun x hx=>hu x (List.mem_of_mem_drop hx)
  have hld:(u.drop (out.length+1)).length=u.length-(out.length+1):=List.length_drop;have ha:afterN xss set ((u[out.length]:Nat):Int)<2^xss.length:=lotN_lt _ _;have q1:=hE.2 _ ha _ hgd (by omega) hr2;obtain ⟨w2,hw2,hwl2,hr3⟩:=(hE.1.2 _ ha).2.2 (by omega);have q2:=hE.2 set hs (u[out.length]::w2) (good_cons.2 ⟨hc,hw2⟩) (by rw[List.length_cons]; omega) (by rw[runF_cons]; exact hr3);rw[List.length_cons] at q2;have:¬u[out.length]<k:=fun hh=>hmin _ hh (by omega)
  rw[←e2];omega
theorem way_end {xss:List (List Int)} {T:List Int} {out:List Nat} (hE:DpEnd xss T) (hn:xss.length≤8) (h:Way xss T out 0):IsHunt xss out:=by
 obtain ⟨h1,h2,h3,h4,h5⟩:=h;rw[hE.zero] at h3;refine ⟨h1,h2,by omega,fun u hu hr hul=>?_⟩;have h6:=hE.2 _ (full_lt xss) u hu hul hr
 by_cases e:(u.length:Int)=T.getD (2^xss.length-1) 0
 ·have:=h5 u hu e hr
  rwa [show out.length=u.length by omega,List.take_length] at this
 ·exact Nat.le_of_lt (enc_len hn h1 hu (by omega))
end
end Go.Proofs.YtenlngclocfnlaaGreatDoor
