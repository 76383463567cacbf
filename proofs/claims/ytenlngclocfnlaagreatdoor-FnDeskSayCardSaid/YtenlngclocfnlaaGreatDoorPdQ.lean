/- Texts of this claim, put together: Nums. -/
import Derived.Test.YtenlngclocfnlaaGreatDoorPdK
import Derived.Test.YtenlngclocfnlaaGreatDoorPdM
import Derived.Test.YtenlngclocfnlaaGreatDoorPdP
import Derived.Test.YtenlngclocfnlaaGreatDoorShelfN
import Derived.Lib.SmallJoins
import Derived.Lib.ItoaMem
import Derived.Lib.AppendIntMem
import Derived.Test.YtenlngclocfnlaaGreatDoorPdGD
namespace Go.Proofs.YtenlngclocfnlaaGreatDoor
set_option linter.unusedVariables false
section
open Go.RowKit
set_option maxRecDepth 100000
def TabW (w:World):Prop:=Lib.TabIs Tryz.prog w "internal/strconv.uint64pow10" .u64 Lib.pow10Tab
theorem TabW.below {w w':World} (h:TabW w) (hb:Below w.heap.size w w'):TabW w':=
 Joins.tab_stays (g:=1) (by kernel_rfl) h hb (Nat.le_refl _)
def GW (w:World):Prop:=MaxIs w∧TabW w
theorem GW.below {w w':World} (h:GW w) (hb:Below w.heap.size w w'):GW w':=⟨h.1.below hb,h.2.below hb⟩
theorem itoa_any (n:Int) (w:World) (h:TabW w) (h0:-1000000000≤n) (h1:n≤1000000000):
  Calls Tryz.prog 91 #[.int .i64 n] w fun e w'=>e=.returned (strV (Lib.itoa n))∧Below w.heap.size w w':=by
 refine (Tryz.strconv_Itoa n (by omega) (by omega) w h).mono ?_;rintro e w' ⟨rfl,k,os,rfl⟩;exact ⟨rfl,Lib.below_grow _ _ (Nat.le_refl _) _ _⟩
theorem told_any (n:Int) (w:World) (h:TabW w) (h0:-1000000000≤n) (h1:n≤1000000000):
  Calls Tryz.prog 163 #[.int .i64 n] w fun e w'=>e=.returned (.tuple #[strV (Lib.itoa n),.bool (decide (0≤n))])∧Below w.heap.size w w':=by
 have hI:=itoa_any n w h h0 h1;obtain ⟨l,hl⟩:∃ l,l=Lib.itoa n:=⟨_,rfl⟩
 rw[←hl] at hI ⊢;unfold strV at hI ⊢;clear hl h;go_enter Tryz.func163,Tryz.ntmps163;go_wp2_with fail;refine hI.mono ?_;rintro e w2 ⟨rfl,hb2⟩;have HB2:=hdd hb2;clear hI hb2;go_wp2;go_ret2;exact ⟨rfl,HB2.out⟩
theorem listed_any {B:Nat} (v:Value) (xs:List Int) (w:World) (h:Ints B w v xs) (hd:allD xs=true) (hl:xs.length≤1000000):
  Calls Tryz.prog 169 #[v] w fun e w'=>e=.returned (.tuple #[strV (dgs xs),.bool (decide (0<xs.length))])∧Below w.heap.size w w':=by
 have hI:=digits_any v xs w h hd hl;obtain ⟨a,cap,rfl,_⟩:=h.opened;obtain ⟨l,hll⟩:∃ l,l=dgs xs:=⟨_,rfl⟩
 rw[←hll] at hI ⊢;unfold strV at hI ⊢;clear hll h hd;go_enter Tryz.func169,Tryz.ntmps169;go_wp2_with fail;refine hI.mono ?_;rintro e w2 ⟨rfl,hb2⟩;have HB2:=hdd hb2;clear hI hb2;go_wp2;go_ret2;exact ⟨rfl,HB2.out⟩
theorem decFrom_fold:∀ (l:List UInt8) (acc:Nat),l.all isD=true→Lib.decFrom acc l=some (l.foldl (fun n b=>10*n+ud b) (acc:Int)).toNat∧0≤l.foldl (fun n b=>10*n+ud b) (acc:Int)
 | [],acc,_=>by simp[Lib.decFrom]
 | b::t,acc,h=>by
  rw[List.all_cons,Bool.and_eq_true] at h;have hb:=isD_iff.1 h.1;have hv:Lib.digitVal b=some (b.toNat-48):=by unfold Lib.digitVal; rw[if_pos hb]
  obtain ⟨h1,h2⟩:=decFrom_fold t (acc*10+(b.toNat-48)) h.2;have e:((acc*10+(b.toNat-48):Nat):Int)=10*(acc:Int)+ud b:=by unfold ud; omega
  rw[e] at h1 h2;simp only[Lib.decFrom,hv,List.foldl_cons];exact ⟨h1,h2⟩
theorem atoi_fold {l:List UInt8} (h:l.all isD=true) (hl:0<l.length):Lib.atoi l=some (l.foldl (fun n b=>10*n+ud b) 0):=by
 rcases l with _ | ⟨b,t⟩
 ·simp at hl
 ·have hb:isD b=true:=by rw[List.all_cons,Bool.and_eq_true] at h; exact h.1
  have hb2:=isD_iff.1 hb;have n1:(b==45)=false:=by
   rw[beq_eq_false_iff_ne];rintro rfl;exact absurd hb2.1 (by decide)
  have n2:(b==43)=false:=by
   rw[beq_eq_false_iff_ne];rintro rfl;exact absurd hb2.1 (by decide)
  obtain ⟨h1,h2⟩:=decFrom_fold (b::t) 0 h;simp only[Lib.atoi,n1,n2,Lib.decNat,List.isEmpty_cons,Bool.false_eq_true,if_false];rw[h1];simp only[Option.map_some,Option.some.injEq];have:(((0:Nat)):Int)=0:=rfl;rw[this] at h2 ⊢;omega
def NumOut (l:List UInt8) (w:World) (e:Ending) (w':World):Prop:=e=.returned (.tuple #[.int .i64 (if numL l<0 then 0 else numL l),.bool (decide (0≤numL l))])∧Below w.heap.size w w'
set_option maxHeartbeats 4000000 in
theorem numberOf_any (l:List UInt8) (w:World) (hl:l.length≤4000000):
  Calls Tryz.prog 129 #[strV l] w (NumOut l w):=by
 have hD:=digitsOf_any l w hl;have HBAD:=hdd (show numL l=-1→∀ W,Below w.heap.size w W→NumOut l w (.returned (.tuple #[.int .i64 0,.bool false])) W from fun q W hW=>by unfold NumOut; rw[q]; exact ⟨rfl,hW⟩);have HGOOD:=hdd (show ∀ W,0≤numL l→Below w.heap.size w W→NumOut l w (.returned (.tuple #[.int .i64 (numL l),.bool true])) W from fun W q hW=>by
  unfold NumOut; rw[if_neg (by omega),decide_eq_true q]; exact ⟨rfl,hW⟩)
 unfold strV at hD ⊢
 by_cases h3:(3:Int)<(l.length:Int)
 ·have HR:=hdd (HBAD.out (numL_bad1 (by omega)))
  clear hD;go_enter Tryz.func129,Tryz.ntmps129;go_wp2;go_ret2;exact HR.out _ (Below.refl _ _)
 ·by_cases hz:1<l.length∧l.head?=some 48
  ·have HR:=hdd (HBAD.out (numL_bad2 hz.1 hz.2))
   have h0:0<l.length:=by omega
   have hx0:∀ W:World,(Instr.index 9 (.string ⟨l.toArray⟩) (.int .i64 0)).run Tryz.prog W=.ok (.int .u8 (l[0].toNat:Int)) W:=byte_at l 0 h0;have hhd:l[0]=48:=by
    have:=hz.2;rw[List.head?_eq_getElem?,List.getElem?_eq_getElem h0] at this;exact Option.some.inj this
   rw[hhd,show ((48:UInt8).toNat:Int)=48 from rfl] at hx0;have h1:(1:Int)<(l.length:Int):=by omega
   clear hD hz hhd;go_enter Tryz.func129,Tryz.ntmps129;go_wp2;go_ret2;exact HR.out _ (Below.refl _ _)
  ·have hcase:¬((1:Int)<(l.length:Int))∨((1:Int)<(l.length:Int)∧∃ c:Int,¬(c=48)∧∀ W:World,(Instr.index 9 (.string ⟨l.toArray⟩) (.int .i64 0)).run Tryz.prog W=.ok (.int .u8 c) W):=by
    by_cases q:1<l.length
    ·have h0:0<l.length:=by omega
     refine .inr ⟨by omega,(l[0].toNat:Int),fun e=>hz ⟨q,?_⟩,byte_at l 0 h0⟩;rw[List.head?_eq_getElem?,List.getElem?_eq_getElem h0]
     congr 1
     apply UInt8.toNat_inj.1;have:(48:UInt8).toNat=48:=rfl;omega
    ·exact .inl (by omega)
   have HFALSE:=hdd (show rowB l=false→numL l=-1 from fun q=>by
    unfold rowB at q;rw[Bool.and_eq_false_iff] at q
    rcases q with q | q
    ·rw[List.all_eq_false] at q
     obtain ⟨b,hb,hb2⟩:=q;exact numL_bad3 ⟨b,hb,by simpa using hb2⟩
    ·exact numL_bad1 (by have:=of_decide_eq_false q; omega))
   have HTRUE:=hdd (show rowB l=true→Lib.atoi l=some (numL l)∧0≤numL l from fun q=>by
    unfold rowB at q;rw[Bool.and_eq_true,decide_eq_true_iff] at q;rw[numL_good ⟨by omega,by omega⟩ hz q.1];exact ⟨atoi_fold q.1 q.2,(numL_small q.1 (by omega)).1⟩)
   have hs18:(⟨l.toArray⟩:ByteArray).size≤18:=by simp only[ByteArray.size,List.size_toArray]; omega
   have HAT:=hdd (fun W (q:Lib.atoi l=some (numL l))=>Tryz.strconv_Atoi ⟨l.toArray⟩ (numL l) hs18 q W);unfold RowOut at hD;obtain ⟨xs,hxs⟩:∃ z,z=rowX l:=⟨_,rfl⟩
   obtain ⟨t,ht⟩:∃ z,z=rowB l:=⟨_,rfl⟩
   rw[←hxs,←ht] at hD;rw[←ht] at HFALSE HTRUE;obtain ⟨nn,hnn⟩:∃ z,z=numL l:=⟨_,rfl⟩
   rw[←hnn] at HBAD HGOOD HFALSE HTRUE HAT;clear hz hs18 hxs ht hnn
   cases t
   ·have HR:=hdd (HBAD.out (HFALSE.out rfl))
    go_enter Tryz.func129,Tryz.ntmps129
    rcases hcase with q1 | ⟨q1,c,q2,q3⟩
    all_goals
     go_wp2_with fail;refine hD.mono ?_;rintro e w2 ⟨a2,c2,rfl,_,hb2⟩;have HB2:=hdd hb2;clear hD hb2;go_wp2;go_ret2;exact HR.out _ HB2.out
   ·obtain ⟨t1,t2⟩:=HTRUE.out rfl
    have HT2:=hdd t2;have HAT2:=hdd (fun W=>HAT.out W t1);clear t1 t2;go_enter Tryz.func129,Tryz.ntmps129
    rcases hcase with q1 | ⟨q1,c,q2,q3⟩
    all_goals
     go_wp2_with fail;refine hD.mono ?_;rintro e w2 ⟨a2,c2,rfl,_,hb2⟩;have HB2:=hdd hb2;have hA:=HAT2.out w2;clear hD hb2;go_wp2_with fail;refine hA.mono ?_;rintro e w3 ⟨rfl,t,hw3⟩;have HB3:=hdd (show Below w.heap.size w w3 by rw[hw3]; exact HB2.out.trans (Joins.below_bytesWorld _ _ _ _ HB2.out.size));clear hA hw3;go_wp2;go_quiet (fail);have HBq:=hdd (HB3.out.trans ((show Drawn w3 (w3.drewN nq) from ⟨nq,rfl⟩).below.mono HB3.out.size));go_wp2;go_ret2;exact HGOOD.out _ HT2.out HBq.out
end
end Go.Proofs.YtenlngclocfnlaaGreatDoor
