/- Texts of this claim, put together: AskMore, Quest. -/
import Derived.Test.YtenlngclocfnlaaGreatDoorPdP
import Derived.Test.YtenlngclocfnlaaGreatDoorPdV
import Derived.Test.YtenlngclocfnlaaGreatDoorPdT
import Derived.StringKeys
import Derived.Test.YtenlngclocfnlaaGreatDoorPdGD
namespace Go.Proofs.YtenlngclocfnlaaGreatDoor
set_option linter.unusedVariables false
section
def goodG (N:Nat) (D:Bool) (us:List (List UInt8)):Bool:=(us.take N).all (fun u=>decide (0≤numL u))&&(!D||rowB (us.getD N []))
def askG (N:Nat) (D:Bool) (us:List (List UInt8)) (t:List Int→List Int→List UInt8):List UInt8:=
 if us.length=N+D.toNat then (if goodG N D us=true then t ((us.take N).map numL) (if D=true then rowX (us.getD N []) else []) else wNone) else wWhat
def tQuestions:List Int→List Int→List UInt8:=fun n _=>tellB (leastQ (n.getD 0 0))
def tDrops:List Int→List Int→List UInt8:=fun n _=>tellB (dropsB (n.getD 0 0) (n.getD 1 0))
def tLies:List Int→List Int→List UInt8:=fun _ d=>tellB (fewB d)
def tHats:List Int→List Int→List UInt8:=fun n d=>listB (hatsL (n.getD 0 0) d)
def tCircles:List Int→List Int→List UInt8:=fun _ d=>listB (circL d)
def tHunt (hf:Int→List Int):List Int→List Int→List UInt8:=fun n _=>listB (hf (n.getD 0 0))
theorem numL_neg {l:List UInt8} (h:¬0≤numL l):numL l=-1:=by have:=numL_rng l; omega
theorem HuntsOk.neg {hf:Int→List Int} (h:HuntsOk hf):hf (-1)=[]:=by
 refine ((h (-1) [] false (.inr ⟨rfl,rfl,.inl ?_⟩)).1).symm;exact besideB_no (fun hp=>by have:=hp.1; simp[inRowR] at this)
theorem tell_neg:tellB (-1)=wNone:=by simp[tellB]
theorem askG_len {N:Nat} {D:Bool} {us:List (List UInt8)} {t:List Int→List Int→List UInt8} (h:us.length≠N+D.toNat):askG N D us t=wWhat:=by unfold askG; rw[if_neg h]
theorem askL_two (hf : Int → List Int) (q a : List UInt8) : askL hf [q, a] = if q = wQuestions then tellB (leastQ (numL a)) else if q = wLies then (if rowB a = true then tellB (fewB (rowX a)) else wNone)
      else if q=wCircles then (if rowB a=true then listB (circL (rowX a)) else wNone) else if q=wHunt then listB (hf (numL a)) else wWhat:=rfl
theorem askL_three (hf:Int→List Int) (q a b:List UInt8):askL hf [q,a,b]=if q=wDrops then tellB (dropsB (numL a) (numL b)) else if q=wHats then (if rowB b=true then listB (hatsL (numL a) (rowX b)) else wNone) else wWhat:=rfl
theorem askL_cons {hf:Int→List Int} (hh:HuntsOk hf) (q:List UInt8) (us:List (List UInt8)):
  askL hf (q::us)=if q=wQuestions then askG 1 false us tQuestions else if q=wDrops then askG 2 false us tDrops else if q=wLies then askG 0 true us tLies
   else if q=wHats then askG 1 true us tHats else if q=wCircles then askG 0 true us tCircles else if q=wHunt then askG 1 false us (tHunt hf) else wWhat:=by
 have n1:wDrops≠wQuestions:=by decide
 have n2:wLies≠wQuestions:=by decide
 have n3:wHats≠wQuestions:=by decide
 have n4:wCircles≠wQuestions:=by decide
 have n5:wHunt≠wQuestions:=by decide
 have m1:wDrops≠wLies:=by decide
 have m2:wDrops≠wCircles:=by decide
 have m3:wDrops≠wHunt:=by decide
 have k1:wHats≠wLies:=by decide
 have k2:wHats≠wCircles:=by decide
 have k3:wHats≠wHunt:=by decide
 have k4:wHats≠wDrops:=by decide
 have j1:wCircles≠wLies:=by decide
 have j2:wCircles≠wDrops:=by decide
 have j3:wHunt≠wLies:=by decide
 have j4:wHunt≠wDrops:=by decide
 have j5:wHunt≠wCircles:=by decide
 have j6:wHunt≠wHats:=by decide
 have j7:wCircles≠wHats:=by decide
 have j8:wLies≠wDrops:=by decide
 match us with
 | []=>
  rw[askG_len (by simp),askG_len (by simp),askG_len (by simp),askG_len (by simp),askG_len (by simp),askG_len (by simp)]
  show wWhat=_
  repeat' split
  all_goals rfl
 | [a]=>
  by_cases h1:q=wQuestions
  ·subst h1
   rw[askL_two,if_pos rfl,if_pos rfl];unfold askG goodG tQuestions
   by_cases ha:0≤numL a
   ·simp[ha]
   ·simp[numL_neg ha,leastQ,tell_neg]
  ·rw[askL_two,if_neg h1,if_neg h1]
   by_cases h2:q=wDrops
   ·subst h2
    rw[if_pos rfl,if_neg m1,if_neg m2,if_neg m3,askG_len (by simp)]
   ·rw[if_neg h2]
    by_cases h3:q=wLies
    ·subst h3
     rw[if_pos rfl,if_pos rfl];unfold askG goodG tLies;simp
    ·rw[if_neg h3,if_neg h3]
     by_cases h4:q=wHats
     ·subst h4
      rw[if_pos rfl,if_neg k2,if_neg k3,askG_len (by simp)]
     ·rw[if_neg h4]
      by_cases h5:q=wCircles
      ·subst h5
       rw[if_pos rfl,if_pos rfl];unfold askG goodG tCircles;simp
      ·rw[if_neg h5,if_neg h5]
       by_cases h6:q=wHunt
       ·subst h6
        rw[if_pos rfl,if_pos rfl];unfold askG goodG tHunt
        by_cases ha:0≤numL a
        ·simp[ha]
        ·simp[numL_neg ha,hh.neg,listB]
       ·rw[if_neg h6,if_neg h6]
 | [a,b]=>
  rw[askG_len (N:=1) (D:=false) (by simp),askG_len (N:=0) (D:=true) (by simp),askG_len (N:=0) (D:=true) (by simp),askG_len (N:=1) (D:=false) (by simp)];rw[askL_three]
  by_cases h1:q=wQuestions
  ·subst h1
   rw[if_pos rfl,if_neg n1.symm,if_neg n3.symm]
  ·rw[if_neg h1]
   by_cases h2:q=wDrops
   ·subst h2
    rw[if_pos rfl,if_pos rfl];unfold askG goodG tDrops
    by_cases ha:0≤numL a
    ·by_cases hb:0≤numL b
     ·simp[ha,hb]
     ·simp[ha,numL_neg hb,dropsB,tell_neg]
    ·simp[numL_neg ha,dropsB,tell_neg]
   ·rw[if_neg h2,if_neg h2]
    by_cases h4:q=wHats
    ·subst h4
     rw[if_pos rfl,if_neg k1,if_pos rfl];unfold askG goodG tHats
     by_cases ha:0≤numL a
     ·simp[ha]
     ·simp[numL_neg ha,hatsL,hatsOkB,listB]
    ·rw[if_neg h4,if_neg h4]
     repeat' split
     all_goals rfl
 | a::b::c::r=>
  rw[askG_len (by simp),askG_len (by simp),askG_len (by simp),askG_len (by simp),askG_len (by simp),askG_len (by simp)]
  show wWhat=_
  repeat' split
  all_goals rfl
end
section
open Go.RowKit Go.Maps
set_option maxRecDepth 100000
theorem keyStr:Keyed Tryz.prog 9:=string_keyed Tryz.underlying9
def keyW (u:List UInt8):Lit:=.string u
theorem keyOf_keyW {u:List UInt8} (h:u.length≤1000000000):keyOf Tryz.prog 9 (strV u)=some (keyW u):=by
 unfold strV;have:=Go.WideMaps.keyOf_string_mk (P:=Tryz.prog) (k:=9) Tryz.underlying9 (s:=⟨u.toArray⟩) (by simp only[ByteArray.size,List.size_toArray]; unfold maxLen; omega)
 simpa [keyW] using this
theorem keyW_key {u:List UInt8} (h:u.length≤1000000000):WideAt.IsKeyLit (keyW u):=keyStr.key (keyOf_keyW h)
theorem keyW_ne {u v:List UInt8} (h:u≠v):keyW u≠keyW v:=fun e=>h (by unfold keyW at e; injection e)
def qV (n:Int) (d:Bool) (f:FuncId):Value:=.agg #[.int .i64 n,.bool d,.func (.func f) #[] #[]]
def qZ:Value:=.agg #[.int .i64 0,.bool false,.nilFunc]
def qOf (u:List UInt8):Option (Int×Bool×FuncId):=
 if u=wQuestions then some (1,false,162) else if u=wDrops then some (2,false,164) else if u=wLies then some (0,true,166)
 else if u=wHats then some (1,true,168) else if u=wCircles then some (0,true,171) else if u=wHunt then some (1,false,173) else none
def qVal (o:Option (Int×Bool×FuncId)):Value:=match o with | some (n,d,f)=>qV n d f | none=>qZ
def QD (D:DataW Value) (f:List UInt8→Option (Int×Bool×FuncId)):Prop:=
 ∀ u:List UInt8,u.length≤1000000000→D.atKey (keyW u) (.held qZ)=.held (qVal (f u))∧Maps.has D (keyW u)=(f u).isSome
theorem QD.put {D:DataW Value} {f:List UInt8→Option (Int×Bool×FuncId)} (hD:IsMap D) (h:QD D f) (v:List UInt8) (hv:v.length≤1000000000) (n:Int) (d:Bool) (g:FuncId):
  QD (D.put (keyW v) (.held (qV n d g))) (fun u=>if u=v then some (n,d,g) else f u):=by
 intro u hu
 by_cases e:u=v
 ·subst e
  simp only[if_true];exact ⟨atKey_put_same hD (keyW_key hv) _ _,has_put_same hD (keyW_key hv) _⟩
 ·simp only[if_neg e]
  rw[atKey_put_other (keyW_ne e),has_put_other (keyW_ne e)];exact h u hu
theorem QD.nil:QD (.map []) (fun _=>none):=fun u _=>⟨rfl,rfl⟩
theorem qOf_eq (u:List UInt8):qOf u=(fun u=>if u=wHunt then some (1,false,173) else if u=wCircles then some (0,true,171) else if u=wHats then some (1,true,168)
 else if u=wLies then some (0,true,166) else if u=wDrops then some (2,false,164) else if u=wQuestions then some (1,false,162) else none) u:=by
 unfold qOf
 by_cases h1:u=wQuestions
 ·subst h1; rfl
 by_cases h2:u=wDrops
 ·subst h2; rfl
 by_cases h3:u=wLies
 ·subst h3; rfl
 by_cases h4:u=wHats
 ·subst h4; rfl
 by_cases h5:u=wCircles
 ·subst h5; rfl
 by_cases h6:u=wHunt
 ·subst h6; rfl
 simp only[if_neg h1,if_neg h2,if_neg h3,if_neg h4,if_neg h5,if_neg h6]
def QMap (b:Nat) (w:World):Prop:=∃ D,w.ownsMap Tryz.prog 9 heldR b 6 D∧QD D qOf
theorem QMap.below {b:Nat} {w w':World} (h:QMap b w) (hb:Below w.heap.size w w'):QMap b w':=by
 obtain ⟨D,hm,hD⟩:=h;exact ⟨D,hm.kept (⟨hb.os,hb.tape,hb.output,hb.size,fun k hk _=>hb.block k hk⟩:w.grownBy w' none) (by simp),hD⟩
theorem QMap.look {b:Nat} {w:World} (h:QMap b w) {u:List UInt8} (hu:u.length≤1000000000):
  (Instr.lookup 152 (.map (some b)) (strV u) true).run Tryz.prog w=.ok (.tuple #[qVal (qOf u),.bool (qOf u).isSome]) w:=by
 obtain ⟨D,hm,hD⟩:=h;obtain ⟨v,ps,hrun,hat⟩:=hm.look_ok keyStr Tryz.underlying152 (Tryz.zeroValue150 w) (zd:=.held qZ) (zp:=[]) rfl (keyOf_keyW hu);obtain ⟨h1,h2⟩:=hD u hu;rw[h1] at hat;unfold heldR at hat;simp only[Option.some.injEq,Prod.mk.injEq,DataW.held.injEq] at hat;rw[h2,hat.1] at hrun;exact hrun
set_option maxHeartbeats 4000000 in
theorem questions_any (w:World):
  Calls Tryz.prog 128 #[] w fun e w'=>∃ b,e=.returned (.map (some b))∧QMap b w'∧Below w.heap.size w w':=by
 have hmm:=@run_makeMap Tryz.prog;have hm0:(w.alloc (.map #[] 0)).ownsMap Tryz.prog 9 heldR w.heap.size 0 (.map []):=World.ownsMap_made w Tryz.prog 9 heldR;have hu:=Tryz.underlying152;have hb0:Below w.heap.size w (w.alloc (.map #[] 0)):=(Below.refl _ _).alloc (Nat.le_refl _) _;obtain ⟨w1,r1,m1,g1⟩:=hm0.update keyStr hu (by unfold maxLen; omega) (keyOf_keyW (u:=wQuestions) (by decide)) (d:=.held (qV 1 false 162)) (ps:=[]) (val:=qV 1 false 162) rfl;obtain ⟨w2,r2,m2,g2⟩:=m1.update keyStr hu (by unfold maxLen; omega) (keyOf_keyW (u:=wDrops) (by decide)) (d:=.held (qV 2 false 164)) (ps:=[]) (val:=qV 2 false 164) rfl;obtain ⟨w3,r3,m3,g3⟩:=m2.update keyStr hu (by unfold maxLen; omega) (keyOf_keyW (u:=wLies) (by decide)) (d:=.held (qV 0 true 166)) (ps:=[]) (val:=qV 0 true 166) rfl;obtain ⟨w4,r4,m4,g4⟩:=m3.update keyStr hu (by unfold maxLen; omega) (keyOf_keyW (u:=wHats) (by decide)) (d:=.held (qV 1 true 168)) (ps:=[]) (val:=qV 1 true 168) rfl;obtain ⟨w5,r5,m5,g5⟩:=m4.update keyStr hu (by unfold maxLen; omega) (keyOf_keyW (u:=wCircles) (by decide)) (d:=.held (qV 0 true 171)) (ps:=[]) (val:=qV 0 true 171) rfl;obtain ⟨w6,r6,m6,g6⟩:=m5.update keyStr hu (by unfold maxLen; omega) (keyOf_keyW (u:=wHunt) (by decide)) (d:=.held (qV 1 false 173)) (ps:=[]) (val:=qV 1 false 173) rfl;have hq:=(((((QD.nil.put hm0.isMap wQuestions (by decide) 1 false 162).put m1.isMap wDrops (by decide) 2 false 164).put m2.isMap wLies (by decide) 0 true 166).put m3.isMap wHats (by decide) 1 true 168).put m4.isMap wCircles (by decide) 0 true 171).put m5.isMap wHunt (by decide) 1 false 173;have HQ:=hdd (show QMap w.heap.size w6 from ⟨_,m6,fun u hu=>by rw[qOf_eq]; exact hq u hu⟩);have hsz:∀ k,some w.heap.size=some k→w.heap.size≤k:=fun k e=>by injection e with e; omega
 have s1:=hb0.grown g1 hb0.size (fun k hk=>hsz k hk);have s2:=s1.grown g2 s1.size (fun k hk=>hsz k hk);have s3:=s2.grown g3 s2.size (fun k hk=>hsz k hk);have s4:=s3.grown g4 s3.size (fun k hk=>hsz k hk);have s5:=s4.grown g5 s4.size (fun k hk=>hsz k hk);have HB:=hdd (s5.grown g6 s5.size (fun k hk=>hsz k hk));unfold qV strV wQuestions at r1;unfold qV strV wDrops at r2;unfold qV strV wLies at r3;unfold qV strV wHats at r4;unfold qV strV wCircles at r5;unfold qV strV wHunt at r6;clear m1 m2 m3 m4 m5 m6 g1 g2 g3 g4 g5 g6 s1 s2 s3 s4 s5 hm0 hb0 hq hsz hu;go_enter Tryz.func128,Tryz.ntmps128;go_wp2;go_ret;exact ⟨_,rfl,HQ.out,HB.out⟩
end
end Go.Proofs.YtenlngclocfnlaaGreatDoor
