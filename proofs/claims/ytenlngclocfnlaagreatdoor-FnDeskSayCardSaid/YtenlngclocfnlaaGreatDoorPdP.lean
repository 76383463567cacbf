/- Texts of this claim, put together: AskMath. -/
import Derived.Test.YtenlngclocfnlaaGreatDoorPdJ
import Derived.Test.YtenlngclocfnlaaGreatDoorPdO
import Derived.Lib.ItoaNum
namespace Go.Proofs.YtenlngclocfnlaaGreatDoor
set_option linter.unusedVariables false
section
def wQuestions:List UInt8:=[113,117,101,115,116,105,111,110,115]
def wDrops:List UInt8:=[100,114,111,112,115]
def wLies:List UInt8:=[108,105,101,115]
def wHats:List UInt8:=[104,97,116,115]
def wCircles:List UInt8:=[99,105,114,99,108,101,115]
def wHunt:List UInt8:=[104,117,110,116]
def wNone:List UInt8:=[110,111,110,101]
def wWhat:List UInt8:=[119,104,97,116]
def wFit:List UInt8:=[102,105,116]
def wNext:List UInt8:=[110,101,120,116]
def wMade:List UInt8:=[109,97,100,101]
def tellB (n:Int):List UInt8:=if n<0 then wNone else Lib.decDigits n.toNat
def listB (l:List Int):List UInt8:=if l=[] then wNone else l.map dg
def askL (hf:Int→List Int):List (List UInt8)→List UInt8
 | [q,a]=>if q=wQuestions then tellB (leastQ (numL a)) else if q=wLies then (if rowB a=true then tellB (fewB (rowX a)) else wNone)
   else if q=wCircles then (if rowB a=true then listB (circL (rowX a)) else wNone) else if q=wHunt then listB (hf (numL a)) else wWhat
 | [q,a,b]=>if q=wDrops then tellB (dropsB (numL a) (numL b)) else if q=wHats then (if rowB b=true then listB (hatsL (numL a) (rowX b)) else wNone) else wWhat
 | _=>wWhat
theorem dec_ne (u:Nat):Lib.decDigits u≠[]:=by
 rw[Lib.decDigits]
 split <;> simp
theorem tellB_ne (n:Int):tellB n≠[]:=by
 unfold tellB
 split
 ·simp[wNone]
 ·exact dec_ne _
theorem listB_ne (l:List Int):listB l≠[]:=by
 unfold listB
 split
 ·simp[wNone]
 ·rename_i h; simpa using h
theorem wNone_ne:wNone≠[]:=by simp[wNone]
theorem wWhat_ne:wWhat≠[]:=by simp[wWhat]
theorem askL_ne (hf:Int→List Int) (ws:List (List UInt8)):askL hf ws≠[]:=by
 match ws with
 | []=>exact wWhat_ne
 | [q]=>exact wWhat_ne
 | [q,a]=>
  simp only[askL]
  split
  ·exact tellB_ne _
  ·split
   ·split
    ·exact tellB_ne _
    ·exact wNone_ne
   ·split
    ·split
     ·exact listB_ne _
     ·exact wNone_ne
    ·split
     ·exact listB_ne _
     ·exact wWhat_ne
 | [q,a,b]=>
  simp only[askL]
  split
  ·exact tellB_ne _
  ·split
   ·split
    ·exact listB_ne _
    ·exact wNone_ne
   ·exact wWhat_ne
 | q::a::b::c::r=>exact wWhat_ne
theorem numL_rng (l:List UInt8):-1≤numL l∧numL l≤999:=by
 unfold numL
 split
 ·rename_i h
  simp only[Bool.and_eq_true,decide_eq_true_eq] at h;obtain ⟨⟨⟨h1,h2⟩,_⟩,h3⟩:=h;have hb:∀ b∈l,0≤ud b∧ud b≤9:=fun b hb=>by
   have:=isD_iff.1 (List.all_eq_true.1 h3 b hb);unfold ud; omega
  match l,h1,h2,hb with
  | [x],_,_,hb=>have:=hb x (by simp); simp only[List.foldl]; omega
  | [x,y],_,_,hb=>have:=hb x (by simp); have:=hb y (by simp); simp only[List.foldl]; omega
  | [x,y,z],_,_,hb=>have:=hb x (by simp); have:=hb y (by simp); have:=hb z (by simp); simp only[List.foldl]; omega
 ·omega
end
end Go.Proofs.YtenlngclocfnlaaGreatDoor
