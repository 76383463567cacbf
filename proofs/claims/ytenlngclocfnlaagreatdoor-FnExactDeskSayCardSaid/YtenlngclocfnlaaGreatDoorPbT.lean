/- Texts of this claim, put together: FrameW. -/
import Derived.Test.YtenlngclocfnlaaGreatDoorPbS
import Derived.Test.YtenlngclocfnlaaGreatDoorPbK
import Derived.Deep.Strs
namespace Go.Proofs.YtenlngclocfnlaaGreatDoor
open Go.ChangeShapes Go.WideShapes Go.ChangeAt Go.RowKit
set_option linter.unusedVariables false
set_option maxRecDepth 100000
section
variable {H:Type} {enc:TypeId×Value→H} {W:World} {base:Nat} {held:Bool} {v:Value} {d:DataW H} {p:List MemPlace}
theorem strs_of_cell {n:Nat} {V:Value} {y:DataW H×List MemPlace} (h:DataW.trod enc Tryz.prog W 0 (fun _=>true) held n 50 [V]=some y):
  ∃ us:List (List UInt8),SL 0 W V (us.map strV)∧∀ u∈us,u.length≤9223372036854775807:=by
 rcases Go.Deep.open_strs Tryz.underlying50 Tryz.underlying9 (by kernel_rfl) h with ⟨hcs,_⟩ | ⟨a,len,cap,m,Sx,hcs,_,hl,hm,hmm,_,hx⟩
 ·injection hcs with hcs _
  subst hcs
  exact ⟨[],SL.nil 0 W,fun u hu=>by cases hu⟩
 ·injection hcs with hcs _
  subst hcs
  have hlm:len≤m:=by rw[hmm]; split <;> omega
  refine ⟨(List.range len).map fun i=>(Sx i).data.toList,⟨some a,cap,by simp,by simpa using hl,by simpa [maxLen] using hm,fun hp=>?_⟩,fun u hu=>?_⟩
  ·simp only[List.length_map,List.length_range] at hp
   obtain ⟨b,off,rfl⟩:=addr_none (hx 0 (by omega)).1
   refine ⟨b,off,rfl,Nat.zero_le _,fun i hi=>?_⟩
   simp only[List.length_map,List.length_range] at hi
   have:=(hx i (by omega)).1
   rw[add_plain] at this
   rw[this]
   simp[strV]
  ·simp only[List.mem_map,List.mem_range] at hu
   obtain ⟨i,hi,rfl⟩:=hu
   have:=(hx i (by omega)).2
   have e:(Sx i).data.toList.length=(Sx i).size:=by rw[Array.length_toList]; rfl
   rw[e]
   exact this
theorem strs_of_trod {a:Option Addr} {len cap:Nat} (h:DataW.Trod enc Tryz.prog W 0 (fun _=>true) held 50 (.slice a len cap) d p):
  ∃ us:List (List UInt8),SL 0 W (.slice a len cap) (us.map strV)∧∀ u∈us,u.length≤9223372036854775807:=by
 obtain ⟨fuel,hf⟩:=h
 exact strs_of_cell (V:=.slice a len cap) (by simpa [Value.cells] using hf)
end
end Go.Proofs.YtenlngclocfnlaaGreatDoor
