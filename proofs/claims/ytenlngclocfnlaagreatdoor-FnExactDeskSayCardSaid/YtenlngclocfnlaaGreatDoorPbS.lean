/- Texts of this claim, put together: FrameG. -/
import Derived.Test.YtenlngclocfnlaaGreatDoorPbI
import Derived.Test.YtenlngclocfnlaaGreatDoorPbG
import Derived.Lib.SmallJoins
namespace Go.Proofs.YtenlngclocfnlaaGreatDoor
open Go.ChangeShapes Go.WideShapes Go.ChangeAt Go.RowKit
open Go.ChangeMaps (open_string shut_string)
open Go.Deep (trod_struct3)
open Go.Joins (open_agg3)
set_option linter.unusedVariables false
set_option maxRecDepth 100000
section
variable {H:Type} {enc:TypeId×Value→H} {W:World} {base:Nat} {held:Bool} {v:Value} {d:DataW H} {p:List MemPlace}
theorem ints_of_cell {n:Nat} {V:Value} {y:DataW H×List MemPlace} (h:DataW.trod enc Tryz.prog W 0 (fun _=>true) held n 37 [V]=some y):∃ xs,Ints 0 W V xs:=by
 rcases open_ints Tryz.underlying37 Tryz.underlying3 (by kernel_rfl) h with ⟨hcs,_⟩ | ⟨x,l,c,zs,hcs,_,hl,hm,hz,_,hcell,hwz⟩
 ·injection hcs with hcs _
  subst hcs
  exact ⟨[],Ints.nil 0 W⟩
 ·injection hcs with hcs _
  subst hcs
  exact ⟨_,ints_of_cells hl hm (by simpa using hz) hcell hwz⟩
theorem int_of_cell {n:Nat} {V:Value} {y:DataW H×List MemPlace} (h:DataW.trod enc Tryz.prog W 0 (fun _=>true) held n 3 [V]=some y):∃ x,V=.int .i64 x:=by
 obtain ⟨x,e,_⟩:=DataW.trod_int Tryz.underlying3 h
 injection e with e _
 exact ⟨x,e⟩
theorem guess_of_cells {n:Nat} {cs:List Value} {y:DataW H×List MemPlace} (h:DataW.trod enc Tryz.prog W 0 (fun _=>true) held n 137 cs=some y):
  ∃ V x r nr,cs=[V,.int .i64 r,.int .i64 nr]∧Ints 0 W V x:=by
 obtain ⟨y0,y1,y2,k,_,hl,h0,h1,h2⟩:=trod_struct3 Tryz.underlying137 h
 have hc:Tryz.prog.cellsOf 137=3:=by kernel_rfl
 rw[hc] at hl
 obtain ⟨a,b,c,rfl⟩:∃ a b c,cs=[a,b,c]:=by
  match cs,hl with
  | [a,b,c],_=>exact ⟨a,b,c,rfl⟩
 have c0:Tryz.prog.cellsOf 37=1:=by kernel_rfl
 have c1:Tryz.prog.cellsOf 3=1:=by kernel_rfl
 simp only[c0,c1,List.drop_zero,List.drop_succ_cons,List.take_succ_cons,List.take_zero] at h0 h1 h2
 obtain ⟨x,hx⟩:=ints_of_cell h0
 obtain ⟨r,rfl⟩:=int_of_cell h1
 obtain ⟨nr,rfl⟩:=int_of_cell h2
 exact ⟨_,x,r,nr,rfl,hx⟩
theorem guesses_of_cell {n:Nat} {V:Value} {y:DataW H×List MemPlace} (h:DataW.trod enc Tryz.prog W 0 (fun _=>true) held n 55 [V]=some y):∃ gs,GL 0 W V gs:=by
 rcases Go.Deep.open_slice Tryz.underlying55 h with ⟨hcs,_⟩ | ⟨a,len,cap,m,k,D,Pl,hcs,_,hl,hm,hmm,_,hx⟩
 ·injection hcs with hcs _
  subst hcs
  exact ⟨[],GL.nil 0 W⟩
 ·injection hcs with hcs _
  subst hcs
  have hlm:len≤m:=by rw[hmm]; split <;> omega
  have hc:Tryz.prog.cellsOf 137=3:=by kernel_rfl
  have each:∀ i,i<len→∃ q:Value×Gs,W.cell? (a.add (i*3))=some q.1∧W.cell? (a.add (i*3+1))=some (.int .i64 q.2.right)∧W.cell? (a.add (i*3+2))=some (.int .i64 q.2.near)∧Ints 0 W q.1 q.2.code:=by
   intro i hi
   obtain ⟨cs',h1,h2⟩:=hx i (by omega)
   rw[hc] at h1
   obtain ⟨_,hlen,hcell⟩:=World.cells?_some h1
   obtain ⟨V,x,r,nr,rfl,hI⟩:=guess_of_cells h2
   have e0:=hcell 0 (by omega)
   have e1:=hcell 1 (by omega)
   have e2:=hcell 2 (by omega)
   rw[Go.Deep.add_add] at e0 e1 e2
   exact ⟨(V,⟨x,r,nr⟩),by simpa using e0,by simpa using e1,by simpa using e2,hI⟩
  haveI:Inhabited Gs:=⟨⟨[],0,0⟩⟩
  haveI:Inhabited (Value×Gs):=⟨(undef,⟨[],0,0⟩)⟩
  obtain ⟨q,hq⟩:=Go.Deep.choose_lt each
  refine ⟨(List.range len).map fun i=>(q i).2,some a,cap,fun i=>(q i).1,by simp,by simpa using hl,by simpa [maxLen] using hm,fun hp=>?_,fun i hi=>?_⟩
  ·simp only[List.length_map,List.length_range] at hp
   obtain ⟨b,off,rfl⟩:=addr_none (by have:=(hq 0 hp).1; rwa [Nat.zero_mul] at this)
   refine ⟨b,off,rfl,Nat.zero_le _,fun i hi=>?_⟩
   simp only[List.length_map,List.length_range] at hi
   obtain ⟨q0,q1,q2,_⟩:=hq i hi
   rw[add_plain] at q0 q1 q2
   simp only[List.getElem_map,List.getElem_range]
   exact ⟨q0,by rw[Nat.add_assoc]; exact q1,by rw[Nat.add_assoc]; exact q2⟩
  ·simp only[List.length_map,List.length_range] at hi
   simp only[List.getElem_map,List.getElem_range]
   exact (hq i hi).2.2.2
theorem desk_of_trod {r:Reach} {b0:Nat} (hv:Value.okWide Tryz.prog W r b0 57 v) (h:DataW.Trod enc Tryz.prog W 0 (fun _=>true) held 57 v d p):
  ∃ x c u gs,v=dkV x c u∧GL 0 W u gs:=by
 obtain ⟨v0,v1,v2,y0,y1,y2,n,rfl,_,_,h0,h1,h2⟩:=open_agg3 Tryz.underlying57 (by kernel_rfl) (by kernel_rfl) hv h
 obtain ⟨x,rfl⟩:=int_of_cell h0
 obtain ⟨c,rfl⟩:=int_of_cell h1
 obtain ⟨gs,hg⟩:=guesses_of_cell h2
 exact ⟨x,c,v2,gs,rfl,hg⟩
end
end Go.Proofs.YtenlngclocfnlaaGreatDoor
