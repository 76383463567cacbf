/- Texts of this claim, put together: BunT. -/
import Derived.Test.YtenlngclocfnlaaGreatDoorPbA
import Derived.ProofKit
import Derived.OpenShut
import Derived.ShutString
import Derived.ChangeOld
import Derived.Deep.Matrix
import Derived.Test.YtenlngclocfnlaaGreatDoorPbH
namespace Go.Proofs.YtenlngclocfnlaaGreatDoor
open Go.ChangeShapes Go.WideShapes Go.ChangeAt Go.RowKit
open Go.ChangeMaps (open_string shut_string)
set_option linter.unusedVariables false
theorem own:ownKnob Tryz.prog.godebug=none:=by kernel_rfl
theorem laidOut:laidOutB Tryz.prog=true:=by kernel_rfl
theorem wf_in64 {a:Int} (h:(Lit.int .i64 a).wf=true):In64 a:=by
 have e1:IntKind.i64.min=-9223372036854775808:=rfl
 have e2:IntKind.i64.max=9223372036854775807:=rfl
 simp[Lit.wf] at h
 unfold In64
 omega
theorem addr_none {w:World} {x:Addr} {u:Value} (h:w.cell? (x.add 0)=some u):∃ b off,x=⟨b,off,none⟩:=by
 obtain ⟨b,off,spot⟩:=x
 have hspot:spot=none:=by simpa [Addr.add] using World.cell?_spot h
 subst hspot
 exact ⟨b,off,rfl⟩
theorem add_plain (b off i:Nat):(⟨b,off,none⟩:Addr).add i=⟨b,off+i,none⟩:=by unfold Addr.add; split <;> simp_all
section
variable {H:Type} {enc:TypeId×Value→H} {W:World} {base:Nat} {held:Bool} {v:Value} {d:DataW H} {p:List MemPlace}
theorem ints_of_cells {a:Addr} {len cap:Nat} {zs:List Int} (hl:len≤cap) (hm:cap≤maxLen) (hz:zs.length=cap) (hcell:∀ i,i<zs.length→W.cell? (a.add i)=some (.int .i64 (zs.getD i 0)))
  (hwz:∀ n∈zs,(Lit.int .i64 n).wf=true):Ints 0 W (.slice (some a) len cap) (zs.take len):=by
 refine ⟨⟨some a,cap,by simp; omega,by simp; omega,by simpa [maxLen] using hm,fun hp=>?_⟩,fun x hx=>wf_in64 (hwz x (List.mem_of_mem_take hx))⟩
 have hpos:0<zs.length:=by simp at hp; omega
 obtain ⟨b,off,rfl⟩:=addr_none (hcell 0 hpos)
 refine ⟨b,off,rfl,Nat.zero_le _,fun i hi=>?_⟩
 simp only[ints_length,List.length_take] at hi
 rw[←add_plain,hcell i (by omega)]
 simp[List.getD,List.getElem?_eq_getElem (show i<zs.length by omega)]
end
end Go.Proofs.YtenlngclocfnlaaGreatDoor
namespace Go.Proofs.YtenlngclocfnlaaGreatDoor
open Go.ChangeShapes Go.WideShapes Go.ChangeAt Go.RowKit
open Go.ChangeMaps (open_string shut_string)
set_option linter.unusedVariables false
section
variable {H:Type} {enc:TypeId×Value→H} {W:World} {base:Nat} {held:Bool} {v:Value} {d:DataW H} {p:List MemPlace}
end
end Go.Proofs.YtenlngclocfnlaaGreatDoor
