/- Texts of this claim, put together: BunT. -/
import Derived.Test.YtenlngclocfnlaaGreatDoorPdA
import Derived.ProofKit
import Derived.OpenShut
import Derived.ShutString
import Derived.ChangeOld
import Derived.Deep.Matrix
import Derived.Test.YtenlngclocfnlaaGreatDoorPdH
namespace Go.Proofs.YtenlngclocfnlaaGreatDoor
set_option linter.unusedVariables false
section
open Go.ChangeShapes Go.WideShapes Go.ChangeAt Go.RowKit
open Go.ChangeMaps (open_string shut_string)
theorem own:ownKnob Tryz.prog.godebug=none:=by kernel_rfl
theorem laidOut:laidOutB Tryz.prog=true:=by kernel_rfl
theorem wf_in64 {a:Int} (h:(Lit.int .i64 a).wf=true):In64 a:=by
 have e1:IntKind.i64.min=-9223372036854775808:=rfl;have e2:IntKind.i64.max=9223372036854775807:=rfl;simp[Lit.wf] at h;unfold In64;omega
theorem addr_none {w:World} {x:Addr} {u:Value} (h:w.cell? (x.add 0)=some u):∃ b off,x=⟨b,off,none⟩:=by
 obtain ⟨b,off,spot⟩:=x;have hspot:spot=none:=by simpa [Addr.add] using World.cell?_spot h
 subst hspot;exact ⟨b,off,rfl⟩
theorem add_plain (b off i:Nat):(⟨b,off,none⟩:Addr).add i=⟨b,off+i,none⟩:=by unfold Addr.add; split <;> simp_all
section
variable {H:Type} {enc:TypeId×Value→H} {W:World} {base:Nat} {held:Bool} {v:Value} {d:DataW H} {p:List MemPlace}
theorem ints_of_cells {a:Addr} {len cap:Nat} {zs:List Int} (hl:len≤cap) (hm:cap≤maxLen) (hz:zs.length=cap) (hcell:∀ i,i<zs.length→W.cell? (a.add i)=some (.int .i64 (zs.getD i 0)))
  (hwz:∀ n∈zs,(Lit.int .i64 n).wf=true):Ints 0 W (.slice (some a) len cap) (zs.take len):=by
 refine ⟨⟨some a,cap,by simp; omega,by simp; omega,by simpa [maxLen] using hm,fun hp=>?_⟩,fun x hx=>wf_in64 (hwz x (List.mem_of_mem_take hx))⟩;have hpos:0<zs.length:=by simp at hp; omega
 obtain ⟨b,off,rfl⟩:=addr_none (hcell 0 hpos);refine ⟨b,off,rfl,Nat.zero_le _,fun i hi=>?_⟩;simp only[ints_length,List.length_take] at hi;rw[←add_plain,hcell i (by omega)];simp[List.getD,List.getElem?_eq_getElem (show i<zs.length by omega)]
end
theorem wf_u8 {a:Int} (h:(Lit.int .u8 a).wf=true):0≤a∧a≤255:=by
 have e1:IntKind.u8.min=0:=rfl;have e2:IntKind.u8.max=255:=rfl;simp[Lit.wf] at h;omega
section
variable {H:Type} {enc:TypeId×Value→H} {W:World} {base:Nat} {held:Bool} {v:Value} {d:DataW H} {p:List MemPlace}
theorem bytes_of_cells {a:Addr} {len cap:Nat} {zs:List Int} (hl:len≤cap) (hm:cap≤maxLen) (hz:zs.length=cap) (hcell:∀ i,i<zs.length→W.cell? (a.add i)=some (.int .u8 (zs.getD i 0)))
  (hwz:∀ n∈zs,(Lit.int .u8 n).wf=true):Bytes 0 W (.slice (some a) len cap) (zs.take len):=by
 refine ⟨⟨some a,cap,by simp; omega,by simp; omega,by simpa [maxLen] using hm,fun hp=>?_⟩,fun x hx=>wf_u8 (hwz x (List.mem_of_mem_take hx))⟩;have hpos:0<zs.length:=by simp at hp; omega
 obtain ⟨b,off,rfl⟩:=addr_none (hcell 0 hpos);refine ⟨b,off,rfl,Nat.zero_le _,fun i hi=>?_⟩;simp only[List.length_map,List.length_take] at hi;rw[←add_plain,hcell i (by omega)];simp[List.getD,List.getElem?_eq_getElem (show i<zs.length by omega)]
theorem bytes_of_trod {a:Option Addr} {len cap:Nat} (h:DataW.Trod enc Tryz.prog W 0 (fun _=>true) held 22 (.slice a len cap) d p):
  ∃ xs,Bytes 0 W (.slice a len cap) xs:=by
 obtain ⟨fuel,hf⟩:=h
 rcases open_ints Tryz.underlying22 Tryz.underlying5 (by kernel_rfl) hf with ⟨hcs,_⟩ | ⟨x,l,c,zs,hcs,_,hl,hm,hz,_,hcell,hwz⟩
 ·simp[Value.cells] at hcs
  obtain ⟨rfl,rfl,rfl⟩:=hcs;exact ⟨[],⟨⟨none,0,by simp,by simp,by simp,fun hp=>by simp at hp⟩,by simp⟩⟩
 ·simp[Value.cells] at hcs
  obtain ⟨rfl,rfl,rfl⟩:=hcs;exact ⟨_,bytes_of_cells hl hm (by simpa using hz) hcell hwz⟩
end
end
end Go.Proofs.YtenlngclocfnlaaGreatDoor
