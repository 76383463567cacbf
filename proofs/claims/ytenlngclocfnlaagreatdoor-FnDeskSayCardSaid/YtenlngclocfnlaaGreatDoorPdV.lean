/- Texts of this claim, put together: HuntRow. -/
import Derived.Test.YtenlngclocfnlaaGreatDoorPdU
import Derived.Test.YtenlngclocfnlaaGreatDoorPdT
import Derived.Test.YtenlngclocfnlaaGreatDoorPdS
import Derived.Test.YtenlngclocfnlaaGreatDoorPdK
namespace Go.Proofs.YtenlngclocfnlaaGreatDoor
set_option linter.unusedVariables false
section
open Go.RowKit
def HuntsOk (hf:Int→List Int):Prop:=∀ n l ok,HuntIs (inRowR n) l ok→l=hf n∧(ok=true↔l≠[])∧allD l=true∧l.length≤16
theorem hunts:∃ hf:Int→List Int,HuntsOk hf:=by
 have h:∀ n:Int,∃ x:List Int,∀ l ok,HuntIs (inRowR n) l ok→l=x:=fun n=>by
  by_cases h:∃ l ok,HuntIs (inRowR n) l ok
  ·obtain ⟨l0,ok0,h0⟩:=h; exact ⟨l0,fun l ok h=>(h.unique h0).1⟩
  ·exact ⟨[],fun l ok hh=>absurd ⟨l,ok,hh⟩ h⟩
 obtain ⟨hf,hh⟩:=Classical.axiomOfChoice h;refine ⟨hf,fun n l ok hi=>⟨hh n l ok hi,?_⟩⟩;have hi2:=hi
 rcases hi with ⟨hb,rfl,w,hw,rfl⟩ | ⟨rfl,rfl,_⟩
 ·have hlen:=(besideB_spec hb).1
  have hrow:1≤n∧n≤6:=by
   apply Classical.byContradiction;intro hn;unfold inRowR at hlen;rw[if_neg hn] at hlen;simp at hlen
  have e:inRowR n=lineR n.toNat false:=by unfold inRowR; rw[if_pos hrow]
  rw[e] at hi2 hw hlen;rw[lineR_length] at hlen;have hr:=(row_hunt (by omega) (by omega) hi2).2;have hpos:1≤daysOfRow n.toNat:=by
   have:n.toNat=1∨n.toNat=2∨n.toNat=3∨n.toNat=4∨n.toNat=5∨n.toNat=6:=by omega
   rcases this with h | h | h | h | h | h <;> rw[h] <;> decide
  refine ⟨⟨fun _ q=>?_,fun _=>rfl⟩,?_,?_⟩
  ·rw[q] at hr; simp at hr; omega
  ·refine List.all_eq_true.2 fun x hx=>?_
   obtain ⟨b,hb2,rfl⟩:=List.mem_map.1 hx;have:=hw.1 b hb2;rw[lineR_length] at this;exact inB_of (by omega) (by omega)
  ·have:=hw.2.2.1
   simpa [toI] using this
 ·exact ⟨⟨fun q=>(by cases q),fun q=>absurd rfl q⟩,rfl,by simp⟩
end
end Go.Proofs.YtenlngclocfnlaaGreatDoor
