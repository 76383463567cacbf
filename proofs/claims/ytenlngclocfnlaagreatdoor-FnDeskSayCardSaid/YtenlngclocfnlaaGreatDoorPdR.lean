/- Texts of this claim, put together: FrameV. -/
import Derived.Test.YtenlngclocfnlaaGreatDoorPdN
import Derived.Test.YtenlngclocfnlaaGreatDoorPdQ
import Derived.Lib.LaidTab
import Derived.LaidSub
namespace Go.Proofs.YtenlngclocfnlaaGreatDoor
set_option linter.unusedVariables false
section
open Go.ChangeShapes Go.WideShapes Go.ChangeAt Go.RowKit
theorem tabW_of {W:World} (h:laidMetH Tryz.prog lay7 W):TabW W:=by
 have h1:=h.filter (fun x=>x.1 == "internal/strconv.uint64pow10");have e:lay7.filter (fun x=>x.1 == "internal/strconv.uint64pow10")=[("internal/strconv.uint64pow10",Lib.tabData .u64 Lib.pow10Tab)]:=by rfl
 rw[e,MakeChecks.laidMetH_plain _ _ _ (by kernel_rfl)] at h1;exact Lib.tabIs_of_head (g:=1) (t:=208) (by kernel_rfl) (by kernel_rfl) Tryz.underlying208 Tryz.underlying195 (by kernel_rfl) (by kernel_rfl) h1
theorem gW_of {W:World} (hs:W.ShapedOpen Tryz.prog) (h:laidMetH Tryz.prog lay7 W):GW W:=⟨maxIs_of hs,tabW_of h⟩
end
end Go.Proofs.YtenlngclocfnlaaGreatDoor
