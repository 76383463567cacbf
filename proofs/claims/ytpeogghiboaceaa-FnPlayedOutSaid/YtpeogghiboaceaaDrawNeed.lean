/- The draws of the laws on tables: a table; a table and a lot; and a question. -/
import Derived.Test.YtpeogghiboaceaaDrawLot
import Derived.Test.YtpeogghiboaceaaTabs
namespace Go.Proofs.Ytpeogghiboaceaa
open Go.RowKit
set_option linter.unusedVariables false

theorem drawApartOk_any {B : Nat} (v : Value) (bs : List Int) (w : World) (h : Bytes B w v bs) :
    Calls Try.prog 28 #[v] w (TabOut w) := by
  go_enter Try.func28, Try.ntmps28
  go_wp2_with fail
  refine (open_any _ _ _ h).mono ?_
  rintro e w1 ⟨a, cap, cs, rfl, hR, hb⟩
  go_wp2_with fail
  refine (table_any 9 _ _ _ _ _ _ hR (by omega) (by unfold In64; omega)).mono ?_
  rintro e w2 ⟨xss, a', cap', rfl, hrows, _, hg⟩
  have hs1 := hR.lt
  go_wp2
  go_ret
  exact ⟨xss, a', cap', rfl, hrows.mono (by omega), below_of_grown hb hg (by omega)⟩

theorem drawPlayedOut_any {B : Nat} (v : Value) (bs : List Int) (w : World) (h : Bytes B w v bs) :
    Calls Try.prog 41 #[v] w (TabOut w) := by
  go_enter Try.func41, Try.ntmps41
  go_wp2_with fail
  refine (open_any _ _ _ h).mono ?_
  rintro e w1 ⟨a, cap, cs, rfl, hR, hb⟩
  go_wp2_with fail
  refine (table_any 9 _ _ _ _ _ _ hR (by omega) (by unfold In64; omega)).mono ?_
  rintro e w2 ⟨xss, a', cap', rfl, hrows, _, hg⟩
  have hs1 := hR.lt
  go_wp2
  go_ret
  exact ⟨xss, a', cap', rfl, hrows.mono (by omega), below_of_grown hb hg (by omega)⟩

/-- A table and a lot. -/
def TabLot (w : World) (e : Ending) (w' : World) : Prop :=
  ∃ xss a cap lot, e = .returned (.tuple #[.slice a xss.length cap, .int .i64 lot]) ∧ 0 ≤ lot ∧ lot ≤ 511 ∧ Rows2 w.heap.size w' (.slice a xss.length cap) xss ∧ Below w.heap.size w w'

theorem drawNeededAt_any {B : Nat} (v : Value) (bs : List Int) (w : World) (h : Bytes B w v bs) :
    Calls Try.prog 26 #[v] w (TabLot w) := by
  go_enter Try.func26, Try.ntmps26
  go_wp2_with fail
  refine (open_any _ _ _ h).mono ?_
  rintro e w1 ⟨a, cap, cs, rfl, hR, hb⟩
  have hs1 := hR.lt
  go_wp2_with fail
  refine (lot_any _ _ _ _ _ _ hR (by omega)).mono ?_
  rintro e w2 ⟨xss, a', cap', lot, rfl, hl0, hl1, hx2, _, hg2⟩
  have HX := Lib.hid (hx2.mono (B' := w.heap.size) (by omega))
  have HG := Lib.hid (below_of_grown hb hg2 (by omega))
  clear hR hb hx2 hg2
  go_wp2
  go_ret2
  exact ⟨xss, a', cap', lot, rfl, hl0, hl1, HX.out, HG.out⟩

theorem drawAskNext_any {B : Nat} (v : Value) (bs : List Int) (w : World) (h : Bytes B w v bs) :
    Calls Try.prog 38 #[v] w (TabLot w) := by
  go_enter Try.func38, Try.ntmps38
  go_wp2_with fail
  refine (open_any _ _ _ h).mono ?_
  rintro e w1 ⟨a, cap, cs, rfl, hR, hb⟩
  have hs1 := hR.lt
  go_wp2_with fail
  refine (lot_any _ _ _ _ _ _ hR (by omega)).mono ?_
  rintro e w2 ⟨xss, a', cap', lot, rfl, hl0, hl1, hx2, _, hg2⟩
  have HX := Lib.hid (hx2.mono (B' := w.heap.size) (by omega))
  have HG := Lib.hid (below_of_grown hb hg2 (by omega))
  clear hR hb hx2 hg2
  go_wp2
  go_ret2
  exact ⟨xss, a', cap', lot, rfl, hl0, hl1, HX.out, HG.out⟩

/-- A table, a lot and a question. -/
def TabLotAsk (w : World) (e : Ending) (w' : World) : Prop :=
  ∃ xss a cap lot q, e = .returned (.tuple #[.slice a xss.length cap, .int .i64 lot, .int .i64 q]) ∧ 0 ≤ lot ∧ lot ≤ 511 ∧ 0 ≤ q ∧ q < 5 ∧ Rows2 w.heap.size w' (.slice a xss.length cap) xss ∧ Below w.heap.size w w'

theorem drawAnswerWorst_any {B : Nat} (v : Value) (bs : List Int) (w : World) (h : Bytes B w v bs) :
    Calls Try.prog 34 #[v] w (TabLotAsk w) := by
  go_enter Try.func34, Try.ntmps34
  go_wp2_with fail
  refine (open_any _ _ _ h).mono ?_
  rintro e w1 ⟨a, cap, cs, rfl, hR, hb⟩
  have hs1 := hR.lt
  go_wp2_with fail
  refine (lot_any _ _ _ _ _ _ hR (by omega)).mono ?_
  rintro e w2 ⟨xss, a', cap', lot, rfl, hl0, hl1, hx2, ⟨p2, hR2, hp2⟩, hg2⟩
  have hz2 := hg2.size
  clear hR
  have HX := Lib.hid hx2
  have HG := Lib.hid hg2
  clear hx2 hg2
  go_wp2_with fail
  refine (pick_any 5 _ _ _ _ _ p2 hR2 (by omega) (by unfold In64; omega)).mono ?_
  rintro e w3 ⟨q, rfl, hq0, hq1, ⟨p3, hR3, hp3⟩, hg3⟩
  have hq1 := hq1 (by omega)
  have hx3 := HX.out.keep (Above.of_grown hg3 (by omega))
  have hg13 := grown_trans HG.out hg3
  clear hR2 hg3 HX HG hR3
  go_wp2
  go_ret3
  exact ⟨xss, a', cap', lot, q, rfl, hl0, hl1, hq0, hq1, hx3.mono (by omega), below_of_grown hb hg13 (by omega)⟩

end Go.Proofs.Ytpeogghiboaceaa
