/- DrawReadDeed. -/
import Derived.Test.YtjecolbodelniaaDoorSpoil
import Derived.Test.YtjecolbodelniaaDoorTextS
namespace Go.Proofs.YtjecolbodelniaaDoor
open Go.RowKit
set_option linter.unusedVariables false
set_option maxRecDepth 100000

/-- A drawn text. -/
def TxtOut (w : World) (e : Ending) (w' : World) : Prop := ∃ l : List UInt8, e = .returned (.string ⟨l.toArray⟩) ∧ l.length ≤ 20 ∧ Below w.heap.size w w'

set_option maxHeartbeats 4000000 in
theorem drawReadDeed_any {B : Nat} (v : Value) (bs : List Int) (w : World) (h : Bytes B w v bs) :
    Calls Tryd.prog 23 #[v] w (TxtOut w) := by
  obtain ⟨a0, cap0, rfl, _⟩ := id h.1
  rw [List.length_map] at h ⊢
  have hO := open_any _ bs w h
  clear h
  go_enter Tryd.func23, Tryd.ntmps23
  go_wp2_with fail
  refine hO.mono ?_
  rintro e w2 ⟨a, cap, bs1, rfl, hR2, hb2⟩
  have HB2 := Lib.hid hb2
  have hz2 := hb2.size
  have hG := desk_any 0 w2 _ a cap bs1 0 hR2 (by omega) (by omega) (by omega)
  clear hO hb2 hR2
  go_wp2_with fail
  refine hG.mono ?_
  rintro e w3 ⟨x, c, gs, a', c', rfl, ho, h64, hl5, hx0, hx4, hc0, hc4, hcl, ⟨p3, hR3, hp3⟩, hg3⟩
  have hz3 := hg3.size
  have HB3 := Lib.hid (HB2.out.grown hg3 HB2.out.size (fun j hj => by cases hj; omega))
  have hD := deed_any x c a' gs.length c' w3 _ a cap bs1 p3 hR3 (by omega) hx0 hx4 hc0 hc4
  clear hG ho h64 hcl hR3 hg3
  go_wp2_with fail
  refine hD.mono ?_
  rintro e w4 ⟨b, ys, r, n, a4, c4, rfl, ho4, hy4, hr4, hn4, hl4, ⟨p4, hR4, hp4⟩, hg4⟩
  have hz4 := hg4.size
  have HB4 := Lib.hid (HB3.out.grown hg4 HB3.out.size (fun j hj => by cases hj; omega))
  have hT := deedTextS_any b _ ys r n w4 (OwnI.toInts ho4 hy4)
  have hlen := textD_len ⟨b, ys, r, n⟩
  obtain ⟨T, hTT⟩ : ∃ T, T = textD ⟨b, ys, r, n⟩ := ⟨_, rfl⟩
  rw [← hTT] at hT hlen
  unfold TextOut strV at hT
  have HR4 := Lib.hid hR4
  clear hD ho4 hy4 hr4 hn4 hR4 hg4 hTT
  go_wp2_with fail
  refine hT.mono ?_
  rintro e w5 ⟨rfl, hb5⟩
  have HB5 := Lib.hid (HB4.out.trans (hb5.mono HB4.out.size))
  have hP := pick_any 3 w5 _ a cap bs1 p4 (HR4.out.below hb5) (by omega) (by unfold In64; omega)
  clear hT hb5
  go_wp2_with fail
  refine hP.mono ?_
  rintro e w6 ⟨q, rfl, hq0, _, ⟨p6, hR6, hp6⟩, hg6⟩
  have hz5 := HB5.out.size
  have HB6 := Lib.hid (HB5.out.grown hg6 HB5.out.size (fun j hj => by cases hj; omega))
  clear hP hg6
  by_cases hq : q = 0
  · subst hq
    have hS := spoil_any T w6 _ a cap bs1 p6 hR6 (by omega) (by omega)
    clear hR6
    go_wp2_with fail
    refine hS.mono ?_
    rintro e w7 ⟨l', rfl, hl', hg7⟩
    have hz6 := HB6.out.size
    have HB7 := Lib.hid (HB6.out.grown hg7 HB6.out.size (fun j hj => by cases hj; omega))
    clear hS hg7
    go_wp2
    go_ret
    exact ⟨l', rfl, by omega, HB7.out⟩
  · clear hR6
    have hqq : (q == 0) = false := by simpa using hq
    go_wp2
    go_ret
    exact ⟨T, rfl, by omega, HB6.out⟩

end Go.Proofs.YtjecolbodelniaaDoor
