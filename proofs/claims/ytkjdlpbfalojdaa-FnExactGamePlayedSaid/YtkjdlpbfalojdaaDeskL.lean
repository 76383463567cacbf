/- Desks: sizes, copies, comparisons, marks. -/
import Derived.Test.YtkjdlpbfalojdaaGsHeld
import Derived.Test.YtkjdlpbfalojdaaDeskOk
namespace Go.Proofs.Ytkjdlpbfalojdaa
open Go.RowKit Go.Shelf
set_option linter.unusedVariables false
set_option maxRecDepth 100000

theorem szDesk_any {B : Nat} (p c : Int) (v : Value) (gs : List Gs) (l : Int) (w : World) (h : GL B w v gs) (h0 : 0 ≤ l) (h1 : l ≤ 1099511627776) :
    Calls Try.prog 29 #[dkV p c v, .int .i64 l] w fun e w' => e = .returned (.int .i64 (szSS (gs.map Gs.code) l)) ∧ Below w.heap.size w w' := by
  have hsh : ∃ a cap, v = .slice a gs.length cap := by obtain ⟨a, cap, _, hv, _⟩ := h; exact ⟨a, cap, hv⟩
  obtain ⟨a, cap, rfl⟩ := hsh
  have hb1 : Below w.heap.size w (w.alloc (.cells #[.int .i64 p, .int .i64 c, .slice a gs.length cap] 44)) := (Below.refl _ _).alloc (Nat.le_refl _) _
  have hS := szGuessS_any _ gs l _ (h.below hb1) h0 h1
  have hge := szSS_ge (gs.map Gs.code) l h0
  have HB1 := Lib.hid hb1
  unfold dkV
  obtain ⟨r, hr⟩ : ∃ r, r = szSS (gs.map Gs.code) l := ⟨_, rfl⟩
  rw [← hr] at hS hge ⊢
  clear h hb1 hr
  by_cases hn : r < 0
  · obtain rfl : r = -1 := by omega
    go_enter Try.func29, Try.ntmps29
    go_wp2_with fail
    refine hS.mono ?_
    rintro e w2 ⟨rfl, hb2⟩
    have HB2 := Lib.hid (HB1.out.trans (hb2.mono HB1.out.size))
    clear hS hb2
    go_wp2
    go_ret
    exact ⟨rfl, HB2.out⟩
  · go_enter Try.func29, Try.ntmps29
    go_wp2_with fail
    refine hS.mono ?_
    rintro e w2 ⟨rfl, hb2⟩
    have HB2 := Lib.hid (HB1.out.trans (hb2.mono HB1.out.size))
    clear hS hb2
    go_wp2
    go_ret
    exact ⟨rfl, HB2.out⟩

theorem eqDesk_self {B C : Nat} (p c : Int) (v v' : Value) (gs : List Gs) (w : World) (h : GL B w v gs) (h' : GL C w v' gs) :
    Calls Try.prog 31 #[dkV p c v, dkV p c v'] w fun e w' => e = .returned (.bool true) ∧ Below w.heap.size w w' := by
  have hsh : ∃ a cap, v = .slice a gs.length cap := by obtain ⟨a, cap, _, hv, _⟩ := h; exact ⟨a, cap, hv⟩
  obtain ⟨a, cap, rfl⟩ := hsh
  have hsh : ∃ a cap, v' = .slice a gs.length cap := by obtain ⟨a, cap, _, hv, _⟩ := h'; exact ⟨a, cap, hv⟩
  obtain ⟨a', cap', rfl⟩ := hsh
  have hb1 : Below w.heap.size w ((w.alloc (.cells #[.int .i64 p, .int .i64 c, .slice a gs.length cap] 27)).alloc (.cells #[.int .i64 p, .int .i64 c, .slice a' gs.length cap'] 27)) := ((Below.refl _ _).alloc (Nat.le_refl _) _).alloc (by simp) _
  have hE := eqGuessS_self _ _ gs _ (h.below hb1) (h'.below hb1)
  have HB1 := Lib.hid hb1
  have e1 : (p != p) = false := by simp
  have e2 : (c != c) = false := by simp
  unfold dkV
  clear h h' hb1
  go_enter Try.func31, Try.ntmps31
  go_wp2_with fail
  refine hE.mono ?_
  rintro e w2 ⟨rfl, hb2⟩
  have HB2 := Lib.hid (HB1.out.trans (hb2.mono HB1.out.size))
  clear hE hb2
  go_wp2
  go_ret
  exact ⟨rfl, HB2.out⟩

theorem heldDesk_any {B : Nat} (p c : Int) (v : Value) (gs : List Gs) (m : Int) (w : World) (h : GL B w v (markGs gs m)) (h0 : 0 ≤ m) (h1 : m + totG gs ≤ 1099511627776) :
    Calls Try.prog 38 #[dkV p c v, .int .i64 m] w fun e w' => e = .returned (.int .i64 (endK gs m)) ∧ Below w.heap.size w w' := by
  have hsh : ∃ a n cap, v = .slice a n cap := by obtain ⟨a, cap, _, hv, _⟩ := h; exact ⟨a, _, cap, hv⟩
  obtain ⟨a, n, cap, rfl⟩ := hsh
  have hb1 : Below w.heap.size w (w.alloc (.cells #[.int .i64 p, .int .i64 c, .slice a n cap] 27)) := (Below.refl _ _).alloc (Nat.le_refl _) _
  have hE := heldGuessS_any _ gs m _ (h.below hb1) h0 h1
  have HB1 := Lib.hid hb1
  have hnn : ¬ endK gs m < 0 := by rw [endK_tot]; omega
  unfold dkV
  obtain ⟨r, hr⟩ : ∃ r, r = endK gs m := ⟨_, rfl⟩
  rw [← hr] at hE hnn ⊢
  clear h hb1 hr
  go_enter Try.func38, Try.ntmps38
  go_wp2_with fail
  refine hE.mono ?_
  rintro e w2 ⟨rfl, rfl⟩
  clear hE
  go_wp2
  go_ret
  exact ⟨rfl, HB1.out⟩

theorem markDesk_any {B C : Nat} (p c : Int) (v : Value) (gs : List Gs) (m : Int) (w : World) (h : OwnG B w v gs) (hlow : LowG C w v gs.length) (hBw : B ≤ w.heap.size) (h0 : 0 ≤ m) (h1 : m + totG gs ≤ 1099511627776) :
    Calls Try.prog 37 #[dkV p c v, .int .i64 m] w (MarkedG B C v gs m w) := by
  obtain ⟨a, cap, rfl, _⟩ := h.shape
  have hb1 : Below w.heap.size w (w.alloc (.cells #[.int .i64 p, .int .i64 c, .slice a gs.length cap] 27)) := (Below.refl _ _).alloc (Nat.le_refl _) _
  have hlow1 : LowG C (w.alloc (.cells #[.int .i64 p, .int .i64 c, .slice a gs.length cap] 27)) (.slice a gs.length cap) gs.length := by
    intro g m cap' e hp
    obtain ⟨q1, q2⟩ := hlow g m cap' e hp
    refine ⟨q1, fun i z j hi hz hj => ?_⟩
    obtain ⟨g', cap9, e9, _, _, _, _, _, hat⟩ := h.opened hp
    rw [e] at e9
    injection e9 with e9 _ _
    injection e9 with e9
    injection e9 with e9 _
    subst e9
    obtain ⟨u, u1, u2, _⟩ := hat i hi
    have := (Above.of_below (B := 0) hb1).cell (Nat.zero_le _) u1
    rw [hz] at this
    obtain rfl := Option.some.inj this
    exact q2 i _ j hi u1 hj
  have hM := markGuessS_any _ gs m _ (h.below hb1) hlow1 (by simp; omega) h0 h1
  have HB1 := Lib.hid hb1
  have HBW := Lib.hid hBw
  unfold dkV
  clear h hb1 hlow1 hlow hBw
  go_enter Try.func37, Try.ntmps37
  go_wp2_with fail
  refine hM.mono ?_
  rintro e w2 ⟨rfl, ho2, hb2, hf2⟩
  have HO2 := Lib.hid ho2
  have HB2 := Lib.hid ((HB1.out.mono HBW.out).trans hb2)
  have HF2 := Lib.hid (show ∀ b, C ≤ b → b < w.heap.size → w2.heap[b]? = w.heap[b]? from fun b q1 q2 => by rw [hf2 b q1 (by simp; omega)]; exact HB1.out.block b q2)
  clear hM ho2 hb2 hf2
  go_wp2
  go_ret
  exact ⟨rfl, HO2.out, HB2.out, HF2.out⟩

end Go.Proofs.Ytkjdlpbfalojdaa
