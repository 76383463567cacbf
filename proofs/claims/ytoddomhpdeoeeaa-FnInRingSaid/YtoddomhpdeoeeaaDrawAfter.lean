/- The drawn rows of boxes of a code, with a set and a box. -/
import Derived.Test.YtoddomhpdeoeeaaDrawBeside
import Derived.Test.YtoddomhpdeoeeaaTabs
import Derived.Deep.RegionWith
namespace Go.Proofs.Ytoddomhpdeoeeaa
open Go.RowKit
set_option linter.unusedVariables false

/-- A call's result are few short rows that lie in new memory. -/
def BesOut (w : World) (e : Ending) (w' : World) : Prop :=
  ∃ xss a cap, e = .returned (.slice a xss.length cap) ∧ Rows2 w.heap.size w' (.slice a xss.length cap) xss ∧ xss.length ≤ 6 ∧ (∀ xs ∈ xss, xs.length ≤ 7) ∧ Below w.heap.size w w'

theorem drawBesideOk_any {B : Nat} (v : Value) (bs : List Int) (w : World) (h : Bytes B w v bs) :
    Calls Try.prog 20 #[v] w (BesOut w) := by
  go_enter Try.func20, Try.ntmps20
  go_wp2_with fail
  refine (open_any _ _ _ h).mono ?_
  rintro e w1 ⟨a, cap, cs, rfl, hR, hb⟩
  go_wp2_with fail
  refine (beside_any 3 _ _ _ _ _ _ hR (by omega) (by unfold In64; omega)).mono ?_
  rintro e w2 ⟨xss, a', cap', rfl, hrows, hl, hl2, _, hg⟩
  have hs1 := hR.lt
  go_wp2
  go_ret
  exact ⟨xss, a', cap', rfl, hrows.mono (by omega), hl, hl2, below_of_grown hb hg (by omega)⟩

theorem drawShortestHunt_any {B : Nat} (v : Value) (bs : List Int) (w : World) (h : Bytes B w v bs) :
    Calls Try.prog 40 #[v] w (BesOut w) := by
  go_enter Try.func40, Try.ntmps40
  go_wp2_with fail
  refine (open_any _ _ _ h).mono ?_
  rintro e w1 ⟨a, cap, cs, rfl, hR, hb⟩
  go_wp2_with fail
  refine (beside_any 12 _ _ _ _ _ _ hR (by omega) (by unfold In64; omega)).mono ?_
  rintro e w2 ⟨xss, a', cap', rfl, hrows, hl, hl2, _, hg⟩
  have hs1 := hR.lt
  go_wp2
  go_ret
  exact ⟨xss, a', cap', rfl, hrows.mono (by omega), hl, hl2, below_of_grown hb hg (by omega)⟩

theorem pow_le64 {m : Nat} (h : m ≤ 6) : 1 ≤ 2 ^ m ∧ 2 ^ m ≤ 64 := by
  have h1 : 2 ^ m ≤ 2 ^ 6 := Nat.pow_le_pow_right (by omega) h
  have h2 : 0 < 2 ^ m := Nat.pow_pos (by omega)
  omega
/-- What DrawAfterDay gives. -/
def AfterOut (w : World) (e : Ending) (w' : World) : Prop :=
  ∃ xss a cap s o, e = .returned (.tuple #[.slice a xss.length cap, .int .i64 s, .int .i64 o]) ∧ Rows2 w.heap.size w' (.slice a xss.length cap) xss ∧ xss.length ≤ 6 ∧ Below w.heap.size w w'

theorem Rd.drew {w : World} {K : Nat} {a : Option Addr} {cap : Nat} {bs : List Int} {p : Int} (h : Rd w K a cap bs p) : Rd w.drew K a cap bs p := h.keep fun _ _ => rfl

/-- The drawn rows, and the reader at q at most. -/
def BesW (w : World) (K : Nat) (a : Option Addr) (cap : Nat) (bs : List Int) (q : Int) (v : Value) (xss : List (List Int)) (wi : World) : Prop :=
  Rows2 w.heap.size wi v xss ∧ (∃ p', Rd wi K a cap bs p' ∧ p' ≤ q) ∧ w.grownBy wi (some K)
theorem BesW.drew {w wi : World} {K : Nat} {a : Option Addr} {cap : Nat} {bs : List Int} {q : Int} {v : Value} {xss : List (List Int)} (h : BesW w K a cap bs q v xss wi) : BesW w K a cap bs q v xss wi.drew := by
  obtain ⟨h1, ⟨p, h2, h3⟩, h4⟩ := h
  exact ⟨h1.keep (fun _ _ _ => rfl), ⟨p, h2.drew, h3⟩, h4.os, h4.tape, h4.output, h4.size, h4.block⟩
theorem BesW.pick {w wi : World} {K : Nat} {a : Option Addr} {cap : Nat} {bs : List Int} {q n : Int} {v : Value} {xss : List (List Int)} (h : BesW w K a cap bs q v xss wi) (hK : K < w.heap.size) (hq : q ≤ 1000000) (hn : In64 n) :
    Calls Try.prog 60 #[.pointer (some ⟨K, 0, none⟩), .int .i64 n] wi fun e w' => ∃ r, e = .returned (.int .i64 r) ∧ 0 ≤ r ∧ (1 ≤ n → r < n) ∧ BesW w K a cap bs (q + 1) v xss w' := by
  obtain ⟨h1, ⟨p, h2, h3⟩, h4⟩ := h
  refine (pick_any n _ K a cap bs p h2 (by omega) hn).mono ?_
  rintro e w' ⟨r, rfl, hr0, hr1, ⟨p', hR, hp⟩, hg⟩
  exact ⟨r, rfl, hr0, hr1, h1.keep (Above.of_grown hg hK), ⟨p', hR, by omega⟩, grown_trans h4 hg⟩
theorem BesW.out {w w1 wi : World} {K : Nat} {a : Option Addr} {cap : Nat} {bs : List Int} {q : Int} {a' : Option Addr} {cap' : Nat} {xss : List (List Int)} (h : BesW w1 K a cap bs q (.slice a' xss.length cap') xss wi) (hb : Below w.heap.size w w1) (hK : w.heap.size ≤ K) (hl : xss.length ≤ 6) (s o : Int) :
    AfterOut w (.returned (.tuple #[.slice a' xss.length cap', .int .i64 s, .int .i64 o])) wi :=
  ⟨xss, a', cap', s, o, rfl, h.1.mono hb.size, hl, below_of_grown hb h.2.2 hK⟩

set_option maxHeartbeats 1000000 in
theorem drawAfterDay_any {B : Nat} (v : Value) (bs : List Int) (w : World) (h : Bytes B w v bs) :
    Calls Try.prog 24 #[v] w (AfterOut w) := by
  go_enter Try.func24, Try.ntmps24
  go_wp2_with fail
  refine (open_any _ _ _ h).mono ?_
  rintro e w1 ⟨a, cap, cs, rfl, hR, hb⟩
  have hs1 := hR.lt
  have hb1 := hb.size
  go_wp2_with fail
  refine (beside_any 12 _ _ _ _ _ _ hR (by omega) (by unfold In64; omega)).mono ?_
  rintro e w2 ⟨xss, a', cap', rfl, hx2, hl, _, ⟨p2, hR2, hp2⟩, hg2⟩
  have hL6 : (xss.length : Int) ≤ 6 := by omega
  obtain ⟨q1, q2⟩ := pow_le64 hl
  have hsh : IntKind.i64.wrap ((2 : Int) ^ xss.length) = ((2 ^ xss.length : Nat) : Int) := by
    rw [IntKind.wrap_i64, show (2 : Int) ^ xss.length = ((2 ^ xss.length : Nat) : Int) by simp]; omega
  obtain ⟨M, hM⟩ : ∃ M : Nat, M = 2 ^ xss.length := ⟨_, rfl⟩
  rw [← hM] at hsh q1 q2
  have hW : BesW w1 w.heap.size a cap cs 100 (.slice a' xss.length cap') xss w2.drew := BesW.drew ⟨hx2, ⟨p2, hR2, by omega⟩, hg2⟩
  have HL := Lib.hid hl
  clear hx2 hg2 hR hM hl hR2 hp2
  have hM0 : ¬ (M = 0) := by omega
  have hM1 : ¬ ((M : Int) = 0) := by omega
  have hM2 : ((M : Int) == 0) = false := by rw [beq_eq_false_iff_ne]; omega
  have hM3 : (0 : Int) < (M : Int) := by omega
  have hw1 : IntKind.i64.wrap ((xss.length : Int) + 1) = (xss.length : Int) + 1 := by rw [IntKind.wrap_i64]; omega
  have HB := Lib.hid hb
  clear hb
  go_wp2_with fail
  go_region_with (first
    | (go_at_call 60; refine (BesW.pick (by assumption) (by assumption) (by omega) (by unfold In64; omega)).mono ?_; rintro e w3 ⟨x, rfl, hx0, hx1, hW3⟩))
  all_goals
    go_wp2
    go_ret3
    exact BesW.out (by assumption) HB.out (Nat.le_refl _) HL.out _ _

end Go.Proofs.Ytoddomhpdeoeeaa
