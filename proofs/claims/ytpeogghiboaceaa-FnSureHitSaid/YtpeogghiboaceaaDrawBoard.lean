/- The drawn board. -/
import Derived.Test.YtpeogghiboaceaaDrawTable
import Derived.Deep.RegionWith
namespace Go.Proofs.Ytpeogghiboaceaa
open Go.RowKit
set_option linter.unusedVariables false
set_option maxRecDepth 100000

theorem Rd.drew {w : World} {K : Nat} {a : Option Addr} {cap : Nat} {bs : List Int} {p : Int} (h : Rd w K a cap bs p) : Rd w.drew K a cap bs p := h.keep fun _ _ => rfl
/-- The reader at q at most. -/
def RdW (w : World) (K : Nat) (a : Option Addr) (cap : Nat) (bs : List Int) (q : Int) (wi : World) : Prop :=
  (∃ p', Rd wi K a cap bs p' ∧ p' ≤ q) ∧ w.grownBy wi (some K)
theorem RdW.drew {w wi : World} {K : Nat} {a : Option Addr} {cap : Nat} {bs : List Int} {q : Int} (h : RdW w K a cap bs q wi) : RdW w K a cap bs q wi.drew := by
  obtain ⟨⟨p, h2, h3⟩, h4⟩ := h
  exact ⟨⟨p, h2.drew, h3⟩, h4.os, h4.tape, h4.output, h4.size, h4.block⟩
theorem RdW.alloc {w wi : World} {K : Nat} {a : Option Addr} {cap : Nat} {bs : List Int} {q : Int} (h : RdW w K a cap bs q wi) (o : Obj) : RdW w K a cap bs q (wi.alloc o) := by
  obtain ⟨⟨p, h2, h3⟩, h4⟩ := h
  exact ⟨⟨p, h2.below ((Below.refl _ _).alloc (Nat.le_refl _) _), h3⟩, h4.andThen (World.grownBy_alloc wi o none) (fun _ e => by cases e)⟩
theorem RdW.pick {w wi : World} {K : Nat} {a : Option Addr} {cap : Nat} {bs : List Int} {q n : Int} (h : RdW w K a cap bs q wi) (hq : q ≤ 1000000) (hn : In64 n) :
    Calls Try.prog 77 #[.pointer (some ⟨K, 0, none⟩), .int .i64 n] wi fun e w' => ∃ r, e = .returned (.int .i64 r) ∧ 0 ≤ r ∧ (1 ≤ n → r < n) ∧ RdW w K a cap bs (q + 1) w' ∧ wi.grownBy w' (some K) := by
  obtain ⟨⟨p, h2, h3⟩, h4⟩ := h
  refine (pick_any n _ K a cap bs p h2 (by omega) hn).mono ?_
  rintro e w' ⟨r, rfl, hr0, hr1, ⟨p', hR, hp⟩, hg⟩
  exact ⟨r, rfl, hr0, hr1, ⟨⟨p', hR, by omega⟩, grown_trans h4 hg⟩, hg⟩

/-- What a literal of three numbers holds at a place. -/
theorem lit3 {x : Int} (h0 : 0 ≤ x) (h1 : x < 3) (c0 c1 c2 : Int) (g0 : 0 ≤ c0 ∧ c0 ≤ 7) (g1 : 0 ≤ c1 ∧ c1 ≤ 7) (g2 : 0 ≤ c2 ∧ c2 ≤ 7) :
    ∃ y : Int, #[Value.int .i64 c0, Value.int .i64 c1, Value.int .i64 c2][x.toNat]? = some (.int .i64 y) ∧ 0 ≤ y ∧ y ≤ 7 := by
  have hcase : x = 0 ∨ x = 1 ∨ x = 2 := by omega
  rcases hcase with rfl | rfl | rfl
  · exact ⟨c0, rfl, g0⟩
  · exact ⟨c1, rfl, g1⟩
  · exact ⟨c2, rfl, g2⟩
def PickOut (w : World) (K : Nat) (a : Option Addr) (cap : Nat) (bs : List Int) (q : Int) (W : World) (e : Ending) (w' : World) : Prop :=
  ∃ x y1 y2, e = .returned (.int .i64 x) ∧ (0 ≤ x ∧ x < 3) ∧ #[Value.int .i64 0, Value.int .i64 7, Value.int .i64 3][x.toNat]? = some (.int .i64 y1) ∧ (0 ≤ y1 ∧ y1 ≤ 7) ∧ #[Value.int .i64 0, Value.int .i64 2, Value.int .i64 7][x.toNat]? = some (.int .i64 y2) ∧ (0 ≤ y2 ∧ y2 ≤ 7) ∧
    RdW w K a cap bs (q + 1) w' ∧ (∀ b i, b < W.heap.size → b ≠ K → w'.cell? ⟨b, i, none⟩ = W.cell? ⟨b, i, none⟩) ∧ (¬ (w'.heap.size = K) ∧ ¬ (w'.heap.size + 1 = K)) ∧ W.heap.size ≤ w'.heap.size ∧ (∀ b, b < W.heap.size → b < w'.heap.size) ∧ (∀ b, b < W.heap.size → b ≤ w'.heap.size) ∧ (∀ b, b < W.heap.size → b < w'.heap.size + 1) ∧ (∀ b, b < W.heap.size → ¬ (b = w'.heap.size)) ∧ (∀ b, b < W.heap.size → ¬ (b = w'.heap.size + 1))
theorem RdW.pick3 {w W : World} {K : Nat} {a : Option Addr} {cap : Nat} {bs : List Int} {q : Int} (h : RdW w K a cap bs q W) (hq : q ≤ 1000000) (hK : K < w.heap.size) :
    Calls Try.prog 77 #[.pointer (some ⟨K, 0, none⟩), .int .i64 3] W (PickOut w K a cap bs q W) := by
  refine (RdW.pick h hq (n := 3) (by unfold In64; omega)).mono ?_
  rintro e w' ⟨x, rfl, hx0, hx1, hW, hg⟩
  have hx1 := hx1 (by omega)
  obtain ⟨y1, e1, b1⟩ := lit3 hx0 hx1 0 7 3 (by omega) (by omega) (by omega)
  obtain ⟨y2, e2, b2⟩ := lit3 hx0 hx1 0 2 7 (by omega) (by omega) (by omega)
  exact ⟨x, y1, y2, rfl, ⟨hx0, hx1⟩, e1, b1, e2, b2, hW, fun b i hb hne => World.cell?_of_block (hg.block b hb (fun e => hne (by injection e))), ⟨by have := hW.2.size; omega, by have := hW.2.size; omega⟩, hg.size, fun b hb => by have := hg.size; omega, fun b hb => by have := hg.size; omega, fun b hb => by have := hg.size; omega, fun b hb => by have := hg.size; omega, fun b hb => by have := hg.size; omega⟩

def BoardOut (K : Nat) (a : Option Addr) (cap : Nat) (bs : List Int) (q : Int) (w : World) (e : Ending) (w' : World) : Prop :=
  ∃ r c l, e = .returned (.tuple #[.int .i64 r, .int .i64 c, .int .i64 l]) ∧ 0 ≤ r ∧ r ≤ 7 ∧ 0 ≤ c ∧ c ≤ 7 ∧ 0 ≤ l ∧ l ≤ 7 ∧ RdW w K a cap bs q w'

theorem board_fin {w W : World} {K : Nat} {a : Option Addr} {cap : Nat} {bs : List Int} {i j : Nat} {y1 y2 : Int} (e1 : #[Value.int .i64 0, Value.int .i64 7, Value.int .i64 3][i]? = some (.int .i64 y1)) (e2 : #[Value.int .i64 0, Value.int .i64 2, Value.int .i64 7][j]? = some (.int .i64 y2))
    (b1 : 0 ≤ y1 ∧ y1 ≤ 7) (b2 : 0 ≤ y2 ∧ y2 ≤ 7) (hR : RdW w K a cap bs (1 + 1 + 1) W) {h1 : i < [Value.int .i64 0, Value.int .i64 7, Value.int .i64 3].length} {h2 : j < [Value.int .i64 0, Value.int .i64 2, Value.int .i64 7].length} :
    BoardOut K a cap bs 10 w (.returned (.tuple #[[Value.int .i64 0, Value.int .i64 7, Value.int .i64 3][i]'h1, .int .i64 3, [Value.int .i64 0, Value.int .i64 2, Value.int .i64 7][j]'h2])) W := by
  have f1 : [Value.int .i64 0, Value.int .i64 7, Value.int .i64 3][i]'h1 = .int .i64 y1 := by
    have : [Value.int .i64 0, Value.int .i64 7, Value.int .i64 3][i]? = some (.int .i64 y1) := by simpa using e1
    rw [List.getElem?_eq_getElem h1] at this
    exact Option.some.inj this
  have f2 : [Value.int .i64 0, Value.int .i64 2, Value.int .i64 7][j]'h2 = .int .i64 y2 := by
    have : [Value.int .i64 0, Value.int .i64 2, Value.int .i64 7][j]? = some (.int .i64 y2) := by simpa using e2
    rw [List.getElem?_eq_getElem h2] at this
    exact Option.some.inj this
  rw [f1, f2]
  obtain ⟨⟨p, g1, g2⟩, g3⟩ := hR
  exact ⟨y1, 3, y2, rfl, b1.1, b1.2, by omega, by omega, b2.1, b2.2, ⟨p, g1, by omega⟩, g3⟩

set_option maxHeartbeats 4000000 in
theorem board_any (w : World) (K : Nat) (a : Option Addr) (cap : Nat) (bs : List Int) (h : Rd w K a cap bs 0) :
    Calls Try.prog 108 #[.pointer (some ⟨K, 0, none⟩), .int .i64 9] w (BoardOut K a cap bs 10 w) := by
  have hKw := h.lt
  go_enter Try.func108, Try.ntmps108
  go_wp2_with fail
  refine (odd_any 9 _ K a cap bs 0 h (by omega) (by unfold In64; omega)).mono ?_
  rintro e w1 ⟨b, rfl, ⟨p1, hR1, hp1⟩, hg1⟩
  have hW : RdW w K a cap bs 1 w1 := ⟨⟨p1, hR1, by omega⟩, hg1⟩
  clear h hR1 hg1 hp1
  cases b
  · have HW := Lib.hid hW
    go_wp2_with fail
    refine (RdW.pick hW (by omega) (by unfold In64; omega)).mono ?_
    rintro e w2 ⟨x, rfl, hx0, hx1, hW2, _⟩
    have hx1 := hx1 (by omega)
    clear hW
    go_wp2_with fail
    refine (RdW.pick hW2 (by omega) (by unfold In64; omega)).mono ?_
    rintro e w3 ⟨y, rfl, hy0, hy1, hW3, _⟩
    have hy1 := hy1 (by omega)
    clear hW2
    go_wp2_with fail
    refine (RdW.pick hW3 (by omega) (by unfold In64; omega)).mono ?_
    rintro e w4 ⟨z, rfl, hz0, hz1, hW4, _⟩
    have hz1 := hz1 (by omega)
    have HW4 := Lib.hid hW4
    clear hW3 hW4
    go_wp2
    go_ret3
    obtain ⟨⟨p, e1, e2⟩, e3⟩ := HW4.out
    exact ⟨_, _, _, rfl, by omega, by omega, by omega, by omega, by omega, by omega, ⟨p, e1, by omega⟩, e3⟩
  · have hz1 : w.heap.size ≤ w1.heap.size := hW.2.size
    have hnK : ¬ (w1.heap.size = K) := by omega
    have hnK2 : ¬ (w1.heap.size + 1 = K) := by omega
    go_wp2_with fail
    go_region_with (first
      | (go_at_call 77; refine (RdW.pick3 (by first | assumption | exact RdW.drew (by assumption) | exact RdW.alloc (by assumption) _ | exact RdW.drew (RdW.alloc (by assumption) _) | exact RdW.alloc (RdW.drew (by assumption)) _ | exact RdW.drew (RdW.alloc (RdW.alloc (by assumption) _) _) | exact RdW.alloc (RdW.alloc (by assumption) _) _) (by omega) (by assumption)).mono ?_; rintro e w3 ⟨x, y1, y2, rfl, hx, hl1, hy1, hl2, hy2, hW3, hk3, ⟨hnk3, hnk4⟩, hsz3, hs3a, hs3b, hs3c, hs3d, hs3e⟩; (try have hq1 : w1.heap.size < w3.heap.size := by (have hz := hsz3; simp at hz; omega)); (try have hq2 : ¬ (w1.heap.size = w3.heap.size) := by omega); (try have hq3 : w1.heap.size + 1 < w3.heap.size := by (have hz := hsz3; simp at hz; omega)); (try have hq4 : ¬ (w1.heap.size + 1 = w3.heap.size) := by omega)))
    all_goals
      go_wp2
      go_ret3
      exact board_fin (by assumption) (by assumption) (by assumption) (by assumption) (by first | assumption | exact RdW.alloc (by assumption) _ | exact RdW.alloc (RdW.alloc (by assumption) _) _)

end Go.Proofs.Ytpeogghiboaceaa
