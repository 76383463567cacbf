/- Drawn guesses. -/
import Derived.Test.YtkjdlpbfalojdaaDrawCode
import Derived.Test.YtkjdlpbfalojdaaGameS
namespace Go.Proofs.Ytkjdlpbfalojdaa
open Go.RowKit
set_option linter.unusedVariables false
set_option maxRecDepth 100000

/-- A drawn size. -/
def SizeDrawn (K : Nat) (a : Option Addr) (cap : Nat) (bs : List Int) (p : Int) (w : World) (e : Ending) (w' : World) : Prop :=
  ∃ n m : Nat, e = .returned (.tuple #[.int .i64 n, .int .i64 m]) ∧ 1 ≤ n ∧ n ≤ 3 ∧ 1 ≤ m ∧ m ≤ 4 ∧ Drew K a cap bs p 2 w w'
theorem size_any (w : World) (K : Nat) (a : Option Addr) (cap : Nat) (bs : List Int) (p : Int) (h : Rd w K a cap bs p) (hp : p ≤ 10000000000) :
    Calls Try.prog 82 #[.pointer (some ⟨K, 0, none⟩)] w (SizeDrawn K a cap bs p w) := by
  have hP := pick_any 3 w K a cap bs p h (by omega) (by unfold In64; omega)
  clear h
  go_enter Try.func82, Try.ntmps82
  go_wp2_with fail
  refine hP.mono ?_
  rintro e w1 ⟨x, rfl, hx0, hx1, ⟨p1, hR1, hp1⟩, hg1⟩
  have hx1 := hx1 (by omega)
  have hP2 := pick_any 4 w1 K a cap bs p1 hR1 (by omega) (by unfold In64; omega)
  have HG1 := Lib.hid hg1
  clear hP hR1 hg1
  go_wp2_with fail
  refine hP2.mono ?_
  rintro e w2 ⟨y, rfl, hy0, hy1, ⟨p2, hR2, hp2⟩, hg2⟩
  have hy1 := hy1 (by omega)
  obtain ⟨X, rfl⟩ : ∃ X : Nat, x = (X : Int) := ⟨x.toNat, by omega⟩
  obtain ⟨Y, rfl⟩ : ∃ Y : Nat, y = (Y : Int) := ⟨y.toNat, by omega⟩
  have HG2 := Lib.hid (grown_trans HG1.out hg2)
  have HR2 := Lib.hid hR2
  clear hP2 hR2 hg2
  go_wp2
  go_ret2
  exact ⟨1 + X, 1 + Y, by simp, by omega, by omega, by omega, by omega, ⟨p2, HR2.out, by omega⟩, HG2.out⟩

/-- What a drawing of guesses leaves. -/
def GsDrawn (K : Nat) (a : Option Addr) (cap : Nat) (bs : List Int) (p : Int) (n : Int) (w : World) (e : Ending) (w' : World) : Prop :=
  ∃ (x c : Int) (gs : List Gs) (a' : Option Addr) (c' : Nat), e = .returned (.tuple #[.int .i64 x, .int .i64 c, .slice a' gs.length c']) ∧ OwnG w.heap.size w' (.slice a' gs.length c') gs ∧ In64G gs ∧ gs.length ≤ 4 ∧
    1 ≤ x ∧ x ≤ 4 ∧ 0 ≤ c ∧ c ≤ 4 ∧ (n = 0 → x ≤ 3 ∧ 1 ≤ c) ∧ (∀ g ∈ gs, g.code.length ≤ 10) ∧ Drew K a cap bs p 100 w w'

theorem guess_oldA {B : Nat} {w w2 : World} {v : Value} {gs : List Gs} (h : OwnG B w v gs) (hb : Above B w w2) {u : Value} {x : List Int} (hu : OwnI w.heap.size w2 u x) :
    ∀ ts : List (Value × Int × Int), OwnT B w2 v ts → ∀ i (h : i < ts.length), u.ownBlock = none ∨ ts[i].1.ownBlock = none ∨ ts[i].1.ownBlock ≠ u.ownBlock := by
  intro ts hts i hi
  obtain ⟨ts', h1, h2, h3, _⟩ := h
  have e : ts[i].1 = (ts'.getD i (undef, 0, 0)).1 ∧ i < ts'.length := by
    have h1' : OwnT B w2 v ts' := owns_keep h1 hb
    obtain ⟨a, cap, e1, _, _, q1⟩ := hts.opened
    obtain ⟨a', cap', e1', _, _, q2⟩ := h1'.opened
    rw [e1] at e1'
    injection e1' with f1 f2 f3
    have hi' : i < ts'.length := by omega
    obtain ⟨g, rfl, _, _, c1, _⟩ := q1 (by omega)
    obtain ⟨g', f4, _, _, c2, _⟩ := q2 (by omega)
    rw [f4] at f1
    injection f1 with f1
    injection f1 with f1 _
    subst f1
    have a1 := (c1 i hi).1
    have a2 := (c2 i hi').1
    rw [a1] at a2
    exact ⟨by rw [Option.some.inj a2]; simp [List.getD, List.getElem?_eq_getElem hi'], hi'⟩
  obtain ⟨e, hi'⟩ := e
  have e' : (ts'.getD i (undef, 0, 0)).1 = ts'[i].1 := by simp [List.getD, List.getElem?_eq_getElem hi']
  rw [e, e']
  by_cases hn : u.ownBlock = none
  · exact .inl hn
  obtain ⟨m, hm⟩ := Option.ne_none_iff_exists'.1 hn
  by_cases hn' : ts'[i].1.ownBlock = none
  · exact .inr (.inl hn')
  obtain ⟨m', hm'⟩ := Option.ne_none_iff_exists'.1 hn'
  have h4 := (World.ownsRow.lt hu m hm).1
  have h5 := (World.ownsRow.lt (h3 i hi' (by omega)).1 m' hm').2
  exact .inr (.inr (by rw [hm, hm']; simp; omega))

/-- The guesses so far, in memory younger than world w2. -/
def GsW (w w2 : World) (K : Nat) (a : Option Addr) (cap : Nat) (bs : List Int) (q : Int) (ao : Option Addr) (k co : Nat) (wi : World) : Prop :=
  ∃ gs : List Gs, gs.length = k ∧ OwnG w2.heap.size wi (.slice ao k co) gs ∧ In64G gs ∧ (∀ g ∈ gs, g.code.length ≤ 10) ∧ (∃ p', Rd wi K a cap bs p' ∧ p' ≤ q) ∧ w.grownBy wi (some K) ∧ Above w.heap.size w2 wi ∧ w2.heap.size ≤ wi.heap.size
theorem above_step {B : Nat} {w2 wi w5 : World} (h : Above B w2 wi) (hz : w2.heap.size ≤ wi.heap.size) (h' : Above B wi w5) : Above B w2 w5 := fun b h1 h2 => (h' b h1 (by omega)).trans (h b h1 h2)
theorem GsW.pick {w w2 wi : World} {K : Nat} {a : Option Addr} {cap : Nat} {bs : List Int} {q n : Int} {ao : Option Addr} {m co : Nat} (h : GsW w w2 K a cap bs q ao m co wi) (hz : w.heap.size ≤ w2.heap.size) (hK : K < w.heap.size) (hq : q ≤ 100000000000) (hn : In64 n) :
    Calls Try.prog 61 #[.pointer (some ⟨K, 0, none⟩), .int .i64 n] wi fun e w' => ∃ r, e = .returned (.int .i64 r) ∧ 0 ≤ r ∧ (1 ≤ n → r < n) ∧ GsW w w2 K a cap bs (q + 1) ao m co w' := by
  obtain ⟨gs, h1, h2, h3, h3', ⟨p, h5, h6⟩, h7, h8, h9⟩ := h
  refine (pick_any n _ K a cap bs p h5 (by omega) hn).mono ?_
  rintro e w' ⟨r, rfl, hr0, hr1, ⟨p', hR, hp⟩, hg⟩
  exact ⟨r, rfl, hr0, hr1, gs, h1, h2.keep (Above.of_grown hg (by omega)), h3, h3', ⟨p', hR, by omega⟩, grown_trans h7 hg, above_step h8 h9 (Above.of_grown hg hK), by have := hg.size; omega⟩
theorem GsW.odd {w w2 wi : World} {K : Nat} {a : Option Addr} {cap : Nat} {bs : List Int} {q n : Int} {ao : Option Addr} {m co : Nat} (h : GsW w w2 K a cap bs q ao m co wi) (hz : w.heap.size ≤ w2.heap.size) (hK : K < w.heap.size) (hq : q ≤ 100000000000) (hn : In64 n) :
    Calls Try.prog 95 #[.pointer (some ⟨K, 0, none⟩), .int .i64 n] wi fun e w' => ∃ b, e = .returned (.bool b) ∧ (n = 0 → b = false) ∧ GsW w w2 K a cap bs (q + 1) ao m co w' := by
  by_cases hzn : n = 0
  · subst hzn
    refine (odd_zero wi K).mono ?_
    rintro e w' ⟨rfl, rfl⟩
    obtain ⟨gs, h1, h2, h3, h3', ⟨p, h5, h6⟩, h7, h8, h9⟩ := h
    exact ⟨false, rfl, fun _ => rfl, gs, h1, h2, h3, h3', ⟨p, h5, by omega⟩, h7, h8, h9⟩
  · obtain ⟨gs, h1, h2, h3, h3', ⟨p, h5, h6⟩, h7, h8, h9⟩ := h
    refine (odd_any n _ K a cap bs p h5 (by omega) hn).mono ?_
    rintro e w' ⟨b, rfl, ⟨p', hR, hp⟩, hg⟩
    exact ⟨b, rfl, fun e => absurd e hzn, gs, h1, h2.keep (Above.of_grown hg (by omega)), h3, h3', ⟨p', hR, by omega⟩, grown_trans h7 hg, above_step h8 h9 (Above.of_grown hg hK), by have := hg.size; omega⟩
/-- A guess is put behind. -/
theorem GsW.push {w w2 wi : World} {K : Nat} {a : Option Addr} {cap : Nat} {bs : List Int} {q' : Int} {ao : Option Addr} {k co : Nat} (hz : w.heap.size ≤ w2.heap.size) (hK : K < w.heap.size) {w7 : World} {p' : Int} {y : Gs} {o : Obj} {a7 : Option Addr} {c7 : Nat} {gs : List Gs}
    (hgs : gs.length = k) (hin : In64G gs) (h10 : ∀ g ∈ gs, g.code.length ≤ 10) (hown : OwnG w2.heap.size wi (.slice ao k co) gs)
    (hR : Rd wi K a cap bs p') (hp : p' ≤ q') (h7 : w.grownBy wi (some K)) (h8 : Above w.heap.size w2 wi) (h9 : w2.heap.size ≤ wi.heap.size) (hy : ∀ z ∈ y.code, In64 z) (hy10 : y.code.length ≤ 10)
    (ho : OwnG w2.heap.size w7 (.slice a7 (k + 1) c7) (gs ++ [y])) (hg7 : (wi.alloc o).grownBy w7 (Value.slice ao k co).ownBlock) : GsW w w2 K a cap bs q' a7 (k + 1) c7 w7 := by
  have hblk : ∀ j, (Value.slice ao k co).ownBlock = some j → w2.heap.size ≤ j := fun j hj => (hown.lt j hj).1
  have hsz := hg7.size
  have hsa : (wi.alloc o).heap.size = wi.heap.size + 1 := by simp
  refine ⟨gs ++ [y], by simp [hgs], ho, ?_, ?_, ⟨p', rd_grown (hR.below ((Below.refl _ _).alloc (Nat.le_refl _) o)) hg7 (fun j hj => by have := hblk j hj; omega), hp⟩,
    (h7.andThen (World.grownBy_alloc wi o none) (fun _ e => by cases e)).andThen hg7 (fun j hj => .inl (by have := hblk j hj; omega)), fun b q1 q2 => ?_, by omega⟩
  · intro g hg
    rcases List.mem_append.1 hg with hg | hg
    · exact hin g hg
    · simp only [List.mem_singleton] at hg; subst hg; exact hy
  · intro g hg
    rcases List.mem_append.1 hg with hg | hg
    · exact h10 g hg
    · simp only [List.mem_singleton] at hg; subst hg; exact hy10
  · rw [hg7.block b (by omega) (fun e => by have := hblk b e.symm; omega), Below.heap_alloc wi o b (by omega)]
    exact h8 b q1 q2

end Go.Proofs.Ytkjdlpbfalojdaa
