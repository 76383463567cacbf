/- Plain predicates on memory: what a slice value reads as, what is owned; and their laws. No function of the program is walked here. -/
import Derived.Test.YtkjdlpbfalojdaaRows
import Derived.WalkKit
import Derived.WalkSpells
import Derived.WalkLawsBesides
import Derived.Below
import Derived.BigQuiet
import Derived.Lib.Hide
import Derived.Deep.QuietTactic
namespace Go.Proofs.Ytkjdlpbfalojdaa
open Go.RowKit

/-- A number that an int holds. -/
def In64 (n : Int) : Prop := -9223372036854775808 ≤ n ∧ n ≤ 9223372036854775807

def ints (xs : List Int) : List Value := xs.map (Value.int .i64)
@[simp] theorem ints_length (xs : List Int) : (ints xs).length = xs.length := by simp [ints]
@[simp] theorem ints_get (xs : List Int) (i : Nat) (h : i < (ints xs).length) : (ints xs)[i] = .int .i64 (xs[i]'(by simpa using h)) := by simp [ints]
theorem ints_append (xs ys : List Int) : ints (xs ++ ys) = ints xs ++ ints ys := by simp [ints]
theorem ints_set (xs : List Int) (k : Nat) (n : Int) : (ints xs).set k (.int .i64 n) = ints (xs.set k n) := by simp [ints, List.map_set]

/-- The slice value v reads in w as the one-cell values vs, in a block from B on. -/
def SL (B : Nat) (w : World) (v : Value) (vs : List Value) : Prop :=
  ∃ a cap, v = .slice a vs.length cap ∧ vs.length ≤ cap ∧ cap ≤ 9223372036854775807 ∧
    (0 < vs.length → ∃ b off, a = some ⟨b, off, none⟩ ∧ B ≤ b ∧ ∀ i (h : i < vs.length), w.cell? ⟨b, off + i, none⟩ = some vs[i])

/-- From block B on, w' is as w was. -/
def Above (B : Nat) (w w' : World) : Prop := ∀ b, B ≤ b → b < w.heap.size → w'.heap[b]? = w.heap[b]?

theorem Above.refl (B : Nat) (w : World) : Above B w w := fun _ _ _ => rfl
theorem Above.of_below {B : Nat} {w w' : World} (h : Below w.heap.size w w') : Above B w w' := fun b _ hb => h.block b hb
theorem Above.of_grown {B : Nat} {w w' : World} {K : Nat} (h : w.grownBy w' (some K)) (hK : K < B) : Above B w w' := fun b h1 h2 => h.block b h2 (by simp; omega)
theorem Above.cell {B : Nat} {w w' : World} (h : Above B w w') {p : Addr} {u : Value} (hp : B ≤ p.block) (hc : w.cell? p = some u) : w'.cell? p = some u := by
  rw [World.cell?_of_block (w := w) (h p.block hp (World.block_lt_of_cell? w p hc))]
  exact hc

theorem SL.nil (B : Nat) (w : World) : SL B w (.slice none 0 0) [] := ⟨none, 0, rfl, by simp, by simp, by simp⟩

theorem SL.keep {B : Nat} {w w' : World} {v : Value} {vs : List Value} (h : SL B w v vs) (hs : Above B w w') : SL B w' v vs := by
  obtain ⟨a, cap, h1, h2, h3, h4⟩ := h
  refine ⟨a, cap, h1, h2, h3, fun hp => ?_⟩
  obtain ⟨b, off, h5, hb, h6⟩ := h4 hp
  exact ⟨b, off, h5, hb, fun i hi => hs.cell (by exact hb) (h6 i hi)⟩

theorem SL.below {B : Nat} {w w' : World} {v : Value} {vs : List Value} (h : SL B w v vs) (hb : Below w.heap.size w w') : SL B w' v vs := h.keep (.of_below hb)
theorem SL.mono {B B' : Nat} {w : World} {v : Value} {vs : List Value} (h : SL B w v vs) (hb : B' ≤ B) : SL B' w v vs := by
  obtain ⟨a, cap, h1, h2, h3, h4⟩ := h
  refine ⟨a, cap, h1, h2, h3, fun hp => ?_⟩
  obtain ⟨b, off, h5, hb, h6⟩ := h4 hp
  exact ⟨b, off, h5, by omega, h6⟩

theorem SL.take {B : Nat} {w : World} {a : Option Addr} {n cap : Nat} {vs : List Value} (h : SL B w (.slice a n cap) vs) {k : Nat} (hk : k ≤ vs.length) : SL B w (.slice a k cap) (vs.take k) := by
  obtain ⟨a', cap', he, h1, h2, h3⟩ := h
  injection he with e1 e2 e3
  subst e1 e3
  have hl : (vs.take k).length = k := by rw [List.length_take]; omega
  refine ⟨a, cap, by rw [hl], by omega, h2, fun hp => ?_⟩
  obtain ⟨b, off, h4, h5, h6⟩ := h3 (by omega)
  refine ⟨b, off, h4, h5, fun i hi => ?_⟩
  rw [List.getElem_take]
  exact h6 i (by omega)

/-- A slice of ints. -/
def Ints (B : Nat) (w : World) (v : Value) (xs : List Int) : Prop := SL B w v (ints xs) ∧ ∀ x ∈ xs, In64 x

theorem Ints.nil (B : Nat) (w : World) : Ints B w (.slice none 0 0) [] := ⟨SL.nil B w, by simp⟩
theorem Ints.keep {B : Nat} {w w' : World} {v : Value} {xs : List Int} (h : Ints B w v xs) (hs : Above B w w') : Ints B w' v xs := ⟨h.1.keep hs, h.2⟩
theorem Ints.below {B : Nat} {w w' : World} {v : Value} {xs : List Int} (h : Ints B w v xs) (hb : Below w.heap.size w w') : Ints B w' v xs := ⟨h.1.below hb, h.2⟩
theorem Ints.mono {B B' : Nat} {w : World} {v : Value} {xs : List Int} (h : Ints B w v xs) (hb : B' ≤ B) : Ints B' w v xs := ⟨h.1.mono hb, h.2⟩

theorem Ints.opened {B : Nat} {w : World} {v : Value} {xs : List Int} (h : Ints B w v xs) :
    ∃ a cap, v = .slice a xs.length cap ∧ xs.length ≤ cap ∧ cap ≤ 9223372036854775807 ∧
      (0 < xs.length → ∃ b off, a = some ⟨b, off, none⟩ ∧ B ≤ b ∧ ∀ i (h : i < xs.length), w.cell? ⟨b, off + i, none⟩ = some (.int .i64 xs[i])) := by
  obtain ⟨⟨a, cap, h1, h2, h3, h4⟩, _⟩ := h
  simp only [ints_length] at h1 h2 h4
  refine ⟨a, cap, h1, h2, h3, fun hp => ?_⟩
  obtain ⟨b, off, h5, hb, h6⟩ := h4 hp
  exact ⟨b, off, h5, hb, fun i hi => by simpa using h6 i hi⟩

/-- A slice of slices of ints. -/
def Rows2 (B : Nat) (w : World) (v : Value) (xss : List (List Int)) : Prop :=
  ∃ vs, SL B w v vs ∧ vs.length = xss.length ∧ ∀ i (h : i < vs.length) (h' : i < xss.length), Ints B w vs[i] xss[i]

theorem Rows2.nil (B : Nat) (w : World) : Rows2 B w (.slice none 0 0) [] := ⟨[], SL.nil B w, rfl, by simp⟩
theorem Rows2.keep {B : Nat} {w w' : World} {v : Value} {xss : List (List Int)} (h : Rows2 B w v xss) (hs : Above B w w') : Rows2 B w' v xss := by
  obtain ⟨vs, h1, h2, h3⟩ := h
  exact ⟨vs, h1.keep hs, h2, fun i h h' => (h3 i h h').keep hs⟩
theorem Rows2.below {B : Nat} {w w' : World} {v : Value} {xss : List (List Int)} (h : Rows2 B w v xss) (hb : Below w.heap.size w w') : Rows2 B w' v xss := h.keep (.of_below hb)
theorem Rows2.mono {B B' : Nat} {w : World} {v : Value} {xss : List (List Int)} (h : Rows2 B w v xss) (hb : B' ≤ B) : Rows2 B' w v xss := by
  obtain ⟨vs, h1, h2, h3⟩ := h
  exact ⟨vs, h1.mono hb, h2, fun i h h' => (h3 i h h').mono hb⟩

theorem Rows2.opened {B : Nat} {w : World} {v : Value} {xss : List (List Int)} (h : Rows2 B w v xss) :
    ∃ a cap, v = .slice a xss.length cap ∧ xss.length ≤ cap ∧ cap ≤ 9223372036854775807 ∧ ∃ V : Nat → Value,
      (0 < xss.length → ∃ b off, a = some ⟨b, off, none⟩ ∧ B ≤ b ∧ ∀ i, i < xss.length → w.cell? ⟨b, off + i, none⟩ = some (V i)) ∧
      ∀ i (h : i < xss.length), Ints B w (V i) xss[i] := by
  obtain ⟨vs, ⟨a, cap, h1, h2, h3, h4⟩, hl, hr⟩ := h
  rw [hl] at h1 h2
  refine ⟨a, cap, h1, h2, h3, fun i => vs.getD i undef, fun hp => ?_, fun i hi => ?_⟩
  · obtain ⟨b, off, h5, hb, h6⟩ := h4 (by omega)
    refine ⟨b, off, h5, hb, fun i hi => ?_⟩
    have hi' : i < vs.length := by omega
    rw [h6 i hi']
    simp [List.getD, List.getElem?_eq_getElem hi']
  · have hi' : i < vs.length := by omega
    have := hr i hi' hi
    simpa [List.getD, List.getElem?_eq_getElem hi'] using this

theorem ret_int {k : IntKind} {a b : Int} (h : a = b) : Ending.returned (.int k a) = .returned (.int k b) := by rw [h]
theorem ret_bool {a b : Bool} (h : a = b) : Ending.returned (.bool a) = .returned (.bool b) := by rw [h]

/-! ### Owned -/
theorem infoInt : (Try.prog.info? 3).map (fun i => (i.zero, i.size, i.bytes)) = some (some (.int .i64 0), 1, 8) := by kernel_rfl
theorem infoInts : (Try.prog.info? 38).map (fun i => (i.zero, i.size, i.bytes)) = some (some (.slice none 0 0), 1, 24) := by kernel_rfl

def OwnI (B : Nat) (w : World) (v : Value) (xs : List Int) : Prop := w.ownsRow B 3 1 v xs.length (ints xs)

/-- The owned rows of a slice of slices: each a block of its own. -/
def OwnII (B : Nat) (w : World) (v : Value) (xss : List (List Int)) : Prop :=
  ∃ vs, w.ownsRow B 38 1 v vs.length vs ∧ vs.length = xss.length ∧ (∀ i (h : i < vs.length) (h' : i < xss.length), OwnI B w vs[i] xss[i]) ∧
    ∀ i j (hi : i < vs.length) (hj : j < vs.length), i ≠ j → vs[i].ownBlock = none ∨ vs[i].ownBlock ≠ vs[j].ownBlock

theorem sl_of_own {B : Nat} {w : World} {e : TypeId} {v : Value} {vs : List Value} (h : w.ownsRow B e 1 v vs.length vs) : SL B w v vs := by
  obtain ⟨_, h⟩ := h
  rcases h with ⟨rfl, h0⟩ | ⟨g, cap, cur, rfl, hb, hg, h1, h2, h3, h4⟩
  · exact ⟨none, 0, by rw [h0], by omega, by omega, by omega⟩
  · refine ⟨_, cap, rfl, h1, h2, fun _ => ⟨g, 0, rfl, hb, fun i hi => ?_⟩⟩
    rw [Nat.zero_add, cell_of_row w g i cur e (0, 0) hg]
    have : vs[i]? = some vs[i] := List.getElem?_eq_getElem hi
    rw [← this, ← h4, List.getElem?_take, if_pos (by omega)]
    simp

theorem OwnI.toInts {B : Nat} {w : World} {v : Value} {xs : List Int} (h : OwnI B w v xs) (hr : ∀ x ∈ xs, In64 x) : Ints B w v xs :=
  ⟨sl_of_own (by rw [ints_length]; exact h), hr⟩

theorem OwnII.rows {B : Nat} {w : World} {v : Value} {xss : List (List Int)} (h : OwnII B w v xss) (hr : ∀ xs ∈ xss, ∀ x ∈ xs, In64 x) : Rows2 B w v xss := by
  obtain ⟨vs, h1, h2, h3, _⟩ := h
  exact ⟨vs, sl_of_own h1, h2, fun i hi hi' => (h3 i hi hi').toInts (hr _ (List.getElem_mem _))⟩

theorem owns_keep {B : Nat} {w w' : World} {e : TypeId} {size : Nat} {v : Value} {n : Nat} {vs : List Value} (h : w.ownsRow B e size v n vs) (hs : Above B w w') : w'.ownsRow B e size v n vs := by
  refine ⟨h.1, ?_⟩
  rcases h.2 with h2 | ⟨g, cap, cur, hv, hb, hg, r⟩
  · exact .inl h2
  · exact .inr ⟨g, cap, cur, hv, hb, by rw [hs g hb (Array.getElem?_eq_some_iff.1 hg).1]; exact hg, r⟩
theorem owns_mono {B B' : Nat} {w : World} {e : TypeId} {size : Nat} {v : Value} {n : Nat} {vs : List Value} (h : w.ownsRow B e size v n vs) (hB : B' ≤ B) : w.ownsRow B' e size v n vs := by
  refine ⟨h.1, ?_⟩
  rcases h.2 with h2 | ⟨g, cap, cur, hv, hb, hg, r⟩
  · exact .inl h2
  · exact .inr ⟨g, cap, cur, hv, by omega, hg, r⟩
theorem OwnI.keep {B : Nat} {w w' : World} {v : Value} {xs : List Int} (h : OwnI B w v xs) (hs : Above B w w') : OwnI B w' v xs := owns_keep h hs
theorem OwnII.keep {B : Nat} {w w' : World} {v : Value} {xss : List (List Int)} (h : OwnII B w v xss) (hs : Above B w w') : OwnII B w' v xss := by
  obtain ⟨vs, h1, h2, h3, h4⟩ := h
  exact ⟨vs, owns_keep h1 hs, h2, fun i hi hi' => owns_keep (h3 i hi hi') hs, h4⟩
theorem OwnII.mono {B B' : Nat} {w : World} {v : Value} {xss : List (List Int)} (h : OwnII B w v xss) (hB : B' ≤ B) : OwnII B' w v xss := by
  obtain ⟨vs, h1, h2, h3, h4⟩ := h
  exact ⟨vs, owns_mono h1 hB, h2, fun i hi hi' => owns_mono (h3 i hi hi') hB, h4⟩

end Go.Proofs.Ytkjdlpbfalojdaa
