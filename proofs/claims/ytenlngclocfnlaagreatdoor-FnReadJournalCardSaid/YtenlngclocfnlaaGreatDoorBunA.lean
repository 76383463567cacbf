/- Plain predicates on memory: what a slice value reads as, what is owned; and their laws. No function of the program is walked here. -/
import Derived.Test.YtenlngclocfnlaaGreatDoorRows
import Derived.WalkKit
import Derived.WalkSpells
import Derived.WalkLawsBesides
import Derived.Below
import Derived.BigQuiet
import Derived.Lib.Hide
import Derived.Deep.QuietTactic
import Derived.Laws.OwnMore
import Derived.OneCell
import Derived.Maps.AppendAt
import Derived.Laws.BitsAllLaws
/- Plain predicates on memory: what a slice value reads as, what is owned; and their laws. No function of the program is walked here. -/
namespace Go.Proofs.YtenlngclocfnlaaGreatDoor
open Go.RowKit

/-- A number that an int holds. -/
def In64 (n : Int) : Prop := -9223372036854775808 ≤ n ∧ n ≤ 9223372036854775807

def ints (xs : List Int) : List Value := xs.map (Value.int .i64)
@[simp] theorem ints_length (xs : List Int) : (ints xs).length = xs.length := by simp [ints]
@[simp] theorem ints_get (xs : List Int) (i : Nat) (h : i < (ints xs).length) : (ints xs)[i] = .int .i64 (xs[i]'(by simpa using h)) := by simp [ints]
theorem ints_append (xs ys : List Int) : ints (xs ++ ys) = ints xs ++ ints ys := by simp [ints]
theorem ints_set (xs : List Int) (k : Nat) (n : Int) : (ints xs).set k (.int .i64 n) = ints (xs.set k n) := by simp [ints, List.map_set]

/-- The slice value v reads in w as the one-cell values vs, in a block from B on. -/
def SL (B : Nat) (w : World) (v : Value) (vs : List Value) : Prop :=
  ∃ a cap, v = .slice a vs.length cap ∧ vs.length ≤ cap ∧ cap ≤ 9223372036854775807 ∧
    (0 < vs.length → ∃ b off, a = some ⟨b, off, none⟩ ∧ B ≤ b ∧ ∀ i (h : i < vs.length), w.cell? ⟨b, off + i, none⟩ = some vs[i])

/-- From block B on, w' is as w was. -/
def Above (B : Nat) (w w' : World) : Prop := ∀ b, B ≤ b → b < w.heap.size → w'.heap[b]? = w.heap[b]?

theorem Above.refl (B : Nat) (w : World) : Above B w w := fun _ _ _ => rfl
theorem Above.of_below {B : Nat} {w w' : World} (h : Below w.heap.size w w') : Above B w w' := fun b _ hb => h.block b hb
theorem Above.of_grown {B : Nat} {w w' : World} {K : Nat} (h : w.grownBy w' (some K)) (hK : K < B) : Above B w w' := fun b h1 h2 => h.block b h2 (by simp; omega)
theorem Above.cell {B : Nat} {w w' : World} (h : Above B w w') {p : Addr} {u : Value} (hp : B ≤ p.block) (hc : w.cell? p = some u) : w'.cell? p = some u := by
  rw [World.cell?_of_block (w := w) (h p.block hp (World.block_lt_of_cell? w p hc))]
  exact hc

theorem SL.nil (B : Nat) (w : World) : SL B w (.slice none 0 0) [] := ⟨none, 0, rfl, by simp, by simp, by simp⟩

theorem SL.keep {B : Nat} {w w' : World} {v : Value} {vs : List Value} (h : SL B w v vs) (hs : Above B w w') : SL B w' v vs := by
  obtain ⟨a, cap, h1, h2, h3, h4⟩ := h
  refine ⟨a, cap, h1, h2, h3, fun hp => ?_⟩
  obtain ⟨b, off, h5, hb, h6⟩ := h4 hp
  exact ⟨b, off, h5, hb, fun i hi => hs.cell (by exact hb) (h6 i hi)⟩

theorem SL.below {B : Nat} {w w' : World} {v : Value} {vs : List Value} (h : SL B w v vs) (hb : Below w.heap.size w w') : SL B w' v vs := h.keep (.of_below hb)
theorem SL.mono {B B' : Nat} {w : World} {v : Value} {vs : List Value} (h : SL B w v vs) (hb : B' ≤ B) : SL B' w v vs := by
  obtain ⟨a, cap, h1, h2, h3, h4⟩ := h
  refine ⟨a, cap, h1, h2, h3, fun hp => ?_⟩
  obtain ⟨b, off, h5, hb, h6⟩ := h4 hp
  exact ⟨b, off, h5, by omega, h6⟩

theorem SL.take {B : Nat} {w : World} {a : Option Addr} {n cap : Nat} {vs : List Value} (h : SL B w (.slice a n cap) vs) {k : Nat} (hk : k ≤ vs.length) : SL B w (.slice a k cap) (vs.take k) := by
  obtain ⟨a', cap', he, h1, h2, h3⟩ := h
  injection he with e1 e2 e3
  subst e1 e3
  have hl : (vs.take k).length = k := by rw [List.length_take]; omega
  refine ⟨a, cap, by rw [hl], by omega, h2, fun hp => ?_⟩
  obtain ⟨b, off, h4, h5, h6⟩ := h3 (by omega)
  refine ⟨b, off, h4, h5, fun i hi => ?_⟩
  rw [List.getElem_take]
  exact h6 i (by omega)

/-- A slice of ints. -/
def Ints (B : Nat) (w : World) (v : Value) (xs : List Int) : Prop := SL B w v (ints xs) ∧ ∀ x ∈ xs, In64 x

theorem Ints.nil (B : Nat) (w : World) : Ints B w (.slice none 0 0) [] := ⟨SL.nil B w, by simp⟩
theorem Ints.keep {B : Nat} {w w' : World} {v : Value} {xs : List Int} (h : Ints B w v xs) (hs : Above B w w') : Ints B w' v xs := ⟨h.1.keep hs, h.2⟩
theorem Ints.below {B : Nat} {w w' : World} {v : Value} {xs : List Int} (h : Ints B w v xs) (hb : Below w.heap.size w w') : Ints B w' v xs := ⟨h.1.below hb, h.2⟩
theorem Ints.mono {B B' : Nat} {w : World} {v : Value} {xs : List Int} (h : Ints B w v xs) (hb : B' ≤ B) : Ints B' w v xs := ⟨h.1.mono hb, h.2⟩

theorem Ints.opened {B : Nat} {w : World} {v : Value} {xs : List Int} (h : Ints B w v xs) :
    ∃ a cap, v = .slice a xs.length cap ∧ xs.length ≤ cap ∧ cap ≤ 9223372036854775807 ∧
      (0 < xs.length → ∃ b off, a = some ⟨b, off, none⟩ ∧ B ≤ b ∧ ∀ i (h : i < xs.length), w.cell? ⟨b, off + i, none⟩ = some (.int .i64 xs[i])) := by
  obtain ⟨⟨a, cap, h1, h2, h3, h4⟩, _⟩ := h
  simp only [ints_length] at h1 h2 h4
  refine ⟨a, cap, h1, h2, h3, fun hp => ?_⟩
  obtain ⟨b, off, h5, hb, h6⟩ := h4 hp
  exact ⟨b, off, h5, hb, fun i hi => by simpa using h6 i hi⟩

/-- A slice of slices of ints. -/
def Rows2 (B : Nat) (w : World) (v : Value) (xss : List (List Int)) : Prop :=
  ∃ vs, SL B w v vs ∧ vs.length = xss.length ∧ ∀ i (h : i < vs.length) (h' : i < xss.length), Ints B w vs[i] xss[i]

theorem Rows2.nil (B : Nat) (w : World) : Rows2 B w (.slice none 0 0) [] := ⟨[], SL.nil B w, rfl, by simp⟩
theorem Rows2.keep {B : Nat} {w w' : World} {v : Value} {xss : List (List Int)} (h : Rows2 B w v xss) (hs : Above B w w') : Rows2 B w' v xss := by
  obtain ⟨vs, h1, h2, h3⟩ := h
  exact ⟨vs, h1.keep hs, h2, fun i h h' => (h3 i h h').keep hs⟩
theorem Rows2.below {B : Nat} {w w' : World} {v : Value} {xss : List (List Int)} (h : Rows2 B w v xss) (hb : Below w.heap.size w w') : Rows2 B w' v xss := h.keep (.of_below hb)
theorem Rows2.mono {B B' : Nat} {w : World} {v : Value} {xss : List (List Int)} (h : Rows2 B w v xss) (hb : B' ≤ B) : Rows2 B' w v xss := by
  obtain ⟨vs, h1, h2, h3⟩ := h
  exact ⟨vs, h1.mono hb, h2, fun i h h' => (h3 i h h').mono hb⟩

theorem Rows2.opened {B : Nat} {w : World} {v : Value} {xss : List (List Int)} (h : Rows2 B w v xss) :
    ∃ a cap, v = .slice a xss.length cap ∧ xss.length ≤ cap ∧ cap ≤ 9223372036854775807 ∧ ∃ V : Nat → Value,
      (0 < xss.length → ∃ b off, a = some ⟨b, off, none⟩ ∧ B ≤ b ∧ ∀ i, i < xss.length → w.cell? ⟨b, off + i, none⟩ = some (V i)) ∧
      ∀ i (h : i < xss.length), Ints B w (V i) xss[i] := by
  obtain ⟨vs, ⟨a, cap, h1, h2, h3, h4⟩, hl, hr⟩ := h
  rw [hl] at h1 h2
  refine ⟨a, cap, h1, h2, h3, fun i => vs.getD i undef, fun hp => ?_, fun i hi => ?_⟩
  · obtain ⟨b, off, h5, hb, h6⟩ := h4 (by omega)
    refine ⟨b, off, h5, hb, fun i hi => ?_⟩
    have hi' : i < vs.length := by omega
    rw [h6 i hi']
    simp [List.getD, List.getElem?_eq_getElem hi']
  · have hi' : i < vs.length := by omega
    have := hr i hi' hi
    simpa [List.getD, List.getElem?_eq_getElem hi'] using this

theorem ret_int {k : IntKind} {a b : Int} (h : a = b) : Ending.returned (.int k a) = .returned (.int k b) := by rw [h]
theorem ret_bool {a b : Bool} (h : a = b) : Ending.returned (.bool a) = .returned (.bool b) := by rw [h]

/-! ### Owned -/
theorem infoInt : (Tryz.prog.info? 3).map (fun i => (i.zero, i.size, i.bytes)) = some (some (.int .i64 0), 1, 8) := by kernel_rfl
theorem infoInts : (Tryz.prog.info? 37).map (fun i => (i.zero, i.size, i.bytes)) = some (some (.slice none 0 0), 1, 24) := by kernel_rfl

def OwnI (B : Nat) (w : World) (v : Value) (xs : List Int) : Prop := w.ownsRow B 3 1 v xs.length (ints xs)

/-- The owned rows of a slice of slices: each a block of its own. -/
def OwnII (B : Nat) (w : World) (v : Value) (xss : List (List Int)) : Prop :=
  ∃ vs, w.ownsRow B 37 1 v vs.length vs ∧ vs.length = xss.length ∧ (∀ i (h : i < vs.length) (h' : i < xss.length), OwnI B w vs[i] xss[i]) ∧
    ∀ i j (hi : i < vs.length) (hj : j < vs.length), i ≠ j → vs[i].ownBlock = none ∨ vs[i].ownBlock ≠ vs[j].ownBlock

theorem sl_of_own {B : Nat} {w : World} {e : TypeId} {v : Value} {vs : List Value} (h : w.ownsRow B e 1 v vs.length vs) : SL B w v vs := by
  obtain ⟨_, h⟩ := h
  rcases h with ⟨rfl, h0⟩ | ⟨g, cap, cur, rfl, hb, hg, h1, h2, h3, h4⟩
  · exact ⟨none, 0, by rw [h0], by omega, by omega, by omega⟩
  · refine ⟨_, cap, rfl, h1, h2, fun _ => ⟨g, 0, rfl, hb, fun i hi => ?_⟩⟩
    rw [Nat.zero_add, cell_of_row w g i cur e (0, 0) hg]
    have : vs[i]? = some vs[i] := List.getElem?_eq_getElem hi
    rw [← this, ← h4, List.getElem?_take, if_pos (by omega)]
    simp

theorem OwnI.toInts {B : Nat} {w : World} {v : Value} {xs : List Int} (h : OwnI B w v xs) (hr : ∀ x ∈ xs, In64 x) : Ints B w v xs :=
  ⟨sl_of_own (by rw [ints_length]; exact h), hr⟩

theorem OwnII.rows {B : Nat} {w : World} {v : Value} {xss : List (List Int)} (h : OwnII B w v xss) (hr : ∀ xs ∈ xss, ∀ x ∈ xs, In64 x) : Rows2 B w v xss := by
  obtain ⟨vs, h1, h2, h3, _⟩ := h
  exact ⟨vs, sl_of_own h1, h2, fun i hi hi' => (h3 i hi hi').toInts (hr _ (List.getElem_mem _))⟩

theorem owns_keep {B : Nat} {w w' : World} {e : TypeId} {size : Nat} {v : Value} {n : Nat} {vs : List Value} (h : w.ownsRow B e size v n vs) (hs : Above B w w') : w'.ownsRow B e size v n vs := by
  refine ⟨h.1, ?_⟩
  rcases h.2 with h2 | ⟨g, cap, cur, hv, hb, hg, r⟩
  · exact .inl h2
  · exact .inr ⟨g, cap, cur, hv, hb, by rw [hs g hb (Array.getElem?_eq_some_iff.1 hg).1]; exact hg, r⟩
theorem owns_mono {B B' : Nat} {w : World} {e : TypeId} {size : Nat} {v : Value} {n : Nat} {vs : List Value} (h : w.ownsRow B e size v n vs) (hB : B' ≤ B) : w.ownsRow B' e size v n vs := by
  refine ⟨h.1, ?_⟩
  rcases h.2 with h2 | ⟨g, cap, cur, hv, hb, hg, r⟩
  · exact .inl h2
  · exact .inr ⟨g, cap, cur, hv, by omega, hg, r⟩
theorem OwnI.keep {B : Nat} {w w' : World} {v : Value} {xs : List Int} (h : OwnI B w v xs) (hs : Above B w w') : OwnI B w' v xs := owns_keep h hs
theorem OwnII.keep {B : Nat} {w w' : World} {v : Value} {xss : List (List Int)} (h : OwnII B w v xss) (hs : Above B w w') : OwnII B w' v xss := by
  obtain ⟨vs, h1, h2, h3, h4⟩ := h
  exact ⟨vs, owns_keep h1 hs, h2, fun i hi hi' => owns_keep (h3 i hi hi') hs, h4⟩
theorem OwnII.mono {B B' : Nat} {w : World} {v : Value} {xss : List (List Int)} (h : OwnII B w v xss) (hB : B' ≤ B) : OwnII B' w v xss := by
  obtain ⟨vs, h1, h2, h3, h4⟩ := h
  exact ⟨vs, owns_mono h1 hB, h2, fun i hi hi' => owns_mono (h3 i hi hi') hB, h4⟩

end Go.Proofs.YtenlngclocfnlaaGreatDoor

/- Laws on owned rows: a store into one, a row of rows whose row is set or changed, one row more. No walk. -/
namespace Go.Proofs.YtenlngclocfnlaaGreatDoor
open Go.RowKit
set_option linter.unusedVariables false

theorem own_apart {w : World} {B B' : Nat} {e e' : TypeId} {s s' : Nat} {v v' : Value} {n n' : Nat} {xs xs' : List Value}
    (h : w.ownsRow B e s v n xs) (h' : w.ownsRow B' e' s' v' n' xs') (he : e ≠ e') : v.ownBlock = none ∨ v.ownBlock ≠ v'.ownBlock := by
  rcases h.2 with ⟨rfl, _⟩ | ⟨g, cap, cur, rfl, _, hg, _⟩
  · left; rfl
  · right
    rcases h'.2 with ⟨rfl, _⟩ | ⟨g', cap', cur', rfl, _, hg', _⟩
    · simp [Value.ownBlock]
    · simp only [Value.ownBlock, ne_eq, Option.some.injEq]
      rintro rfl
      rw [hg] at hg'
      simp at hg'
      exact he hg'.2

theorem grownBy_setCell (w : World) (p : Addr) (u : Value) : w.grownBy (w.setCell p u) (some p.block) :=
  ⟨rfl, rfl, rfl, by simp [World.setCell], fun k _ hk => Below.heap_setCell w p u k (by simpa using hk)⟩

/-- A cell that is there, and may be written, stays so while blocks are laid. -/
theorem keep_cf {w w' : World} {p : Addr} {u : Value} (hb : Below w.heap.size w w') (hc : w.cell? p = some u) (hf : w.frozen? p = false) : w'.cell? p = some u ∧ w'.frozen? p = false :=
  have h := World.block_lt_of_cell? w p hc
  ⟨(hb.cell h).trans hc, (hb.frozen h).trans hf⟩

theorem own_nil_block {w : World} {B : Nat} {e : TypeId} {s : Nat} {v : Value} {n : Nat} {xs : List Value} (h : w.ownsRow B e s v n xs) (hv : v.ownBlock = none) : v = .slice none 0 0 ∧ n = 0 := by
  rcases h.2 with h | ⟨g, cap, cur, rfl, _⟩
  · exact h
  · simp [Value.ownBlock] at hv

theorem own_head {w : World} {B : Nat} {e : TypeId} {s : Nat} {v : Value} {n : Nat} {xs : List Value} (h : w.ownsRow B e s v n xs) (hn : 0 < n) :
    ∃ g cap, v = .slice (some ⟨g, 0, none⟩) n cap ∧ B ≤ g ∧ g < w.heap.size ∧ n ≤ cap ∧ cap ≤ maxLen := by
  rcases h.2 with h | ⟨g, cap, cur, rfl, hb, hg, h1, h2, _⟩
  · omega
  · exact ⟨g, cap, rfl, hb, (Array.getElem?_eq_some_iff.1 hg).1, h1, h2⟩

theorem own_shape {w : World} {B : Nat} {e : TypeId} {s : Nat} {v : Value} {n : Nat} {xs : List Value} (h : w.ownsRow B e s v n xs) :
    ∃ a cap, v = .slice a n cap ∧ n ≤ cap ∧ cap ≤ maxLen := by
  rcases h.2 with ⟨rfl, rfl⟩ | ⟨g, cap, cur, rfl, hb, hg, h1, h2, _⟩
  · exact ⟨none, 0, rfl, by omega, by simp [maxLen]⟩
  · exact ⟨_, cap, rfl, h1, h2⟩

/-- What the walk reads of an owned slice of ints. -/
theorem OwnI.opened {B : Nat} {w : World} {v : Value} {xs : List Int} (h : OwnI B w v xs) :
    ∃ a cap, v = .slice a xs.length cap ∧ xs.length ≤ cap ∧ cap ≤ 9223372036854775807 ∧
      (0 < xs.length → ∃ g, a = some ⟨g, 0, none⟩ ∧ B ≤ g ∧ (∀ i (h : i < xs.length), w.cell? ⟨g, i, none⟩ = some (.int .i64 xs[i])) ∧ ∀ i, w.frozen? ⟨g, i, none⟩ = false) := by
  obtain ⟨a, cap, rfl, h1, h2⟩ := own_shape h
  refine ⟨a, cap, rfl, h1, by simpa [maxLen] using h2, fun hn => ?_⟩
  obtain ⟨g, cap', he, hb, _⟩ := own_head h hn
  injection he with e1 _ e3
  subst e1 e3
  refine ⟨g, rfl, hb, fun i hi => ?_, fun i => World.ownsRow.frozenAt h i⟩
  have h' : w.ownsRow B 3 1 (.slice (some ⟨g, 0, none⟩) xs.length cap) xs.length (ints xs) := h
  rw [World.ownsRow.cellAt h' i (by omega), List.getElem?_eq_getElem (by simpa using hi), ints_get]

theorem OwnI.at {B : Nat} {w : World} {g n cap : Nat} {xs : List Int} (h : OwnI B w (.slice (some ⟨g, 0, none⟩) n cap) xs) (k : Nat) (hk : k < xs.length) :
    (∃ u, w.cell? ⟨g, k, none⟩ = some (.int .i64 u)) ∧ w.frozen? ⟨g, k, none⟩ = false := by
  obtain ⟨a, cap', he, _, _, hd⟩ := h.opened
  injection he with e1 _ _
  subst e1
  obtain ⟨g', hg, _, hc, hf⟩ := hd (by omega)
  injection hg with hg
  injection hg with hg _ _
  subst hg
  exact ⟨⟨_, hc k hk⟩, hf k⟩

theorem OwnI.set {B : Nat} {w : World} {g n cap : Nat} {xs : List Int} (h : OwnI B w (.slice (some ⟨g, 0, none⟩) n cap) xs) (k : Nat) (u : Int) :
    OwnI B (w.setCell ⟨g, k, none⟩ (.int .i64 u)) (.slice (some ⟨g, 0, none⟩) n cap) (xs.set k u) := by
  obtain ⟨a, cap', he, _⟩ := own_shape h
  injection he with _ e2 _
  subst e2
  have := (World.ownsRow.stored h k (.int .i64 u)).1
  unfold OwnI
  rw [List.length_set, ← ints_set]
  exact this

theorem own_zeros_int {w : World} {B n : Nat} {v : Value} (h : w.ownsRow B 3 1 v n (madeCells (Value.int .i64 0).cells (n * 1)).toList) : OwnI B w v (List.replicate n 0) := by
  unfold OwnI
  rw [List.length_replicate]
  have e : ints (List.replicate n 0) = (madeCells (Value.int .i64 0).cells (n * 1)).toList := by
    rw [Nat.mul_one, show (Value.int .i64 0).cells = #[Value.int .i64 0] from rfl, toList_madeCells_one]; simp [ints]
  rw [e]
  exact h

/-- 'make([]int, n)'. -/
theorem wpList_make_ints (w : World) {ops : Array Oper} {rest : List Oper} {o : Oper} {a : Act} {Q : Exit → Act → World → Prop}
    (hg : o.guard = none) (l c : Operand) (hop : o.op = Op.makeSlice 37 l c)
    (L C : Int) (n : Nat) (hl : a.eval l = .int .i64 L) (hc : a.eval c = .int .i64 C) (hL : L = (n : Int)) (hC : C = (n : Int)) (b2 : n ≤ 1099511627776)
    (hK : ∀ w', OwnI w.heap.size w' (.slice (some ⟨w.heap.size, 0, none⟩) n n) (List.replicate n 0) → Below w.heap.size w w' → w.heap.size < w'.heap.size →
      wpList Tryz.prog ops Q rest (a.put o.dst (.slice (some ⟨w.heap.size, 0, none⟩) n n)) w') :
    wpList Tryz.prog ops Q (o :: rest) a w := by
  obtain ⟨i0, hi, hz0, hz1, hz2⟩ := info_parts infoInt
  refine wpList_make_full w hg l c 37 hop w.heap.size 3 i0 (.int .i64 0) 1 Tryz.underlying37 hi hz0 hz1 .i64 .i64 L C n hl hc hL hC (by rw [hz2]; omega) (by unfold maxLen; omega) (Nat.le_refl _) ?_
  intro w' h1 h2
  refine hK w' (own_zeros_int h1) ((Below.refl _ w).grown h2 (Nat.le_refl _) (by simp)) ?_
  exact (World.ownsRow.lt h1 _ rfl).2

/-! ### Rows of rows -/
theorem OwnII.opened {B : Nat} {w : World} {v : Value} {xss : List (List Int)} (h : OwnII B w v xss) :
    ∃ a cap, v = .slice a xss.length cap ∧ xss.length ≤ cap ∧ cap ≤ 9223372036854775807 ∧ ∃ V : Nat → Value,
      (0 < xss.length → ∃ g, a = some ⟨g, 0, none⟩ ∧ B ≤ g ∧ (∀ i, i < xss.length → w.cell? ⟨g, i, none⟩ = some (V i)) ∧ ∀ i, w.frozen? ⟨g, i, none⟩ = false) ∧
      ∀ i (h : i < xss.length), OwnI B w (V i) xss[i] := by
  obtain ⟨vs, h1, h2, h3, h4⟩ := h
  obtain ⟨a, cap, rfl, h5, h6⟩ := own_shape h1
  refine ⟨a, cap, by rw [h2], by omega, by simpa [maxLen] using h6, fun i => vs.getD i undef, fun hn => ?_, fun i hi => ?_⟩
  · obtain ⟨g, cap', he, hb, _⟩ := own_head h1 (by omega)
    injection he with e1 _ e3
    subst e1 e3
    refine ⟨g, rfl, hb, fun i hi => ?_, fun i => World.ownsRow.frozenAt h1 i⟩
    rw [World.ownsRow.cellAt h1 i (by omega)]
    simp [List.getD, List.getElem?_eq_getElem (show i < vs.length by omega)]
  · have := h3 i (by omega) hi
    simpa [List.getD, List.getElem?_eq_getElem (show i < vs.length by omega)] using this

theorem OwnII.head {B : Nat} {w : World} {a : Option Addr} {n cap : Nat} {xss : List (List Int)} (h : OwnII B w (.slice a n cap) xss) (hp : 0 < xss.length) : ∃ g, a = some ⟨g, 0, none⟩ ∧ B ≤ g := by
  obtain ⟨vs, h1, h2, _⟩ := h
  obtain ⟨g, cap', he, hB, _⟩ := own_head h1 (by omega)
  injection he with e1 _ _
  exact ⟨g, e1, hB⟩

/-- A row is put at place k: a row of its own, which none of the others is. -/
theorem OwnII.setRow {B : Nat} {w : World} {g n cap : Nat} {xss : List (List Int)} (h : OwnII B w (.slice (some ⟨g, 0, none⟩) n cap) xss) (k : Nat) {r : Value} {xs : List Int}
    (hr : OwnI B w r xs) (hf : ∀ i u, i < xss.length → w.cell? ⟨g, i, none⟩ = some u → u.ownBlock = none ∨ r.ownBlock = none ∨ u.ownBlock ≠ r.ownBlock) :
    OwnII B (w.setCell ⟨g, k, none⟩ r) (.slice (some ⟨g, 0, none⟩) n cap) (xss.set k xs) := by
  obtain ⟨vs, h1, h2, h3, h4⟩ := h
  obtain ⟨a, cap', he, _⟩ := own_shape h1
  injection he with _ e2 _
  subst e2
  have hst := (World.ownsRow.stored h1 k r).1
  have hcell : ∀ i (hi : i < vs.length), w.cell? ⟨g, i, none⟩ = some vs[i] := fun i hi => by
    rw [World.ownsRow.cellAt h1 i (by omega), List.getElem?_eq_getElem hi]
  have hkeep : ∀ u ys, OwnI B w u ys → OwnI B (w.setCell ⟨g, k, none⟩ r) u ys := fun u ys hu => by
    refine World.ownsRow.kept hu (grownBy_setCell w ⟨g, k, none⟩ r) ?_
    have := own_apart hu h1 (by decide)
    simpa [Value.ownBlock] using this
  refine ⟨vs.set k r, by rw [List.length_set]; exact hst, by simpa using h2, fun i hi hi' => ?_, fun i j hi hj hij => ?_⟩
  · rw [List.getElem_set, List.getElem_set]
    split
    · exact hkeep _ _ hr
    · exact hkeep _ _ (h3 i (by simpa using hi) (by simpa using hi'))
  · simp only [List.length_set] at hi hj
    rw [List.getElem_set, List.getElem_set]
    split
    · split
      · omega
      · have := hf j _ (by omega) (hcell j hj)
        rcases this with h | h | h
        · rw [h]; by_cases e : r.ownBlock = none
          · exact .inl e
          · exact .inr e
        · exact .inl h
        · exact .inr (fun e => h e.symm)
    · split
      · have := hf i _ (by omega) (hcell i hi)
        rcases this with h | h | h
        · exact .inl h
        · rw [h]; by_cases e : vs[i].ownBlock = none
          · exact .inl e
          · exact .inr e
        · exact .inr h
      · exact h4 i j hi hj hij

/-- A row's own numbers turn; nothing else does. -/
theorem OwnII.turnRow {B : Nat} {w w' : World} {v : Value} {xss : List (List Int)} {vs : List Value} {k : Nat} {xs : List Int}
    (h1 : w.ownsRow B 37 1 v vs.length vs) (h2 : vs.length = xss.length) (h3 : ∀ i (h : i < vs.length) (h' : i < xss.length), OwnI B w vs[i] xss[i])
    (h4 : ∀ i j (hi : i < vs.length) (hj : j < vs.length), i ≠ j → vs[i].ownBlock = none ∨ vs[i].ownBlock ≠ vs[j].ownBlock) (hk : k < vs.length)
    (hg : w.grownBy w' vs[k].ownBlock) (hr : OwnI B w' vs[k] xs) :
    w'.ownsRow B 37 1 v vs.length vs ∧ vs.length = (xss.set k xs).length ∧ ∀ i (h : i < vs.length) (h' : i < (xss.set k xs).length), OwnI B w' vs[i] (xss.set k xs)[i] := by
  refine ⟨World.ownsRow.kept h1 hg ?_, by simpa using h2, fun i hi hi' => ?_⟩
  · exact own_apart h1 (h3 k hk (by omega)) (by decide)
  · rw [List.getElem_set]
    split
    · rename_i e; subst e; exact hr
    · rename_i e
      exact World.ownsRow.kept (h3 i hi (by simpa using hi')) hg (h4 i k hi hk (fun e' => e e'.symm))

theorem owns_below {B : Nat} {w w' : World} {e : TypeId} {size : Nat} {v : Value} {n : Nat} {vs : List Value} (h : w.ownsRow B e size v n vs) (hb : Below w.heap.size w w') : w'.ownsRow B e size v n vs := owns_keep h (.of_below hb)
theorem OwnI.below {B : Nat} {w w' : World} {v : Value} {xs : List Int} (h : OwnI B w v xs) (hb : Below w.heap.size w w') : OwnI B w' v xs := owns_below h hb
theorem OwnI.mono {B B' : Nat} {w : World} {v : Value} {xs : List Int} (h : OwnI B w v xs) (hB : B' ≤ B) : OwnI B' w v xs := owns_mono h hB
theorem OwnII.below {B : Nat} {w w' : World} {v : Value} {xss : List (List Int)} (h : OwnII B w v xss) (hb : Below w.heap.size w w') : OwnII B w' v xss := h.keep (.of_below hb)

/-- A row that has just been made is put at place k. -/
theorem OwnII.setFresh {B : Nat} {w w2 : World} {g n cap : Nat} {xss : List (List Int)} (h : OwnII B w (.slice (some ⟨g, 0, none⟩) n cap) xss) (hb : Below w.heap.size w w2) (hB : B ≤ w.heap.size)
    (k : Nat) {r : Value} {xs : List Int} (hr : OwnI w.heap.size w2 r xs) :
    OwnII B (w2.setCell ⟨g, k, none⟩ r) (.slice (some ⟨g, 0, none⟩) n cap) (xss.set k xs) := by
  refine (h.below hb).setRow k (hr.mono hB) ?_
  intro i u hix hu
  by_cases hn : r.ownBlock = none
  · exact .inr (.inl hn)
  obtain ⟨m, hm⟩ := Option.ne_none_iff_exists'.1 hn
  have h2 := (World.ownsRow.lt hr m hm).1
  obtain ⟨vs, h3, h4, h5, _⟩ := h
  obtain ⟨a, cap', he, _⟩ := own_shape h3
  injection he with _ e2 _
  subst e2
  have hi : i < vs.length := by omega
  have hc : w.cell? ⟨g, i, none⟩ = some vs[i] := by rw [World.ownsRow.cellAt h3 i (by omega), List.getElem?_eq_getElem hi]
  have hc2 := (Above.of_below (B := 0) hb).cell (Nat.zero_le _) hc
  rw [hu] at hc2
  injection hc2 with hc2
  subst hc2
  by_cases hn' : vs[i].ownBlock = none
  · exact .inl hn'
  · obtain ⟨m', hm'⟩ := Option.ne_none_iff_exists'.1 hn'
    have := (World.ownsRow.lt (h5 i hi (by omega)) m' hm').2
    exact .inr (.inr (by rw [hm, hm']; simp; omega))

theorem OwnI.empty (B : Nat) (w : World) : OwnI B w (.slice none 0 0) [] := World.ownsRow_nil w B 3 1

theorem OwnII.empty (B : Nat) (w : World) : OwnII B w (.slice none 0 0) [] := ⟨[], World.ownsRow_nil w B 37 1, rfl, by simp, by simp⟩

/-- '[][]int{}', '[]int{}'. -/
theorem OwnII.lit (w : World) : OwnII w.heap.size (w.alloc (.cells #[] 37)) (.slice (some ⟨w.heap.size, 0, none⟩) 0 0) [] :=
  ⟨[], World.ownsRow_made w #[] 0 (Nat.le_refl _) (by simp [maxLen]) rfl, rfl, by simp, by simp⟩
theorem OwnI.lit (w : World) : OwnI w.heap.size (w.alloc (.cells #[] 3)) (.slice (some ⟨w.heap.size, 0, none⟩) 0 0) [] :=
  World.ownsRow_made w #[] 0 (Nat.le_refl _) (by simp [maxLen]) rfl

theorem own_nils {w : World} {B n : Nat} {v : Value} (h : w.ownsRow B 37 1 v n (madeCells (Value.slice none 0 0).cells (n * 1)).toList) : OwnII B w v (List.replicate n []) := by
  rw [Nat.mul_one, show (Value.slice none 0 0).cells = #[Value.slice none 0 0] from rfl, toList_madeCells_one] at h
  refine ⟨List.replicate n (.slice none 0 0), by simpa using h, by simp, fun i hi hi' => ?_, fun i j hi hj _ => ?_⟩
  · simp only [List.getElem_replicate]
    exact OwnI.empty B w
  · left
    simp [Value.ownBlock]

/-- 'make([][]int, n)'. -/
theorem wpList_make_rows (w : World) {ops : Array Oper} {rest : List Oper} {o : Oper} {a : Act} {Q : Exit → Act → World → Prop}
    (hg : o.guard = none) (l c : Operand) (hop : o.op = Op.makeSlice 79 l c)
    (L C : Int) (n : Nat) (hl : a.eval l = .int .i64 L) (hc : a.eval c = .int .i64 C) (hL : L = (n : Int)) (hC : C = (n : Int)) (b2 : n ≤ 1099511627776)
    (hK : ∀ w', OwnII w.heap.size w' (.slice (some ⟨w.heap.size, 0, none⟩) n n) (List.replicate n []) → Below w.heap.size w w' → w.heap.size < w'.heap.size →
      wpList Tryz.prog ops Q rest (a.put o.dst (.slice (some ⟨w.heap.size, 0, none⟩) n n)) w') :
    wpList Tryz.prog ops Q (o :: rest) a w := by
  obtain ⟨i0, hi, hz0, hz1, hz2⟩ := info_parts infoInts
  refine wpList_make_full w hg l c 79 hop w.heap.size 37 i0 (.slice none 0 0) 1 Tryz.underlying79 hi hz0 hz1 .i64 .i64 L C n hl hc hL hC (by rw [hz2]; omega) (by unfold maxLen; omega) (Nat.le_refl _) ?_
  intro w' h1 h2
  refine hK w' (own_nils h1) ((Below.refl _ w).grown h2 (Nat.le_refl _) (by simp)) ?_
  exact (World.ownsRow.lt h1 _ rfl).2

theorem OwnII.at {B : Nat} {w : World} {g n cap : Nat} {xss : List (List Int)} (h : OwnII B w (.slice (some ⟨g, 0, none⟩) n cap) xss) (k : Nat) (hk : k < xss.length) :
    (∃ u, w.cell? ⟨g, k, none⟩ = some u ∧ OwnI B w u xss[k]) ∧ w.frozen? ⟨g, k, none⟩ = false := by
  obtain ⟨a, cap', he, _, _, V, hd, hV⟩ := h.opened
  injection he with e1 _ _
  subst e1
  obtain ⟨g', hg, _, hc, hf⟩ := hd (by omega)
  injection hg with hg
  injection hg with hg _ _
  subst hg
  exact ⟨⟨_, hc k hk, hV k hk⟩, hf k⟩

/-- An element of a row can be read and set. -/
theorem OwnII.elem {B : Nat} {w : World} {g n cap : Nat} {xss : List (List Int)} (h : OwnII B w (.slice (some ⟨g, 0, none⟩) n cap) xss) (i : Nat) (hi : i < xss.length) (hp : 0 < xss[i].length) :
    ∃ g' cap', w.cell? ⟨g, i, none⟩ = some (.slice (some ⟨g', 0, none⟩) xss[i].length cap') ∧ B ≤ g' ∧ xss[i].length ≤ cap' ∧ cap' ≤ 9223372036854775807 ∧ (∀ k (h : k < xss[i].length), w.cell? ⟨g', k, none⟩ = some (.int .i64 xss[i][k])) ∧
      (∀ k, w.frozen? ⟨g', k, none⟩ = false) ∧ ∀ k x, OwnII B (w.setCell ⟨g', k, none⟩ (.int .i64 x)) (.slice (some ⟨g, 0, none⟩) n cap) (xss.set i (xss[i].set k x)) := by
  obtain ⟨vs, h1, h2, h3, h4⟩ := h
  obtain ⟨a, cap', he, _⟩ := own_shape h1
  injection he with _ e2 _
  subst e2
  have hi' : i < vs.length := by omega
  have hr := h3 i hi' hi
  obtain ⟨g', cap', hv, hB, _, hc1, hc2⟩ := own_head hr hp
  obtain ⟨a, cap'', he, _, _, hd⟩ := hr.opened
  have hc : w.cell? ⟨g, i, none⟩ = some vs[i] := by rw [World.ownsRow.cellAt h1 i (by omega), List.getElem?_eq_getElem hi']
  rw [hv] at he
  injection he with e1 _ _
  subst e1
  obtain ⟨g'', hg, _, hcell, hfr⟩ := hd hp
  injection hg with hg
  injection hg with hg _ _
  subst hg
  refine ⟨g', cap', by rw [hc, hv], hB, hc1, by simpa [maxLen] using hc2, hcell, hfr, fun k x => ?_⟩
  have hr' := hr
  rw [hv] at hr'
  have hst := hr'.set k x
  rw [← hv] at hst
  have := OwnII.turnRow h1 h2 h3 h4 hi' (by rw [hv]; exact grownBy_setCell w ⟨g', k, none⟩ (.int .i64 x)) hst
  exact ⟨vs, this.1, this.2.1, this.2.2, h4⟩

/-- 'row = append(row, x)', x in a new block of its own. -/
theorem wpList_push_int (w : World) {ops : Array Oper} {rest : List Oper} {o : Oper} {a : Act} {Q : Exit → Act → World → Prop}
    (hg : o.guard = none) (s x : Operand) (hop : o.op = Op.call { callee := Callee.builtin Builtin.append, args := #[s, x], argTypes := #[37, 37] })
    (B : Nat) (v : Value) (xs : List Int) (hs : a.eval s = v) (hown : OwnI B w v xs) (ad : Addr) (c : Nat) (n : Int) (hx : a.eval x = .slice (some ad) 1 c) (hc : w.cell? ad = some (.int .i64 n))
    (hlen : xs.length ≤ 1099511627776) (hB : B ≤ w.heap.size)
    (hK : ∀ a' cap' w', OwnI B w' (.slice a' (xs.length + 1) cap') (xs ++ [n]) → w.grownBy w' v.ownBlock → wpList Tryz.prog ops Q rest (a.put o.dst (.slice a' (xs.length + 1) cap')) w') :
    wpList Tryz.prog ops Q (o :: rest) a w := by
  obtain ⟨i0, hi, hz0, hz1, hz2⟩ := info_parts infoInt
  refine wpList_append_own w hg s x 37 hop B 3 i0 (.int .i64 0) 1 8 Tryz.underlying37 hi hz0 hz1 hz2 rfl (by decide) v xs.length (ints xs) hs hown ad 1 c [.int .i64 n] hx rfl ?_ (by simp [Value.oneCell']) (by unfold maxLen; omega) (by omega) hB ?_
  · intro j u hj
    match j, hj with
    | 0, hj => simp at hj; subst hj; simpa [Addr.add] using hc
  · intro v' w' h1 h2 _
    obtain ⟨a', cap', rfl, _⟩ := own_shape h1
    refine hK a' cap' w' ?_ h2
    unfold OwnI
    rw [ints_append]
    simpa [ints] using h1

/-- 'out = append(out, row)', row's value in a new block of its own; row is none of out's rows. -/
theorem wpList_push_row (w : World) {ops : Array Oper} {rest : List Oper} {o : Oper} {a : Act} {Q : Exit → Act → World → Prop}
    (hg : o.guard = none) (s x : Operand) (hop : o.op = Op.call { callee := Callee.builtin Builtin.append, args := #[s, x], argTypes := #[79, 79] })
    (B : Nat) (v : Value) (xss : List (List Int)) (hs : a.eval s = v) (hown : OwnII B w v xss) (ad : Addr) (c : Nat) (r : Value) (xs : List Int) (hx : a.eval x = .slice (some ad) 1 c) (hc : w.cell? ad = some r)
    (hr : OwnI B w r xs) (hd : ∀ vs : List Value, w.ownsRow B 37 1 v vs.length vs → ∀ i (h : i < vs.length), r.ownBlock = none ∨ vs[i].ownBlock = none ∨ vs[i].ownBlock ≠ r.ownBlock)
    (hlen : xss.length ≤ 1099511627776) (hB : B ≤ w.heap.size)
    (hK : ∀ a' cap' w', OwnII B w' (.slice a' (xss.length + 1) cap') (xss ++ [xs]) → w.grownBy w' v.ownBlock → wpList Tryz.prog ops Q rest (a.put o.dst (.slice a' (xss.length + 1) cap')) w') :
    wpList Tryz.prog ops Q (o :: rest) a w := by
  obtain ⟨i0, hi, hz0, hz1, hz2⟩ := info_parts infoInts
  obtain ⟨vs, h1, h2, h3, h4⟩ := hown
  have hone : r.oneCell' = true := by
    obtain ⟨_, _, rfl, _⟩ := own_shape hr
    rfl
  refine wpList_append_own w hg s x 79 hop B 37 i0 (.slice none 0 0) 1 24 Tryz.underlying79 hi hz0 hz1 hz2 rfl (by decide) v vs.length vs hs h1 ad 1 c [r] hx rfl ?_ (by simp [hone]) (by unfold maxLen; omega) (by omega) hB ?_
  · intro j u hj
    match j, hj with
    | 0, hj => simp at hj; subst hj; simpa [Addr.add] using hc
  · intro v' w' h5 h6 _
    have hap : ∀ u ys, OwnI B w u ys → OwnI B w' u ys := fun u ys hu => World.ownsRow.kept hu h6 (own_apart hu h1 (by decide))
    obtain ⟨a', cap', rfl, _⟩ := own_shape h5
    rw [h2] at h5 ⊢
    refine hK a' cap' w' ⟨vs ++ [r], by simpa [h2] using h5, by simp [h2], fun i hi' hi'' => ?_, fun i j hi' hj' hij => ?_⟩ h6
    · by_cases hlt : i < vs.length
      · rw [List.getElem_append_left hlt, List.getElem_append_left (by omega)]
        exact hap _ _ (h3 i hlt (by omega))
      · have e : i = vs.length := by simp at hi'; omega
        subst e
        have := hap _ _ hr
        simpa [h2] using this
    · simp only [List.length_append, List.length_cons, List.length_nil] at hi' hj'
      by_cases h7 : i < vs.length
      · rw [List.getElem_append_left h7]
        by_cases h8 : j < vs.length
        · rw [List.getElem_append_left h8]; exact h4 i j h7 h8 hij
        · have e : j = vs.length := by omega
          subst e
          rw [List.getElem_append_right (Nat.le_refl _)]
          simp only [Nat.sub_self, List.getElem_cons_zero]
          rcases hd vs h1 i h7 with h | h | h
          · rw [h]; by_cases e : vs[i].ownBlock = none
            · exact .inl e
            · exact .inr e
          · exact .inl h
          · exact .inr h
      · have e : i = vs.length := by omega
        subst e
        rw [List.getElem_append_right (Nat.le_refl _), List.getElem_append_left (show j < vs.length by omega)]
        simp only [Nat.sub_self, List.getElem_cons_zero]
        rcases hd vs h1 j (by omega) with h | h | h
        · exact .inl h
        · rw [h]; by_cases e : r.ownBlock = none
          · exact .inl e
          · exact .inr e
        · exact .inr (fun e => h e.symm)

/-- Rows of an older world lie in older blocks. -/
theorem rows_old {B : Nat} {w w2 : World} {v : Value} {xss : List (List Int)} (h : OwnII B w v xss) (hb : Below w.heap.size w w2) {r : Value} {xs : List Int} (hr : OwnI w.heap.size w2 r xs) :
    ∀ vs : List Value, w2.ownsRow B 37 1 v vs.length vs → ∀ i (h : i < vs.length), r.ownBlock = none ∨ vs[i].ownBlock = none ∨ vs[i].ownBlock ≠ r.ownBlock := by
  intro vs hvs i hi
  obtain ⟨vs', h1, h2, h3, _⟩ := h
  have e : vs = vs' := by
    have h1' := owns_below h1 hb
    rcases h1'.2 with ⟨rfl, h0⟩ | ⟨g, cap, cur, rfl, _, hg, _, _, _, ht⟩
    · rcases hvs.2 with ⟨_, h0'⟩ | ⟨_, _, _, he, _⟩
      · rw [List.eq_nil_of_length_eq_zero h0, List.eq_nil_of_length_eq_zero h0']
      · simp at he
    · rcases hvs.2 with ⟨he, _⟩ | ⟨g2, cap2, cur2, he, _, hg2, _, _, _, ht2⟩
      · simp at he
      · injection he with e1 e2 _
        injection e1 with e1
        injection e1 with e1 _ _
        subst e1
        rw [hg] at hg2
        simp only [Option.some.injEq, Obj.cells.injEq] at hg2
        rw [← ht, ← ht2, hg2.1, e2]
  subst e
  by_cases hn : r.ownBlock = none
  · exact .inl hn
  obtain ⟨m, hm⟩ := Option.ne_none_iff_exists'.1 hn
  by_cases hn' : vs[i].ownBlock = none
  · exact .inr (.inl hn')
  obtain ⟨m', hm'⟩ := Option.ne_none_iff_exists'.1 hn'
  have h4 := (World.ownsRow.lt hr m hm).1
  have h5 := (World.ownsRow.lt (h3 i hi (by omega)) m' hm').2
  exact .inr (.inr (by rw [hm, hm']; simp; omega))

/-- The same, the row made since world wr, in which out lies. -/
theorem wpList_push_new (wr W3 : World) {ops : Array Oper} {rest : List Oper} {o : Oper} {a : Act} {Q : Exit → Act → World → Prop}
    (hg : o.guard = none) (s x : Operand) (hop : o.op = Op.call { callee := Callee.builtin Builtin.append, args := #[s, x], argTypes := #[79, 79] })
    (B : Nat) (v : Value) (xss : List (List Int)) (hs : a.eval s = v) (hown : OwnII B wr v xss) (hb : Below wr.heap.size wr W3) (N : Nat) (hN : W3.heap.size = N) (r : Value) (xs : List Int) (hx : a.eval x = .slice (some ⟨N, 0, none⟩) 1 1)
    (hr : OwnI wr.heap.size W3 r xs) (hlen : xss.length ≤ 1099511627776) (hB : B ≤ wr.heap.size)
    (hK : ∀ a' cap' w', OwnII B w' (.slice a' (xss.length + 1) cap') (xss ++ [xs]) → Below B wr w' → wpList Tryz.prog ops Q rest (a.put o.dst (.slice a' (xss.length + 1) cap')) w') :
    wpList Tryz.prog ops Q (o :: rest) a (W3.alloc (.cells #[r] 37)) := by
  have hsz := hb.size
  have hb4 : Below wr.heap.size wr (W3.alloc (.cells #[r] 37)) := hb.alloc hsz _
  have hr4 : OwnI wr.heap.size (W3.alloc (.cells #[r] 37)) r xs := World.ownsRow.alloc hr _
  have hn4 : (W3.alloc (.cells #[r] 37)).heap.size = W3.heap.size + 1 := by simp
  refine wpList_push_row _ hg s x hop B v xss hs (hown.below hb4) ⟨N, 0, none⟩ 1 r xs hx ?_ (hr4.mono hB) (rows_old hown hb4 hr4) hlen (by omega) ?_
  · subst hN
    exact cell_of_one (heap_alloc_new W3 _)
  · intro a' cap' w' h1 h2
    refine hK a' cap' w' h1 ((hb4.mono hB).grown h2 (by omega) ?_)
    intro k hk
    obtain ⟨vs, h3, _⟩ := hown
    exact (World.ownsRow.lt h3 k hk).1

end Go.Proofs.YtenlngclocfnlaaGreatDoor

/- The small functions that everything uses, each by its contract: ranges, sums, equality of lists, copies, marks. -/
namespace Go.Proofs.YtenlngclocfnlaaGreatDoor
open Go.RowKit
set_option linter.unusedVariables false

/-- The call only computes: the world is as it was but for draws. -/
def Quiet (v : Value) (w : World) (e : Ending) (w' : World) : Prop := e = .returned v ∧ ∃ q, w' = w.drewN q

/-- wr is w behind some draws. -/
def Drawn (w wr : World) : Prop := ∃ q, wr = w.drewN q
theorem Drawn.refl (w : World) : Drawn w w := ⟨0, rfl⟩
theorem Drawn.more {w wr : World} (h : Drawn w wr) (n : Nat) : Drawn w (wr.drewN n) := by
  obtain ⟨q, rfl⟩ := h
  exact ⟨q + n, by simp⟩
theorem Drawn.below {w wr : World} (h : Drawn w wr) : Below w.heap.size w wr := by
  obtain ⟨q, rfl⟩ := h
  exact below_drewN (Below.refl _ _) _
theorem Drawn.cell {w wr : World} (h : Drawn w wr) {p : Addr} {u : Value} (hc : w.cell? p = some u) : wr.cell? p = some u := by
  obtain ⟨q, rfl⟩ := h
  exact hc
theorem Drawn.trans {a b c : World} (h : Drawn a b) (h' : Drawn b c) : Drawn a c := by
  obtain ⟨q, rfl⟩ := h'
  exact h.more q

def inB (n lo hi : Int) : Bool := decide (lo ≤ n ∧ n ≤ hi)

theorem in_any (n lo hi : Int) (w : World) :
    Calls Tryz.prog 54 #[.int .i64 n, .int .i64 lo, .int .i64 hi] w fun e w' => e = .returned (.bool (inB n lo hi)) ∧ w = w' := by
  by_cases h1 : lo ≤ n <;> by_cases h2 : n ≤ hi <;>
  · go_enter Tryz.func54, Tryz.ntmps54
    go_wp2
    go_ret
    exact ⟨ret_bool (by simp [inB, h1, h2]), rfl⟩

theorem l1In_any (n lo hi : Int) (w : World) :
    Calls Tryz.prog 88 #[.int .i64 n, .int .i64 lo, .int .i64 hi] w fun e w' => e = .returned (.bool (inB n lo hi)) ∧ w = w' := by
  by_cases h1 : lo ≤ n <;> by_cases h2 : n ≤ hi <;>
  · go_enter Tryz.func88, Tryz.ntmps88
    go_wp2
    go_ret
    exact ⟨ret_bool (by simp [inB, h1, h2]), rfl⟩

def sum64 (l : List Int) : Int := l.foldl (fun a x => wrap64 (a + x)) 0

theorem sum64_snoc (xs : List Int) (k : Nat) (h : k < xs.length) : sum64 (xs.take (k+1)) = wrap64 (sum64 (xs.take k) + xs[k]) := by
  unfold sum64
  rw [List.take_succ_eq_append_getElem h, List.foldl_append]; rfl

theorem total_any {B : Nat} (v : Value) (xs : List Int) (w : World) (h : Ints B w v xs) :
    Calls Tryz.prog 198 #[v] w fun e w' => e = .returned (.int .i64 (sum64 xs)) ∧ w = w' := by
  obtain ⟨a, cap, rfl, hcap, hmax, hcells⟩ := h.opened
  clear h
  go_enter Tryz.func198, Tryz.ntmps198
  go_wp2
  go_loop [3, 8] (fun s i => ∃ k : Nat, k ≤ xs.length ∧ i = .int .i64 k ∧ s = .int .i64 (sum64 (xs.take k))) (fun _ i => xs.length - (intOf i).toNat)
  case atStart => exact ⟨0, Nat.zero_le _, rfl, rfl⟩
  case round =>
    obtain ⟨k, hk, rfl, rfl⟩ := hrel
    by_cases hlt : k < xs.length
    · obtain ⟨b, off, rfl, _, hc⟩ := hcells (by omega)
      have hck := hc k hlt
      have H := Lib.hid (sum64_snoc xs k hlt)
      clear hc hcells
      go_wp2
      go_round
      case rel => exact ⟨k + 1, by omega, by go_num, by rw [H.out]⟩
      case measure => simp [intOf]; omega
    · go_wp2
      go_ret
      rw [List.take_of_length_le (by omega)]
      exact ⟨rfl, rfl⟩

theorem l1Sum_any {B : Nat} (v : Value) (xs : List Int) (w : World) (h : Ints B w v xs) :
    Calls Tryz.prog 138 #[v] w fun e w' => e = .returned (.int .i64 (sum64 xs)) ∧ w = w' := by
  obtain ⟨a, cap, rfl, hcap, hmax, hcells⟩ := h.opened
  clear h
  go_enter Tryz.func138, Tryz.ntmps138
  go_wp2
  go_loop [3, 4] (fun s i => ∃ k : Nat, k ≤ xs.length ∧ i = .int .i64 k ∧ s = .int .i64 (sum64 (xs.take k))) (fun _ i => xs.length - (intOf i).toNat)
  case atStart => exact ⟨0, Nat.zero_le _, rfl, rfl⟩
  case round =>
    obtain ⟨k, hk, rfl, rfl⟩ := hrel
    by_cases hlt : k < xs.length
    · obtain ⟨b, off, rfl, _, hc⟩ := hcells (by omega)
      have hck := hc k hlt
      have H := Lib.hid (sum64_snoc xs k hlt)
      clear hc hcells
      go_wp2
      go_round
      case rel => exact ⟨k + 1, by omega, by go_num, by rw [H.out]⟩
      case measure => simp [intOf]; omega
    · go_wp2
      go_ret
      rw [List.take_of_length_le (by omega)]
      exact ⟨rfl, rfl⟩

/-- Two lists are equal up to k. -/
theorem take_eq_succ {α : Type} {xs ys : List α} {k : Nat} (hx : k < xs.length) (hy : k < ys.length) (h : xs.take k = ys.take k) (he : xs[k] = ys[k]) : xs.take (k+1) = ys.take (k+1) := by
  rw [List.take_succ_eq_append_getElem hx, List.take_succ_eq_append_getElem hy, h, he]

theorem ne_of_get {α : Type} {xs ys : List α} {k : Nat} (hx : k < xs.length) (hy : k < ys.length) (h : ¬ xs[k] = ys[k]) : ¬ xs = ys := by
  intro e; subst e; exact h rfl

theorem eqIntS_any {B C : Nat} (a b : Value) (xs ys : List Int) (w : World) (ha : Ints B w a xs) (hb : Ints C w b ys) :
    Calls Tryz.prog 153 #[a, b] w (Quiet (.bool (decide (xs = ys))) w) := by
  obtain ⟨a, cap, rfl, hcap, hmax, hcells⟩ := ha.opened
  obtain ⟨b, cap', rfl, hcap', hmax', hcells'⟩ := hb.opened
  clear ha hb
  by_cases hl : xs.length = ys.length
  · have hl1 : ((xs.length : Int) != (ys.length : Int)) = false := by rw [bne_eq_false_iff_eq]; omega
    have hl2 : xs.length ≤ ys.length := by omega
    have hl3 : ys.length ≤ xs.length := by omega
    clear hl
    go_enter Tryz.func153, Tryz.ntmps153
    go_wp2
    go_loopw [5] (fun i wr => ∃ k q : Nat, k ≤ xs.length ∧ i = .int .i64 k ∧ xs.take k = ys.take k ∧ wr = w.drewN q) (fun i _ => xs.length - (intOf i).toNat)
    case atStart => exact ⟨0, 0, Nat.zero_le _, rfl, rfl, rfl⟩
    case round =>
      obtain ⟨k, q, hk, rfl, ht, rfl⟩ := hrel
      have HT := Lib.hid ht
      clear ht
      by_cases hlt : k < xs.length
      · obtain ⟨b1, o1, rfl, _, hc⟩ := hcells (by omega)
        obtain ⟨b2, o2, rfl, _, hc'⟩ := hcells' (by omega)
        have hck := hc k hlt
        have hck' := hc' k (by omega)
        have hlt' : k < ys.length := by omega
        have hi0 : (0 : Int) ≤ (k : Int) := by omega
        have hi1 : (k : Int) < (xs.length : Int) := by omega
        have hi2 : (k : Int) < (ys.length : Int) := by omega
        clear hc hcells hc' hcells'
        by_cases he : xs[k] = ys[k]
        · have he1 : (xs[k] != ys[k]) = false := by simpa using he
          have HE := Lib.hid he
          clear he
          go_wp2
          go_quiet (fail)
          go_wp2
          go_roundw
          case rel => exact ⟨k + 1, _, by omega, by go_num, take_eq_succ hlt hlt' HT.out HE.out, rfl⟩
          case measure => simp [intOf]; omega
        · have he1 : (xs[k] != ys[k]) = true := by simpa using he
          have HE := Lib.hid (ne_of_get hlt hlt' he)
          clear he
          go_wp2
          go_quiet (fail)
          go_wp2
          go_ret
          exact ⟨ret_bool (by simp [HE.out]), q + nq, by simp⟩
      · go_wp2
        go_ret
        have e : xs = ys := by
          have := HT.out
          rwa [List.take_of_length_le (by omega), List.take_of_length_le (by omega)] at this
        exact ⟨ret_bool (by simp [e]), _, rfl⟩
  · have hl1 : ((xs.length : Int) != (ys.length : Int)) = true := by simp; omega
    have HE := Lib.hid (show ¬ xs = ys from fun e => hl (by rw [e]))
    clear hl
    go_enter Tryz.func153, Tryz.ntmps153
    go_wp2
    go_ret
    exact ⟨ret_bool (by simp [HE.out]), 0, rfl⟩

/-- k, k + 1, .. -/
def markL (n : Nat) (k : Int) : List Int := (List.range n).map fun i : Nat => k + (i : Int)
@[simp] theorem markL_length (n : Nat) (k : Int) : (markL n k).length = n := by simp [markL]
theorem markL_get (n : Nat) (k : Int) (i : Nat) (h : i < (markL n k).length) : (markL n k)[i] = k + (i : Int) := by simp [markL]
theorem markL_in64 {n : Nat} {k : Int} (h0 : 0 ≤ k) (h1 : k ≤ 1099511627776) (h2 : n ≤ 1099511627776) : ∀ x ∈ markL n k, In64 x := by
  intro x hx
  simp only [markL, List.mem_map, List.mem_range] at hx
  obtain ⟨i, hi, rfl⟩ := hx
  unfold In64; omega

/-- what heldIntS returns -/
def heldL (xs : List Int) (k : Int) : Int := if xs = markL xs.length k then k + xs.length else -1

theorem held_pre {xs : List Int} {k : Int} {j : Nat} (h : j < xs.length) (ht : xs.take j = markL j k) (he : xs[j] = k + (j : Int)) : xs.take (j + 1) = markL (j + 1) k := by
  rw [List.take_succ_eq_append_getElem h, ht, he]
  simp [markL, List.range_succ]
theorem held_no {xs : List Int} {k : Int} {j : Nat} (h : j < xs.length) (he : ¬ xs[j] = k + (j : Int)) : heldL xs k = -1 := by
  unfold heldL
  rw [if_neg]
  intro e
  apply he
  have : xs[j] = (markL xs.length k)[j]'(by simpa using h) := List.getElem_of_eq e h
  rw [this, markL_get]

theorem heldIntS_any {B : Nat} (v : Value) (xs : List Int) (k : Int) (w : World) (h : Ints B w v xs) (h0 : 0 ≤ k) (h1 : k ≤ 1099511627776) (h2 : xs.length ≤ 1099511627776) :
    Calls Tryz.prog 120 #[v, .int .i64 k] w fun e w' => e = .returned (.int .i64 (heldL xs k)) ∧ w = w' := by
  obtain ⟨a, cap, rfl, hcap, hmax, hcells⟩ := h.opened
  clear h
  go_enter Tryz.func120, Tryz.ntmps120
  go_wp2
  go_loop [1, 5] (fun s i => ∃ j : Nat, j ≤ xs.length ∧ i = .int .i64 j ∧ s = .int .i64 (k + (j : Int)) ∧ xs.take j = markL j k) (fun _ i => xs.length - (intOf i).toNat)
  case atStart => exact ⟨0, Nat.zero_le _, rfl, by simp, rfl⟩
  case round =>
    obtain ⟨j, hj, rfl, rfl, ht⟩ := hrel
    have HT := Lib.hid ht
    clear ht
    by_cases hlt : j < xs.length
    · obtain ⟨b, off, rfl, _, hc⟩ := hcells (by omega)
      have hck := hc j hlt
      clear hc hcells
      by_cases he : xs[j] = k + (j : Int)
      · have he1 : (xs[j] != k + (j : Int)) = false := by simpa using he
        have HE := Lib.hid he
        clear he
        go_wp2
        go_round
        case rel => exact ⟨j + 1, by omega, by go_num, by go_num, held_pre hlt HT.out HE.out⟩
        case measure => simp [intOf]; omega
      · have he1 : (xs[j] != k + (j : Int)) = true := by simpa using he
        have HE := Lib.hid (held_no hlt he)
        clear he
        go_wp2
        go_ret
        exact ⟨ret_int (by rw [HE.out]), rfl⟩
    · have HE := Lib.hid (show j = xs.length from by omega)
      go_wp2
      go_ret
      refine ⟨ret_int ?_, rfl⟩
      have e := HT.out
      rw [List.take_of_length_le (by omega), HE.out] at e
      unfold heldL
      rw [if_pos e, HE.out]

theorem szIntS_any {B : Nat} (v : Value) (xs : List Int) (k : Int) (w : World) (h : Ints B w v xs) (h0 : 0 ≤ k) (h1 : k ≤ 1099511627776) :
    Calls Tryz.prog 151 #[v, .int .i64 k] w fun e w' => e = .returned (.int .i64 (if (xs.length : Int) ≤ k then k - xs.length else -1)) ∧ w = w' := by
  obtain ⟨a, cap, rfl, hcap, hmax, hcells⟩ := h.opened
  clear h hcells
  by_cases hle : (xs.length : Int) ≤ k <;>
  · go_enter Tryz.func151, Tryz.ntmps151
    go_wp2
    go_ret
    exact ⟨ret_int (by first | rfl | simp [hle]), rfl⟩

/-- The call returns a slice of ints of its own. -/
def FreshI (xs : List Int) (w : World) (e : Ending) (w' : World) : Prop := ∃ a cap, e = .returned (.slice a xs.length cap) ∧ OwnI w.heap.size w' (.slice a xs.length cap) xs ∧ Below w.heap.size w w'

theorem copy_step {xs : List Int} {k n : Nat} (h : k < xs.length) (hn : n = xs.length) : (xs.take k ++ List.replicate (n - k) 0).set k xs[k] = xs.take (k + 1) ++ List.replicate (n - (k + 1)) 0 := by
  subst hn
  rw [List.take_succ_eq_append_getElem h, List.set_append_right _ _ (by rw [List.length_take]; omega)]
  have e : k - (xs.take k).length = 0 := by rw [List.length_take]; omega
  rw [e, show xs.length - k = (xs.length - (k + 1)) + 1 from by omega, List.replicate_succ, List.set_cons_zero, List.append_assoc]
  rfl

theorem toIntS_any {B : Nat} (v : Value) (xs : List Int) (w : World) (h : Ints B w v xs) (h2 : xs.length ≤ 1099511627776) :
    Calls Tryz.prog 152 #[v] w (FreshI xs w) := by
  obtain ⟨a, cap, rfl, hcap, hmax, hcells⟩ := h.opened
  clear h
  go_enter Tryz.func152, Tryz.ntmps152
  go_wp2_with (at_make; refine wpList_make_ints _ rfl _ _ rfl _ _ xs.length rfl rfl rfl rfl h2 ?_; intro w1 hown hb1 hs1)
  go_loopw [4] (fun i wr => ∃ k : Nat, k ≤ xs.length ∧ i = .int .i64 k ∧ OwnI w.heap.size wr (.slice (some ⟨w.heap.size, 0, none⟩) xs.length xs.length) (xs.take k ++ List.replicate (xs.length - k) 0) ∧ Below w.heap.size w wr) (fun i _ => xs.length - (intOf i).toNat)
  case atStart => exact ⟨0, Nat.zero_le _, rfl, by simpa using hown, hb1⟩
  case round =>
    obtain ⟨k, hk, rfl, ho, hb⟩ := hrel
    clear hown hb1
    by_cases hlt : k < xs.length
    · obtain ⟨b, off, rfl, _, hc⟩ := hcells (by omega)
      have hck := hc k hlt
      have hlt2 := World.block_lt_of_cell? w _ hck
      have hck2 : wr.cell? ⟨b, off + k, none⟩ = some (.int .i64 xs[k]) := (hb.cell (by exact hlt2)).trans hck
      have hl : (xs.take k ++ List.replicate (xs.length - k) 0).length = xs.length := by simp; omega
      obtain ⟨⟨u0, hc1⟩, hf1⟩ := ho.at k (by omega)
      have HO := Lib.hid (ho.set k xs[k])
      have HB := Lib.hid (hb.setCell (p := ⟨w.heap.size, k, none⟩) (Nat.le_refl _) (.int .i64 xs[k]))
      have HC := Lib.hid (copy_step hlt rfl)
      clear hl hc hcells hck ho hb
      go_wp2
      go_roundw
      case rel => exact ⟨k + 1, by omega, by go_num, by rw [← HC.out]; exact HO.out, HB.out⟩
      case measure => simp [intOf]; omega
    · have e : k = xs.length := by omega
      have HO := Lib.hid (show OwnI w.heap.size wr (.slice (some ⟨w.heap.size, 0, none⟩) xs.length xs.length) xs by simpa [e] using ho)
      have HB := Lib.hid hb
      clear ho e hb
      go_wp2
      go_ret
      exact ⟨_, _, rfl, HO.out, HB.out⟩

theorem mark_step {n k : Nat} {xs : List Int} {m : Int} (h : k < xs.length) (hn : n = xs.length) : (markL k m ++ xs.drop k).set k (m + (k : Int)) = markL (k + 1) m ++ xs.drop (k + 1) := by
  rw [List.set_append_right _ _ (by simp)]
  have e : k - (markL k m).length = 0 := by simp
  rw [e, List.drop_eq_getElem_cons h, List.set_cons_zero]
  simp [markL, List.range_succ]

/-- What a marking call leaves: the numbers of this slice alone are turned. -/
def Marked (B : Nat) (v : Value) (n : Nat) (m : Int) (w : World) (e : Ending) (w' : World) : Prop :=
  e = .returned (.int .i64 (m + (n : Int))) ∧ OwnI B w' v (markL n m) ∧ w.grownBy w' v.ownBlock

theorem markIntS_any {B : Nat} (v : Value) (xs : List Int) (m : Int) (w : World) (h : OwnI B w v xs) (h0 : 0 ≤ m) (h1 : m ≤ 1099511627776) (h2 : xs.length ≤ 1099511627776) :
    Calls Tryz.prog 119 #[v, .int .i64 m] w (Marked B v xs.length m w) := by
  by_cases hz : xs = []
  · subst hz
    obtain ⟨a, cap, rfl, _⟩ := own_shape h
    have HO := Lib.hid h
    clear h
    simp only [List.length_nil]
    go_enter Tryz.func119, Tryz.ntmps119
    go_wp2
    refine wp_loop_rounds 1 ?_; rw [rounds_succ]
    go_wp2
    go_ret
    exact ⟨ret_int (by simp), HO.out, World.grownBy.refl _ _⟩
  · have hp : 0 < xs.length := List.length_pos_iff.2 hz
    obtain ⟨g, cap, rfl, hBg, hgs, hcap, hmax⟩ := own_head h hp
    unfold maxLen at hmax
    go_enter Tryz.func119, Tryz.ntmps119
    go_wp2
    go_loopw [1, 5] (fun s i wr => ∃ k : Nat, k ≤ xs.length ∧ i = .int .i64 k ∧ s = .int .i64 (m + (k : Int)) ∧ OwnI B wr (.slice (some ⟨g, 0, none⟩) xs.length cap) (markL k m ++ xs.drop k) ∧ w.grownBy wr (some g)) (fun _ i _ => xs.length - (intOf i).toNat)
    case atStart => exact ⟨0, Nat.zero_le _, rfl, by simp, by simpa [markL] using h, World.grownBy.refl _ _⟩
    case round =>
      obtain ⟨k, hk, rfl, rfl, ho, hb⟩ := hrel
      clear h
      by_cases hlt : k < xs.length
      · obtain ⟨⟨u0, hc1⟩, hf1⟩ := ho.at k (by simp; omega)
        have HO := Lib.hid (ho.set k (m + (k : Int)))
        have HB := Lib.hid (hb.andThen (grownBy_setCell wr ⟨g, k, none⟩ (.int .i64 (m + (k : Int)))) (fun _ e => by cases e; exact .inr rfl))
        have HC := Lib.hid (mark_step (m := m) hlt rfl)
        clear ho hb
        go_wp2
        go_roundw
        case rel => exact ⟨k + 1, by omega, by go_num, by go_num, by rw [← HC.out]; exact HO.out, HB.out⟩
        case measure => simp [intOf]; omega
      · have e : k = xs.length := by omega
        have HO := Lib.hid (show OwnI B wr (.slice (some ⟨g, 0, none⟩) xs.length cap) (markL xs.length m) by simpa [e] using ho)
        have HB := Lib.hid hb
        have HE := Lib.hid e
        clear ho e hb
        go_wp2
        go_ret
        exact ⟨ret_int (by rw [HE.out]), HO.out, HB.out⟩

end Go.Proofs.YtenlngclocfnlaaGreatDoor

/- Slices of slices of ints: copied, compared, marked, measured. -/
namespace Go.Proofs.YtenlngclocfnlaaGreatDoor
open Go.RowKit
set_option linter.unusedVariables false

/-- The call returns a slice of slices of ints of its own. -/
def FreshII (xss : List (List Int)) (w : World) (e : Ending) (w' : World) : Prop := ∃ a cap, e = .returned (.slice a xss.length cap) ∧ OwnII w.heap.size w' (.slice a xss.length cap) xss ∧ Below w.heap.size w w'

theorem copy_step2 {α : Type} {xs : List α} {z : α} {k n : Nat} (h : k < xs.length) (hn : n = xs.length) : (xs.take k ++ List.replicate (n - k) z).set k xs[k] = xs.take (k + 1) ++ List.replicate (n - (k + 1)) z := by
  subst hn
  rw [List.take_succ_eq_append_getElem h, List.set_append_right _ _ (by rw [List.length_take]; omega)]
  have e : k - (xs.take k).length = 0 := by rw [List.length_take]; omega
  rw [e, show xs.length - k = (xs.length - (k + 1)) + 1 from by omega, List.replicate_succ, List.set_cons_zero, List.append_assoc]
  rfl

/-! ### Marks -/
def tot (xss : List (List Int)) : Nat := (xss.map List.length).sum
theorem tot_snoc {xss : List (List Int)} {k : Nat} (h : k < xss.length) : tot (xss.take (k + 1)) = tot (xss.take k) + xss[k].length := by
  unfold tot
  rw [List.take_succ_eq_append_getElem h]
  simp only [List.map_append, List.sum_append, List.map_cons, List.map_nil, List.sum_cons, List.sum_nil]
  omega
theorem tot_take_le (xss : List (List Int)) (k : Nat) : tot (xss.take k) ≤ tot xss := by
  have : tot (xss.take k) + tot (xss.drop k) = tot xss := by
    unfold tot
    rw [← List.sum_append, ← List.map_append, List.take_append_drop]
  omega

def markSS : List (List Int) → Int → List (List Int)
  | [], _ => []
  | x :: t, m => markL x.length m :: markSS t (m + (x.length : Int))

theorem markSS_length (xss : List (List Int)) (m : Int) : (markSS xss m).length = xss.length := by
  induction xss generalizing m with
  | nil => rfl
  | cons x t ih => simp [markSS, ih]
theorem markSS_append (xss yss : List (List Int)) (m : Int) : markSS (xss ++ yss) m = markSS xss m ++ markSS yss (m + (tot xss : Int)) := by
  induction xss generalizing m with
  | nil => simp [markSS, tot]
  | cons x t ih =>
    simp only [List.cons_append, markSS, ih, List.cons.injEq, true_and, List.append_cancel_left_eq]
    congr 1
    simp [tot]; omega

theorem mark2_step {xss : List (List Int)} {k : Nat} {m : Int} (h : k < xss.length) :
    (markSS (xss.take k) m ++ xss.drop k).set k (markL xss[k].length (m + (tot (xss.take k) : Int))) = markSS (xss.take (k + 1)) m ++ xss.drop (k + 1) := by
  rw [List.set_append_right _ _ (by rw [markSS_length]; simp; omega)]
  have e : k - (markSS (xss.take k) m).length = 0 := by rw [markSS_length]; simp; omega
  rw [e, List.drop_eq_getElem_cons h, List.set_cons_zero, List.take_succ_eq_append_getElem h, markSS_append]
  simp [markSS]

theorem mark2_get {xss : List (List Int)} {k : Nat} {m : Int} (h : k < xss.length) (h' : k < (markSS (xss.take k) m ++ xss.drop k).length) : (markSS (xss.take k) m ++ xss.drop k)[k] = xss[k] := by
  rw [List.getElem_append_right (by rw [markSS_length]; simp; omega)]
  have e : k - (markSS (xss.take k) m).length = 0 := by rw [markSS_length]; simp; omega
  simp [e]

/-- What a marking of rows leaves. -/
def MarkedII (B : Nat) (v : Value) (xss : List (List Int)) (m : Int) (w : World) (e : Ending) (w' : World) : Prop :=
  e = .returned (.int .i64 (m + (tot xss : Int))) ∧ OwnII B w' v (markSS xss m) ∧ Below B w w'

/-- What heldIntSS returns. -/
def heldSS : List (List Int) → Int → Int
  | [], k => k
  | x :: t, k => if heldL x k < 0 then -1 else heldSS t (heldL x k)

theorem heldL_mark (n : Nat) (m : Int) : heldL (markL n m) m = m + (n : Int) := by
  unfold heldL; simp
theorem heldSS_mark (xss : List (List Int)) (m : Int) (h : 0 ≤ m) : heldSS (markSS xss m) m = m + (tot xss : Int) := by
  induction xss generalizing m with
  | nil => simp [heldSS, markSS, tot]
  | cons x t ih =>
    rw [markSS, heldSS, heldL_mark, if_neg (by omega), ih _ (by omega)]
    simp [tot]; omega
theorem heldL_range (xs : List Int) (k : Int) : heldL xs k = -1 ∨ heldL xs k = k + xs.length := by
  unfold heldL; split <;> simp

/-- What szIntSS returns. -/
def szGo : List (List Int) → Int → Int
  | [], l => l
  | x :: t, l => if (x.length : Int) ≤ l then szGo t (l - (x.length : Int)) else -1
def szSS (xss : List (List Int)) (l : Int) : Int := if (xss.length : Int) ≤ l then szGo xss (l - (xss.length : Int)) else -1

theorem szGo_neg (xss : List (List Int)) : ∀ l, 0 ≤ l → 0 ≤ szGo xss l → szGo xss l = l - (tot xss : Int) := by
  induction xss with
  | nil => intro l _ _; simp [szGo, tot]
  | cons x t ih =>
    intro l h0 h
    rw [szGo] at h ⊢
    split at h
    · rename_i hx
      rw [if_pos hx, ih _ (by omega) h]
      simp [tot]; omega
    · omega
theorem szSS_bound {xss : List (List Int)} {l : Int} (h : 0 ≤ szSS xss l) (hl : 0 ≤ l) : (xss.length : Int) + (tot xss : Int) ≤ l := by
  unfold szSS at h
  split at h
  · rename_i hx
    have := szGo_neg xss _ (by omega) h
    omega
  · omega
theorem tot_mem {xss : List (List Int)} {xs : List Int} (h : xs ∈ xss) : xs.length ≤ tot xss := by
  induction xss with
  | nil => simp at h
  | cons x t ih =>
    simp only [List.mem_cons] at h
    rcases h with rfl | h
    · simp [tot]
    · have := ih h
      simp [tot] at this ⊢; omega
theorem szSS_ge (xss : List (List Int)) (l : Int) (hl : 0 ≤ l) : -1 ≤ szSS xss l := by
  have key : ∀ (xss : List (List Int)) (l : Int), 0 ≤ l → -1 ≤ szGo xss l := by
    intro xss
    induction xss with
    | nil => intro l h; simp [szGo]; omega
    | cons x t ih => intro l h; rw [szGo]; split <;> first | exact ih _ (by omega) | omega
  unfold szSS
  split
  · exact key _ _ (by omega)
  · omega

end Go.Proofs.YtenlngclocfnlaaGreatDoor

/- Bits of an int. No walk. -/
namespace Go.Proofs.YtenlngclocfnlaaGreatDoor
open Go.RowKit
set_option linter.unusedVariables false

theorem wrap_nat64 (a : Nat) (ha : a < 9223372036854775808) : IntKind.i64.wrap (a : Int) = a := by
  rw [IntKind.wrap_i64]; omega
theorem i64_and_nat (a b : Nat) (ha : a < 9223372036854775808) (hb : b < 9223372036854775808) : bits .and .i64 (a : Int) (b : Int) = ((a &&& b : Nat) : Int) := by
  have hx : a &&& b < 2 ^ 63 := Nat.and_lt_two_pow _ (by omega)
  show IntKind.i64.wrap ((BitVec.ofInt 64 (a : Int) &&& BitVec.ofInt 64 (b : Int)).toNat : Int) = _
  rw [BitVec.toNat_and, ofInt_u64 a (by omega), ofInt_u64 b (by omega), wrap_nat64 _ (by omega)]
theorem i64_or_nat (a b : Nat) (ha : a < 9223372036854775808) (hb : b < 9223372036854775808) : bits .or .i64 (a : Int) (b : Int) = ((a ||| b : Nat) : Int) := by
  have hx : a ||| b < 2 ^ 63 := Nat.or_lt_two_pow (by omega) (by omega)
  show IntKind.i64.wrap ((BitVec.ofInt 64 (a : Int) ||| BitVec.ofInt 64 (b : Int)).toNat : Int) = _
  rw [BitVec.toNat_or, ofInt_u64 a (by omega), ofInt_u64 b (by omega), wrap_nat64 _ (by omega)]
theorem i64_xor_nat (a b : Nat) (ha : a < 9223372036854775808) (hb : b < 9223372036854775808) : bits .xor .i64 (a : Int) (b : Int) = ((a ^^^ b : Nat) : Int) := by
  have hx : a ^^^ b < 2 ^ 63 := Nat.xor_lt_two_pow (by omega) (by omega)
  show IntKind.i64.wrap ((BitVec.ofInt 64 (a : Int) ^^^ BitVec.ofInt 64 (b : Int)).toNat : Int) = _
  rw [BitVec.toNat_xor, ofInt_u64 a (by omega), ofInt_u64 b (by omega), wrap_nat64 _ (by omega)]

def bitN (L k : Nat) : Bool := L / 2 ^ k % 2 == 1
theorem shr_cast (L k : Nat) : (L : Int) / 2 ^ k = ((L / 2 ^ k : Nat) : Int) := by simp
theorem bit_and (L k : Nat) (hL : L < 9223372036854775808) : (bits .and .i64 ((L : Int) / 2 ^ k) 1 == 1) = bitN L k := by
  have h1 : L / 2 ^ k ≤ L := Nat.div_le_self _ _
  rw [shr_cast, show (1 : Int) = ((1 : Nat) : Int) from rfl, i64_and_nat _ _ (by omega) (by omega), nat_mask1]
  unfold bitN
  generalize L / 2 ^ k = m
  rw [Bool.eq_iff_iff, beq_iff_eq, beq_iff_eq]; omega
theorem bit_mod (L k : Nat) : ((L : Int) / 2 ^ k % 2 == 1) = bitN L k := by
  rw [shr_cast]
  unfold bitN
  generalize L / 2 ^ k = m
  rw [Bool.eq_iff_iff, beq_iff_eq, beq_iff_eq]; omega

/-- The sum of the powers of all k below n at which f holds. -/
def lotN (f : Nat → Bool) : Nat → Nat
  | 0 => 0
  | n + 1 => lotN f n + if f n then 2 ^ n else 0
theorem lotN_lt (f : Nat → Bool) (n : Nat) : lotN f n < 2 ^ n := by
  induction n with
  | zero => simp [lotN]
  | succ n ih => rw [lotN, Nat.pow_succ]; split <;> omega
theorem lotN_hit {f : Nat → Bool} {k : Nat} (h : f k = true) : lotN f (k + 1) = lotN f k + 2 ^ k := by simp [lotN, h]
theorem lotN_miss {f : Nat → Bool} {k : Nat} (h : f k = false) : lotN f (k + 1) = lotN f k := by simp [lotN, h]
theorem pow_small {k : Nat} (hk : k ≤ 60) : 2 ^ k ≤ 1152921504606846976 := by
  have h : 2 ^ k ≤ 2 ^ 60 := Nat.pow_le_pow_right (by omega) hk
  have e : (2 : Nat) ^ 60 = 1152921504606846976 := by decide
  rwa [e] at h
theorem shl_cast {k : Nat} (hk : k ≤ 60) : wrap64 ((2 : Int) ^ k) = ((2 ^ k : Nat) : Int) := by
  have := pow_small hk
  have e : (2 : Int) ^ k = ((2 ^ k : Nat) : Int) := by simp
  rw [e]
  generalize 2 ^ k = m at *
  exact IntWalk.wrap64_in _ ⟨by omega, by omega⟩
theorem or_hit {f : Nat → Bool} {k : Nat} (hk : k ≤ 60) (h : f k = true) : bits .or .i64 (lotN f k : Nat) (wrap64 ((2 : Int) ^ k)) = (lotN f (k + 1) : Nat) := by
  have h1 := lotN_lt f k
  have h2 := pow_small hk
  rw [shl_cast hk, i64_or_nat _ _ (by omega) (by omega), lotN_hit h, Nat.or_comm, nat_join k _ _ (Nat.mod_self _) h1]
  omega
theorem add_hit {f : Nat → Bool} {k : Nat} (hk : k ≤ 60) (h : f k = true) : wrap64 ((lotN f k : Nat) + wrap64 ((2 : Int) ^ k)) = (lotN f (k + 1) : Nat) := by
  have h1 := lotN_lt f k
  have h2 := pow_small hk
  rw [shl_cast hk, lotN_hit h, IntWalk.wrap64_in _ ⟨by omega, by omega⟩]
  omega

end Go.Proofs.YtenlngclocfnlaaGreatDoor
