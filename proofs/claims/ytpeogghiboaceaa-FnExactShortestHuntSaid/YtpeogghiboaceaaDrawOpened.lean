/- The drawn rows of boxes with opened ones. -/
import Derived.Test.YtpeogghiboaceaaDrawAfter
import Derived.Test.YtpeogghiboaceaaShort
namespace Go.Proofs.Ytpeogghiboaceaa
open Go.RowKit
set_option linter.unusedVariables false

theorem hunt_small {xss : List (List Int)} {l : List Int} {ok : Bool} (h : HuntIs xss l ok) : l.length ≤ 16 ∧ ∀ y ∈ l, In64 y := by
  rcases h with ⟨hb, rfl, w, hw, rfl⟩ | ⟨rfl, rfl, _⟩
  · have hn := (besideB_spec hb).1
    refine ⟨by rw [toI_length]; exact hw.2.2.1, fun y hy => ?_⟩
    obtain ⟨b, hb, rfl⟩ := List.mem_map.1 hy
    have := hw.1 b hb
    unfold In64; omega
  · exact ⟨by simp, by simp⟩

/-- The opened boxes so far, m of them, lie in memory that is younger than world w2; the reader stands at q at most. -/
def OpW (w w2 : World) (K : Nat) (a : Option Addr) (cap : Nat) (bs : List Int) (q : Int) (ao : Option Addr) (m co : Nat) (wi : World) : Prop :=
  ∃ ys, ys.length = m ∧ (∀ y ∈ ys, In64 y) ∧ OwnI w2.heap.size wi (.slice ao m co) ys ∧ Above w.heap.size w2 wi ∧ (∃ p', Rd wi K a cap bs p' ∧ p' ≤ q) ∧ w.grownBy wi (some K) ∧ w2.heap.size ≤ wi.heap.size

theorem Above.trans' {B : Nat} {w2 wi w5 : World} (h : Above B w2 wi) (hz : w2.heap.size ≤ wi.heap.size) (h' : Above B wi w5) : Above B w2 w5 := fun b h1 h2 => (h' b h1 (by omega)).trans (h b h1 h2)
theorem OpW.pick {w w2 wi : World} {K : Nat} {a : Option Addr} {cap : Nat} {bs : List Int} {q n : Int} {ao : Option Addr} {m co : Nat} (hz : w.heap.size ≤ w2.heap.size) (h : OpW w w2 K a cap bs q ao m co wi) (hK : K < w.heap.size) (hq : q ≤ 1000000) (hn : In64 n) :
    Calls Try.prog 77 #[.pointer (some ⟨K, 0, none⟩), .int .i64 n] wi fun e w' => ∃ r, e = .returned (.int .i64 r) ∧ 0 ≤ r ∧ (1 ≤ n → r < n) ∧ OpW w w2 K a cap bs (q + 1) ao m co w' := by
  obtain ⟨ys, h1, h2, h3, h4, ⟨p, h5, h6⟩, h7, h8⟩ := h
  refine (pick_any n _ K a cap bs p h5 (by omega) hn).mono ?_
  rintro e w' ⟨r, rfl, hr0, hr1, ⟨p', hR, hp⟩, hg⟩
  exact ⟨r, rfl, hr0, hr1, ys, h1, h2, h3.keep (Above.of_grown hg (by omega)), h4.trans' h8 (Above.of_grown hg hK), ⟨p', hR, by omega⟩, grown_trans h7 hg, by have := hg.size; omega⟩
theorem OpW.odd {w w2 wi : World} {K : Nat} {a : Option Addr} {cap : Nat} {bs : List Int} {q n : Int} {ao : Option Addr} {m co : Nat} (hz : w.heap.size ≤ w2.heap.size) (h : OpW w w2 K a cap bs q ao m co wi) (hK : K < w.heap.size) (hq : q ≤ 1000000) (hn : In64 n) :
    Calls Try.prog 99 #[.pointer (some ⟨K, 0, none⟩), .int .i64 n] wi fun e w' => ∃ b, e = .returned (.bool b) ∧ OpW w w2 K a cap bs (q + 1) ao m co w' := by
  obtain ⟨ys, h1, h2, h3, h4, ⟨p, h5, h6⟩, h7, h8⟩ := h
  refine (odd_any n _ K a cap bs p h5 (by omega) hn).mono ?_
  rintro e w' ⟨b, rfl, ⟨p', hR, hp⟩, hg⟩
  exact ⟨b, rfl, ys, h1, h2, h3.keep (Above.of_grown hg (by omega)), h4.trans' h8 (Above.of_grown hg hK), ⟨p', hR, by omega⟩, grown_trans h7 hg, by have := hg.size; omega⟩
theorem OpW.lit {w w2 wi : World} {K : Nat} {a : Option Addr} {cap : Nat} {bs : List Int} {q : Int} {ao : Option Addr} {m co : Nat} (h : OpW w w2 K a cap bs q ao m co wi) :
    OpW w w2 K a cap bs q (some ⟨wi.heap.size, 0, none⟩) 0 0 (wi.alloc (.cells #[] 3)) := by
  obtain ⟨ys, h1, h2, h3, h4, ⟨p, h5, h6⟩, h7, h8⟩ := h
  refine ⟨[], rfl, by simp, (OwnI.lit wi).mono h8, fun b h9 h10 => (Below.heap_alloc wi _ b (by omega)).trans (h4 b h9 h10), ⟨p, h5.below ((Below.refl _ _).alloc (Nat.le_refl _) _), h6⟩, h7.andThen (World.grownBy_alloc wi _ none) (fun _ e => by cases e), by simp; omega⟩
theorem OpW.own {w w2 wi : World} {K : Nat} {a : Option Addr} {cap : Nat} {bs : List Int} {q : Int} {ao : Option Addr} {m co : Nat} (h : OpW w w2 K a cap bs q ao m co wi) :
    ∃ ys, ys.length = m ∧ OwnI w2.heap.size wi (.slice ao m co) ys ∧ w2.heap.size ≤ wi.heap.size ∧
      ∀ (o : Obj) (x : Int) (w7 : World) (a' : Option Addr) (c' : Nat), In64 x → K < w.heap.size → w.heap.size ≤ w2.heap.size → OwnI w2.heap.size w7 (.slice a' (m + 1) c') (ys ++ [x]) → (wi.alloc o).grownBy w7 (Value.slice ao m co).ownBlock → OpW w w2 K a cap bs q a' (m + 1) c' w7 := by
  obtain ⟨ys, h1, h2, h3, h4, ⟨p, h5, h6⟩, h7, h8⟩ := h
  refine ⟨ys, h1, h3, h8, fun o x w7 a' c' hx hK hz ho hg => ?_⟩
  have hblk : ∀ j, (Value.slice ao m co).ownBlock = some j → w2.heap.size ≤ j := fun j hj => (World.ownsRow.lt h3 j hj).1
  have hsz := hg.size
  have hsa : (wi.alloc o).heap.size = wi.heap.size + 1 := by simp
  refine ⟨ys ++ [x], by simp [h1], fun y hy => ?_, ho, fun b h9 h10 => ?_, ⟨p, ?_, h6⟩, (h7.andThen (World.grownBy_alloc wi o none) (fun _ e => by cases e)).andThen hg (fun j hj => .inl (by have := hblk j hj; omega)), by omega⟩
  · rcases List.mem_append.1 hy with h | h
    · exact h2 y h
    · simp at h; rw [h]; exact hx
  · rw [hg.block b (by omega) (fun e => by have := hblk b e.symm; omega), Below.heap_alloc wi o b (by omega)]
    exact h4 b h9 h10
  · exact (h5.below ((Below.refl _ _).alloc (Nat.le_refl _) o)).grown hg (fun j hj => by have := hblk j hj; omega)

theorem OpW.later {w w2 wi : World} {K : Nat} {a : Option Addr} {cap : Nat} {bs : List Int} {q q' : Int} {ao : Option Addr} {m co : Nat} (h : OpW w w2 K a cap bs q ao m co wi) (hq : q ≤ q') : OpW w w2 K a cap bs q' ao m co wi := by
  obtain ⟨ys, h1, h2, h3, h4, ⟨p', h5, h6⟩, h7, h8⟩ := h
  exact ⟨ys, h1, h2, h3, h4, ⟨p', h5, by omega⟩, h7, h8⟩

/-- What a drawing of rows of boxes and opened ones leaves. -/
def OpenedDrawn (K : Nat) (a : Option Addr) (cap : Nat) (bs : List Int) (p n : Int) (w : World) (e : Ending) (w' : World) : Prop :=
  ∃ xss a' cap' ys a2 c2, e = .returned (.tuple #[.slice a' xss.length cap', .slice a2 ys.length c2]) ∧ Rows2 w.heap.size w' (.slice a' xss.length cap') xss ∧ xss.length ≤ 6 ∧ Ints w.heap.size w' (.slice a2 ys.length c2) ys ∧ ys.length ≤ 32 ∧ Drew K a cap bs p n w w'
theorem OpW.drawn {w w2 wi : World} {K : Nat} {a : Option Addr} {cap : Nat} {bs : List Int} {p q : Int} {ao a' : Option Addr} {m co cap' : Nat} {xss : List (List Int)} (h : OpW w w2 K a cap bs q ao m co wi) (hz : w.heap.size ≤ w2.heap.size) (hx : Rows2 w.heap.size w2 (.slice a' xss.length cap') xss) (hl : xss.length ≤ 6)
    (hm : m ≤ 32) (hq : q ≤ p + 200) : OpenedDrawn K a cap bs p 200 w (.returned (.tuple #[.slice a' xss.length cap', .slice ao m co])) wi := by
  obtain ⟨ys, h1, h2, h3, h4, ⟨p', h5, h6⟩, h7, h8⟩ := h
  subst h1
  exact ⟨xss, a', cap', ys, ao, co, rfl, hx.keep h4, hl, (h3.toInts h2).mono hz, hm, ⟨p', h5, by omega⟩, h7⟩

end Go.Proofs.Ytpeogghiboaceaa
