/- The drawn rows of boxes: which ones is never asked; that they are read, are few, and lie in new memory. -/
import Derived.Test.YtpeogghiboaceaaDrawTable
import Derived.Test.YtpeogghiboaceaaInRing
import Derived.Deep.Cut
import Derived.Deep.CutBlock
namespace Go.Proofs.Ytpeogghiboaceaa
open Go.RowKit
set_option linter.unusedVariables false

theorem grown_under {w w1 w2 : World} {K B : Nat} (h : w.grownBy w1 (some K)) (hb : Below B w1 w2) (hB : w.heap.size ≤ B) : w.grownBy w2 (some K) :=
  ⟨hb.os.trans h.os, hb.tape.trans h.tape, hb.output.trans h.output, by have := hb.size; have := h.size; omega, fun b hbl hne => (hb.block b (by omega)).trans (h.block b hbl hne)⟩
theorem Rd.under {w w' : World} {K B : Nat} {a : Option Addr} {cap : Nat} {bs : List Int} {p : Int} (h : Rd w K a cap bs p) (hb : Below B w w') (hK : K < B) : Rd w' K a cap bs p :=
  h.keep fun b hbk => hb.block b (by omega)

/-- Square rows of numbers. -/
def Sq (n : Nat) (xss : List (List Int)) : Prop := xss.length = n ∧ ∀ xs ∈ xss, (∀ x ∈ xs, In64 x) ∧ xs.length = n
/-- The call's own square rows lie at block g; the reader stands at q at most. -/
def SqW (w : World) (K : Nat) (a : Option Addr) (cap : Nat) (bs : List Int) (q : Int) (g n co : Nat) (wi : World) : Prop :=
  ∃ xss, OwnII w.heap.size wi (.slice (some ⟨g, 0, none⟩) n co) xss ∧ Sq n xss ∧ (∃ p', Rd wi K a cap bs p' ∧ p' ≤ q) ∧ w.grownBy wi (some K)

theorem SqW.elem {w wi : World} {K : Nat} {a : Option Addr} {cap : Nat} {bs : List Int} {q : Int} {g n co : Nat} (hK : K < w.heap.size) (h : SqW w K a cap bs q g n co wi) {i j : Nat} (hi : i < n) (hj : j < n) :
    ∃ g' cap' x, wi.cell? ⟨g, i, none⟩ = some (.slice (some ⟨g', 0, none⟩) n cap') ∧ n ≤ cap' ∧ cap' ≤ 9223372036854775807 ∧ wi.cell? ⟨g', j, none⟩ = some (.int .i64 x) ∧ wi.frozen? ⟨g', j, none⟩ = false ∧
      SqW w K a cap bs q g n co (wi.setCell ⟨g', j, none⟩ (.int .i64 1)) := by
  obtain ⟨xss, ho, ⟨hl, hs⟩, ⟨p', hR, hp⟩, hg⟩ := h
  have hrow := hs xss[i] (List.getElem_mem (by omega))
  obtain ⟨g', cap', h1, h2, h3, h4, h5, h6, h7⟩ := ho.elem i (by omega) (by omega)
  rw [hrow.2] at h1 h3
  refine ⟨g', cap', _, h1, h3, h4, h5 j (by omega), h6 j, ⟨_, h7 j 1, ⟨by simpa using hl, fun xs hx => ?_⟩, ⟨p', ?_, hp⟩, ?_⟩⟩
  · rcases List.mem_or_eq_of_mem_set hx with hx | hx
    · exact hs xs hx
    · rw [hx]
      refine ⟨fun y hy => ?_, by rw [List.length_set]; exact hrow.2⟩
      rcases List.mem_or_eq_of_mem_set hy with hy | hy
      · exact hrow.1 y hy
      · rw [hy]; unfold In64; omega
  · exact (chain_step hK ⟨hg, hR⟩ (grownBy_setCell wi ⟨g', j, none⟩ (.int .i64 1)) (fun k hk => by cases hk; exact h2)).2
  · exact (chain_step hK ⟨hg, hR⟩ (grownBy_setCell wi ⟨g', j, none⟩ (.int .i64 1)) (fun k hk => by cases hk; exact h2)).1

theorem SqW.pick {w wi : World} {K : Nat} {a : Option Addr} {cap : Nat} {bs : List Int} {q : Int} {g n co : Nat} (hK : K < w.heap.size) (h : SqW w K a cap bs q g n co wi) :
    ∃ p', Rd wi K a cap bs p' ∧ p' ≤ q ∧ ∀ w2, Drew K a cap bs p' 1 wi w2 → SqW w K a cap bs (q + 1) g n co w2 := by
  obtain ⟨xss, ho, hs, ⟨p', hR, hp⟩, hg⟩ := h
  refine ⟨p', hR, hp, fun w2 ⟨⟨p2, hR2, hp2⟩, hg2⟩ => ⟨xss, ho.keep (Above.of_grown hg2 hK), hs, ⟨p2, hR2, by omega⟩, grown_trans hg hg2⟩⟩
theorem SqW.later {w wi : World} {K : Nat} {a : Option Addr} {cap : Nat} {bs : List Int} {q q' : Int} {g n co : Nat} (h : SqW w K a cap bs q g n co wi) (hq : q ≤ q') : SqW w K a cap bs q' g n co wi := by
  obtain ⟨xss, ho, hs, ⟨p', hR, hp⟩, hg⟩ := h
  exact ⟨xss, ho, hs, ⟨p', hR, by omega⟩, hg⟩

/-- What stands behind the switch. -/
def SqRel (w : World) (K : Nat) (a : Option Addr) (cap : Nat) (bs : List Int) (q : Int) (o : Value) (wx : World) : Prop :=
  ∃ g n co, o = .slice (some ⟨g, 0, none⟩) n co ∧ w.heap.size ≤ g ∧ 1 ≤ n ∧ n ≤ 6 ∧ SqW w K a cap bs q g n co wx
/-- So many rows of noughts. -/
def RepW (w : World) (K : Nat) (a : Option Addr) (cap : Nat) (bs : List Int) (p : Int) (m k : Nat) (ao : Option Addr) (co : Nat) (wi : World) : Prop :=
  OwnII w.heap.size wi (.slice ao k co) (List.replicate k (List.replicate m 0)) ∧ Rd wi K a cap bs p ∧ w.grownBy wi (some K)

theorem sq_line (n : Nat) (ring : Bool) : Sq n (lineR n ring) := by
  refine ⟨lineR_length n ring, fun xs hx => ?_⟩
  obtain ⟨i, hi, rfl⟩ := List.getElem_of_mem hx
  rw [lineR_get]
  refine ⟨fun x hx => ?_, rowR_length _ _ _⟩
  obtain ⟨k, hk, rfl⟩ := List.getElem_of_mem hx
  rw [rowR_get]
  unfold adjI In64
  split <;> omega

/-- What a drawing of rows of boxes leaves. -/
def BesideDrawn (K : Nat) (a : Option Addr) (cap : Nat) (bs : List Int) (p n : Int) (w : World) (e : Ending) (w' : World) : Prop :=
  ∃ xss a' cap', e = .returned (.slice a' xss.length cap') ∧ Rows2 w.heap.size w' (.slice a' xss.length cap') xss ∧ xss.length ≤ 6 ∧ (∀ xs ∈ xss, xs.length ≤ 7) ∧ Drew K a cap bs p n w w'

theorem SqW.drawn {w wi : World} {K : Nat} {a : Option Addr} {cap : Nat} {bs : List Int} {p q : Int} {g n co : Nat} (h : SqW w K a cap bs q g n co wi) (hn : n ≤ 6) (hq : q ≤ p + 100) :
    BesideDrawn K a cap bs p 100 w (.returned (.slice (some ⟨g, 0, none⟩) n co)) wi := by
  obtain ⟨xss, ho, ⟨hl, hs⟩, ⟨p', hR, hp⟩, hg⟩ := h
  refine ⟨xss, some ⟨g, 0, none⟩, co, by rw [hl], by rw [hl]; exact ho.rows (fun xs hx => (hs xs hx).1), by omega, fun xs hx => by have := (hs xs hx).2; omega, ⟨p', hR, by omega⟩, hg⟩

end Go.Proofs.Ytpeogghiboaceaa
