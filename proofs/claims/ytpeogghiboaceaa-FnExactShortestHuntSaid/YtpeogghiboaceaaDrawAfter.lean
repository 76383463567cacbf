/- The drawn rows of boxes of a code, with a set and a box. -/
import Derived.Test.YtpeogghiboaceaaDrawBeside
import Derived.Test.YtpeogghiboaceaaTabs
import Derived.Deep.RegionWith
namespace Go.Proofs.Ytpeogghiboaceaa
open Go.RowKit
set_option linter.unusedVariables false

/-- A call's result are few short rows that lie in new memory. -/
def BesOut (w : World) (e : Ending) (w' : World) : Prop :=
  ∃ xss a cap, e = .returned (.slice a xss.length cap) ∧ Rows2 w.heap.size w' (.slice a xss.length cap) xss ∧ xss.length ≤ 6 ∧ (∀ xs ∈ xss, xs.length ≤ 7) ∧ Below w.heap.size w w'

theorem pow_le64 {m : Nat} (h : m ≤ 6) : 1 ≤ 2 ^ m ∧ 2 ^ m ≤ 64 := by
  have h1 : 2 ^ m ≤ 2 ^ 6 := Nat.pow_le_pow_right (by omega) h
  have h2 : 0 < 2 ^ m := Nat.pow_pos (by omega)
  omega
/-- What DrawAfterDay gives. -/
def AfterOut (w : World) (e : Ending) (w' : World) : Prop :=
  ∃ xss a cap s o, e = .returned (.tuple #[.slice a xss.length cap, .int .i64 s, .int .i64 o]) ∧ Rows2 w.heap.size w' (.slice a xss.length cap) xss ∧ xss.length ≤ 6 ∧ Below w.heap.size w w'

theorem Rd.drew {w : World} {K : Nat} {a : Option Addr} {cap : Nat} {bs : List Int} {p : Int} (h : Rd w K a cap bs p) : Rd w.drew K a cap bs p := h.keep fun _ _ => rfl

/-- The drawn rows, and the reader at q at most. -/
def BesW (w : World) (K : Nat) (a : Option Addr) (cap : Nat) (bs : List Int) (q : Int) (v : Value) (xss : List (List Int)) (wi : World) : Prop :=
  Rows2 w.heap.size wi v xss ∧ (∃ p', Rd wi K a cap bs p' ∧ p' ≤ q) ∧ w.grownBy wi (some K)
theorem BesW.drew {w wi : World} {K : Nat} {a : Option Addr} {cap : Nat} {bs : List Int} {q : Int} {v : Value} {xss : List (List Int)} (h : BesW w K a cap bs q v xss wi) : BesW w K a cap bs q v xss wi.drew := by
  obtain ⟨h1, ⟨p, h2, h3⟩, h4⟩ := h
  exact ⟨h1.keep (fun _ _ _ => rfl), ⟨p, h2.drew, h3⟩, h4.os, h4.tape, h4.output, h4.size, h4.block⟩
theorem BesW.pick {w wi : World} {K : Nat} {a : Option Addr} {cap : Nat} {bs : List Int} {q n : Int} {v : Value} {xss : List (List Int)} (h : BesW w K a cap bs q v xss wi) (hK : K < w.heap.size) (hq : q ≤ 1000000) (hn : In64 n) :
    Calls Try.prog 77 #[.pointer (some ⟨K, 0, none⟩), .int .i64 n] wi fun e w' => ∃ r, e = .returned (.int .i64 r) ∧ 0 ≤ r ∧ (1 ≤ n → r < n) ∧ BesW w K a cap bs (q + 1) v xss w' := by
  obtain ⟨h1, ⟨p, h2, h3⟩, h4⟩ := h
  refine (pick_any n _ K a cap bs p h2 (by omega) hn).mono ?_
  rintro e w' ⟨r, rfl, hr0, hr1, ⟨p', hR, hp⟩, hg⟩
  exact ⟨r, rfl, hr0, hr1, h1.keep (Above.of_grown hg hK), ⟨p', hR, by omega⟩, grown_trans h4 hg⟩
theorem BesW.out {w w1 wi : World} {K : Nat} {a : Option Addr} {cap : Nat} {bs : List Int} {q : Int} {a' : Option Addr} {cap' : Nat} {xss : List (List Int)} (h : BesW w1 K a cap bs q (.slice a' xss.length cap') xss wi) (hb : Below w.heap.size w w1) (hK : w.heap.size ≤ K) (hl : xss.length ≤ 6) (s o : Int) :
    AfterOut w (.returned (.tuple #[.slice a' xss.length cap', .int .i64 s, .int .i64 o])) wi :=
  ⟨xss, a', cap', s, o, rfl, h.1.mono hb.size, hl, below_of_grown hb h.2.2 hK⟩

end Go.Proofs.Ytpeogghiboaceaa
