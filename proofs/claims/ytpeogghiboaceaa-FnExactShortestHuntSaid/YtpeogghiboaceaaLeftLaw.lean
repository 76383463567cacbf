/- The walk of FnLeftAfter. -/
import Derived.Test.YtpeogghiboaceaaSurelyLaw
import Derived.BigQuiet
import Derived.Deep.Cut
namespace Go.Proofs.Ytpeogghiboaceaa
open Go.RowKit
set_option linter.unusedVariables false

/-- 'append(row, ys...)'. -/
theorem wpList_push_ints (w : World) {ops : Array Oper} {rest : List Oper} {o : Oper} {a : Act} {Q : Exit → Act → World → Prop}
    (hg : o.guard = none) (s x : Operand) (hop : o.op = Op.call { callee := Callee.builtin Builtin.append, args := #[s, x], argTypes := #[24, 24] })
    (B : Nat) (v : Value) (xs : List Int) (hs : a.eval s = v) (hown : OwnI B w v xs) (ad : Addr) (c : Nat) (ys : List Int) (hx : a.eval x = .slice (some ad) ys.length c) (hc : ∀ i (h : i < ys.length), w.cell? (ad.add i) = some (.int .i64 ys[i]))
    (hlen : xs.length + ys.length ≤ 1099511627776) (hB : B ≤ w.heap.size)
    (hK : ∀ a' cap' w', OwnI B w' (.slice a' (xs.length + ys.length) cap') (xs ++ ys) → w.grownBy w' v.ownBlock → wpList Try.prog ops Q rest (a.put o.dst (.slice a' (xs.length + ys.length) cap')) w') :
    wpList Try.prog ops Q (o :: rest) a w := by
  obtain ⟨i0, hi, hz0, hz1, hz2⟩ := info_parts infoInt
  refine wpList_append_own w hg s x 24 hop B 3 i0 (.int .i64 0) 1 8 Try.underlying24 hi hz0 hz1 hz2 rfl (by decide) v xs.length (ints xs) hs hown ad ys.length c (ints ys) hx (by simp) ?_ (by intro u hu; obtain ⟨y, _, rfl⟩ := List.mem_map.1 hu; simp [Value.oneCell']) (by unfold maxLen; omega) (by omega) hB ?_
  · intro j u hj
    have hlt : j < ys.length := by
      have := (List.getElem?_eq_some_iff.1 hj).1
      simpa using this
    have : (ints ys)[j]? = some (.int .i64 ys[j]) := by rw [List.getElem?_eq_getElem (by simpa using hlt)]; simp
    rw [this] at hj
    obtain rfl := Option.some.inj hj
    exact hc j hlt
  · intro v' w' h1 h2 _
    obtain ⟨a', cap', rfl, _⟩ := own_shape h1
    refine hK a' cap' w' ?_ h2
    unfold OwnI
    rw [ints_append]
    simpa [ints] using h1

/-- A world that has grown out of w. -/
structure Grown (w : World) where
  val : World
  ok : Below w.heap.size w val
instance (w : World) : Nonempty (Grown w) := ⟨⟨w, Below.refl _ _⟩⟩
/-- A region that draws its order, whose callees at most make memory: one walk serves every order. -/
theorem wp_region_grown {id : Nat} {Q : Exit → Act → World → Prop} {a : Act} {w : World} {l : List Oper} (hm : Try.prog.follows .mixedOrders = true) (hB : Region.lexB .any l.toArray = true)
    (h : wpQuiet Try.prog l.toArray (fun w' => ∃ z : Grown w, w' = z.val) (fun a' => ∀ w', (∃ z : Grown w, w' = z.val) → Q .normal a' w') l a) : (Code.region id l.toArray true).wp Try.prog Q a w :=
  wp_region_quiet (C := fun w' => ∃ z : Grown w, w' = z.val) hm hB ⟨⟨w.drewN 1, (show Drawn w (w.drewN 1) from ⟨1, rfl⟩).below⟩, rfl⟩ (by simpa using h)

theorem leftR_pos {xss : List (List Int)} {ys : List Int} (h : ¬ leftR xss ys < 0) : daysB xss ys = true ∧ leftR xss ys = (leftN xss ys ys.length : Nat) := by
  unfold leftR at h ⊢
  split at h
  · rename_i hd; exact ⟨hd, if_pos hd⟩
  · omega
theorem leftR_neg {xss : List (List Int)} {ys : List Int} (h : leftR xss ys < 0) : leftR xss ys = -1 := by
  unfold leftR at h ⊢
  split at h
  · exfalso; omega
  · rename_i hd; rw [if_neg hd]

end Go.Proofs.Ytpeogghiboaceaa
