/- A region that draws its order and ends in one store (number z, which waits for all others) into a cell that the region also loads: the loads may be taken first, for what they read stands till the store. No walk. -/
import Derived.Test.YtenlngclocfnlaaDoorRows
import Derived.WalkKit
import Derived.Deep.RegionHeld3
namespace Go.Proofs.YtenlngclocfnlaaDoor
open Go Go.RowKit
set_option linter.unusedVariables false

section
variable {P : Program} {ops : Array Oper} {Q : Exit → Act → World → Prop} {md : Region.Mode} {S : World → Prop} {z : Nat}

/-- In whatever order; and S stands behind each operation but z. -/
def AnyZ (P : Program) (md : Region.Mode) (ops : Array Oper) (Q : Exit → Act → World → Prop) (S : World → Prop) (z : Nat) : Nat → Array Bool → Act → World → Prop
  | 0, done, a, w => Region.ready md ops done = [] ∧ Q .normal a w
  | n + 1, done, a, w => (Region.ready md ops done = [] → Q .normal a w) ∧
      ∀ j ∈ Region.ready md ops done, wpOp P ops Q j (fun b u => (j ≠ z → S u) ∧ AnyZ P md ops Q S z n (done.setIfInBounds j true) b u) a w

theorem AnyZ.any : ∀ (n : Nat) (done : Array Bool) (a : Act) (w : World), AnyZ P md ops Q S z n done a w → wpAny P md ops Q n done a w
  | 0, _, _, _, h => h
  | n + 1, _, _, _, h => ⟨h.1, fun j hj => wpOp_mono (fun b u q => AnyZ.any n _ b u q.2) (h.2 j hj)⟩

theorem unlisted_of_ready {done : Array Bool} {i : Nat} (h : i ∈ Region.ready md ops done) : done.getD i false = false := by
  have h0 := (mem_ready.1 h).1
  rcases Nat.lt_or_ge i done.size with q | q
  · simp [q] at h0 ⊢; exact h0
  · simp [Array.getElem?_eq_none q]

/-- An operation that yields wherever S stands, and for which z waits, may be taken first. -/
theorem AnyZ.early {i : Nat} {oi oz : Oper} {v : Value} (hi : ops[i]? = some oi) (hz : ops[z]? = some oz) (hwait : ∃ e ∈ oz.after, Region.binds md e = true ∧ e.on = i)
    (hsel : ∀ (j : Nat) (o : Oper) cs b, ops[j]? = some o → o.op ≠ .select cs b) (hQ : ∀ c a w, Q (.panic c) (a.put oi.dst v) w → Q (.panic c) a w) (n : Nat) :
    ∀ (done : Array Bool) (a : Act) (w : World), (∀ j oj, ops[j]? = some oj → j ≠ i → done.getD j true = false → (∀ e ∈ oj.after, Region.binds md e = true → e.on ≠ i) → oi.apart ops oj = true) →
      i ∈ Region.ready md ops done → YieldsIf P ops S oi v a → S w → AnyZ P md ops Q S z n (done.setIfInBounds i true) (a.put oi.dst v) w → AnyZ P md ops Q S z (n + 1) done a w := by
  induction n with
  | zero =>
    intro done a w _ hr hy hS H
    refine ⟨fun e => (by rw [e] at hr; cases hr), fun j hj => ?_⟩
    rcases Decidable.em (j = i) with rfl | hne
    · exact hy.wpOp hi hS ⟨fun _ => hS, H⟩
    · have := ready_mono hj hne
      rw [H.1] at this
      cases this
  | succ n ih =>
    intro done a w hfree hr hy hS H
    refine ⟨fun e => (by rw [e] at hr; cases hr), fun j hj => ?_⟩
    rcases Decidable.em (j = i) with rfl | hne
    · exact hy.wpOp hi hS ⟨fun _ => hS, H⟩
    · obtain ⟨hun, oj, hoj, hall⟩ := mem_ready.1 hj
      have hnot : ∀ e ∈ oj.after, Region.binds md e = true → e.on ≠ i := fun e he hb q => by
        have h1 := hall e he hb
        rw [q, unlisted_of_ready hr] at h1
        cases h1
      have hjz : j ≠ z := by
        rintro rfl
        obtain ⟨e, he, hb, q⟩ := hwait
        rw [hoj] at hz
        cases hz
        exact hnot e he hb q
      have h2 := wpOp_putIf hoj (hfree j oj hoj hne hun hnot) (fun cs b => hsel i oi cs b hi) (fun cs b => hsel j oj cs b hoj) hQ hy (H.2 j (ready_mono hj hne))
      refine wpOp_mono (fun b u q => ⟨fun _ => q.2.1 hjz, ih (done.setIfInBounds j true) b u ?_ (ready_mono hr (Ne.symm hne)) q.1 (q.2.1 hjz) ?_⟩) h2
      · intro k ok hk hki hkun hno
        refine hfree k ok hk hki ?_ hno
        rcases Decidable.em (j = k) with rfl | hjk
        · exact hun
        · rwa [getD_set_ne true hjk] at hkun
      · rw [Array.setIfInBounds_comm _ _ hne]
        exact q.2.2

/-- Does z wait for i? -/
def waitsB (md : Region.Mode) (ops : Array Oper) (z i : Nat) : Bool := match ops[z]? with
  | some o => o.after.any fun e => Region.binds md e && e.on == i
  | none => false

theorem AnyZ.take {i : Nat} {oi : Oper} {v : Value} {n : Nat} {done : Array Bool} {a : Act} {w : World} (hi : ops[i]? = some oi) (hz : waitsB md ops z i = true)
    (hs : Region.noSelect ops = true) (hf : Region.free md ops done i = true) (hr : (Region.ready md ops done).contains i = true)
    (hQ : ∀ c a w, Q (.panic c) (a.put oi.dst v) w → Q (.panic c) a w) (hy : YieldsIf P ops S oi v a) (hS : S w)
    (h : AnyZ P md ops Q S z n (done.setIfInBounds i true) (a.put oi.dst v) w) : AnyZ P md ops Q S z (n + 1) done a w := by
  unfold waitsB at hz
  split at hz
  · rename_i oz hoz
    obtain ⟨e, he, hb⟩ := Array.any_eq_true'.1 hz
    simp only [Bool.and_eq_true, beq_iff_eq] at hb
    exact AnyZ.early hi hoz ⟨e, he, hb⟩ (Region.noSelect_spec hs) hQ n done a w (Region.free_spec hi hf) (by simpa using hr) hy hS h
  · cases hz

/-- Just one operation may come up, and it is not z. -/
theorem AnyZ.one {j : Nat} {o : Oper} {n : Nat} {done : Array Bool} {a : Act} {w : World} (hr : Region.ready md ops done = [j]) (ho : ops[j]? = some o)
    (h : ∀ K : Act → World → Prop, Shut (∀ b u, S u → (S u → AnyZ P md ops Q S z n (done.setIfInBounds j true) b u) → K b u) →
      if Region.wanted o (yielded ops a.tmps) = true then Oper.wp P o a w K Q else K (a.put o.dst undef) w) : AnyZ P md ops Q S z (n + 1) done a w := by
  refine ⟨fun e => (by rw [hr] at e; cases e), fun k hk => ?_⟩
  rw [hr] at hk
  obtain rfl := List.mem_singleton.1 hk
  exact wpOp_step ho (fun K hK => h K (fun b u hS hW => hK b u ⟨fun _ => hS, hW hS⟩))

/-- The last operation, z, alone is left. -/
theorem AnyZ.last {o : Oper} {n : Nat} {done : Array Bool} {a : Act} {w : World} (hr : Region.ready md ops done = [z]) (ho : ops[z]? = some o) (he : Region.ready md ops (done.setIfInBounds z true) = [])
    (h : ∀ K : Act → World → Prop, Shut (∀ b u, Q .normal b u → K b u) → if Region.wanted o (yielded ops a.tmps) = true then Oper.wp P o a w K Q else K (a.put o.dst undef) w) : AnyZ P md ops Q S z (n + 1) done a w := by
  refine ⟨fun e => (by rw [hr] at e; cases e), fun k hk => ?_⟩
  rw [hr] at hk
  obtain rfl := List.mem_singleton.1 hk
  refine wpOp_step ho (fun K hK => h K (fun b u hW => hK b u ⟨fun e => absurd rfl e, ?_⟩))
  cases n with
  | zero => exact ⟨he, hW⟩
  | succ n => exact ⟨fun _ => hW, by rw [he]; simp⟩

theorem AnyZ.start {id : Nat} {a : Act} {w : World} (hm : P.follows .mixedOrders = true) (hS : S w.drew)
    (h : S w.drew → AnyZ P .any ops Q S z ops.size (Array.replicate ops.size false) a w.drew) : (Code.region id ops true).wp P Q a w :=
  wp_region_any hm (AnyZ.any _ _ _ _ (h hS))

end
end Go.Proofs.YtenlngclocfnlaaDoor
