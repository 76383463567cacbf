/- A law for regions that draw their order and end in one operation that waits for all others (a store, say): each operation is looked at once. No walk. -/
import Derived.Test.YtenlngclocfnlaaDoorInv
namespace Go.Proofs.YtenlngclocfnlaaDoor
open Go Go.RowKit
set_option linter.unusedVariables false

theorem invSl_same {dst : Nat → Nat} {n : Nat} {done done' : Array Bool} {vs : Nat → Value} (h : ∀ k, k < n → done.getD k false = done'.getD k false) (t : Nat) (x : Value) : invSl dst n done vs t x = invSl dst n done' vs t x := by
  unfold invSl
  rcases q : invIdx dst n t with _ | k
  · rfl
  · simp only [h k (invIdx_lt q)]
theorem invL_same {dst : Nat → Nat} {n : Nat} {done done' : Array Bool} {vs : Nat → Value} (h : ∀ k, k < n → done.getD k false = done'.getD k false) : ∀ (l : List Value) (t : Nat), invL dst n done vs t l = invL dst n done' vs t l
  | [], t => rfl
  | x :: xs, t => by
    simp only [invL, invL_same h xs (t + 1), invSl_same h t x]
theorem invA_same {dst : Nat → Nat} {n : Nat} {a0 : Act} {done done' : Array Bool} {vs : Nat → Value} (h : ∀ k, k < n → done.getD k false = done'.getD k false) : invA dst n a0 done vs = invA dst n a0 done' vs := by
  unfold invA
  rw [invL_same h]
theorem replicate_getD (n k : Nat) (h : k < n) : (Array.replicate n true).getD k false = true := by
  simp [h]

section
variable {P : Program} {l : List Oper} {Q : Exit → Act → World → Prop} {a0 : Act} {w0 : World} {dst : Nat → Nat} {Φ : Nat → Value → World → Prop} {n : Nat}

theorem ready_nil {done : Array Bool} (hs : done.size = l.length) (h : ∀ i, i < l.length → done.getD i false = true) : Region.ready .any l.toArray done = [] := by
  rcases q : Region.ready .any l.toArray done with _ | ⟨j, r⟩
  · rfl
  · exfalso
    have hj : j ∈ Region.ready .any l.toArray done := by rw [q]; simp
    obtain ⟨h1, o, h2, _⟩ := mem_ready.1 hj
    have hlt : j < l.length := by simpa using (Array.getElem?_eq_some_iff.1 h2).1
    have h3 := h j hlt
    have h4 : j < done.size := by omega
    simp only [Array.getD_eq_getD_getElem?, Array.getElem?_eq_getElem h4, Option.getD_some] at h1 h3
    rw [h1] at h3
    cases h3
theorem wpAny_done {done : Array Bool} {a : Act} {w : World} (hs : done.size = l.length) (h : ∀ i, i < l.length → done.getD i false = true) (hq : Q .normal a w) : ∀ c, wpAny P .any l.toArray Q c done a w
  | 0 => ⟨ready_nil hs h, hq⟩
  | c + 1 => ⟨fun _ => hq, fun i hi => by rw [ready_nil hs h] at hi; cases hi⟩

/-- The state between two operations; the last one is not done. -/
def InvE (l : List Oper) (a0 : Act) (w0 : World) (dst : Nat → Nat) (Φ : Nat → Value → World → Prop) (n : Nat) (done : Array Bool) (a : Act) (w : World) : Prop :=
  done.size = l.length ∧ done.getD n false = false ∧ Below w0.heap.size w0 w ∧ ∃ vs, a = invA dst n a0 done vs ∧ ∀ k, k < n → done.getD k false = true → Φ k (vs k) w

theorem inv_anyE (hn : l.length = n + 1) (hdst : ∀ i (h : i < l.length), i < n → l[i].dst = some (dst i)) (hinj : ∀ i, i < n → invIdx dst n (dst i) = some i) (hsz : ∀ i, i < n → dst i < a0.tmps.size) (hdag : ∀ i (h : i < l.length), ∀ k ∈ invDeps l[i], k < i) (hlast : ∀ (h : n < l.length), ∀ k, k < n → k ∈ invDeps l[n])
    (hmono : ∀ k v w w', Φ k v w → Below w.heap.size w w' → Φ k v w')
    (hstep : ∀ i (h : i < l.length), i < n → ∀ (A : Act) (W : World), Below w0.heap.size w0 W → (∀ t, invIdx dst n t = none → A.tmps.getD t undef = a0.tmps.getD t undef) → (∀ k ∈ invDeps l[i], Φ k (A.tmps.getD (dst k) undef) W) →
      ∀ K : Act → World → Prop, Hid (∀ v W', Below W.heap.size W W' → Φ i v W' → K (A.put (some (dst i)) v) W') → if Region.wanted l[i] (yielded l.toArray A.tmps) = true then Oper.wp P l[i] A W K Q else K (A.put l[i].dst undef) W)
    (hend : ∀ (h : n < l.length), ∀ vs W, Below w0.heap.size w0 W → (∀ k, k < n → Φ k (vs k) W) → ∀ A, A = invA dst n a0 (Array.replicate n true) vs → (∀ k, k < n → A.tmps.getD (dst k) undef = vs k) →
      ∀ K : Act → World → Prop, Hid (∀ a w, Q .normal a w → K a w) → if Region.wanted l[n] (yielded l.toArray A.tmps) = true then Oper.wp P l[n] A W K Q else K (A.put l[n].dst undef) W) :
    ∀ (c : Nat) (done : Array Bool) (a : Act) (w : World), InvE l a0 w0 dst Φ n done a w → invLeft done = c → wpAny P .any l.toArray Q c done a w := by
  intro c
  induction c with
  | zero =>
    intro done a w hI hz
    have h1 := inv_zero hI.1 hz n (by omega)
    rw [hI.2.1] at h1
    cases h1
  | succ c ih =>
    intro done a w hI hc
    refine ⟨fun hr => ?_, fun i hi => ?_⟩
    · have h1 := inv_all hI.1 hdag hr n (by omega)
      rw [hI.2.1] at h1
      cases h1
    · obtain ⟨h1, o, h2, h3⟩ := mem_ready.1 hi
      have hlt : i < l.length := by simpa using (Array.getElem?_eq_some_iff.1 h2).1
      have ho : o = l[i] := by simpa [hlt] using h2.symm
      subst ho
      obtain ⟨hs, hnf, hB, vs, rfl, hv⟩ := hI
      have hls : i < done.size := by omega
      have hund : done.getD i false = false := by
        simp only [Array.getD_eq_getD_getElem?, Array.getElem?_eq_getElem hls, Option.getD_some] at h1 ⊢
        exact h1
      have hdep : ∀ k ∈ invDeps l[i], done.getD k false = true := by
        intro k hk
        obtain ⟨e, he, rfl⟩ := List.mem_map.1 hk
        obtain ⟨he1, he2⟩ := List.mem_filter.1 he
        exact h3 e (by simpa using he1) he2
      by_cases hin : i = n
      · subst hin
        have hall : ∀ k, k < i → done.getD k false = true := fun k hk => hdep k (hlast hlt k hk)
        refine wpOp_step h2 fun K' hK' => ?_
        refine hend hlt vs w hB (fun k hk => hv k hk (hall k hk)) _ (invA_same fun k hk => by rw [hall k hk, replicate_getD _ _ hk]) (fun k hk => invA_done (hinj k hk) (hsz k hk) (hall k hk)) K' (Lib.hid fun a' w' hq => hK' _ _ ?_)
        refine wpAny_done (by simpa using hs) (fun j hj => ?_) hq c
        by_cases e : j = i
        · subst e; simp [hls]
        · rw [getD_set_ne false (Ne.symm e)]; exact hall j (by omega)
      · have hin' : i < n := by omega
        refine wpOp_step h2 fun K' hK' => ?_
        refine hstep i hlt hin' _ w hB (fun t ht => invA_other ht) (fun k hk => ?_) K' (Lib.hid fun v W' hb hΦ => hK' _ _ ?_)
        · have hkl := hdag i hlt k hk
          have hd := hdep k hk
          rw [invA_done (hinj k (by omega)) (hsz k (by omega)) hd]
          exact hv k (by omega) hd
        · refine ih (done.setIfInBounds i true) _ W' ⟨by simpa using hs, by rw [getD_set_ne false hin]; exact hnf, hB.trans (hb.mono hB.size), fun k => if k = i then v else vs k, invA_put (hinj i hin') hls hund v, fun k hk hd => ?_⟩ (by have := invLeft_set hls hund; omega)
          by_cases e : k = i
          · subst e
            simp only [if_true]
            exact hΦ
          · rw [getD_set_ne false (Ne.symm e)] at hd
            simp only [if_neg e]
            exact hmono k _ _ _ (hv k hk hd) hb

/-- The region is such. -/
def invChkE (l : List Oper) (dst : Nat → Nat) (n m : Nat) : Bool := l.length == n + 1 && ((List.range n).all (fun i => match l[i]? with
  | some o => o.dst == some (dst i) && (invIdx dst n (dst i) == some i && (decide (dst i < m) && (invDeps o).all (fun k => decide (k < i))))
  | none => false) && (match l[n]? with
  | some o => (invDeps o).all (fun k => decide (k < n)) && (List.range n).all (fun k => (invDeps o).contains k)
  | none => false))

/-- The region, each operation looked at once; the last one waits for all others. -/
theorem wp_region_invE {id : Nat} (hm : P.follows .mixedOrders = true) (dst : Nat → Nat) (n m : Nat) (Φ : Nat → Value → World → Prop) (hsz : a0.tmps.size = m) (hchk : invChkE l dst n m = true)
    (hmono : ∀ k v w w', Φ k v w → Below w.heap.size w w' → Φ k v w')
    (hstep : ∀ i o, i < n → l[i]? = some o → ∀ (A : Act) (W : World), Below w0.heap.size w0 W → (∀ t, invIdx dst n t = none → A.tmps.getD t undef = a0.tmps.getD t undef) → (∀ k, (invDeps o).contains k = true → Φ k (A.tmps.getD (dst k) undef) W) →
      ∀ K : Act → World → Prop, Hid (∀ v W', Below W.heap.size W W' → Φ i v W' → K (A.put (some (dst i)) v) W') → if Region.wanted o (yielded l.toArray A.tmps) = true then Oper.wp P o A W K Q else K (A.put o.dst undef) W)
    (hend : ∀ o, l[n]? = some o → ∀ vs W, Below w0.heap.size w0 W → (∀ k, k < n → Φ k (vs k) W) → ∀ A, A = invA dst n a0 (Array.replicate n true) vs → (∀ k, k < n → A.tmps.getD (dst k) undef = vs k) →
      ∀ K : Act → World → Prop, Hid (∀ a w, Q .normal a w → K a w) → if Region.wanted o (yielded l.toArray A.tmps) = true then Oper.wp P o A W K Q else K (A.put o.dst undef) W) : (Code.region id l.toArray true).wp P Q a0 w0 := by
  refine wp_region_any hm ?_
  unfold invChkE at hchk
  rw [Bool.and_eq_true, Bool.and_eq_true] at hchk
  obtain ⟨hc1, hc2, hc3⟩ := hchk
  have hn : l.length = n + 1 := by simpa using hc1
  have at' : ∀ i (h : i < l.length), i < n → l[i].dst = some (dst i) ∧ invIdx dst n (dst i) = some i ∧ dst i < m ∧ ∀ k ∈ invDeps l[i], k < i := by
    intro i h hi
    have := List.all_eq_true.1 hc2 i (List.mem_range.2 hi)
    rw [List.getElem?_eq_getElem h] at this
    simp only [Bool.and_eq_true, beq_iff_eq, decide_eq_true_eq, List.all_eq_true] at this
    exact this
  have hnl : n < l.length := by omega
  rw [List.getElem?_eq_getElem hnl] at hc3
  simp only [Bool.and_eq_true, decide_eq_true_eq, List.all_eq_true, List.mem_range, List.contains_iff_mem] at hc3
  have hnone : ∀ k, (Array.replicate l.toArray.size false).getD k false = false := fun k => by
    simp only [Array.getD_eq_getD_getElem?]
    rcases q : (Array.replicate l.toArray.size false)[k]? with _ | b
    · rfl
    · obtain ⟨_, q2⟩ := Array.getElem?_eq_some_iff.1 q
      simp at q2
      simp [← q2]
  refine inv_anyE (w0 := w0) (a0 := a0) hn (fun i h hi => (at' i h hi).1) (fun i hi => (at' i (by omega) hi).2.1) (fun i hi => by rw [hsz]; exact (at' i (by omega) hi).2.2.1) (fun i h => ?_) (fun h k hk => hc3.2 k hk) hmono
    (fun i h hi A W hB hA hD K hK => hstep i l[i] hi (List.getElem?_eq_getElem h) A W hB hA (fun k hk => hD k (by simpa using hk)) K hK) (fun h => hend l[n] (List.getElem?_eq_getElem h)) _ _ _ _ ⟨by simp, hnone n, (Below.refl _ w0).drew, fun _ => undef, ?_, fun k _ hk => ?_⟩ (by simpa using invLeft_none l.length)
  · by_cases e : i = n
    · subst e; exact hc3.1
    · exact (at' i h (by omega)).2.2.2
  · unfold invA
    rw [invL_none n _ _ hnone]
  · rw [hnone] at hk; cases hk
end
end Go.Proofs.YtenlngclocfnlaaDoor
