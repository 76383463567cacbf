/- A region that draws its order, whose operations each yield what a property of their own allows, wherever what they wait for has been yielded: each operation is looked at once, whatever the order. No walk. -/
import Derived.Test.YtenlngclocfnlaaDoorBunA
import Derived.WalkKit
import Derived.RegionTactic
namespace Go.Proofs.YtenlngclocfnlaaDoor
open Go Go.RowKit
set_option linter.unusedVariables false

/-- Which operation writes slot t. -/
def invIdx (dst : Nat → Nat) (n t : Nat) : Option Nat := (List.range n).find? fun i => dst i == t
theorem invIdx_some {dst : Nat → Nat} {n t k : Nat} (h : invIdx dst n t = some k) : dst k = t := by
  have := List.find?_some h
  simpa using this
def invSl (dst : Nat → Nat) (n : Nat) (done : Array Bool) (vs : Nat → Value) (t : Nat) (x : Value) : Value := match invIdx dst n t with
  | some k => if done.getD k false = true then vs k else x
  | none => x
def invL (dst : Nat → Nat) (n : Nat) (done : Array Bool) (vs : Nat → Value) : Nat → List Value → List Value
  | _, [] => []
  | t, x :: xs => invSl dst n done vs t x :: invL dst n done vs (t + 1) xs
theorem invL_get (dst : Nat → Nat) (n : Nat) (done : Array Bool) (vs : Nat → Value) : ∀ (l : List Value) (t j : Nat), (invL dst n done vs t l)[j]? = (l[j]?).map (invSl dst n done vs (t + j))
  | [], t, j => by simp [invL]
  | x :: xs, t, 0 => by simp [invL]
  | x :: xs, t, j + 1 => by
    simp only [invL, List.getElem?_cons_succ]
    rw [invL_get dst n done vs xs (t + 1) j, show t + 1 + j = t + (j + 1) by omega]
theorem invL_len (dst : Nat → Nat) (n : Nat) (done : Array Bool) (vs : Nat → Value) : ∀ (l : List Value) (t : Nat), (invL dst n done vs t l).length = l.length
  | [], t => rfl
  | x :: xs, t => by simp [invL, invL_len dst n done vs xs (t + 1)]
/-- The frame when the operations 'done' have yielded vs. -/
def invA (dst : Nat → Nat) (n : Nat) (a0 : Act) (done : Array Bool) (vs : Nat → Value) : Act := { a0 with tmps := (invL dst n done vs 0 a0.tmps.toList).toArray }
theorem invA_get (dst : Nat → Nat) (n : Nat) (a0 : Act) (done : Array Bool) (vs : Nat → Value) (t : Nat) : (invA dst n a0 done vs).tmps.getD t undef = match a0.tmps[t]? with
    | some x => invSl dst n done vs t x
    | none => undef := by
  unfold invA
  simp only [Array.getD_eq_getD_getElem?, List.getElem?_toArray, invL_get, Array.getElem?_toList, Nat.zero_add]
  cases a0.tmps[t]? <;> rfl
theorem invA_done {dst : Nat → Nat} {n : Nat} {a0 : Act} {done : Array Bool} {vs : Nat → Value} {k : Nat} (hi : invIdx dst n (dst k) = some k) (hs : dst k < a0.tmps.size) (hd : done.getD k false = true) :
    (invA dst n a0 done vs).tmps.getD (dst k) undef = vs k := by
  rw [invA_get, Array.getElem?_eq_getElem hs]
  simp only [invSl, hi, hd, if_true]
theorem invA_other {dst : Nat → Nat} {n : Nat} {a0 : Act} {done : Array Bool} {vs : Nat → Value} {t : Nat} (hi : invIdx dst n t = none) :
    (invA dst n a0 done vs).tmps.getD t undef = a0.tmps.getD t undef := by
  rw [invA_get]
  simp only [invSl, hi, Array.getD_eq_getD_getElem?]
  cases a0.tmps[t]? <;> rfl
theorem invA_put {dst : Nat → Nat} {n : Nat} {a0 : Act} {done : Array Bool} {vs : Nat → Value} {i : Nat} (hi : invIdx dst n (dst i) = some i) (hlt : i < done.size) (hd : done.getD i false = false) (v : Value) :
    (invA dst n a0 done vs).put (some (dst i)) v = invA dst n a0 (done.setIfInBounds i true) (fun k => if k = i then v else vs k) := by
  unfold invA Act.put
  simp only [List.setIfInBounds_toArray]
  congr 2
  refine List.ext_getElem? fun j => ?_
  rw [List.getElem?_set, invL_get, invL_get, invL_len, Array.length_toList]
  rcases Nat.lt_or_ge j a0.tmps.size with hj | hj
  · rw [Array.getElem?_toList, Array.getElem?_eq_getElem hj]
    simp only [Option.map_some, Nat.zero_add]
    by_cases e : dst i = j
    · subst e
      rw [if_pos rfl, if_pos hj]
      have h1 : (done.setIfInBounds i true).getD i false = true := by simp [hlt]
      simp only [invSl, hi, h1, if_true]
    · rw [if_neg e]
      congr 1
      unfold invSl
      rcases q : invIdx dst n j with _ | k
      · rfl
      · have hk : k ≠ i := by
          rintro rfl
          exact e (invIdx_some q)
        simp only
        rw [getD_set_ne false (Ne.symm hk), if_neg hk]
  · rw [Array.getElem?_toList, Array.getElem?_eq_none hj]
    split
    · rw [if_neg (by omega)]; rfl
    · rfl

/-- What an operation waits for. -/
def invDeps (o : Oper) : List Nat := (o.after.toList.filter (Region.binds .any)).map (·.on)
def invLeft (done : Array Bool) : Nat := (done.toList.filter (fun b => !b)).length
theorem invLeft_set {done : Array Bool} {i : Nat} (hlt : i < done.size) (h : done.getD i false = false) : invLeft (done.setIfInBounds i true) + 1 = invLeft done := by
  obtain ⟨l⟩ := done
  simp only [List.size_toArray] at hlt
  have h' : l[i] = false := by simpa [hlt] using h
  unfold invLeft
  simp only [List.setIfInBounds_toArray]
  clear h
  induction l generalizing i with
  | nil => simp at hlt
  | cons x xs ih =>
    cases i with
    | zero =>
      simp only [List.getElem_cons_zero] at h'
      subst h'
      simp
    | succ i =>
      simp only [List.getElem_cons_succ, List.length_cons] at h' hlt
      have := ih (i := i) (by omega) h'
      simp only [List.set_cons_succ]
      cases x <;> simp at this ⊢ <;> omega
theorem invLeft_pos {done : Array Bool} {i : Nat} (hlt : i < done.size) (h : done.getD i false = false) : 0 < invLeft done := by
  have := invLeft_set hlt h; omega

section
variable {P : Program} {l : List Oper} {Q : Exit → Act → World → Prop} {a0 : Act} {w0 : World} {dst : Nat → Nat} {Φ : Nat → Value → World → Prop}

/-- The state between two operations. -/
def InvS (l : List Oper) (a0 : Act) (w0 : World) (dst : Nat → Nat) (Φ : Nat → Value → World → Prop) (done : Array Bool) (a : Act) (w : World) : Prop :=
  done.size = l.length ∧ Below w0.heap.size w0 w ∧ ∃ vs, a = invA dst l.length a0 done vs ∧ ∀ k, k < l.length → done.getD k false = true → Φ k (vs k) w

theorem inv_all {done : Array Bool} (hs : done.size = l.length) (hdag : ∀ i (h : i < l.length), ∀ k ∈ invDeps l[i], k < i) (hr : Region.ready .any l.toArray done = []) : ∀ i, i < l.length → done.getD i false = true := by
  intro i
  induction i using Nat.strongRecOn with
  | ind i ih =>
    intro hi
    rcases q : done.getD i false with _ | _
    · exfalso
      have hm : i ∈ Region.ready .any l.toArray done := by
        refine mem_ready.2 ⟨?_, l[i], by simp [hi], fun e he hb => ?_⟩
        · have : i < done.size := by omega
          simp only [Array.getD_eq_getD_getElem?, Array.getElem?_eq_getElem this, Option.getD_some] at q ⊢
          exact q
        · have hk : e.on ∈ invDeps l[i] := List.mem_map.2 ⟨e, List.mem_filter.2 ⟨by simpa using he, hb⟩, rfl⟩
          exact ih _ (hdag i hi _ hk) (by have := hdag i hi _ hk; omega)
      rw [hr] at hm
      cases hm
    · rfl
theorem inv_full {done : Array Bool} (hs : done.size = l.length) (h : ∀ i, i < l.length → done.getD i false = true) : done = Array.replicate l.length true := by
  refine Array.ext (by simp [hs]) fun i h1 h2 => ?_
  have := h i (by omega)
  simp only [Array.getD_eq_getD_getElem?, Array.getElem?_eq_getElem h1, Option.getD_some] at this
  simp [this]
theorem inv_zero {done : Array Bool} (hs : done.size = l.length) (h : invLeft done = 0) : ∀ i, i < l.length → done.getD i false = true := by
  intro i hi
  rcases q : done.getD i false with _ | _
  · have := invLeft_pos (by omega) q; omega
  · rfl

theorem inv_any (hdst : ∀ i (h : i < l.length), l[i].dst = some (dst i)) (hinj : ∀ i, i < l.length → invIdx dst l.length (dst i) = some i) (hsz : ∀ i, i < l.length → dst i < a0.tmps.size) (hdag : ∀ i (h : i < l.length), ∀ k ∈ invDeps l[i], k < i)
    (hmono : ∀ k v w w', Φ k v w → Below w.heap.size w w' → Φ k v w')
    (hstep : ∀ i (h : i < l.length), ∀ (A : Act) (W : World), Below w0.heap.size w0 W → (∀ t, invIdx dst l.length t = none → A.tmps.getD t undef = a0.tmps.getD t undef) → (∀ k ∈ invDeps l[i], Φ k (A.tmps.getD (dst k) undef) W) →
      ∀ K : Act → World → Prop, Hid (∀ v W', Below W.heap.size W W' → Φ i v W' → K (A.put (some (dst i)) v) W') → if Region.wanted l[i] (yielded l.toArray A.tmps) = true then Oper.wp P l[i] A W K Q else K (A.put l[i].dst undef) W)
    (hend : ∀ vs W, Below w0.heap.size w0 W → (∀ k, k < l.length → Φ k (vs k) W) → Q .normal (invA dst l.length a0 (Array.replicate l.length true) vs) W) :
    ∀ (n : Nat) (done : Array Bool) (a : Act) (w : World), InvS l a0 w0 dst Φ done a w → invLeft done = n → wpAny P .any l.toArray Q n done a w := by
  have fin : ∀ (done : Array Bool) (a : Act) (w : World), InvS l a0 w0 dst Φ done a w → (∀ i, i < l.length → done.getD i false = true) → Q .normal a w := by
    rintro done a w ⟨hs, hB, vs, rfl, hv⟩ h
    have e := inv_full hs h
    rw [e]
    exact hend vs w hB fun k hk => hv k hk (h k hk)
  intro n
  induction n with
  | zero =>
    intro done a w hI hz
    have hall := inv_zero hI.1 hz
    refine ⟨?_, fin done a w hI hall⟩
    rcases q : Region.ready .any l.toArray done with _ | ⟨j, r⟩
    · rfl
    · exfalso
      have hj : j ∈ Region.ready .any l.toArray done := by rw [q]; simp
      obtain ⟨h1, o, h2, _⟩ := mem_ready.1 hj
      have hlt : j < l.length := by simpa using (Array.getElem?_eq_some_iff.1 h2).1
      have h3 := hall j hlt
      have h4 : j < done.size := by have := hI.1; omega
      simp only [Array.getD_eq_getD_getElem?, Array.getElem?_eq_getElem h4, Option.getD_some] at h1 h3
      rw [h1] at h3
      cases h3
  | succ n ih =>
    intro done a w hI hn
    refine ⟨fun hr => fin done a w hI (inv_all hI.1 hdag hr), fun i hi => ?_⟩
    obtain ⟨h1, o, h2, h3⟩ := mem_ready.1 hi
    have hlt : i < l.length := by simpa using (Array.getElem?_eq_some_iff.1 h2).1
    have ho : o = l[i] := by simpa [hlt] using h2.symm
    subst ho
    obtain ⟨hs, hB, vs, rfl, hv⟩ := hI
    have hls : i < done.size := by omega
    have hund : done.getD i false = false := by
      simp only [Array.getD_eq_getD_getElem?, Array.getElem?_eq_getElem hls, Option.getD_some] at h1 ⊢
      exact h1
    have hdep : ∀ k ∈ invDeps l[i], done.getD k false = true := by
      intro k hk
      obtain ⟨e, he, rfl⟩ := List.mem_map.1 hk
      obtain ⟨he1, he2⟩ := List.mem_filter.1 he
      exact h3 e (by simpa using he1) he2
    refine wpOp_step h2 fun K' hK' => ?_
    refine hstep i hlt _ w hB (fun t ht => invA_other ht) (fun k hk => ?_) K' (Lib.hid fun v W' hb hΦ => hK' _ _ ?_)
    · have hkl := hdag i hlt k hk
      have hd := hdep k hk
      rw [invA_done (hinj k (by omega)) (hsz k (by omega)) hd]
      exact hv k (by omega) hd
    · refine ih (done.setIfInBounds i true) _ W' ⟨by simpa using hs, hB.trans (hb.mono hB.size), fun k => if k = i then v else vs k, invA_put (hinj i hlt) hls hund v, fun k hk hd => ?_⟩ (by have := invLeft_set hls hund; omega)
      by_cases e : k = i
      · subst e
        simp only [if_true]
        exact hΦ
      · rw [getD_set_ne false (Ne.symm e)] at hd
        simp only [if_neg e]
        exact hmono k _ _ _ (hv k hk hd) hb

theorem invL_none (n : Nat) (done : Array Bool) (vs : Nat → Value) (hd : ∀ k, done.getD k false = false) : ∀ (l : List Value) (t : Nat), invL dst n done vs t l = l
  | [], t => rfl
  | x :: xs, t => by
    simp only [invL, invL_none n done vs hd xs (t + 1), List.cons.injEq, and_true]
    unfold invSl
    split
    · rw [hd]; simp
    · rfl
theorem invLeft_none (n : Nat) : invLeft (Array.replicate n false) = n := by simp [invLeft]

/-- The region is such. -/
def invChk (l : List Oper) (dst : Nat → Nat) (m : Nat) : Bool := (List.range l.length).all fun i => match l[i]? with
  | some o => o.dst == some (dst i) && (invIdx dst l.length (dst i) == some i && (decide (dst i < m) && (invDeps o).all (fun k => decide (k < i))))
  | none => false
theorem invChk_at {dst : Nat → Nat} {m i : Nat} (h : invChk l dst m = true) (hi : i < l.length) : l[i].dst = some (dst i) ∧ invIdx dst l.length (dst i) = some i ∧ dst i < m ∧ ∀ k ∈ invDeps l[i], k < i := by
  have := List.all_eq_true.1 h i (List.mem_range.2 hi)
  rw [List.getElem?_eq_getElem hi] at this
  simp only [Bool.and_eq_true, beq_iff_eq, decide_eq_true_eq, List.all_eq_true] at this
  exact this

/-- The region, each operation looked at once. -/
theorem wp_region_inv {id : Nat} (hm : P.follows .mixedOrders = true) (dst : Nat → Nat) (m : Nat) (Φ : Nat → Value → World → Prop) (hsz : a0.tmps.size = m) (hchk : invChk l dst m = true)
    (hmono : ∀ k v w w', Φ k v w → Below w.heap.size w w' → Φ k v w')
    (hstep : ∀ i o, l[i]? = some o → ∀ (A : Act) (W : World), Below w0.heap.size w0 W → (∀ t, invIdx dst l.length t = none → A.tmps.getD t undef = a0.tmps.getD t undef) → (∀ k, (invDeps o).contains k = true → Φ k (A.tmps.getD (dst k) undef) W) →
      ∀ K : Act → World → Prop, Hid (∀ v W', Below W.heap.size W W' → Φ i v W' → K (A.put (some (dst i)) v) W') → if Region.wanted o (yielded l.toArray A.tmps) = true then Oper.wp P o A W K Q else K (A.put o.dst undef) W)
    (hend : ∀ vs W, Below w0.heap.size w0 W → (∀ k, k < l.length → Φ k (vs k) W) → Q .normal (invA dst l.length a0 (Array.replicate l.length true) vs) W) : (Code.region id l.toArray true).wp P Q a0 w0 := by
  refine wp_region_any hm ?_
  have hnone : ∀ k, (Array.replicate l.toArray.size false).getD k false = false := fun k => by
    simp only [Array.getD_eq_getD_getElem?]
    rcases q : (Array.replicate l.toArray.size false)[k]? with _ | b
    · rfl
    · obtain ⟨_, q2⟩ := Array.getElem?_eq_some_iff.1 q
      simp at q2
      simp [← q2]
  refine inv_any (w0 := w0) (a0 := a0) (fun i h => (invChk_at hchk h).1) (fun i h => (invChk_at hchk h).2.1) (fun i h => by rw [hsz]; exact (invChk_at hchk h).2.2.1) (fun i h => (invChk_at hchk h).2.2.2) hmono
    (fun i h A W hB hA hD K hK => hstep i l[i] (List.getElem?_eq_getElem h) A W hB hA (fun k hk => hD k (by simpa using hk)) K hK) hend _ _ _ _ ⟨by simp, (Below.refl _ w0).drew, fun _ => undef, ?_, fun k _ hk => ?_⟩ (by simpa using invLeft_none l.length)
  · unfold invA
    rw [invL_none l.length _ _ hnone]
  · rw [hnone] at hk; cases hk
end

theorem invIdx_lt {dst : Nat → Nat} {n t k : Nat} (h : invIdx dst n t = some k) : k < n := List.mem_range.1 (List.mem_of_find?_eq_some h)
theorem invL_lit (dst : Nat → Nat) (n : Nat) (vs : Nat → Value) : ∀ (l : List Value) (t : Nat), invL dst n (Array.replicate n true) vs t l = List.zipWith (fun o x => match o with | some k => vs k | none => x) ((List.range' t l.length).map (invIdx dst n)) l
  | [], t => rfl
  | x :: xs, t => by
    rw [invL, invL_lit dst n vs xs (t + 1), List.length_cons, List.range'_succ, List.map_cons, List.zipWith_cons_cons]
    congr 1
    unfold invSl
    rcases q : invIdx dst n t with _ | k
    · rfl
    · have hk := invIdx_lt q
      simp [hk]
/-- The frame behind the region. -/
theorem invA_lit {dst : Nat → Nat} {n m : Nat} {a0 : Act} {vs : Nat → Value} (idxs : List (Option Nat)) (h : (List.range m).map (invIdx dst n) = idxs) (hs : a0.tmps.size = m) :
    invA dst n a0 (Array.replicate n true) vs = { a0 with tmps := (List.zipWith (fun o x => match o with | some k => vs k | none => x) idxs a0.tmps.toList).toArray } := by
  unfold invA
  rw [invL_lit, Array.length_toList, hs, ← List.range_eq_range', h]
end Go.Proofs.YtenlngclocfnlaaDoor
