/- A region that draws its order, whose operations each yield what a property of their own allows, wherever what they wait for has been yielded: each operation is looked at once, whatever the order. No walk. -/
import Derived.Test.YtenlngclocfnlaaGreatDoorBunA
import Derived.WalkKit
import Derived.RegionTactic
import Derived.Test.YtenlngclocfnlaaGreatDoorBunN
import Derived.Test.YtenlngclocfnlaaGreatDoorBunO
import Derived.Test.YtenlngclocfnlaaGreatDoorBunD
import Derived.Test.YtenlngclocfnlaaGreatDoorShelf
import Derived.Deep.RegionHeld3
import Derived.Deep.DeepCutAuto
/- A region that draws its order, whose operations each yield what a property of their own allows, wherever what they wait for has been yielded: each operation is looked at once, whatever the order. No walk. -/
namespace Go.Proofs.YtenlngclocfnlaaGreatDoor
open Go Go.RowKit
set_option linter.unusedVariables false

/-- Which operation writes slot t. -/
def invIdx (dst : Nat → Nat) (n t : Nat) : Option Nat := (List.range n).find? fun i => dst i == t
theorem invIdx_some {dst : Nat → Nat} {n t k : Nat} (h : invIdx dst n t = some k) : dst k = t := by
  have := List.find?_some h
  simpa using this
def invSl (dst : Nat → Nat) (n : Nat) (done : Array Bool) (vs : Nat → Value) (t : Nat) (x : Value) : Value := match invIdx dst n t with
  | some k => if done.getD k false = true then vs k else x
  | none => x
def invL (dst : Nat → Nat) (n : Nat) (done : Array Bool) (vs : Nat → Value) : Nat → List Value → List Value
  | _, [] => []
  | t, x :: xs => invSl dst n done vs t x :: invL dst n done vs (t + 1) xs
theorem invL_get (dst : Nat → Nat) (n : Nat) (done : Array Bool) (vs : Nat → Value) : ∀ (l : List Value) (t j : Nat), (invL dst n done vs t l)[j]? = (l[j]?).map (invSl dst n done vs (t + j))
  | [], t, j => by simp [invL]
  | x :: xs, t, 0 => by simp [invL]
  | x :: xs, t, j + 1 => by
    simp only [invL, List.getElem?_cons_succ]
    rw [invL_get dst n done vs xs (t + 1) j, show t + 1 + j = t + (j + 1) by omega]
theorem invL_len (dst : Nat → Nat) (n : Nat) (done : Array Bool) (vs : Nat → Value) : ∀ (l : List Value) (t : Nat), (invL dst n done vs t l).length = l.length
  | [], t => rfl
  | x :: xs, t => by simp [invL, invL_len dst n done vs xs (t + 1)]
/-- The frame when the operations 'done' have yielded vs. -/
def invA (dst : Nat → Nat) (n : Nat) (a0 : Act) (done : Array Bool) (vs : Nat → Value) : Act := { a0 with tmps := (invL dst n done vs 0 a0.tmps.toList).toArray }
theorem invA_get (dst : Nat → Nat) (n : Nat) (a0 : Act) (done : Array Bool) (vs : Nat → Value) (t : Nat) : (invA dst n a0 done vs).tmps.getD t undef = match a0.tmps[t]? with
    | some x => invSl dst n done vs t x
    | none => undef := by
  unfold invA
  simp only [Array.getD_eq_getD_getElem?, List.getElem?_toArray, invL_get, Array.getElem?_toList, Nat.zero_add]
  cases a0.tmps[t]? <;> rfl
theorem invA_done {dst : Nat → Nat} {n : Nat} {a0 : Act} {done : Array Bool} {vs : Nat → Value} {k : Nat} (hi : invIdx dst n (dst k) = some k) (hs : dst k < a0.tmps.size) (hd : done.getD k false = true) :
    (invA dst n a0 done vs).tmps.getD (dst k) undef = vs k := by
  rw [invA_get, Array.getElem?_eq_getElem hs]
  simp only [invSl, hi, hd, if_true]
theorem invA_other {dst : Nat → Nat} {n : Nat} {a0 : Act} {done : Array Bool} {vs : Nat → Value} {t : Nat} (hi : invIdx dst n t = none) :
    (invA dst n a0 done vs).tmps.getD t undef = a0.tmps.getD t undef := by
  rw [invA_get]
  simp only [invSl, hi, Array.getD_eq_getD_getElem?]
  cases a0.tmps[t]? <;> rfl
theorem invA_put {dst : Nat → Nat} {n : Nat} {a0 : Act} {done : Array Bool} {vs : Nat → Value} {i : Nat} (hi : invIdx dst n (dst i) = some i) (hlt : i < done.size) (hd : done.getD i false = false) (v : Value) :
    (invA dst n a0 done vs).put (some (dst i)) v = invA dst n a0 (done.setIfInBounds i true) (fun k => if k = i then v else vs k) := by
  unfold invA Act.put
  simp only [List.setIfInBounds_toArray]
  congr 2
  refine List.ext_getElem? fun j => ?_
  rw [List.getElem?_set, invL_get, invL_get, invL_len, Array.length_toList]
  rcases Nat.lt_or_ge j a0.tmps.size with hj | hj
  · rw [Array.getElem?_toList, Array.getElem?_eq_getElem hj]
    simp only [Option.map_some, Nat.zero_add]
    by_cases e : dst i = j
    · subst e
      rw [if_pos rfl, if_pos hj]
      have h1 : (done.setIfInBounds i true).getD i false = true := by simp [hlt]
      simp only [invSl, hi, h1, if_true]
    · rw [if_neg e]
      congr 1
      unfold invSl
      rcases q : invIdx dst n j with _ | k
      · rfl
      · have hk : k ≠ i := by
          rintro rfl
          exact e (invIdx_some q)
        simp only
        rw [getD_set_ne false (Ne.symm hk), if_neg hk]
  · rw [Array.getElem?_toList, Array.getElem?_eq_none hj]
    split
    · rw [if_neg (by omega)]; rfl
    · rfl

/-- What an operation waits for. -/
def invDeps (o : Oper) : List Nat := (o.after.toList.filter (Region.binds .any)).map (·.on)
def invLeft (done : Array Bool) : Nat := (done.toList.filter (fun b => !b)).length
theorem invLeft_set {done : Array Bool} {i : Nat} (hlt : i < done.size) (h : done.getD i false = false) : invLeft (done.setIfInBounds i true) + 1 = invLeft done := by
  obtain ⟨l⟩ := done
  simp only [List.size_toArray] at hlt
  have h' : l[i] = false := by simpa [hlt] using h
  unfold invLeft
  simp only [List.setIfInBounds_toArray]
  clear h
  induction l generalizing i with
  | nil => simp at hlt
  | cons x xs ih =>
    cases i with
    | zero =>
      simp only [List.getElem_cons_zero] at h'
      subst h'
      simp
    | succ i =>
      simp only [List.getElem_cons_succ, List.length_cons] at h' hlt
      have := ih (i := i) (by omega) h'
      simp only [List.set_cons_succ]
      cases x <;> simp at this ⊢ <;> omega
theorem invLeft_pos {done : Array Bool} {i : Nat} (hlt : i < done.size) (h : done.getD i false = false) : 0 < invLeft done := by
  have := invLeft_set hlt h; omega

section
variable {P : Program} {l : List Oper} {Q : Exit → Act → World → Prop} {a0 : Act} {w0 : World} {dst : Nat → Nat} {Φ : Nat → Value → World → Prop}

/-- The state between two operations. -/
def InvS (l : List Oper) (a0 : Act) (w0 : World) (dst : Nat → Nat) (Φ : Nat → Value → World → Prop) (done : Array Bool) (a : Act) (w : World) : Prop :=
  done.size = l.length ∧ Below w0.heap.size w0 w ∧ ∃ vs, a = invA dst l.length a0 done vs ∧ ∀ k, k < l.length → done.getD k false = true → Φ k (vs k) w

theorem inv_all {done : Array Bool} (hs : done.size = l.length) (hdag : ∀ i (h : i < l.length), ∀ k ∈ invDeps l[i], k < i) (hr : Region.ready .any l.toArray done = []) : ∀ i, i < l.length → done.getD i false = true := by
  intro i
  induction i using Nat.strongRecOn with
  | ind i ih =>
    intro hi
    rcases q : done.getD i false with _ | _
    · exfalso
      have hm : i ∈ Region.ready .any l.toArray done := by
        refine mem_ready.2 ⟨?_, l[i], by simp [hi], fun e he hb => ?_⟩
        · have : i < done.size := by omega
          simp only [Array.getD_eq_getD_getElem?, Array.getElem?_eq_getElem this, Option.getD_some] at q ⊢
          exact q
        · have hk : e.on ∈ invDeps l[i] := List.mem_map.2 ⟨e, List.mem_filter.2 ⟨by simpa using he, hb⟩, rfl⟩
          exact ih _ (hdag i hi _ hk) (by have := hdag i hi _ hk; omega)
      rw [hr] at hm
      cases hm
    · rfl
theorem inv_full {done : Array Bool} (hs : done.size = l.length) (h : ∀ i, i < l.length → done.getD i false = true) : done = Array.replicate l.length true := by
  refine Array.ext (by simp [hs]) fun i h1 h2 => ?_
  have := h i (by omega)
  simp only [Array.getD_eq_getD_getElem?, Array.getElem?_eq_getElem h1, Option.getD_some] at this
  simp [this]
theorem inv_zero {done : Array Bool} (hs : done.size = l.length) (h : invLeft done = 0) : ∀ i, i < l.length → done.getD i false = true := by
  intro i hi
  rcases q : done.getD i false with _ | _
  · have := invLeft_pos (by omega) q; omega
  · rfl

theorem inv_any (hdst : ∀ i (h : i < l.length), l[i].dst = some (dst i)) (hinj : ∀ i, i < l.length → invIdx dst l.length (dst i) = some i) (hsz : ∀ i, i < l.length → dst i < a0.tmps.size) (hdag : ∀ i (h : i < l.length), ∀ k ∈ invDeps l[i], k < i)
    (hmono : ∀ k v w w', Φ k v w → Below w.heap.size w w' → Φ k v w')
    (hstep : ∀ i (h : i < l.length), ∀ (A : Act) (W : World), Below w0.heap.size w0 W → (∀ t, invIdx dst l.length t = none → A.tmps.getD t undef = a0.tmps.getD t undef) → (∀ k ∈ invDeps l[i], Φ k (A.tmps.getD (dst k) undef) W) →
      ∀ K : Act → World → Prop, Hid (∀ v W', Below W.heap.size W W' → Φ i v W' → K (A.put (some (dst i)) v) W') → if Region.wanted l[i] (yielded l.toArray A.tmps) = true then Oper.wp P l[i] A W K Q else K (A.put l[i].dst undef) W)
    (hend : ∀ vs W, Below w0.heap.size w0 W → (∀ k, k < l.length → Φ k (vs k) W) → Q .normal (invA dst l.length a0 (Array.replicate l.length true) vs) W) :
    ∀ (n : Nat) (done : Array Bool) (a : Act) (w : World), InvS l a0 w0 dst Φ done a w → invLeft done = n → wpAny P .any l.toArray Q n done a w := by
  have fin : ∀ (done : Array Bool) (a : Act) (w : World), InvS l a0 w0 dst Φ done a w → (∀ i, i < l.length → done.getD i false = true) → Q .normal a w := by
    rintro done a w ⟨hs, hB, vs, rfl, hv⟩ h
    have e := inv_full hs h
    rw [e]
    exact hend vs w hB fun k hk => hv k hk (h k hk)
  intro n
  induction n with
  | zero =>
    intro done a w hI hz
    have hall := inv_zero hI.1 hz
    refine ⟨?_, fin done a w hI hall⟩
    rcases q : Region.ready .any l.toArray done with _ | ⟨j, r⟩
    · rfl
    · exfalso
      have hj : j ∈ Region.ready .any l.toArray done := by rw [q]; simp
      obtain ⟨h1, o, h2, _⟩ := mem_ready.1 hj
      have hlt : j < l.length := by simpa using (Array.getElem?_eq_some_iff.1 h2).1
      have h3 := hall j hlt
      have h4 : j < done.size := by have := hI.1; omega
      simp only [Array.getD_eq_getD_getElem?, Array.getElem?_eq_getElem h4, Option.getD_some] at h1 h3
      rw [h1] at h3
      cases h3
  | succ n ih =>
    intro done a w hI hn
    refine ⟨fun hr => fin done a w hI (inv_all hI.1 hdag hr), fun i hi => ?_⟩
    obtain ⟨h1, o, h2, h3⟩ := mem_ready.1 hi
    have hlt : i < l.length := by simpa using (Array.getElem?_eq_some_iff.1 h2).1
    have ho : o = l[i] := by simpa [hlt] using h2.symm
    subst ho
    obtain ⟨hs, hB, vs, rfl, hv⟩ := hI
    have hls : i < done.size := by omega
    have hund : done.getD i false = false := by
      simp only [Array.getD_eq_getD_getElem?, Array.getElem?_eq_getElem hls, Option.getD_some] at h1 ⊢
      exact h1
    have hdep : ∀ k ∈ invDeps l[i], done.getD k false = true := by
      intro k hk
      obtain ⟨e, he, rfl⟩ := List.mem_map.1 hk
      obtain ⟨he1, he2⟩ := List.mem_filter.1 he
      exact h3 e (by simpa using he1) he2
    refine wpOp_step h2 fun K' hK' => ?_
    refine hstep i hlt _ w hB (fun t ht => invA_other ht) (fun k hk => ?_) K' (Lib.hid fun v W' hb hΦ => hK' _ _ ?_)
    · have hkl := hdag i hlt k hk
      have hd := hdep k hk
      rw [invA_done (hinj k (by omega)) (hsz k (by omega)) hd]
      exact hv k (by omega) hd
    · refine ih (done.setIfInBounds i true) _ W' ⟨by simpa using hs, hB.trans (hb.mono hB.size), fun k => if k = i then v else vs k, invA_put (hinj i hlt) hls hund v, fun k hk hd => ?_⟩ (by have := invLeft_set hls hund; omega)
      by_cases e : k = i
      · subst e
        simp only [if_true]
        exact hΦ
      · rw [getD_set_ne false (Ne.symm e)] at hd
        simp only [if_neg e]
        exact hmono k _ _ _ (hv k hk hd) hb

theorem invL_none (n : Nat) (done : Array Bool) (vs : Nat → Value) (hd : ∀ k, done.getD k false = false) : ∀ (l : List Value) (t : Nat), invL dst n done vs t l = l
  | [], t => rfl
  | x :: xs, t => by
    simp only [invL, invL_none n done vs hd xs (t + 1), List.cons.injEq, and_true]
    unfold invSl
    split
    · rw [hd]; simp
    · rfl
theorem invLeft_none (n : Nat) : invLeft (Array.replicate n false) = n := by simp [invLeft]

/-- The region is such. -/
def invChk (l : List Oper) (dst : Nat → Nat) (m : Nat) : Bool := (List.range l.length).all fun i => match l[i]? with
  | some o => o.dst == some (dst i) && (invIdx dst l.length (dst i) == some i && (decide (dst i < m) && (invDeps o).all (fun k => decide (k < i))))
  | none => false
theorem invChk_at {dst : Nat → Nat} {m i : Nat} (h : invChk l dst m = true) (hi : i < l.length) : l[i].dst = some (dst i) ∧ invIdx dst l.length (dst i) = some i ∧ dst i < m ∧ ∀ k ∈ invDeps l[i], k < i := by
  have := List.all_eq_true.1 h i (List.mem_range.2 hi)
  rw [List.getElem?_eq_getElem hi] at this
  simp only [Bool.and_eq_true, beq_iff_eq, decide_eq_true_eq, List.all_eq_true] at this
  exact this

/-- The region, each operation looked at once. -/
theorem wp_region_inv {id : Nat} (hm : P.follows .mixedOrders = true) (dst : Nat → Nat) (m : Nat) (Φ : Nat → Value → World → Prop) (hsz : a0.tmps.size = m) (hchk : invChk l dst m = true)
    (hmono : ∀ k v w w', Φ k v w → Below w.heap.size w w' → Φ k v w')
    (hstep : ∀ i o, l[i]? = some o → ∀ (A : Act) (W : World), Below w0.heap.size w0 W → (∀ t, invIdx dst l.length t = none → A.tmps.getD t undef = a0.tmps.getD t undef) → (∀ k, (invDeps o).contains k = true → Φ k (A.tmps.getD (dst k) undef) W) →
      ∀ K : Act → World → Prop, Hid (∀ v W', Below W.heap.size W W' → Φ i v W' → K (A.put (some (dst i)) v) W') → if Region.wanted o (yielded l.toArray A.tmps) = true then Oper.wp P o A W K Q else K (A.put o.dst undef) W)
    (hend : ∀ vs W, Below w0.heap.size w0 W → (∀ k, k < l.length → Φ k (vs k) W) → Q .normal (invA dst l.length a0 (Array.replicate l.length true) vs) W) : (Code.region id l.toArray true).wp P Q a0 w0 := by
  refine wp_region_any hm ?_
  have hnone : ∀ k, (Array.replicate l.toArray.size false).getD k false = false := fun k => by
    simp only [Array.getD_eq_getD_getElem?]
    rcases q : (Array.replicate l.toArray.size false)[k]? with _ | b
    · rfl
    · obtain ⟨_, q2⟩ := Array.getElem?_eq_some_iff.1 q
      simp at q2
      simp [← q2]
  refine inv_any (w0 := w0) (a0 := a0) (fun i h => (invChk_at hchk h).1) (fun i h => (invChk_at hchk h).2.1) (fun i h => by rw [hsz]; exact (invChk_at hchk h).2.2.1) (fun i h => (invChk_at hchk h).2.2.2) hmono
    (fun i h A W hB hA hD K hK => hstep i l[i] (List.getElem?_eq_getElem h) A W hB hA (fun k hk => hD k (by simpa using hk)) K hK) hend _ _ _ _ ⟨by simp, (Below.refl _ w0).drew, fun _ => undef, ?_, fun k _ hk => ?_⟩ (by simpa using invLeft_none l.length)
  · unfold invA
    rw [invL_none l.length _ _ hnone]
  · rw [hnone] at hk; cases hk
end

theorem invIdx_lt {dst : Nat → Nat} {n t k : Nat} (h : invIdx dst n t = some k) : k < n := List.mem_range.1 (List.mem_of_find?_eq_some h)
theorem invL_lit (dst : Nat → Nat) (n : Nat) (vs : Nat → Value) : ∀ (l : List Value) (t : Nat), invL dst n (Array.replicate n true) vs t l = List.zipWith (fun o x => match o with | some k => vs k | none => x) ((List.range' t l.length).map (invIdx dst n)) l
  | [], t => rfl
  | x :: xs, t => by
    rw [invL, invL_lit dst n vs xs (t + 1), List.length_cons, List.range'_succ, List.map_cons, List.zipWith_cons_cons]
    congr 1
    unfold invSl
    rcases q : invIdx dst n t with _ | k
    · rfl
    · have hk := invIdx_lt q
      simp [hk]
/-- The frame behind the region. -/
theorem invA_lit {dst : Nat → Nat} {n m : Nat} {a0 : Act} {vs : Nat → Value} (idxs : List (Option Nat)) (h : (List.range m).map (invIdx dst n) = idxs) (hs : a0.tmps.size = m) :
    invA dst n a0 (Array.replicate n true) vs = { a0 with tmps := (List.zipWith (fun o x => match o with | some k => vs k | none => x) idxs a0.tmps.toList).toArray } := by
  unfold invA
  rw [invL_lit, Array.length_toList, hs, ← List.range_eq_range', h]
end Go.Proofs.YtenlngclocfnlaaGreatDoor

/- The reference's JournalText. -/
namespace Go.Proofs.YtenlngclocfnlaaGreatDoor
open Go.RowKit
set_option linter.unusedVariables false
set_option maxRecDepth 100000

theorem cell_lt' {w : World} {b j : Nat} {v : Value} (h : w.cell? ⟨b, j, none⟩ = some v) : b < w.heap.size := by
  rcases Nat.lt_or_ge b w.heap.size with q | q
  · exact q
  · exfalso
    have e : w.heap[b]? = none := Array.getElem?_eq_none q
    simp [World.cell?, e] at h
theorem line_cat (L T : List UInt8) : (ByteArray.mk L.toArray ++ ByteArray.mk T.toArray ++ ByteArray.mk #[10]) = ByteArray.mk (L ++ T ++ [10]).toArray := by
  apply ByteArray.ext
  simp [ByteArray.data_append]
theorem textD_len (d : Dd) : (textD d).length ≤ 13 := by
  by_cases h : textD d = []
  · rw [h]; simp
  · rcases textD_cases h with rfl | ⟨_, h2, h3⟩
    · rw [textD_undo]; simp [wordBack]
    · rw [h3]
      have := (textOk_iff.1 h2).1
      simp [guessText, wordGuess]
      omega
theorem linesJ_len : ∀ ds : List Dd, (linesJ ds).length ≤ 14 * ds.length
  | [] => by simp [linesJ]
  | d :: ds => by
    have := linesJ_len ds
    have h2 := textD_len d
    rw [linesJ_cons, List.length_append, List.length_cons, List.length_cons]
    omega
theorem linesJ_next {ds : List Dd} {k : Nat} (h : k < ds.length) : linesJ (ds.take (k + 1)) = linesJ (ds.take k) ++ textD ds[k] ++ [10] := by
  rw [List.take_succ_eq_append_getElem h, linesJ_app]
  simp [linesJ]
theorem allText_next {ds : List Dd} {k : Nat} (h : k < ds.length) (ha : allText (ds.take k) = true) (hn : textD ds[k] ≠ []) : allText (ds.take (k + 1)) = true := by
  unfold allText at ha ⊢
  rw [List.take_succ_eq_append_getElem h, List.all_append, ha]
  simp [hn]
theorem textJ_none {ds : List Dd} {k : Nat} (h : k < ds.length) (hn : textD ds[k] = []) : textJ ds = [] := by
  rw [textJ_eq, if_neg]
  intro q
  have := List.all_eq_true.1 q ds[k] (List.getElem_mem h)
  simp [hn] at this
theorem textJ_all {ds : List Dd} (h : allText ds = true) : textJ ds = linesJ ds := by rw [textJ_eq, if_pos h]

set_option maxHeartbeats 2000000 in
theorem journalTextS_any {B : Nat} (v : Value) (ds : List Dd) (w : World) (h : DL B w v ds) (hl : ds.length ≤ 2000000) :
    Calls Tryz.prog 39 #[v] w (TextOut (textJ ds) w) := by
  obtain ⟨a, cap, V, rfl, hcap, hmax, hcells, hV⟩ := h
  have HCE := Lib.hid hcells
  have HV := Lib.hid hV
  clear hcells hV
  go_enter Tryz.func39, Tryz.ntmps39
  go_wp2
  go_loopw [3, 4] (fun s i wr => ∃ k : Nat, k ≤ ds.length ∧ i = .int .i64 k ∧ s = strV (linesJ (ds.take k)) ∧ allText (ds.take k) = true ∧ Below w.heap.size w wr) (fun _ i _ => ds.length - (intOf i).toNat)
  case atStart => exact ⟨0, Nat.zero_le _, rfl, rfl, rfl, Below.refl _ _⟩
  case round =>
    obtain ⟨k, hk, rfl, rfl, hall, hw⟩ := hrel
    obtain ⟨wk, rfl⟩ : ∃ x, x = wr := ⟨_, rfl⟩
    have HW := Lib.hid hw
    by_cases hlt : k < ds.length
    · obtain ⟨b, off, rfl, _, hcs⟩ := HCE.out (by omega)
      obtain ⟨c0, c1, c2, c3⟩ := hcs k hlt
      have q0 := (Above.of_below (B := 0) hw).cell (Nat.zero_le _) c0
      have q1 := (Above.of_below (B := 0) hw).cell (Nat.zero_le _) c1
      have q2 := (Above.of_below (B := 0) hw).cell (Nat.zero_le _) c2
      have q3 := (Above.of_below (B := 0) hw).cell (Nat.zero_le _) c3
      have hI := HV.out k hlt
      obtain ⟨av, cv, hvv, _⟩ := hI.opened
      have HNX := Lib.hid (linesJ_next hlt)
      have HAN := Lib.hid (allText_next hlt hall)
      have HNO := Lib.hid (textJ_none hlt)
      have hlen := linesJ_len (ds.take k)
      rw [List.length_take] at hlen
      have hlen2 := textD_len ds[k]
      obtain ⟨x, hx⟩ : ∃ x, x = ds[k] := ⟨_, rfl⟩
      rw [← hx] at q0 q2 q3 hI hvv HNX HAN HNO hlen2
      rw [hvv] at q1 hI
      have HD := Lib.hid (show ∀ W, Below w.heap.size w W → Calls Tryz.prog 79 #[.agg #[.bool x.back, .slice av x.code.length cv, .int .i64 x.right, .int .i64 x.near]] W (TextOut (textD x) W) from fun W q => deedTextS_any x.back _ x.code x.right x.near W (hI.below q))
      obtain ⟨T, hT⟩ : ∃ T, T = textD x := ⟨_, rfl⟩
      rw [← hT] at HD HNX HAN HNO hlen2
      obtain ⟨L, hL⟩ : ∃ L, L = linesJ (ds.take k) := ⟨_, rfl⟩
      rw [← hL] at HNX hlen ⊢
      have hzk := cell_lt' q0
      have hi0 : (0 : Int) ≤ (k : Int) := by omega
      have hi1 : (k : Int) < (ds.length : Int) := by omega
      have hb1 : L.length ≤ 30000000 := by omega
      clear hcs c0 c1 c2 c3 hvv hx hw hI hT hL hlen hall
      unfold strV
      cases T with
      | nil =>
        go_wp2_with fail
        refine (HD.out _ HW.out).mono ?_
        rintro e w2 ⟨rfl, hb2⟩
        have HB2 := Lib.hid (HW.out.trans (hb2.mono HW.out.size))
        clear hb2
        unfold strV
        go_wp2
        go_ret
        exact ⟨by rw [HNO.out (by first | rfl | trivial)]; rfl, HB2.out⟩
      | cons t T =>
        have hb3 : T.length ≤ 12 := by simpa using hlen2
        clear hlen2
        go_wp2_with fail
        refine (HD.out _ HW.out).mono ?_
        rintro e w2 ⟨rfl, hb2⟩
        have HB2 := Lib.hid (HW.out.trans (hb2.mono HW.out.size))
        have q0 := (hb2.cell hzk).trans q0
        have q1 := (hb2.cell hzk).trans q1
        have q2 := (hb2.cell hzk).trans q2
        have q3 := (hb2.cell hzk).trans q3
        clear hb2
        unfold strV
        go_wp2_with fail
        refine (HD.out _ HB2.out).mono ?_
        rintro e w3 ⟨rfl, hb3⟩
        have HB3 := Lib.hid (HB2.out.trans (hb3.mono HB2.out.size))
        clear hb3
        unfold strV
        go_wp2
        go_roundw
        case rel => exact ⟨k + 1, by omega, by go_num, by rw [HNX.out]; exact congrArg Value.string (line_cat L (t :: T)), HAN.out (by simp), HB3.out⟩
        case measure => simp [intOf]; omega
    · have e : ds.take k = ds := List.take_of_length_le (by omega)
      rw [e] at hall ⊢
      have HR := Lib.hid (textJ_all hall)
      clear hall hw e
      unfold strV
      go_wp2
      go_ret
      exact ⟨by rw [HR.out]; rfl, HW.out⟩

end Go.Proofs.YtenlngclocfnlaaGreatDoor

/- The program's DeedText. Printed by wip/tools/gen_texti.py. -/
namespace Go.Proofs.YtenlngclocfnlaaGreatDoor
open Go.RowKit
set_option linter.unusedVariables false
set_option maxRecDepth 100000

theorem digits1 (N : Nat) (r : Int) (W : World) (h : W.cell? ⟨N, 0, none⟩ = some (.int .i64 r)) (h0 : inB r 0 9 = true) :
    Calls Tryz.prog 56 #[.slice (some ⟨N, 0, none⟩) 1 1] W fun e w' => e = .returned (.string ⟨[dg r].toArray⟩) ∧ Below W.heap.size W w' := by
  obtain ⟨h1, h2⟩ := inB_iff.1 h0
  have hI : Ints 0 W (.slice (some ⟨N, 0, none⟩) 1 1) [r] := by
    refine ⟨⟨some ⟨N, 0, none⟩, 1, rfl, Nat.le_refl _, by omega, fun _ => ⟨N, 0, rfl, Nat.zero_le _, fun i hi => ?_⟩⟩, fun x hx => ?_⟩
    · have : i = 0 := by simpa [ints] using hi
      subst this
      simpa [ints] using h
    · rw [List.mem_singleton.1 hx]; unfold In64; omega
  exact (digits_any _ [r] W hI (by simp [allD, h0]) (by simp)).mono fun e w' q => q
theorem new_cell (w : World) (v : Value) (t : TypeId) : (w.alloc (.cells #[v] t)).cell? ⟨w.heap.size, 0, none⟩ = some v := by
  simp
theorem new_cell2 (w : World) (o1 : Obj) (v : Value) (t : TypeId) : ((w.alloc o1).alloc (.cells #[v] t)).cell? ⟨w.heap.size + 1, 0, none⟩ = some v := by
  have := new_cell (w.alloc o1) v t
  rwa [World.size_alloc] at this
theorem old_cell {w : World} {p : Addr} {v : Value} (h : w.cell? p = some v) (hp : p.block < w.heap.size) (o : Obj) : (w.alloc o).cell? p = some v :=
  (((Below.refl w.heap.size w).alloc (Nat.le_refl _) o).cell hp).trans h

set_option maxHeartbeats 8000000 in
theorem deedTextI_any {B : Nat} (b : Bool) (u : Value) (xs : List Int) (r n : Int) (w : World) (h : Ints B w u xs) :
    Calls Tryz.prog 15 #[dV b u r n] w (TextOut (textD ⟨b, xs, r, n⟩) w) := by
  have HX := Lib.hid h
  obtain ⟨a, cap, rfl, hcap, hmax, _⟩ := h.opened
  clear h
  obtain ⟨w1, hw1⟩ : ∃ w1, w1 = (w.alloc (.cells #[.bool b, .slice a xs.length cap, .int .i64 r, .int .i64 n] 41)).alloc (.cells #[.slice a xs.length cap, .int .i64 r, .int .i64 n] 39) := ⟨_, rfl⟩
  have hb1 : Below w.heap.size w w1 := by rw [hw1]; exact ((Below.refl _ _).alloc (Nat.le_refl _) _).alloc (by simp) _
  have hz0 : w1.heap[w.heap.size]? = some (.cells #[.bool b, .slice a xs.length cap, .int .i64 r, .int .i64 n] 41 (0, 0)) := by rw [hw1, heap_alloc_old _ _ (by simp)]; exact heap_alloc_new w _
  have hz1 : w1.heap[w.heap.size + 1]? = some (.cells #[.slice a xs.length cap, .int .i64 r, .int .i64 n] 39 (0, 0)) := by
    rw [hw1]; have q := heap_alloc_new (w.alloc (.cells #[.bool b, .slice a xs.length cap, .int .i64 r, .int .i64 n] 41)) (.cells #[.slice a xs.length cap, .int .i64 r, .int .i64 n] 39); rw [World.size_alloc] at q; exact q
  have hs1 : w1.heap.size = w.heap.size + 2 := by rw [hw1]; simp
  have HB1 := Lib.hid hb1
  have HZ1 := Lib.hid hz1
  have c0 := cell_of_row _ _ 0 _ _ (0, 0) hz0
  have g0 := cell_of_row _ _ 0 _ _ (0, 0) hz1
  have g1 := cell_of_row _ _ 1 _ _ (0, 0) hz1
  have g2 := cell_of_row _ _ 2 _ _ (0, 0) hz1
  simp only [List.getElem?_toArray, List.getElem?_cons_zero, List.getElem?_cons_succ] at c0 g0 g1 g2
  clear hb1 hz0 hz1
  unfold dV
  have HA := Lib.hid (fun W q => allIn_any (.slice a xs.length cap) xs 0 9 W (show Ints B W _ xs from HX.out.below q))
  have HNO := Lib.hid (show ∀ z : Bool, allB xs 0 9 = z → (z = false → textOk xs r n = false) from fun z q e => by
    subst e
    unfold textOk
    unfold allB at q
    rw [q]
    simp)
  cases b
  · obtain ⟨t1, ht1⟩ : ∃ t, t = inB (xs.length : Int) 1 3 := ⟨_, rfl⟩
    obtain ⟨t2, ht2⟩ : ∃ t, t = allB xs 0 9 := ⟨_, rfl⟩
    obtain ⟨t3, ht3⟩ : ∃ t, t = inB r 0 9 := ⟨_, rfl⟩
    obtain ⟨t4, ht4⟩ : ∃ t, t = inB n 0 9 := ⟨_, rfl⟩
    have HOK := Lib.hid (show textOk xs r n = (t1 && t2 && t3 && t4) by rw [ht1, ht2, ht3, ht4]; rfl)
    have HT1 := Lib.hid ht1
    have HT2 := Lib.hid ht2
    have HT3 := Lib.hid ht3
    have HT4 := Lib.hid ht4
    have hI1 := in_any (xs.length : Int) 1 3 w1
    rw [← ht1] at hI1
    clear ht1 ht2 ht3 ht4 HNO
    go_enter Tryz.func15, Tryz.ntmps15
    go_wp2_with fail
    rw [← hw1]
    clear hw1
    refine hI1.mono ?_
    rintro e w2 ⟨rfl, rfl⟩
    clear hI1
    cases t1
    · go_wp2
      go_ret
      exact ⟨by rw [textD_bad (by rw [HOK.out]; simp)]; rfl, HB1.out⟩
    · have hA := HA.out w1 HB1.out
      rw [← HT2.out] at hA
      go_wp2_with fail
      refine hA.mono ?_
      rintro e w3 ⟨rfl, hb3⟩
      have HB3 := Lib.hid (HB1.out.trans (hb3.mono HB1.out.size))
      have hz3 := (hb3.block _ (Array.getElem?_eq_some_iff.1 HZ1.out).1).trans HZ1.out
      have g0 := cell_of_row _ _ 0 _ _ (0, 0) hz3
      have g1 := cell_of_row _ _ 1 _ _ (0, 0) hz3
      have g2 := cell_of_row _ _ 2 _ _ (0, 0) hz3
      simp only [List.getElem?_toArray, List.getElem?_cons_zero, List.getElem?_cons_succ] at g0 g1 g2
      have hs3 := hb3.size
      clear hA hb3 hz3 c0
      cases t2
      · go_wp2
        go_ret
        exact ⟨by rw [textD_bad (by rw [HOK.out]; simp)]; rfl, HB3.out⟩
      · have hI3 := in_any r 0 9 w3
        rw [← HT3.out] at hI3
        go_wp2_with fail
        refine hI3.mono ?_
        rintro e w4 ⟨rfl, rfl⟩
        clear hI3
        cases t3
        · go_wp2
          go_ret
          exact ⟨by rw [textD_bad (by rw [HOK.out]; simp)]; rfl, HB3.out⟩
        · have hI4 := in_any n 0 9 w3
          rw [← HT4.out] at hI4
          go_wp2_with fail
          refine hI4.mono ?_
          rintro e w4 ⟨rfl, rfl⟩
          clear hI4
          cases t4
          · go_wp2
            go_ret
            exact ⟨by rw [textD_bad (by rw [HOK.out]; simp)]; rfl, HB3.out⟩
          · have HR := Lib.hid HT3.out.symm
            have HN := Lib.hid HT4.out.symm
            have HALL := Lib.hid (show allD xs = true from HT2.out.symm)
            have hlen := inB_iff.1 HT1.out.symm
            have HD0 := Lib.hid (show ∀ W, Below w3.heap.size w3 W → Calls Tryz.prog 56 #[.slice a xs.length cap] W (fun e w' => e = .returned (.string ⟨(dgs xs).toArray⟩) ∧ Below W.heap.size W w') from fun W q => digits_any _ xs W (HX.out.below (HB3.out.trans (q.mono HB3.out.size))) HALL.out (by omega))
            have hL3 : (dgs xs).length ≤ 3 := by unfold dgs; rw [List.length_map]; omega
            obtain ⟨L, hL⟩ : ∃ L, L = dgs xs := ⟨_, rfl⟩
            rw [← hL] at HD0 hL3
            have HL := Lib.hid hL
            have hgl : w.heap.size + 1 < w3.heap.size := by omega
            clear hL hlen hs3 hcap hmax hs1 HA HT1 HT2 HT3 HT4
            go_wp2_with fail
            refine wp_region_inv (by kernel_rfl) (fun k => (#[33, 34, 35, 36, 37, 38, 39, 40, 41, 42, 43, 44, 45, 46, 47, 48, 2] : Array Nat).getD k 0) 49
              (fun k v W => match k with
                | 0 => v = .pointer (some ⟨w.heap.size + 1, 0, none⟩)
                | 1 => v = .slice a xs.length cap
                | 2 => v = .string ⟨L.toArray⟩
                | 3 => v = .string ((ByteArray.mk #[103, 117, 101, 115, 115, 32]) ++ ⟨L.toArray⟩)
                | 4 => v = .string ((ByteArray.mk #[103, 117, 101, 115, 115, 32]) ++ ⟨L.toArray⟩ ++ ⟨#[32]⟩)
                | 5 => v = .pointer (some ⟨w.heap.size + 1, 1, none⟩)
                | 6 => v = .int .i64 r
                | 7 => ∃ N, v = .slice (some ⟨N, 0, none⟩) 1 1 ∧ W.cell? ⟨N, 0, none⟩ = some (.int .i64 r)
                | 8 => v = .string ⟨#[dg r]⟩
                | 9 => v = .string ((ByteArray.mk #[103, 117, 101, 115, 115, 32]) ++ ⟨L.toArray⟩ ++ ⟨#[32]⟩ ++ ⟨#[dg r]⟩)
                | 10 => v = .string ((ByteArray.mk #[103, 117, 101, 115, 115, 32]) ++ ⟨L.toArray⟩ ++ ⟨#[32]⟩ ++ ⟨#[dg r]⟩ ++ ⟨#[32]⟩)
                | 11 => v = .pointer (some ⟨w.heap.size + 1, 2, none⟩)
                | 12 => v = .int .i64 n
                | 13 => ∃ N, v = .slice (some ⟨N, 0, none⟩) 1 1 ∧ W.cell? ⟨N, 0, none⟩ = some (.int .i64 n)
                | 14 => v = .string ⟨#[dg n]⟩
                | 15 => v = .string ((ByteArray.mk #[103, 117, 101, 115, 115, 32]) ++ ⟨L.toArray⟩ ++ ⟨#[32]⟩ ++ ⟨#[dg r]⟩ ++ ⟨#[32]⟩ ++ ⟨#[dg n]⟩)
                | 16 => v = .string ((ByteArray.mk #[103, 117, 101, 115, 115, 32]) ++ ⟨L.toArray⟩ ++ ⟨#[32]⟩ ++ ⟨#[dg r]⟩ ++ ⟨#[32]⟩ ++ ⟨#[dg n]⟩)
                | _ => False) rfl (by kernel_rfl) ?mono ?step ?fin
            case mono =>
              intro k v W W' h hb
              match k, h with
              | 0, h => exact h
              | 1, h => exact h
              | 2, h => exact h
              | 3, h => exact h
              | 4, h => exact h
              | 5, h => exact h
              | 6, h => exact h
              | 7, h => (obtain ⟨N, h1, h2⟩ := h; exact ⟨N, h1, (hb.cell (cell_lt' h2)).trans h2⟩)
              | 8, h => exact h
              | 9, h => exact h
              | 10, h => exact h
              | 11, h => exact h
              | 12, h => exact h
              | 13, h => (obtain ⟨N, h1, h2⟩ := h; exact ⟨N, h1, (hb.cell (cell_lt' h2)).trans h2⟩)
              | 14, h => exact h
              | 15, h => exact h
              | 16, h => exact h
            case step =>
              intro i o ho A W hW hA hD K hK
              match i, ho with
              | 0, ho =>
                simp only [List.getElem?_cons_zero, Option.some.injEq] at ho
                subst ho
                have e3 : A.tmps.getD 3 undef = .pointer (some ⟨w.heap.size + 1, 0, none⟩) := (hA 3 (by kernel_rfl)).trans rfl
                have e3' := e3
                rw [Array.getD_eq_getD_getElem?] at e3'
                have HK := Lib.hid (show ∀ v W', Below W.heap.size W W' → (v = .pointer (some ⟨w.heap.size + 1, 0, none⟩)) → K (A.put (some 33) v) W' from hK.out)
                clear hA hD hK
                go_simp
                exact HK.out _ _ (Below.refl _ _) rfl
              | 1, ho =>
                simp only [List.getElem?_cons_succ, List.getElem?_cons_zero, Option.some.injEq] at ho
                subst ho
                have e3 : A.tmps.getD 3 undef = .pointer (some ⟨w.heap.size + 1, 0, none⟩) := (hA 3 (by kernel_rfl)).trans rfl
                have e3' := e3
                rw [Array.getD_eq_getD_getElem?] at e3'
                have d0 : A.tmps.getD 33 undef = .pointer (some ⟨w.heap.size + 1, 0, none⟩) := hD 0 (by kernel_rfl)
                have d0' := d0
                rw [Array.getD_eq_getD_getElem?] at d0'
                have HK := Lib.hid (show ∀ v W', Below W.heap.size W W' → (v = .slice a xs.length cap) → K (A.put (some 34) v) W' from hK.out)
                have hcc := (hW.cell hgl).trans g0
                clear hA hD hK
                go_simp
                exact HK.out _ _ (Below.refl _ _) rfl
              | 2, ho =>
                simp only [List.getElem?_cons_succ, List.getElem?_cons_zero, Option.some.injEq] at ho
                subst ho
                have e3 : A.tmps.getD 3 undef = .pointer (some ⟨w.heap.size + 1, 0, none⟩) := (hA 3 (by kernel_rfl)).trans rfl
                have e3' := e3
                rw [Array.getD_eq_getD_getElem?] at e3'
                have d1 : A.tmps.getD 34 undef = .slice a xs.length cap := hD 1 (by kernel_rfl)
                have d1' := d1
                rw [Array.getD_eq_getD_getElem?] at d1'
                have HK := Lib.hid (show ∀ v W', Below W.heap.size W W' → (v = .string ⟨L.toArray⟩) → K (A.put (some 35) v) W' from hK.out)
                clear hA hD hK
                go_simp
                refine (HD0.out W hW).mono ?_
                rintro e W' ⟨rfl, hb⟩
                exact HK.out _ _ hb rfl
              | 3, ho =>
                simp only [List.getElem?_cons_succ, List.getElem?_cons_zero, Option.some.injEq] at ho
                subst ho
                have e3 : A.tmps.getD 3 undef = .pointer (some ⟨w.heap.size + 1, 0, none⟩) := (hA 3 (by kernel_rfl)).trans rfl
                have e3' := e3
                rw [Array.getD_eq_getD_getElem?] at e3'
                have d2 : A.tmps.getD 35 undef = .string ⟨L.toArray⟩ := hD 2 (by kernel_rfl)
                have d2' := d2
                rw [Array.getD_eq_getD_getElem?] at d2'
                have HK := Lib.hid (show ∀ v W', Below W.heap.size W W' → (v = .string ((ByteArray.mk #[103, 117, 101, 115, 115, 32]) ++ ⟨L.toArray⟩)) → K (A.put (some 36) v) W' from hK.out)
                clear hA hD hK
                go_simp
                rw [if_neg (by omega), Oper.upon_value]
                exact HK.out _ _ (Below.refl _ _) rfl
              | 4, ho =>
                simp only [List.getElem?_cons_succ, List.getElem?_cons_zero, Option.some.injEq] at ho
                subst ho
                have e3 : A.tmps.getD 3 undef = .pointer (some ⟨w.heap.size + 1, 0, none⟩) := (hA 3 (by kernel_rfl)).trans rfl
                have e3' := e3
                rw [Array.getD_eq_getD_getElem?] at e3'
                have d3 : A.tmps.getD 36 undef = .string ((ByteArray.mk #[103, 117, 101, 115, 115, 32]) ++ ⟨L.toArray⟩) := hD 3 (by kernel_rfl)
                have d3' := d3
                rw [Array.getD_eq_getD_getElem?] at d3'
                have HK := Lib.hid (show ∀ v W', Below W.heap.size W W' → (v = .string ((ByteArray.mk #[103, 117, 101, 115, 115, 32]) ++ ⟨L.toArray⟩ ++ ⟨#[32]⟩)) → K (A.put (some 37) v) W' from hK.out)
                clear hA hD hK
                go_simp
                rw [if_neg (by omega), Oper.upon_value]
                exact HK.out _ _ (Below.refl _ _) rfl
              | 5, ho =>
                simp only [List.getElem?_cons_succ, List.getElem?_cons_zero, Option.some.injEq] at ho
                subst ho
                have e3 : A.tmps.getD 3 undef = .pointer (some ⟨w.heap.size + 1, 0, none⟩) := (hA 3 (by kernel_rfl)).trans rfl
                have e3' := e3
                rw [Array.getD_eq_getD_getElem?] at e3'
                have HK := Lib.hid (show ∀ v W', Below W.heap.size W W' → (v = .pointer (some ⟨w.heap.size + 1, 1, none⟩)) → K (A.put (some 38) v) W' from hK.out)
                clear hA hD hK
                go_simp
                exact HK.out _ _ (Below.refl _ _) rfl
              | 6, ho =>
                simp only [List.getElem?_cons_succ, List.getElem?_cons_zero, Option.some.injEq] at ho
                subst ho
                have e3 : A.tmps.getD 3 undef = .pointer (some ⟨w.heap.size + 1, 0, none⟩) := (hA 3 (by kernel_rfl)).trans rfl
                have e3' := e3
                rw [Array.getD_eq_getD_getElem?] at e3'
                have d5 : A.tmps.getD 38 undef = .pointer (some ⟨w.heap.size + 1, 1, none⟩) := hD 5 (by kernel_rfl)
                have d5' := d5
                rw [Array.getD_eq_getD_getElem?] at d5'
                have HK := Lib.hid (show ∀ v W', Below W.heap.size W W' → (v = .int .i64 r) → K (A.put (some 39) v) W' from hK.out)
                have hcc := (hW.cell hgl).trans g1
                clear hA hD hK
                go_simp
                exact HK.out _ _ (Below.refl _ _) rfl
              | 7, ho =>
                simp only [List.getElem?_cons_succ, List.getElem?_cons_zero, Option.some.injEq] at ho
                subst ho
                have e3 : A.tmps.getD 3 undef = .pointer (some ⟨w.heap.size + 1, 0, none⟩) := (hA 3 (by kernel_rfl)).trans rfl
                have e3' := e3
                rw [Array.getD_eq_getD_getElem?] at e3'
                have d6 : A.tmps.getD 39 undef = .int .i64 r := hD 6 (by kernel_rfl)
                have d6' := d6
                rw [Array.getD_eq_getD_getElem?] at d6'
                have HK := Lib.hid (show ∀ v W', Below W.heap.size W W' → (∃ N, v = .slice (some ⟨N, 0, none⟩) 1 1 ∧ W'.cell? ⟨N, 0, none⟩ = some (.int .i64 r)) → K (A.put (some 40) v) W' from hK.out)
                clear hA hD hK
                go_simp
                exact HK.out _ _ ((Below.refl _ _).alloc (Nat.le_refl _) _) ⟨_, rfl, new_cell _ _ _⟩
              | 8, ho =>
                simp only [List.getElem?_cons_succ, List.getElem?_cons_zero, Option.some.injEq] at ho
                subst ho
                have e3 : A.tmps.getD 3 undef = .pointer (some ⟨w.heap.size + 1, 0, none⟩) := (hA 3 (by kernel_rfl)).trans rfl
                have e3' := e3
                rw [Array.getD_eq_getD_getElem?] at e3'
                obtain ⟨N, hN, hc⟩ := (show ∃ N, A.tmps.getD 40 undef = .slice (some ⟨N, 0, none⟩) 1 1 ∧ W.cell? ⟨N, 0, none⟩ = some (.int .i64 r) from hD 7 (by kernel_rfl))
                have hN' := hN
                rw [Array.getD_eq_getD_getElem?] at hN'
                have HK := Lib.hid (show ∀ v W', Below W.heap.size W W' → (v = .string ⟨#[dg r]⟩) → K (A.put (some 41) v) W' from hK.out)
                clear hA hD hK
                have hT := digits1 N r W hc HR.out
                go_simp
                refine hT.mono ?_
                rintro e W' ⟨rfl, hb⟩
                exact HK.out _ _ hb rfl
              | 9, ho =>
                simp only [List.getElem?_cons_succ, List.getElem?_cons_zero, Option.some.injEq] at ho
                subst ho
                have e3 : A.tmps.getD 3 undef = .pointer (some ⟨w.heap.size + 1, 0, none⟩) := (hA 3 (by kernel_rfl)).trans rfl
                have e3' := e3
                rw [Array.getD_eq_getD_getElem?] at e3'
                have d4 : A.tmps.getD 37 undef = .string ((ByteArray.mk #[103, 117, 101, 115, 115, 32]) ++ ⟨L.toArray⟩ ++ ⟨#[32]⟩) := hD 4 (by kernel_rfl)
                have d4' := d4
                rw [Array.getD_eq_getD_getElem?] at d4'
                have d8 : A.tmps.getD 41 undef = .string ⟨#[dg r]⟩ := hD 8 (by kernel_rfl)
                have d8' := d8
                rw [Array.getD_eq_getD_getElem?] at d8'
                have HK := Lib.hid (show ∀ v W', Below W.heap.size W W' → (v = .string ((ByteArray.mk #[103, 117, 101, 115, 115, 32]) ++ ⟨L.toArray⟩ ++ ⟨#[32]⟩ ++ ⟨#[dg r]⟩)) → K (A.put (some 42) v) W' from hK.out)
                clear hA hD hK
                go_simp
                rw [if_neg (by omega), Oper.upon_value]
                exact HK.out _ _ (Below.refl _ _) rfl
              | 10, ho =>
                simp only [List.getElem?_cons_succ, List.getElem?_cons_zero, Option.some.injEq] at ho
                subst ho
                have e3 : A.tmps.getD 3 undef = .pointer (some ⟨w.heap.size + 1, 0, none⟩) := (hA 3 (by kernel_rfl)).trans rfl
                have e3' := e3
                rw [Array.getD_eq_getD_getElem?] at e3'
                have d9 : A.tmps.getD 42 undef = .string ((ByteArray.mk #[103, 117, 101, 115, 115, 32]) ++ ⟨L.toArray⟩ ++ ⟨#[32]⟩ ++ ⟨#[dg r]⟩) := hD 9 (by kernel_rfl)
                have d9' := d9
                rw [Array.getD_eq_getD_getElem?] at d9'
                have HK := Lib.hid (show ∀ v W', Below W.heap.size W W' → (v = .string ((ByteArray.mk #[103, 117, 101, 115, 115, 32]) ++ ⟨L.toArray⟩ ++ ⟨#[32]⟩ ++ ⟨#[dg r]⟩ ++ ⟨#[32]⟩)) → K (A.put (some 43) v) W' from hK.out)
                clear hA hD hK
                go_simp
                rw [if_neg (by omega), Oper.upon_value]
                exact HK.out _ _ (Below.refl _ _) rfl
              | 11, ho =>
                simp only [List.getElem?_cons_succ, List.getElem?_cons_zero, Option.some.injEq] at ho
                subst ho
                have e3 : A.tmps.getD 3 undef = .pointer (some ⟨w.heap.size + 1, 0, none⟩) := (hA 3 (by kernel_rfl)).trans rfl
                have e3' := e3
                rw [Array.getD_eq_getD_getElem?] at e3'
                have HK := Lib.hid (show ∀ v W', Below W.heap.size W W' → (v = .pointer (some ⟨w.heap.size + 1, 2, none⟩)) → K (A.put (some 44) v) W' from hK.out)
                clear hA hD hK
                go_simp
                exact HK.out _ _ (Below.refl _ _) rfl
              | 12, ho =>
                simp only [List.getElem?_cons_succ, List.getElem?_cons_zero, Option.some.injEq] at ho
                subst ho
                have e3 : A.tmps.getD 3 undef = .pointer (some ⟨w.heap.size + 1, 0, none⟩) := (hA 3 (by kernel_rfl)).trans rfl
                have e3' := e3
                rw [Array.getD_eq_getD_getElem?] at e3'
                have d11 : A.tmps.getD 44 undef = .pointer (some ⟨w.heap.size + 1, 2, none⟩) := hD 11 (by kernel_rfl)
                have d11' := d11
                rw [Array.getD_eq_getD_getElem?] at d11'
                have HK := Lib.hid (show ∀ v W', Below W.heap.size W W' → (v = .int .i64 n) → K (A.put (some 45) v) W' from hK.out)
                have hcc := (hW.cell hgl).trans g2
                clear hA hD hK
                go_simp
                exact HK.out _ _ (Below.refl _ _) rfl
              | 13, ho =>
                simp only [List.getElem?_cons_succ, List.getElem?_cons_zero, Option.some.injEq] at ho
                subst ho
                have e3 : A.tmps.getD 3 undef = .pointer (some ⟨w.heap.size + 1, 0, none⟩) := (hA 3 (by kernel_rfl)).trans rfl
                have e3' := e3
                rw [Array.getD_eq_getD_getElem?] at e3'
                have d12 : A.tmps.getD 45 undef = .int .i64 n := hD 12 (by kernel_rfl)
                have d12' := d12
                rw [Array.getD_eq_getD_getElem?] at d12'
                have HK := Lib.hid (show ∀ v W', Below W.heap.size W W' → (∃ N, v = .slice (some ⟨N, 0, none⟩) 1 1 ∧ W'.cell? ⟨N, 0, none⟩ = some (.int .i64 n)) → K (A.put (some 46) v) W' from hK.out)
                clear hA hD hK
                go_simp
                exact HK.out _ _ ((Below.refl _ _).alloc (Nat.le_refl _) _) ⟨_, rfl, new_cell _ _ _⟩
              | 14, ho =>
                simp only [List.getElem?_cons_succ, List.getElem?_cons_zero, Option.some.injEq] at ho
                subst ho
                have e3 : A.tmps.getD 3 undef = .pointer (some ⟨w.heap.size + 1, 0, none⟩) := (hA 3 (by kernel_rfl)).trans rfl
                have e3' := e3
                rw [Array.getD_eq_getD_getElem?] at e3'
                obtain ⟨N, hN, hc⟩ := (show ∃ N, A.tmps.getD 46 undef = .slice (some ⟨N, 0, none⟩) 1 1 ∧ W.cell? ⟨N, 0, none⟩ = some (.int .i64 n) from hD 13 (by kernel_rfl))
                have hN' := hN
                rw [Array.getD_eq_getD_getElem?] at hN'
                have HK := Lib.hid (show ∀ v W', Below W.heap.size W W' → (v = .string ⟨#[dg n]⟩) → K (A.put (some 47) v) W' from hK.out)
                clear hA hD hK
                have hT := digits1 N n W hc HN.out
                go_simp
                refine hT.mono ?_
                rintro e W' ⟨rfl, hb⟩
                exact HK.out _ _ hb rfl
              | 15, ho =>
                simp only [List.getElem?_cons_succ, List.getElem?_cons_zero, Option.some.injEq] at ho
                subst ho
                have e3 : A.tmps.getD 3 undef = .pointer (some ⟨w.heap.size + 1, 0, none⟩) := (hA 3 (by kernel_rfl)).trans rfl
                have e3' := e3
                rw [Array.getD_eq_getD_getElem?] at e3'
                have d10 : A.tmps.getD 43 undef = .string ((ByteArray.mk #[103, 117, 101, 115, 115, 32]) ++ ⟨L.toArray⟩ ++ ⟨#[32]⟩ ++ ⟨#[dg r]⟩ ++ ⟨#[32]⟩) := hD 10 (by kernel_rfl)
                have d10' := d10
                rw [Array.getD_eq_getD_getElem?] at d10'
                have d14 : A.tmps.getD 47 undef = .string ⟨#[dg n]⟩ := hD 14 (by kernel_rfl)
                have d14' := d14
                rw [Array.getD_eq_getD_getElem?] at d14'
                have HK := Lib.hid (show ∀ v W', Below W.heap.size W W' → (v = .string ((ByteArray.mk #[103, 117, 101, 115, 115, 32]) ++ ⟨L.toArray⟩ ++ ⟨#[32]⟩ ++ ⟨#[dg r]⟩ ++ ⟨#[32]⟩ ++ ⟨#[dg n]⟩)) → K (A.put (some 48) v) W' from hK.out)
                clear hA hD hK
                go_simp
                rw [if_neg (by omega), Oper.upon_value]
                exact HK.out _ _ (Below.refl _ _) rfl
              | 16, ho =>
                simp only [List.getElem?_cons_succ, List.getElem?_cons_zero, Option.some.injEq] at ho
                subst ho
                have e3 : A.tmps.getD 3 undef = .pointer (some ⟨w.heap.size + 1, 0, none⟩) := (hA 3 (by kernel_rfl)).trans rfl
                have e3' := e3
                rw [Array.getD_eq_getD_getElem?] at e3'
                have d15 : A.tmps.getD 48 undef = .string ((ByteArray.mk #[103, 117, 101, 115, 115, 32]) ++ ⟨L.toArray⟩ ++ ⟨#[32]⟩ ++ ⟨#[dg r]⟩ ++ ⟨#[32]⟩ ++ ⟨#[dg n]⟩) := hD 15 (by kernel_rfl)
                have d15' := d15
                rw [Array.getD_eq_getD_getElem?] at d15'
                have HK := Lib.hid (show ∀ v W', Below W.heap.size W W' → (v = .string ((ByteArray.mk #[103, 117, 101, 115, 115, 32]) ++ ⟨L.toArray⟩ ++ ⟨#[32]⟩ ++ ⟨#[dg r]⟩ ++ ⟨#[32]⟩ ++ ⟨#[dg n]⟩)) → K (A.put (some 2) v) W' from hK.out)
                clear hA hD hK
                go_simp
                exact HK.out _ _ (Below.refl _ _) rfl
              | n + 17, ho =>
                simp at ho
            case fin =>
              intro vs W hW h
              have h16 : vs 16 = .string ((ByteArray.mk #[103, 117, 101, 115, 115, 32]) ++ ⟨L.toArray⟩ ++ ⟨#[32]⟩ ++ ⟨#[dg r]⟩ ++ ⟨#[32]⟩ ++ ⟨#[dg n]⟩) := h 16 (by simp)
              have HBW := Lib.hid (HB3.out.trans (hW.mono HB3.out.size))
              rw [invA_lit [none, none, some 16, none, none, none, none, none, none, none, none, none, none, none, none, none, none, none, none, none, none, none, none, none, none, none, none, none, none, none, none, none, none, some 0, some 1, some 2, some 3, some 4, some 5, some 6, some 7, some 8, some 9, some 10, some 11, some 12, some 13, some 14, some 15] (by kernel_rfl) rfl]
              simp only [List.zipWith_cons_cons, List.zipWith_nil_left]
              rw [h16]
              clear h h16 hW
              go_wp2
              go_ret
              exact ⟨by rw [textD_guess HOK.out, text_cat, HL.out]; rfl, HBW.out⟩
  · have hN := nothing_any a cap xs r n w1 (by omega)
    unfold gV at hN
    obtain ⟨t, ht⟩ : ∃ t, t = nothingB xs r n := ⟨_, rfl⟩
    rw [← ht] at hN
    have HT := Lib.hid ht
    clear ht
    go_enter Tryz.func15, Tryz.ntmps15
    go_wp2_with fail
    rw [← hw1]
    clear hw1
    refine hN.mono ?_
    rintro e w2 ⟨rfl, hb2⟩
    have HB2 := Lib.hid (HB1.out.trans (hb2.mono HB1.out.size))
    clear hN hb2
    cases t
    · go_wp2
      go_ret
      exact ⟨by rw [back_text, ← HT.out]; rfl, HB2.out⟩
    · go_wp2
      go_ret
      exact ⟨by rw [back_text, ← HT.out]; rfl, HB2.out⟩

end Go.Proofs.YtenlngclocfnlaaGreatDoor

/- The program's ReadDeed. -/
namespace Go.Proofs.YtenlngclocfnlaaGreatDoor
open Go.RowKit
set_option linter.unusedVariables false
set_option maxRecDepth 100000

/-- The library's variable is a number. -/
def MaxIs (w : World) : Prop := ∃ m : Int, w.cell? ⟨0, 0, none⟩ = some (.int .i64 m)
theorem MaxIs.below {w w' : World} (h : MaxIs w) (hb : Below w.heap.size w w') : MaxIs w' := by
  obtain ⟨m, hm⟩ := h
  exact ⟨m, (hb.cell (cell_lt' hm)).trans hm⟩
theorem words_len (c : UInt8) : ∀ l : List UInt8, (words c l).length = l.count c + 1
  | [] => rfl
  | b :: t => by
    have ih := words_len c t
    unfold words
    by_cases h : b = c
    · rw [if_pos h, h, List.count_cons_self, List.length_cons, ih]
    · rw [if_neg h, List.count_cons_of_ne (by simpa using h)]
      rcases e : words c t with _ | ⟨u, us⟩
      · exact absurd e (words_ne c t)
      · rw [e] at ih
        simpa using ih
theorem split_any (l : List UInt8) (W : World) (hs : l.length ≤ 4000000) (hm : MaxIs W) :
    Calls Tryz.prog 81 #[strV l, .string ⟨#[32]⟩] W (WordsOut (words 32 l) W) := by
  obtain ⟨m, hm⟩ := hm
  have hlen : (⟨l.toArray⟩ : ByteArray).size < 4294967281 := by simp only [ByteArray.size, List.size_toArray]; omega
  refine (Tryz.strings_Split ⟨l.toArray⟩ ⟨#[32]⟩ m W hlen hm (by decide)).mono ?_
  rintro e w' ⟨rfl, rfl⟩
  have hw : (Lib.splitB ⟨#[32]⟩ 0 (Lib.countB ⟨l.toArray⟩ ⟨#[32]⟩) ⟨l.toArray⟩).map Value.string = (words 32 l).map strV := by
    rw [← split_words l 32, List.map_map]
    refine List.map_congr_left fun x _ => ?_
    simp [strV]
  have hc : Lib.countB ⟨l.toArray⟩ ⟨#[32]⟩ + 1 = (words 32 l).length := by
    rw [words_len]
    congr 1
    exact Lib.count_one 32 l
  rw [hw, hc]
  refine ⟨W.heap.size, (words 32 l).length, rfl, Nat.le_refl _, by rw [words_len]; have := List.count_le_length (a := (32 : UInt8)) (l := l); omega, fun k hk => ?_, Nat.le_refl _, by simp, (Below.refl _ W).alloc (Nat.le_refl _) _⟩
  rw [cell_of_row _ _ _ _ _ _ (heap_alloc_new W _)]
  simp [hk]

def zeroDeed : Array Value := #[.bool false, .slice none 0 0, .int .i64 0, .int .i64 0]
/-- What a reading leaves. -/
def ReadOut (l : List UInt8) (w : World) (e : Ending) (w' : World) : Prop :=
  ∃ a cap, e = .returned (.tuple #[dV (rdD l).back (.slice a (rdD l).code.length cap) (rdD l).right (rdD l).near, .bool (rdB l)]) ∧ OwnI w.heap.size w' (.slice a (rdD l).code.length cap) (rdD l).code ∧ Below w.heap.size w w'
theorem ReadOut.of {l : List UInt8} {w w' : World} {d : Dd} {ok : Bool} {a : Option Addr} {cap : Nat} (h1 : rdD l = d) (h2 : rdB l = ok) (ho : OwnI w.heap.size w' (.slice a d.code.length cap) d.code) (hb : Below w.heap.size w w') :
    ReadOut l w (.returned (.tuple #[.agg #[.bool d.back, .slice a d.code.length cap, .int .i64 d.right, .int .i64 d.near], .bool ok])) w' := by
  subst h1 h2
  exact ⟨a, cap, rfl, ho, hb⟩
theorem OwnI.otherR {B D j : Nat} {w : World} {v z : Value} {xs : List Int} {cs : Array Value} {t : TypeId} {fr : Nat × Nat} (h : OwnI B w v xs) (hD : w.heap[D]? = some (.cells cs t fr)) (hne : 3 ≠ t) : OwnI B (w.setCell ⟨D, j, none⟩ z) v xs := by
  obtain ⟨h0, hh⟩ := id h
  refine World.ownsRow.kept h (grownBy_setCell w ⟨D, j, none⟩ z) ?_
  rcases hh with ⟨rfl, _⟩ | ⟨g, cap, cur, rfl, _, hg, _⟩
  · exact .inl rfl
  · refine .inr fun e => ?_
    have e2 : g = D := by simpa [Value.ownBlock] using e
    subst e2
    rw [hD] at hg
    injection hg with hg
    injection hg with _ hg _
    exact hne hg.symm
/-- The result's box: zero, then stored into. -/
theorem box_zero {w : World} {R : Nat} (h1 : w.heap[R]? = some (.cells #[.bool false, .slice none 0 0, .int .i64 0, .int .i64 0] 41 (0, 0))) :
    w.cell? ⟨R, 0, none⟩ = some (.bool false) ∧ w.cell? ⟨R, 1, none⟩ = some (.slice none 0 0) ∧ w.cell? ⟨R, 2, none⟩ = some (.int .i64 0) ∧ w.cell? ⟨R, 3, none⟩ = some (.int .i64 0) ∧ ∀ j, w.frozen? ⟨R, j, none⟩ = false := by
  refine ⟨?_, ?_, ?_, ?_, fun j => frozen_of_row _ _ j _ _ h1⟩ <;> rw [cell_of_row _ _ _ _ _ _ h1] <;> simp
theorem box_out {l : List UInt8} {w wi : World} {d : Dd} {ok : Bool} {a : Option Addr} {cap : Nat} (h1 : rdD l = d) (h2 : rdB l = ok) (hz : wi.heap[w.heap.size]? = some (.cells #[.bool false, .slice none 0 0, .int .i64 0, .int .i64 0] 41 (0, 0)))
    (hb : Below w.heap.size w wi) (ho : OwnI w.heap.size wi (.slice a d.code.length cap) d.code) :
    ReadOut l w (.returned (.tuple #[.agg #[.bool d.back, .slice a d.code.length cap, .int .i64 d.right, .int .i64 d.near], .bool ok])) ((((wi.setCell ⟨w.heap.size, 0, none⟩ (.bool d.back)).setCell ⟨w.heap.size, 1, none⟩ (.slice a d.code.length cap)).setCell ⟨w.heap.size, 2, none⟩ (.int .i64 d.right)).setCell ⟨w.heap.size, 3, none⟩ (.int .i64 d.near)) ∧
      ((((wi.setCell ⟨w.heap.size, 0, none⟩ (.bool d.back)).setCell ⟨w.heap.size, 1, none⟩ (.slice a d.code.length cap)).setCell ⟨w.heap.size, 2, none⟩ (.int .i64 d.right)).setCell ⟨w.heap.size, 3, none⟩ (.int .i64 d.near)).heap[w.heap.size]? = some (.cells #[.bool d.back, .slice a d.code.length cap, .int .i64 d.right, .int .i64 d.near] 41 (0, 0)) := by
  have q1 := heap_setCell_same _ _ 0 _ _ (.bool d.back) hz
  have q2 := heap_setCell_same _ _ 1 _ _ (.slice a d.code.length cap) q1
  have q3 := heap_setCell_same _ _ 2 _ _ (.int .i64 d.right) q2
  have q4 := heap_setCell_same _ _ 3 _ _ (.int .i64 d.near) q3
  refine ⟨ReadOut.of h1 h2 ((((ho.otherR hz (by decide)).otherR q1 (by decide)).otherR q2 (by decide)).otherR q3 (by decide)) ?_, q4⟩
  exact (((hb.setCell (p := ⟨w.heap.size, 0, none⟩) (Nat.le_refl _) _).setCell (p := ⟨w.heap.size, 1, none⟩) (Nat.le_refl _) _).setCell (p := ⟨w.heap.size, 2, none⟩) (Nat.le_refl _) _).setCell (p := ⟨w.heap.size, 3, none⟩) (Nat.le_refl _) _
/-- Nothing is read. -/
theorem box_none {l : List UInt8} {w wi : World} (h : readD l = none) (hz : wi.heap[w.heap.size]? = some (.cells #[.bool false, .slice none 0 0, .int .i64 0, .int .i64 0] 41 (0, 0)))
    (hb : Below w.heap.size w wi) :
    ReadOut l w (.returned (.tuple #[.agg #[.bool false, .slice none 0 0, .int .i64 0, .int .i64 0], .bool false])) ((((wi.setCell ⟨w.heap.size, 0, none⟩ (.bool false)).setCell ⟨w.heap.size, 1, none⟩ (.slice none 0 0)).setCell ⟨w.heap.size, 2, none⟩ (.int .i64 0)).setCell ⟨w.heap.size, 3, none⟩ (.int .i64 0)) ∧
      ((((wi.setCell ⟨w.heap.size, 0, none⟩ (.bool false)).setCell ⟨w.heap.size, 1, none⟩ (.slice none 0 0)).setCell ⟨w.heap.size, 2, none⟩ (.int .i64 0)).setCell ⟨w.heap.size, 3, none⟩ (.int .i64 0)).heap[w.heap.size]? = some (.cells #[.bool false, .slice none 0 0, .int .i64 0, .int .i64 0] 41 (0, 0)) :=
  box_out (d := ⟨false, [], 0, 0⟩) (rd_none h).1 (rd_none h).2 hz hb (OwnI.empty _ _)
theorem words_le (c : UInt8) : ∀ (l : List UInt8) (u : List UInt8), u ∈ words c l → u.length ≤ l.length
  | [], u, h => by
    simp only [words, List.mem_singleton] at h
    subst h; exact Nat.le_refl _
  | b :: t, u, h => by
    have ih := words_le c t
    unfold words at h
    split at h
    · rcases List.mem_cons.1 h with rfl | h
      · simp
      · have := ih u h
        simp only [List.length_cons]; omega
    · rcases e : words c t with _ | ⟨x, xs⟩
      · exact absurd e (words_ne c t)
      · rw [e] at h ih
        rcases List.mem_cons.1 h with rfl | h
        · have := ih x (by simp)
          simp only [List.length_cons]; omega
        · have := ih u (by simp [h])
          simp only [List.length_cons]; omega
/-- A deed in block g, and what it points to, made behind w. -/
def MadeD (w : World) (a : Option Addr) (n cap : Nat) (r q : Int) (s : Value) (wx : World) : Prop :=
  ∃ g, s = .pointer (some ⟨g, 0, none⟩) ∧ Below w.heap.size w wx ∧ w.heap.size ≤ g ∧ wx.heap[g]? = some (.cells #[.bool false, .slice a n cap, .int .i64 r, .int .i64 q] 41 (0, 0))

theorem MadeD.new (w : World) (a : Option Addr) (n cap : Nat) (r q : Int) : MadeD w a n cap r q (.pointer (some ⟨w.heap.size, 0, none⟩)) (w.alloc (.cells #[.bool false, .slice a n cap, .int .i64 r, .int .i64 q] 41)).drew :=
  ⟨_, rfl, ((Below.refl _ _).alloc (Nat.le_refl _) _).drew, Nat.le_refl _, heap_alloc_new w _⟩
theorem deed_cells {w : World} {g : Nat} {a b c d : Value} {t : TypeId} {fr : Nat × Nat} (h : w.heap[g]? = some (.cells #[a, b, c, d] t fr)) : w.cell? ⟨g, 0, none⟩ = some a ∧ w.cell? ⟨g, 1, none⟩ = some b ∧ w.cell? ⟨g, 2, none⟩ = some c ∧ w.cell? ⟨g, 3, none⟩ = some d := by
  refine ⟨?_, ?_, ?_, ?_⟩ <;> rw [cell_of_row _ _ _ _ _ _ h] <;> simp
theorem OwnI.first {B cap : Nat} {w : World} {a : Option Addr} {xs t : List Int} {r : Int} (h : OwnI B w (.slice a xs.length cap) xs) (hx : xs = r :: t) :
    ∃ g, a = some ⟨g, 0, none⟩ ∧ g < w.heap.size ∧ B ≤ g ∧ w.cell? ⟨g, 0, none⟩ = some (.int .i64 r) := by
  subst hx
  obtain ⟨a', cap', he, _, _, hd⟩ := h.opened
  injection he with e1 _ _
  subst e1
  obtain ⟨g, hg, hb, hc, _⟩ := hd (by simp)
  have h0 := hc 0 (by simp)
  exact ⟨g, hg, cell_lt' h0, hb, h0⟩

set_option maxHeartbeats 8000000 in
theorem readDeedI_any (l : List UInt8) (w : World) (hl : l.length ≤ 4000000) (hm : MaxIs w) :
    Calls Tryz.prog 44 #[strV l] w (ReadOut l w) := by
  unfold strV
  by_cases hback : l = wordBack
  · subst hback
    have HB := Lib.hid (show Below w.heap.size w (w.alloc (.cells #[.bool true, .slice none 0 0, .int .i64 0, .int .i64 0] 41)) from (Below.refl _ _).alloc (Nat.le_refl _) _)
    have HR := Lib.hid (heap_alloc_new w (.cells #[.bool true, .slice none 0 0, .int .i64 0, .int .i64 0] 41))
    unfold wordBack
    go_enter Tryz.func44, Tryz.ntmps44
    go_wp2
    ((try simp only [Exit.inBlock, Exit.then]); refine bodyPost_ret (results_cell_tmp rfl _ _ w.heap.size _ _ (0, 0) _ rfl HR.out Tryz.underlying41 rfl (by kernel_rfl)) rfl ?_)
    exact ReadOut.of (d := Dd.undo) rd_back.1 rd_back.2 (OwnI.empty _ _) HB.out
  · have hbk : (l == [98, 97, 99, 107]) = false := by simpa [wordBack] using hback
    obtain ⟨w1, hw1⟩ : ∃ z, z = w.alloc (.cells #[.bool false, .slice none 0 0, .int .i64 0, .int .i64 0] 41) := ⟨_, rfl⟩
    have hb1 : Below w.heap.size w w1 := by rw [hw1]; exact (Below.refl _ _).alloc (Nat.le_refl _) _
    have hR1 : w1.heap[w.heap.size]? = some (.cells #[.bool false, .slice none 0 0, .int .i64 0, .int .i64 0] 41 (0, 0)) := by rw [hw1]; exact heap_alloc_new w _
    have hS := split_any l w1 hl (hm.below hb1)
    have HBK := Lib.hid hback
    have HB := Lib.hid hb1
    have HR := Lib.hid hR1
    have HWL := Lib.hid (words_le 32 l)
    unfold strV at hS
    clear hback hb1 hR1 hm
    go_enter Tryz.func44, Tryz.ntmps44
    go_wp2_with fail
    rw [← hw1]
    clear hw1
    refine hS.mono ?_
    rintro e w2 ⟨g, cap, rfl, hc1, hc2, hcs, hg1, hg2, hb2⟩
    have hb2' := HB.out.trans (hb2.mono HB.out.size)
    have hz2 := (hb2.block _ (Array.getElem?_eq_some_iff.1 HR.out).1).trans HR.out
    obtain ⟨us, hus⟩ : ∃ us, us = words 32 l := ⟨_, rfl⟩
    have HUS := Lib.hid hus.symm
    rw [← hus] at hc1 hcs HWL ⊢
    clear hS hus hbk hg1 hb2 HB HR
    by_cases h4 : us.length = 4
    · obtain ⟨u0, u1, u2, u3, rfl⟩ : ∃ a b c d, us = [a, b, c, d] := by
        match us, h4 with
        | [a, b, c, d], _ => exact ⟨a, b, c, d, rfl⟩
      have c0 := hcs 0 (by simp)
      have c1 := hcs 1 (by simp)
      have c2 := hcs 2 (by simp)
      have c3 := hcs 3 (by simp)
      simp only [List.getElem_cons_zero, List.getElem_cons_succ, strV] at c0 c1 c2 c3
      simp only [List.length_cons, List.length_nil, Nat.zero_add, Nat.reduceAdd] at hc1 ⊢
      have hl1 : u1.length ≤ 4000000 := Nat.le_trans (HWL.out u1 (by simp)) hl
      have hl2 : u2.length ≤ 4000000 := Nat.le_trans (HWL.out u2 (by simp)) hl
      have hl3 : u3.length ≤ 4000000 := Nat.le_trans (HWL.out u3 (by simp)) hl
      clear hcs h4
      by_cases hw0 : u0 = wordGuess
      · subst hw0
        unfold wordGuess at c0
        have hO1 := digitsOf_any u1 w2 hl1
        go_wp2_with fail
        refine hO1.mono ?_
        rintro e w3 ⟨a1, k1, rfl, ho1, hb3⟩
        have HS2 := Lib.hid hb2'.size
        have HB3 := Lib.hid (hb2'.trans (hb3.mono hb2'.size))
        have HZ3 := Lib.hid ((hb3.block _ (Array.getElem?_eq_some_iff.1 hz2).1).trans hz2)
        have HG3 := Lib.hid (Nat.lt_of_lt_of_le hg2 hb3.size)
        have c2 := (hb3.cell hg2).trans c2
        have c3 := (hb3.cell hg2).trans c3
        have HO1 := Lib.hid ho1
        have hO2 := digitsOf_any u2 w3 hl2
        clear hO1 ho1 hb2' hz2 hg2 c0 c1 hb3
        go_wp2_with fail
        refine hO2.mono ?_
        rintro e w4 ⟨a2, k2, rfl, ho2, hb4⟩
        have HB4 := Lib.hid (HB3.out.trans (hb4.mono HB3.out.size))
        have HZ4 := Lib.hid ((hb4.block _ (Array.getElem?_eq_some_iff.1 HZ3.out).1).trans HZ3.out)
        have c3 := (hb4.cell HG3.out).trans c3
        have HO1 := Lib.hid (HO1.out.below hb4)
        have HO2 := Lib.hid ho2
        have hO3 := digitsOf_any u3 w4 hl3
        clear hO2 ho2 c2 hb4
        go_wp2_with fail
        refine hO3.mono ?_
        rintro e w5 ⟨a3, k3, rfl, ho3, hb5⟩
        have HB5 := Lib.hid (HB4.out.trans (hb5.mono HB4.out.size))
        have HZ5 := Lib.hid ((hb5.block _ (Array.getElem?_eq_some_iff.1 HZ4.out).1).trans HZ4.out)
        have HX1 := Lib.hid ((HO1.out.below hb5).mono HS2.out)
        have HX2 := Lib.hid (HO2.out.below hb5)
        have HX3 := Lib.hid ho3
        have HROW := Lib.hid (fun h => read_row (l := l) HBK.out HUS.out h)
        have HIMP := Lib.hid (fun r n t2 t3 h2 h3 => read_impl (l := l) (r := r) (n := n) (t2 := t2) (t3 := t3) HBK.out HUS.out h2 h3)
        clear hO3 ho3 c3 hb5 HO1 HO2 HB3 HZ3 HB4 HZ4 hl1 hl2 hl3
        rcases e1 : rowB u1 with _ | _
        · have HF := Lib.hid (box_none (HROW.out (.inl e1)) HZ5.out HB5.out)
          obtain ⟨z0, z1, z2, z3, zf⟩ := box_zero HZ5.out
          go_wp2
          ((try simp only [Exit.inBlock, Exit.then]); refine bodyPost_ret (results_cell_tmp rfl _ _ w.heap.size _ _ (0, 0) _ rfl HF.out.2 Tryz.underlying41 rfl (by kernel_rfl)) rfl ?_)
          exact HF.out.1
        · rcases e2 : rowB u2 with _ | _
          · have HF := Lib.hid (box_none (HROW.out (.inr (.inl e2))) HZ5.out HB5.out)
            obtain ⟨z0, z1, z2, z3, zf⟩ := box_zero HZ5.out
            go_wp2
            ((try simp only [Exit.inBlock, Exit.then]); refine bodyPost_ret (results_cell_tmp rfl _ _ w.heap.size _ _ (0, 0) _ rfl HF.out.2 Tryz.underlying41 rfl (by kernel_rfl)) rfl ?_)
            exact HF.out.1
          · rcases e3 : rowB u3 with _ | _
            · have HF := Lib.hid (box_none (HROW.out (.inr (.inr e3))) HZ5.out HB5.out)
              obtain ⟨z0, z1, z2, z3, zf⟩ := box_zero HZ5.out
              go_wp2
              ((try simp only [Exit.inBlock, Exit.then]); refine bodyPost_ret (results_cell_tmp rfl _ _ w.heap.size _ _ (0, 0) _ rfl HF.out.2 Tryz.underlying41 rfl (by kernel_rfl)) rfl ?_)
              exact HF.out.1
            · obtain ⟨r, t2, hx2⟩ := rowB_cons e2
              obtain ⟨n, t3, hx3⟩ := rowB_cons e3
              have HI := Lib.hid (HIMP.out r n t2 t3 hx2 hx3)
              obtain ⟨g2, rfl, hg2, _, d2⟩ := HX2.out.first hx2
              obtain ⟨g3, rfl, hg3, _, d3⟩ := HX3.out.first hx3
              have hp2 : 0 < (rowX u2).length := by rw [hx2]; simp
              have hp3 : 0 < (rowX u3).length := by rw [hx3]; simp
              obtain ⟨L2, hL2⟩ : ∃ L, L = (rowX u2).length := ⟨_, rfl⟩
              obtain ⟨L3, hL3⟩ : ∃ L, L = (rowX u3).length := ⟨_, rfl⟩
              rw [← hL2] at hp2 ⊢
              rw [← hL3] at hp3 ⊢
              have HIN := Lib.hid (rowX_in u1)
              obtain ⟨xs, hxs⟩ : ∃ xs, xs = rowX u1 := ⟨_, rfl⟩
              rw [← hxs] at HX1 HI HIN ⊢
              have q2 : (0 : Int) < (L2 : Int) := by omega
              have q3 : (0 : Int) < (L3 : Int) := by omega
              clear hx2 hx3 hL2 hL3 hxs HX2 HX3 HIMP HROW e1 e2 e3
              go_upto_region 11 with fail
              go_cut [11] (fun s wx => MadeD w5 a1 xs.length k1 r n s wx)
              case first =>
                go_region_held3 (fun w' => w'.cell? ⟨g2, 0, none⟩ = some (.int .i64 r) ∧ w'.cell? ⟨g3, 0, none⟩ = some (.int .i64 n))
                  (first
                    | go_keep
                    | fail)
                  (fail)
                all_goals (go_wp2_with fail; go_meet; exact MadeD.new _ _ _ _ _ _)
              case rest =>
                obtain ⟨G, rfl, hb6, hG, hat⟩ := hcut
                obtain ⟨w6, rfl⟩ : ∃ z, z = wc := ⟨_, rfl⟩
                have HB6 := Lib.hid (HB5.out.trans (hb6.mono HB5.out.size))
                have HZ6 := Lib.hid ((hb6.block _ (Array.getElem?_eq_some_iff.1 HZ5.out).1).trans HZ5.out)
                have HX6 := Lib.hid (HX1.out.below hb6)
                have HAT := Lib.hid hat
                have hT := deedTextI_any false _ xs r n w6 (HX6.out.toInts HIN.out)
                obtain ⟨y0, y1, y2, y3⟩ := deed_cells hat
                unfold TextOut strV at hT
                obtain ⟨T, hTT⟩ : ∃ T, T = textD ⟨false, xs, r, n⟩ := ⟨_, rfl⟩
                rw [← hTT] at HI hT
                clear hb6 hat d2 d3 hg2 hg3 hp2 hp3 q2 q3 hTT HX1 HZ5 HB5 HIN
                unfold dV at hT
                go_wp2_with fail
                refine hT.mono ?_
                rintro e w7 ⟨rfl, hb7⟩
                have HB7 := Lib.hid (HB6.out.trans (hb7.mono HB6.out.size))
                have HZ7 := Lib.hid ((hb7.block _ (Array.getElem?_eq_some_iff.1 HZ6.out).1).trans HZ6.out)
                have HX7 := Lib.hid (HX6.out.below hb7)
                obtain ⟨y0, y1, y2, y3⟩ := deed_cells ((hb7.block _ (Array.getElem?_eq_some_iff.1 HAT.out).1).trans HAT.out)
                obtain ⟨z0, z1, z2, z3, zf⟩ := box_zero HZ7.out
                clear hT hb7
                by_cases hTl : T = l
                · have hr := HI.out
                  rw [if_pos hTl] at hr
                  have HF := Lib.hid (box_out (d := ⟨false, xs, r, n⟩) (rd_some hr).1 (rd_some hr).2 HZ7.out HB7.out HX7.out)
                  have hq : (T == l) = true := by simp [hTl]
                  clear hTl hr
                  go_wp2
                  ((try simp only [Exit.inBlock, Exit.then]); refine bodyPost_ret (results_cell_tmp rfl _ _ w.heap.size _ _ (0, 0) _ rfl HF.out.2 Tryz.underlying41 rfl (by kernel_rfl)) rfl ?_)
                  exact HF.out.1
                · have hr := HI.out
                  rw [if_neg hTl] at hr
                  have HF := Lib.hid (box_none hr HZ7.out HB7.out)
                  have hq : (T == l) = false := by simpa using hTl
                  clear hTl hr
                  go_wp2
                  ((try simp only [Exit.inBlock, Exit.then]); refine bodyPost_ret (results_cell_tmp rfl _ _ w.heap.size _ _ (0, 0) _ rfl HF.out.2 Tryz.underlying41 rfl (by kernel_rfl)) rfl ?_)
                  exact HF.out.1
      · have h0 : (u0 == [103, 117, 101, 115, 115]) = false := by simpa [wordGuess] using hw0
        have HF := Lib.hid (box_none (l := l) (read_word HBK.out HUS.out hw0) hz2 hb2')
        obtain ⟨z0, z1, z2, z3, zf⟩ := box_zero hz2
        clear hz2 hb2' c1 c2 c3
        go_wp2
        ((try simp only [Exit.inBlock, Exit.then]); refine bodyPost_ret (results_cell_tmp rfl _ _ w.heap.size _ _ (0, 0) _ rfl HF.out.2 Tryz.underlying41 rfl (by kernel_rfl)) rfl ?_)
        exact HF.out.1
    · have h4' : ¬ ((us.length : Int) = 4) := by omega
      have HF := Lib.hid (box_none (l := l) (read_len HBK.out (by rw [HUS.out]; exact h4)) hz2 hb2')
      obtain ⟨z0, z1, z2, z3, zf⟩ := box_zero hz2
      clear hz2 hb2' h4 hcs
      go_wp2
      ((try simp only [Exit.inBlock, Exit.then]); refine bodyPost_ret (results_cell_tmp rfl _ _ w.heap.size _ _ (0, 0) _ rfl HF.out.2 Tryz.underlying41 rfl (by kernel_rfl)) rfl ?_)
      exact HF.out.1

end Go.Proofs.YtenlngclocfnlaaGreatDoor
