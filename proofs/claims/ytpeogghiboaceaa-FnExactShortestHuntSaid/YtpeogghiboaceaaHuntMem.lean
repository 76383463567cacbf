/- The map of hunts and the queue: what they hold, and their steps. -/
import Derived.Test.YtpeogghiboaceaaShort
import Derived.Test.YtpeogghiboaceaaLeftLaw
import Derived.Maps.OwnSet
import Derived.Maps.OwnOps
import Derived.ArgAppend
namespace Go.Proofs.Ytpeogghiboaceaa
open Go.RowKit Go.Maps
set_option linter.unusedVariables false

theorem keyLaw : Keyed Try.prog 3 := int_keyed Try.underlying3
theorem zeroInts (w : World) : (zeroValue 24).run Try.prog w = .ok (.slice none 0 0) w := by kernel_rfl
/-- An element of the map reads as itself. -/
def heldR : Value → Option (DataW Value × List MemPlace) := fun v => some (.held v, [])
def keyL (s : Nat) : Lit := .int .i64 s
theorem keyOf_keyL {s : Nat} (hs : s < 64) : keyOf Try.prog 3 (.int .i64 s) = some (keyL s) := keyOf_int_mk Try.underlying3 (WalkArith.wf_i64 (by omega))
theorem keyL_key {s : Nat} (hs : s < 64) : WideAt.IsKeyLit (keyL s) := keyLaw.key (keyOf_keyL hs)
theorem keyL_ne {s t : Nat} (h : s ≠ t) : keyL s ≠ keyL t := fun e => h (by unfold keyL at e; injection e with _ e; omega)

/-- The map holds, of each word found, its slice at the set that it leads to; and no other keys. -/
def MapIs (xss : List (List Int)) (D : DataW Value) (L : List (List Nat)) (Vs : Nat → Value) : Prop :=
  (∀ t, t < L.length → D.atKey (keyL (run0 xss (nth L t))) (.held (.slice none 0 0)) = .held (Vs t)) ∧
  ∀ s, s < 64 → (Maps.has D (keyL s) = true ↔ ∃ t, t < L.length ∧ run0 xss (nth L t) = s)

theorem run0_lt64 {xss : List (List Int)} (hn : xss.length ≤ 6) (w : List Nat) : run0 xss w < 64 :=
  pow_64 hn (runF_lt (full_lt xss) w)
theorem MapIs.put {xss : List (List Int)} {D : DataW Value} {L : List (List Nat)} {Vs : Nat → Value} (hn : xss.length ≤ 6) (hD : IsMap D) (h : MapIs xss D L Vs) {x : List Nat} (hx : ∀ t, t < L.length → run0 xss (nth L t) ≠ run0 xss x) (v : Value) :
    MapIs xss (D.put (keyL (run0 xss x)) (.held v)) (L ++ [x]) (fun t => if t = L.length then v else Vs t) := by
  have hk := keyL_key (run0_lt64 hn x)
  refine ⟨fun t ht => ?_, fun s hs => ?_⟩
  · by_cases e : t = L.length
    · subst e
      rw [nth_new, show (fun t => if t = L.length then v else Vs t) L.length = v from if_pos rfl]
      exact atKey_put_same hD hk _ _
    · have ht' : t < L.length := by simp at ht; omega
      rw [nth_old ht', show (fun t => if t = L.length then v else Vs t) t = Vs t from if_neg e, atKey_put_other (keyL_ne (hx t ht'))]
      exact h.1 t ht'
  · by_cases e : s = run0 xss x
    · subst e
      rw [has_put_same hD hk]
      simp only [true_iff]
      exact ⟨L.length, by simp, by rw [nth_new]⟩
    · rw [has_put_other (keyL_ne e), h.2 s hs]
      constructor
      · rintro ⟨t, ht, hr⟩
        exact ⟨t, by simp; omega, by rw [nth_old ht]; exact hr⟩
      · rintro ⟨t, ht, hr⟩
        by_cases e2 : t = L.length
        · subst e2; rw [nth_new] at hr; exact absurd hr.symm e
        · have ht' : t < L.length := by simp at ht; omega
          exact ⟨t, ht', by rw [nth_old ht'] at hr; exact hr⟩

/-- An entry of a map's literal. -/
theorem wpList_insert_own {H : Type} {P : Program} (w : World) {ops : Array Oper} {rest : List Oper} {o : Oper} {a : Act} {Q : Exit → Act → World → Prop}
    (hg : o.guard = none) (m x v : Operand) (t : TypeId) (hop : o.op = Op.insert t m x v)
    (k e : TypeId) (K : Keyed P k) (ht : P.underlying t = some (.map k e)) (R : Value → Option (DataW H × List MemPlace)) (b n : Nat) (D : DataW H)
    (hm : a.eval m = .map (some b)) (hown : w.ownsMap P k R b n D) (hn : n < maxLen) (key val : Value) (kl : Lit) (hx : a.eval x = key) (hv : a.eval v = val) (hkey : keyOf P k key = some kl)
    (d : DataW H) (ps : List MemPlace) (hval : R val = some (d, ps))
    (hK : ∀ w', w'.ownsMap P k R b (n + 1) (D.put kl d) → w.grownBy w' (some b) → wpList P ops Q rest (a.put o.dst undef) w') :
    wpList P ops Q (o :: rest) a w := by
  refine wpList_plain hg fun K' hK' => ?_
  obtain ⟨w', hrun, r1, r2⟩ := hown.update K ht hn hkey hval
  unfold Oper.wp
  simp [execOp, hop, hm, hx, hv, hrun, Result.andThen]
  exact hK' _ _ (hK w' r1 r2)

/-- The queue: the numbers that are left of a row of the call's own. -/
def QueueW (B : Nat) (w : World) (qv : Value) (xs : List Int) : Prop :=
  ∃ gq off c ps, qv = .slice (some ⟨gq, off, none⟩) xs.length c ∧ ps.length = off ∧ OwnI B w (.slice (some ⟨gq, 0, none⟩) (off + xs.length) (off + c)) (ps ++ xs)
theorem QueueW.head {B : Nat} {w : World} {qv : Value} {x : Int} {xs : List Int} (h : QueueW B w qv (x :: xs)) :
    ∃ gq off c, qv = .slice (some ⟨gq, off, none⟩) (xs.length + 1) c ∧ B ≤ gq ∧ xs.length + 1 ≤ c ∧ off + c ≤ 9223372036854775807 ∧ w.cell? ⟨gq, off, none⟩ = some (.int .i64 x) ∧
      QueueW B w (.slice (some ⟨gq, off + 1, none⟩) xs.length (c - 1)) xs := by
  obtain ⟨gq, off, c, ps, rfl, hp, ho⟩ := h
  have hc := (ho.cellD off (by simp; omega)).1
  rw [getD_get (by simp; omega)] at hc
  have e : (ps ++ x :: xs)[off]'(by simp; omega) = x := by simp [← hp]
  rw [e] at hc
  obtain ⟨a, cap, he, h1, h2⟩ := own_shape ho
  injection he with _ _ e3
  subst e3
  unfold maxLen at h2
  rw [List.length_append, hp, List.length_cons] at h1
  have hB : B ≤ gq := (World.ownsRow.lt ho gq rfl).1
  refine ⟨gq, off, c, rfl, hB, by omega, by omega, hc, ⟨gq, off + 1, c - 1, ps ++ [x], rfl, by simp [hp], ?_⟩⟩
  have e1 : off + 1 + xs.length = off + (x :: xs).length := by simp; omega
  have e2 : off + 1 + (c - 1) = off + c := by omega
  rw [e1, e2]
  simpa using ho

theorem OwnI.room {B : Nat} {w : World} {g n cap : Nat} {xs : List Int} (h : OwnI B w (.slice (some ⟨g, 0, none⟩) n cap) xs) (hl : xs.length = n) (hn : n < cap) (u : Int) :
    OwnI B (w.setCell ⟨g, n, none⟩ (.int .i64 u)) (.slice (some ⟨g, 0, none⟩) (n + 1) cap) (xs ++ [u]) := by
  subst hl
  rcases h.2 with ⟨h', _⟩ | ⟨g', cap', cur, h', hb, hg, hnc, hcm, hcs, htake⟩
  · simp at h'
  · injection h' with h1 _ h3
    injection h1 with h1
    injection h1 with h1 _ _
    subst h1 h3
    have hsz : cur.toList.length = cap := by simpa using hcs
    refine ⟨by simp, .inr ⟨g, cap, cur.setIfInBounds xs.length (.int .i64 u), by simp, hb, heap_setCell_same w g xs.length cur _ _ hg, by simp; omega, hcm, by simpa using hcs, ?_⟩⟩
    rw [ints_append, ← htake, Array.toList_setIfInBounds]
    have hlt : xs.length < cur.toList.length := by omega
    have e1 : (xs ++ [u]).length * 1 = xs.length + 1 := by simp
    have e2 : xs.length * 1 = xs.length := by simp
    rw [e1, e2, List.take_succ_eq_append_getElem (by simpa using hlt), List.getElem_set_self, List.take_set_of_le (Nat.le_refl _)]
    rfl

set_option maxRecDepth 100000 in
/-- 'queue = append(queue, n)'. -/
theorem wpList_push_queue (w : World) {ops : Array Oper} {rest : List Oper} {o : Oper} {a : Act} {Q : Exit → Act → World → Prop}
    (hg : o.guard = none) (s x : Operand) (hop : o.op = Op.call { callee := Callee.builtin Builtin.append, args := #[s, x], argTypes := #[24, 24] })
    (B : Nat) (qv : Value) (xs : List Int) (hs : a.eval s = qv) (h : QueueW B w qv xs) (ad : Addr) (c0 : Nat) (n : Int) (hx : a.eval x = .slice (some ad) 1 c0) (hc : w.cell? ad = some (.int .i64 n))
    (hlen : xs.length ≤ 1000000) (hB : B ≤ w.heap.size)
    (hK : ∀ a' c' w', QueueW B w' (.slice a' (xs.length + 1) c') (xs ++ [n]) → w.grownBy w' qv.ownBlock → ((Value.slice a' (xs.length + 1) c').ownBlock = qv.ownBlock ∨ ∃ g, (Value.slice a' (xs.length + 1) c').ownBlock = some g ∧ w.heap.size ≤ g) →
      wpList Try.prog ops Q rest (a.put o.dst (.slice a' (xs.length + 1) c')) w') :
    wpList Try.prog ops Q (o :: rest) a w := by
  obtain ⟨gq, off, c, ps, rfl, hp, ho⟩ := h
  obtain ⟨i0, hi, hz0, hz1, hz2⟩ := info_parts infoInt
  have hpl : (ps ++ xs).length = off + xs.length := by simp [hp]
  refine wpList_append_arg w hg s x 24 hop 3 i0 (.int .i64 0) 1 8 Try.underlying24 hi hz0 hz1 hz2 rfl (by decide) gq off xs.length c (ints xs) hs (by simp) ?_ ad 1 c0 [.int .i64 n] hx rfl ?_ (by simp [Value.oneCell']) ?_ (by unfold maxLen; omega) (by omega) ?_ ?_
  · intro j u hj
    have hlt : j < xs.length := by
      have := (List.getElem?_eq_some_iff.1 hj).1
      simpa using this
    have : (ints xs)[j]? = some (.int .i64 xs[j]) := by rw [List.getElem?_eq_getElem (by simpa using hlt)]; simp
    rw [this] at hj
    obtain rfl := Option.some.inj hj
    have hcd := (ho.cellD (off + j) (by omega)).1
    rw [getD_get (by omega)] at hcd
    rw [hcd]
    congr 2
    rw [List.getElem_append_right (by omega)]
    congr 1
    omega
  · intro j u hj
    match j, hj with
    | 0, hj => simp at hj; subst hj; simpa [Addr.add] using hc
  · intro hr j hj
    have hj0 : j = 0 := by simpa using hj
    subst hj0
    have ho9 := ho
    unfold OwnI at ho9
    rw [hpl] at ho9
    refine ⟨?_, World.ownsRow.frozenAt ho9 _⟩
    rcases ho.2 with ⟨h', _⟩ | ⟨g', cap', cur, h', hb, hgg, hnc, hcm, hcs, htake⟩
    · simp at h'
    · injection h' with h1 _ h3
      injection h1 with h1
      injection h1 with h1 _ _
      subst h1 h3
      rw [cell_of_row w gq _ cur _ (0, 0) hgg, Array.getElem?_eq_getElem (by omega)]
      rfl
  · intro hr
    have hrm := ho.room hpl (by omega) n
    refine hK (some ⟨gq, off, none⟩) c _ ⟨gq, off, c, ps, by simp, hp, ?_⟩ ?_ (.inl rfl)
    · simp only [World.setCells, Nat.mul_one, List.length_append, List.length_singleton]
      rw [List.append_assoc] at hrm
      rw [← Nat.add_assoc]
      exact hrm
    · simp only [World.setCells, Nat.mul_one]
      exact grownBy_setCell w ⟨gq, off + xs.length, none⟩ (.int .i64 n)
  · intro hr v' w' hown hgr
    obtain ⟨a', cap', rfl, _⟩ := own_shape hown
    obtain ⟨g', cap2, he, hgB, _⟩ := own_head hown (by omega)
    injection he with e1 _ e3
    subst e1 e3
    refine hK (some ⟨g', 0, none⟩) cap' w' ⟨g', 0, cap', [], by simp, rfl, ?_⟩ ⟨hgr.os, hgr.tape, hgr.output, hgr.size, fun k hk _ => hgr.block k hk (by simp)⟩ (.inr ⟨g', rfl, hgB⟩)
    have h9 := owns_mono hown hB
    unfold OwnI
    simp only [List.nil_append, Nat.zero_add, List.length_append, List.length_singleton]
    rw [ints_append]
    exact h9

end Go.Proofs.Ytpeogghiboaceaa
