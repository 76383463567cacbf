/- slices.Clone over ints, nil or not. -/
import Derived.Test.YtkjdlpbfalojdaaLeaf2
namespace Go.Proofs.Ytkjdlpbfalojdaa
open Go.RowKit
set_option linter.unusedVariables false
set_option maxRecDepth 100000

theorem run_eqlnil (w : World) (t e : TypeId) (a : Option Addr) (l c : Nat) (h : Try.prog.underlying t = some (.slice e)) : (binOp .eql t (.slice a l c) (.slice none 0 0)).run Try.prog w = .ok (.bool a.isNone) w := by
  simp only [binOp]
  simp [run_equal_slice_nil w t e a l c h]

/-- 'append(row, other...)', the other one's cells known. -/
theorem wpList_push_src (w : World) {ops : Array Oper} {rest : List Oper} {o : Oper} {a : Act} {Q : Exit → Act → World → Prop}
    (hg : o.guard = none) (s x : Operand) (hop : o.op = Op.call { callee := Callee.builtin Builtin.append, args := #[s, x], argTypes := #[38, 38] })
    (B : Nat) (v : Value) (xs : List Int) (hs : a.eval s = v) (hown : OwnI B w v xs) (ad : Addr) (c : Nat) (ys : List Int) (hx : a.eval x = .slice (some ad) ys.length c) (hc : ∀ i (h : i < ys.length), w.cell? (ad.add i) = some (.int .i64 ys[i]))
    (hlen : xs.length + ys.length ≤ 1099511627776) (hB : B ≤ w.heap.size)
    (hK : ∀ a' cap' w', OwnI B w' (.slice a' (xs.length + ys.length) cap') (xs ++ ys) → w.grownBy w' v.ownBlock → wpList Try.prog ops Q rest (a.put o.dst (.slice a' (xs.length + ys.length) cap')) w') :
    wpList Try.prog ops Q (o :: rest) a w := by
  obtain ⟨i0, hi, hz0, hz1, hz2⟩ := info_parts infoInt
  refine wpList_append_own w hg s x 38 hop B 3 i0 (.int .i64 0) 1 8 Try.underlying38 hi hz0 hz1 hz2 rfl (by decide) v xs.length (ints xs) hs hown ad ys.length c (ints ys) hx (by simp) ?_ (by intro u hu; obtain ⟨y, _, rfl⟩ := List.mem_map.1 hu; simp [Value.oneCell']) (by unfold maxLen; omega) (by omega) hB ?_
  · intro j u hj
    have hlt : j < ys.length := by
      have := (List.getElem?_eq_some_iff.1 hj).1
      simpa using this
    have : (ints ys)[j]? = some (.int .i64 ys[j]) := by rw [List.getElem?_eq_getElem (by simpa using hlt)]; simp
    rw [this] at hj
    obtain rfl := Option.some.inj hj
    exact hc j hlt
  · intro v' w' h1 h2 _
    obtain ⟨a', cap', rfl, _⟩ := own_shape h1
    refine hK a' cap' w' ?_ h2
    unfold OwnI
    rw [ints_append]
    simpa [ints] using h1

set_option maxHeartbeats 1000000 in
theorem cloneI_any {B : Nat} (v : Value) (xs : List Int) (w : World) (h : Ints B w v xs) (hnil : v = .slice none 0 0 ∨ ∃ ad n c, v = .slice (some ad) n c) (hl : xs.length ≤ 1099511627776) :
    Calls Try.prog 93 #[v] w (FreshI xs w) := by
  have hund := Try.underlying38
  rcases hnil with rfl | ⟨ad, n, cap, rfl⟩
  · obtain ⟨a', c', he, _, _, hyc⟩ := h.opened
    injection he with e1 e2 e3
    have e0 : xs = [] := List.eq_nil_of_length_eq_zero e2.symm
    subst e0
    clear e1 e2 e3 hyc h
    have hnil := fun (W : World) => run_eqlnil W 38 3 none 0 0 hund
    go_enter Try.func93, Try.ntmps93
    go_wp2
    go_ret
    exact ⟨none, 0, rfl, OwnI.empty _ _, Below.refl _ _⟩
  · obtain ⟨a', c', he, _, _, hyc⟩ := h.opened
    injection he with e1 e2 e3
    subst e1 e2 e3
    have hlit := OwnI.lit w
    clear h
    rcases Nat.eq_zero_or_pos xs.length with h0 | h0
    · have e0 : xs = [] := List.eq_nil_of_length_eq_zero h0
      subst e0
      have hcells : ∀ i (h : i < ([] : List Int).length), (w.alloc (.cells #[] 3)).cell? (ad.add i) = some (.int .i64 ([] : List Int)[i]) := fun i hi => by simp at hi
      have hnil := fun (W : World) => run_eqlnil W 38 3 (some ad) 0 cap hund
      clear hyc h0
      go_enter Try.func93, Try.ntmps93
      go_wp2_with (at_builtin; refine wpList_push_src _ rfl (.tmp 5) (.tmp 6) rfl w.heap.size (.slice (some ⟨w.heap.size, 0, none⟩) 0 0) [] rfl hlit ad cap [] rfl hcells (by simp) (by simp) ?_; intro a4 c4 w4 ho4 hg4; rw [List.nil_append] at ho4; (try rw [List.length_nil, Nat.zero_add] at ho4); (try rw [List.length_nil, Nat.zero_add]); have HO4 := Lib.hid ho4; have HG4 := Lib.hid hg4; clear ho4 hg4)
      go_ret
      exact ⟨a4, c4, rfl, HO4.out, ((Below.refl w.heap.size w).alloc (Nat.le_refl _) _).grown HG4.out (by simp <;> omega) (fun j hj => by cases hj; exact Nat.le_refl _)⟩
    · have hcells : ∀ i (h : i < xs.length), (w.alloc (.cells #[] 3)).cell? (ad.add i) = some (.int .i64 xs[i]) := fun i hi => by
        obtain ⟨b, off, hh, _, hc⟩ := hyc (by omega)
        injection hh with hh
        subst hh
        have hci := hc i hi
        have e : (⟨b, off, none⟩ : Addr).add i = ⟨b, off + i, none⟩ := by
          by_cases h0 : i = 0
          · subst h0; simp [Addr.add]
          · simp [Addr.add, h0]
        rw [e, World.cell?_of_block (w := w) (Below.heap_alloc w _ b (World.block_lt_of_cell? w _ hci))]
        exact hci
      have hnil := fun (W : World) => run_eqlnil W 38 3 (some ad) xs.length cap hund
      clear hyc h0
      go_enter Try.func93, Try.ntmps93
      go_wp2_with (at_builtin; refine wpList_push_src _ rfl (.tmp 5) (.tmp 6) rfl w.heap.size (.slice (some ⟨w.heap.size, 0, none⟩) 0 0) [] rfl hlit ad cap xs rfl hcells (by simp; omega) (by simp) ?_; intro a4 c4 w4 ho4 hg4; rw [List.nil_append] at ho4; (try rw [List.length_nil, Nat.zero_add] at ho4); (try rw [List.length_nil, Nat.zero_add]); have HO4 := Lib.hid ho4; have HG4 := Lib.hid hg4; clear ho4 hg4)
      go_ret
      exact ⟨a4, c4, rfl, HO4.out, ((Below.refl w.heap.size w).alloc (Nat.le_refl _) _).grown HG4.out (by simp <;> omega) (fun j hj => by cases hj; exact Nat.le_refl _)⟩

end Go.Proofs.Ytkjdlpbfalojdaa
