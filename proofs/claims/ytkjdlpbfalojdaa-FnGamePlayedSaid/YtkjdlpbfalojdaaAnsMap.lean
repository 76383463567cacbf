/- The map from answers to numbers. -/
import Derived.Test.YtkjdlpbfalojdaaWorstMath
import Derived.WideKeyEntry
import Derived.DeepKeys4
import Derived.RangeFuncLeaves
import Derived.RangeFuncNested
namespace Go.Proofs.Ytkjdlpbfalojdaa
open Go.RowKit
open Go.WideMaps (KeyLaw)
set_option linter.unusedVariables false
set_option maxRecDepth 100000

theorem ansLaid : laidOutB Try.prog = true := by kernel_rfl
theorem ansRow : (100 : TypeId) < Try.prog.types.size := of_decide_eq_true (by kernel_rfl)
theorem ansWide : (match Try.prog.underlying 100 with | some (.array _ _) | some (.struct _) => true | _ => false) = true := by rw [Try.underlying100]
theorem ansLaw : KeyLaw Try.prog 100 := deep_law_laid ansLaid (m := 2) (by omega) ansRow (by kernel_rfl) ansWide
def ansV (a : Int × Int) : Value := .agg #[.int .i64 a.1, .int .i64 a.2]
theorem ansV_inj {a b : Int × Int} (h : ansV a = ansV b) : a = b := by
  unfold ansV at h
  injection h with h
  have h1 := congrArg (fun x => x[0]?) h
  have h2 := congrArg (fun x => x[1]?) h
  simp at h1 h2
  exact Prod.ext h1 h2
theorem ansKey (a : Int × Int) (h1 : (Lit.int .i64 a.1).wf = true) (h2 : (Lit.int .i64 a.2).wf = true) : ∃ kl, keyOf Try.prog 100 (ansV a) = some kl := by
  have k1 : Try.prog.keyType 100 = true := by kernel_rfl
  have k2 : (ansV a).formed Try.prog 100 = true := by
    have c : Try.prog.cellsOf 100 = 2 := by kernel_rfl
    simp [ansV, Value.formed, Try.underlying100, c]
  have k3 : ∀ d, Try.prog.keyLits (d + 1) 3 [.int .i64 a.1] = some [.int .i64 a.1] := fun d => by simp [Program.keyLits, Try.underlying3, h1]
  have k4 : ∀ d, Try.prog.keyLits (d + 1) 3 [.int .i64 a.2] = some [.int .i64 a.2] := fun d => by simp [Program.keyLits, Try.underlying3, h2]
  have k5 : ∀ d, ∃ ls, Try.prog.keyLits (d + 1 + 1) 100 [.int .i64 a.1, .int .i64 a.2] = some ls := fun d => by
    have c : Try.prog.cellsOf 100 = 2 := by kernel_rfl
    have c3 : Try.prog.cellsOf 3 = 1 := by kernel_rfl
    unfold Program.keyLits
    simp [Try.underlying100, c, c3, k3 d, k4 d]
  obtain ⟨n, hn⟩ : ∃ n, Try.prog.types.size = n + 1 := ⟨Try.prog.types.size - 1, (Nat.succ_pred_eq_of_pos (Nat.lt_of_le_of_lt (Nat.zero_le _) ansRow)).symm⟩
  obtain ⟨ls, hls⟩ := k5 n
  unfold keyOf
  rw [Try.underlying100, hn]
  simp only [k1, k2, Bool.and_self, if_true]
  have e : (ansV a).cells.toList = [.int .i64 a.1, .int .i64 a.2] := rfl
  rw [e, hls]
  exact ⟨_, rfl⟩

def GoodK (a : Int × Int) : Prop := (Lit.int .i64 a.1).wf = true ∧ (Lit.int .i64 a.2).wf = true

/-- The block b is a map from answers to numbers that holds f. -/
def MapSt (b : Nat) (f : Int × Int → Nat) (w : World) : Prop :=
  ∃ (es : Array MapEntry) (clock : Nat), w.heap[b]? = some (.map es clock) ∧ (∀ e ∈ es.toList, ∃ a, e.key = ansV a ∧ GoodK a ∧ e.val = .int .i64 (f a : Nat)) ∧
    (∀ e ∈ es.toList, e.born < clock) ∧ (es.toList.map (·.born)).Nodup ∧ (∀ a, f a ≠ 0 → ∃ e ∈ es.toList, e.key = ansV a) ∧ (es.toList.map (·.key)).Nodup
/-- The entry of a bears the number st. -/
def EntAt (b : Nat) (a : Int × Int) (st : Nat) (w : World) : Prop := ∃ (es : Array MapEntry) (clock : Nat), w.heap[b]? = some (.map es clock) ∧ ∃ e ∈ es.toList, e.key = ansV a ∧ e.born = st

theorem MapSt.keep {b : Nat} {f : Int × Int → Nat} {w w' : World} (h : MapSt b f w) (hb : w'.heap[b]? = w.heap[b]?) : MapSt b f w' := by
  obtain ⟨es, clock, h1, h2⟩ := h
  exact ⟨es, clock, hb.trans h1, h2⟩
theorem EntAt.keep {b st : Nat} {a : Int × Int} {w w' : World} (h : EntAt b a st w) (hb : w'.heap[b]? = w.heap[b]?) : EntAt b a st w' := by
  obtain ⟨es, clock, h1, h2⟩ := h
  exact ⟨es, clock, hb.trans h1, h2⟩
theorem mapSt_new (w : World) : MapSt w.heap.size (fun _ => 0) (w.alloc (.map #[] 0)) := ⟨#[], 0, World.alloc_heap_new w _, by simp, by simp, by simp, by simp, by simp⟩

theorem keys_ok {b : Nat} {f : Int × Int → Nat} {es : Array MapEntry} (h : ∀ e ∈ es.toList, ∃ a, e.key = ansV a ∧ GoodK a ∧ e.val = .int .i64 (f a : Nat)) : ∀ e ∈ es.toList, ∃ l, keyOf Try.prog 100 e.key = some l := fun e he => by
  obtain ⟨a, ha, ⟨h1, h2⟩, _⟩ := h e he
  rw [ha]
  exact ansKey a h1 h2

theorem mapLook_run {b : Nat} {f : Int × Int → Nat} {w : World} (h : MapSt b f w) {a : Int × Int} (ha : GoodK a) :
    (Instr.lookup 119 (.map (some b)) (ansV a) false).run Try.prog w = .ok (.int .i64 (f a : Nat)) w := by
  obtain ⟨es, clock, hb, h1, h2, h3, h4, h5⟩ := h
  obtain ⟨kl, hkl⟩ := ansKey a ha.1 ha.2
  have ht := Try.underlying119
  have hz := Try.zeroValue3
  rcases ansLaw.find w hkl es.toList (keys_ok (b := b) h1) with ⟨e1, e2⟩ | ⟨j, e, e1, e2, e3⟩
  · have hf : f a = 0 := by
      apply Classical.byContradiction
      intro hne
      obtain ⟨e, he, hk⟩ := h4 a hne
      exact e2 e he hk
    rw [hf]
    simp [Instr.lookup, run_underlying ht, MapKept.run_getObj_map hb, ansLaw.check w _ hkl, e1, hz, Result.andThen]
  · have he := List.mem_of_getElem? e2
    obtain ⟨a', ha', _, hv⟩ := h1 e he
    have : a' = a := ansV_inj (ha'.symm.trans e3)
    subst this
    simp [Instr.lookup, run_underlying ht, MapKept.run_getObj_map hb, ansLaw.check w _ hkl, e1, hv, Result.andThen]

theorem mapEntry_run {b : Nat} {f : Int × Int → Nat} {w : World} (h : MapSt b f w) {a : Int × Int} (ha : GoodK a) :
    ∃ st w1, (Instr.mapEntry 119 (.map (some b)) (ansV a)).run Try.prog w = .ok (.tuple #[.int .i64 (f a : Nat), .int .i64 (st : Nat)]) w1 ∧ w.grownBy w1 (some b) ∧ MapSt b f w1 ∧ EntAt b a st w1 := by
  obtain ⟨es, clock, hb, h1, h2, h3, h4, h5⟩ := h
  obtain ⟨kl, hkl⟩ := ansKey a ha.1 ha.2
  have ht := Try.underlying119
  have hz := Try.zeroValue3
  have hlt := (Array.getElem?_eq_some_iff.1 hb).1
  rcases ansLaw.find w hkl es.toList (keys_ok (b := b) h1) with ⟨e1, e2⟩ | ⟨j, e, e1, e2, e3⟩
  · have hf : f a = 0 := by
      apply Classical.byContradiction
      intro hne
      obtain ⟨e, he, hk⟩ := h4 a hne
      exact e2 e he hk
    refine ⟨clock, w.putObj b (.map (es.push ⟨ansV a, .int .i64 0, clock⟩) (clock + 1)), ?_, grownBy_putObj' w b _, ⟨es.push ⟨ansV a, .int .i64 0, clock⟩, clock + 1, World.putObj_heap_same hlt, ?_, ?_, ?_, ?_, ?_⟩, ⟨es.push ⟨ansV a, .int .i64 0, clock⟩, clock + 1, World.putObj_heap_same hlt, ⟨ansV a, .int .i64 0, clock⟩, by simp, rfl, rfl⟩⟩
    · rw [hf]
      simp [Instr.mapEntry, run_underlying ht, MapKept.run_getObj_map hb, ansLaw.check w false hkl, e1, hz, MapKept.run_setObj_map _ hb, Result.andThen, goInt, World.putObj]
    · intro e he
      rw [Array.toList_push, List.mem_append, List.mem_singleton] at he
      rcases he with he | rfl
      · exact h1 e he
      · exact ⟨a, rfl, ha, by rw [hf]; rfl⟩
    · intro e he
      rw [Array.toList_push, List.mem_append, List.mem_singleton] at he
      rcases he with he | rfl
      · have := h2 e he; omega
      · simp
    · rw [Array.toList_push, List.map_append]
      refine List.nodup_append.2 ⟨h3, by simp, fun x hx y hy => ?_⟩
      simp only [List.map_cons, List.map_nil, List.mem_singleton] at hy
      obtain ⟨e, he, rfl⟩ := List.mem_map.1 hx
      have := h2 e he
      omega
    · intro a' hne
      obtain ⟨e, he, hk⟩ := h4 a' hne
      exact ⟨e, by rw [Array.toList_push, List.mem_append]; exact .inl he, hk⟩
    · rw [Array.toList_push, List.map_append]
      refine List.nodup_append.2 ⟨h5, by simp, fun x hx y hy => ?_⟩
      simp only [List.map_cons, List.map_nil, List.mem_singleton] at hy
      obtain ⟨e, he, rfl⟩ := List.mem_map.1 hx
      subst hy
      exact e2 e he
  · have he := List.mem_of_getElem? e2
    obtain ⟨a', ha', _, hv⟩ := h1 e he
    have : a' = a := ansV_inj (ha'.symm.trans e3)
    subst this
    have hj : es[j]? = some e := by simpa using e2
    have hsame : es.modify j (fun e => { e with key := ansV a' }) = es := by
      apply Array.ext'
      rw [Array.toList_modify, ChangeMaps.modify_eq_set _ _ _ _ e2]
      have : ({ e with key := ansV a' } : MapEntry) = e := by rw [← e3]
      rw [this]
      exact WideElems.set_self _ _ _ e2
    refine ⟨e.born, w.putObj b (.map es clock), ?_, grownBy_putObj' w b _, ⟨es, clock, World.putObj_heap_same hlt, h1, h2, h3, h4, h5⟩, ⟨es, clock, World.putObj_heap_same hlt, e, he, e3, rfl⟩⟩
    simp [Instr.mapEntry, run_underlying ht, MapKept.run_getObj_map hb, ansLaw.check w false hkl, e1, hj, e3, ansLaw.stays w hkl, hsame, hv, MapKept.run_setObj_map _ hb, Result.andThen, goInt, World.putObj]

theorem mapStore_run {b st : Nat} {f : Int × Int → Nat} {w : World} (h : MapSt b f w) {a : Int × Int} (he : EntAt b a st w) (ty : TypeId) (v : Nat) :
    ∃ w2, (Instr.entryStore ty (.map (some b)) (.int .i64 (st : Nat)) (.int .i64 (v : Nat))).run Try.prog w = .ok () w2 ∧ w.grownBy w2 (some b) ∧ MapSt b (fun x => if x = a then v else f x) w2 := by
  obtain ⟨es, clock, hb, h1, h2, h3, h4, h5⟩ := h
  obtain ⟨es', clock', hb', e0, he0, hk0, rfl⟩ := he
  rw [hb] at hb'
  injection hb' with hb'
  injection hb' with q1 q2
  subst q1
  subst q2
  have hlt := (Array.getElem?_eq_some_iff.1 hb).1
  obtain ⟨j, hj, hj0⟩ := List.getElem_of_mem he0
  have hj1 : es.toList[j]? = some e0 := by rw [List.getElem?_eq_getElem hj, hj0]
  have hidx : es.findIdx? (fun e => ((e.born : Nat) : Int) == ((e0.born : Nat) : Int)) = some j := by
    rw [WideElems.findIdx_arr]
    exact WideElems.findIdx_born h3 hj1
  have hmod : (es.modify j (fun e => { e with val := .int .i64 (v : Nat) })).toList = es.toList.set j { e0 with val := .int .i64 (v : Nat) } := by
    rw [Array.toList_modify, ChangeMaps.modify_eq_set _ _ _ _ hj1]
  refine ⟨w.putObj b (.map (es.modify j (fun e => { e with val := .int .i64 (v : Nat) })) clock), ?_, grownBy_putObj' w b _, ⟨_, clock, World.putObj_heap_same hlt, ?_, ?_, ?_, ?_, ?_⟩⟩
  · simp [Instr.entryStore, MapKept.run_getObj_map hb, asInt, asIntOf, hidx, MapKept.run_setObj_map _ hb, Result.andThen, World.putObj]
  · intro e hm
    rw [hmod] at hm
    obtain ⟨i, hi, rfl⟩ := List.getElem_of_mem hm
    rw [List.getElem_set]
    split
    · rename_i e; subst e
      obtain ⟨a', ha', hg, _⟩ := h1 e0 he0
      have : a' = a := ansV_inj (ha'.symm.trans hk0)
      subst this
      exact ⟨a', ha', hg, by simp⟩
    · rename_i hne
      have hi' : i < es.toList.length := by simpa using hi
      obtain ⟨a', ha', hg, hv⟩ := h1 _ (List.getElem_mem hi')
      refine ⟨a', ha', hg, ?_⟩
      have hna : ¬ a' = a := by
        rintro rfl
        have : (es.toList.map (·.key))[i]'(by simpa using hi') = (es.toList.map (·.key))[j]'(by simpa using hj) := by
          simp only [List.getElem_map]
          rw [ha', hj0, hk0]
        have hp := List.pairwise_iff_getElem.1 h5
        rcases Nat.lt_trichotomy i j with hl | hl | hl
        · exact hp i j _ _ hl this
        · exact hne hl.symm
        · exact hp j i _ _ hl this.symm
      simp only [if_neg hna]
      exact hv
  · intro e hm
    rw [hmod] at hm
    rcases List.mem_or_eq_of_mem_set hm with hm | rfl
    · exact h2 e hm
    · exact h2 e0 he0
  · rw [hmod, List.map_set]
    have : (es.toList.map (·.born)).set j e0.born = es.toList.map (·.born) := by
      apply WideElems.set_self
      rw [List.getElem?_map, hj1]; rfl
    rw [this]; exact h3
  · intro a' hne
    have hkey : ∀ e ∈ es.toList, ∃ e' ∈ (es.modify j (fun e => { e with val := .int .i64 (v : Nat) })).toList, e'.key = e.key := fun e hm => by
      obtain ⟨i, hi, rfl⟩ := List.getElem_of_mem hm
      by_cases hij : i = j
      · subst hij
        refine ⟨{ e0 with val := .int .i64 (v : Nat) }, ?_, by rw [hj0]⟩
        rw [hmod]
        exact List.mem_iff_getElem.2 ⟨i, by simpa using hj, by rw [List.getElem_set_self]⟩
      · refine ⟨es.toList[i], ?_, rfl⟩
        rw [hmod]
        refine List.mem_iff_getElem.2 ⟨i, by simpa using hi, ?_⟩
        rw [List.getElem_set_ne (fun e => hij e.symm)]
    by_cases e : a' = a
    · subst e
      obtain ⟨e', hm, hk⟩ := hkey e0 he0
      exact ⟨e', hm, hk.trans hk0⟩
    · simp only [if_neg e] at hne
      obtain ⟨e1, he1, hk1⟩ := h4 a' hne
      obtain ⟨e', hm, hk⟩ := hkey e1 he1
      exact ⟨e', hm, hk.trans hk1⟩
  · rw [hmod, List.map_set]
    have : (es.toList.map (·.key)).set j e0.key = es.toList.map (·.key) := by
      apply WideElems.set_self
      rw [List.getElem?_map, hj1]; rfl
    rw [this]; exact h5

end Go.Proofs.Ytkjdlpbfalojdaa
