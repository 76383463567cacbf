/- The map of known lots: what it holds, and its steps. -/
import Derived.Test.YtpeogghiboaceaaNeed
import Derived.Maps.OwnSet
import Derived.Maps.OwnOps
import Derived.Maps.Range
namespace Go.Proofs.Ytpeogghiboaceaa
open Go.RowKit Go.Maps
set_option linter.unusedVariables false

theorem keyedInt : Keyed Try.prog 3 := int_keyed Try.underlying3
def keyN (s : Nat) : Lit := .int .i64 s
theorem keyOf_keyN {s : Nat} (hs : s < 128) : keyOf Try.prog 3 (.int .i64 s) = some (keyN s) := keyOf_int_mk Try.underlying3 (WalkArith.wf_i64 (by omega))
theorem keyN_key {s : Nat} (hs : s < 128) : WideAt.IsKeyLit (keyN s) := keyedInt.key (keyOf_keyN hs)
theorem keyN_inj {s t : Nat} (h : keyN s = keyN t) : s = t := by unfold keyN at h; injection h with _ h; omega

theorem nodup_bound : ∀ (n : Nat) (l : List Nat), l.Nodup → (∀ x ∈ l, x < n) → l.length ≤ n := by
  intro n
  induction n with
  | zero =>
    intro l _ h
    cases l with
    | nil => simp
    | cons x l => exact absurd (h x List.mem_cons_self) (by omega)
  | succ n ih =>
    intro l hd h
    by_cases hm : n ∈ l
    · have h1 := ih (l.erase n) (hd.erase n) (fun x hx => by
        have h2 := (hd.mem_erase_iff).1 hx
        have := h x h2.2
        have := h2.1
        omega)
      have h2 := List.length_erase_of_mem hm
      have h3 : 0 < l.length := List.length_pos_of_mem hm
      omega
    · have h1 := ih l hd (fun x hx => by
        have := h x hx
        have : x ≠ n := fun e => hm (e ▸ hx)
        omega)
      omega

abbrev MapI (w : World) (bm n : Nat) (D : DataW Value) : Prop := w.ownsMap Try.prog 3 (plainElem Try.prog 3) bm n D

/-- The map's keys are lots. -/
def KeysIn (D : DataW Value) : Prop := ∀ k, WideAt.IsKeyLit k → Maps.has D k = true → ∃ s, s < 128 ∧ k = keyN s

theorem mapI_exact {w : World} {bm n : Nat} {D : DataW Value} (h : MapI w bm n D) : MapI w bm (Maps.size D) D := by
  obtain ⟨es, clock, hb, F, hs, rfl⟩ := h
  exact ⟨es, clock, hb, F, by simp [Maps.size, length_sorted], rfl⟩
theorem mapI_small {w : World} {bm n : Nat} {D : DataW Value} (h : MapI w bm n D) (hk : KeysIn D) : MapI w bm 128 D := by
  refine (mapI_exact h).mono ?_
  obtain ⟨es, rfl, hp, hl⟩ := h.entries keyedInt
  have hs : ∀ p ∈ es, ∃ s, s < 128 ∧ p.1 = keyN s := fun p hp => hk p.1 (hl p hp) (List.any_eq_true.2 ⟨p, hp, WideAt.sameKey_self (hl p hp)⟩)
  let f : Lit × DataW Value → Nat := fun p => match p.1 with | .int _ n => n.toNat | _ => 0
  have hf : ∀ p ∈ es, f p < 128 ∧ p.1 = keyN (f p) := fun p hp => by
    obtain ⟨s, h1, h2⟩ := hs p hp
    have e : f p = s := by show (match p.1 with | .int _ n => n.toNat | _ => 0) = s; rw [h2]; simp [keyN]
    rw [e]; exact ⟨h1, h2⟩
  have h1 : (es.map f).Nodup := by
    rw [List.nodup_iff_pairwise_ne, List.pairwise_map]
    refine hp.imp_of_mem fun {a b} ha hb hne e => hne ?_
    rw [(hf a ha).2, (hf b hb).2, e]
  have h2 := nodup_bound 128 (es.map f) h1 fun x hx => by
    obtain ⟨p, hp, rfl⟩ := List.mem_map.1 hx
    exact (hf p hp).1
  simpa [Maps.size] using h2

/-- The map tells, of each lot that it knows, what it needs. -/
def MemoD (xss : List (List Int)) (D : DataW Value) : Prop :=
  KeysIn D ∧ ∀ s, s < 128 → Maps.has D (keyN s) = true → D.atKey (keyN s) (.lit (.int .i64 0)) = .lit (.int .i64 (need xss s))
def Memo (xss : List (List Int)) (bm : Nat) (w : World) : Prop := ∃ D, MapI w bm 128 D ∧ MemoD xss D

theorem need_wf {xss : List (List Int)} {s : Nat} (hs : s < 128) : (Lit.int .i64 (need xss s)).wf = true := by
  have := need_rng xss s
  exact WalkArith.wf_i64 (by omega)

theorem memoD_put {xss : List (List Int)} {D : DataW Value} (hD : IsMap D) (h : MemoD xss D) {L : Nat} (hL : L < 128) : MemoD xss (D.put (keyN L) (.lit (.int .i64 (need xss L)))) := by
  have hk := keyN_key hL
  refine ⟨fun k hkk hh => ?_, fun s hs hh => ?_⟩
  · by_cases e : k = keyN L
    · exact ⟨L, hL, e⟩
    · rw [has_put_other e] at hh
      exact h.1 k hkk hh
  · by_cases e : s = L
    · subst e; exact atKey_put_same hD hk _ _
    · have e2 : keyN s ≠ keyN L := fun h => e (keyN_inj h)
      rw [has_put_other e2] at hh
      rw [atKey_put_other e2]
      exact h.2 s hs hh

theorem zeroI (w : World) : (zeroValue 3).run Try.prog w = .ok (.int .i64 0) w := by kernel_rfl

/-- A look into the map: the world stays; if the lot is known, its number comes. -/
theorem Memo.look {xss : List (List Int)} {bm : Nat} {w : World} (h : Memo xss bm w) {L : Nat} (hL : L < 128) :
    ∃ (x : Int) (b : Bool), (Instr.lookup 62 (.map (some bm)) (.int .i64 L) true).run Try.prog w = .ok (.tuple #[.int .i64 x, .bool b]) w ∧ (b = true → x = need xss L) := by
  obtain ⟨D, hm, hk, hv⟩ := h
  obtain ⟨v, ps, hrun, hat⟩ := hm.look_ok keyedInt Try.underlying62 (zeroI w) (plainElem_int Try.underlying3 (by decide)) (keyOf_keyN hL)
  obtain ⟨c, rfl, hc, hwc⟩ := plainElem_int_inv Try.underlying3 hat
  simp only [Prod.mk.injEq] at hc
  refine ⟨c, _, hrun, fun hb => ?_⟩
  have := hv L hL hb
  rw [hc.1] at this
  simpa using this

set_option maxRecDepth 100000 in
theorem Memo.store {xss : List (List Int)} {bm : Nat} {w : World} (h : Memo xss bm w) {L : Nat} (hL : L < 128) :
    ∃ w', (Instr.mapUpdate 62 (.map (some bm)) (.int .i64 L) (.int .i64 (need xss L))).run Try.prog w = .ok () w' ∧ Memo xss bm w' ∧ w.grownBy w' (some bm) := by
  obtain ⟨D, hm, hD⟩ := h
  obtain ⟨w', hrun, hm2, hg⟩ := hm.update keyedInt Try.underlying62 (by unfold maxLen; omega) (keyOf_keyN hL) (plainElem_int Try.underlying3 (need_wf (xss := xss) hL))
  have hD2 := memoD_put hm.isMap hD hL
  exact ⟨w', hrun, ⟨_, mapI_small hm2 hD2.1, hD2⟩, hg⟩

theorem Memo.made (xss : List (List Int)) (w : World) : Memo xss w.heap.size (w.alloc (.map #[] 0)) :=
  ⟨.map [], (World.ownsMap_made w Try.prog 3 (plainElem Try.prog 3)).mono (by omega),
    (⟨fun k _ h => absurd h (by rw [show Maps.has (DataW.map (H := Value) []) k = false from rfl]; simp), fun s _ h => absurd h (by rw [show Maps.has (DataW.map (H := Value) []) (keyN s) = false from rfl]; simp)⟩ : MemoD xss (DataW.map []))⟩

theorem Memo.kept {xss : List (List Int)} {bm : Nat} {w w' : World} {row : Option Nat} (h : Memo xss bm w) (hg : w.grownBy w' row) (hne : some bm ≠ row) : Memo xss bm w' := by
  obtain ⟨D, hm, hD⟩ := h
  exact ⟨D, hm.kept hg hne, hD⟩
theorem Memo.lt {xss : List (List Int)} {bm : Nat} {w : World} (h : Memo xss bm w) : bm < w.heap.size := by
  obtain ⟨D, hm, _⟩ := h
  exact hm.lt
theorem grown_none {w w' : World} (hb : Below w.heap.size w w') : w.grownBy w' none := ⟨hb.os, hb.tape, hb.output, hb.size, fun k hk _ => hb.block k hk⟩
theorem Memo.below {xss : List (List Int)} {bm : Nat} {w w' : World} (h : Memo xss bm w) (hb : Below w.heap.size w w') : Memo xss bm w' := h.kept (grown_none hb) (by simp)

/-- What a cell holds stays: a map's block has no cells. -/
theorem Memo.cell {xss : List (List Int)} {bm : Nat} {w w' : World} (h : Memo xss bm w) (hg : w.grownBy w' (some bm)) {p : Addr} {u : Value} (hc : w.cell? p = some u) : w'.cell? p = some u := by
  obtain ⟨D, ⟨es, clock, hb, _⟩, _⟩ := h
  have hlt := World.block_lt_of_cell? w _ hc
  have hne : p.block ≠ bm := fun e => by
    unfold World.cell? at hc
    rw [e, hb] at hc
    simp at hc
  rw [World.cell?_of_block (w := w) (hg.block p.block hlt (fun e => hne (by injection e)))]
  exact hc

theorem SL.cells {B : Nat} {w w' : World} {v : Value} {vs : List Value} (h : SL B w v vs) (hs : ∀ p u, w.cell? p = some u → w'.cell? p = some u) : SL B w' v vs := by
  obtain ⟨a, cap, h1, h2, h3, h4⟩ := h
  refine ⟨a, cap, h1, h2, h3, fun hp => ?_⟩
  obtain ⟨b, off, h5, hb, h6⟩ := h4 hp
  exact ⟨b, off, h5, hb, fun i hi => hs _ _ (h6 i hi)⟩
theorem Ints.cells {B : Nat} {w w' : World} {v : Value} {xs : List Int} (h : Ints B w v xs) (hs : ∀ p u, w.cell? p = some u → w'.cell? p = some u) : Ints B w' v xs := ⟨h.1.cells hs, h.2⟩
theorem Rows2.cells {B : Nat} {w w' : World} {v : Value} {xss : List (List Int)} (h : Rows2 B w v xss) (hs : ∀ p u, w.cell? p = some u → w'.cell? p = some u) : Rows2 B w' v xss := by
  obtain ⟨vs, h1, h2, h3⟩ := h
  exact ⟨vs, h1.cells hs, h2, fun i h h' => (h3 i h h').cells hs⟩

end Go.Proofs.Ytpeogghiboaceaa
