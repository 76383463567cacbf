/- Texts cut into words: the reference's l1Cut; strings.Split and strings.Cut by the shelf's contracts. -/
import Derived.Test.YtenlngclocfnlaaDoorRow1
import Derived.Shelf.Strings.Split
import Derived.Shelf.Strings.Cut
namespace Go.Proofs.YtenlngclocfnlaaDoor
open Go.RowKit Go.Shelf
set_option linter.unusedVariables false
set_option maxRecDepth 100000

/-- Owned texts. -/
def OwnS (B : Nat) (w : World) (v : Value) (us : List (List UInt8)) : Prop := w.ownsRow B 9 1 v us.length (us.map strV)
theorem infoStr : (Tryd.prog.info? 9).map (fun i => (i.zero, i.size, i.bytes)) = some (some (.string ⟨#[]⟩), 1, 16) := by kernel_rfl
theorem OwnS.lit (w : World) : OwnS w.heap.size (w.alloc (.cells #[] 9)) (.slice (some ⟨w.heap.size, 0, none⟩) 0 0) [] :=
  World.ownsRow_made w #[] 0 (Nat.le_refl _) (by simp [maxLen]) rfl
/-- What a cutting leaves: words in a block of its own. -/
def WordsOut (us : List (List UInt8)) (w : World) (e : Ending) (w' : World) : Prop :=
  ∃ g cap, e = .returned (.slice (some ⟨g, 0, none⟩) us.length cap) ∧ us.length ≤ cap ∧ cap ≤ 9223372036854775807 ∧ (∀ k (h : k < us.length), w'.cell? ⟨g, k, none⟩ = some (strV us[k])) ∧ w.heap.size ≤ g ∧ g < w'.heap.size ∧ Below w.heap.size w w'
theorem OwnS.out {w w' : World} {v : Value} {us : List (List UInt8)} (h : OwnS w.heap.size w' v us) (hp : 0 < us.length) (hb : Below w.heap.size w w') : WordsOut us w (.returned v) w' := by
  obtain ⟨h0, h⟩ := h
  rcases h with ⟨rfl, h1⟩ | ⟨g, cap, cur, rfl, hB, hg, h1, h2, h3, h4⟩
  · omega
  · refine ⟨g, cap, rfl, h1, by simpa [maxLen] using h2, fun k hk => ?_, hB, (Array.getElem?_eq_some_iff.1 hg).1, hb⟩
    have hc : cur[k]? = (us.map strV)[k]? := by
      rw [← h4, List.getElem?_take, if_pos (by omega), Array.getElem?_toList]
    rw [cell_of_row _ _ _ _ _ _ hg, hc]
    simp [hk]
/-- 'append(out, s)'. -/
theorem wpList_push_str (w : World) {ops : Array Oper} {rest : List Oper} {o : Oper} {a : Act} {Q : Exit → Act → World → Prop}
    (hg : o.guard = none) (s x : Operand) (hop : o.op = Op.call { callee := Callee.builtin Builtin.append, args := #[s, x], argTypes := #[45, 45] })
    (B : Nat) (v : Value) (us : List (List UInt8)) (hs : a.eval s = v) (hown : OwnS B w v us) (ad : Addr) (c : Nat) (X : ByteArray) (y : List UInt8) (hx : a.eval x = .slice (some ad) 1 c) (hc : w.cell? ad = some (.string X)) (hX : X = ⟨y.toArray⟩)
    (hlen : us.length ≤ 1099511627776) (hB : B ≤ w.heap.size)
    (hK : ∀ a' cap' w', OwnS B w' (.slice a' (us.length + 1) cap') (us ++ [y]) → w.grownBy w' v.ownBlock → wpList Tryd.prog ops Q rest (a.put o.dst (.slice a' (us.length + 1) cap')) w') :
    wpList Tryd.prog ops Q (o :: rest) a w := by
  obtain ⟨i0, hi, hz0, hz1, hz2⟩ := info_parts infoStr
  subst hX
  refine wpList_append_own w hg s x 45 hop B 9 i0 (.string ⟨#[]⟩) 1 16 Tryd.underlying45 hi hz0 hz1 hz2 rfl (by decide) v us.length (us.map strV) hs hown ad 1 c [strV y] hx rfl ?_ (by simp [Value.oneCell', strV]) (by unfold maxLen; omega) (by omega) hB ?_
  · intro j u hj
    match j, hj with
    | 0, hj => simp at hj; subst hj; simpa [Addr.add, strV] using hc
  · intro v' w' h1 h2 _
    obtain ⟨a', cap', rfl, _⟩ := own_shape h1
    refine hK a' cap' w' ?_ h2
    unfold OwnS
    rw [List.map_append]
    simpa using h1

/-- The piece between two places. -/
theorem piece_next {l : List UInt8} {f k : Nat} (hf : f ≤ k) (h : k < l.length) : (l.drop f).take (k + 1 - f) = (l.drop f).take (k - f) ++ [l[k]] := by
  rw [show k + 1 - f = (k - f) + 1 by omega, List.take_succ_eq_append_getElem (by rw [List.length_drop]; omega), List.getElem_drop]
  congr 3
  omega
theorem piece_cut {l : List UInt8} {f k : Nat} (hf : f ≤ k) (h : k < l.length) : l.drop f = (l.drop f).take (k - f) ++ l[k] :: l.drop (k + 1) := by
  have h1 : (l.drop f).drop (k - f) = l.drop k := by rw [List.drop_drop]; congr 1; omega
  have h2 := List.take_append_drop (k - f) (l.drop f)
  rw [h1, List.drop_eq_getElem_cons h] at h2
  exact h2.symm
theorem words_step {l : List UInt8} {c : UInt8} {us : List (List UInt8)} {f k : Nat} (hf : f ≤ k) (h : k < l.length) (hc : l[k] = c) (hw : words c l = us ++ words c (l.drop f)) (hn : ∀ b ∈ (l.drop f).take (k - f), b ≠ c) :
    words c l = (us ++ [(l.drop f).take (k - f)]) ++ words c (l.drop (k + 1)) := by
  rw [hw, piece_cut hf h, hc, words_app c _ _ hn, List.append_assoc]
  congr 1
  rw [← hc, ← piece_cut hf h]
  rfl

set_option maxHeartbeats 1000000 in
theorem l1Cut_any (l : List UInt8) (c : UInt8) (w : World) (hl : l.length ≤ 4000000) :
    Calls Tryd.prog 28 #[strV l, .int .u8 c.toNat] w (WordsOut (words c l) w) := by
  have HB0 := Lib.hid (show Below w.heap.size w (w.alloc (.cells #[] 9)) from (Below.refl _ _).alloc (Nat.le_refl _) _)
  have HO0 := Lib.hid (OwnS.lit w)
  unfold strV
  go_enter Tryd.func28, Tryd.ntmps28
  go_wp2
  go_loopw [5, 6, 7] (fun s fv i wr => ∃ (k f : Nat) (us : List (List UInt8)) (a : Option Addr) (cap : Nat), k ≤ l.length ∧ f ≤ k ∧ i = .int .i64 k ∧ fv = .int .i64 f ∧ s = .slice a us.length cap ∧ OwnS w.heap.size wr (.slice a us.length cap) us ∧ words c l = us ++ words c (l.drop f) ∧ (∀ b ∈ (l.drop f).take (k - f), b ≠ c) ∧ us.length ≤ k ∧ Below w.heap.size w wr) (fun _ _ i _ => l.length - (intOf i).toNat)
  case atStart => exact ⟨0, 0, [], _, _, Nat.zero_le _, Nat.le_refl _, rfl, rfl, rfl, HO0.out, rfl, by simp, Nat.le_refl _, HB0.out⟩
  case round =>
    obtain ⟨k, f, us, a, cap, hk, hf, rfl, rfl, rfl, ho, hws, hno, hus, hw⟩ := hrel
    obtain ⟨wk, rfl⟩ : ∃ x, x = wr := ⟨_, rfl⟩
    clear HB0 HO0
    have HW := Lib.hid hw
    have HO := Lib.hid ho
    by_cases hlt : k < l.length
    · have hi0 : (0 : Int) ≤ (k : Int) := by omega
      have hi1 : (k : Int) < (l.length : Int) := by omega
      have hx := byte_at l k hlt
      have hf0 : (0 : Int) ≤ (f : Int) := by omega
      have hf1 : (f : Int) ≤ (k : Int) := by omega
      have hk2 : (k : Int) ≤ (l.length : Int) := by omega
      by_cases hc : l[k] = c
      · have HN := Lib.hid (words_step hf hlt hc hws hno)
        rw [hc] at hx
        clear hc hws hno hw ho
        go_wp2_with (at_builtin; refine wpList_push_str _ rfl (.tmp 20) (.tmp 25) rfl w.heap.size (.slice a us.length cap) us rfl (World.ownsRow.alloc HO.out _) ⟨wk.heap.size, 0, none⟩ 1 _ ((l.drop f).take (k - f)) rfl (by first | (simp; done) | (simp; rfl)) (ByteArray.extract_mk l f k) (by omega) (by have := HW.out.size; simp; omega) ?_; intro a7 c7 w7 ho7 hg7; have HB7 := Lib.hid ((HW.out.alloc HW.out.size _).grown hg7 (by have := HW.out.size; simp; omega) (fun q hq => (World.ownsRow.lt HO.out q hq).1)); have HO7 := Lib.hid ho7; clear ho7 hg7)
        go_roundw
        case rel => exact ⟨k + 1, k + 1, us ++ [(l.drop f).take (k - f)], a7, c7, by omega, Nat.le_refl _, by go_num, by go_num, by simp, by simpa using HO7.out, HN.out, by simp, by simp; omega, HB7.out⟩
        case measure => simp [intOf]; omega
      · have HN := Lib.hid (show ∀ b ∈ (l.drop f).take (k + 1 - f), b ≠ c from fun b hb => by
          rw [piece_next hf hlt] at hb
          rcases List.mem_append.1 hb with q | q
          · exact hno b q
          · rw [List.mem_singleton.1 q]; exact hc)
        have hne : ¬ ((l[k].toNat : Int) = (c.toNat : Int)) := fun e => hc (UInt8.toNat_inj.1 (by omega))
        have HWS := Lib.hid hws
        obtain ⟨x, hxx⟩ : ∃ x, x = l[k].toNat := ⟨_, rfl⟩
        rw [← hxx] at hx hne
        clear hc hws hno hw ho hxx
        go_wp2
        go_roundw
        case rel => exact ⟨k + 1, f, us, a, cap, by omega, by omega, by go_num, rfl, rfl, HO.out, HWS.out, HN.out, by omega, HW.out⟩
        case measure => simp [intOf]; omega
    · have hkl : k = l.length := by omega
      have e : (l.drop f).take (k - f) = l.drop f := List.take_of_length_le (by rw [List.length_drop]; omega)
      rw [e] at hno
      rw [words_one c _ hno] at hws
      have HWS := Lib.hid hws
      have hf0 : (0 : Int) ≤ (f : Int) := by omega
      have hf1 : (f : Int) ≤ (l.length : Int) := by omega
      have HEX := Lib.hid (show (ByteArray.mk l.toArray).extract f (ByteArray.mk l.toArray).size = ByteArray.mk (l.drop f).toArray by
        rw [ByteArray.extract_mk]
        rw [List.take_of_length_le (by rw [List.length_drop]; simp [ByteArray.size])])
      clear hws hno hw ho e hkl
      go_wp2_with (at_builtin; refine wpList_push_str _ rfl (.tmp 29) (.tmp 33) rfl w.heap.size (.slice a us.length cap) us rfl (World.ownsRow.alloc HO.out _) ⟨wk.heap.size, 0, none⟩ 1 _ (l.drop f) rfl (by first | (simp; done) | (simp; rfl)) (by first | exact HEX.out | exact (by simpa using HEX.out)) (by omega) (by have := HW.out.size; simp; omega) ?_; intro a7 c7 w7 ho7 hg7; have HB7 := Lib.hid ((HW.out.alloc HW.out.size _).grown hg7 (by have := HW.out.size; simp; omega) (fun q hq => (World.ownsRow.lt HO.out q hq).1)); have HO7 := Lib.hid (show OwnS w.heap.size w7 (.slice a7 (us.length + 1) c7) (words c l) by rw [HWS.out]; exact ho7); clear ho7 hg7)
      go_ret
      exact HO7.out.out (by rw [HWS.out]; simp) HB7.out

end Go.Proofs.YtenlngclocfnlaaDoor
