/- Places: marks, the removal of places. -/
import Derived.Test.YtpeogghiboaceaaShip
import Derived.Lib.SliceRun
namespace Go.Proofs.Ytpeogghiboaceaa
open Go.RowKit
set_option linter.unusedVariables false
set_option maxRecDepth 100000

theorem OwnP.head {B : Nat} {w : World} {v : Value} {ps : List Pl} (h : OwnP B w v ps) (hp : 0 < ps.length) : ∃ g cap, v = .slice (some ⟨g, 0, none⟩) ps.length cap ∧ B ≤ g ∧ g < w.heap.size ∧ ps.length ≤ cap ∧ cap ≤ 9223372036854775807 := by
  obtain ⟨a, cap, rfl, h1, h2, h3⟩ := h.opened
  obtain ⟨g, rfl, h4, h5, _⟩ := h3 hp
  exact ⟨g, cap, rfl, h4, h5, h1, h2⟩
/-- The three cells of a place, and that they may be written. -/
theorem OwnP.at {B : Nat} {w : World} {g n cap : Nat} {ps : List Pl} (h : OwnP B w (.slice (some ⟨g, 0, none⟩) n cap) ps) (k : Nat) (hk : k < ps.length) :
    w.cell? ⟨g, k * 3, none⟩ = some (.int .i64 ps[k].r) ∧ w.cell? ⟨g, k * 3 + 1, none⟩ = some (.int .i64 ps[k].c) ∧ w.cell? ⟨g, k * 3 + 2, none⟩ = some (.int .i64 ps[k].d) ∧ ∀ j, w.frozen? ⟨g, j, none⟩ = false := by
  obtain ⟨_, _, he, _, _, h3⟩ := h.opened
  injection he with e1 e2 _
  subst e1
  obtain ⟨g', e, _, _, h4⟩ := h3 (by omega)
  injection e with e
  injection e with e _
  subst e
  obtain ⟨q1, q2, q3⟩ := h4 k hk
  refine ⟨q1, q2, q3, fun j => ?_⟩
  unfold OwnP at h
  rw [← e2] at h
  exact World.ownsRow.frozenAt h j

theorem set_seen (w : World) (g i j : Nat) (u u0 : Value) (h : w.cell? ⟨g, j, none⟩ = some u0) (hn : i ≠ j) : (w.setCell ⟨g, i, none⟩ u).cell? ⟨g, j, none⟩ = some u0 := by
  have hg := World.block_lt_of_cell? w _ h
  simp only [World.cell?, World.setCell] at h ⊢
  rw [Array.getElem?_modify]
  simp only [if_true]
  cases hb : w.heap[g]? with
  | none => rw [hb] at h; simp at h
  | some o =>
    rw [hb] at h
    cases o with
    | cells cs t fr => simpa [Array.getElem?_setIfInBounds, hn] using h
    | _ => simp at h ⊢

theorem set_thawed (w : World) (g i j : Nat) (u : Value) (h : w.frozen? ⟨g, j, none⟩ = false) : (w.setCell ⟨g, i, none⟩ u).frozen? ⟨g, j, none⟩ = false := by
  simp only [World.frozen?, World.setCell] at h ⊢
  rw [Array.getElem?_modify]
  simp only [if_true]
  cases hb : w.heap[g]? with
  | none => simp
  | some o =>
    rw [hb] at h
    cases o with
    | cells cs t fr => simpa using h
    | _ => simp at h ⊢

set_option maxHeartbeats 1000000 in
theorem markPlaceS_any {B : Nat} (v : Value) (ps : List Pl) (w : World) (h : OwnP B w v ps) (h2 : ps.length ≤ 1000000) :
    Calls Try.prog 47 #[v, .int .i64 1] w fun e w' => e = .returned (.int .i64 (3 * (ps.length : Int) + 1)) ∧ OwnP B w' v (markP ps.length) ∧ w.grownBy w' v.ownBlock := by
  by_cases hz : ps = []
  · subst hz
    have HO := Lib.hid h
    obtain ⟨a, cap, rfl, _⟩ := h.opened
    clear h
    simp only [List.length_nil]
    go_enter Try.func47, Try.ntmps47
    go_wp2
    refine wp_loop_rounds 1 ?_; rw [rounds_succ]
    go_wp2
    go_ret
    exact ⟨rfl, HO.out, World.grownBy.refl _ _⟩
  · have hp : 0 < ps.length := List.length_pos_iff.2 hz
    obtain ⟨g, cap, rfl, hBg, hgs, hcap, hmax⟩ := h.head hp
    go_enter Try.func47, Try.ntmps47
    go_wp2
    go_loopw [1, 5] (fun s i wr => ∃ k : Nat, k ≤ ps.length ∧ i = .int .i64 k ∧ s = .int .i64 (3 * (k : Int) + 1) ∧ OwnP B wr (.slice (some ⟨g, 0, none⟩) ps.length cap) (markP k ++ ps.drop k) ∧ w.grownBy wr (some g)) (fun _ i _ => ps.length - (intOf i).toNat)
    case atStart => exact ⟨0, Nat.zero_le _, rfl, by simp, by simpa [markP] using h, World.grownBy.refl _ _⟩
    case round =>
      obtain ⟨k, hk, rfl, rfl, ho, hb⟩ := hrel
      clear h
      by_cases hlt : k < ps.length
      · have hd : ps.drop k = ps[k] :: ps.drop (k + 1) := (List.drop_eq_getElem_cons hlt)
        obtain ⟨c1, c2, c3, hf⟩ := ho.at k (by simp [markP_length]; omega)
        rw [hd] at ho
        have hput := ho.put (q := ⟨3 * k + 1, 3 * k + 2, 3 * k + 3⟩)
        rw [markP_length] at hput
        have e1 : (((3 * k + 1 : Nat)) : Int) = 3 * (k : Int) + 1 := by omega
        have e2 : (((3 * k + 2 : Nat)) : Int) = 3 * (k : Int) + 1 + 1 := by omega
        have e3 : (((3 * k + 3 : Nat)) : Int) = 3 * (k : Int) + 1 + 1 + 1 := by omega
        simp only [e1, e2, e3] at hput
        have hc2 := set_seen wr g (k * 3) (k * 3 + 1) (.int .i64 (3 * (k : Int) + 1)) _ c2 (by omega)
        have hc3 := set_seen (wr.setCell ⟨g, k * 3, none⟩ (.int .i64 (3 * (k : Int) + 1))) g (k * 3 + 1) (k * 3 + 2) (.int .i64 (3 * (k : Int) + 1 + 1)) _ (set_seen wr g (k * 3) (k * 3 + 2) (.int .i64 (3 * (k : Int) + 1)) _ c3 (by omega)) (by omega)
        have hf1 := hf (k * 3)
        have hf2 := set_thawed wr g (k * 3) (k * 3 + 1) (.int .i64 (3 * (k : Int) + 1)) (hf _)
        have hf3 := set_thawed (wr.setCell ⟨g, k * 3, none⟩ (.int .i64 (3 * (k : Int) + 1))) g (k * 3 + 1) (k * 3 + 2) (.int .i64 (3 * (k : Int) + 1 + 1)) (set_thawed wr g (k * 3) (k * 3 + 2) (.int .i64 (3 * (k : Int) + 1)) (hf _))
        have HO := Lib.hid hput.1
        have HB := Lib.hid (hb.andThen hput.2 (fun _ e => by cases e; exact .inr rfl))
        have HC := Lib.hid (markP_succ k)
        have hi0 : (0 : Int) ≤ (k : Int) := by omega
        clear ho hb hput hd hf e1 e2 e3
        go_wp2
        go_roundw
        case rel => exact ⟨k + 1, by omega, by go_num, by go_num, by rw [HC.out, List.append_assoc]; exact HO.out, HB.out⟩
        case measure => simp [intOf]; omega
      · have e : k = ps.length := by omega
        have HO := Lib.hid (show OwnP B wr (.slice (some ⟨g, 0, none⟩) ps.length cap) (markP ps.length) by simpa [e] using ho)
        have HB := Lib.hid hb
        have HE := Lib.hid e
        clear ho e hb
        go_wp2
        go_ret
        exact ⟨ret_int (by rw [HE.out]), HO.out, HB.out⟩

theorem markP_get (n k : Nat) (h : k < (markP n).length) : (markP n)[k] = ⟨3 * k + 1, 3 * k + 2, 3 * k + 3⟩ := by simp [markP]
theorem heldPlaceS_any {B : Nat} (v : Value) (n : Nat) (w : World) (h : OwnP B w v (markP n)) (hn : n ≤ 1000000) :
    Calls Try.prog 48 #[v, .int .i64 1] w fun e w' => e = .returned (.int .i64 (3 * (n : Int) + 1)) ∧ w = w' := by
  obtain ⟨a, cap, rfl, hcap, hmax, hcells⟩ := h.opened
  rw [markP_length] at hcap ⊢
  clear h
  go_enter Try.func48, Try.ntmps48
  go_wp2
  go_loop [1, 5] (fun s i => ∃ k : Nat, k ≤ n ∧ i = .int .i64 k ∧ s = .int .i64 (3 * (k : Int) + 1)) (fun _ i => n - (intOf i).toNat)
  case atStart => exact ⟨0, Nat.zero_le _, rfl, by simp⟩
  case round =>
    obtain ⟨k, hk, rfl, rfl⟩ := hrel
    by_cases hlt : k < n
    · obtain ⟨g, rfl, _, _, hc⟩ := hcells (by rw [markP_length]; omega)
      obtain ⟨c1, c2, c3⟩ := hc k (by rw [markP_length]; exact hlt)
      rw [markP_get] at c1 c2 c3
      have e1 : (((3 * k + 1 : Nat)) : Int) = 3 * (k : Int) + 1 := by omega
      have e2 : (((3 * k + 2 : Nat)) : Int) = 3 * (k : Int) + 1 + 1 := by omega
      have e3 : (((3 * k + 3 : Nat)) : Int) = 3 * (k : Int) + 1 + 1 + 1 := by omega
      simp only [e1, e2, e3] at c1 c2 c3
      have hi0 : (0 : Int) ≤ (k : Int) := by omega
      have n1 : ((3 * (k : Int) + 1) != (3 * (k : Int) + 1)) = false := by simp
      have n2 : ((3 * (k : Int) + 1 + 1) != (3 * (k : Int) + 1 + 1)) = false := by simp
      have n3 : ((3 * (k : Int) + 1 + 1 + 1) != (3 * (k : Int) + 1 + 1 + 1)) = false := by simp
      clear hc hcells e1 e2 e3
      go_wp2
      go_round
      case rel => exact ⟨k + 1, by omega, by go_num, by go_num⟩
      case measure => simp [intOf]; omega
    · have e : k = n := by omega
      subst e
      clear hcells
      go_wp2
      go_ret
      exact ⟨rfl, rfl⟩

/-! ### Removal -/
theorem run_clear_pl (w : World) (ty : TypeId) (b o n c : Nat) (hn : 0 < n)
    (hc : ∀ j, j < n * 3 → (w.cell? ⟨b, o + j, none⟩).isSome = true) (hf : ∀ j, j < n * 3 → w.frozen? ⟨b, o + j, none⟩ = false) :
    (Builtin.clear_ #[47] ty #[.slice (some ⟨b, o, none⟩) n c]).run Try.prog w = .ok (.tuple #[]) (w.setCells b o (List.replicate (n * 3) (.int .i64 0))) := by
  have hz : (Value.agg #[.int .i64 0, .int .i64 0, .int .i64 0]).cells = #[.int .i64 0, .int .i64 0, .int .i64 0] := rfl
  have hzc : (Builtin.zeroCells (Value.agg #[.int .i64 0, .int .i64 0, .int .i64 0]).cells n).toList = List.replicate (n * 3) (.int .i64 0) := by
    rw [hz]
    apply List.ext_getElem
    · simp [Builtin.zeroCells]
    · intro i h1 h2
      simp only [Builtin.zeroCells, List.size_toArray, List.length_cons, List.length_nil, Array.getElem_toList, Array.getElem_map, Array.getElem_range, List.getElem_replicate]
      have : i % 3 = 0 ∨ i % 3 = 1 ∨ i % 3 = 2 := by omega
      rcases this with e | e | e <;> simp [e]
  have hst := run_storeCells_cells (P := Try.prog) b o (List.replicate (n * 3) (.int .i64 0)) 0 w (by simpa using hc) (by simpa using hf) (by intro v hv'; rw [List.eq_of_mem_replicate hv']; rfl)
  simp only [Nat.add_zero] at hst
  obtain ⟨m, rfl⟩ : ∃ m, n = m + 1 := ⟨n - 1, by omega⟩
  have hv : (zeroValue 80).run Try.prog w = .ok (.agg #[.int .i64 0, .int .i64 0, .int .i64 0]) w := Try.zeroValue80 w
  simp [Builtin.clear_, run_underlying Try.underlying47, hv, hzc, hst]

end Go.Proofs.Ytpeogghiboaceaa
