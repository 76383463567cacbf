/- slices.IndexFunc and slices.DeleteFunc over places. -/
import Derived.Test.YtpeogghiboaceaaShip2
namespace Go.Proofs.Ytpeogghiboaceaa
open Go.RowKit
set_option linter.unusedVariables false
set_option maxRecDepth 100000

/-- A function value that tells q of the places ps, whatever else the block o holds, and writes nothing that was there. -/
def TellsP (g : Nat) (lb : Array Value) (q : Pl → Bool) (ps : List Pl) (o : Option Nat) (w : World) : Prop :=
  (∀ args W, (callFunc g args).run Try.prog W = .ok (.enter g args) W) ∧
  ∀ W, w.grownBy W o → ∀ p ∈ ps, Calls Try.prog g (#[plV p] ++ lb) W fun e W' => e = .returned (.bool (q p)) ∧ Below W.heap.size W W'

theorem grownP_none {w w' : World} (hb : Below w.heap.size w w') : w.grownBy w' none := ⟨hb.os, hb.tape, hb.output, hb.size, fun k hk _ => hb.block k hk⟩
theorem grownP_of {w w' : World} {o : Option Nat} (hb : Below w.heap.size w w') : w.grownBy w' o := ⟨hb.os, hb.tape, hb.output, hb.size, fun k hk _ => hb.block k hk⟩
theorem grownP_then {a b c : World} {o : Option Nat} (h : a.grownBy b o) (hb : Below b.heap.size b c) : a.grownBy c o := h.andThen (grownP_none hb) (fun _ e => by cases e)

def atP (ps : List Pl) (i : Nat) : Pl := ps.getD i ⟨0, 0, 0⟩
theorem atP_get {ps : List Pl} {i : Nat} (h : i < ps.length) : atP ps i = ps[i] := by simp [atP, List.getD, List.getElem?_eq_getElem h]

set_option maxHeartbeats 1000000 in
theorem indexP_any {B : Nat} (v : Value) (ps : List Pl) (w : World) (h : OwnP B w v ps) (g : Nat) (lb : Array Value) (q : Pl → Bool) (o : Option Nat) (hf : TellsP g lb q ps o w) :
    Calls Try.prog 107 #[v, .func (.func g) #[] lb] w fun e w' => e = .returned (.int .i64 (idxN (fun i => q (atP ps i)) ps.length)) ∧ Below w.heap.size w w' := by
  obtain ⟨a, cap, rfl, hcap, hmax, hcells⟩ := h.opened
  obtain ⟨eg, hf⟩ := hf
  clear h
  go_enter Try.func107, Try.ntmps107
  go_wp2
  go_loopw [8] (fun i wr => ∃ k : Nat, k ≤ ps.length ∧ i = .int .i64 k ∧ (∀ j, j < k → (fun i => q (atP ps i)) j = false) ∧ Below w.heap.size w wr) (fun i _ => ps.length - (intOf i).toNat)
  case atStart => exact ⟨0, Nat.zero_le _, rfl, by omega, Below.refl _ _⟩
  case round =>
    obtain ⟨k, hk, rfl, hn, hb⟩ := hrel
    have HN := Lib.hid hn
    have HB := Lib.hid hb
    by_cases hlt : k < ps.length
    · obtain ⟨b, rfl, _, _, hc⟩ := hcells (by omega)
      obtain ⟨c1, c2, c3⟩ := hc k hlt
      have d1 := (Above.of_below (B := 0) hb).cell (Nat.zero_le _) c1
      have d2 := (Above.of_below (B := 0) hb).cell (Nat.zero_le _) c2
      have d3 := (Above.of_below (B := 0) hb).cell (Nat.zero_le _) c3
      have hF := hf wr (grownP_of hb) ps[k] (List.getElem_mem hlt)
      have hq : (fun i => q (atP ps i)) k = q ps[k] := by simp only [atP_get hlt]
      obtain ⟨u, hu⟩ : ∃ u, u = ps[k] := ⟨_, rfl⟩
      rw [← hu] at d1 d2 d3 hF hq
      unfold plV at hF
      have hi0 : (0 : Int) ≤ (k : Int) := by omega
      have hi1 : (k : Int) < (ps.length : Int) := by omega
      clear hc hcells hf hn hb hu c1 c2 c3
      cases hp : q u
      · rw [hp] at hF hq
        have HP := Lib.hid hq
        clear hp hq
        go_wp2_with fail
        refine hF.mono ?_
        rintro e w2 ⟨rfl, hb2⟩
        have HB2 := Lib.hid hb2
        clear hb2
        go_wp2
        go_roundw
        case rel => exact ⟨k + 1, by omega, by go_num, upto_step HN.out HP.out, HB.out.trans (HB2.out.mono HB.out.size)⟩
        case measure => simp [intOf]; omega
      · rw [hp] at hF hq
        have HP := Lib.hid hq
        clear hp hq
        go_wp2_with fail
        refine hF.mono ?_
        rintro e w2 ⟨rfl, hb2⟩
        have HB2 := Lib.hid hb2
        clear hb2
        go_wp2
        go_ret
        exact ⟨ret_int (by rw [idxN_hit hlt HN.out HP.out]), HB.out.trans (HB2.out.mono HB.out.size)⟩
    · have e : k = ps.length := by omega
      have HE := Lib.hid e
      clear e hn hb hf hcells
      go_wp2
      go_ret
      exact ⟨ret_int (by rw [idxN_none (by rw [← HE.out]; exact HN.out)]), HB.out⟩

/-! ### The state of a removal -/
def DelInv (ps : List Pl) (kp : Pl → Bool) (i j : Nat) (L : List Pl) : Prop := L.length = ps.length ∧ i < j ∧ j ≤ ps.length ∧ L.take i = (ps.take j).filter kp ∧ L.drop j = ps.drop j
theorem DelInv.start {ps : List Pl} {kp : Pl → Bool} {k : Nat} (hk : k < ps.length) (hn : ∀ j, j < k → kp (atP ps j) = true) (h : kp (atP ps k) = false) : DelInv ps kp k (k + 1) ps := by
  refine ⟨rfl, by omega, hk, ?_, rfl⟩
  rw [List.take_succ_eq_append_getElem hk, List.filter_append]
  rw [atP_get hk] at h
  rw [List.filter_cons_of_neg (by simp [h]), List.filter_nil, List.append_nil]
  symm
  rw [List.filter_eq_self]
  intro x hx
  obtain ⟨i, hi, rfl⟩ := List.getElem_of_mem hx
  have hi' : i < k := by simp at hi; omega
  have := hn i hi'
  rw [atP_get (by omega)] at this
  rw [List.getElem_take]
  exact this
theorem DelInv.get {ps : List Pl} {kp : Pl → Bool} {i j : Nat} {L : List Pl} (h : DelInv ps kp i j L) (hj : j < ps.length) : ∃ h' : j < L.length, L[j] = ps[j] := by
  obtain ⟨h1, h2, h3, h4, h5⟩ := h
  refine ⟨by omega, ?_⟩
  have e1 : L.drop j = L[j] :: L.drop (j + 1) := List.drop_eq_getElem_cons (by omega)
  have e2 : ps.drop j = ps[j] :: ps.drop (j + 1) := List.drop_eq_getElem_cons hj
  rw [e1, e2] at h5
  injection h5
theorem DelInv.keep {ps : List Pl} {kp : Pl → Bool} {i j : Nat} {L : List Pl} (h : DelInv ps kp i j L) (hj : j < ps.length) (hk : kp ps[j] = true) : DelInv ps kp (i + 1) (j + 1) (L.set i ps[j]) := by
  obtain ⟨h1, h2, h3, h4, h5⟩ := h
  refine ⟨by simp [h1], by omega, hj, ?_, ?_⟩
  · rw [List.take_succ_eq_append_getElem (by simp; omega), List.take_set_of_le (by omega), h4, List.getElem_set_self, List.take_succ_eq_append_getElem hj, List.filter_append]
    rw [List.filter_cons_of_pos hk, List.filter_nil]
  · rw [List.drop_set_of_lt (by omega), ← List.drop_drop, h5, List.drop_drop]
theorem DelInv.skip {ps : List Pl} {kp : Pl → Bool} {i j : Nat} {L : List Pl} (h : DelInv ps kp i j L) (hj : j < ps.length) (hk : kp ps[j] = false) : DelInv ps kp i (j + 1) L := by
  obtain ⟨h1, h2, h3, h4, h5⟩ := h
  refine ⟨h1, by omega, hj, ?_, ?_⟩
  · rw [h4, List.take_succ_eq_append_getElem hj, List.filter_append, List.filter_cons_of_neg (by simp [hk]), List.filter_nil, List.append_nil]
  · rw [← List.drop_drop, h5, List.drop_drop]

theorem cellsP_take : ∀ (ps : List Pl) (i : Nat), (cellsP ps).take (i * 3) = cellsP (ps.take i)
  | [], i => by simp [cellsP]
  | p :: ps, 0 => by simp [cellsP]
  | p :: ps, i + 1 => by
    have e : (plC p).length = 3 := rfl
    rw [List.take_succ_cons, cellsP_cons, cellsP_cons, ← cellsP_take ps i, List.take_append, e, List.take_of_length_le (by rw [e]; omega), show (i + 1) * 3 - 3 = i * 3 by omega]

theorem setCells_owns {B : Nat} {e : TypeId} {size g n cap : Nat} : ∀ (vs : List Value) (o : Nat) (w : World) (xs : List Value), w.ownsRow B e size (.slice (some ⟨g, 0, none⟩) n cap) n xs →
    ∃ xs', xs'.take o = xs.take o ∧ (w.setCells g o vs).ownsRow B e size (.slice (some ⟨g, 0, none⟩) n cap) n xs' ∧ w.grownBy (w.setCells g o vs) (some g)
  | [], o, w, xs, h => ⟨xs, rfl, h, World.grownBy.refl _ _⟩
  | v :: r, o, w, xs, h => by
    have h1 := World.ownsRow.stored h o v
    obtain ⟨xs', q1, q2, q3⟩ := setCells_owns r (o + 1) _ _ h1.1
    refine ⟨xs', ?_, q2, h1.2.andThen q3 (fun _ e => by cases e; exact .inr rfl)⟩
    have : (xs'.take (o + 1)).take o = ((xs.set o v).take (o + 1)).take o := by rw [q1]
    rw [List.take_take, List.take_take, show min o (o + 1) = o by omega] at this
    rw [this, List.take_set_of_le (Nat.le_refl _)]

theorem OwnP.cleared {B : Nat} {w : World} {g n cap : Nat} {L : List Pl} (h : OwnP B w (.slice (some ⟨g, 0, none⟩) n cap) L) (i : Nat) (hi : i ≤ L.length) (vs : List Value) :
    OwnP B (w.setCells g (i * 3) vs) (.slice (some ⟨g, 0, none⟩) i cap) (L.take i) ∧ w.grownBy (w.setCells g (i * 3) vs) (some g) := by
  obtain ⟨_, _, he, _⟩ := h.opened
  injection he with _ e2 _
  unfold OwnP at h ⊢
  rw [← e2] at h hi
  obtain ⟨xs', q1, q2, q3⟩ := setCells_owns vs (i * 3) w _ h
  refine ⟨?_, q3⟩
  have hl : (L.take i).length = i := by rw [List.length_take]; omega
  rw [hl, ← cellsP_take, ← q1]
  obtain ⟨q4, q5⟩ := q2
  refine ⟨by rw [List.length_take, q4]; exact Nat.min_eq_left (Nat.mul_le_mul_right 3 hi), ?_⟩
  rcases q5 with ⟨q6, _⟩ | ⟨g', cap', cur, q6, q7, q8, q9, q10, q11, q12⟩
  · simp at q6
  · injection q6 with e1 _ e3
    injection e1 with e1
    injection e1 with e1
    subst e1 e3
    refine .inr ⟨g, cap, cur, rfl, q7, q8, by omega, q10, q11, ?_⟩
    rw [← q12, List.take_take, Nat.min_eq_left (Nat.mul_le_mul_right 3 hi)]

end Go.Proofs.Ytpeogghiboaceaa
