/- The small functions that everything uses, each by its contract: ranges, sums, equality of lists, copies, marks. -/
import Derived.Test.YtkjdlpbfalojdaaOwn
namespace Go.Proofs.Ytkjdlpbfalojdaa
open Go.RowKit
set_option linter.unusedVariables false

/-- The call only computes: the world is as it was but for draws. -/
def Quiet (v : Value) (w : World) (e : Ending) (w' : World) : Prop := e = .returned v ∧ ∃ q, w' = w.drewN q

/-- wr is w behind some draws. -/
def Drawn (w wr : World) : Prop := ∃ q, wr = w.drewN q
theorem Drawn.refl (w : World) : Drawn w w := ⟨0, rfl⟩
theorem Drawn.more {w wr : World} (h : Drawn w wr) (n : Nat) : Drawn w (wr.drewN n) := by
  obtain ⟨q, rfl⟩ := h
  exact ⟨q + n, by simp⟩
theorem Drawn.below {w wr : World} (h : Drawn w wr) : Below w.heap.size w wr := by
  obtain ⟨q, rfl⟩ := h
  exact below_drewN (Below.refl _ _) _
theorem Drawn.cell {w wr : World} (h : Drawn w wr) {p : Addr} {u : Value} (hc : w.cell? p = some u) : wr.cell? p = some u := by
  obtain ⟨q, rfl⟩ := h
  exact hc
theorem Drawn.trans {a b c : World} (h : Drawn a b) (h' : Drawn b c) : Drawn a c := by
  obtain ⟨q, rfl⟩ := h'
  exact h.more q

def inB (n lo hi : Int) : Bool := decide (lo ≤ n ∧ n ≤ hi)

theorem in_any (n lo hi : Int) (w : World) :
    Calls Try.prog 88 #[.int .i64 n, .int .i64 lo, .int .i64 hi] w fun e w' => e = .returned (.bool (inB n lo hi)) ∧ w = w' := by
  by_cases h1 : lo ≤ n <;> by_cases h2 : n ≤ hi <;>
  · go_enter Try.func88, Try.ntmps88
    go_wp2
    go_ret
    exact ⟨ret_bool (by simp [inB, h1, h2]), rfl⟩

theorem l1In_any (n lo hi : Int) (w : World) :
    Calls Try.prog 83 #[.int .i64 n, .int .i64 lo, .int .i64 hi] w fun e w' => e = .returned (.bool (inB n lo hi)) ∧ w = w' := by
  by_cases h1 : lo ≤ n <;> by_cases h2 : n ≤ hi <;>
  · go_enter Try.func83, Try.ntmps83
    go_wp2
    go_ret
    exact ⟨ret_bool (by simp [inB, h1, h2]), rfl⟩

def sum64 (l : List Int) : Int := l.foldl (fun a x => wrap64 (a + x)) 0

theorem sum64_snoc (xs : List Int) (k : Nat) (h : k < xs.length) : sum64 (xs.take (k+1)) = wrap64 (sum64 (xs.take k) + xs[k]) := by
  unfold sum64
  rw [List.take_succ_eq_append_getElem h, List.foldl_append]; rfl

/-- Two lists are equal up to k. -/
theorem take_eq_succ {α : Type} {xs ys : List α} {k : Nat} (hx : k < xs.length) (hy : k < ys.length) (h : xs.take k = ys.take k) (he : xs[k] = ys[k]) : xs.take (k+1) = ys.take (k+1) := by
  rw [List.take_succ_eq_append_getElem hx, List.take_succ_eq_append_getElem hy, h, he]

theorem ne_of_get {α : Type} {xs ys : List α} {k : Nat} (hx : k < xs.length) (hy : k < ys.length) (h : ¬ xs[k] = ys[k]) : ¬ xs = ys := by
  intro e; subst e; exact h rfl

theorem eqIntS_any {B C : Nat} (a b : Value) (xs ys : List Int) (w : World) (ha : Ints B w a xs) (hb : Ints C w b ys) :
    Calls Try.prog 36 #[a, b] w (Quiet (.bool (decide (xs = ys))) w) := by
  obtain ⟨a, cap, rfl, hcap, hmax, hcells⟩ := ha.opened
  obtain ⟨b, cap', rfl, hcap', hmax', hcells'⟩ := hb.opened
  clear ha hb
  by_cases hl : xs.length = ys.length
  · have hl1 : ((xs.length : Int) != (ys.length : Int)) = false := by rw [bne_eq_false_iff_eq]; omega
    have hl2 : xs.length ≤ ys.length := by omega
    have hl3 : ys.length ≤ xs.length := by omega
    clear hl
    go_enter Try.func36, Try.ntmps36
    go_wp2
    go_loopw [5] (fun i wr => ∃ k q : Nat, k ≤ xs.length ∧ i = .int .i64 k ∧ xs.take k = ys.take k ∧ wr = w.drewN q) (fun i _ => xs.length - (intOf i).toNat)
    case atStart => exact ⟨0, 0, Nat.zero_le _, rfl, rfl, rfl⟩
    case round =>
      obtain ⟨k, q, hk, rfl, ht, rfl⟩ := hrel
      have HT := Lib.hid ht
      clear ht
      by_cases hlt : k < xs.length
      · obtain ⟨b1, o1, rfl, _, hc⟩ := hcells (by omega)
        obtain ⟨b2, o2, rfl, _, hc'⟩ := hcells' (by omega)
        have hck := hc k hlt
        have hck' := hc' k (by omega)
        have hlt' : k < ys.length := by omega
        have hi0 : (0 : Int) ≤ (k : Int) := by omega
        have hi1 : (k : Int) < (xs.length : Int) := by omega
        have hi2 : (k : Int) < (ys.length : Int) := by omega
        clear hc hcells hc' hcells'
        by_cases he : xs[k] = ys[k]
        · have he1 : (xs[k] != ys[k]) = false := by simpa using he
          have HE := Lib.hid he
          clear he
          go_wp2
          go_quiet (fail)
          go_wp2
          go_roundw
          case rel => exact ⟨k + 1, _, by omega, by go_num, take_eq_succ hlt hlt' HT.out HE.out, rfl⟩
          case measure => simp [intOf]; omega
        · have he1 : (xs[k] != ys[k]) = true := by simpa using he
          have HE := Lib.hid (ne_of_get hlt hlt' he)
          clear he
          go_wp2
          go_quiet (fail)
          go_wp2
          go_ret
          exact ⟨ret_bool (by simp [HE.out]), q + nq, by simp⟩
      · go_wp2
        go_ret
        have e : xs = ys := by
          have := HT.out
          rwa [List.take_of_length_le (by omega), List.take_of_length_le (by omega)] at this
        exact ⟨ret_bool (by simp [e]), _, rfl⟩
  · have hl1 : ((xs.length : Int) != (ys.length : Int)) = true := by simp; omega
    have HE := Lib.hid (show ¬ xs = ys from fun e => hl (by rw [e]))
    clear hl
    go_enter Try.func36, Try.ntmps36
    go_wp2
    go_ret
    exact ⟨ret_bool (by simp [HE.out]), 0, rfl⟩

/-- k, k + 1, .. -/
def markL (n : Nat) (k : Int) : List Int := (List.range n).map fun i : Nat => k + (i : Int)
@[simp] theorem markL_length (n : Nat) (k : Int) : (markL n k).length = n := by simp [markL]
theorem markL_get (n : Nat) (k : Int) (i : Nat) (h : i < (markL n k).length) : (markL n k)[i] = k + (i : Int) := by simp [markL]
theorem markL_in64 {n : Nat} {k : Int} (h0 : 0 ≤ k) (h1 : k ≤ 1099511627776) (h2 : n ≤ 1099511627776) : ∀ x ∈ markL n k, In64 x := by
  intro x hx
  simp only [markL, List.mem_map, List.mem_range] at hx
  obtain ⟨i, hi, rfl⟩ := hx
  unfold In64; omega

/-- what heldIntS returns -/
def heldL (xs : List Int) (k : Int) : Int := if xs = markL xs.length k then k + xs.length else -1

theorem held_pre {xs : List Int} {k : Int} {j : Nat} (h : j < xs.length) (ht : xs.take j = markL j k) (he : xs[j] = k + (j : Int)) : xs.take (j + 1) = markL (j + 1) k := by
  rw [List.take_succ_eq_append_getElem h, ht, he]
  simp [markL, List.range_succ]
theorem held_no {xs : List Int} {k : Int} {j : Nat} (h : j < xs.length) (he : ¬ xs[j] = k + (j : Int)) : heldL xs k = -1 := by
  unfold heldL
  rw [if_neg]
  intro e
  apply he
  have : xs[j] = (markL xs.length k)[j]'(by simpa using h) := List.getElem_of_eq e h
  rw [this, markL_get]

theorem heldIntS_any {B : Nat} (v : Value) (xs : List Int) (k : Int) (w : World) (h : Ints B w v xs) (h0 : 0 ≤ k) (h1 : k ≤ 1099511627776) (h2 : xs.length ≤ 1099511627776) :
    Calls Try.prog 46 #[v, .int .i64 k] w fun e w' => e = .returned (.int .i64 (heldL xs k)) ∧ w = w' := by
  obtain ⟨a, cap, rfl, hcap, hmax, hcells⟩ := h.opened
  clear h
  go_enter Try.func46, Try.ntmps46
  go_wp2
  go_loop [1, 5] (fun s i => ∃ j : Nat, j ≤ xs.length ∧ i = .int .i64 j ∧ s = .int .i64 (k + (j : Int)) ∧ xs.take j = markL j k) (fun _ i => xs.length - (intOf i).toNat)
  case atStart => exact ⟨0, Nat.zero_le _, rfl, by simp, rfl⟩
  case round =>
    obtain ⟨j, hj, rfl, rfl, ht⟩ := hrel
    have HT := Lib.hid ht
    clear ht
    by_cases hlt : j < xs.length
    · obtain ⟨b, off, rfl, _, hc⟩ := hcells (by omega)
      have hck := hc j hlt
      clear hc hcells
      by_cases he : xs[j] = k + (j : Int)
      · have he1 : (xs[j] != k + (j : Int)) = false := by simpa using he
        have HE := Lib.hid he
        clear he
        go_wp2
        go_round
        case rel => exact ⟨j + 1, by omega, by go_num, by go_num, held_pre hlt HT.out HE.out⟩
        case measure => simp [intOf]; omega
      · have he1 : (xs[j] != k + (j : Int)) = true := by simpa using he
        have HE := Lib.hid (held_no hlt he)
        clear he
        go_wp2
        go_ret
        exact ⟨ret_int (by rw [HE.out]), rfl⟩
    · have HE := Lib.hid (show j = xs.length from by omega)
      go_wp2
      go_ret
      refine ⟨ret_int ?_, rfl⟩
      have e := HT.out
      rw [List.take_of_length_le (by omega), HE.out] at e
      unfold heldL
      rw [if_pos e, HE.out]

theorem szIntS_any {B : Nat} (v : Value) (xs : List Int) (k : Int) (w : World) (h : Ints B w v xs) (h0 : 0 ≤ k) (h1 : k ≤ 1099511627776) :
    Calls Try.prog 99 #[v, .int .i64 k] w fun e w' => e = .returned (.int .i64 (if (xs.length : Int) ≤ k then k - xs.length else -1)) ∧ w = w' := by
  obtain ⟨a, cap, rfl, hcap, hmax, hcells⟩ := h.opened
  clear h hcells
  by_cases hle : (xs.length : Int) ≤ k <;>
  · go_enter Try.func99, Try.ntmps99
    go_wp2
    go_ret
    exact ⟨ret_int (by first | rfl | simp [hle]), rfl⟩

/-- The call returns a slice of ints of its own. -/
def FreshI (xs : List Int) (w : World) (e : Ending) (w' : World) : Prop := ∃ a cap, e = .returned (.slice a xs.length cap) ∧ OwnI w.heap.size w' (.slice a xs.length cap) xs ∧ Below w.heap.size w w'

theorem copy_step {xs : List Int} {k n : Nat} (h : k < xs.length) (hn : n = xs.length) : (xs.take k ++ List.replicate (n - k) 0).set k xs[k] = xs.take (k + 1) ++ List.replicate (n - (k + 1)) 0 := by
  subst hn
  rw [List.take_succ_eq_append_getElem h, List.set_append_right _ _ (by rw [List.length_take]; omega)]
  have e : k - (xs.take k).length = 0 := by rw [List.length_take]; omega
  rw [e, show xs.length - k = (xs.length - (k + 1)) + 1 from by omega, List.replicate_succ, List.set_cons_zero, List.append_assoc]
  rfl

theorem toIntS_any {B : Nat} (v : Value) (xs : List Int) (w : World) (h : Ints B w v xs) (h2 : xs.length ≤ 1099511627776) :
    Calls Try.prog 34 #[v] w (FreshI xs w) := by
  obtain ⟨a, cap, rfl, hcap, hmax, hcells⟩ := h.opened
  clear h
  go_enter Try.func34, Try.ntmps34
  go_wp2_with (at_make; refine wpList_make_ints _ rfl _ _ rfl _ _ xs.length rfl rfl rfl rfl h2 ?_; intro w1 hown hb1 hs1)
  go_loopw [4] (fun i wr => ∃ k : Nat, k ≤ xs.length ∧ i = .int .i64 k ∧ OwnI w.heap.size wr (.slice (some ⟨w.heap.size, 0, none⟩) xs.length xs.length) (xs.take k ++ List.replicate (xs.length - k) 0) ∧ Below w.heap.size w wr) (fun i _ => xs.length - (intOf i).toNat)
  case atStart => exact ⟨0, Nat.zero_le _, rfl, by simpa using hown, hb1⟩
  case round =>
    obtain ⟨k, hk, rfl, ho, hb⟩ := hrel
    clear hown hb1
    by_cases hlt : k < xs.length
    · obtain ⟨b, off, rfl, _, hc⟩ := hcells (by omega)
      have hck := hc k hlt
      have hlt2 := World.block_lt_of_cell? w _ hck
      have hck2 : wr.cell? ⟨b, off + k, none⟩ = some (.int .i64 xs[k]) := (hb.cell (by exact hlt2)).trans hck
      have hl : (xs.take k ++ List.replicate (xs.length - k) 0).length = xs.length := by simp; omega
      obtain ⟨⟨u0, hc1⟩, hf1⟩ := ho.at k (by omega)
      have HO := Lib.hid (ho.set k xs[k])
      have HB := Lib.hid (hb.setCell (p := ⟨w.heap.size, k, none⟩) (Nat.le_refl _) (.int .i64 xs[k]))
      have HC := Lib.hid (copy_step hlt rfl)
      clear hl hc hcells hck ho hb
      go_wp2
      go_roundw
      case rel => exact ⟨k + 1, by omega, by go_num, by rw [← HC.out]; exact HO.out, HB.out⟩
      case measure => simp [intOf]; omega
    · have e : k = xs.length := by omega
      have HO := Lib.hid (show OwnI w.heap.size wr (.slice (some ⟨w.heap.size, 0, none⟩) xs.length xs.length) xs by simpa [e] using ho)
      have HB := Lib.hid hb
      clear ho e hb
      go_wp2
      go_ret
      exact ⟨_, _, rfl, HO.out, HB.out⟩

theorem mark_step {n k : Nat} {xs : List Int} {m : Int} (h : k < xs.length) (hn : n = xs.length) : (markL k m ++ xs.drop k).set k (m + (k : Int)) = markL (k + 1) m ++ xs.drop (k + 1) := by
  rw [List.set_append_right _ _ (by simp)]
  have e : k - (markL k m).length = 0 := by simp
  rw [e, List.drop_eq_getElem_cons h, List.set_cons_zero]
  simp [markL, List.range_succ]

/-- What a marking call leaves: the numbers of this slice alone are turned. -/
def Marked (B : Nat) (v : Value) (n : Nat) (m : Int) (w : World) (e : Ending) (w' : World) : Prop :=
  e = .returned (.int .i64 (m + (n : Int))) ∧ OwnI B w' v (markL n m) ∧ w.grownBy w' v.ownBlock

theorem markIntS_any {B : Nat} (v : Value) (xs : List Int) (m : Int) (w : World) (h : OwnI B w v xs) (h0 : 0 ≤ m) (h1 : m ≤ 1099511627776) (h2 : xs.length ≤ 1099511627776) :
    Calls Try.prog 45 #[v, .int .i64 m] w (Marked B v xs.length m w) := by
  by_cases hz : xs = []
  · subst hz
    obtain ⟨a, cap, rfl, _⟩ := own_shape h
    have HO := Lib.hid h
    clear h
    simp only [List.length_nil]
    go_enter Try.func45, Try.ntmps45
    go_wp2
    refine wp_loop_rounds 1 ?_; rw [rounds_succ]
    go_wp2
    go_ret
    exact ⟨ret_int (by simp), HO.out, World.grownBy.refl _ _⟩
  · have hp : 0 < xs.length := List.length_pos_iff.2 hz
    obtain ⟨g, cap, rfl, hBg, hgs, hcap, hmax⟩ := own_head h hp
    unfold maxLen at hmax
    go_enter Try.func45, Try.ntmps45
    go_wp2
    go_loopw [1, 5] (fun s i wr => ∃ k : Nat, k ≤ xs.length ∧ i = .int .i64 k ∧ s = .int .i64 (m + (k : Int)) ∧ OwnI B wr (.slice (some ⟨g, 0, none⟩) xs.length cap) (markL k m ++ xs.drop k) ∧ w.grownBy wr (some g)) (fun _ i _ => xs.length - (intOf i).toNat)
    case atStart => exact ⟨0, Nat.zero_le _, rfl, by simp, by simpa [markL] using h, World.grownBy.refl _ _⟩
    case round =>
      obtain ⟨k, hk, rfl, rfl, ho, hb⟩ := hrel
      clear h
      by_cases hlt : k < xs.length
      · obtain ⟨⟨u0, hc1⟩, hf1⟩ := ho.at k (by simp; omega)
        have HO := Lib.hid (ho.set k (m + (k : Int)))
        have HB := Lib.hid (hb.andThen (grownBy_setCell wr ⟨g, k, none⟩ (.int .i64 (m + (k : Int)))) (fun _ e => by cases e; exact .inr rfl))
        have HC := Lib.hid (mark_step (m := m) hlt rfl)
        clear ho hb
        go_wp2
        go_roundw
        case rel => exact ⟨k + 1, by omega, by go_num, by go_num, by rw [← HC.out]; exact HO.out, HB.out⟩
        case measure => simp [intOf]; omega
      · have e : k = xs.length := by omega
        have HO := Lib.hid (show OwnI B wr (.slice (some ⟨g, 0, none⟩) xs.length cap) (markL xs.length m) by simpa [e] using ho)
        have HB := Lib.hid hb
        have HE := Lib.hid e
        clear ho e hb
        go_wp2
        go_ret
        exact ⟨ret_int (by rw [HE.out]), HO.out, HB.out⟩

end Go.Proofs.Ytkjdlpbfalojdaa
