/- slices.ContainsFunc, slices.IndexFunc at the program's types; impl.allIn. -/
import Derived.Test.YtkjdlpbfalojdaaLeaf2
import Derived.Shelf.Abstract
namespace Go.Proofs.Ytkjdlpbfalojdaa
open Go.RowKit Go.Shelf
set_option linter.unusedVariables false

/-- The first place below n at which p holds, or -1. -/
def idxN (p : Nat → Bool) (n : Nat) : Int := match (List.range n).find? p with | some i => (i : Int) | none => -1
def anyN (p : Nat → Bool) (n : Nat) : Bool := (List.range n).any p

theorem idxN_hit {p : Nat → Bool} {n k : Nat} (hk : k < n) (h : ∀ j, j < k → p j = false) (hp : p k = true) : idxN p n = k := by
  have : (List.range n).find? p = some k := by
    rw [List.find?_range_eq_some]
    exact ⟨hp, by simpa using hk, fun j hj => by simp [h j hj]⟩
  unfold idxN
  rw [this]
theorem idxN_none {p : Nat → Bool} {n : Nat} (h : ∀ j, j < n → p j = false) : idxN p n = -1 := by
  have : (List.range n).find? p = none := by
    rw [List.find?_eq_none]
    intro x hx
    simp [h x (by simpa using hx)]
  unfold idxN
  rw [this]
theorem idxN_nonneg (p : Nat → Bool) (n : Nat) : decide (0 ≤ idxN p n) = anyN p n := by
  unfold idxN anyN
  cases h : (List.range n).find? p with
  | none =>
    rw [List.find?_eq_none] at h
    have : (List.range n).any p = false := by
      rw [List.any_eq_false]; exact h
    rw [this]; rfl
  | some i =>
    have h1 := List.find?_some h
    have h2 := List.mem_of_find?_eq_some h
    have : (List.range n).any p = true := List.any_eq_true.2 ⟨i, h2, h1⟩
    rw [this]; simp
theorem upto_step {p : Nat → Bool} {k : Nat} (h : ∀ j, j < k → p j = false) (hp : p k = false) : ∀ j, j < k + 1 → p j = false := by
  intro j hj
  by_cases e : j < k
  · exact h j e
  · have e2 : j = k := by omega
    rw [e2]; exact hp
theorem idxN_range (p : Nat → Bool) (n : Nat) : -1 ≤ idxN p n ∧ idxN p n < n ∨ n = 0 ∧ idxN p n = -1 := by
  unfold idxN
  cases h : (List.range n).find? p with
  | none => simp; omega
  | some i =>
    have h2 := List.mem_of_find?_eq_some h
    simp at h2 ⊢; omega

/-- A function value that tells p of the i-th element, and writes nothing that was there. -/
def Tells (g : Nat) (lb : Array Value) (vs : List Value) (p : Nat → Bool) (w : World) : Prop :=
  (∀ args W, (callFunc g args).run Try.prog W = .ok (.enter g args) W) ∧
  ∀ W, Below w.heap.size w W → ∀ i (h : i < vs.length), Calls Try.prog g (#[vs[i]] ++ lb) W fun e W' => e = .returned (.bool (p i)) ∧ Below W.heap.size W W'

set_option maxHeartbeats 400000 in
theorem index_int {B : Nat} (v : Value) (vs : List Value) (w : World) (h : SL B w v vs) (g : Nat) (lb : Array Value) (p : Nat → Bool) (hf : Tells g lb vs p w) :
    Calls Try.prog 108 #[v, .func (.func g) #[] lb] w fun e w' => e = .returned (.int .i64 (idxN p vs.length)) ∧ Below w.heap.size w w' := by
  obtain ⟨a, cap, rfl, hcap, hmax, hcells⟩ := h
  obtain ⟨eg, hf⟩ := hf
  go_enter Try.func108, Try.ntmps108
  go_wp2
  go_loopw [8] (fun i wr => ∃ k : Nat, k ≤ vs.length ∧ i = .int .i64 k ∧ (∀ j, j < k → p j = false) ∧ Below w.heap.size w wr) (fun i _ => vs.length - (intOf i).toNat)
  case atStart => exact ⟨0, Nat.zero_le _, rfl, by omega, Below.refl _ _⟩
  case round =>
    obtain ⟨k, hk, rfl, hn, hb⟩ := hrel
    have HN := Lib.hid hn
    have HB := Lib.hid hb
    by_cases hlt : k < vs.length
    · obtain ⟨b, off, rfl, _, hc⟩ := hcells (by omega)
      have hck := (Above.of_below (B := 0) hb).cell (Nat.zero_le _) (hc k hlt)
      have hF := hf wr hb k hlt
      obtain ⟨u, hu⟩ : ∃ u, u = vs[k] := ⟨_, rfl⟩
      rw [← hu] at hck hF
      clear hc hcells hf hn hb hu
      cases hp : p k
      · rw [hp] at hF
        have HP := Lib.hid hp
        clear hp
        go_wp2_with fail
        refine hF.mono ?_
        rintro e w2 ⟨rfl, hb2⟩
        have HB2 := Lib.hid hb2
        clear hb2
        go_wp2
        go_roundw
        case rel => exact ⟨k + 1, by omega, by go_num, upto_step HN.out HP.out, HB.out.trans (HB2.out.mono HB.out.size)⟩
        case measure => simp [intOf]; omega
      · rw [hp] at hF
        have HP := Lib.hid hp
        clear hp
        go_wp2_with fail
        refine hF.mono ?_
        rintro e w2 ⟨rfl, hb2⟩
        have HB2 := Lib.hid hb2
        clear hb2
        go_wp2
        go_ret
        exact ⟨ret_int (by rw [idxN_hit hlt HN.out HP.out]), HB.out.trans (HB2.out.mono HB.out.size)⟩
    · have e : k = vs.length := by omega
      have HE := Lib.hid e
      clear e hn hb hf
      go_wp2
      go_ret
      exact ⟨ret_int (by rw [idxN_none (by rw [← HE.out]; exact HN.out)]), HB.out⟩

theorem contains_int {B : Nat} (v : Value) (vs : List Value) (w : World) (h : SL B w v vs) (g : Nat) (lb : Array Value) (p : Nat → Bool) (hf : Tells g lb vs p w) :
    Calls Try.prog 106 #[v, .func (.func g) #[] lb] w fun e w' => e = .returned (.bool (anyN p vs.length)) ∧ Below w.heap.size w w' := by
  have hI := index_int v vs w h g lb p hf
  have hE := Lib.hid (idxN_nonneg p vs.length)
  clear h hf
  go_enter Try.func106, Try.ntmps106
  go_wp2_with fail
  refine hI.mono ?_
  rintro e w2 ⟨rfl, hb2⟩
  have HB2 := Lib.hid hb2
  clear hb2
  go_wp2
  go_ret
  exact ⟨ret_bool (by rw [← hE.out]), HB2.out⟩



theorem anyN_getD {α : Type} (f : α → Bool) (xs : List α) (d : α) : anyN (fun i => f (xs.getD i d)) xs.length = xs.any f := by
  rw [Bool.eq_iff_iff]
  unfold anyN
  rw [List.any_eq_true, List.any_eq_true]
  constructor
  · rintro ⟨i, hi, h⟩
    have hi' : i < xs.length := by simpa using hi
    exact ⟨xs[i], List.getElem_mem _, by simpa [List.getD, List.getElem?_eq_getElem hi'] using h⟩
  · rintro ⟨x, hx, h⟩
    obtain ⟨i, hi, rfl⟩ := List.getElem_of_mem hx
    exact ⟨i, by simpa using hi, by simpa [List.getD, List.getElem?_eq_getElem hi] using h⟩

def allB (xs : List Int) (lo hi : Int) : Bool := xs.all fun x => inB x lo hi
theorem allB_any (xs : List Int) (lo hi : Int) : (!anyN (fun i => !inB (xs.getD i 0) lo hi) xs.length) = allB xs lo hi := by
  rw [anyN_getD (fun x => !inB x lo hi) xs 0]
  unfold allB
  rw [List.not_any_eq_all_not]
  simp

theorem allIn1_tells (xs : List Int) (lo hi : Int) (w : World) (b c : Nat) (hb : w.cell? ⟨b, 0, none⟩ = some (.int .i64 lo)) (hc : w.cell? ⟨c, 0, none⟩ = some (.int .i64 hi)) :
    Tells 107 #[.pointer (some ⟨b, 0, none⟩), .pointer (some ⟨c, 0, none⟩)] (ints xs) (fun i => !inB (xs.getD i 0) lo hi) w := by
  refine ⟨enters_of Try.func107 (by kernel_rfl) rfl, fun W hB i h => ?_⟩
  have hb' := (Above.of_below (B := 0) hB).cell (Nat.zero_le _) hb
  have hc' := (Above.of_below (B := 0) hB).cell (Nat.zero_le _) hc
  rw [ints_get]
  have hi' : i < xs.length := by simpa using h
  obtain ⟨x, hx⟩ : ∃ x, x = xs[i] := ⟨_, rfl⟩
  have hx2 : xs.getD i 0 = x := by rw [hx]; simp [List.getD, List.getElem?_eq_getElem hi']
  rw [← hx]
  show Calls _ _ _ _ (fun e W' => e = .returned (.bool (!inB (xs.getD i 0) lo hi)) ∧ _)
  rw [hx2]
  clear hx hx2 hb hc hB h hi'
  show Calls _ _ #[.int .i64 x, .pointer (some ⟨b, 0, none⟩), .pointer (some ⟨c, 0, none⟩)] _ _
  go_enter Try.func107, Try.ntmps107
  go_wp2_with (go_at_call 88; refine (in_any _ _ _ _).mono ?_; rintro e w' ⟨rfl, rfl⟩)
  go_ret
  exact ⟨rfl, Below.refl _ _⟩

theorem allIn_any {B : Nat} (v : Value) (xs : List Int) (lo hi : Int) (w : World) (h : Ints B w v xs) :
    Calls Try.prog 98 #[v, .int .i64 lo, .int .i64 hi] w fun e w' => e = .returned (.bool (allB xs lo hi)) ∧ Below w.heap.size w w' := by
  have hE := Lib.hid (allB_any xs lo hi)
  go_enter Try.func98, Try.ntmps98
  go_wp2_with fail
  have hb2 : Below w.heap.size w ((w.alloc (.cells #[.int .i64 lo] 3)).alloc (.cells #[.int .i64 hi] 3)) := ((Below.refl _ _).alloc (Nat.le_refl _) _).alloc (by simp) _
  have hT := allIn1_tells xs lo hi ((w.alloc (.cells #[.int .i64 lo] 3)).alloc (.cells #[.int .i64 hi] 3)) w.heap.size (w.heap.size + 1) (by simp) (by simp)
  refine (contains_int v (ints xs) _ (h.1.below hb2) _ _ _ hT).mono ?_
  rintro e w2 ⟨rfl, hb3⟩
  have HB := Lib.hid (hb2.trans (hb3.mono hb2.size))
  clear hb3 hb2 hT h
  rw [ints_length]
  obtain ⟨r, hr⟩ : ∃ r, r = anyN (fun i => !inB (xs.getD i 0) lo hi) xs.length := ⟨_, rfl⟩
  have HR := Lib.hid hr
  rw [← hr]
  clear hr
  go_wp2
  go_ret
  exact ⟨ret_bool (by rw [← hE.out, ← HR.out]), HB.out⟩

end Go.Proofs.Ytkjdlpbfalojdaa
