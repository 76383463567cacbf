/- slices.ContainsFunc, slices.IndexFunc at the program's types; impl.allIn. -/
import Derived.Test.YtenlngclocfnlaaGreatDoorBunA
import Derived.Shelf.Abstract
import Derived.Test.YtenlngclocfnlaaGreatDoorBunB
import Derived.Lib.SliceRun
/- slices.ContainsFunc, slices.IndexFunc at the program's types; impl.allIn. -/
namespace Go.Proofs.YtenlngclocfnlaaGreatDoor
open Go.RowKit Go.Shelf
set_option linter.unusedVariables false

/-- The first place below n at which p holds, or -1. -/
def idxN (p : Nat → Bool) (n : Nat) : Int := match (List.range n).find? p with | some i => (i : Int) | none => -1
def anyN (p : Nat → Bool) (n : Nat) : Bool := (List.range n).any p

theorem idxN_hit {p : Nat → Bool} {n k : Nat} (hk : k < n) (h : ∀ j, j < k → p j = false) (hp : p k = true) : idxN p n = k := by
  have : (List.range n).find? p = some k := by
    rw [List.find?_range_eq_some]
    exact ⟨hp, by simpa using hk, fun j hj => by simp [h j hj]⟩
  unfold idxN
  rw [this]
theorem idxN_none {p : Nat → Bool} {n : Nat} (h : ∀ j, j < n → p j = false) : idxN p n = -1 := by
  have : (List.range n).find? p = none := by
    rw [List.find?_eq_none]
    intro x hx
    simp [h x (by simpa using hx)]
  unfold idxN
  rw [this]
theorem idxN_nonneg (p : Nat → Bool) (n : Nat) : decide (0 ≤ idxN p n) = anyN p n := by
  unfold idxN anyN
  cases h : (List.range n).find? p with
  | none =>
    rw [List.find?_eq_none] at h
    have : (List.range n).any p = false := by
      rw [List.any_eq_false]; exact h
    rw [this]; rfl
  | some i =>
    have h1 := List.find?_some h
    have h2 := List.mem_of_find?_eq_some h
    have : (List.range n).any p = true := List.any_eq_true.2 ⟨i, h2, h1⟩
    rw [this]; simp
theorem upto_step {p : Nat → Bool} {k : Nat} (h : ∀ j, j < k → p j = false) (hp : p k = false) : ∀ j, j < k + 1 → p j = false := by
  intro j hj
  by_cases e : j < k
  · exact h j e
  · have e2 : j = k := by omega
    rw [e2]; exact hp
theorem idxN_range (p : Nat → Bool) (n : Nat) : -1 ≤ idxN p n ∧ idxN p n < n ∨ n = 0 ∧ idxN p n = -1 := by
  unfold idxN
  cases h : (List.range n).find? p with
  | none => simp; omega
  | some i =>
    have h2 := List.mem_of_find?_eq_some h
    simp at h2 ⊢; omega

/-- A function value that tells p of the i-th element, and writes nothing that was there. -/
def Tells (g : Nat) (lb : Array Value) (vs : List Value) (p : Nat → Bool) (w : World) : Prop :=
  (∀ args W, (callFunc g args).run Tryz.prog W = .ok (.enter g args) W) ∧
  ∀ W, Below w.heap.size w W → ∀ i (h : i < vs.length), Calls Tryz.prog g (#[vs[i]] ++ lb) W fun e W' => e = .returned (.bool (p i)) ∧ Below W.heap.size W W'

set_option maxHeartbeats 400000 in
theorem index_int {B : Nat} (v : Value) (vs : List Value) (w : World) (h : SL B w v vs) (g : Nat) (lb : Array Value) (p : Nat → Bool) (hf : Tells g lb vs p w) :
    Calls Tryz.prog 130 #[v, .func (.func g) #[] lb] w fun e w' => e = .returned (.int .i64 (idxN p vs.length)) ∧ Below w.heap.size w w' := by
  obtain ⟨a, cap, rfl, hcap, hmax, hcells⟩ := h
  obtain ⟨eg, hf⟩ := hf
  go_enter Tryz.func130, Tryz.ntmps130
  go_wp2
  go_loopw [8] (fun i wr => ∃ k : Nat, k ≤ vs.length ∧ i = .int .i64 k ∧ (∀ j, j < k → p j = false) ∧ Below w.heap.size w wr) (fun i _ => vs.length - (intOf i).toNat)
  case atStart => exact ⟨0, Nat.zero_le _, rfl, by omega, Below.refl _ _⟩
  case round =>
    obtain ⟨k, hk, rfl, hn, hb⟩ := hrel
    have HN := Lib.hid hn
    have HB := Lib.hid hb
    by_cases hlt : k < vs.length
    · obtain ⟨b, off, rfl, _, hc⟩ := hcells (by omega)
      have hck := (Above.of_below (B := 0) hb).cell (Nat.zero_le _) (hc k hlt)
      have hF := hf wr hb k hlt
      obtain ⟨u, hu⟩ : ∃ u, u = vs[k] := ⟨_, rfl⟩
      rw [← hu] at hck hF
      clear hc hcells hf hn hb hu
      cases hp : p k
      · rw [hp] at hF
        have HP := Lib.hid hp
        clear hp
        go_wp2_with fail
        refine hF.mono ?_
        rintro e w2 ⟨rfl, hb2⟩
        have HB2 := Lib.hid hb2
        clear hb2
        go_wp2
        go_roundw
        case rel => exact ⟨k + 1, by omega, by go_num, upto_step HN.out HP.out, HB.out.trans (HB2.out.mono HB.out.size)⟩
        case measure => simp [intOf]; omega
      · rw [hp] at hF
        have HP := Lib.hid hp
        clear hp
        go_wp2_with fail
        refine hF.mono ?_
        rintro e w2 ⟨rfl, hb2⟩
        have HB2 := Lib.hid hb2
        clear hb2
        go_wp2
        go_ret
        exact ⟨ret_int (by rw [idxN_hit hlt HN.out HP.out]), HB.out.trans (HB2.out.mono HB.out.size)⟩
    · have e : k = vs.length := by omega
      have HE := Lib.hid e
      clear e hn hb hf
      go_wp2
      go_ret
      exact ⟨ret_int (by rw [idxN_none (by rw [← HE.out]; exact HN.out)]), HB.out⟩

theorem contains_int {B : Nat} (v : Value) (vs : List Value) (w : World) (h : SL B w v vs) (g : Nat) (lb : Array Value) (p : Nat → Bool) (hf : Tells g lb vs p w) :
    Calls Tryz.prog 94 #[v, .func (.func g) #[] lb] w fun e w' => e = .returned (.bool (anyN p vs.length)) ∧ Below w.heap.size w w' := by
  have hI := index_int v vs w h g lb p hf
  have hE := Lib.hid (idxN_nonneg p vs.length)
  clear h hf
  go_enter Tryz.func94, Tryz.ntmps94
  go_wp2_with fail
  refine hI.mono ?_
  rintro e w2 ⟨rfl, hb2⟩
  have HB2 := Lib.hid hb2
  clear hb2
  go_wp2
  go_ret
  exact ⟨ret_bool (by rw [← hE.out]), HB2.out⟩



theorem anyN_getD {α : Type} (f : α → Bool) (xs : List α) (d : α) : anyN (fun i => f (xs.getD i d)) xs.length = xs.any f := by
  rw [Bool.eq_iff_iff]
  unfold anyN
  rw [List.any_eq_true, List.any_eq_true]
  constructor
  · rintro ⟨i, hi, h⟩
    have hi' : i < xs.length := by simpa using hi
    exact ⟨xs[i], List.getElem_mem _, by simpa [List.getD, List.getElem?_eq_getElem hi'] using h⟩
  · rintro ⟨x, hx, h⟩
    obtain ⟨i, hi, rfl⟩ := List.getElem_of_mem hx
    exact ⟨i, by simpa using hi, by simpa [List.getD, List.getElem?_eq_getElem hi] using h⟩

def allB (xs : List Int) (lo hi : Int) : Bool := xs.all fun x => inB x lo hi
theorem allB_any (xs : List Int) (lo hi : Int) : (!anyN (fun i => !inB (xs.getD i 0) lo hi) xs.length) = allB xs lo hi := by
  rw [anyN_getD (fun x => !inB x lo hi) xs 0]
  unfold allB
  rw [List.not_any_eq_all_not]
  simp

theorem allIn1_tells (xs : List Int) (lo hi : Int) (w : World) (b c : Nat) (hb : w.cell? ⟨b, 0, none⟩ = some (.int .i64 lo)) (hc : w.cell? ⟨c, 0, none⟩ = some (.int .i64 hi)) :
    Tells 95 #[.pointer (some ⟨b, 0, none⟩), .pointer (some ⟨c, 0, none⟩)] (ints xs) (fun i => !inB (xs.getD i 0) lo hi) w := by
  refine ⟨enters_of Tryz.func95 (by kernel_rfl) rfl, fun W hB i h => ?_⟩
  have hb' := (Above.of_below (B := 0) hB).cell (Nat.zero_le _) hb
  have hc' := (Above.of_below (B := 0) hB).cell (Nat.zero_le _) hc
  rw [ints_get]
  have hi' : i < xs.length := by simpa using h
  obtain ⟨x, hx⟩ : ∃ x, x = xs[i] := ⟨_, rfl⟩
  have hx2 : xs.getD i 0 = x := by rw [hx]; simp [List.getD, List.getElem?_eq_getElem hi']
  rw [← hx]
  show Calls _ _ _ _ (fun e W' => e = .returned (.bool (!inB (xs.getD i 0) lo hi)) ∧ _)
  rw [hx2]
  clear hx hx2 hb hc hB h hi'
  show Calls _ _ #[.int .i64 x, .pointer (some ⟨b, 0, none⟩), .pointer (some ⟨c, 0, none⟩)] _ _
  go_enter Tryz.func95, Tryz.ntmps95
  go_wp2_with (go_at_call 54; refine (in_any _ _ _ _).mono ?_; rintro e w' ⟨rfl, rfl⟩)
  go_ret
  exact ⟨rfl, Below.refl _ _⟩

theorem allIn_any {B : Nat} (v : Value) (xs : List Int) (lo hi : Int) (w : World) (h : Ints B w v xs) :
    Calls Tryz.prog 55 #[v, .int .i64 lo, .int .i64 hi] w fun e w' => e = .returned (.bool (allB xs lo hi)) ∧ Below w.heap.size w w' := by
  have hE := Lib.hid (allB_any xs lo hi)
  go_enter Tryz.func55, Tryz.ntmps55
  go_wp2_with fail
  have hb2 : Below w.heap.size w ((w.alloc (.cells #[.int .i64 lo] 3)).alloc (.cells #[.int .i64 hi] 3)) := ((Below.refl _ _).alloc (Nat.le_refl _) _).alloc (by simp) _
  have hT := allIn1_tells xs lo hi ((w.alloc (.cells #[.int .i64 lo] 3)).alloc (.cells #[.int .i64 hi] 3)) w.heap.size (w.heap.size + 1) (by simp) (by simp)
  refine (contains_int v (ints xs) _ (h.1.below hb2) _ _ _ hT).mono ?_
  rintro e w2 ⟨rfl, hb3⟩
  have HB := Lib.hid (hb2.trans (hb3.mono hb2.size))
  clear hb3 hb2 hT h
  rw [ints_length]
  obtain ⟨r, hr⟩ : ∃ r, r = anyN (fun i => !inB (xs.getD i 0) lo hi) xs.length := ⟨_, rfl⟩
  have HR := Lib.hid hr
  rw [← hr]
  clear hr
  go_wp2
  go_ret
  exact ⟨ret_bool (by rw [← hE.out, ← HR.out]), HB.out⟩

end Go.Proofs.YtenlngclocfnlaaGreatDoor

/- The program's codes and CodeOk. -/
namespace Go.Proofs.YtenlngclocfnlaaGreatDoor
open Go.RowKit Go.Shelf
set_option linter.unusedVariables false
set_option maxRecDepth 100000

theorem in_yes (n lo hi : Int) (w : World) (h : lo ≤ n ∧ n ≤ hi) :
    Calls Tryz.prog 54 #[.int .i64 n, .int .i64 lo, .int .i64 hi] w fun e w' => e = .returned (.bool true) ∧ w = w' := by
  have q := in_any n lo hi w
  rw [show inB n lo hi = true from decide_eq_true h] at q
  exact q
theorem in_no (n lo hi : Int) (w : World) (h : ¬ (lo ≤ n ∧ n ≤ hi)) :
    Calls Tryz.prog 54 #[.int .i64 n, .int .i64 lo, .int .i64 hi] w fun e w' => e = .returned (.bool false) ∧ w = w' := by
  have q := in_any n lo hi w
  rw [show inB n lo hi = false from decide_eq_false h] at q
  exact q

theorem codesI_any (p c : Int) (w : World) :
    Calls Tryz.prog 145 #[.int .i64 p, .int .i64 c] w fun e w' => e = .returned (.bool (codesB p c)) ∧ w = w' := by
  by_cases h1 : 1 ≤ p ∧ p ≤ 3
  · have q1 := in_yes p 1 3 w h1
    by_cases h2 : 1 ≤ c ∧ c ≤ 5
    · have q2 := in_yes c 1 5 w h2
      have HR := Lib.hid (show codesB p c = true from codesB_iff.2 ⟨h1, h2⟩)
      clear h1 h2
      go_enter Tryz.func145, Tryz.ntmps145
      go_wp2_with fail
      refine q1.mono ?_
      rintro e w2 ⟨rfl, rfl⟩
      clear q1
      go_wp2_with fail
      refine q2.mono ?_
      rintro e w2 ⟨rfl, rfl⟩
      clear q2
      go_wp2
      go_ret
      exact ⟨ret_bool (by rw [HR.out]), rfl⟩
    · have q2 := in_no c 1 5 w h2
      have HR := Lib.hid (show codesB p c = false from by rw [← Bool.not_eq_true, codesB_iff]; exact fun q => h2 q.2)
      clear h1 h2
      go_enter Tryz.func145, Tryz.ntmps145
      go_wp2_with fail
      refine q1.mono ?_
      rintro e w2 ⟨rfl, rfl⟩
      clear q1
      go_wp2_with fail
      refine q2.mono ?_
      rintro e w2 ⟨rfl, rfl⟩
      clear q2
      go_wp2
      go_ret
      exact ⟨ret_bool (by rw [HR.out]), rfl⟩
  · have q1 := in_no p 1 3 w h1
    have HR := Lib.hid (show codesB p c = false from by rw [← Bool.not_eq_true, codesB_iff]; exact fun q => h1 q.1)
    clear h1
    go_enter Tryz.func145, Tryz.ntmps145
    go_wp2_with fail
    refine q1.mono ?_
    rintro e w2 ⟨rfl, rfl⟩
    clear q1
    go_wp2
    go_ret
    exact ⟨ret_bool (by rw [HR.out]), rfl⟩

theorem inRow_all (c : Int) (xs : List Int) : inRow c xs = allB xs 0 (c - 1) := rfl

theorem codeOkI_any {B : Nat} (p c : Int) (v : Value) (xs : List Int) (w : World) (h : Ints B w v xs) :
    Calls Tryz.prog 144 #[.int .i64 p, .int .i64 c, v] w fun e w' => e = .returned (.bool (codeOkB p c xs)) ∧ Below w.heap.size w w' := by
  have hC := codesI_any p c w
  cases hc : codesB p c
  · rw [hc] at hC
    have HR := Lib.hid (show codeOkB p c xs = false from by unfold codeOkB; rw [hc]; rfl)
    obtain ⟨a, cap, rfl, _⟩ := h.opened
    clear hc h
    go_enter Tryz.func144, Tryz.ntmps144
    go_wp2_with fail
    refine hC.mono ?_
    rintro e w2 ⟨rfl, rfl⟩
    clear hC
    go_wp2
    go_ret
    exact ⟨ret_bool (by rw [HR.out]), Below.refl _ _⟩
  · rw [hc] at hC
    obtain ⟨⟨h1, h2⟩, h3, h4⟩ := codesB_iff.1 hc
    cases hl : ((xs.length : Int) == p)
    · have HR := Lib.hid (show codeOkB p c xs = false from by unfold codeOkB; rw [decide_eq_false (by simpa using hl)]; simp)
      obtain ⟨a, cap, rfl, _⟩ := h.opened
      clear hc h
      go_enter Tryz.func144, Tryz.ntmps144
      go_wp2_with fail
      refine hC.mono ?_
      rintro e w2 ⟨rfl, rfl⟩
      clear hC
      go_wp2
      go_ret
      exact ⟨ret_bool (by rw [HR.out]), Below.refl _ _⟩
    · have HR := Lib.hid (show codeOkB p c xs = allB xs 0 (c - 1) from by unfold codeOkB; rw [hc, decide_eq_true (by simpa using hl), inRow_all]; rfl)
      have hA := allIn_any v xs 0 (c - 1) w h
      obtain ⟨a, cap, rfl, _⟩ := h.opened
      clear hc h
      obtain ⟨r, hr⟩ : ∃ r, r = allB xs 0 (c - 1) := ⟨_, rfl⟩
      rw [← hr] at hA HR
      clear hr
      go_enter Tryz.func144, Tryz.ntmps144
      go_wp2_with fail
      refine hC.mono ?_
      rintro e w2 ⟨rfl, rfl⟩
      clear hC
      go_wp2_with fail
      refine hA.mono ?_
      rintro e w2 ⟨rfl, hb2⟩
      have HB2 := Lib.hid hb2
      clear hA hb2
      go_wp2
      go_ret
      exact ⟨ret_bool (by rw [HR.out]), HB2.out⟩

end Go.Proofs.YtenlngclocfnlaaGreatDoor

/- The program's answerTo. -/
namespace Go.Proofs.YtenlngclocfnlaaGreatDoor
open Go.RowKit
set_option linter.unusedVariables false
set_option maxRecDepth 100000

/-- The program's counts: of x's first k numbers, and of y's first m ones. -/
def manyL (x y : List Int) (k m : Nat) : List Int := ((List.range 5).map fun (c : Nat) => ((cntK x c k : Nat) : Int)) ++ (List.range 5).map fun (c : Nat) => ((cntK y c m : Nat) : Int)
def manyA (x y : List Int) (k m : Nat) : Array Value := (ints (manyL x y k m)).toArray
theorem manyA_x (x y : List Int) (k m : Nat) {c : Nat} (h : c < 5) : (manyA x y k m)[c]? = some (.int .i64 (cntK x c k : Nat)) := by
  have : c = 0 ∨ c = 1 ∨ c = 2 ∨ c = 3 ∨ c = 4 := by omega
  rcases this with rfl | rfl | rfl | rfl | rfl <;> rfl
theorem manyA_y (x y : List Int) (k m : Nat) {c : Nat} (h : c < 5) : (manyA x y k m)[5 + c]? = some (.int .i64 (cntK y c m : Nat)) := by
  have : c = 0 ∨ c = 1 ∨ c = 2 ∨ c = 3 ∨ c = 4 := by omega
  rcases this with rfl | rfl | rfl | rfl | rfl <;> rfl
theorem manyL_x {x y : List Int} {k m c : Nat} (hk : k < x.length) (hx : x[k] = (c : Int)) (h : c < 5) : (manyL x y k m).set c ((cntK x c k : Nat) + 1 : Int) = manyL x y (k + 1) m := by
  refine List.ext_getElem (by simp [manyL]) fun i h1 h2 => ?_
  rw [List.getElem_set]
  split
  · rename_i e
    subst e
    simp only [manyL]
    rw [List.getElem_append_left (by simpa using h)]
    simp only [List.getElem_map, List.getElem_range]
    rw [cntK_hit hk hx]; push_cast; rfl
  · rename_i e
    simp only [manyL]
    by_cases hi : i < 5
    · rw [List.getElem_append_left (by simpa using hi), List.getElem_append_left (by simpa using hi)]
      simp only [List.getElem_map, List.getElem_range]
      rw [cntK_miss hk (by rw [hx]; omega)]
    · rw [List.getElem_append_right (by simp; omega), List.getElem_append_right (by simp; omega)]
      simp only [List.getElem_map, List.getElem_range, List.length_map]
theorem manyL_y {x y : List Int} {k m c : Nat} (hk : m < y.length) (hy : y[m] = (c : Int)) (h : c < 5) : (manyL x y k m).set (5 + c) ((cntK y c m : Nat) + 1 : Int) = manyL x y k (m + 1) := by
  refine List.ext_getElem (by simp [manyL]) fun i h1 h2 => ?_
  rw [List.getElem_set]
  split
  · rename_i e
    subst e
    simp only [manyL]
    rw [List.getElem_append_right (by simp)]
    simp only [List.getElem_map, List.getElem_range, List.length_map, List.length_range, Nat.add_sub_cancel_left]
    rw [cntK_hit hk hy]; push_cast; rfl
  · rename_i e
    simp only [manyL]
    by_cases hi : i < 5
    · rw [List.getElem_append_left (by simpa using hi), List.getElem_append_left (by simpa using hi)]
    · rw [List.getElem_append_right (by simp; omega)]
      rw [List.getElem_append_right (by simp; omega)]
      simp only [List.getElem_map, List.getElem_range, List.length_map, List.length_range]
      rw [cntK_miss hk (by rw [hy]; omega)]
theorem manyA_setx {x y : List Int} {k m c : Nat} (hk : k < x.length) (hx : x[k] = (c : Int)) (h : c < 5) : (manyA x y k m).setIfInBounds c (.int .i64 ((cntK x c k : Nat) + 1 : Int)) = manyA x y (k + 1) m := by
  unfold manyA
  rw [List.setIfInBounds_toArray, ints_set, manyL_x hk hx h]
theorem manyA_sety {x y : List Int} {k m c : Nat} (hk : m < y.length) (hy : y[m] = (c : Int)) (h : c < 5) : (manyA x y k m).setIfInBounds (5 + c) (.int .i64 ((cntK y c m : Nat) + 1 : Int)) = manyA x y k (m + 1) := by
  unfold manyA
  rw [List.setIfInBounds_toArray, ints_set, manyL_y hk hy h]

/-- What lies in the three blocks of the call. -/
def AnsSt (b : Nat) (x y : List Int) (k : Nat) (r n : Int) (w : World) : Prop :=
  w.heap[b]? = some (.cells #[.int .i64 0, .int .i64 0] 174 (0, 0)) ∧ w.heap[b + 1]? = some (.cells #[.int .i64 r, .int .i64 n] 174 (0, 0)) ∧ w.heap[b + 1 + 1]? = some (.cells (manyA x y k k) 188 (0, 0))

theorem ansSt_start (w : World) (x y : List Int) : AnsSt w.heap.size x y 0 0 0 (((w.alloc (.cells #[.int .i64 0, .int .i64 0] 174)).alloc (.cells #[.int .i64 0, .int .i64 0] 174)).alloc (.cells (manyA x y 0 0) 188)) := by
  refine ⟨?_, ?_, ?_⟩
  · rw [heap_alloc_old _ _ (by simp; omega), heap_alloc_old _ _ (by simp)]; exact heap_alloc_new w _
  · rw [heap_alloc_old _ _ (by simp)]; have q := @Go.heap_alloc_new (w.alloc (.cells #[.int .i64 0, .int .i64 0] 174)) (.cells #[.int .i64 0, .int .i64 0] 174); rw [World.size_alloc] at q; exact q
  · have q := @Go.heap_alloc_new ((w.alloc (.cells #[.int .i64 0, .int .i64 0] 174)).alloc (.cells #[.int .i64 0, .int .i64 0] 174)) (.cells (manyA x y 0 0) 188); rw [World.size_alloc, World.size_alloc] at q; exact q

def AnsOut (x y : List Int) (w : World) (e : Ending) (w' : World) : Prop := e = .returned (.agg #[.int .i64 (rightZ x y), .int .i64 (nearZ x y)]) ∧ Below w.heap.size w w'

set_option maxHeartbeats 4000000 in
theorem answerI_any {B C : Nat} (u v : Value) (x y : List Int) (w : World) (hx : Ints B w u x) (hy : Ints C w v y) (hl : x.length = y.length) (hl3 : x.length ≤ 1000) (h5 : ∀ z ∈ x, 0 ≤ z ∧ z < 5) (h6 : ∀ z ∈ y, 0 ≤ z ∧ z < 5) :
    Calls Tryz.prog 150 #[u, v] w (AnsOut x y w) := by
  obtain ⟨a, cap, rfl, hcap, hmax, hcells⟩ := hx.opened
  obtain ⟨b, cap', rfl, hcap', hmax', hcells'⟩ := hy.opened
  have HLL := Lib.hid hl
  have H5 := Lib.hid h5
  have H6 := Lib.hid h6
  have HST := Lib.hid (ansSt_start w x y)
  have HBS := Lib.hid ((((Below.refl w.heap.size w).alloc (Nat.le_refl _) (.cells #[.int .i64 0, .int .i64 0] 174)).alloc (by simp) (.cells #[.int .i64 0, .int .i64 0] 174)).alloc (by simp; omega) (.cells (manyA x y 0 0) 188))
  clear hl h5 h6 hx hy
  go_enter Tryz.func150, Tryz.ntmps150
  go_wp2
  go_loopw [12] (fun i wr => ∃ k : Nat, k ≤ x.length ∧ i = .int .i64 k ∧ AnsSt w.heap.size x y k (rightN x y k : Nat) 0 wr ∧ Below w.heap.size w wr) (fun i _ => x.length - (intOf i).toNat)
  case atStart => exact ⟨0, Nat.zero_le _, rfl, HST.out, HBS.out⟩
  case round =>
    obtain ⟨k, hk, rfl, hst, hb⟩ := hrel
    obtain ⟨wk, rfl⟩ : ∃ x, x = wr := ⟨_, rfl⟩
    have hR := right_le x y k
    obtain ⟨s0, s1, s2⟩ := hst
    clear HST HBS
    by_cases hlt : k < x.length
    · have hll := HLL.out
      obtain ⟨b1, o1, rfl, _, hc⟩ := hcells (by omega)
      obtain ⟨b2, o2, rfl, _, hc'⟩ := hcells' (by omega)
      have hk2 : k < y.length := by omega
      have hck := (Above.of_below (B := 0) hb).cell (Nat.zero_le _) (hc k hlt)
      have hck' := (Above.of_below (B := 0) hb).cell (Nat.zero_le _) (hc' k hk2)
      have q5 := H5.out _ (List.getElem_mem hlt)
      have q6 := H6.out _ (List.getElem_mem hk2)
      obtain ⟨c, hcx⟩ : ∃ c : Nat, x[k] = (c : Int) := ⟨x[k].toNat, by omega⟩
      obtain ⟨d, hdy⟩ : ∃ d : Nat, y[k] = (d : Int) := ⟨y[k].toNat, by omega⟩
      have hc5 : c < 5 := by omega
      have hd5 : d < 5 := by omega
      have HT1 := Lib.hid (manyA_setx (y := y) (m := k) hlt hcx hc5)
      have HT2 := Lib.hid (manyA_sety (x := x) (k := k + 1) hk2 hdy hd5)
      rw [hcx] at hck
      rw [hdy] at hck'
      have HCY := Lib.hid (hdy ▸ hc' k hk2)
      have hi0 : (0 : Int) ≤ (k : Int) := by omega
      have hi1 : (k : Int) < (x.length : Int) := by omega
      have hi2 : (k : Int) < (y.length : Int) := by omega
      have hi3 : (0 : Int) ≤ (c : Int) := by omega
      have hi4 : (c : Int) < 5 := by omega
      have hi5 : (0 : Int) ≤ (d : Int) := by omega
      have hi6 : (d : Int) < 5 := by omega
      have hn1 := cntK_le x c k
      have hn2 := cntK_le y d k
      have HLT := Lib.hid (And.intro hlt hk2)
      clear hc hcells hc' hcells' hll q5 q6
      by_cases e : c = d
      · have e1 : ((c : Int) == (d : Int)) = true := by rw [e]; simp
        have u1 := heap_setCell_same _ _ 0 _ _ (.int .i64 ((rightN x y k : Nat) + 1 : Int)) s1
        have u2 : (wk.setCell ⟨w.heap.size + 1, 0, none⟩ (.int .i64 ((rightN x y k : Nat) + 1 : Int))).heap[w.heap.size + 1 + 1]? = _ := (heap_setCell_other _ _ _ _ (by simp)).trans s2
        have u0 : (wk.setCell ⟨w.heap.size + 1, 0, none⟩ (.int .i64 ((rightN x y k : Nat) + 1 : Int))).heap[w.heap.size]? = _ := (heap_setCell_other _ _ _ _ (by simp)).trans s0
        have l0 := cell_of_row _ _ 0 _ _ (0, 0) s1
        have f0 := frozen_of_row _ _ 0 _ _ s1
        have HN := Lib.hid (rightN_hit (x := x) (y := y) hlt hk2 (by rw [hcx, hdy, e]))
        simp only [List.getElem?_toArray, List.getElem?_cons_zero] at l0
        have v2 := heap_setCell_same (wk.setCell ⟨w.heap.size + 1, 0, none⟩ (.int .i64 ((rightN x y k : Nat) + 1 : Int))) _ c _ _ (.int .i64 ((cntK x c k : Nat) + 1 : Int)) u2
        rw [HT1.out] at v2
        have v1 : ((wk.setCell ⟨w.heap.size + 1, 0, none⟩ (.int .i64 ((rightN x y k : Nat) + 1 : Int))).setCell ⟨w.heap.size + 1 + 1, c, none⟩ (.int .i64 ((cntK x c k : Nat) + 1 : Int))).heap[w.heap.size + 1]? = _ := (heap_setCell_other _ _ _ _ (by simp)).trans u1
        have v0 : ((wk.setCell ⟨w.heap.size + 1, 0, none⟩ (.int .i64 ((rightN x y k : Nat) + 1 : Int))).setCell ⟨w.heap.size + 1 + 1, c, none⟩ (.int .i64 ((cntK x c k : Nat) + 1 : Int))).heap[w.heap.size]? = _ := (heap_setCell_other _ _ _ _ (by simp; omega)).trans u0
        have l1 := (cell_of_row _ _ c _ _ (0, 0) u2).trans (manyA_x x y k k hc5)
        have l2 := (cell_of_row _ _ (5 + d) _ _ (0, 0) v2).trans (manyA_y x y (k + 1) k hd5)
        have f1 := frozen_of_row _ _ c _ _ u2
        have f2 := frozen_of_row _ _ (5 + d) _ _ v2
        have w2 := heap_setCell_same _ _ (5 + d) _ _ (.int .i64 ((cntK y d k : Nat) + 1 : Int)) v2
        rw [HT2.out] at w2
        have w1 := (heap_setCell_other ((wk.setCell ⟨w.heap.size + 1, 0, none⟩ (.int .i64 ((rightN x y k : Nat) + 1 : Int))).setCell ⟨w.heap.size + 1 + 1, c, none⟩ (.int .i64 ((cntK x c k : Nat) + 1 : Int))) ⟨w.heap.size + 1 + 1, 5 + d, none⟩ (w.heap.size + 1) (.int .i64 ((cntK y d k : Nat) + 1 : Int)) (by simp)).trans v1
        have w0 := (heap_setCell_other ((wk.setCell ⟨w.heap.size + 1, 0, none⟩ (.int .i64 ((rightN x y k : Nat) + 1 : Int))).setCell ⟨w.heap.size + 1 + 1, c, none⟩ (.int .i64 ((cntK x c k : Nat) + 1 : Int))) ⟨w.heap.size + 1 + 1, 5 + d, none⟩ (w.heap.size) (.int .i64 ((cntK y d k : Nat) + 1 : Int)) (by simp; omega)).trans v0
        have m2 := (Above.of_below (B := 0) ((hb.setCell (p := ⟨w.heap.size + 1, 0, none⟩) (by simp) (.int .i64 ((rightN x y k : Nat) + 1 : Int))).setCell (p := ⟨w.heap.size + 1 + 1, c, none⟩) (by simp; omega) (.int .i64 ((cntK x c k : Nat) + 1 : Int)))).cell (Nat.zero_le _) HCY.out
        have HS := Lib.hid (And.intro w0 (And.intro w1 w2))
        have HB := Lib.hid hb
        clear w0 w1 w2 v0 v1 v2 u0 u1 u2 hb s0 s1 s2 hcx hdy HT1 HT2
        clear e
        go_wp2
        go_roundw
        case rel => exact ⟨k + 1, by omega, by go_num, by rw [HN.out]; exact HS.out, ((HB.out.setCell (p := ⟨w.heap.size + 1, 0, none⟩) (by simp) _).setCell (p := ⟨w.heap.size + 1 + 1, c, none⟩) (by simp; omega) _).setCell (p := ⟨w.heap.size + 1 + 1, 5 + d, none⟩) (by simp; omega) _⟩
        case measure => simp [intOf]; omega
      · have e1 : ((c : Int) == (d : Int)) = false := by rw [beq_eq_false_iff_ne]; omega
        have u1 := s1
        have u2 := s2
        have u0 := s0
        have HN := Lib.hid (rightN_miss (x := x) (y := y) hlt hk2 (by rw [hcx, hdy]; omega))
        have v2 := heap_setCell_same wk _ c _ _ (.int .i64 ((cntK x c k : Nat) + 1 : Int)) u2
        rw [HT1.out] at v2
        have v1 : (wk.setCell ⟨w.heap.size + 1 + 1, c, none⟩ (.int .i64 ((cntK x c k : Nat) + 1 : Int))).heap[w.heap.size + 1]? = _ := (heap_setCell_other _ _ _ _ (by simp)).trans u1
        have v0 : (wk.setCell ⟨w.heap.size + 1 + 1, c, none⟩ (.int .i64 ((cntK x c k : Nat) + 1 : Int))).heap[w.heap.size]? = _ := (heap_setCell_other _ _ _ _ (by simp; omega)).trans u0
        have l1 := (cell_of_row _ _ c _ _ (0, 0) u2).trans (manyA_x x y k k hc5)
        have l2 := (cell_of_row _ _ (5 + d) _ _ (0, 0) v2).trans (manyA_y x y (k + 1) k hd5)
        have f1 := frozen_of_row _ _ c _ _ u2
        have f2 := frozen_of_row _ _ (5 + d) _ _ v2
        have w2 := heap_setCell_same _ _ (5 + d) _ _ (.int .i64 ((cntK y d k : Nat) + 1 : Int)) v2
        rw [HT2.out] at w2
        have w1 := (heap_setCell_other (wk.setCell ⟨w.heap.size + 1 + 1, c, none⟩ (.int .i64 ((cntK x c k : Nat) + 1 : Int))) ⟨w.heap.size + 1 + 1, 5 + d, none⟩ (w.heap.size + 1) (.int .i64 ((cntK y d k : Nat) + 1 : Int)) (by simp)).trans v1
        have w0 := (heap_setCell_other (wk.setCell ⟨w.heap.size + 1 + 1, c, none⟩ (.int .i64 ((cntK x c k : Nat) + 1 : Int))) ⟨w.heap.size + 1 + 1, 5 + d, none⟩ (w.heap.size) (.int .i64 ((cntK y d k : Nat) + 1 : Int)) (by simp; omega)).trans v0
        have m2 := (Above.of_below (B := 0) (hb.setCell (p := ⟨w.heap.size + 1 + 1, c, none⟩) (by simp; omega) (.int .i64 ((cntK x c k : Nat) + 1 : Int)))).cell (Nat.zero_le _) HCY.out
        have HS := Lib.hid (And.intro w0 (And.intro w1 w2))
        have HB := Lib.hid hb
        clear w0 w1 w2 v0 v1 v2 u0 u1 u2 hb s0 s1 s2 hcx hdy HT1 HT2
        clear e
        go_wp2
        go_roundw
        case rel => exact ⟨k + 1, by omega, by go_num, by rw [HN.out]; exact HS.out, (HB.out.setCell (p := ⟨w.heap.size + 1 + 1, c, none⟩) (by simp; omega) _).setCell (p := ⟨w.heap.size + 1 + 1, 5 + d, none⟩) (by simp; omega) _⟩
        case measure => simp [intOf]; omega
    · have e : k = x.length := by omega
      subst e
      have HLX := Lib.hid (fun (c : Nat) => show cntK x c x.length = cntC x c from cntK_full _ (Nat.le_refl _))
      have HLY := Lib.hid (fun (c : Nat) => show cntK y c x.length = cntC y c from cntK_full _ (by rw [HLL.out]; exact Nat.le_refl _))
      have HS := Lib.hid (And.intro s0 (And.intro s1 s2))
      have HB := Lib.hid hb
      clear hcells hcells' s0 s1 s2 hb hlt
      go_wp2
      go_loopw [45] (fun i wr => ∃ j : Nat, j ≤ 5 ∧ i = .int .i64 j ∧ AnsSt w.heap.size x y x.length (rightN x y x.length : Nat) (bothN x y j : Nat) wr ∧ Below w.heap.size w wr) (fun i _ => 5 - (intOf i).toNat)
      case atStart => exact ⟨0, Nat.zero_le _, rfl, HS.out, HB.out⟩
      case round =>
        obtain ⟨j, hj, rfl, hst, hb⟩ := hrel
        obtain ⟨wj, rfl⟩ : ∃ x, x = wr := ⟨_, rfl⟩
        obtain ⟨s0, s1, s2⟩ := hst
        have hB := both_len (x := x) (y := y) (c := j)
        clear HS HB
        by_cases hlt : j < 5
        · have l1 := (cell_of_row _ _ j _ _ (0, 0) s2).trans (manyA_x x y x.length x.length hlt)
          have l2 := (cell_of_row _ _ (5 + j) _ _ (0, 0) s2).trans (manyA_y x y x.length x.length hlt)
          have l3 := cell_of_row _ _ 1 _ _ (0, 0) s1
          have f3 := frozen_of_row _ _ 1 _ _ s1
          rw [HLX.out] at l1
          rw [HLY.out] at l2
          simp only [List.getElem?_toArray, List.getElem?_cons_zero, List.getElem?_cons_succ] at l3
          have u1 := heap_setCell_same _ _ 1 _ _ (.int .i64 (((bothN x y j : Nat) : Int) + (min (cntC x j) (cntC y j) : Nat))) s1
          have u2 := (heap_setCell_other wj ⟨w.heap.size + 1, 1, none⟩ (w.heap.size + 1 + 1) (.int .i64 (((bothN x y j : Nat) : Int) + (min (cntC x j) (cntC y j) : Nat))) (by simp)).trans s2
          have u0 := (heap_setCell_other wj ⟨w.heap.size + 1, 1, none⟩ (w.heap.size) (.int .i64 (((bothN x y j : Nat) : Int) + (min (cntC x j) (cntC y j) : Nat))) (by simp)).trans s0
          have HS := Lib.hid (And.intro u0 (And.intro u1 u2))
          have HB := Lib.hid hb
          have hi0 : (0 : Int) ≤ (j : Int) := by omega
          have hi1 : (j : Int) < 5 := by omega
          have hc1 : cntC x j ≤ x.length := List.count_le_length
          have HST := Lib.hid (show bothN x y (j + 1) = bothN x y j + min (cntC x j) (cntC y j) from rfl)
          clear s0 s1 s2 u0 u1 u2 hb
          rcases Nat.lt_or_ge (cntC y j) (cntC x j) with hm | hm
          · have hm1 : ((cntC y j : Nat) : Int) < (cntC x j : Nat) := by omega
            have HM := Lib.hid (Nat.min_eq_right (Nat.le_of_lt hm))
            clear hm
            go_wp2
            go_region
            go_wp2
            go_roundw
            case rel =>
              refine ⟨j + 1, by omega, by go_num, ?_, ?_⟩
              · have q := HS.out
                have e : ((bothN x y j : Nat) : Int) + (min (cntC x j) (cntC y j) : Nat) = ((bothN x y (j + 1) : Nat) : Int) := by rw [HST.out]; push_cast; rfl
                rw [e] at q
                rw [HM.out] at e
                rw [e]
                exact q
              · exact (show Drawn _ _ from ⟨1, rfl⟩).below.mono (by have := HB.out.size; simpa using this) |> fun q => (HB.out.setCell (p := ⟨w.heap.size + 1, 1, none⟩) (by simp) _).trans q
            case measure => simp [intOf]; omega
          · have hm1 : ¬ ((cntC y j : Nat) : Int) < (cntC x j : Nat) := by omega
            have HM := Lib.hid (Nat.min_eq_left hm)
            clear hm
            go_wp2
            go_region
            go_wp2
            go_roundw
            case rel =>
              refine ⟨j + 1, by omega, by go_num, ?_, ?_⟩
              · have q := HS.out
                have e : ((bothN x y j : Nat) : Int) + (min (cntC x j) (cntC y j) : Nat) = ((bothN x y (j + 1) : Nat) : Int) := by rw [HST.out]; push_cast; rfl
                rw [e] at q
                rw [HM.out] at e
                rw [e]
                exact q
              · exact (show Drawn _ _ from ⟨1, rfl⟩).below.mono (by have := HB.out.size; simpa using this) |> fun q => (HB.out.setCell (p := ⟨w.heap.size + 1, 1, none⟩) (by simp) _).trans q
            case measure => simp [intOf]; omega
        · have e : j = 5 := by omega
          subst e
          have l3 := cell_of_row _ _ 1 _ _ (0, 0) s1
          have l4 := cell_of_row _ _ 0 _ _ (0, 0) s1
          have f3 := frozen_of_row _ _ 1 _ _ s1
          simp only [List.getElem?_toArray, List.getElem?_cons_zero, List.getElem?_cons_succ] at l3 l4
          have u1 := heap_setCell_same _ _ 1 _ _ (.int .i64 (((bothN x y 5 : Nat) : Int) - (rightN x y x.length : Nat))) s1
          have u0 := (heap_setCell_other wj ⟨w.heap.size + 1, 1, none⟩ (w.heap.size) (.int .i64 (((bothN x y 5 : Nat) : Int) - (rightN x y x.length : Nat))) (by simp)).trans s0
          have m0 := cell_of_row _ _ 0 _ _ (0, 0) u1
          have m1 := cell_of_row _ _ 1 _ _ (0, 0) u1
          have n0 := cell_of_row _ _ 0 _ _ (0, 0) u0
          have n1 := cell_of_row _ _ 1 _ _ (0, 0) u0
          have g0 := frozen_of_row _ _ 0 _ _ u0
          have g1 := frozen_of_row _ _ 1 _ _ u0
          have v0 := heap_setCell_same _ _ 1 _ _ (.int .i64 (((bothN x y 5 : Nat) : Int) - (rightN x y x.length : Nat))) (heap_setCell_same _ _ 0 _ _ (.int .i64 (rightN x y x.length : Nat)) u0)
          simp only [List.setIfInBounds_toArray, List.set_cons_succ, List.set_cons_zero, List.getElem?_toArray, List.getElem?_cons_zero, List.getElem?_cons_succ] at u1 m0 m1 n0 n1 v0
          have HB := Lib.hid hb
          have HV := Lib.hid v0
          have hR := right_le x y x.length
          clear s0 s1 s2 u0 u1 v0 hb
          go_wp2
          ((try simp only [Exit.inBlock, Exit.then]); refine bodyPost_ret (results_cell_row rfl _ _ w.heap.size _ _ (0, 0) _ rfl HV.out Tryz.underlying174 rfl (by kernel_rfl)) rfl ?_)
          exact ⟨rfl, ((HB.out.setCell (p := ⟨w.heap.size + 1, 1, none⟩) (by simp) _).setCell (p := ⟨w.heap.size, 0, none⟩) (by simp) _).setCell (p := ⟨w.heap.size, 1, none⟩) (by simp) _⟩

end Go.Proofs.YtenlngclocfnlaaGreatDoor

/- slices.IndexFunc and slices.ContainsFunc over guesses; the program's GuessesOk and fits. -/
namespace Go.Proofs.YtenlngclocfnlaaGreatDoor
open Go.RowKit Go.Shelf
set_option linter.unusedVariables false
set_option maxRecDepth 100000

/-- A guess as a value. -/
def gsV (v : Value) (g : Gs) : Value := .agg #[v, .int .i64 g.right, .int .i64 g.near]

/-- A function value that tells q of each of the guesses, and writes nothing that was there. -/
def TellsG (g : Nat) (lb : Array Value) (q : Gs → Bool) (V : Nat → Value) (gs : List Gs) (w : World) : Prop :=
  (∀ args W, (callFunc g args).run Tryz.prog W = .ok (.enter g args) W) ∧
  ∀ W, Below w.heap.size w W → ∀ i (h : i < gs.length), Calls Tryz.prog g (#[gsV (V i) gs[i]] ++ lb) W fun e W' => e = .returned (.bool (q gs[i])) ∧ Below W.heap.size W W'

def atG (gs : List Gs) (i : Nat) : Gs := gs.getD i ⟨[], 0, 0⟩
theorem atG_get {gs : List Gs} {i : Nat} (h : i < gs.length) : atG gs i = gs[i] := by simp [atG, List.getD, List.getElem?_eq_getElem h]

set_option maxHeartbeats 1000000 in
theorem indexG_any {B : Nat} (a : Option Addr) (cap : Nat) (V : Nat → Value) (gs : List Gs) (w : World) (hcap : gs.length ≤ cap) (hmax : cap ≤ 9223372036854775807)
    (hcells : 0 < gs.length → ∃ b off, a = some ⟨b, off, none⟩ ∧ B ≤ b ∧ ∀ i (h : i < gs.length),
      w.cell? ⟨b, off + i * 3, none⟩ = some (V i) ∧ w.cell? ⟨b, off + i * 3 + 1, none⟩ = some (.int .i64 gs[i].right) ∧ w.cell? ⟨b, off + i * 3 + 2, none⟩ = some (.int .i64 gs[i].near))
    (g : Nat) (lb : Array Value) (q : Gs → Bool) (hf : TellsG g lb q V gs w) (hsh : ∀ i, i < gs.length → ∃ a n c, V i = .slice a n c) :
    Calls Tryz.prog 181 #[.slice a gs.length cap, .func (.func g) #[] lb] w fun e w' => e = .returned (.int .i64 (idxN (fun i => q (atG gs i)) gs.length)) ∧ Below w.heap.size w w' := by
  obtain ⟨eg, hf⟩ := hf
  go_enter Tryz.func181, Tryz.ntmps181
  go_wp2
  go_loopw [8] (fun i wr => ∃ k : Nat, k ≤ gs.length ∧ i = .int .i64 k ∧ (∀ j, j < k → (fun i => q (atG gs i)) j = false) ∧ Below w.heap.size w wr) (fun i _ => gs.length - (intOf i).toNat)
  case atStart => exact ⟨0, Nat.zero_le _, rfl, by omega, Below.refl _ _⟩
  case round =>
    obtain ⟨k, hk, rfl, hn, hb⟩ := hrel
    have HN := Lib.hid hn
    have HB := Lib.hid hb
    by_cases hlt : k < gs.length
    · obtain ⟨b, off, rfl, _, hc⟩ := hcells (by omega)
      obtain ⟨c1, c2, c3⟩ := hc k hlt
      have d1 := (Above.of_below (B := 0) hb).cell (Nat.zero_le _) c1
      have d2 := (Above.of_below (B := 0) hb).cell (Nat.zero_le _) c2
      have d3 := (Above.of_below (B := 0) hb).cell (Nat.zero_le _) c3
      have hF := hf wr hb k hlt
      have hq : (fun i => q (atG gs i)) k = q gs[k] := by simp only [atG_get hlt]
      obtain ⟨av, nv, cv, hv⟩ := hsh k hlt
      rw [hv] at d1 hF
      obtain ⟨u, hu⟩ : ∃ u, u = gs[k] := ⟨_, rfl⟩
      rw [← hu] at d2 d3 hF hq
      unfold gsV at hF
      have hi0 : (0 : Int) ≤ (k : Int) := by omega
      have hi1 : (k : Int) < (gs.length : Int) := by omega
      clear hc hcells hf hn hb hu c1 c2 c3 hsh hv
      cases hp : q u
      · rw [hp] at hF hq
        have HP := Lib.hid hq
        clear hp hq
        go_wp2_with fail
        refine hF.mono ?_
        rintro e w2 ⟨rfl, hb2⟩
        have HB2 := Lib.hid hb2
        clear hb2
        go_wp2
        go_roundw
        case rel => exact ⟨k + 1, by omega, by go_num, upto_step HN.out HP.out, HB.out.trans (HB2.out.mono HB.out.size)⟩
        case measure => simp [intOf]; omega
      · rw [hp] at hF hq
        have HP := Lib.hid hq
        clear hp hq
        go_wp2_with fail
        refine hF.mono ?_
        rintro e w2 ⟨rfl, hb2⟩
        have HB2 := Lib.hid hb2
        clear hb2
        go_wp2
        go_ret
        exact ⟨ret_int (by rw [idxN_hit hlt HN.out HP.out]), HB.out.trans (HB2.out.mono HB.out.size)⟩
    · have e : k = gs.length := by omega
      have HE := Lib.hid e
      clear e hn hb hf hcells hsh
      go_wp2
      go_ret
      exact ⟨ret_int (by rw [idxN_none (by rw [← HE.out]; exact HN.out)]), HB.out⟩

theorem containsG_any {B : Nat} (v : Value) (gs : List Gs) (w : World) (h : GL B w v gs) (g : Nat) (lb : Array Value) (q : Gs → Bool)
    (hf : ∀ V : Nat → Value, (∀ i (h : i < gs.length), Ints B w (V i) gs[i].code) → TellsG g lb q V gs w) :
    Calls Tryz.prog 146 #[v, .func (.func g) #[] lb] w fun e w' => e = .returned (.bool (gs.any q)) ∧ Below w.heap.size w w' := by
  obtain ⟨a, cap, V, rfl, hcap, hmax, hcells, hV⟩ := h
  have hI := indexG_any a cap V gs w hcap hmax hcells g lb q (hf V hV) (fun i hi => by obtain ⟨a, c, e, _⟩ := (hV i hi).opened; exact ⟨a, _, c, e⟩)
  have hE := Lib.hid (idxN_nonneg (fun i => q (atG gs i)) gs.length)
  have hA := Lib.hid (anyN_getD q gs ⟨[], 0, 0⟩)
  obtain ⟨z, hz⟩ : ∃ z, z = idxN (fun i => q (atG gs i)) gs.length := ⟨_, rfl⟩
  rw [← hz] at hI
  have HZ := Lib.hid hz
  clear hf hcells hV hz
  go_enter Tryz.func146, Tryz.ntmps146
  go_wp2_with fail
  refine hI.mono ?_
  rintro e w2 ⟨rfl, hb2⟩
  have HB2 := Lib.hid hb2
  clear hb2
  go_wp2
  go_ret
  exact ⟨ret_bool (by rw [← hA.out, HZ.out]; exact hE.out), HB2.out⟩

/-- 'wrong': a guess is no right one. -/
theorem wrong_tells {B : Nat} (p c : Int) (bm bl : Nat) (V : Nat → Value) (gs : List Gs) (w : World) (hV : ∀ i (h : i < gs.length), Ints B w (V i) gs[i].code) (hm : w.cell? ⟨bm, 0, none⟩ = some (.int .i64 p)) (hl : w.cell? ⟨bl, 0, none⟩ = some (.int .i64 c)) :
    TellsG 143 #[.pointer (some ⟨bm, 0, none⟩), .pointer (some ⟨bl, 0, none⟩)] (fun g => !guessOkB p c g) V gs w := by
  refine ⟨enters_of Tryz.func143 (by kernel_rfl) rfl, fun W hB i hi => ?_⟩
  have hv := (hV i hi).below hB
  obtain ⟨g, hg⟩ : ∃ g, g = gs[i] := ⟨_, rfl⟩
  rw [← hg] at hv ⊢
  obtain ⟨u, hu⟩ : ∃ u, u = V i := ⟨_, rfl⟩
  rw [← hu] at hv ⊢
  obtain ⟨a, cap, rfl, _⟩ := hv.opened
  have hb1 : Below W.heap.size W (W.alloc (.cells #[.slice a g.code.length cap, .int .i64 g.right, .int .i64 g.near] 39)) := (Below.refl _ _).alloc (Nat.le_refl _) _
  have c1 := (Above.of_below (B := 0) hb1).cell (Nat.zero_le _) ((Above.of_below (B := 0) hB).cell (Nat.zero_le _) hm)
  have c2 := (Above.of_below (B := 0) hb1).cell (Nat.zero_le _) ((Above.of_below (B := 0) hB).cell (Nat.zero_le _) hl)
  have hO := codeOkI_any p c _ g.code _ (hv.below hb1)
  have HB1 := Lib.hid hb1
  have HY := Lib.hid (@guessOk_yes p c g)
  have HN1 := Lib.hid (@guessOk_code p c g)
  have HN2 := Lib.hid (@guessOk_right p c g)
  have HN3 := Lib.hid (@guessOk_near p c g)
  clear hg hu hV hm hl hB hv hb1
  show Calls _ _ #[gsV (.slice a g.code.length cap) g, .pointer (some ⟨bm, 0, none⟩), .pointer (some ⟨bl, 0, none⟩)] _ _
  unfold gsV
  have fin : ∀ (b : Bool) (W' : World), guessOkB p c g = !b → Below W.heap.size W W' → Ending.returned (.bool b) = .returned (.bool (!guessOkB p c g)) ∧ Below W.heap.size W W' := fun b W' e hb => ⟨by rw [e, Bool.not_not], hb⟩
  have FIN := Lib.hid fin
  clear fin
  cases ho : codeOkB p c g.code
  · rw [ho] at hO
    have HR := Lib.hid (HN1.out ho)
    clear ho
    go_enter Tryz.func143, Tryz.ntmps143
    go_wp2_with fail
    refine hO.mono ?_
    rintro e w2 ⟨rfl, hb2⟩
    have HB2 := Lib.hid (HB1.out.trans (hb2.mono HB1.out.size))
    clear hO hb2
    go_wp2
    go_ret
    exact FIN.out true _ HR.out HB2.out
  · rw [ho] at hO
    have hz : (W.alloc (.cells #[.slice a g.code.length cap, .int .i64 g.right, .int .i64 g.near] 39)).heap[W.heap.size]? = some (.cells #[.slice a g.code.length cap, .int .i64 g.right, .int .i64 g.near] 39 (0, 0)) := heap_alloc_new W _
    have HZ := Lib.hid hz
    clear hz
    by_cases hr : g.right < 0
    · have HR := Lib.hid (HN2.out hr)
      clear ho
      go_enter Tryz.func143, Tryz.ntmps143
      go_wp2_with fail
      refine hO.mono ?_
      rintro e w2 ⟨rfl, hb2⟩
      have k1 := cell_of_row _ _ 1 _ _ (0, 0) ((hb2.block W.heap.size (by simp)).trans HZ.out)
      simp only [List.getElem?_toArray, List.getElem?_cons_zero, List.getElem?_cons_succ] at k1
      have HB2 := Lib.hid (HB1.out.trans (hb2.mono HB1.out.size))
      clear hO hb2
      go_wp2
      go_ret
      exact FIN.out true _ HR.out HB2.out
    · by_cases hn : g.near < 0
      · have HR := Lib.hid (HN3.out hn)
        clear ho
        go_enter Tryz.func143, Tryz.ntmps143
        go_wp2_with fail
        refine hO.mono ?_
        rintro e w2 ⟨rfl, hb2⟩
        have k1 := cell_of_row _ _ 1 _ _ (0, 0) ((hb2.block W.heap.size (by simp)).trans HZ.out)
        have k2 := cell_of_row _ _ 2 _ _ (0, 0) ((hb2.block W.heap.size (by simp)).trans HZ.out)
        simp only [List.getElem?_toArray, List.getElem?_cons_zero, List.getElem?_cons_succ] at k1 k2
        have HB2 := Lib.hid (HB1.out.trans (hb2.mono HB1.out.size))
        clear hO hb2
        go_wp2
        go_ret
        exact FIN.out true _ HR.out HB2.out
      · have HR := Lib.hid (HY.out ho hr hn)
        have hr2 : decide (g.right < 0) = false := decide_eq_false hr
        have hn2 : decide (g.near < 0) = false := decide_eq_false hn
        clear ho
        go_enter Tryz.func143, Tryz.ntmps143
        go_wp2_with fail
        refine hO.mono ?_
        rintro e w2 ⟨rfl, hb2⟩
        have k1 := cell_of_row _ _ 1 _ _ (0, 0) ((hb2.block W.heap.size (by simp)).trans HZ.out)
        have k2 := cell_of_row _ _ 2 _ _ (0, 0) ((hb2.block W.heap.size (by simp)).trans HZ.out)
        simp only [List.getElem?_toArray, List.getElem?_cons_zero, List.getElem?_cons_succ] at k1 k2
        have HB2 := Lib.hid (HB1.out.trans (hb2.mono HB1.out.size))
        clear hO hb2
        go_wp2
        go_ret
        exact FIN.out false _ HR.out HB2.out

theorem any_wrong (p c : Int) (gs : List Gs) : (!gs.any fun g => !guessOkB p c g) = gs.all (guessOkB p c) := by
  rw [List.not_any_eq_all_not]
  simp

set_option maxHeartbeats 1000000 in
theorem guessesI_any {B : Nat} (p c : Int) (v : Value) (gs : List Gs) (w : World) (h : GL B w v gs) :
    Calls Tryz.prog 111 #[.int .i64 p, .int .i64 c, v] w fun e w' => e = .returned (.bool (guessesB p c gs)) ∧ Below w.heap.size w w' := by
  obtain ⟨W2, hW2⟩ : ∃ W2, W2 = (w.alloc (.cells #[.int .i64 p] 3)).alloc (.cells #[.int .i64 c] 3) := ⟨_, rfl⟩
  have hb2 : Below w.heap.size w W2 := by rw [hW2]; exact ((Below.refl _ _).alloc (Nat.le_refl _) _).alloc (by simp) _
  have hC := codesI_any p c W2
  have hsh : ∃ a cap, v = .slice a gs.length cap ∧ gs.length ≤ cap ∧ cap ≤ 9223372036854775807 := by obtain ⟨a, cap, _, hv, h1, h2, _⟩ := h; exact ⟨a, cap, hv, h1, h2⟩
  have c1 : W2.cell? ⟨w.heap.size, 0, none⟩ = some (.int .i64 p) := by rw [hW2]; exact cell_of_one ((heap_alloc_old _ _ (by simp)).trans (heap_alloc_new w _))
  have c2 : W2.cell? ⟨w.heap.size + 1, 0, none⟩ = some (.int .i64 c) := by rw [hW2]; have q := @Go.heap_alloc_new (w.alloc (.cells #[.int .i64 p] 3)) (.cells #[.int .i64 c] 3); rw [World.size_alloc] at q; exact cell_of_one q
  have hT := containsG_any v gs W2 (h.below hb2) 143 #[.pointer (some ⟨w.heap.size, 0, none⟩), .pointer (some ⟨w.heap.size + 1, 0, none⟩)] (fun g => !guessOkB p c g) (fun V hV => wrong_tells p c _ _ V gs W2 hV c1 c2)
  obtain ⟨a, cap, rfl, hcap, hmax⟩ := hsh
  have HB2 := Lib.hid hb2
  have HAN := Lib.hid (any_wrong p c gs)
  rw [hW2] at hC hT
  have HW := Lib.hid hW2
  clear hb2 h c1 c2 hW2
  cases hc : codesB p c
  · rw [hc] at hC
    have HR := Lib.hid (show guessesB p c gs = false from by unfold guessesB; rw [hc]; rfl)
    clear hc hT
    go_enter Tryz.func111, Tryz.ntmps111
    go_wp2_with fail
    refine hC.mono ?_
    rintro e w2 ⟨rfl, rfl⟩
    clear hC
    go_wp2
    go_ret
    exact ⟨ret_bool (by rw [HR.out]), by have := HB2.out; rw [HW.out] at this; exact this⟩
  · rw [hc] at hC
    by_cases hl : gs.length ≤ 9
    · have HR := Lib.hid (show guessesB p c gs = gs.all (guessOkB p c) from by unfold guessesB; rw [hc, decide_eq_true hl]; rfl)
      have hl2 : decide ((gs.length : Int) ≤ 9) = true := decide_eq_true (by omega)
      obtain ⟨r, hr⟩ : ∃ r, r = gs.any fun g => !guessOkB p c g := ⟨_, rfl⟩
      rw [← hr] at hT HAN
      clear hc hr hl
      go_enter Tryz.func111, Tryz.ntmps111
      go_wp2_with fail
      refine hC.mono ?_
      rintro e w2 ⟨rfl, rfl⟩
      clear hC
      go_wp2_with fail
      refine hT.mono ?_
      rintro e w3 ⟨rfl, hb3⟩
      have HB3 := Lib.hid hb3
      clear hT hb3
      go_wp2
      go_ret
      exact ⟨ret_bool (by rw [HR.out, ← HAN.out]), by have h1 := HB3.out; rw [← HW.out] at h1; exact HB2.out.trans (h1.mono HB2.out.size)⟩
    · have HR := Lib.hid (show guessesB p c gs = false from by unfold guessesB; rw [decide_eq_false hl]; simp)
      have hl2 : decide ((gs.length : Int) ≤ 9) = false := decide_eq_false (by omega)
      clear hc hT
      go_enter Tryz.func111, Tryz.ntmps111
      go_wp2_with fail
      refine hC.mono ?_
      rintro e w2 ⟨rfl, rfl⟩
      clear hC
      go_wp2
      go_ret
      exact ⟨ret_bool (by rw [HR.out]), by have := HB2.out; rw [HW.out] at this; exact this⟩

end Go.Proofs.YtenlngclocfnlaaGreatDoor

/- slices.IndexFunc and slices.DeleteFunc over rows of ints. -/
namespace Go.Proofs.YtenlngclocfnlaaGreatDoor
open Go.RowKit Go.Shelf
set_option linter.unusedVariables false
set_option maxRecDepth 100000

/-- A function value that tells q of each of the rows, and writes nothing that was there in w0. -/
def TellsR (g : Nat) (lb : Array Value) (q : List Int → Bool) (xss : List (List Int)) (w0 : World) : Prop :=
  (∀ args W, (callFunc g args).run Tryz.prog W = .ok (.enter g args) W) ∧
  ∀ W u x, Below w0.heap.size w0 W → OwnI 0 W u x → x ∈ xss → Calls Tryz.prog g (#[u] ++ lb) W fun e W' => e = .returned (.bool (q x)) ∧ Below W.heap.size W W'

def atR (xss : List (List Int)) (i : Nat) : List Int := xss.getD i []
theorem atR_get {xss : List (List Int)} {i : Nat} (h : i < xss.length) : atR xss i = xss[i] := by simp [atR, List.getD, List.getElem?_eq_getElem h]

set_option maxHeartbeats 1000000 in
theorem indexR_any {B : Nat} (v : Value) (xss : List (List Int)) (w0 w : World) (hb0 : Below w0.heap.size w0 w) (h : OwnR B w v xss) (g : Nat) (lb : Array Value) (q : List Int → Bool) (hf : TellsR g lb q xss w0) :
    Calls Tryz.prog 147 #[v, .func (.func g) #[] lb] w fun e w' => e = .returned (.int .i64 (idxN (fun i => q (atR xss i)) xss.length)) ∧ Below w.heap.size w w' := by
  obtain ⟨a, cap, rfl, hcap, hmax⟩ := h.shape
  obtain ⟨eg, hf⟩ := hf
  have HH := Lib.hid h
  have HB0 := Lib.hid hb0
  clear h hb0
  go_enter Tryz.func147, Tryz.ntmps147
  go_wp2
  go_loopw [8] (fun i wr => ∃ k : Nat, k ≤ xss.length ∧ i = .int .i64 k ∧ (∀ j, j < k → (fun i => q (atR xss i)) j = false) ∧ Below w.heap.size w wr) (fun i _ => xss.length - (intOf i).toNat)
  case atStart => exact ⟨0, Nat.zero_le _, rfl, by omega, Below.refl _ _⟩
  case round =>
    obtain ⟨k, hk, rfl, hn, hb⟩ := hrel
    have HN := Lib.hid hn
    have HB := Lib.hid hb
    by_cases hlt : k < xss.length
    · obtain ⟨b, u, rfl, _, hc, hou⟩ := (HH.out.below hb).at k hlt
      have hF := hf wr u xss[k] (HB0.out.trans (hb.mono HB0.out.size)) (hou.mono (Nat.zero_le _)) (List.getElem_mem hlt)
      have hq : (fun i => q (atR xss i)) k = q xss[k] := by simp only [atR_get hlt]
      obtain ⟨au, cu, hu, _⟩ := own_shape hou
      rw [hu] at hc hF
      obtain ⟨x, hx⟩ : ∃ x, x = xss[k] := ⟨_, rfl⟩
      rw [← hx] at hF hq hc
      have hi0 : (0 : Int) ≤ (k : Int) := by omega
      have hi1 : (k : Int) < (xss.length : Int) := by omega
      clear hf hn hb hou hu hx
      cases hp : q x
      · rw [hp] at hF hq
        have HP := Lib.hid hq
        clear hp hq
        go_wp2_with fail
        refine hF.mono ?_
        rintro e w2 ⟨rfl, hb2⟩
        have HB2 := Lib.hid hb2
        clear hb2
        go_wp2
        go_roundw
        case rel => exact ⟨k + 1, by omega, by go_num, upto_step HN.out HP.out, HB.out.trans (HB2.out.mono HB.out.size)⟩
        case measure => simp [intOf]; omega
      · rw [hp] at hF hq
        have HP := Lib.hid hq
        clear hp hq
        go_wp2_with fail
        refine hF.mono ?_
        rintro e w2 ⟨rfl, hb2⟩
        have HB2 := Lib.hid hb2
        clear hb2
        go_wp2
        go_ret
        exact ⟨ret_int (by rw [idxN_hit hlt HN.out HP.out]), HB.out.trans (HB2.out.mono HB.out.size)⟩
    · have e : k = xss.length := by omega
      have HE := Lib.hid e
      clear e hn hb hf
      go_wp2
      go_ret
      exact ⟨ret_int (by rw [idxN_none (by rw [← HE.out]; exact HN.out)]), HB.out⟩

/-! ### The state of a removal -/
def DelL (ps : List (List Int)) (kp : List Int → Bool) (i j : Nat) (L : List (List Int)) : Prop := L.length = ps.length ∧ i < j ∧ j ≤ ps.length ∧ L.take i = (ps.take j).filter kp ∧ L.drop j = ps.drop j
theorem DelL.start {ps : List (List Int)} {kp : List Int → Bool} {k : Nat} (hk : k < ps.length) (hn : ∀ j, j < k → kp (atR ps j) = true) (h : kp (atR ps k) = false) : DelL ps kp k (k + 1) ps := by
  refine ⟨rfl, by omega, hk, ?_, rfl⟩
  rw [List.take_succ_eq_append_getElem hk, List.filter_append]
  rw [atR_get hk] at h
  rw [List.filter_cons_of_neg (by simp [h]), List.filter_nil, List.append_nil]
  symm
  rw [List.filter_eq_self]
  intro x hx
  obtain ⟨i, hi, rfl⟩ := List.getElem_of_mem hx
  have hi' : i < k := by simp at hi; omega
  have := hn i hi'
  rw [atR_get (by omega)] at this
  rw [List.getElem_take]
  exact this
theorem DelL.get {ps : List (List Int)} {kp : List Int → Bool} {i j : Nat} {L : List (List Int)} (h : DelL ps kp i j L) (hj : j < ps.length) : ∃ h' : j < L.length, L[j] = ps[j] := by
  obtain ⟨h1, h2, h3, h4, h5⟩ := h
  refine ⟨by omega, ?_⟩
  have e1 : L.drop j = L[j] :: L.drop (j + 1) := List.drop_eq_getElem_cons (by omega)
  have e2 : ps.drop j = ps[j] :: ps.drop (j + 1) := List.drop_eq_getElem_cons hj
  rw [e1, e2] at h5
  injection h5
theorem DelL.keep {ps : List (List Int)} {kp : List Int → Bool} {i j : Nat} {L : List (List Int)} (h : DelL ps kp i j L) (hj : j < ps.length) (hk : kp ps[j] = true) : DelL ps kp (i + 1) (j + 1) (L.set i ps[j]) := by
  obtain ⟨h1, h2, h3, h4, h5⟩ := h
  refine ⟨by simp [h1], by omega, hj, ?_, ?_⟩
  · rw [List.take_succ_eq_append_getElem (by simp; omega), List.take_set_of_le (by omega), h4, List.getElem_set_self, List.take_succ_eq_append_getElem hj, List.filter_append]
    rw [List.filter_cons_of_pos hk, List.filter_nil]
  · rw [List.drop_set_of_lt (by omega), ← List.drop_drop, h5, List.drop_drop]
theorem DelL.skip {ps : List (List Int)} {kp : List Int → Bool} {i j : Nat} {L : List (List Int)} (h : DelL ps kp i j L) (hj : j < ps.length) (hk : kp ps[j] = false) : DelL ps kp i (j + 1) L := by
  obtain ⟨h1, h2, h3, h4, h5⟩ := h
  refine ⟨h1, by omega, hj, ?_, ?_⟩
  · rw [h4, List.take_succ_eq_append_getElem hj, List.filter_append, List.filter_cons_of_neg (by simp [hk]), List.filter_nil, List.append_nil]
  · rw [← List.drop_drop, h5, List.drop_drop]

theorem OwnR.thawed {B : Nat} {w : World} {g n cap : Nat} {xss : List (List Int)} (h : OwnR B w (.slice (some ⟨g, 0, none⟩) n cap) xss) (i : Nat) : w.frozen? ⟨g, i, none⟩ = false := by
  obtain ⟨vs, h1, _⟩ := h
  obtain ⟨a, cap', he, _⟩ := own_shape h1
  injection he with _ e2 _
  subst e2
  exact World.ownsRow.frozenAt h1 i
/-- A row of a row of rows is set. -/
theorem OwnR.set {B : Nat} {w : World} {g n cap : Nat} {xss : List (List Int)} (h : OwnR B w (.slice (some ⟨g, 0, none⟩) n cap) xss) (i : Nat) {u : Value} {x : List Int} (hu : OwnI B w u x) :
    OwnR B (w.setCell ⟨g, i, none⟩ u) (.slice (some ⟨g, 0, none⟩) n cap) (xss.set i x) ∧ w.grownBy (w.setCell ⟨g, i, none⟩ u) (some g) := by
  obtain ⟨vs, h1, h2, h3⟩ := h
  obtain ⟨a, cap', he, _⟩ := own_shape h1
  injection he with _ e2 _
  subst e2
  have hst := (World.ownsRow.stored h1 i u).1
  have hkeep : ∀ z ys, OwnI B w z ys → OwnI B (w.setCell ⟨g, i, none⟩ u) z ys := fun z ys hz => by
    refine World.ownsRow.kept hz (grownBy_setCell w ⟨g, i, none⟩ u) ?_
    have := own_apart hz h1 (by decide)
    simpa [Value.ownBlock] using this
  refine ⟨⟨vs.set i u, by rw [List.length_set]; exact hst, by simpa using h2, fun j hj hj' => ?_⟩, grownBy_setCell w ⟨g, i, none⟩ u⟩
  rw [List.getElem_set, List.getElem_set]
  split
  · exact hkeep _ _ hu
  · exact hkeep _ _ (h3 j (by simpa using hj) (by simpa using hj'))

theorem setCells_ownR {B : Nat} {g n cap : Nat} : ∀ (k : Nat) (o : Nat) (w : World) (xss : List (List Int)), OwnR B w (.slice (some ⟨g, 0, none⟩) n cap) xss →
    ∃ xss', xss'.take o = xss.take o ∧ OwnR B (w.setCells g o (List.replicate k (.slice none 0 0))) (.slice (some ⟨g, 0, none⟩) n cap) xss' ∧ w.grownBy (w.setCells g o (List.replicate k (.slice none 0 0))) (some g) ∧ xss'.length = xss.length
  | 0, o, w, xss, h => ⟨xss, rfl, h, World.grownBy.refl _ _, rfl⟩
  | k + 1, o, w, xss, h => by
    have h1 := h.set o (OwnI.empty B w)
    obtain ⟨xss', q1, q2, q3, q4⟩ := setCells_ownR k (o + 1) _ _ h1.1
    refine ⟨xss', ?_, q2, h1.2.andThen q3 (fun _ e => by cases e; exact .inr rfl), by rw [q4]; simp⟩
    have : (xss'.take (o + 1)).take o = ((xss.set o []).take (o + 1)).take o := by rw [q1]
    rw [List.take_take, List.take_take, show min o (o + 1) = o by omega] at this
    rw [this, List.take_set_of_le (Nat.le_refl _)]

theorem OwnR.cut {B : Nat} {w : World} {g n cap : Nat} {L : List (List Int)} (h : OwnR B w (.slice (some ⟨g, 0, none⟩) n cap) L) (i : Nat) (hi : i ≤ L.length) :
    OwnR B w (.slice (some ⟨g, 0, none⟩) i cap) (L.take i) := by
  obtain ⟨vs, h1, h2, h3⟩ := h
  refine ⟨vs.take i, ?_, by simp [h2], fun j hj hj' => ?_⟩
  · obtain ⟨q4, q5⟩ := h1
    have hl : (vs.take i).length = i := by rw [List.length_take]; omega
    rw [hl]
    refine ⟨by rw [List.length_take]; omega, ?_⟩
    rcases q5 with ⟨q6, _⟩ | ⟨g', cap', cur, q6, q7, q8, q9, q10, q11, q12⟩
    · simp at q6
    · injection q6 with e1 _ e3
      injection e1 with e1
      injection e1 with e1
      subst e1 e3
      refine .inr ⟨g, cap, cur, rfl, q7, q8, by omega, q10, q11, ?_⟩
      rw [← q12, List.take_take]
      congr 1
      omega
  · rw [List.getElem_take, List.getElem_take]
    exact h3 j (by simp at hj; omega) (by simp at hj'; omega)

/-- Rows are left, in memory that lies behind w0. -/
def DelOut (B : Nat) (xss : List (List Int)) (w0 : World) (e : Ending) (w' : World) : Prop :=
  ∃ a cap, e = .returned (.slice a xss.length cap) ∧ OwnR B w' (.slice a xss.length cap) xss ∧ Below w0.heap.size w0 w'

set_option maxHeartbeats 4000000 in
theorem deleteR_any (v : Value) (xss : List (List Int)) (w0 w : World) (hb0 : Below w0.heap.size w0 w) (h : OwnR w0.heap.size w v xss) (g : Nat) (lb : Array Value) (q : List Int → Bool) (hf : TellsR g lb q xss w0) :
    Calls Tryz.prog 112 #[v, .func (.func g) #[] lb] w (DelOut w0.heap.size (xss.filter fun x => !q x) w0) := by
  have hI := indexR_any v xss w0 w hb0 h g lb q hf
  have HB0 := Lib.hid hb0
  have hsz0 := hb0.size
  by_cases hno : ∀ j, j < xss.length → (fun i => q (atR xss i)) j = false
  · rw [idxN_none hno] at hI
    have HF := Lib.hid (show xss.filter (fun x => !q x) = xss from by
      rw [List.filter_eq_self]
      intro x hx
      obtain ⟨i, hi, rfl⟩ := List.getElem_of_mem hx
      have := hno i hi
      simp only [atR_get hi] at this
      rw [this]; rfl)
    have HO := Lib.hid h
    obtain ⟨a, cap, rfl, _⟩ := h.shape
    clear hno hf h hb0
    go_enter Tryz.func112, Tryz.ntmps112
    go_wp2_with fail
    refine hI.mono ?_
    rintro e w2 ⟨rfl, hb2⟩
    have HB2 := Lib.hid hb2
    clear hb2
    go_wp2
    go_ret
    refine ⟨a, cap, ?_, ?_, HB0.out.trans (HB2.out.mono hsz0)⟩
    · rw [HF.out]; rfl
    · rw [HF.out]; exact HO.out.below HB2.out
  · obtain ⟨k, hk, hqk, hmin⟩ : ∃ k, k < xss.length ∧ (fun i => q (atR xss i)) k = true ∧ ∀ j, j < k → (fun i => q (atR xss i)) j = false := by
      have hex : ∃ k, k < xss.length ∧ (fun i => q (atR xss i)) k = true := by
        apply Classical.byContradiction
        intro hc
        apply hno
        intro j hj
        cases hq : (fun i => q (atR xss i)) j
        · rfl
        · exact absurd ⟨j, hj, hq⟩ hc
      obtain ⟨k, hk⟩ := hex
      induction k using Nat.strongRecOn with
      | _ k ih =>
        by_cases hm : ∃ j, j < k ∧ (fun i => q (atR xss i)) j = true
        · obtain ⟨j, hj, hqj⟩ := hm
          exact ih j hj ⟨by omega, hqj⟩
        · refine ⟨k, hk.1, hk.2, fun j hj => ?_⟩
          cases hq : (fun i => q (atR xss i)) j
          · rfl
          · exact absurd ⟨j, hj, hq⟩ hm
    rw [idxN_hit hk hmin hqk] at hI
    obtain ⟨g0, _, e0, hBg, _, _⟩ : ∃ g u, v.ownBlock = some g ∧ w0.heap.size ≤ g ∧ OwnI w0.heap.size w u xss[k] ∧ True := by
      obtain ⟨a, cap, rfl, _⟩ := h.shape
      obtain ⟨g, u, rfl, hg, _, hu⟩ := h.at k hk
      exact ⟨g, u, rfl, hg, hu, trivial⟩
    obtain ⟨a, cap, rfl, hcap, hmax⟩ := h.shape
    obtain ⟨g1, u1, rfl, hg1, _, _⟩ := h.at k hk
    injection e0 with e0
    subst e0
    have hst : DelL xss (fun x => !q x) k (k + 1) xss := DelL.start hk (fun j hj => by have := hmin j hj; simp only at this; simp only [this]; rfl) (by simp only at hqk; simp only [hqk]; rfl)
    have HST := Lib.hid hst
    have HH := Lib.hid h
    obtain ⟨eg, hf⟩ := hf
    have HF := Lib.hid hf
    have hne : ((k : Int) == -1) = false := by rw [beq_eq_false_iff_ne]; omega
    clear hno hqk hmin hst h hf hb0
    go_enter Tryz.func112, Tryz.ntmps112
    go_wp2_with fail
    refine hI.mono ?_
    rintro e w2 ⟨rfl, hb2⟩
    have HB2 := Lib.hid hb2
    clear hb2 hI
    go_wp2
    go_loopw [5, 6] (fun s5 s6 wr => ∃ (i j : Nat) (L : List (List Int)), s5 = .int .i64 i ∧ s6 = .int .i64 j ∧ DelL xss (fun x => !q x) i j L ∧ OwnR w0.heap.size wr (.slice (some ⟨g1, 0, none⟩) xss.length cap) L ∧ Below w0.heap.size w0 wr) (fun _ j _ => xss.length - (intOf j).toNat)
    case atStart => exact ⟨k, k + 1, xss, rfl, by go_num, HST.out, HH.out.below HB2.out, HB0.out.trans (HB2.out.mono hsz0)⟩
    case round =>
      obtain ⟨i, j, L, rfl, rfl, hD, ho, hb⟩ := hrel
      obtain ⟨wk, rfl⟩ : ∃ x, x = wr := ⟨_, rfl⟩
      have HD := Lib.hid hD
      have HO := Lib.hid ho
      have HB := Lib.hid hb
      obtain ⟨hLl, hij, hjn, _, _⟩ := id hD
      by_cases hlt : j < xss.length
      · obtain ⟨hjL, eL⟩ := hD.get hlt
        obtain ⟨g2, u, eg2, _, hcu, hou⟩ := ho.at j hjL
        injection eg2 with eg2
        injection eg2 with eg2
        subst eg2
        rw [eL] at hou
        obtain ⟨au, cu, rfl, _⟩ := own_shape hou
        have HK := Lib.hid (hD.keep hlt)
        have HS := Lib.hid (hD.skip hlt)
        have hF := HF.out wk _ xss[j] hb (hou.mono (Nat.zero_le _)) (List.getElem_mem hlt)
        obtain ⟨x, hx⟩ : ∃ x, x = xss[j] := ⟨_, rfl⟩
        rw [← hx] at hou HK HS hF hcu
        have hi0 : (0 : Int) ≤ (j : Int) := by omega
        have hi1 : (j : Int) < (xss.length : Int) := by omega
        have hi2 : (0 : Int) ≤ (i : Int) := by omega
        have hi3 : (i : Int) < (xss.length : Int) := by omega
        have hi4 : (j : Int) < 9223372036854775807 := by omega
        have hi5 : (i : Int) < 9223372036854775807 := by omega
        have HOU := Lib.hid hou
        clear hx eL hjL hD ho hb hou
        cases hq : q x
        · rw [hq] at hF
          have HQ := Lib.hid (HK.out (by rw [hq]; rfl))
          clear hq HK HS
          go_wp2_with fail
          refine hF.mono ?_
          rintro e w3 ⟨rfl, hb3⟩
          have ho3 := HO.out.below hb3
          obtain ⟨g3, u3, eg3, _, hcu3, _⟩ := ho3.at i (by omega)
          injection eg3 with eg3
          injection eg3 with eg3
          subst eg3
          have hfz := ho3.thawed i
          have HP := Lib.hid (ho3.set i (owns_below HOU.out hb3))
          have HB3 := Lib.hid (HB.out.trans (hb3.mono HB.out.size))
          clear hF hb3 ho3
          go_wp2
          go_roundw
          case rel => exact ⟨i + 1, j + 1, _, by go_num, by go_num, HQ.out, HP.out.1, HB3.out.setCell (p := ⟨g1, i, none⟩) (by exact hg1) _⟩
          case measure => simp [intOf]; omega
        · rw [hq] at hF
          have HQ := Lib.hid (HS.out (by rw [hq]; rfl))
          clear hq HK HS
          go_wp2_with fail
          refine hF.mono ?_
          rintro e w3 ⟨rfl, hb3⟩
          have HO3 := Lib.hid (HO.out.below hb3)
          have HB3 := Lib.hid (HB.out.trans (hb3.mono HB.out.size))
          clear hF hb3
          go_wp2
          go_roundw
          case rel => exact ⟨i, j + 1, L, rfl, by go_num, HQ.out, HO3.out, HB3.out⟩
          case measure => simp [intOf]; omega
      · have e : j = xss.length := by omega
        subst e
        have hcl : ∀ ty, (Builtin.clear_ #[79] ty #[.slice (some ⟨g1, i, none⟩) (xss.length - i) (cap - i)]).run Tryz.prog wk = .ok (.tuple #[]) (wk.setCells g1 i (List.replicate (xss.length - i) (.slice none 0 0))) := fun ty => by
          refine Lib.run_clear_slice wk 79 37 ty (.slice none 0 0) Tryz.underlying79 (fun w => Tryz.zeroValue37 w) rfl rfl g1 i _ _ (by omega) (fun t ht => ?_) (fun t ht => ?_)
          · obtain ⟨g3, u3, eg3, _, hcu3, _⟩ := ho.at (i + t) (by omega)
            injection eg3 with eg3
            injection eg3 with eg3
            subst eg3
            rw [hcu3]; rfl
          · exact ho.thawed _
        obtain ⟨xss', q1, q2, q3, q4⟩ := setCells_ownR (xss.length - i) i wk L ho
        have hLi : L.take i = xss.filter (fun x => !q x) := by rw [HD.out.2.2.2.1, List.take_of_length_le (Nat.le_refl _)]
        have hcut := q2.cut i (by omega)
        rw [q1, hLi] at hcut
        have hil : (xss.filter (fun x => !q x)).length = i := by rw [← hLi, List.length_take]; omega
        have HC := Lib.hid hcut
        have HI := Lib.hid hil
        have HG := Lib.hid (hb.grown q3 hb.size (fun k hk => by cases hk; exact hg1))
        have hi2 : (0 : Int) ≤ (i : Int) := by omega
        have hi3 : (i : Int) < (xss.length : Int) := by omega
        have hi5 : (i : Int) ≤ (cap : Int) := by omega
        clear hLi hil hcut q1 q2 q3 q4 ho hb hD hLl HF
        go_wp2
        go_ret
        refine ⟨some ⟨g1, 0, none⟩, cap, ?_, ?_, HG.out⟩
        · rw [HI.out]; rfl
        · rw [HI.out]; exact HC.out

end Go.Proofs.YtenlngclocfnlaaGreatDoor

/- slices.Clone over ints, nil or not. -/
namespace Go.Proofs.YtenlngclocfnlaaGreatDoor
open Go.RowKit
set_option linter.unusedVariables false
set_option maxRecDepth 100000

theorem run_eqlnil (w : World) (t e : TypeId) (a : Option Addr) (l c : Nat) (h : Tryz.prog.underlying t = some (.slice e)) : (binOp .eql t (.slice a l c) (.slice none 0 0)).run Tryz.prog w = .ok (.bool a.isNone) w := by
  simp only [binOp]
  simp [run_equal_slice_nil w t e a l c h]

/-- 'append(row, other...)', the other one's cells known. -/
theorem wpList_push_src (w : World) {ops : Array Oper} {rest : List Oper} {o : Oper} {a : Act} {Q : Exit → Act → World → Prop}
    (hg : o.guard = none) (s x : Operand) (hop : o.op = Op.call { callee := Callee.builtin Builtin.append, args := #[s, x], argTypes := #[37, 37] })
    (B : Nat) (v : Value) (xs : List Int) (hs : a.eval s = v) (hown : OwnI B w v xs) (ad : Addr) (c : Nat) (ys : List Int) (hx : a.eval x = .slice (some ad) ys.length c) (hc : ∀ i (h : i < ys.length), w.cell? (ad.add i) = some (.int .i64 ys[i]))
    (hlen : xs.length + ys.length ≤ 1099511627776) (hB : B ≤ w.heap.size)
    (hK : ∀ a' cap' w', OwnI B w' (.slice a' (xs.length + ys.length) cap') (xs ++ ys) → w.grownBy w' v.ownBlock → wpList Tryz.prog ops Q rest (a.put o.dst (.slice a' (xs.length + ys.length) cap')) w') :
    wpList Tryz.prog ops Q (o :: rest) a w := by
  obtain ⟨i0, hi, hz0, hz1, hz2⟩ := info_parts infoInt
  refine wpList_append_own w hg s x 37 hop B 3 i0 (.int .i64 0) 1 8 Tryz.underlying37 hi hz0 hz1 hz2 rfl (by decide) v xs.length (ints xs) hs hown ad ys.length c (ints ys) hx (by simp) ?_ (by intro u hu; obtain ⟨y, _, rfl⟩ := List.mem_map.1 hu; simp [Value.oneCell']) (by unfold maxLen; omega) (by omega) hB ?_
  · intro j u hj
    have hlt : j < ys.length := by
      have := (List.getElem?_eq_some_iff.1 hj).1
      simpa using this
    have : (ints ys)[j]? = some (.int .i64 ys[j]) := by rw [List.getElem?_eq_getElem (by simpa using hlt)]; simp
    rw [this] at hj
    obtain rfl := Option.some.inj hj
    exact hc j hlt
  · intro v' w' h1 h2 _
    obtain ⟨a', cap', rfl, _⟩ := own_shape h1
    refine hK a' cap' w' ?_ h2
    unfold OwnI
    rw [ints_append]
    simpa [ints] using h1

set_option maxHeartbeats 1000000 in
theorem cloneI_any {B : Nat} (v : Value) (xs : List Int) (w : World) (h : Ints B w v xs) (hnil : v = .slice none 0 0 ∨ ∃ ad n c, v = .slice (some ad) n c) (hl : xs.length ≤ 1099511627776) :
    Calls Tryz.prog 131 #[v] w (FreshI xs w) := by
  have hund := Tryz.underlying37
  rcases hnil with rfl | ⟨ad, n, cap, rfl⟩
  · obtain ⟨a', c', he, _, _, hyc⟩ := h.opened
    injection he with e1 e2 e3
    have e0 : xs = [] := List.eq_nil_of_length_eq_zero e2.symm
    subst e0
    clear e1 e2 e3 hyc h
    have hnil := fun (W : World) => run_eqlnil W 37 3 none 0 0 hund
    go_enter Tryz.func131, Tryz.ntmps131
    go_wp2
    go_ret
    exact ⟨none, 0, rfl, OwnI.empty _ _, Below.refl _ _⟩
  · obtain ⟨a', c', he, _, _, hyc⟩ := h.opened
    injection he with e1 e2 e3
    subst e1 e2 e3
    have hlit := OwnI.lit w
    clear h
    rcases Nat.eq_zero_or_pos xs.length with h0 | h0
    · have e0 : xs = [] := List.eq_nil_of_length_eq_zero h0
      subst e0
      have hcells : ∀ i (h : i < ([] : List Int).length), (w.alloc (.cells #[] 3)).cell? (ad.add i) = some (.int .i64 ([] : List Int)[i]) := fun i hi => by simp at hi
      have hnil := fun (W : World) => run_eqlnil W 37 3 (some ad) 0 cap hund
      clear hyc h0
      go_enter Tryz.func131, Tryz.ntmps131
      go_wp2_with (at_builtin; refine wpList_push_src _ rfl (.tmp 5) (.tmp 6) rfl w.heap.size (.slice (some ⟨w.heap.size, 0, none⟩) 0 0) [] rfl hlit ad cap [] rfl hcells (by simp) (by simp) ?_; intro a4 c4 w4 ho4 hg4; rw [List.nil_append] at ho4; (try rw [List.length_nil, Nat.zero_add] at ho4); (try rw [List.length_nil, Nat.zero_add]); have HO4 := Lib.hid ho4; have HG4 := Lib.hid hg4; clear ho4 hg4)
      go_ret
      exact ⟨a4, c4, rfl, HO4.out, ((Below.refl w.heap.size w).alloc (Nat.le_refl _) _).grown HG4.out (by simp <;> omega) (fun j hj => by cases hj; exact Nat.le_refl _)⟩
    · have hcells : ∀ i (h : i < xs.length), (w.alloc (.cells #[] 3)).cell? (ad.add i) = some (.int .i64 xs[i]) := fun i hi => by
        obtain ⟨b, off, hh, _, hc⟩ := hyc (by omega)
        injection hh with hh
        subst hh
        have hci := hc i hi
        have e : (⟨b, off, none⟩ : Addr).add i = ⟨b, off + i, none⟩ := by
          by_cases h0 : i = 0
          · subst h0; simp [Addr.add]
          · simp [Addr.add, h0]
        rw [e, World.cell?_of_block (w := w) (Below.heap_alloc w _ b (World.block_lt_of_cell? w _ hci))]
        exact hci
      have hnil := fun (W : World) => run_eqlnil W 37 3 (some ad) xs.length cap hund
      clear hyc h0
      go_enter Tryz.func131, Tryz.ntmps131
      go_wp2_with (at_builtin; refine wpList_push_src _ rfl (.tmp 5) (.tmp 6) rfl w.heap.size (.slice (some ⟨w.heap.size, 0, none⟩) 0 0) [] rfl hlit ad cap xs rfl hcells (by simp; omega) (by simp) ?_; intro a4 c4 w4 ho4 hg4; rw [List.nil_append] at ho4; (try rw [List.length_nil, Nat.zero_add] at ho4); (try rw [List.length_nil, Nat.zero_add]); have HO4 := Lib.hid ho4; have HG4 := Lib.hid hg4; clear ho4 hg4)
      go_ret
      exact ⟨a4, c4, rfl, HO4.out, ((Below.refl w.heap.size w).alloc (Nat.le_refl _) _).grown HG4.out (by simp <;> omega) (fun j hj => by cases hj; exact Nat.le_refl _)⟩

end Go.Proofs.YtenlngclocfnlaaGreatDoor
