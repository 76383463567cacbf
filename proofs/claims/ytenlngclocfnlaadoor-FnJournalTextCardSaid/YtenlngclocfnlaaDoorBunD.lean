/- slices.ContainsFunc, slices.IndexFunc at the program's types; impl.allIn. -/
import Derived.Test.YtenlngclocfnlaaDoorBunA
import Derived.Shelf.Abstract
import Derived.Test.YtenlngclocfnlaaDoorBunB
import Derived.Lib.SliceRun
/- slices.ContainsFunc, slices.IndexFunc at the program's types; impl.allIn. -/
namespace Go.Proofs.YtenlngclocfnlaaDoor
open Go.RowKit Go.Shelf
set_option linter.unusedVariables false

/-- The first place below n at which p holds, or -1. -/
def idxN (p : Nat → Bool) (n : Nat) : Int := match (List.range n).find? p with | some i => (i : Int) | none => -1
def anyN (p : Nat → Bool) (n : Nat) : Bool := (List.range n).any p

theorem idxN_hit {p : Nat → Bool} {n k : Nat} (hk : k < n) (h : ∀ j, j < k → p j = false) (hp : p k = true) : idxN p n = k := by
  have : (List.range n).find? p = some k := by
    rw [List.find?_range_eq_some]
    exact ⟨hp, by simpa using hk, fun j hj => by simp [h j hj]⟩
  unfold idxN
  rw [this]
theorem idxN_none {p : Nat → Bool} {n : Nat} (h : ∀ j, j < n → p j = false) : idxN p n = -1 := by
  have : (List.range n).find? p = none := by
    rw [List.find?_eq_none]
    intro x hx
    simp [h x (by simpa using hx)]
  unfold idxN
  rw [this]
theorem idxN_nonneg (p : Nat → Bool) (n : Nat) : decide (0 ≤ idxN p n) = anyN p n := by
  unfold idxN anyN
  cases h : (List.range n).find? p with
  | none =>
    rw [List.find?_eq_none] at h
    have : (List.range n).any p = false := by
      rw [List.any_eq_false]; exact h
    rw [this]; rfl
  | some i =>
    have h1 := List.find?_some h
    have h2 := List.mem_of_find?_eq_some h
    have : (List.range n).any p = true := List.any_eq_true.2 ⟨i, h2, h1⟩
    rw [this]; simp
theorem upto_step {p : Nat → Bool} {k : Nat} (h : ∀ j, j < k → p j = false) (hp : p k = false) : ∀ j, j < k + 1 → p j = false := by
  intro j hj
  by_cases e : j < k
  · exact h j e
  · have e2 : j = k := by omega
    rw [e2]; exact hp
theorem idxN_range (p : Nat → Bool) (n : Nat) : -1 ≤ idxN p n ∧ idxN p n < n ∨ n = 0 ∧ idxN p n = -1 := by
  unfold idxN
  cases h : (List.range n).find? p with
  | none => simp; omega
  | some i =>
    have h2 := List.mem_of_find?_eq_some h
    simp at h2 ⊢; omega

/-- A function value that tells p of the i-th element, and writes nothing that was there. -/
def Tells (g : Nat) (lb : Array Value) (vs : List Value) (p : Nat → Bool) (w : World) : Prop :=
  (∀ args W, (callFunc g args).run Tryd.prog W = .ok (.enter g args) W) ∧
  ∀ W, Below w.heap.size w W → ∀ i (h : i < vs.length), Calls Tryd.prog g (#[vs[i]] ++ lb) W fun e W' => e = .returned (.bool (p i)) ∧ Below W.heap.size W W'

set_option maxHeartbeats 400000 in
theorem index_int {B : Nat} (v : Value) (vs : List Value) (w : World) (h : SL B w v vs) (g : Nat) (lb : Array Value) (p : Nat → Bool) (hf : Tells g lb vs p w) :
    Calls Tryd.prog 78 #[v, .func (.func g) #[] lb] w fun e w' => e = .returned (.int .i64 (idxN p vs.length)) ∧ Below w.heap.size w w' := by
  obtain ⟨a, cap, rfl, hcap, hmax, hcells⟩ := h
  obtain ⟨eg, hf⟩ := hf
  go_enter Tryd.func78, Tryd.ntmps78
  go_wp2
  go_loopw [8] (fun i wr => ∃ k : Nat, k ≤ vs.length ∧ i = .int .i64 k ∧ (∀ j, j < k → p j = false) ∧ Below w.heap.size w wr) (fun i _ => vs.length - (intOf i).toNat)
  case atStart => exact ⟨0, Nat.zero_le _, rfl, by omega, Below.refl _ _⟩
  case round =>
    obtain ⟨k, hk, rfl, hn, hb⟩ := hrel
    have HN := Lib.hid hn
    have HB := Lib.hid hb
    by_cases hlt : k < vs.length
    · obtain ⟨b, off, rfl, _, hc⟩ := hcells (by omega)
      have hck := (Above.of_below (B := 0) hb).cell (Nat.zero_le _) (hc k hlt)
      have hF := hf wr hb k hlt
      obtain ⟨u, hu⟩ : ∃ u, u = vs[k] := ⟨_, rfl⟩
      rw [← hu] at hck hF
      clear hc hcells hf hn hb hu
      cases hp : p k
      · rw [hp] at hF
        have HP := Lib.hid hp
        clear hp
        go_wp2_with fail
        refine hF.mono ?_
        rintro e w2 ⟨rfl, hb2⟩
        have HB2 := Lib.hid hb2
        clear hb2
        go_wp2
        go_roundw
        case rel => exact ⟨k + 1, by omega, by go_num, upto_step HN.out HP.out, HB.out.trans (HB2.out.mono HB.out.size)⟩
        case measure => simp [intOf]; omega
      · rw [hp] at hF
        have HP := Lib.hid hp
        clear hp
        go_wp2_with fail
        refine hF.mono ?_
        rintro e w2 ⟨rfl, hb2⟩
        have HB2 := Lib.hid hb2
        clear hb2
        go_wp2
        go_ret
        exact ⟨ret_int (by rw [idxN_hit hlt HN.out HP.out]), HB.out.trans (HB2.out.mono HB.out.size)⟩
    · have e : k = vs.length := by omega
      have HE := Lib.hid e
      clear e hn hb hf
      go_wp2
      go_ret
      exact ⟨ret_int (by rw [idxN_none (by rw [← HE.out]; exact HN.out)]), HB.out⟩

theorem contains_int {B : Nat} (v : Value) (vs : List Value) (w : World) (h : SL B w v vs) (g : Nat) (lb : Array Value) (p : Nat → Bool) (hf : Tells g lb vs p w) :
    Calls Tryd.prog 65 #[v, .func (.func g) #[] lb] w fun e w' => e = .returned (.bool (anyN p vs.length)) ∧ Below w.heap.size w w' := by
  have hI := index_int v vs w h g lb p hf
  have hE := Lib.hid (idxN_nonneg p vs.length)
  clear h hf
  go_enter Tryd.func65, Tryd.ntmps65
  go_wp2_with fail
  refine hI.mono ?_
  rintro e w2 ⟨rfl, hb2⟩
  have HB2 := Lib.hid hb2
  clear hb2
  go_wp2
  go_ret
  exact ⟨ret_bool (by rw [← hE.out]), HB2.out⟩



theorem anyN_getD {α : Type} (f : α → Bool) (xs : List α) (d : α) : anyN (fun i => f (xs.getD i d)) xs.length = xs.any f := by
  rw [Bool.eq_iff_iff]
  unfold anyN
  rw [List.any_eq_true, List.any_eq_true]
  constructor
  · rintro ⟨i, hi, h⟩
    have hi' : i < xs.length := by simpa using hi
    exact ⟨xs[i], List.getElem_mem _, by simpa [List.getD, List.getElem?_eq_getElem hi'] using h⟩
  · rintro ⟨x, hx, h⟩
    obtain ⟨i, hi, rfl⟩ := List.getElem_of_mem hx
    exact ⟨i, by simpa using hi, by simpa [List.getD, List.getElem?_eq_getElem hi] using h⟩

def allB (xs : List Int) (lo hi : Int) : Bool := xs.all fun x => inB x lo hi
theorem allB_any (xs : List Int) (lo hi : Int) : (!anyN (fun i => !inB (xs.getD i 0) lo hi) xs.length) = allB xs lo hi := by
  rw [anyN_getD (fun x => !inB x lo hi) xs 0]
  unfold allB
  rw [List.not_any_eq_all_not]
  simp

theorem allIn1_tells (xs : List Int) (lo hi : Int) (w : World) (b c : Nat) (hb : w.cell? ⟨b, 0, none⟩ = some (.int .i64 lo)) (hc : w.cell? ⟨c, 0, none⟩ = some (.int .i64 hi)) :
    Tells 66 #[.pointer (some ⟨b, 0, none⟩), .pointer (some ⟨c, 0, none⟩)] (ints xs) (fun i => !inB (xs.getD i 0) lo hi) w := by
  refine ⟨enters_of Tryd.func66 (by kernel_rfl) rfl, fun W hB i h => ?_⟩
  have hb' := (Above.of_below (B := 0) hB).cell (Nat.zero_le _) hb
  have hc' := (Above.of_below (B := 0) hB).cell (Nat.zero_le _) hc
  rw [ints_get]
  have hi' : i < xs.length := by simpa using h
  obtain ⟨x, hx⟩ : ∃ x, x = xs[i] := ⟨_, rfl⟩
  have hx2 : xs.getD i 0 = x := by rw [hx]; simp [List.getD, List.getElem?_eq_getElem hi']
  rw [← hx]
  show Calls _ _ _ _ (fun e W' => e = .returned (.bool (!inB (xs.getD i 0) lo hi)) ∧ _)
  rw [hx2]
  clear hx hx2 hb hc hB h hi'
  show Calls _ _ #[.int .i64 x, .pointer (some ⟨b, 0, none⟩), .pointer (some ⟨c, 0, none⟩)] _ _
  go_enter Tryd.func66, Tryd.ntmps66
  go_wp2_with (go_at_call 44; refine (in_any _ _ _ _).mono ?_; rintro e w' ⟨rfl, rfl⟩)
  go_ret
  exact ⟨rfl, Below.refl _ _⟩

theorem allIn_any {B : Nat} (v : Value) (xs : List Int) (lo hi : Int) (w : World) (h : Ints B w v xs) :
    Calls Tryd.prog 45 #[v, .int .i64 lo, .int .i64 hi] w fun e w' => e = .returned (.bool (allB xs lo hi)) ∧ Below w.heap.size w w' := by
  have hE := Lib.hid (allB_any xs lo hi)
  go_enter Tryd.func45, Tryd.ntmps45
  go_wp2_with fail
  have hb2 : Below w.heap.size w ((w.alloc (.cells #[.int .i64 lo] 3)).alloc (.cells #[.int .i64 hi] 3)) := ((Below.refl _ _).alloc (Nat.le_refl _) _).alloc (by simp) _
  have hT := allIn1_tells xs lo hi ((w.alloc (.cells #[.int .i64 lo] 3)).alloc (.cells #[.int .i64 hi] 3)) w.heap.size (w.heap.size + 1) (by simp) (by simp)
  refine (contains_int v (ints xs) _ (h.1.below hb2) _ _ _ hT).mono ?_
  rintro e w2 ⟨rfl, hb3⟩
  have HB := Lib.hid (hb2.trans (hb3.mono hb2.size))
  clear hb3 hb2 hT h
  rw [ints_length]
  obtain ⟨r, hr⟩ : ∃ r, r = anyN (fun i => !inB (xs.getD i 0) lo hi) xs.length := ⟨_, rfl⟩
  have HR := Lib.hid hr
  rw [← hr]
  clear hr
  go_wp2
  go_ret
  exact ⟨ret_bool (by rw [← hE.out, ← HR.out]), HB.out⟩

end Go.Proofs.YtenlngclocfnlaaDoor

/- The program's codes and CodeOk. -/
namespace Go.Proofs.YtenlngclocfnlaaDoor
open Go.RowKit Go.Shelf
set_option linter.unusedVariables false
set_option maxRecDepth 100000

theorem in_yes (n lo hi : Int) (w : World) (h : lo ≤ n ∧ n ≤ hi) :
    Calls Tryd.prog 44 #[.int .i64 n, .int .i64 lo, .int .i64 hi] w fun e w' => e = .returned (.bool true) ∧ w = w' := by
  have q := in_any n lo hi w
  rw [show inB n lo hi = true from decide_eq_true h] at q
  exact q
theorem in_no (n lo hi : Int) (w : World) (h : ¬ (lo ≤ n ∧ n ≤ hi)) :
    Calls Tryd.prog 44 #[.int .i64 n, .int .i64 lo, .int .i64 hi] w fun e w' => e = .returned (.bool false) ∧ w = w' := by
  have q := in_any n lo hi w
  rw [show inB n lo hi = false from decide_eq_false h] at q
  exact q

theorem inRow_all (c : Int) (xs : List Int) : inRow c xs = allB xs 0 (c - 1) := rfl

end Go.Proofs.YtenlngclocfnlaaDoor

/- The program's answerTo. -/
namespace Go.Proofs.YtenlngclocfnlaaDoor
open Go.RowKit
set_option linter.unusedVariables false
set_option maxRecDepth 100000

/-- The program's counts: of x's first k numbers, and of y's first m ones. -/
def manyL (x y : List Int) (k m : Nat) : List Int := ((List.range 5).map fun (c : Nat) => ((cntK x c k : Nat) : Int)) ++ (List.range 5).map fun (c : Nat) => ((cntK y c m : Nat) : Int)
def manyA (x y : List Int) (k m : Nat) : Array Value := (ints (manyL x y k m)).toArray
theorem manyA_x (x y : List Int) (k m : Nat) {c : Nat} (h : c < 5) : (manyA x y k m)[c]? = some (.int .i64 (cntK x c k : Nat)) := by
  have : c = 0 ∨ c = 1 ∨ c = 2 ∨ c = 3 ∨ c = 4 := by omega
  rcases this with rfl | rfl | rfl | rfl | rfl <;> rfl
theorem manyA_y (x y : List Int) (k m : Nat) {c : Nat} (h : c < 5) : (manyA x y k m)[5 + c]? = some (.int .i64 (cntK y c m : Nat)) := by
  have : c = 0 ∨ c = 1 ∨ c = 2 ∨ c = 3 ∨ c = 4 := by omega
  rcases this with rfl | rfl | rfl | rfl | rfl <;> rfl
theorem manyL_x {x y : List Int} {k m c : Nat} (hk : k < x.length) (hx : x[k] = (c : Int)) (h : c < 5) : (manyL x y k m).set c ((cntK x c k : Nat) + 1 : Int) = manyL x y (k + 1) m := by
  refine List.ext_getElem (by simp [manyL]) fun i h1 h2 => ?_
  rw [List.getElem_set]
  split
  · rename_i e
    subst e
    simp only [manyL]
    rw [List.getElem_append_left (by simpa using h)]
    simp only [List.getElem_map, List.getElem_range]
    rw [cntK_hit hk hx]; push_cast; rfl
  · rename_i e
    simp only [manyL]
    by_cases hi : i < 5
    · rw [List.getElem_append_left (by simpa using hi), List.getElem_append_left (by simpa using hi)]
      simp only [List.getElem_map, List.getElem_range]
      rw [cntK_miss hk (by rw [hx]; omega)]
    · rw [List.getElem_append_right (by simp; omega), List.getElem_append_right (by simp; omega)]
      simp only [List.getElem_map, List.getElem_range, List.length_map]
theorem manyL_y {x y : List Int} {k m c : Nat} (hk : m < y.length) (hy : y[m] = (c : Int)) (h : c < 5) : (manyL x y k m).set (5 + c) ((cntK y c m : Nat) + 1 : Int) = manyL x y k (m + 1) := by
  refine List.ext_getElem (by simp [manyL]) fun i h1 h2 => ?_
  rw [List.getElem_set]
  split
  · rename_i e
    subst e
    simp only [manyL]
    rw [List.getElem_append_right (by simp)]
    simp only [List.getElem_map, List.getElem_range, List.length_map, List.length_range, Nat.add_sub_cancel_left]
    rw [cntK_hit hk hy]; push_cast; rfl
  · rename_i e
    simp only [manyL]
    by_cases hi : i < 5
    · rw [List.getElem_append_left (by simpa using hi), List.getElem_append_left (by simpa using hi)]
    · rw [List.getElem_append_right (by simp; omega)]
      rw [List.getElem_append_right (by simp; omega)]
      simp only [List.getElem_map, List.getElem_range, List.length_map, List.length_range]
      rw [cntK_miss hk (by rw [hy]; omega)]
theorem manyA_setx {x y : List Int} {k m c : Nat} (hk : k < x.length) (hx : x[k] = (c : Int)) (h : c < 5) : (manyA x y k m).setIfInBounds c (.int .i64 ((cntK x c k : Nat) + 1 : Int)) = manyA x y (k + 1) m := by
  unfold manyA
  rw [List.setIfInBounds_toArray, ints_set, manyL_x hk hx h]
theorem manyA_sety {x y : List Int} {k m c : Nat} (hk : m < y.length) (hy : y[m] = (c : Int)) (h : c < 5) : (manyA x y k m).setIfInBounds (5 + c) (.int .i64 ((cntK y c m : Nat) + 1 : Int)) = manyA x y k (m + 1) := by
  unfold manyA
  rw [List.setIfInBounds_toArray, ints_set, manyL_y hk hy h]

def AnsOut (x y : List Int) (w : World) (e : Ending) (w' : World) : Prop := e = .returned (.agg #[.int .i64 (rightZ x y), .int .i64 (nearZ x y)]) ∧ Below w.heap.size w w'

end Go.Proofs.YtenlngclocfnlaaDoor

/- slices.IndexFunc and slices.ContainsFunc over guesses; the program's GuessesOk and fits. -/
namespace Go.Proofs.YtenlngclocfnlaaDoor
open Go.RowKit Go.Shelf
set_option linter.unusedVariables false
set_option maxRecDepth 100000

/-- A guess as a value. -/
def gsV (v : Value) (g : Gs) : Value := .agg #[v, .int .i64 g.right, .int .i64 g.near]

/-- A function value that tells q of each of the guesses, and writes nothing that was there. -/
def TellsG (g : Nat) (lb : Array Value) (q : Gs → Bool) (V : Nat → Value) (gs : List Gs) (w : World) : Prop :=
  (∀ args W, (callFunc g args).run Tryd.prog W = .ok (.enter g args) W) ∧
  ∀ W, Below w.heap.size w W → ∀ i (h : i < gs.length), Calls Tryd.prog g (#[gsV (V i) gs[i]] ++ lb) W fun e W' => e = .returned (.bool (q gs[i])) ∧ Below W.heap.size W W'

def atG (gs : List Gs) (i : Nat) : Gs := gs.getD i ⟨[], 0, 0⟩
theorem atG_get {gs : List Gs} {i : Nat} (h : i < gs.length) : atG gs i = gs[i] := by simp [atG, List.getD, List.getElem?_eq_getElem h]

theorem any_wrong (p c : Int) (gs : List Gs) : (!gs.any fun g => !guessOkB p c g) = gs.all (guessOkB p c) := by
  rw [List.not_any_eq_all_not]
  simp

end Go.Proofs.YtenlngclocfnlaaDoor

/- slices.IndexFunc and slices.DeleteFunc over rows of ints. -/
namespace Go.Proofs.YtenlngclocfnlaaDoor
open Go.RowKit Go.Shelf
set_option linter.unusedVariables false
set_option maxRecDepth 100000

/-- A function value that tells q of each of the rows, and writes nothing that was there in w0. -/
def TellsR (g : Nat) (lb : Array Value) (q : List Int → Bool) (xss : List (List Int)) (w0 : World) : Prop :=
  (∀ args W, (callFunc g args).run Tryd.prog W = .ok (.enter g args) W) ∧
  ∀ W u x, Below w0.heap.size w0 W → OwnI 0 W u x → x ∈ xss → Calls Tryd.prog g (#[u] ++ lb) W fun e W' => e = .returned (.bool (q x)) ∧ Below W.heap.size W W'

def atR (xss : List (List Int)) (i : Nat) : List Int := xss.getD i []
theorem atR_get {xss : List (List Int)} {i : Nat} (h : i < xss.length) : atR xss i = xss[i] := by simp [atR, List.getD, List.getElem?_eq_getElem h]

/-! ### The state of a removal -/
def DelL (ps : List (List Int)) (kp : List Int → Bool) (i j : Nat) (L : List (List Int)) : Prop := L.length = ps.length ∧ i < j ∧ j ≤ ps.length ∧ L.take i = (ps.take j).filter kp ∧ L.drop j = ps.drop j
theorem DelL.start {ps : List (List Int)} {kp : List Int → Bool} {k : Nat} (hk : k < ps.length) (hn : ∀ j, j < k → kp (atR ps j) = true) (h : kp (atR ps k) = false) : DelL ps kp k (k + 1) ps := by
  refine ⟨rfl, by omega, hk, ?_, rfl⟩
  rw [List.take_succ_eq_append_getElem hk, List.filter_append]
  rw [atR_get hk] at h
  rw [List.filter_cons_of_neg (by simp [h]), List.filter_nil, List.append_nil]
  symm
  rw [List.filter_eq_self]
  intro x hx
  obtain ⟨i, hi, rfl⟩ := List.getElem_of_mem hx
  have hi' : i < k := by simp at hi; omega
  have := hn i hi'
  rw [atR_get (by omega)] at this
  rw [List.getElem_take]
  exact this
theorem DelL.get {ps : List (List Int)} {kp : List Int → Bool} {i j : Nat} {L : List (List Int)} (h : DelL ps kp i j L) (hj : j < ps.length) : ∃ h' : j < L.length, L[j] = ps[j] := by
  obtain ⟨h1, h2, h3, h4, h5⟩ := h
  refine ⟨by omega, ?_⟩
  have e1 : L.drop j = L[j] :: L.drop (j + 1) := List.drop_eq_getElem_cons (by omega)
  have e2 : ps.drop j = ps[j] :: ps.drop (j + 1) := List.drop_eq_getElem_cons hj
  rw [e1, e2] at h5
  injection h5
theorem DelL.keep {ps : List (List Int)} {kp : List Int → Bool} {i j : Nat} {L : List (List Int)} (h : DelL ps kp i j L) (hj : j < ps.length) (hk : kp ps[j] = true) : DelL ps kp (i + 1) (j + 1) (L.set i ps[j]) := by
  obtain ⟨h1, h2, h3, h4, h5⟩ := h
  refine ⟨by simp [h1], by omega, hj, ?_, ?_⟩
  · rw [List.take_succ_eq_append_getElem (by simp; omega), List.take_set_of_le (by omega), h4, List.getElem_set_self, List.take_succ_eq_append_getElem hj, List.filter_append]
    rw [List.filter_cons_of_pos hk, List.filter_nil]
  · rw [List.drop_set_of_lt (by omega), ← List.drop_drop, h5, List.drop_drop]
theorem DelL.skip {ps : List (List Int)} {kp : List Int → Bool} {i j : Nat} {L : List (List Int)} (h : DelL ps kp i j L) (hj : j < ps.length) (hk : kp ps[j] = false) : DelL ps kp i (j + 1) L := by
  obtain ⟨h1, h2, h3, h4, h5⟩ := h
  refine ⟨h1, by omega, hj, ?_, ?_⟩
  · rw [h4, List.take_succ_eq_append_getElem hj, List.filter_append, List.filter_cons_of_neg (by simp [hk]), List.filter_nil, List.append_nil]
  · rw [← List.drop_drop, h5, List.drop_drop]

theorem OwnR.thawed {B : Nat} {w : World} {g n cap : Nat} {xss : List (List Int)} (h : OwnR B w (.slice (some ⟨g, 0, none⟩) n cap) xss) (i : Nat) : w.frozen? ⟨g, i, none⟩ = false := by
  obtain ⟨vs, h1, _⟩ := h
  obtain ⟨a, cap', he, _⟩ := own_shape h1
  injection he with _ e2 _
  subst e2
  exact World.ownsRow.frozenAt h1 i
/-- A row of a row of rows is set. -/
theorem OwnR.set {B : Nat} {w : World} {g n cap : Nat} {xss : List (List Int)} (h : OwnR B w (.slice (some ⟨g, 0, none⟩) n cap) xss) (i : Nat) {u : Value} {x : List Int} (hu : OwnI B w u x) :
    OwnR B (w.setCell ⟨g, i, none⟩ u) (.slice (some ⟨g, 0, none⟩) n cap) (xss.set i x) ∧ w.grownBy (w.setCell ⟨g, i, none⟩ u) (some g) := by
  obtain ⟨vs, h1, h2, h3⟩ := h
  obtain ⟨a, cap', he, _⟩ := own_shape h1
  injection he with _ e2 _
  subst e2
  have hst := (World.ownsRow.stored h1 i u).1
  have hkeep : ∀ z ys, OwnI B w z ys → OwnI B (w.setCell ⟨g, i, none⟩ u) z ys := fun z ys hz => by
    refine World.ownsRow.kept hz (grownBy_setCell w ⟨g, i, none⟩ u) ?_
    have := own_apart hz h1 (by decide)
    simpa [Value.ownBlock] using this
  refine ⟨⟨vs.set i u, by rw [List.length_set]; exact hst, by simpa using h2, fun j hj hj' => ?_⟩, grownBy_setCell w ⟨g, i, none⟩ u⟩
  rw [List.getElem_set, List.getElem_set]
  split
  · exact hkeep _ _ hu
  · exact hkeep _ _ (h3 j (by simpa using hj) (by simpa using hj'))

theorem setCells_ownR {B : Nat} {g n cap : Nat} : ∀ (k : Nat) (o : Nat) (w : World) (xss : List (List Int)), OwnR B w (.slice (some ⟨g, 0, none⟩) n cap) xss →
    ∃ xss', xss'.take o = xss.take o ∧ OwnR B (w.setCells g o (List.replicate k (.slice none 0 0))) (.slice (some ⟨g, 0, none⟩) n cap) xss' ∧ w.grownBy (w.setCells g o (List.replicate k (.slice none 0 0))) (some g) ∧ xss'.length = xss.length
  | 0, o, w, xss, h => ⟨xss, rfl, h, World.grownBy.refl _ _, rfl⟩
  | k + 1, o, w, xss, h => by
    have h1 := h.set o (OwnI.empty B w)
    obtain ⟨xss', q1, q2, q3, q4⟩ := setCells_ownR k (o + 1) _ _ h1.1
    refine ⟨xss', ?_, q2, h1.2.andThen q3 (fun _ e => by cases e; exact .inr rfl), by rw [q4]; simp⟩
    have : (xss'.take (o + 1)).take o = ((xss.set o []).take (o + 1)).take o := by rw [q1]
    rw [List.take_take, List.take_take, show min o (o + 1) = o by omega] at this
    rw [this, List.take_set_of_le (Nat.le_refl _)]

theorem OwnR.cut {B : Nat} {w : World} {g n cap : Nat} {L : List (List Int)} (h : OwnR B w (.slice (some ⟨g, 0, none⟩) n cap) L) (i : Nat) (hi : i ≤ L.length) :
    OwnR B w (.slice (some ⟨g, 0, none⟩) i cap) (L.take i) := by
  obtain ⟨vs, h1, h2, h3⟩ := h
  refine ⟨vs.take i, ?_, by simp [h2], fun j hj hj' => ?_⟩
  · obtain ⟨q4, q5⟩ := h1
    have hl : (vs.take i).length = i := by rw [List.length_take]; omega
    rw [hl]
    refine ⟨by rw [List.length_take]; omega, ?_⟩
    rcases q5 with ⟨q6, _⟩ | ⟨g', cap', cur, q6, q7, q8, q9, q10, q11, q12⟩
    · simp at q6
    · injection q6 with e1 _ e3
      injection e1 with e1
      injection e1 with e1
      subst e1 e3
      refine .inr ⟨g, cap, cur, rfl, q7, q8, by omega, q10, q11, ?_⟩
      rw [← q12, List.take_take]
      congr 1
      omega
  · rw [List.getElem_take, List.getElem_take]
    exact h3 j (by simp at hj; omega) (by simp at hj'; omega)

/-- Rows are left, in memory that lies behind w0. -/
def DelOut (B : Nat) (xss : List (List Int)) (w0 : World) (e : Ending) (w' : World) : Prop :=
  ∃ a cap, e = .returned (.slice a xss.length cap) ∧ OwnR B w' (.slice a xss.length cap) xss ∧ Below w0.heap.size w0 w'

end Go.Proofs.YtenlngclocfnlaaDoor

/- slices.Clone over ints, nil or not. -/
namespace Go.Proofs.YtenlngclocfnlaaDoor
open Go.RowKit
set_option linter.unusedVariables false
set_option maxRecDepth 100000

theorem run_eqlnil (w : World) (t e : TypeId) (a : Option Addr) (l c : Nat) (h : Tryd.prog.underlying t = some (.slice e)) : (binOp .eql t (.slice a l c) (.slice none 0 0)).run Tryd.prog w = .ok (.bool a.isNone) w := by
  simp only [binOp]
  simp [run_equal_slice_nil w t e a l c h]

/-- 'append(row, other...)', the other one's cells known. -/
theorem wpList_push_src (w : World) {ops : Array Oper} {rest : List Oper} {o : Oper} {a : Act} {Q : Exit → Act → World → Prop}
    (hg : o.guard = none) (s x : Operand) (hop : o.op = Op.call { callee := Callee.builtin Builtin.append, args := #[s, x], argTypes := #[22, 22] })
    (B : Nat) (v : Value) (xs : List Int) (hs : a.eval s = v) (hown : OwnI B w v xs) (ad : Addr) (c : Nat) (ys : List Int) (hx : a.eval x = .slice (some ad) ys.length c) (hc : ∀ i (h : i < ys.length), w.cell? (ad.add i) = some (.int .i64 ys[i]))
    (hlen : xs.length + ys.length ≤ 1099511627776) (hB : B ≤ w.heap.size)
    (hK : ∀ a' cap' w', OwnI B w' (.slice a' (xs.length + ys.length) cap') (xs ++ ys) → w.grownBy w' v.ownBlock → wpList Tryd.prog ops Q rest (a.put o.dst (.slice a' (xs.length + ys.length) cap')) w') :
    wpList Tryd.prog ops Q (o :: rest) a w := by
  obtain ⟨i0, hi, hz0, hz1, hz2⟩ := info_parts infoInt
  refine wpList_append_own w hg s x 22 hop B 3 i0 (.int .i64 0) 1 8 Tryd.underlying22 hi hz0 hz1 hz2 rfl (by decide) v xs.length (ints xs) hs hown ad ys.length c (ints ys) hx (by simp) ?_ (by intro u hu; obtain ⟨y, _, rfl⟩ := List.mem_map.1 hu; simp [Value.oneCell']) (by unfold maxLen; omega) (by omega) hB ?_
  · intro j u hj
    have hlt : j < ys.length := by
      have := (List.getElem?_eq_some_iff.1 hj).1
      simpa using this
    have : (ints ys)[j]? = some (.int .i64 ys[j]) := by rw [List.getElem?_eq_getElem (by simpa using hlt)]; simp
    rw [this] at hj
    obtain rfl := Option.some.inj hj
    exact hc j hlt
  · intro v' w' h1 h2 _
    obtain ⟨a', cap', rfl, _⟩ := own_shape h1
    refine hK a' cap' w' ?_ h2
    unfold OwnI
    rw [ints_append]
    simpa [ints] using h1

end Go.Proofs.YtenlngclocfnlaaDoor
