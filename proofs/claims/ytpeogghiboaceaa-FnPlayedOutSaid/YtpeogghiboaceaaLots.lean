/- lots; and slices.Contains at ints. -/
import Derived.Test.YtpeogghiboaceaaMemo
import Derived.LoopN
namespace Go.Proofs.Ytpeogghiboaceaa
open Go.RowKit
set_option linter.unusedVariables false

theorem index_elem {B : Nat} (v : Value) (xs : List Int) (x : Int) (w : World) (h : Ints B w v xs) :
    Calls Try.prog 111 #[v, .int .i64 x] w fun e w' => e = .returned (.int .i64 (idxN (fun i => x == xs.getD i 0) xs.length)) ∧ w = w' := by
  obtain ⟨a, cap, rfl, hcap, hmax, hcells⟩ := h.opened
  clear h
  go_enter Try.func111, Try.ntmps111
  go_wp2
  go_loop [8] (fun i => ∃ k : Nat, k ≤ xs.length ∧ i = .int .i64 k ∧ ∀ j, j < k → (x == xs.getD j 0) = false) (fun i => xs.length - (intOf i).toNat)
  case atStart => exact ⟨0, Nat.zero_le _, rfl, by omega⟩
  case round =>
    obtain ⟨k, hk, rfl, hf⟩ := hrel
    have HF := Lib.hid hf
    clear hf
    by_cases hlt : k < xs.length
    · obtain ⟨b, off, rfl, _, hc⟩ := hcells (by omega)
      have hck := hc k hlt
      obtain ⟨y, hy⟩ : ∃ y, y = xs[k] := ⟨_, rfl⟩
      rw [← hy] at hck
      have HY := Lib.hid (show xs.getD k 0 = y by rw [hy]; simp [List.getD, hlt])
      clear hc hcells hy
      cases he : (x == y)
      · have HN := Lib.hid (show (x == xs.getD k 0) = false by rw [HY.out]; exact he)
        go_wp2
        go_round
        case rel => exact ⟨k + 1, by omega, by go_num, upto_step HF.out HN.out⟩
        case measure => simp [intOf]; omega
      · have HN := Lib.hid (show (x == xs.getD k 0) = true by rw [HY.out]; exact he)
        go_wp2
        go_ret
        exact ⟨ret_int (idxN_hit hlt HF.out HN.out).symm, rfl⟩
    · have HE := Lib.hid (idxN_none (p := fun i => x == xs.getD i 0) (n := xs.length) fun j hj => HF.out j (by omega))
      clear hcells
      go_wp2
      go_ret
      exact ⟨ret_int HE.out.symm, rfl⟩

theorem contains_elem {B : Nat} (v : Value) (xs : List Int) (x : Int) (w : World) (h : Ints B w v xs) :
    Calls Try.prog 98 #[v, .int .i64 x] w fun e w' => e = .returned (.bool (anyN (fun i => x == xs.getD i 0) xs.length)) ∧ w = w' := by
  have hI := index_elem v xs x w h
  obtain ⟨a, cap, rfl, hcap, hmax, _⟩ := h.opened
  have hd := idxN_nonneg (fun i => x == xs.getD i 0) xs.length
  obtain ⟨r, hr⟩ : ∃ r, r = idxN (fun i => x == xs.getD i 0) xs.length := ⟨_, rfl⟩
  rw [← hr] at hI hd
  have HD := Lib.hid hd
  clear hd hr
  go_enter Try.func98, Try.ntmps98
  go_wp2_with fail
  refine hI.mono ?_
  rintro e w' ⟨rfl, rfl⟩
  go_wp2
  go_ret
  exact ⟨ret_bool (by rw [← HD.out]), rfl⟩

/-- The three lots behind the answers to a question. -/
def threeV (xss : List (List Int)) (L q : Nat) : Value := .agg #[.int .i64 (partN xss L q 0 : Nat), .int .i64 (partN xss L q 1 : Nat), .int .i64 (partN xss L q 2 : Nat)]

theorem lots_any {B : Nat} (v : Value) (xss : List (List Int)) (L q : Nat) (w : World) (h : Rows2 B w v xss) (hT : tableB xss = true) (hL : L < 2 ^ xss.length) (hq : q < asks xss) :
    Calls Try.prog 97 #[v, .int .i64 L, .int .i64 q] w fun e w' => e = .returned (threeV xss L q) ∧ Below w.heap.size w w' := by
  have hA := fun (a : Nat) W (hb : Below w.heap.size w W) => lotAfter_any v xss L q (a : Int) W (h.below hb) hT hL hq
  obtain ⟨a, cap, rfl, hcap, hmax, V, hcells, hV⟩ := h.opened
  clear h hT hL hq hcells hV
  go_enter Try.func97, Try.ntmps97
  go_wp2
  refine wp_loop_rounds 4 ?_
  rw [rounds_succ]
  go_wp2_with fail
  refine (hA 0 _ (((Below.refl _ _).alloc (Nat.le_refl _) _).alloc (by simp) _)).mono ?_
  rintro e w1 ⟨rfl, rfl⟩
  go_wp2
  rw [rounds_succ]
  go_wp2_with fail
  refine (hA 1 _ (((Below.refl _ _).alloc (Nat.le_refl _) _).alloc (by simp) _)).mono ?_
  rintro e w1 ⟨rfl, rfl⟩
  go_wp2
  rw [rounds_succ]
  go_wp2_with fail
  refine (hA 2 _ (((Below.refl _ _).alloc (Nat.le_refl _) _).alloc (by simp) _)).mono ?_
  rintro e w1 ⟨rfl, rfl⟩
  go_wp2
  rw [rounds_succ]
  go_wp2
  exact bodyPost_ret (v := threeV xss L q) (by simp [results, Try.results97, go_sem]; rfl) rfl ⟨rfl, (((Below.refl _ _).alloc (Nat.le_refl _) _).alloc (by simp) _)⟩

end Go.Proofs.Ytpeogghiboaceaa
