/- Marks of deeds seen again: heldGuess, heldDeed, heldDeedS. -/
import Derived.Test.YtjecolbodelniaaDoorDeedM
namespace Go.Proofs.YtjecolbodelniaaDoor
open Go.RowKit
set_option linter.unusedVariables false
set_option maxRecDepth 100000

theorem heldGuess_mark {B : Nat} (v : Value) (n : Nat) (r q m : Int) (w : World) (h : Ints B w v (markL n m)) (h0 : 0 ≤ m) (h1 : m + n ≤ 1099511627776) :
    Calls Tryd.prog 35 #[.agg #[v, .int .i64 r, .int .i64 q], .int .i64 m] w fun e w' => e = .returned (.int .i64 (m + (n : Int))) ∧ Below w.heap.size w w' := by
  obtain ⟨w1, hw1⟩ : ∃ z, z = w.alloc (.cells #[v, .int .i64 r, .int .i64 q] 24) := ⟨_, rfl⟩
  have hb1 : Below w.heap.size w w1 := by rw [hw1]; exact (Below.refl _ _).alloc (Nat.le_refl _) _
  have hH := heldIntS_any v (markL n m) m w1 (h.below hb1) h0 (by omega) (by simp; omega)
  rw [heldL_mark] at hH
  have hnn : ¬ (m + (n : Int) < 0) := by omega
  obtain ⟨a, c, hv, _⟩ := h.opened
  rw [show (markL n m).length = n by simp] at hv
  subst hv
  have HB := Lib.hid hb1
  clear h hb1
  go_enter Tryd.func35, Tryd.ntmps35
  go_wp2_with fail
  rw [← hw1]
  clear hw1
  refine hH.mono ?_
  rintro e w2 ⟨rfl, rfl⟩
  clear hH
  go_wp2
  go_ret
  exact ⟨rfl, HB.out⟩

theorem heldDeed_mark {B : Nat} (b : Bool) (v : Value) (n : Nat) (r q m : Int) (w : World) (h : Ints B w v (markL n m)) (h0 : 0 ≤ m) (h1 : m + n ≤ 1099511627776) :
    Calls Tryd.prog 12 #[.agg #[.bool b, v, .int .i64 r, .int .i64 q], .int .i64 m] w fun e w' => e = .returned (.int .i64 (m + (n : Int))) ∧ Below w.heap.size w w' := by
  obtain ⟨w1, hw1⟩ : ∃ z, z = w.alloc (.cells #[.bool b, v, .int .i64 r, .int .i64 q] 26) := ⟨_, rfl⟩
  have hb1 : Below w.heap.size w w1 := by rw [hw1]; exact (Below.refl _ _).alloc (Nat.le_refl _) _
  have hH := heldGuess_mark v n r q m w1 (h.below hb1) h0 h1
  have hnn : ¬ (m + (n : Int) < 0) := by omega
  obtain ⟨a, c, hv, _⟩ := h.opened
  rw [show (markL n m).length = n by simp] at hv
  subst hv
  have HB := Lib.hid hb1
  clear h hb1
  go_enter Tryd.func12, Tryd.ntmps12
  go_wp2_with fail
  rw [← hw1]
  clear hw1
  refine hH.mono ?_
  rintro e w2 ⟨rfl, hb2⟩
  have HB2 := Lib.hid (HB.out.trans (hb2.mono HB.out.size))
  clear hH hb2
  go_wp2
  go_ret
  exact ⟨rfl, HB2.out⟩

theorem markDs_get {ds : List Dd} {k : Nat} (h : k < ds.length) (m : Int) (h' : k < (markDs ds m).length) : (markDs ds m)[k] = ⟨endD (ds.take k) m % 3 == 0, markL ds[k].code.length (endD (ds.take k) m + 1), endD (ds.take k) m + 1 + ds[k].code.length, endD (ds.take k) m + 1 + ds[k].code.length + 1⟩ := by
  have e : markDs ds m = markDs (ds.take k) m ++ markDs (ds.drop k) (endD (ds.take k) m) := by rw [← markDs_app, List.take_append_drop]
  rw [List.getElem_of_eq e, List.getElem_append_right (by rw [markDs_length, List.length_take]; omega)]
  have h2 := List.drop_eq_getElem_cons h
  have e2 : markDs (ds.drop k) (endD (ds.take k) m) = ⟨endD (ds.take k) m % 3 == 0, markL ds[k].code.length (endD (ds.take k) m + 1), endD (ds.take k) m + 1 + ds[k].code.length, endD (ds.take k) m + 1 + ds[k].code.length + 1⟩ :: markDs (ds.drop (k + 1)) (endD (ds.take k) m + ds[k].code.length + 3) := by rw [h2]; rfl
  rw [List.getElem_of_eq e2]
  have e3 : k - (markDs (ds.take k) m).length = 0 := by simp; omega
  simp only [e3, List.getElem_cons_zero]
theorem markDs_in64 (ds : List Dd) (m : Int) (h0 : 0 ≤ m) (h1 : m + totD ds ≤ 1099511627776) : In64D (markDs ds m) := by
  intro x hx y hy
  obtain ⟨k, hk, rfl⟩ := List.getElem_of_mem hx
  have hk' : k < ds.length := by simpa using hk
  rw [markDs_get hk'] at hy
  have := totD_next hk'
  have := endD_tot (ds.take k) m
  simp only [markL, List.mem_map, List.mem_range] at hy
  obtain ⟨j, hj, rfl⟩ := hy
  unfold In64
  omega

set_option maxHeartbeats 1000000 in
theorem heldDeedS_any {B : Nat} (v : Value) (ds : List Dd) (m : Int) (w : World) (h : DL B w v (markDs ds m)) (h0 : 0 ≤ m) (h1 : m + totD ds ≤ 1099511627776) :
    Calls Tryd.prog 17 #[v, .int .i64 m] w fun e w' => e = .returned (.int .i64 (endD ds m)) ∧ w = w' := by
  obtain ⟨a, cap, V, rfl, hcap, hmax, hcells, hV⟩ := h
  have HG := Lib.hid (fun (k : Nat) (hk : k < ds.length) (h' : k < (markDs ds m).length) => markDs_get hk m h')
  simp only [markDs_length] at hcap hcells hV ⊢
  go_enter Tryd.func17, Tryd.ntmps17
  go_wp2
  go_loop [1, 5] (fun s i => ∃ (k : Nat), k ≤ ds.length ∧ i = .int .i64 k ∧ s = .int .i64 (endD (ds.take k) m)) (fun _ i => ds.length - (intOf i).toNat)
  case atStart => exact ⟨0, Nat.zero_le _, rfl, rfl⟩
  case round =>
    obtain ⟨k, hk, rfl, rfl⟩ := hrel
    by_cases hlt : k < ds.length
    · obtain ⟨b, off, rfl, _, hc⟩ := hcells (by omega)
      obtain ⟨c0, c1, c2, c3⟩ := hc k hlt
      have hVk := hV k hlt
      rw [HG.out k hlt] at c0 c2 c3 hVk
      have htn := totD_next hlt
      have hem := endD_tot (ds.take k) m
      have HNX := Lib.hid (endD_next hlt m)
      obtain ⟨e, he⟩ : ∃ e, e = endD (ds.take k) m := ⟨_, rfl⟩
      rw [← he] at c0 c2 c3 hVk hem HNX ⊢
      obtain ⟨n, hn⟩ : ∃ n, n = ds[k].code.length := ⟨_, rfl⟩
      simp only [← hn] at c2 c3 hVk htn
      rw [← hn] at HNX
      have hH := heldIntS_any (V k) (markL n (e + 1)) (e + 1) w hVk (by omega) (by omega) (by simp; omega)
      rw [heldL_mark] at hH
      have he0 : 0 ≤ e := by omega
      have he1 : e + n + 3 ≤ 1099511627776 := by omega
      have hnn : ¬ (e + 1 + (n : Int) < 0) := by omega
      have hmod : e.tmod 3 = e % 3 := Int.tmod_eq_emod_of_nonneg he0
      obtain ⟨t, ht⟩ : ∃ t, t = (e % 3 == 0) := ⟨_, rfl⟩
      rw [← ht] at c0
      have htt : (t != t) = false := by simp
      obtain ⟨av, cv, hvv, _⟩ := hVk.opened
      rw [show (markL n (e + 1)).length = n by simp] at hvv
      rw [hvv] at c1 hH
      have HT := Lib.hid ht
      clear hcells hc hV hVk hvv hem htn he hn
      go_wp2_with fail
      refine hH.mono ?_
      rintro e2 w2 ⟨rfl, rfl⟩
      clear hH
      go_wp2
      go_round
      case rel => exact ⟨k + 1, by omega, by go_num, by rw [HNX.out]; go_num⟩
      case measure => simp [intOf]; omega
    · have e : ds.take k = ds := List.take_of_length_le (by omega)
      rw [e]
      clear e
      go_wp2
      go_ret
      exact ⟨rfl, rfl⟩

end Go.Proofs.YtjecolbodelniaaDoor
