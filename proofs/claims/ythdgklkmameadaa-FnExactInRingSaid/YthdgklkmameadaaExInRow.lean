/- The walks of FnExactInRow, FnExactInRing. -/
import Derived.Test.YthdgklkmameadaaInRing
namespace Go.Proofs.Ythdgklkmameadaa
open Go.RowKit
set_option linter.unusedVariables false

/-- The law's call returns true and writes nothing that was there. -/
def Holds (w : World) (e : Ending) (w' : World) : Prop := e = .returned (.bool true) ∧ Below w.heap.size w w'

theorem adj01 (n : Nat) (ring : Bool) (i k : Nat) : adjI n ring i k = 0 ∨ adjI n ring i k = 1 := by unfold adjI; split <;> simp
theorem lineR_in64 (n : Nat) (ring : Bool) : ∀ xs ∈ lineR n ring, ∀ x ∈ xs, In64 x := by
  intro xs h x hx
  simp only [lineR, List.mem_map] at h
  obtain ⟨i, _, rfl⟩ := h
  simp only [rowR, List.mem_map] at hx
  obtain ⟨k, _, rfl⟩ := hx
  unfold In64
  rcases adj01 n ring i k with h | h <;> omega
theorem inRowR_in64 (b : Int) : ∀ xs ∈ inRowR b, ∀ x ∈ xs, In64 x := by
  unfold inRowR; split
  · exact lineR_in64 _ _
  · simp
theorem inRingR_in64 (b : Int) : ∀ xs ∈ inRingR b, ∀ x ∈ xs, In64 x := by
  unfold inRingR; split
  · exact lineR_in64 _ _
  · simp
theorem tot_const {n : Nat} : ∀ xss : List (List Int), (∀ xs ∈ xss, xs.length = n) → tot xss = xss.length * n := by
  intro xss
  induction xss with
  | nil => intro _; simp [tot]
  | cons x t ih =>
    intro h
    have h1 := h x (by simp)
    have h2 := ih (fun y hy => h y (by simp [hy]))
    simp only [tot, List.map_cons, List.sum_cons, List.length_cons] at h2 ⊢
    rw [h1, h2, Nat.add_mul]; omega
theorem tot_lineR (n : Nat) (ring : Bool) (h : n ≤ 6) : tot (lineR n ring) ≤ 36 := by
  rw [tot_const (n := n) _ (by intro xs hx; simp only [lineR, List.mem_map] at hx; obtain ⟨i, _, rfl⟩ := hx; simp), lineR_length]
  exact Nat.mul_le_mul h h
theorem tot_inRowR (b : Int) : tot (inRowR b) ≤ 36 := by
  unfold inRowR; split
  · exact tot_lineR _ _ (by omega)
  · simp [tot]
theorem tot_inRingR (b : Int) : tot (inRingR b) ≤ 36 := by
  unfold inRingR; split
  · exact tot_lineR _ _ (by omega)
  · simp [tot]
theorem markSS_in64 : ∀ (xss : List (List Int)) (m : Int), 0 ≤ m → m + (tot xss : Int) ≤ 1099511627776 → ∀ xs ∈ markSS xss m, ∀ x ∈ xs, In64 x := by
  intro xss
  induction xss with
  | nil => intro m _ _ xs h; simp [markSS] at h
  | cons y t ih =>
    intro m h0 h1 xs h
    have e : tot (y :: t) = y.length + tot t := by simp [tot]
    rw [e] at h1
    simp only [markSS, List.mem_cons] at h
    rcases h with rfl | h
    · exact markL_in64 h0 (by omega) (by omega)
    · exact ih _ (by omega) (by omega) xs h
theorem tot_markSS : ∀ (xss : List (List Int)) (m : Int), tot (markSS xss m) = tot xss := by
  intro xss
  induction xss with
  | nil => intro m; rfl
  | cons y t ih => intro m; simp only [markSS, tot, List.map_cons, List.sum_cons, markL_length]; have := ih (m + y.length); simp only [tot] at this; rw [this]

set_option maxHeartbeats 1000000 in
theorem FnExactInRow_walk (a0 : Int) (w : World) (h0 : In64 a0) :
    Calls Try.prog 3 #[.int .i64 a0] w fun e w' => e = .returned (.bool true) ∧ Below w.heap.size w w' := by
  have hT := tot_inRowR a0
  have hM := Lib.hid (heldSS_mark (inRowR a0) 1 (by omega))
  go_enter Try.func3, Try.ntmps3
  go_wp2_with fail
  refine (specInRow_any a0 w).mono ?_
  rintro e w1 ⟨a1, c1, rfl, ho1, hb1⟩
  go_wp2_with fail
  refine (implInRow_any a0 _).mono ?_
  rintro e w2 ⟨a2, c2, rfl, ho2, hb2⟩
  have hr1 := ho1.rows (inRowR_in64 a0)
  have hr2 := ho2.rows (inRowR_in64 a0)
  have hz2 := hb2.size
  go_wp2_with fail
  refine (eqIntSS_any _ _ _ _ _ hr2 (hr1.below hb2)).mono ?_
  rintro e w3 ⟨rfl, hq3⟩
  have hD3 : Drawn w2 w3 := hq3
  have hb3 := hb2.trans (hD3.below.mono hz2)
  rw [decide_eq_true rfl]
  have hz3 := hb3.size
  clear hq3
  go_wp2_with fail
  refine (markIntSS_any _ _ _ _ (ho2.below hD3.below) hz3 (by omega) (by omega)).mono ?_
  rintro e w4 ⟨rfl, ho4, hb4⟩
  have hb14 := hb3.trans hb4
  have hr4 := ho4.rows (markSS_in64 (inRowR a0) 1 (by omega) (by omega))
  have hnn : ¬ heldSS (markSS (inRowR a0) 1) 1 < 0 := by rw [hM.out]; omega
  have htm : tot (markSS (inRowR a0) 1) = tot (inRowR a0) := tot_markSS _ _
  have hq1 : (heldSS (markSS (inRowR a0) 1) 1 != 1 + (tot (inRowR a0) : Int)) = false := by rw [hM.out]; simp
  have HTM := Lib.hid htm
  clear htm
  go_wp2_with fail
  refine (heldIntSS_any _ _ _ _ hr4 (by omega) (by rw [HTM.out]; omega)).mono ?_
  rintro e w5 ⟨rfl, rfl⟩
  go_wp2_with fail
  refine (implInRow_any a0 _).mono ?_
  rintro e w6 ⟨a6, c6, rfl, ho6, hb6⟩
  have hr6 := ho6.rows (inRowR_in64 a0)
  have hz4 := hb14.size
  have hb16 := hb14.trans (hb6.mono hz4)
  go_wp2_with fail
  refine (eqIntSS_any _ _ _ _ _ hr6 (hr1.below hb16)).mono ?_
  rintro e w7 ⟨rfl, hq7⟩
  have hD7 : Drawn w6 w7 := hq7
  rw [decide_eq_true rfl]
  clear hq7
  have hb47 := hb6.trans (hD7.below.mono hb6.size)
  go_wp2_with fail
  refine (heldIntSS_any _ _ _ _ (hr4.below hb47) (by omega) (by rw [HTM.out]; omega)).mono ?_
  rintro e w8 ⟨rfl, rfl⟩
  go_wp2
  go_ret
  refine ⟨rfl, ?_⟩
  have hz1 := hb1.size
  exact hb1.trans ((hb16.trans (hD7.below.mono hb16.size)).mono hz1)

set_option maxHeartbeats 1000000 in
theorem FnExactInRing_walk (a0 : Int) (w : World) (h0 : In64 a0) :
    Calls Try.prog 5 #[.int .i64 a0] w fun e w' => e = .returned (.bool true) ∧ Below w.heap.size w w' := by
  have hT := tot_inRingR a0
  have hM := Lib.hid (heldSS_mark (inRingR a0) 1 (by omega))
  go_enter Try.func5, Try.ntmps5
  go_wp2_with fail
  refine (specInRing_any a0 w).mono ?_
  rintro e w1 ⟨a1, c1, rfl, ho1, hb1⟩
  go_wp2_with fail
  refine (implInRing_any a0 _).mono ?_
  rintro e w2 ⟨a2, c2, rfl, ho2, hb2⟩
  have hr1 := ho1.rows (inRingR_in64 a0)
  have hr2 := ho2.rows (inRingR_in64 a0)
  have hz2 := hb2.size
  go_wp2_with fail
  refine (eqIntSS_any _ _ _ _ _ hr2 (hr1.below hb2)).mono ?_
  rintro e w3 ⟨rfl, hq3⟩
  have hD3 : Drawn w2 w3 := hq3
  have hb3 := hb2.trans (hD3.below.mono hz2)
  rw [decide_eq_true rfl]
  have hz3 := hb3.size
  clear hq3
  go_wp2_with fail
  refine (markIntSS_any _ _ _ _ (ho2.below hD3.below) hz3 (by omega) (by omega)).mono ?_
  rintro e w4 ⟨rfl, ho4, hb4⟩
  have hb14 := hb3.trans hb4
  have hr4 := ho4.rows (markSS_in64 (inRingR a0) 1 (by omega) (by omega))
  have hnn : ¬ heldSS (markSS (inRingR a0) 1) 1 < 0 := by rw [hM.out]; omega
  have htm : tot (markSS (inRingR a0) 1) = tot (inRingR a0) := tot_markSS _ _
  have hq1 : (heldSS (markSS (inRingR a0) 1) 1 != 1 + (tot (inRingR a0) : Int)) = false := by rw [hM.out]; simp
  have HTM := Lib.hid htm
  clear htm
  go_wp2_with fail
  refine (heldIntSS_any _ _ _ _ hr4 (by omega) (by rw [HTM.out]; omega)).mono ?_
  rintro e w5 ⟨rfl, rfl⟩
  go_wp2_with fail
  refine (implInRing_any a0 _).mono ?_
  rintro e w6 ⟨a6, c6, rfl, ho6, hb6⟩
  have hr6 := ho6.rows (inRingR_in64 a0)
  have hz4 := hb14.size
  have hb16 := hb14.trans (hb6.mono hz4)
  go_wp2_with fail
  refine (eqIntSS_any _ _ _ _ _ hr6 (hr1.below hb16)).mono ?_
  rintro e w7 ⟨rfl, hq7⟩
  have hD7 : Drawn w6 w7 := hq7
  rw [decide_eq_true rfl]
  clear hq7
  have hb47 := hb6.trans (hD7.below.mono hb6.size)
  go_wp2_with fail
  refine (heldIntSS_any _ _ _ _ (hr4.below hb47) (by omega) (by rw [HTM.out]; omega)).mono ?_
  rintro e w8 ⟨rfl, rfl⟩
  go_wp2
  go_ret
  refine ⟨rfl, ?_⟩
  have hz1 := hb1.size
  exact hb1.trans ((hb16.trans (hD7.below.mono hb16.size)).mono hz1)

end Go.Proofs.Ythdgklkmameadaa
