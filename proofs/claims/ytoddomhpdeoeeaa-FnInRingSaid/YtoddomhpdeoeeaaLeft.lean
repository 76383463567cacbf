/- LeftAfter, SurelyFound, of the program and of the reference. -/
import Derived.Test.YtoddomhpdeoeeaaCat2
namespace Go.Proofs.Ytoddomhpdeoeeaa
open Go.RowKit Go.Shelf
set_option linter.unusedVariables false

def daysB (xss : List (List Int)) (xs : List Int) : Bool := besideB xss && decide ((xs.length : Int) ≤ 16) && allB xs 0 ((xss.length : Int) - 1)
/-- Where the cat may be after the first k days. -/
def leftN (xss : List (List Int)) (xs : List Int) : Nat → Nat
  | 0 => 2 ^ xss.length - 1
  | k + 1 => afterN xss (leftN xss xs k) (xs.getD k 0)
def leftR (xss : List (List Int)) (xs : List Int) : Int := if daysB xss xs = true then (leftN xss xs xs.length : Nat) else -1
theorem leftN_lt (xss : List (List Int)) (xs : List Int) (k : Nat) : leftN xss xs k < 2 ^ xss.length := by
  cases k with
  | zero => rw [leftN]; have := Nat.pow_pos (n := xss.length) (show 0 < 2 by omega); omega
  | succ k => exact lotN_lt _ _
theorem allB_at {xs : List Int} {lo hi : Int} (h : allB xs lo hi = true) {k : Nat} (hk : k < xs.length) : inB xs[k] lo hi = true := by
  unfold allB at h
  simp only [List.all_eq_true] at h
  exact h _ (List.getElem_mem _)
theorem allB_not {xs : List Int} {lo hi : Int} {k : Nat} (hk : k < xs.length) (h : inB xs[k] lo hi = false) : allB xs lo hi = false := by
  cases hb : allB xs lo hi
  · rfl
  · rw [allB_at hb hk] at h; cases h
theorem allB_all {xs : List Int} {lo hi : Int} (h : ∀ k (hk : k < xs.length), inB xs[k] lo hi = true) : allB xs lo hi = true := by
  unfold allB
  simp only [List.all_eq_true]
  intro x hx
  obtain ⟨i, hi, rfl⟩ := List.getElem_of_mem hx
  exact h i hi

theorem daysOk_any {B C : Nat} (v u : Value) (xss : List (List Int)) (xs : List Int) (w : World) (h : Rows2 B w v xss) (hu : Ints C w u xs) :
    Calls Try.prog 52 #[v, u] w fun e w' => e = .returned (.bool (daysB xss xs)) ∧ Below w.heap.size w w' := by
  have hT := implBesideOk_any v xss w h
  have HU := Lib.hid hu
  obtain ⟨ad, cap, rfl, hcap, hmax, _⟩ := h.opened
  obtain ⟨au, cu, rfl, hu1, hu2⟩ := hu.shape
  clear h hu
  cases h1 : besideB xss
  · rw [h1] at hT
    have HE := Lib.hid (show daysB xss xs = false by unfold daysB; rw [h1]; rfl)
    clear h1
    go_enter Try.func52, Try.ntmps52
    go_wp2_with fail
    refine hT.mono ?_
    rintro e w2 ⟨rfl, hb2⟩
    go_wp2
    go_ret
    exact ⟨ret_bool (by rw [HE.out]), hb2⟩
  · rw [h1] at hT
    have hn := (besideB_spec h1).1
    by_cases h16 : (xs.length : Int) ≤ 16
    · have HE := Lib.hid (show daysB xss xs = allB xs 0 ((xss.length : Int) - 1) by unfold daysB; rw [h1, decide_eq_true h16]; simp)
      clear h1
      go_enter Try.func52, Try.ntmps52
      go_wp2_with fail
      refine hT.mono ?_
      rintro e w2 ⟨rfl, hb2⟩
      have HI := Lib.hid (HU.out.below hb2)
      have HB2 := Lib.hid hb2
      clear hb2
      go_wp2_with fail
      refine (allIn_any _ _ _ _ _ HI.out).mono ?_
      rintro e w3 ⟨rfl, hb3⟩
      go_wp2
      go_ret
      exact ⟨ret_bool (by rw [HE.out]), HB2.out.trans (hb3.mono HB2.out.size)⟩
    · have HE := Lib.hid (show daysB xss xs = false by unfold daysB; rw [decide_eq_false h16]; simp)
      clear h1
      go_enter Try.func52, Try.ntmps52
      go_wp2_with fail
      refine hT.mono ?_
      rintro e w2 ⟨rfl, hb2⟩
      go_wp2
      go_ret
      exact ⟨ret_bool (by rw [HE.out]), hb2⟩

theorem daysB_spec {xss : List (List Int)} {xs : List Int} (h : daysB xss xs = true) : besideB xss = true ∧ xs.length ≤ 16 ∧ ∀ k (hk : k < xs.length), inB xs[k] 0 ((xss.length : Int) - 1) = true := by
  unfold daysB at h
  simp only [Bool.and_eq_true, decide_eq_true_eq] at h
  exact ⟨h.1.1, by omega, fun k hk => allB_at h.2 hk⟩
theorem left_start {n : Nat} (h : n ≤ 60) : wrap64 (wrap64 ((2 : Int) ^ n) - 1) = ((2 ^ n - 1 : Nat) : Int) := by
  have h1 := pow_small h
  have h2 := Nat.pow_pos (n := n) (show 0 < 2 by omega)
  rw [shl_cast h, IntWalk.wrap64_in _ ⟨by omega, by omega⟩]
  omega

theorem implLeftAfter_any {B C : Nat} (v u : Value) (xss : List (List Int)) (xs : List Int) (w : World) (h : Rows2 B w v xss) (hu : Ints C w u xs) :
    Calls Try.prog 28 #[v, u] w fun e w' => e = .returned (.int .i64 (leftR xss xs)) ∧ Below w.heap.size w w' := by
  have hT := daysOk_any v u xss xs w h hu
  have HRR := Lib.hid h
  have HU := Lib.hid hu
  obtain ⟨ad, cap, rfl, hcap, hmax, _⟩ := h.opened
  obtain ⟨au, cu, rfl, hu1, hu2⟩ := hu.shape
  clear h hu
  cases h1 : daysB xss xs
  · rw [h1] at hT
    have HE := Lib.hid (show leftR xss xs = -1 by unfold leftR; rw [h1]; rfl)
    clear h1
    go_enter Try.func28, Try.ntmps28
    go_wp2_with fail
    refine hT.mono ?_
    rintro e w2 ⟨rfl, hb2⟩
    go_wp2
    go_ret
    exact ⟨ret_int (by rw [HE.out]), hb2⟩
  · rw [h1] at hT
    have HE := Lib.hid (show leftR xss xs = (leftN xss xs xs.length : Nat) by unfold leftR; rw [h1]; rfl)
    obtain ⟨hb, hl16, hin⟩ := daysB_spec h1
    have hn := (besideB_spec hb).1
    have HBS := Lib.hid hb
    have HIN := Lib.hid hin
    have HST := Lib.hid (left_start (n := xss.length) (by omega))
    have hn6 : (xss.length : Int) ≤ 6 := by omega
    clear h1 hb hin
    go_enter Try.func28, Try.ntmps28
    go_wp2_with fail
    refine hT.mono ?_
    rintro e w2 ⟨rfl, hb2⟩
    have HI := Lib.hid (HU.out.below hb2)
    have HR := Lib.hid (HRR.out.below hb2)
    have HB2 := Lib.hid hb2
    clear hb2
    go_wp2
    go_loop [5, 18] (fun s i => ∃ k : Nat, k ≤ xs.length ∧ i = .int .i64 k ∧ s = .int .i64 (leftN xss xs k : Nat)) (fun _ i => xs.length - (intOf i).toNat)
    case atStart => exact ⟨0, Nat.zero_le _, rfl, by rw [HST.out]; rfl⟩
    case round =>
      obtain ⟨k, hk, rfl, rfl⟩ := hrel
      by_cases hlt : k < xs.length
      · obtain ⟨a', c', he, _, _, hcells⟩ := HI.out.opened
        injection he with e1 _ e3
        subst e1 e3
        obtain ⟨b, off, rfl, _, hc⟩ := hcells (by omega)
        have hck := hc k hlt
        have hik := HIN.out k hlt
        have hrng : 0 ≤ xs[k] ∧ xs[k] ≤ (xss.length : Int) - 1 := by simpa [inB] using hik
        have HG := Lib.hid (show xs.getD k 0 = xs[k] from getD_get hlt)
        obtain ⟨x, hx⟩ : ∃ x, x = xs[k] := ⟨_, rfl⟩
        rw [← hx] at hck hrng HG
        have HA := Lib.hid (after_any _ xss (leftN xss xs k) x w2 HR.out HBS.out (pow_64 hn.2 (leftN_lt _ _ _)) (by unfold In64; omega))
        clear hx hik hc hcells
        go_wp2_with fail
        refine HA.out.mono ?_
        rintro e w3 ⟨rfl, rfl⟩
        go_wp2
        go_round
        case rel => exact ⟨k + 1, by omega, by go_num, by rw [leftN, HG.out]⟩
        case measure => simp [intOf]; omega
      · have HJ := Lib.hid (show k = xs.length by omega)
        go_wp2
        go_ret
        exact ⟨ret_int (by rw [HE.out, HJ.out]), HB2.out⟩

theorem daysB_far {xss : List (List Int)} {xs : List Int} {k : Nat} (hk : k < xs.length) (h : inB xs[k] 0 ((xss.length : Int) - 1) = false) : leftR xss xs = -1 := by
  unfold leftR
  rw [if_neg]
  unfold daysB
  rw [allB_not hk h]
  simp
theorem leftR_all {xss : List (List Int)} {xs : List Int} (hb : besideB xss = true) (h16 : (xs.length : Int) ≤ 16) (h : ∀ k (hk : k < xs.length), inB xs[k] 0 ((xss.length : Int) - 1) = true) : leftR xss xs = (leftN xss xs xs.length : Nat) := by
  unfold leftR
  rw [if_pos]
  unfold daysB
  rw [hb, decide_eq_true h16, allB_all h]
  rfl
theorem afterR_in {xss : List (List Int)} {S : Nat} {o : Int} (hb : besideB xss = true) (hS : S < 2 ^ xss.length) (ho : inB o 0 ((xss.length : Int) - 1) = true) : afterR xss S o = (afterN xss S o : Nat) := by
  have e : wordB xss.length S = true := by
    unfold wordB inB
    have e : (2 : Int) ^ xss.length = ((2 ^ xss.length : Nat) : Int) := by simp
    rw [e]
    simp
    omega
  unfold afterR
  rw [hb, e, show boxB xss.length o = true from ho]
  rfl
theorem afterR_far {xss : List (List Int)} {s : Int} {o : Int} (ho : inB o 0 ((xss.length : Int) - 1) = false) : afterR xss s o = -1 := by
  unfold afterR
  rw [show boxB xss.length o = false from ho]
  simp

theorem specLeftAfter_any {B C : Nat} (v u : Value) (xss : List (List Int)) (xs : List Int) (w : World) (h : Rows2 B w v xss) (hu : Ints C w u xs) :
    Calls Try.prog 29 #[v, u] w (Quiet (.int .i64 (leftR xss xs)) w) := by
  have hT := specBesideOk_any v xss w h
  have HRR := Lib.hid h
  have HU := Lib.hid hu
  obtain ⟨ad, cap, rfl, hcap, hmax, _⟩ := h.opened
  obtain ⟨au, cu, rfl, hu1, hu2, hcells⟩ := hu.opened
  clear h hu
  cases h1 : besideB xss
  · rw [h1] at hT
    have HE := Lib.hid (show leftR xss xs = -1 by unfold leftR daysB; rw [h1]; rfl)
    clear h1 hcells
    go_enter Try.func29, Try.ntmps29
    go_wp2_with fail
    refine hT.mono ?_
    rintro e w2 ⟨rfl, hq2⟩
    have hD : Drawn w w2 := hq2
    clear hq2
    go_wp2
    go_ret
    exact ⟨ret_int (by rw [HE.out]), hD⟩
  · rw [h1] at hT
    have hn := (besideB_spec h1).1
    by_cases h16 : (xs.length : Int) ≤ 16
    · have HBS := Lib.hid h1
      have HST := Lib.hid (left_start (n := xss.length) (by omega))
      have hn6 : (xss.length : Int) ≤ 6 := by omega
      clear h1
      go_enter Try.func29, Try.ntmps29
      go_wp2_with fail
      refine hT.mono ?_
      rintro e w2 ⟨rfl, hq2⟩
      have hD : Drawn w w2 := hq2
      clear hq2
      go_wp2
      go_loopw [5, 6] (fun s i wi => ∃ k : Nat, k ≤ xs.length ∧ i = .int .i64 k ∧ s = .int .i64 (leftN xss xs k : Nat) ∧ (∀ t (ht : t < xs.length), t < k → inB xs[t] 0 ((xss.length : Int) - 1) = true) ∧ Drawn w wi) (fun _ i _ => xs.length - (intOf i).toNat)
      case atStart => exact ⟨0, Nat.zero_le _, rfl, by rw [HST.out]; rfl, fun t ht h => by omega, hD⟩
      case round =>
        obtain ⟨k, hk, rfl, rfl, hup, hDi⟩ := hrel
        have HUP := Lib.hid hup
        clear hup hD
        by_cases hlt : k < xs.length
        · obtain ⟨b, off, rfl, _, hc⟩ := hcells (by omega)
          have hck := hDi.cell (hc k hlt)
          have HG := Lib.hid (show xs.getD k 0 = xs[k] from getD_get hlt)
          have HC := fun (wj : World) (hj : Drawn w wj) => specAfterDay_any (.slice ad xss.length cap) xss (leftN xss xs k : Nat) xs[k] wj (HRR.out.below hj.below)
          cases hib : inB xs[k] 0 ((xss.length : Int) - 1)
          · have HE := Lib.hid (daysB_far hlt hib)
            rw [afterR_far hib] at HC
            clear hib hc hcells
            obtain ⟨x, hx⟩ : ∃ x, x = xs[k] := ⟨_, rfl⟩
            rw [← hx] at hck HC
            clear hx
            go_wp2_with fail
            refine (HC _ hDi).mono ?_
            rintro e w3 ⟨rfl, hq3⟩
            have hD3 : Drawn wr w3 := hq3
            clear hq3
            go_wp2
            go_ret
            exact ⟨ret_int (by rw [HE.out]), hDi.trans hD3⟩
          · have HIB := Lib.hid hib
            rw [afterR_in HBS.out (leftN_lt _ _ _) hib] at HC
            have hnn : (0 : Int) ≤ (afterN xss (leftN xss xs k) xs[k] : Nat) := Int.natCast_nonneg _
            have HX := Lib.hid (show leftN xss xs (k + 1) = afterN xss (leftN xss xs k) xs[k] by rw [leftN, HG.out])
            clear hib hc hcells
            obtain ⟨x, hx⟩ : ∃ x, x = xs[k] := ⟨_, rfl⟩
            rw [← hx] at hck HC HX hnn
            clear hx
            go_wp2_with fail
            refine (HC _ hDi).mono ?_
            rintro e w3 ⟨rfl, hq3⟩
            have hD3 : Drawn wr w3 := hq3
            clear hq3
            go_wp2
            go_roundw
            case rel => exact ⟨k + 1, by omega, by go_num, by rw [HX.out], fun t ht h => by
              by_cases e : t = k
              · subst e; exact HIB.out
              · exact HUP.out t ht (by omega), hDi.trans hD3⟩
            case measure => simp [intOf]; omega
        · have HE := Lib.hid (leftR_all HBS.out h16 (fun t ht => HUP.out t ht (by omega)))
          have HJ := Lib.hid (show k = xs.length by omega)
          go_wp2
          go_ret
          exact ⟨ret_int (by rw [HE.out, HJ.out]), hDi⟩
    · have HE := Lib.hid (show leftR xss xs = -1 by unfold leftR daysB; rw [decide_eq_false h16]; simp)
      clear h1 hcells
      go_enter Try.func29, Try.ntmps29
      go_wp2_with fail
      refine hT.mono ?_
      rintro e w2 ⟨rfl, hq2⟩
      have hD : Drawn w w2 := hq2
      clear hq2
      go_wp2
      go_ret
      exact ⟨ret_int (by rw [HE.out]), hD⟩

end Go.Proofs.Ytoddomhpdeoeeaa
