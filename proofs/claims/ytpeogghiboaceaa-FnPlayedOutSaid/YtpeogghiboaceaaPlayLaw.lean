/- The walk of FnPlayedOut. -/
import Derived.Test.YtpeogghiboaceaaDrawNeed
import Derived.Test.YtpeogghiboaceaaPlaySpec
import Derived.Test.YtpeogghiboaceaaAlive
import Derived.Test.YtpeogghiboaceaaLeaf2
namespace Go.Proofs.Ytpeogghiboaceaa
open Go.RowKit
set_option linter.unusedVariables false
set_option maxRecDepth 100000

theorem sameInts2_any {B C : Nat} (a b : Value) (xs ys : List Int) (w : World) (ha : Ints B w a xs) (hb : Ints C w b ys) :
    Calls Try.prog 42 #[a, b] w (Quiet (.bool (decide (xs = ys))) w) := by
  obtain ⟨a, cap, rfl, hcap, hmax, hcells⟩ := ha.opened
  obtain ⟨b, cap', rfl, hcap', hmax', hcells'⟩ := hb.opened
  clear ha hb
  by_cases hl : xs.length = ys.length
  · have hl1 : ((xs.length : Int) != (ys.length : Int)) = false := by rw [bne_eq_false_iff_eq]; omega
    have hl2 : xs.length ≤ ys.length := by omega
    have hl3 : ys.length ≤ xs.length := by omega
    clear hl
    go_enter Try.func42, Try.ntmps42
    go_wp2
    go_loopw [5] (fun i wr => ∃ k q : Nat, k ≤ xs.length ∧ i = .int .i64 k ∧ xs.take k = ys.take k ∧ wr = w.drewN q) (fun i _ => xs.length - (intOf i).toNat)
    case atStart => exact ⟨0, 0, Nat.zero_le _, rfl, rfl, rfl⟩
    case round =>
      obtain ⟨k, q, hk, rfl, ht, rfl⟩ := hrel
      have HT := Lib.hid ht
      clear ht
      by_cases hlt : k < xs.length
      · obtain ⟨b1, o1, rfl, _, hc⟩ := hcells (by omega)
        obtain ⟨b2, o2, rfl, _, hc'⟩ := hcells' (by omega)
        have hck := hc k hlt
        have hck' := hc' k (by omega)
        have hlt' : k < ys.length := by omega
        have hi0 : (0 : Int) ≤ (k : Int) := by omega
        have hi1 : (k : Int) < (xs.length : Int) := by omega
        have hi2 : (k : Int) < (ys.length : Int) := by omega
        clear hc hcells hc' hcells'
        by_cases he : xs[k] = ys[k]
        · have he1 : (xs[k] != ys[k]) = false := by simpa using he
          have HE := Lib.hid he
          clear he
          go_wp2
          go_quiet (fail)
          go_wp2
          go_roundw
          case rel => exact ⟨k + 1, _, by omega, by go_num, take_eq_succ hlt hlt' HT.out HE.out, rfl⟩
          case measure => simp [intOf]; omega
        · have he1 : (xs[k] != ys[k]) = true := by simpa using he
          have HE := Lib.hid (ne_of_get hlt hlt' he)
          clear he
          go_wp2
          go_quiet (fail)
          go_wp2
          go_ret
          exact ⟨ret_bool (by simp [HE.out]), q + nq, by simp⟩
      · go_wp2
        go_ret
        have e : xs = ys := by
          have := HT.out
          rwa [List.take_of_length_le (by omega), List.take_of_length_le (by omega)] at this
        exact ⟨ret_bool (by simp [e]), _, rfl⟩
  · have hl1 : ((xs.length : Int) != (ys.length : Int)) = true := by simp; omega
    have HE := Lib.hid (show ¬ xs = ys from fun e => hl (by rw [e]))
    clear hl
    go_enter Try.func42, Try.ntmps42
    go_wp2
    go_ret
    exact ⟨ret_bool (by simp [HE.out]), 0, rfl⟩


theorem Ints.upto2 {B : Nat} {w : World} {a : Option Addr} {n cap : Nat} {xs : List Int} (h : Ints B w (.slice a n cap) xs) {k : Nat} (hk : k ≤ xs.length) : Ints B w (.slice a k cap) (xs.take k) := by
  refine ⟨?_, fun x hx => h.2 x (List.mem_of_mem_take hx)⟩
  have h9 := h.1.take (k := k) (by simpa using hk)
  unfold ints at h9 ⊢
  rwa [← List.map_take] at h9

theorem hasInt_no {B : Nat} (a : Value) (xs : List Int) (x : Int) (w : World) (ha : Ints B w a xs) (hx : In64 x) (hno : x ∉ xs) :
    Calls Try.prog 43 #[a, .int .i64 x] w (Quiet (.bool false) w) := by
  obtain ⟨a, cap, rfl, hcap, hmax, hcells⟩ := ha.opened
  clear ha
  go_enter Try.func43, Try.ntmps43
  go_wp2
  go_loopw [5] (fun i wr => ∃ k q : Nat, k ≤ xs.length ∧ i = .int .i64 k ∧ wr = w.drewN q) (fun i _ => xs.length - (intOf i).toNat)
  case atStart => exact ⟨0, 0, Nat.zero_le _, rfl, rfl⟩
  case round =>
    obtain ⟨k, q, hk, rfl, rfl⟩ := hrel
    by_cases hlt : k < xs.length
    · obtain ⟨b1, o1, rfl, _, hc⟩ := hcells (by omega)
      have hck := hc k hlt
      have hi0 : (0 : Int) ≤ (k : Int) := by omega
      have hi1 : (k : Int) < (xs.length : Int) := by omega
      have he : xs[k] ≠ x := fun e => hno (by rw [← e]; exact List.getElem_mem hlt)
      have he1 : (xs[k] == x) = false := by simpa using he
      clear hc hcells hno he
      go_wp2
      go_roundw
      case rel => exact ⟨k + 1, _, by omega, by go_num, rfl⟩
      case measure => simp [intOf]; omega
    · obtain rfl : k = xs.length := by omega
      go_wp2
      go_ret
      exact ⟨rfl, ⟨_, rfl⟩⟩

set_option maxHeartbeats 4000000 in
theorem FnPlayedOut_walk (v : Value) (bs : List Int) (w : World) (h : Bytes 0 w v bs) :
    Calls Try.prog 12 #[v] w fun e w' => e = .returned (.bool true) ∧ Below w.heap.size w w' := by
  obtain ⟨a0, cap0, rfl, hc1, hc2, hc3⟩ := id h.1
  rw [List.length_map] at h ⊢
  clear hc1 hc2 hc3
  by_cases hs : 1048576 < bs.length
  · go_enter Try.func12, Try.ntmps12
    go_wp2
    go_ret
    exact ⟨rfl, Below.refl _ _⟩
  · go_enter Try.func12, Try.ntmps12
    go_wp2_with fail
    refine (drawPlayedOut_any _ _ _ h).mono ?_
    rintro e w1 ⟨xss, a1, c1, rfl, hx1, hb1⟩
    clear h
    go_wp2_with fail
    refine (implPlayedOut_any _ _ _ hx1).mono ?_
    rintro e w2 ⟨l, ok, al, cl, rfl, hp2, ho2, hb2⟩
    have hx2 := hx1.below hb2
    have hbb2 := hb1.trans (hb2.mono hb1.size)
    have hl2 := ho2.toInts hp2.small.2
    clear hx1 hb1 hb2 ho2
    go_wp2_with fail
    refine (specPlayedOut_any _ _ _ hx2).mono ?_
    rintro e w3 ⟨l', ok', ar, cr, rfl, hp3, ho3, hb3⟩
    obtain ⟨rfl, rfl⟩ := hp2.unique hp3
    have hr3 := ho3.toInts hp3.small.2
    have hx3 := hx2.below hb3
    have hl3 := hl2.below hb3
    have hbb3 := hbb2.trans (hb3.mono hbb2.size)
    clear hx2 hl2 hbb2 ho3 hp3
    go_wp2_with fail
    refine (sameInts2_any _ _ _ _ _ hl3 hr3).mono ?_
    rintro e w4 ⟨rfl, hq4⟩
    have hD4 : Drawn w3 w4 := hq4
    rw [decide_eq_true rfl]
    have hx4 := hx3.below hD4.below
    have hl4 := hl3.below hD4.below
    have hbb4 := hbb3.trans (hD4.below.mono hbb3.size)
    have hoo : (ok != ok) = false := by simp
    clear hx3 hl3 hr3 hbb3 hq4 hD4
    have hsm := hp2.small
    obtain ⟨rfl, rfl⟩ := hp2
    cases hap : apartB xss
    · have hll : playR xss = [] := by unfold playR; rw [hap]; rfl
      rw [hll] at hl4 hsm ⊢
      rw [hap] at hoo
      clear hl4 hsm hll hap hx4
      simp only [List.length_nil]
      go_wp2_with fail
      refine (alive_any _).mono ?_
      rintro e w7 ⟨rfl, rfl⟩
      go_wp2
      go_ret
      exact ⟨rfl, hbb4⟩
    · have hT := apartB_table hap
      have hn := tableB_len hT
      have hneed : 0 ≤ need xss (fullN xss) := by
        have := apart_need hT
        rw [hap] at this
        exact of_decide_eq_true this.symm
      have hll : playR xss = playL xss (playN xss) := by unfold playR; rw [hap]; rfl
      have hlen : (playR xss).length = playN xss := by rw [hll, playL_length]
      have hget : ∀ k (hk : k < (playR xss).length), (playR xss)[k] ∉ (playR xss).take k := by
        intro k hk hm
        obtain ⟨j, hj, e⟩ := List.getElem_of_mem hm
        have hj' : j < k := by simp at hj; omega
        rw [List.getElem_take] at e
        simp only [hll] at e
        rw [hlen] at hk
        have hk' : k < (playL xss (playN xss)).length := by rw [playL_length]; exact hk
        simp only [playL, List.getElem_map, List.getElem_range] at e
        exact play_once hT hneed hj' hk e
      have hpl : ((playR xss).length : Int) = need xss (fullN xss) := by rw [hlen]; unfold playN; omega
      have hf := full_cast xss (by omega)
      have hn7 : (xss.length : Int) ≤ 7 := by omega
      have hNd := fun W (hb : Below w4.heap.size w4 W) => by
        have := implNeededAt_any _ xss (fullN xss : Nat) W (hx4.below hb)
        rw [needAt_yes (by rw [hT, full_ok]; rfl), ← hpl] at this
        exact this
      have hplc : (playR xss).length ≤ 1000000 := hsm.1
      have hin := hsm.2
      rw [hap] at hoo
      obtain ⟨xs, hxs⟩ : ∃ xs, xs = playR xss := ⟨_, rfl⟩
      rw [← hxs] at hl4 hget hNd hplc hin ⊢
      have HL4 := Lib.hid hl4
      have HG := Lib.hid hget
      have HIN := Lib.hid hin
      have HB4 := Lib.hid hbb4
      obtain ⟨_, _, he0, hcap, hmax, hcells⟩ := hl4.opened
      injection he0 with e1 e2 e3
      subst e1 e3
      clear hl4 hget hin hsm hbb4 hll hlen hpl hxs hneed hap hx4
      go_wp2
      go_loopw [8] (fun i wr => ∃ k q : Nat, k ≤ xs.length ∧ i = .int .i64 k ∧ wr = w4.drewN q) (fun i _ => xs.length - (intOf i).toNat)
      case atStart => exact ⟨0, 0, Nat.zero_le _, rfl, rfl⟩
      case round =>
        obtain ⟨k, q, hk, rfl, rfl⟩ := hrel
        by_cases hlt : k < xs.length
        · obtain ⟨b1, o1, rfl, _, hc⟩ := hcells (by omega)
          have hck := hc k hlt
          have hi0 : (0 : Int) ≤ (k : Int) := by omega
          have hi1 : (k : Int) < (xs.length : Int) := by omega
          have hi2 : (k : Int) ≤ (cl : Int) := by omega
          have hno := HG.out k hlt
          have hI := HIN.out _ (List.getElem_mem hlt)
          have hL := HL4.out.upto2 (k := k) (by omega)
          clear hc hcells
          obtain ⟨wq, hwq⟩ : ∃ wq, wq = w4.drewN q := ⟨_, rfl⟩
          have hLq : Ints w1.heap.size wq (.slice (some ⟨b1, o1, none⟩) k cl) (xs.take k) := by rw [hwq]; exact hL.below (Drawn.below ⟨q, rfl⟩)
          have hE := fun r => hasInt_no _ _ _ (wq.drewN r) (hLq.below (Drawn.below ⟨r, rfl⟩)) hI hno
          have hckq : wq.cell? ⟨b1, o1 + k, none⟩ = some (.int .i64 xs[k]) := by rw [hwq]; simpa using hck
          rw [← hwq]
          have HWQ := Lib.hid hwq
          clear hwq hck
          go_wp2
          go_quiet ((go_at_call 43; exact Calls.quiet_of (hE _)))
          go_wp2
          go_roundw
          case rel => exact ⟨k + 1, _, by omega, by go_num, by rw [HWQ.out, World.drewN_drewN]⟩
          case measure => simp [intOf]; omega
        · obtain rfl : k = xs.length := by omega
          have hself : ((xs.length : Int) == (xs.length : Int)) = true := by simp
          clear hcells
          go_wp2_with fail
          refine (hNd _ (Drawn.below ⟨q, rfl⟩)).mono ?_
          rintro e w5 ⟨rfl, hb5⟩
          have hD : Below w4.heap.size w4 (w4.drewN q) := Drawn.below ⟨q, rfl⟩
          have HB5 := Lib.hid (HB4.out.trans ((hD.trans (hb5.mono hD.size)).mono HB4.out.size))
          clear hb5 hNd hD
          go_wp2
          go_ret
          exact ⟨rfl, HB5.out⟩

end Go.Proofs.Ytpeogghiboaceaa
