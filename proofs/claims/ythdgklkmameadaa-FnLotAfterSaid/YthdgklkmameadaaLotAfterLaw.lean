/- The walk of FnLotAfter. -/
import Derived.Test.YthdgklkmameadaaDrawLot
import Derived.Test.YthdgklkmameadaaLotSum
import Derived.Test.YthdgklkmameadaaLot2
namespace Go.Proofs.Ythdgklkmameadaa
open Go.RowKit
set_option linter.unusedVariables false

set_option maxHeartbeats 1000000 in
theorem FnLotAfter_walk (v : Value) (bs : List Int) (w : World) (h : Bytes 0 w v bs) :
    Calls Try.prog 10 #[v] w fun e w' => e = .returned (.bool true) ∧ Below w.heap.size w w' := by
  obtain ⟨a0, cap0, rfl, hc1, hc2, hc3⟩ := id h.1
  rw [List.length_map] at h ⊢
  clear hc1 hc2 hc3
  by_cases hs : 1048576 < bs.length
  · go_enter Try.func10, Try.ntmps10
    go_wp2
    go_ret
    exact ⟨rfl, Below.refl _ _⟩
  · go_enter Try.func10, Try.ntmps10
    go_wp2_with fail
    refine (drawLotAfter_any _ _ _ h).mono ?_
    rintro e w1 ⟨xss, a1, c1, lot, q, x, rfl, hl0, hl1, hq0, hq1, hx0, hx1', hx1, hb1⟩
    clear h
    go_wp2_with fail
    refine (implLotAfter_any _ _ _ _ _ _ hx1).mono ?_
    rintro e w2 ⟨rfl, hb2⟩
    have hx2 := hx1.below hb2
    have hbb2 := hb1.trans (hb2.mono hb1.size)
    clear hx1 hb1 hb2
    go_wp2_with fail
    refine (specLotAfter_any _ _ _ _ _ _ hx2).mono ?_
    rintro e w3 ⟨rfl, hq3⟩
    have hD3 : Drawn w2 w3 := hq3
    have hx3 := hx2.below hD3.below
    have hbb3 := hbb2.trans (hD3.below.mono hbb2.size)
    clear hq3 hx2 hbb2 hD3
    have hself : (lotAfterR xss lot q x != lotAfterR xss lot q x) = false := by simp
    by_cases hneg : lotAfterR xss lot q x < 0
    · have hm := lotAfterR_neg hneg
      rw [hm]
      go_wp2_with fail
      refine (alive_any _).mono ?_
      rintro e w7 ⟨rfl, rfl⟩
      go_wp2
      go_ret
      exact ⟨rfl, hbb3⟩
    · have hall := sumLot_all hneg
      have HALL := Lib.hid hall
      have HB := Lib.hid hbb3
      have HX := Lib.hid hx3
      clear hall hbb3 hx3
      go_wp2
      go_loopw [8, 9] (fun s c wi => ∃ k : Nat, k ≤ 3 ∧ c = .int .i64 k ∧ s = .int .i64 (sumLot xss lot q k) ∧ Below w3.heap.size w3 wi) (fun _ c _ => 4 - (intOf c).toNat)
      case atStart => exact ⟨0, by omega, rfl, rfl, Below.refl _ _⟩
      case round =>
        obtain ⟨k, hk, rfl, rfl, hbi⟩ := hrel
        have HBI := Lib.hid hbi
        clear hbi
        have hrng := sumLot_rng xss lot q k hk
        by_cases hlt : k < 3
        · go_wp2_with fail
          refine (implLotAfter_any _ _ _ _ _ _ (HX.out.below HBI.out)).mono ?_
          rintro e w5 ⟨rfl, hb5⟩
          have hr := lotAfterR_rng xss lot q k
          have hb5' := HBI.out.trans (hb5.mono HBI.out.size)
          have HB5 := Lib.hid hb5'
          clear hb5 hb5'
          go_wp2
          go_roundw
          case rel => exact ⟨k + 1, by omega, by go_num, by simp only [sumLot], HB5.out⟩
          case measure => simp [intOf]; omega
        · have e3 : k = 3 := by omega
          subst e3
          have hd : (sumLot xss lot q 3 == lot) = true := by simp [HALL.out]
          go_wp2
          go_ret
          exact ⟨rfl, HB.out.trans (HBI.out.mono HB.out.size)⟩

end Go.Proofs.Ythdgklkmameadaa
