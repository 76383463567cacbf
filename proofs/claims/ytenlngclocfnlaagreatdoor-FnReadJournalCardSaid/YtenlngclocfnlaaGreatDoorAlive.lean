/- alive: eight things need three questions, nine need four. -/
import Derived.Test.YtenlngclocfnlaaGreatDoorBunA
namespace Go.Proofs.YtenlngclocfnlaaGreatDoor
open Go.RowKit
set_option linter.unusedVariables false

theorem least_any (t r : Int) (w : World) (h : (t = 8 ∧ r = 3) ∨ (t = 9 ∧ r = 4)) :
    Calls Tryz.prog 63 #[.int .i64 t] w fun e w' => e = .returned (.int .i64 r) ∧ w = w' := by
  have hin : inB t 1 1000000 = true := by rcases h with ⟨rfl, _⟩ | ⟨rfl, _⟩ <;> rfl
  go_enter Tryz.func63, Tryz.ntmps63
  go_wp2_with fail
  refine (in_any _ _ _ _).mono ?_
  rintro e w1 ⟨rfl, rfl⟩
  rw [hin]
  go_wp2
  go_loop [3] (fun n => ∃ k : Int, 0 ≤ k ∧ k ≤ r ∧ n = .int .i64 k) (fun n => 5 - (intOf n).toNat)
  case atStart => exact ⟨0, by omega, by omega, rfl⟩
  case round =>
    obtain ⟨k, h0, hk, rfl⟩ := hrel
    rcases h with ⟨rfl, rfl⟩ | ⟨rfl, rfl⟩
    · have hc : k = 0 ∨ k = 1 ∨ k = 2 ∨ k = 3 := by omega
      rcases hc with rfl | rfl | rfl | rfl
      · go_wp2
        go_round
        case rel => exact ⟨1, by omega, by omega, rfl⟩
        case measure => decide
      · go_wp2
        go_round
        case rel => exact ⟨2, by omega, by omega, rfl⟩
        case measure => decide
      · go_wp2
        go_round
        case rel => exact ⟨3, by omega, by omega, rfl⟩
        case measure => decide
      · go_wp2
        go_ret
        exact ⟨rfl, rfl⟩
    · have hc : k = 0 ∨ k = 1 ∨ k = 2 ∨ k = 3 ∨ k = 4 := by omega
      rcases hc with rfl | rfl | rfl | rfl | rfl
      · go_wp2
        go_round
        case rel => exact ⟨1, by omega, by omega, rfl⟩
        case measure => decide
      · go_wp2
        go_round
        case rel => exact ⟨2, by omega, by omega, rfl⟩
        case measure => decide
      · go_wp2
        go_round
        case rel => exact ⟨3, by omega, by omega, rfl⟩
        case measure => decide
      · go_wp2
        go_round
        case rel => exact ⟨4, by omega, by omega, rfl⟩
        case measure => decide
      · go_wp2
        go_ret
        exact ⟨rfl, rfl⟩

theorem alive_any (w : World) : Calls Tryz.prog 19 #[] w fun e w' => e = .returned (.bool true) ∧ w = w' := by
  go_enter Tryz.func19, Tryz.ntmps19
  go_wp2_with fail
  refine (least_any 8 3 _ (.inl ⟨rfl, rfl⟩)).mono ?_
  rintro e w1 ⟨rfl, rfl⟩
  go_wp2_with fail
  refine (least_any 9 4 _ (.inr ⟨rfl, rfl⟩)).mono ?_
  rintro e w1 ⟨rfl, rfl⟩
  go_wp2
  go_ret
  exact ⟨rfl, rfl⟩

end Go.Proofs.YtenlngclocfnlaaGreatDoor
