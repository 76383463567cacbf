/- A shortest hunt is a short list of small numbers. -/
import Derived.Test.YtpeogghiboaceaaHunt
namespace Go.Proofs.Ytpeogghiboaceaa
open Go.RowKit
theorem hunt_small_len {xss : List (List Int)} {l : List Int} {ok : Bool} (h : HuntIs xss l ok) : l.length ≤ 1000000 ∧ ∀ y ∈ l, In64 y := by
  rcases h with ⟨hb, rfl, w, hw, rfl⟩ | ⟨rfl, rfl, _⟩
  · have hn := (besideB_spec hb).1
    have h16 := hw.2.2.1
    refine ⟨by unfold toI; rw [List.length_map]; omega, fun y hy => ?_⟩
    obtain ⟨b, hb, rfl⟩ := List.mem_map.1 hy
    have := hw.1 b hb
    unfold In64; omega
  · exact ⟨by simp, by simp⟩

end Go.Proofs.Ytpeogghiboaceaa
