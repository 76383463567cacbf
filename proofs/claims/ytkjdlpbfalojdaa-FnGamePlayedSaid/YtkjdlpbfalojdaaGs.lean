/- Lists of guesses in memory; the reference's GuessesOk and l4Fits. -/
import Derived.Test.YtkjdlpbfalojdaaCode3
namespace Go.Proofs.Ytkjdlpbfalojdaa
open Go.RowKit
set_option linter.unusedVariables false
set_option maxRecDepth 100000

/-- The slice value v reads in w as these guesses. -/
def GL (B : Nat) (w : World) (v : Value) (gs : List Gs) : Prop :=
  ∃ a cap, ∃ V : Nat → Value, v = .slice a gs.length cap ∧ gs.length ≤ cap ∧ cap ≤ 9223372036854775807 ∧
    (0 < gs.length → ∃ b off, a = some ⟨b, off, none⟩ ∧ B ≤ b ∧ ∀ i (h : i < gs.length),
      w.cell? ⟨b, off + i * 3, none⟩ = some (V i) ∧ w.cell? ⟨b, off + i * 3 + 1, none⟩ = some (.int .i64 gs[i].right) ∧ w.cell? ⟨b, off + i * 3 + 2, none⟩ = some (.int .i64 gs[i].near)) ∧
    ∀ i (h : i < gs.length), Ints B w (V i) gs[i].code

theorem GL.nil (B : Nat) (w : World) : GL B w (.slice none 0 0) [] := ⟨none, 0, fun _ => undef, rfl, by simp, by simp, by simp, by simp⟩
theorem GL.keep {B : Nat} {w w' : World} {v : Value} {gs : List Gs} (h : GL B w v gs) (hs : Above B w w') : GL B w' v gs := by
  obtain ⟨a, cap, V, h1, h2, h3, h4, h5⟩ := h
  refine ⟨a, cap, V, h1, h2, h3, fun hp => ?_, fun i hi => (h5 i hi).keep hs⟩
  obtain ⟨b, off, h6, hb, h7⟩ := h4 hp
  exact ⟨b, off, h6, hb, fun i hi => ⟨hs.cell (by exact hb) (h7 i hi).1, hs.cell (by exact hb) (h7 i hi).2.1, hs.cell (by exact hb) (h7 i hi).2.2⟩⟩
theorem GL.below {B : Nat} {w w' : World} {v : Value} {gs : List Gs} (h : GL B w v gs) (hb : Below w.heap.size w w') : GL B w' v gs := h.keep (.of_below hb)
theorem GL.mono {B B' : Nat} {w : World} {v : Value} {gs : List Gs} (h : GL B w v gs) (hb : B' ≤ B) : GL B' w v gs := by
  obtain ⟨a, cap, V, h1, h2, h3, h4, h5⟩ := h
  refine ⟨a, cap, V, h1, h2, h3, fun hp => ?_, fun i hi => (h5 i hi).mono hb⟩
  obtain ⟨b, off, h6, hb', h7⟩ := h4 hp
  exact ⟨b, off, h6, by omega, h7⟩

theorem all_step {p c : Int} {gs : List Gs} {k : Nat} (hk : k < gs.length) (h : (gs.take k).all (guessOkB p c) = true) (hg : guessOkB p c gs[k] = true) : (gs.take (k + 1)).all (guessOkB p c) = true := by
  rw [List.take_succ_eq_append_getElem hk, List.all_append, h]
  simp [hg]
theorem all_bad {p c : Int} {gs : List Gs} {k : Nat} (hk : k < gs.length) (hg : guessOkB p c gs[k] = false) : guessesB p c gs = false := by
  rw [← Bool.not_eq_true]
  intro h
  unfold guessesB at h
  rw [Bool.and_eq_true, Bool.and_eq_true, List.all_eq_true] at h
  have := h.2.2 _ (List.getElem_mem hk)
  rw [hg] at this
  cases this
theorem all_end {p c : Int} {gs : List Gs} (h : gs.all (guessOkB p c) = true) : guessesB p c gs = (codesB p c && decide ((gs.length : Int) ≤ 9)) := by
  unfold guessesB
  rw [h, Bool.and_true]
  congr 1
  rw [decide_eq_decide]
  omega
theorem guessOk_code {p c : Int} {g : Gs} (h : codeOkB p c g.code = false) : guessOkB p c g = false := by unfold guessOkB; rw [h]; rfl
theorem guessOk_right {p c : Int} {g : Gs} (h : g.right < 0) : guessOkB p c g = false := by unfold guessOkB; rw [decide_eq_false (by omega)]; simp
theorem guessOk_near {p c : Int} {g : Gs} (h : g.near < 0) : guessOkB p c g = false := by unfold guessOkB; rw [decide_eq_false (by omega)]; simp
theorem guessOk_yes {p c : Int} {g : Gs} (h : codeOkB p c g.code = true) (h1 : ¬ g.right < 0) (h2 : ¬ g.near < 0) : guessOkB p c g = true := by unfold guessOkB; rw [h, decide_eq_true (by omega)]; rfl

set_option maxHeartbeats 2000000 in
theorem guessesS_any {B : Nat} (p c : Int) (v : Value) (gs : List Gs) (w : World) (h : GL B w v gs) :
    Calls Try.prog 70 #[.int .i64 p, .int .i64 c, v] w fun e w' => e = .returned (.bool (guessesB p c gs)) ∧ w = w' := by
  obtain ⟨a, cap, V, rfl, hcap, hmax, hcells, hV⟩ := h
  go_enter Try.func70, Try.ntmps70
  go_wp2
  go_loop [7] (fun i => ∃ k : Nat, k ≤ gs.length ∧ i = .int .i64 k ∧ (gs.take k).all (guessOkB p c) = true) (fun i => gs.length - (intOf i).toNat)
  case atStart => exact ⟨0, Nat.zero_le _, rfl, rfl⟩
  case round =>
    obtain ⟨k, hk, rfl, ht⟩ := hrel
    have HT := Lib.hid ht
    clear ht
    by_cases hlt : k < gs.length
    · obtain ⟨b, off, rfl, _, hc⟩ := hcells (by omega)
      obtain ⟨c1, c2, c3⟩ := hc k hlt
      have hO := codeOkS_any p c (V k) gs[k].code w (hV k hlt)
      clear hc hcells hV
      have HY := Lib.hid (@guessOk_yes p c gs[k])
      have HN1 := Lib.hid (@guessOk_code p c gs[k])
      have HN2 := Lib.hid (@guessOk_right p c gs[k])
      have HN3 := Lib.hid (@guessOk_near p c gs[k])
      have HB := Lib.hid (@all_bad p c gs k hlt)
      have HS := Lib.hid (@all_step p c gs k hlt HT.out)
      obtain ⟨g, hg⟩ : ∃ g, g = gs[k] := ⟨_, rfl⟩
      rw [← hg] at c2 c3 hO HY HN1 HN2 HN3 HB HS
      clear hg
      cases ho : codeOkB p c g.code
      · rw [ho] at hO
        have HR := Lib.hid (HB.out (HN1.out ho))
        clear ho
        go_wp2_with fail
        refine hO.mono ?_
        rintro e w2 ⟨rfl, rfl⟩
        clear hO
        go_wp2
        go_ret
        exact ⟨ret_bool (by rw [HR.out]), rfl⟩
      · rw [ho] at hO
        by_cases hr : g.right < 0
        · have HR := Lib.hid (HB.out (HN2.out hr))
          clear ho
          go_wp2_with fail
          refine hO.mono ?_
          rintro e w2 ⟨rfl, rfl⟩
          clear hO
          go_wp2
          go_ret
          exact ⟨ret_bool (by rw [HR.out]), rfl⟩
        · by_cases hn : g.near < 0
          · have HR := Lib.hid (HB.out (HN3.out hn))
            clear ho
            go_wp2_with fail
            refine hO.mono ?_
            rintro e w2 ⟨rfl, rfl⟩
            clear hO
            go_wp2
            go_ret
            exact ⟨ret_bool (by rw [HR.out]), rfl⟩
          · have HR := Lib.hid (HS.out (HY.out ho hr hn))
            clear ho
            go_wp2_with fail
            refine hO.mono ?_
            rintro e w2 ⟨rfl, rfl⟩
            clear hO
            go_wp2
            go_round
            case rel => exact ⟨k + 1, by omega, by go_num, HR.out⟩
            case measure => simp [intOf]; omega
    · have HR := Lib.hid (all_end (p := p) (c := c) (gs := gs) (by have := HT.out; rwa [List.take_of_length_le (by omega)] at this))
      clear hcells hV
      by_cases h1 : 1 ≤ p ∧ p ≤ 3
      · have q1 := l1In_yes p 1 3 w h1
        by_cases h2 : 1 ≤ c ∧ c ≤ 5
        · have q2 := l1In_yes c 1 5 w h2
          have HR2 := Lib.hid (HR.out.trans (by rw [codesB_iff.2 ⟨h1, h2⟩, Bool.true_and]))
          clear h1 h2 HR
          cases hd : decide ((gs.length : Int) ≤ 9)
          · have HD := Lib.hid hd
            go_wp2_with fail
            refine q1.mono ?_
            rintro e w2 ⟨rfl, rfl⟩
            clear q1
            go_wp2_with fail
            refine q2.mono ?_
            rintro e w2 ⟨rfl, rfl⟩
            clear q2
            go_wp2
            go_ret
            exact ⟨ret_bool (by rw [HR2.out, HD.out]), rfl⟩
          · have HD := Lib.hid hd
            go_wp2_with fail
            refine q1.mono ?_
            rintro e w2 ⟨rfl, rfl⟩
            clear q1
            go_wp2_with fail
            refine q2.mono ?_
            rintro e w2 ⟨rfl, rfl⟩
            clear q2
            go_wp2
            go_ret
            exact ⟨ret_bool (by rw [HR2.out, HD.out]), rfl⟩
        · have q2 := l1In_no c 1 5 w h2
          have HR2 := Lib.hid (HR.out.trans (by rw [show codesB p c = false from by rw [← Bool.not_eq_true, codesB_iff]; exact fun q => h2 q.2]; rfl : _ = false))
          clear h1 h2 HR
          go_wp2_with fail
          refine q1.mono ?_
          rintro e w2 ⟨rfl, rfl⟩
          clear q1
          go_wp2_with fail
          refine q2.mono ?_
          rintro e w2 ⟨rfl, rfl⟩
          clear q2
          go_wp2
          go_ret
          exact ⟨ret_bool (by rw [HR2.out]), rfl⟩
      · have q1 := l1In_no p 1 3 w h1
        have HR2 := Lib.hid (HR.out.trans (by rw [show codesB p c = false from by rw [← Bool.not_eq_true, codesB_iff]; exact fun q => h1 q.1]; rfl : _ = false))
        clear h1 HR
        go_wp2_with fail
        refine q1.mono ?_
        rintro e w2 ⟨rfl, rfl⟩
        clear q1
        go_wp2
        go_ret
        exact ⟨ret_bool (by rw [HR2.out]), rfl⟩

end Go.Proofs.Ytkjdlpbfalojdaa
