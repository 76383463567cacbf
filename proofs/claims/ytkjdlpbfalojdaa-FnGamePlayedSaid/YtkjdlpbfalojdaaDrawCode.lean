/- Drawn codes. -/
import Derived.Test.YtkjdlpbfalojdaaDrawG
namespace Go.Proofs.Ytkjdlpbfalojdaa
open Go.RowKit
set_option linter.unusedVariables false
set_option maxRecDepth 100000

theorem odd_zero (w : World) (K : Nat) :
    Calls Try.prog 95 #[.pointer (some ⟨K, 0, none⟩), .int .i64 0] w fun e w' => e = .returned (.bool false) ∧ w = w' := by
  go_enter Try.func95, Try.ntmps95
  go_wp2
  go_ret
  exact ⟨rfl, rfl⟩

theorem rd_grown {w w' : World} {K : Nat} {a : Option Addr} {cap : Nat} {bs : List Int} {p : Int} {k : Option Nat} (h : Rd w K a cap bs p) (hg : w.grownBy w' k) (hk : ∀ j, k = some j → K < j) : Rd w' K a cap bs p := by
  have hK := h.lt
  exact h.keep fun b hb => hg.block b (by omega) (fun e => by have := hk b e.symm; omega)
/-- A code so far, m pegs below M. -/
def CodW (w : World) (K : Nat) (a : Option Addr) (cap : Nat) (bs : List Int) (M : Int) (q : Int) (ao : Option Addr) (m co : Nat) (wi : World) : Prop :=
  ∃ ys, ys.length = m ∧ (∀ y ∈ ys, 0 ≤ y ∧ y < M) ∧ OwnI w.heap.size wi (.slice ao m co) ys ∧ (∃ p', Rd wi K a cap bs p' ∧ p' ≤ q) ∧ w.grownBy wi (some K)
theorem CodW.pick {w wi : World} {K : Nat} {a : Option Addr} {cap : Nat} {bs : List Int} {M q n : Int} {ao : Option Addr} {m co : Nat} (h : CodW w K a cap bs M q ao m co wi) (hK : K < w.heap.size) (hq : q ≤ 100000000000) (hn : In64 n) :
    Calls Try.prog 61 #[.pointer (some ⟨K, 0, none⟩), .int .i64 n] wi fun e w' => ∃ r, e = .returned (.int .i64 r) ∧ 0 ≤ r ∧ (1 ≤ n → r < n) ∧ CodW w K a cap bs M (q + 1) ao m co w' := by
  obtain ⟨ys, h1, h2, h3, ⟨p, h5, h6⟩, h7⟩ := h
  refine (pick_any n _ K a cap bs p h5 (by omega) hn).mono ?_
  rintro e w' ⟨r, rfl, hr0, hr1, ⟨p', hR, hp⟩, hg⟩
  exact ⟨r, rfl, hr0, hr1, ys, h1, h2, h3.keep (Above.of_grown hg (by omega)), ⟨p', hR, by omega⟩, grown_trans h7 hg⟩
theorem CodW.odd {w wi : World} {K : Nat} {a : Option Addr} {cap : Nat} {bs : List Int} {M q n : Int} {ao : Option Addr} {m co : Nat} (h : CodW w K a cap bs M q ao m co wi) (hK : K < w.heap.size) (hq : q ≤ 100000000000) (hn : In64 n) :
    Calls Try.prog 95 #[.pointer (some ⟨K, 0, none⟩), .int .i64 n] wi fun e w' => ∃ b, e = .returned (.bool b) ∧ CodW w K a cap bs M (q + 1) ao m co w' := by
  obtain ⟨ys, h1, h2, h3, ⟨p, h5, h6⟩, h7⟩ := h
  refine (odd_any n _ K a cap bs p h5 (by omega) hn).mono ?_
  rintro e w' ⟨b, rfl, ⟨p', hR, hp⟩, hg⟩
  exact ⟨b, rfl, ys, h1, h2, h3.keep (Above.of_grown hg (by omega)), ⟨p', hR, by omega⟩, grown_trans h7 hg⟩
theorem CodW.own {w wi : World} {K : Nat} {a : Option Addr} {cap : Nat} {bs : List Int} {M q : Int} {ao : Option Addr} {m co : Nat} (h : CodW w K a cap bs M q ao m co wi) :
    ∃ ys, ys.length = m ∧ OwnI w.heap.size wi (.slice ao m co) ys ∧ w.heap.size ≤ wi.heap.size ∧
      ∀ (o : Obj) (x : Int) (w7 : World) (a' : Option Addr) (c' : Nat), 0 ≤ x → x < M → K < w.heap.size → OwnI w.heap.size w7 (.slice a' (m + 1) c') (ys ++ [x]) → (wi.alloc o).grownBy w7 (Value.slice ao m co).ownBlock → CodW w K a cap bs M q a' (m + 1) c' w7 := by
  obtain ⟨ys, h1, h2, h3, ⟨p, h5, h6⟩, h7⟩ := h
  refine ⟨ys, h1, h3, h7.size, fun o x w7 a' c' hx0 hx1 hK ho hg => ?_⟩
  have hblk : ∀ j, (Value.slice ao m co).ownBlock = some j → w.heap.size ≤ j := fun j hj => (World.ownsRow.lt h3 j hj).1
  refine ⟨ys ++ [x], by simp [h1], fun y hy => ?_, ho, ⟨p, ?_, h6⟩, (h7.andThen (World.grownBy_alloc wi o none) (fun _ e => by cases e)).andThen hg (fun j hj => .inl (by have := hblk j hj; omega))⟩
  · rcases List.mem_append.1 hy with h | h
    · exact h2 y h
    · simp at h; rw [h]; exact ⟨hx0, hx1⟩
  · exact rd_grown (h5.below ((Below.refl _ _).alloc (Nat.le_refl _) o)) hg (fun j hj => by have := hblk j hj; omega)

/-- A drawn code. -/
def CodeDrawn (K : Nat) (a : Option Addr) (cap : Nat) (bs : List Int) (p : Int) (pg M n : Int) (w : World) (e : Ending) (w' : World) : Prop :=
  ∃ ys a' c', e = .returned (.slice a' ys.length c') ∧ OwnI w.heap.size w' (.slice a' ys.length c') ys ∧ (n = 0 → (ys.length : Int) = pg ∧ ∀ y ∈ ys, 0 ≤ y ∧ y < M) ∧ (∀ y ∈ ys, In64 y) ∧ ys.length ≤ 10 ∧ Drew K a cap bs p 12 w w'

set_option maxHeartbeats 4000000 in
theorem code_any (pg c n M : Int) (w : World) (K : Nat) (a : Option Addr) (cap : Nat) (bs : List Int) (p : Int) (h : Rd w K a cap bs p) (hp : p ≤ 10000000000) (hg0 : 0 ≤ pg) (hg4 : pg ≤ 4) (hc0 : 0 ≤ c) (hc1 : c ≤ 10) (hn0 : 0 ≤ n) (hn1 : n ≤ 100) (hok : n = 0 ∨ 1 ≤ pg) (hM : max c 1 = M) :
    Calls Try.prog 73 #[.pointer (some ⟨K, 0, none⟩), .int .i64 pg, .int .i64 c, .int .i64 n] w (CodeDrawn K a cap bs p pg M n w) := by
  have hKw := h.lt
  obtain ⟨N, rfl⟩ : ∃ N : Nat, pg = (N : Int) := ⟨pg.toNat, by omega⟩
  have hM1 : 1 ≤ M ∧ M ≤ 10 := by omega
  have hMI : In64 M := by unfold In64; omega
  have hlit : CodW w K a cap bs M p (some ⟨w.heap.size, 0, none⟩) 0 0 (w.alloc (.cells #[] 3)) :=
    ⟨[], rfl, by simp, OwnI.lit w, ⟨p, h.below ((Below.refl _ _).alloc (Nat.le_refl _) _), by omega⟩, World.grownBy_alloc w _ (some K)⟩
  have HC1 := Lib.hid hc1
  clear h
  go_enter Try.func73, Try.ntmps73
  go_wp2
  go_loopw [9, 10] (fun cv kv wi => ∃ (k : Nat) (ao : Option Addr) (co : Nat), k ≤ N ∧ kv = .int .i64 k ∧ cv = .slice ao k co ∧ CodW w K a cap bs M (p + k) ao k co wi) (fun _ kv _ => N - (intOf kv).toNat)
  case atStart => exact ⟨0, _, _, Nat.zero_le _, rfl, rfl, by simpa using hlit⟩
  case round =>
    obtain ⟨k, ao, co, hk, rfl, rfl, hW⟩ := hrel
    obtain ⟨wk, rfl⟩ : ∃ x, x = wr := ⟨_, rfl⟩
    clear hlit
    by_cases hlt : (k : Int) < (N : Int)
    · have hP := hW.pick (n := M) hKw (by omega) hMI
      clear hW
      have hMc : (c < 1 ∧ M = 1) ∨ (¬ c < 1 ∧ M = c) := by omega
      rcases hMc with ⟨hcl, hMc⟩ | ⟨hcl, hMc⟩
      all_goals
       clear hM
       subst hMc
       go_wp2_with fail
       refine hP.mono ?_
       rintro e w4 ⟨x, rfl, hx0, hx1, hW4⟩
       have hx1 := hx1 hM1.1
       obtain ⟨ys, hyl, hown, hz4, hput⟩ := hW4.own
       have HOW := Lib.hid (show OwnI w.heap.size (w4.alloc (.cells #[.int .i64 x] 3)) (.slice ao k co) ys from World.ownsRow.alloc hown _)
       have HYL := Lib.hid hyl
       have HPUT := Lib.hid hput
       have HX := Lib.hid (And.intro hx0 hx1)
       clear hP hW4 hown hyl hput hx0 hx1
       go_wp2_with (at_builtin; refine wpList_push_int _ rfl (.tmp 17) (.tmp 22) rfl w.heap.size (.slice ao k co) ys rfl HOW.out ⟨w4.heap.size, 0, none⟩ 1 x rfl (cell_of_one (heap_alloc_new w4 _)) (by have := HYL.out; omega) (by simp; omega) ?_; intro a7 c7 w7 ho7 hg7; rw [HYL.out] at ho7 ⊢; have HW7 := Lib.hid (HPUT.out _ x w7 a7 c7 HX.out.1 HX.out.2 hKw ho7 hg7); clear ho7 hg7)
       go_roundw
       case rel => exact ⟨k + 1, a7, c7, by omega, by go_num, rfl, by have := HW7.out; rwa [show p + ((k + 1 : Nat) : Int) = p + k + 1 by omega]⟩
       case measure => simp [intOf]; omega
    · have hkN : k = N := by omega
      subst hkN
      rcases hok with rfl | hpg1
      · obtain ⟨ys, h1, h2, h3, ⟨p', h5, h6⟩, h7⟩ := hW
        have HF := Lib.hid (show CodeDrawn K a cap bs p k M 0 w (.returned (.slice ao k co)) wk from by
          subst h1
          exact ⟨ys, ao, co, rfl, h3, fun _ => ⟨rfl, h2⟩, fun y hy => by have := h2 y hy; unfold In64; omega, by omega, ⟨p', h5, by omega⟩, h7⟩)
        clear h1 h2 h3 h5 h6 h7
        go_wp2_with fail
        refine (odd_zero wk K).mono ?_
        rintro e w5 ⟨rfl, rfl⟩
        go_wp2
        go_ret
        exact HF.out
      · by_cases hnz : n = 0
        · subst hnz
          obtain ⟨ys, h1, h2, h3, ⟨p', h5, h6⟩, h7⟩ := hW
          have HF := Lib.hid (show CodeDrawn K a cap bs p k M 0 w (.returned (.slice ao k co)) wk from by
            subst h1
            exact ⟨ys, ao, co, rfl, h3, fun _ => ⟨rfl, h2⟩, fun y hy => by have := h2 y hy; unfold In64; omega, by omega, ⟨p', h5, by omega⟩, h7⟩)
          clear h1 h2 h3 h5 h6 h7
          go_wp2_with fail
          refine (odd_zero wk K).mono ?_
          rintro e w5 ⟨rfl, rfl⟩
          go_wp2
          go_ret
          exact HF.out
        · have hO := hW.odd (n := n) hKw (by omega) (by unfold In64; omega)
          have HNZ := Lib.hid hnz
          clear hW hnz
          go_wp2_with fail
          refine hO.mono ?_
          rintro e w5 ⟨b, rfl, hW5⟩
          clear hO
          cases b
          · obtain ⟨ys, h1, h2, h3, ⟨p', h5, h6⟩, h7⟩ := hW5
            have HF := Lib.hid (show CodeDrawn K a cap bs p k M n w (.returned (.slice ao k co)) w5 from by
              subst h1
              exact ⟨ys, ao, co, rfl, h3, fun e => absurd e HNZ.out, fun y hy => by have := h2 y hy; unfold In64; omega, by omega, ⟨p', h5, by omega⟩, h7⟩)
            clear h1 h2 h3 h5 h6 h7
            go_wp2
            go_ret
            exact HF.out
          · have hP := hW5.pick (n := 2) hKw (by omega) (by unfold In64; omega)
            clear hW5
            go_wp2_with fail
            refine hP.mono ?_
            rintro e w6 ⟨r, rfl, hr0, hr1, hW6⟩
            clear hP
            by_cases hr : r = 0
            · subst hr
              obtain ⟨ys, hyl, hown, hz4, hput⟩ := hW6.own
              have HOW := Lib.hid (show OwnI w.heap.size (w6.alloc (.cells #[.int .i64 0] 3)) (.slice ao k co) ys from World.ownsRow.alloc hown _)
              have HYL := Lib.hid hyl
              have HPUT := Lib.hid hput
              clear hW6 hown hyl hput hr0 hr1
              go_wp2_with (at_builtin; refine wpList_push_int _ rfl (.tmp 30) (.tmp 31) rfl w.heap.size (.slice ao k co) ys rfl HOW.out ⟨w6.heap.size, 0, none⟩ 1 0 rfl (cell_of_one (heap_alloc_new w6 _)) (by have := HYL.out; omega) (by simp; omega) ?_; intro a7 c7 w7 ho7 hg7; rw [HYL.out] at ho7 ⊢; have HW7 := Lib.hid (HPUT.out _ 0 w7 a7 c7 (by omega) (by omega) hKw ho7 hg7); clear ho7 hg7)
              go_ret
              obtain ⟨zs, h1, h2, h3, ⟨p', h5, h6⟩, h7⟩ := HW7.out
              refine ⟨zs, a7, c7, by rw [h1]; rfl, by rw [h1]; exact h3, fun e => absurd e HNZ.out, fun y hy => by have := h2 y hy; unfold In64; omega, by omega, ⟨p', h5, by omega⟩, h7⟩
            · obtain ⟨ys, h1, h2, h3, ⟨p', h5, h6⟩, h7⟩ := hW6
              have hrb : (r == 0) = false := by simpa using hr
              obtain ⟨g, capg, he, hBg, hgs, _⟩ := own_head h3 (by omega)
              injection he with he1 he2 he3
              clear he2
              subst he1 he3
              obtain ⟨⟨u0, hc1⟩, hf1⟩ := h3.at 0 (by omega)
              have hset := h3.set 0 c
              have hgrw := grownBy_setCell w6 ⟨g, 0, none⟩ (.int .i64 c)
              have HF := Lib.hid (show CodeDrawn K a cap bs p k M n w (.returned (.slice (some ⟨g, 0, none⟩) k co)) (w6.setCell ⟨g, 0, none⟩ (.int .i64 c)) from by
                subst h1
                refine ⟨ys.set 0 c, _, co, by rw [List.length_set], by rw [List.length_set]; exact hset, fun e => absurd e HNZ.out, fun y hy => ?_, by rw [List.length_set]; omega, ⟨p', rd_grown h5 hgrw (fun j hj => by cases hj; exact Nat.lt_of_lt_of_le hKw hBg), by omega⟩, h7.andThen hgrw (fun j hj => .inl (by cases hj; exact hBg))⟩
                rcases List.mem_or_eq_of_mem_set hy with hy | rfl
                · have := h2 y hy; unfold In64; omega
                · have := HC1.out; unfold In64; omega)
              clear h1 h2 h3 h5 h6 h7 hset hgrw hr
              go_wp2
              go_ret
              exact HF.out

end Go.Proofs.Ytkjdlpbfalojdaa
