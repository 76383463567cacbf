/- The drawn shots at a drawn board. -/
import Derived.Test.YtpeogghiboaceaaDrawShots
import Derived.Test.YtpeogghiboaceaaDrawBoard
import Derived.Deep.Cut
import Derived.Deep.CutRange
namespace Go.Proofs.Ytpeogghiboaceaa
open Go.RowKit
set_option linter.unusedVariables false
set_option maxRecDepth 100000

theorem RdW.under {w w1 w2 : World} {K : Nat} {a : Option Addr} {cap : Nat} {bs : List Int} {q : Int} {B : Nat} (h : RdW w K a cap bs q w1) (hb : Below B w1 w2) (hB : w.heap.size ≤ B) (hK : K < B) : RdW w K a cap bs q w2 := by
  obtain ⟨⟨p, h1, h2⟩, h3⟩ := h
  exact ⟨⟨p, h1.keep (fun b hb2 => hb.block b (by omega)), h2⟩, ⟨hb.os.trans h3.os, hb.tape.trans h3.tape, hb.output.trans h3.output, by have := hb.size; have := h3.size; omega, fun b hbl hne => (hb.block b (by omega)).trans (h3.block b hbl hne)⟩⟩
theorem RdW.later {w wi : World} {K : Nat} {a : Option Addr} {cap : Nat} {bs : List Int} {q q' : Int} (h : RdW w K a cap bs q wi) (hq : q ≤ q') : RdW w K a cap bs q' wi := by
  obtain ⟨⟨p, h1, h2⟩, h3⟩ := h
  exact ⟨⟨p, h1, by omega⟩, h3⟩
theorem RdW.setCell {w wi : World} {K : Nat} {a : Option Addr} {cap : Nat} {bs : List Int} {q : Int} (h : RdW w K a cap bs q wi) (hK : K < w.heap.size) (x : Addr) (hx : w.heap.size ≤ x.block) (u : Value) : RdW w K a cap bs q (wi.setCell x u) := by
  obtain ⟨⟨p, h1, h2⟩, h3⟩ := h
  have := chain_step hK ⟨h3, h1⟩ (grownBy_setCell wi x u) (fun k hk => by cases hk; exact hx)
  exact ⟨⟨p, this.2, h2⟩, this.1⟩

/-- The call's own shots; the reader at q at most. -/
def ShW (w : World) (K : Nat) (a : Option Addr) (cap : Nat) (bs : List Int) (q : Int) (ao : Option Addr) (n co : Nat) (wi : World) : Prop :=
  ∃ xss, OwnII w.heap.size wi (.slice ao n co) xss ∧ All01 xss ∧ xss.length = n ∧ (∀ xs ∈ xss, xs.length ≤ 6) ∧ RdW w K a cap bs q wi
theorem ShW.pick {w wi : World} {K : Nat} {a : Option Addr} {cap : Nat} {bs : List Int} {q m : Int} {ao : Option Addr} {n co : Nat} (hK : K < w.heap.size) (h : ShW w K a cap bs q ao n co wi) (hq : q ≤ 1000000) (hm : In64 m) :
    Calls Try.prog 77 #[.pointer (some ⟨K, 0, none⟩), .int .i64 m] wi fun e w' => ∃ r, e = .returned (.int .i64 r) ∧ 0 ≤ r ∧ (1 ≤ m → r < m) ∧ ShW w K a cap bs (q + 1) ao n co w' ∧ wi.grownBy w' (some K) := by
  obtain ⟨xss, h1, h2, h3, h4, h5⟩ := h
  refine (RdW.pick h5 hq hm).mono ?_
  rintro e w' ⟨r, rfl, hr0, hr1, hW, hg⟩
  exact ⟨r, rfl, hr0, hr1, ⟨xss, h1.keep (Above.of_grown hg hK), h2, h3, h4, hW⟩, hg⟩
theorem ShW.drew {w wi : World} {K : Nat} {a : Option Addr} {cap : Nat} {bs : List Int} {q : Int} {ao : Option Addr} {n co : Nat} (h : ShW w K a cap bs q ao n co wi) : ShW w K a cap bs q ao n co wi.drew := by
  obtain ⟨xss, h1, h2, h3, h4, h5⟩ := h
  exact ⟨xss, h1.keep (fun _ _ _ => rfl), h2, h3, h4, h5.drew⟩
theorem ShW.later {w wi : World} {K : Nat} {a : Option Addr} {cap : Nat} {bs : List Int} {q q' : Int} {ao : Option Addr} {n co : Nat} (h : ShW w K a cap bs q ao n co wi) (hq : q ≤ q') : ShW w K a cap bs q' ao n co wi := by
  obtain ⟨xss, h1, h2, h3, h4, h5⟩ := h
  exact ⟨xss, h1, h2, h3, h4, h5.later hq⟩
/-- The row at place i, as it lies. -/
theorem ShW.row {w wi : World} {K : Nat} {a : Option Addr} {cap : Nat} {bs : List Int} {q : Int} {ao : Option Addr} {n co : Nat} (h : ShW w K a cap bs q ao n co wi) {i : Nat} (hi : i < n) :
    ∃ g au m cu, ao = some ⟨g, 0, none⟩ ∧ w.heap.size ≤ g ∧ n ≤ co ∧ co ≤ 9223372036854775807 ∧ wi.cell? ⟨g, i, none⟩ = some (.slice au m cu) ∧ wi.frozen? ⟨g, i, none⟩ = false ∧ m ≤ 6 := by
  obtain ⟨xss, h1, h2, h3, h4, h5⟩ := h
  obtain ⟨g, rfl, hg⟩ := h1.head (by omega)
  obtain ⟨⟨u, hc, hou⟩, hf⟩ := h1.at i (by omega)
  obtain ⟨au, cu, rfl, _⟩ := own_shape hou
  obtain ⟨_, _, he, hcap, hmax, _⟩ := h1.opened
  injection he with _ e2 e3
  subst e3
  exact ⟨g, au, _, cu, rfl, hg, by omega, hmax, hc, hf, h4 _ (List.getElem_mem _)⟩
/-- An element: read, and turned round. -/
theorem ShW.elem {w wi : World} {K : Nat} {a : Option Addr} {cap : Nat} {bs : List Int} {q : Int} {g : Nat} {n co : Nat} (hK : K < w.heap.size) (h : ShW w K a cap bs q (some ⟨g, 0, none⟩) n co wi) {i : Nat} (hi : i < n) {au : Option Addr} {m cu : Nat} (hc : wi.cell? ⟨g, i, none⟩ = some (.slice au m cu)) {j : Nat} (hj : j < m) :
    ∃ g' x, au = some ⟨g', 0, none⟩ ∧ m ≤ cu ∧ cu ≤ 9223372036854775807 ∧ wi.cell? ⟨g', j, none⟩ = some (.int .i64 x) ∧ (0 ≤ x ∧ x ≤ 1) ∧ wi.frozen? ⟨g', j, none⟩ = false ∧ ShW w K a cap bs q (some ⟨g, 0, none⟩) n co (wi.setCell ⟨g', j, none⟩ (.int .i64 (1 - x))) := by
  obtain ⟨xss, h1, h2, h3, h4, h5⟩ := h
  obtain ⟨⟨u, hcu, hou⟩, _⟩ := h1.at i (by omega)
  rw [hc] at hcu
  injection hcu with hcu
  obtain ⟨au', cu', hu, _⟩ := own_shape hou
  rw [hu] at hcu
  injection hcu with e1 e2 e3
  have hm : xss[i].length = m := e2.symm
  obtain ⟨g', cap', hc1, hB1, hcap1, hcap2, hcell, hfr, hset⟩ := h1.elem i (by omega) (by omega)
  rw [hc] at hc1
  injection hc1 with hc1
  injection hc1 with f1 f2 f3
  subst f1 f3
  have h01 := h2 _ (List.getElem_mem (show i < xss.length by omega)) _ (List.getElem_mem (show j < xss[i].length by omega))
  refine ⟨g', xss[i][j], rfl, by omega, hcap2, hcell j (by omega), h01, hfr j, _, hset j (1 - xss[i][j]), fun xs hx y hy => ?_, by simpa using h3, fun xs hx => ?_, h5.setCell hK _ hB1 _⟩
  · rcases List.mem_or_eq_of_mem_set hx with hx | hx
    · exact h2 xs hx y hy
    · rw [hx] at hy
      rcases List.mem_or_eq_of_mem_set hy with hy | hy
      · exact h2 _ (List.getElem_mem _) y hy
      · omega
  · rcases List.mem_or_eq_of_mem_set hx with hx | hx
    · exact h4 xs hx
    · rw [hx, List.length_set]; exact h4 _ (List.getElem_mem _)
theorem ShW.rows {w wi : World} {K : Nat} {a : Option Addr} {cap : Nat} {bs : List Int} {q : Int} {ao : Option Addr} {n co : Nat} (h : ShW w K a cap bs q ao n co wi) : ∃ xss : List (List Int), xss.length = n ∧ Rows2 w.heap.size wi (.slice ao n co) xss ∧ w.grownBy wi (some K) := by
  obtain ⟨xss, h1, h2, h3, h4, h5⟩ := h
  exact ⟨xss, h3, h1.rows (fun xs hx x hx2 => by have := h2 xs hx x hx2; unfold In64; omega), h5.2⟩
theorem Rows2.drop1 {B : Nat} {w : World} {g n co : Nat} {xss : List (List Int)} (h : Rows2 B w (.slice (some ⟨g, 0, none⟩) n co) xss) (hn : 1 ≤ n) : Rows2 B w (.slice (some ⟨g, 1, none⟩) (n - 1) (co - 1)) (xss.drop 1) := by
  obtain ⟨vs, ⟨a, cap, he, h1, h2, h3⟩, hl, hr⟩ := h
  injection he with e1 e2 e3
  subst e1 e3
  obtain ⟨b, off, hb, hB, hc⟩ := h3 (by omega)
  injection hb with hb
  injection hb with hb1 hb2
  subst hb1 hb2
  have hl2 : (vs.drop 1).length = n - 1 := by rw [List.length_drop]; omega
  refine ⟨vs.drop 1, ⟨some ⟨g, 1, none⟩, co - 1, by rw [hl2], by omega, by omega, fun _ => ⟨g, 1, rfl, hB, fun i hi => ?_⟩⟩, by rw [List.length_drop, List.length_drop, hl], fun i hi hi' => ?_⟩
  · have := hc (1 + i) (by rw [List.length_drop] at hi; omega)
    rw [Nat.zero_add] at this
    rw [this, List.getElem_drop]
  · rw [List.getElem_drop, List.getElem_drop]
    exact hr _ _ _

theorem Rows2.zero (B : Nat) (w : World) (a : Option Addr) (c : Nat) (hc : c ≤ 9223372036854775807) : Rows2 B w (.slice a 0 c) [] := ⟨[], ⟨a, c, rfl, Nat.zero_le _, hc, by simp⟩, rfl, by simp⟩
theorem results_four {fn : Func} {t u v x : Tmp} (h : fn.results = #[.tmp t, .tmp u, .tmp v, .tmp x]) (tmps : Array Value) (P : Program) (w : World) :
    (results fn tmps).run P w = .ok (.tuple #[tmps.getD t undef, tmps.getD u undef, tmps.getD v undef, tmps.getD x undef]) w := by
  simp [results, h]
theorem ShW.odd {w wi : World} {K : Nat} {a : Option Addr} {cap : Nat} {bs : List Int} {q : Int} {ao : Option Addr} {n co : Nat} (hK : K < w.heap.size) (h : ShW w K a cap bs q ao n co wi) (hq : q ≤ 1000000) :
    Calls Try.prog 99 #[.pointer (some ⟨K, 0, none⟩), .int .i64 9] wi fun e w' => ∃ b : Bool, e = .returned (.bool b) ∧ ShW w K a cap bs (q + 1) ao n co w' := by
  obtain ⟨xss, h1, h2, h3, h4, ⟨⟨p, h5, h6⟩, h7⟩⟩ := h
  refine (odd_any 9 _ K a cap bs p h5 (by omega) (by unfold In64; omega)).mono ?_
  rintro e w' ⟨b, rfl, ⟨p', hR, hp⟩, hg⟩
  exact ⟨b, rfl, xss, h1.keep (Above.of_grown hg hK), h2, h3, h4, ⟨p', hR, by omega⟩, grown_trans h7 hg⟩

/-- Numbers, rows in new memory, a number. -/
def SureDrawn (w : World) (K : Nat) (e : Ending) (w' : World) : Prop :=
  ∃ rows cols xss a cap long, e = .returned (.tuple #[.int .i64 rows, .int .i64 cols, .slice a xss.length cap, .int .i64 long]) ∧ Rows2 w.heap.size w' (.slice a xss.length cap) xss ∧ w.grownBy w' (some K)
theorem sure_out {w w' : World} {K : Nat} {r c l : Int} {ao : Option Addr} {n co : Nat} {xss : List (List Int)} (hl : xss.length = n) (h : Rows2 w.heap.size w' (.slice ao n co) xss) (hg : w.grownBy w' (some K)) : SureDrawn w K (.returned (.tuple #[.int .i64 r, .int .i64 c, .slice ao n co, .int .i64 l])) w' := by
  subst hl
  exact ⟨r, c, xss, ao, co, l, rfl, h, hg⟩

set_option maxHeartbeats 4000000 in
theorem shots_any (w : World) (K : Nat) (a : Option Addr) (cap : Nat) (bs : List Int) (h : Rd w K a cap bs 0) :
    Calls Try.prog 91 #[.pointer (some ⟨K, 0, none⟩), .int .i64 9] w (SureDrawn w K) := by
  have hKw := h.lt
  go_enter Try.func91, Try.ntmps91
  go_wp2_with fail
  refine (board_any _ _ _ _ _ h).mono ?_
  rintro e w1 ⟨r, c, l, rfl, hr0, hr1, hc0, hc1, hl0, hl1, hW1⟩
  clear h
  go_upto_region 2 with fail
  go_cut [11] from 15 (fun o wx => ∃ ao n co, o = .slice ao n co ∧ n ≤ 6 ∧ ShW w K a cap bs 20 ao n co wx)
  case first =>
    have hcase : l = 0 ∨ (1 ≤ l ∧ l ≤ 6) ∨ l = 7 := by omega
    rcases hcase with rfl | ⟨q1, q2⟩ | rfl
    · go_wp2_with fail
      refine (RdW.pick hW1 (by omega) (by unfold In64; omega)).mono ?_
      rintro e w2 ⟨x, rfl, hx0, hx1, hW2, _⟩
      clear hW1
      go_wp2_with fail
      refine (specDiag_any _ _ _ _ _ (by omega)).mono ?_
      rintro e w3 ⟨xss, a3, c3, rfl, ho3, h01, hl6, hl66, hb3⟩
      have hz := hW2.2.size
      have HO := Lib.hid (show ShW w K a cap bs 20 a3 xss.length c3 w3 from ⟨xss, ho3.mono hz, h01, rfl, hl66, (hW2.under hb3 hz (by omega)).later (by omega)⟩)
      clear ho3 h01 hl66 hb3 hW2
      go_wp2
      go_meet
      case rel => exact ⟨a3, xss.length, c3, rfl, hl6, HO.out⟩
    · have q3 : ¬ l < 1 := by omega
      have q4 : ¬ 6 < l := by omega
      go_wp2_with fail
      refine (RdW.pick hW1 (by omega) (by unfold In64; omega)).mono ?_
      rintro e w2 ⟨x, rfl, hx0, hx1, hW2, _⟩
      clear hW1
      go_wp2_with fail
      refine (specDiag_any _ _ _ _ _ (by omega)).mono ?_
      rintro e w3 ⟨xss, a3, c3, rfl, ho3, h01, hl6, hl66, hb3⟩
      have hz := hW2.2.size
      have HO := Lib.hid (show ShW w K a cap bs 20 a3 xss.length c3 w3 from ⟨xss, ho3.mono hz, h01, rfl, hl66, (hW2.under hb3 hz (by omega)).later (by omega)⟩)
      clear ho3 h01 hl66 hb3 hW2
      go_wp2
      go_meet
      case rel => exact ⟨a3, xss.length, c3, rfl, hl6, HO.out⟩
    · go_wp2_with fail
      refine (RdW.pick hW1 (by omega) (by unfold In64; omega)).mono ?_
      rintro e w2 ⟨x, rfl, hx0, hx1, hW2, _⟩
      clear hW1
      go_wp2_with fail
      refine (specDiag_any _ _ _ _ _ (by omega)).mono ?_
      rintro e w3 ⟨xss, a3, c3, rfl, ho3, h01, hl6, hl66, hb3⟩
      have hz := hW2.2.size
      have HO := Lib.hid (show ShW w K a cap bs 20 a3 xss.length c3 w3 from ⟨xss, ho3.mono hz, h01, rfl, hl66, (hW2.under hb3 hz (by omega)).later (by omega)⟩)
      clear ho3 h01 hl66 hb3 hW2
      go_wp2
      go_meet
      case rel => exact ⟨a3, xss.length, c3, rfl, hl6, HO.out⟩
  case rest =>
    obtain ⟨ao, n, co, rfl, hn6, hS⟩ := hcut
    clear hW1
    go_wp2_with fail
    refine (ShW.pick hKw hS (by omega) (by unfold In64; omega)).mono ?_
    rintro e w2 ⟨y, rfl, hy0, hy1, hS2, _⟩
    have hy1 := hy1 (by omega)
    clear hS
    go_upto_if 33 with fail
    go_cut [12, 13] from 15 (fun s12 s13 wx => ShW w K a cap bs 200 ao n co wx)
    case first =>
      by_cases hyz : y = 0
      · have hy2 : (y == 0) = true := by rw [hyz]; rfl
        rw [hy2]
        clear hyz hy2
        have hS3 := hS2.later (q' := 30) (by omega)
        have HS3 := Lib.hid hS3
        clear hS2 hS3
        go_wp2
        go_loopw [12] (fun i wi => ∃ k : Nat, k ≤ n ∧ i = .int .i64 k ∧ ShW w K a cap bs (30 + 10 * (k : Int)) ao n co wi) (fun i _ => n - (intOf i).toNat)
        case atStart => exact ⟨0, Nat.zero_le _, rfl, HS3.out⟩
        case round =>
          obtain ⟨k, hk, rfl, hSk⟩ := hrel
          by_cases hlt : k < n
          · obtain ⟨g, _, _, _, rfl, hgB, hnc, hcm, _⟩ := hSk.row hlt
            have HSk := Lib.hid hSk
            obtain ⟨wo, hwo⟩ : ∃ wo, wo = wr := ⟨_, rfl⟩
            rw [← hwo] at HSk ⊢
            clear hSk hwo
            go_wp2
            go_loopw [13] (fun i wi => ∃ t : Nat, t ≤ 6 ∧ i = .int .i64 t ∧ ShW w K a cap bs (30 + 10 * (k : Int) + (t : Int)) (some ⟨g, 0, none⟩) n co wi) (fun i _ => 7 - (intOf i).toNat)
            case atStart => exact ⟨0, by omega, rfl, HSk.out.later (by omega)⟩
            case round =>
              obtain ⟨t, ht, rfl, hSt⟩ := hrel
              obtain ⟨g1, au, m, cu, hg1, _, _, _, hck, hfk, hm6⟩ := hSt.row hlt
              injection hg1 with hg1
              injection hg1 with hg1
              subst hg1
              have i0 : (0 : Int) ≤ (k : Int) := by omega
              have i1 : (k : Int) < (n : Int) := by omega
              by_cases htm : t < m
              · have hP := ShW.pick (m := 5) hKw hSt (by omega) (by unfold In64; omega)
                have htm2 : (t : Int) < (m : Int) := by omega
                clear hSt
                go_wp2_with fail
                refine hP.mono ?_
                rintro e w5 ⟨z, rfl, hz0, hz1, hS5, hg5⟩
                have hck2 := hg5.cell hck (show some g ≠ some K from fun e => by injection e; omega)
                clear hP hck hfk hg5
                by_cases hz : z = 0
                · have hz2 : (z == 0) = true := by rw [hz]; rfl
                  clear hz
                  · obtain ⟨g3, x3, rfl, hx1, hx2, hx3, hx4, hx5, hx6⟩ := hS5.drew.elem hKw hlt (show w5.drew.cell? ⟨g, k, none⟩ = _ from hck2) htm
                    have HS6 := Lib.hid hx6
                    have j0 : (0 : Int) ≤ (t : Int) := by omega
                    clear hS5 hx6
                    go_wp2
                    go_region_with (fail)
                    all_goals
                      go_wp2
                      go_roundw
                      case rel => exact ⟨t + 1, by omega, by go_num, HS6.out.later (by omega)⟩
                      case measure => simp [intOf]; omega
                · have hz2 : (z == 0) = false := by rw [beq_eq_false_iff_ne]; exact hz
                  have HS5 := Lib.hid hS5
                  clear hS5 hz
                  go_wp2
                  go_roundw
                  case rel => exact ⟨t + 1, by omega, by go_num, HS5.out.later (by omega)⟩
                  case measure => simp [intOf]; omega
              · have htm2 : ¬ (t : Int) < (m : Int) := by omega
                have HSt := Lib.hid hSt
                clear hSt
                go_wp2
                go_roundw
                case rel => exact ⟨k + 1, by omega, by go_num, HSt.out.later (by omega)⟩
                case measure => simp [intOf]; omega
          · have HSk := Lib.hid hSk
            have hge : ¬ (k : Int) < (n : Int) := by omega
            clear hSk
            go_wp2
            go_meet
            case rel => exact HSk.out.later (by omega)
      · have hy2 : (y == 0) = false := by rw [beq_eq_false_iff_ne]; exact hyz
        have HS2 := Lib.hid hS2
        clear hS2 hyz
        go_wp2
        go_meet
        case rel => exact HS2.out.later (by omega)
    case rest =>
      have hO := ShW.odd hKw hcut (by omega)
      clear hS2
      go_wp2_with fail
      refine hO.mono ?_
      rintro e w5 ⟨b, rfl, hS5⟩
      clear hO hcut
      cases b
      · have HS5 := Lib.hid hS5
        clear hS5
        go_wp2
        ((try simp only [Exit.inBlock, Exit.then]); refine bodyPost_ret (results_four rfl _ _ _) rfl ?_)
        obtain ⟨xss, e1, e2, e3⟩ := HS5.out.rows
        exact sure_out e1 e2 e3
      · by_cases hn0 : n = 0
        · have hn1 : ¬ (0 : Int) < (n : Int) := by omega
          have HS5 := Lib.hid hS5
          clear hS5
          go_wp2
          ((try simp only [Exit.inBlock, Exit.then]); refine bodyPost_ret (results_four rfl _ _ _) rfl ?_)
          obtain ⟨xss, e1, e2, e3⟩ := HS5.out.rows
          rw [hn0] at e1 e2
          exact sure_out e1 e2 e3
        · have hn1 : (0 : Int) < (n : Int) := by omega
          have hP := ShW.pick (m := 2) hKw hS5 (by omega) (by unfold In64; omega)
          clear hS5
          go_wp2_with fail
          refine hP.mono ?_
          rintro e w6 ⟨z, rfl, hz0, hz1, hS6, _⟩
          clear hP
          obtain ⟨g, au, m, cu, rfl, hgB, hnc, hcm, hck, hfk, hm6⟩ := hS6.row (i := 0) (by omega)
          by_cases hz : z = 0
          · have hz2 : (z == 0) = true := by rw [hz]; rfl
            have i1 : (0 : Int) < (n : Int) := by omega
            have hb6 : Below w6.heap.size w6 (w6.alloc (.cells #[] 3)) := (Below.refl _ _).alloc (Nat.le_refl _) _
            have hck2 := (Above.of_below (B := 0) hb6).cell (Nat.zero_le _) hck
            have hfk2 : (w6.alloc (.cells #[] 3)).frozen? ⟨g, 0, none⟩ = false := by
              rw [World.frozen?_of_block (w := w6) (hb6.block g (block_lt_of_cell hck))]
              exact hfk
            have HS6 := Lib.hid hS6
            have HB6 := Lib.hid hb6
            clear hS6 hz hck hfk hb6
            go_wp2
            ((try simp only [Exit.inBlock, Exit.then]); refine bodyPost_ret (results_four rfl _ _ _) rfl ?_)
            obtain ⟨xss, f1, f2, f3, f4, f5⟩ := HS6.out
            have hz6 := f5.2.size
            have hset := f1.setFresh HB6.out hz6 0 (OwnI.lit w6)
            refine sure_out (xss := xss.set 0 []) (by simpa using f3) (hset.rows (fun xs hx x hx2 => ?_)) ?_
            · rcases List.mem_or_eq_of_mem_set hx with hx | hx
              · have := f2 xs hx x hx2; unfold In64; omega
              · rw [hx] at hx2; cases hx2
            · exact ((f5.alloc (.cells #[] 3)).setCell hKw ⟨g, 0, none⟩ hgB _).2
          · have hz2 : (z == 0) = false := by rw [beq_eq_false_iff_ne]; exact hz
            have i1 : (1 : Int) ≤ (n : Int) := by omega
            have i2 : (n : Int) ≤ (co : Int) := by omega
            have HS6 := Lib.hid hS6
            clear hS6 hz
            go_wp2
            all_goals
              ((try simp only [Exit.inBlock, Exit.then]); refine bodyPost_ret (results_four rfl _ _ _) rfl ?_)
              obtain ⟨xss, e1, e2, e3⟩ := HS6.out.rows
              have h9 := Rows2.drop1 e2 (by omega)
              first
                | exact sure_out (xss := xss.drop 1) (by simp; omega) h9 e3
                | (have hz9 : n - 1 = 0 := by omega
                   exact sure_out (xss := []) (by rw [hz9]; rfl) (by rw [hz9]; exact Rows2.zero _ _ _ _ (by omega)) e3)

theorem below_of_grownS {w w1 w2 : World} {K : Nat} (h1 : Below w.heap.size w w1) (h2 : w1.grownBy w2 (some K)) (hK : w.heap.size ≤ K) : Below w.heap.size w w2 :=
  h1.trans ⟨h2.os, h2.tape, h2.output, by have := h1.size; have := h2.size; omega, fun b hb => h2.block b (by have := h1.size; omega) (by simp; omega)⟩
/-- What DrawSureHit gives. -/
def SureOut (w : World) (e : Ending) (w' : World) : Prop :=
  ∃ rows cols xss a cap long, e = .returned (.tuple #[.int .i64 rows, .int .i64 cols, .slice a xss.length cap, .int .i64 long]) ∧ Rows2 w.heap.size w' (.slice a xss.length cap) xss ∧ Below w.heap.size w w'
theorem drawSureHit_any {B : Nat} (v : Value) (bs : List Int) (w : World) (h : Bytes B w v bs) :
    Calls Try.prog 49 #[v] w (SureOut w) := by
  go_enter Try.func49, Try.ntmps49
  go_wp2_with fail
  refine (open_any _ _ _ h).mono ?_
  rintro e w1 ⟨a, cap, cs, rfl, hR, hb⟩
  have hs1 := hR.lt
  go_wp2_with fail
  refine (shots_any _ _ _ _ _ hR).mono ?_
  rintro e w2 ⟨rows, cols, xss, a', cap', long, rfl, hrows, hg⟩
  have HO := Lib.hid (hrows.mono (B' := w.heap.size) (by omega))
  have HG := Lib.hid (below_of_grownS hb hg (by omega))
  clear hrows hg hb hR
  go_wp2
  ((try simp only [Exit.inBlock, Exit.then]); refine bodyPost_ret (results_four rfl _ _ _) rfl ?_)
  exact ⟨rows, cols, xss, a', cap', long, rfl, HO.out, HG.out⟩

end Go.Proofs.Ytpeogghiboaceaa
