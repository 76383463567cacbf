/- The drawn rows of boxes: which ones is never asked; that they are read, are few, and lie in new memory. -/
import Derived.Test.YtoddomhpdeoeeaaDrawTable
import Derived.Test.YtoddomhpdeoeeaaInRing
import Derived.Deep.Cut
import Derived.Deep.CutBlock
namespace Go.Proofs.Ytoddomhpdeoeeaa
open Go.RowKit
set_option linter.unusedVariables false

theorem grown_under {w w1 w2 : World} {K B : Nat} (h : w.grownBy w1 (some K)) (hb : Below B w1 w2) (hB : w.heap.size ≤ B) : w.grownBy w2 (some K) :=
  ⟨hb.os.trans h.os, hb.tape.trans h.tape, hb.output.trans h.output, by have := hb.size; have := h.size; omega, fun b hbl hne => (hb.block b (by omega)).trans (h.block b hbl hne)⟩
theorem Rd.under {w w' : World} {K B : Nat} {a : Option Addr} {cap : Nat} {bs : List Int} {p : Int} (h : Rd w K a cap bs p) (hb : Below B w w') (hK : K < B) : Rd w' K a cap bs p :=
  h.keep fun b hbk => hb.block b (by omega)

/-- Square rows of numbers. -/
def Sq (n : Nat) (xss : List (List Int)) : Prop := xss.length = n ∧ ∀ xs ∈ xss, (∀ x ∈ xs, In64 x) ∧ xs.length = n
/-- The call's own square rows lie at block g; the reader stands at q at most. -/
def SqW (w : World) (K : Nat) (a : Option Addr) (cap : Nat) (bs : List Int) (q : Int) (g n co : Nat) (wi : World) : Prop :=
  ∃ xss, OwnII w.heap.size wi (.slice (some ⟨g, 0, none⟩) n co) xss ∧ Sq n xss ∧ (∃ p', Rd wi K a cap bs p' ∧ p' ≤ q) ∧ w.grownBy wi (some K)

theorem SqW.elem {w wi : World} {K : Nat} {a : Option Addr} {cap : Nat} {bs : List Int} {q : Int} {g n co : Nat} (hK : K < w.heap.size) (h : SqW w K a cap bs q g n co wi) {i j : Nat} (hi : i < n) (hj : j < n) :
    ∃ g' cap' x, wi.cell? ⟨g, i, none⟩ = some (.slice (some ⟨g', 0, none⟩) n cap') ∧ n ≤ cap' ∧ cap' ≤ 9223372036854775807 ∧ wi.cell? ⟨g', j, none⟩ = some (.int .i64 x) ∧ wi.frozen? ⟨g', j, none⟩ = false ∧
      SqW w K a cap bs q g n co (wi.setCell ⟨g', j, none⟩ (.int .i64 1)) := by
  obtain ⟨xss, ho, ⟨hl, hs⟩, ⟨p', hR, hp⟩, hg⟩ := h
  have hrow := hs xss[i] (List.getElem_mem (by omega))
  obtain ⟨g', cap', h1, h2, h3, h4, h5, h6, h7⟩ := ho.elem i (by omega) (by omega)
  rw [hrow.2] at h1 h3
  refine ⟨g', cap', _, h1, h3, h4, h5 j (by omega), h6 j, ⟨_, h7 j 1, ⟨by simpa using hl, fun xs hx => ?_⟩, ⟨p', ?_, hp⟩, ?_⟩⟩
  · rcases List.mem_or_eq_of_mem_set hx with hx | hx
    · exact hs xs hx
    · rw [hx]
      refine ⟨fun y hy => ?_, by rw [List.length_set]; exact hrow.2⟩
      rcases List.mem_or_eq_of_mem_set hy with hy | hy
      · exact hrow.1 y hy
      · rw [hy]; unfold In64; omega
  · exact (chain_step hK ⟨hg, hR⟩ (grownBy_setCell wi ⟨g', j, none⟩ (.int .i64 1)) (fun k hk => by cases hk; exact h2)).2
  · exact (chain_step hK ⟨hg, hR⟩ (grownBy_setCell wi ⟨g', j, none⟩ (.int .i64 1)) (fun k hk => by cases hk; exact h2)).1

theorem SqW.pick {w wi : World} {K : Nat} {a : Option Addr} {cap : Nat} {bs : List Int} {q : Int} {g n co : Nat} (hK : K < w.heap.size) (h : SqW w K a cap bs q g n co wi) :
    ∃ p', Rd wi K a cap bs p' ∧ p' ≤ q ∧ ∀ w2, Drew K a cap bs p' 1 wi w2 → SqW w K a cap bs (q + 1) g n co w2 := by
  obtain ⟨xss, ho, hs, ⟨p', hR, hp⟩, hg⟩ := h
  refine ⟨p', hR, hp, fun w2 ⟨⟨p2, hR2, hp2⟩, hg2⟩ => ⟨xss, ho.keep (Above.of_grown hg2 hK), hs, ⟨p2, hR2, by omega⟩, grown_trans hg hg2⟩⟩
theorem SqW.later {w wi : World} {K : Nat} {a : Option Addr} {cap : Nat} {bs : List Int} {q q' : Int} {g n co : Nat} (h : SqW w K a cap bs q g n co wi) (hq : q ≤ q') : SqW w K a cap bs q' g n co wi := by
  obtain ⟨xss, ho, hs, ⟨p', hR, hp⟩, hg⟩ := h
  exact ⟨xss, ho, hs, ⟨p', hR, by omega⟩, hg⟩

/-- What stands behind the switch. -/
def SqRel (w : World) (K : Nat) (a : Option Addr) (cap : Nat) (bs : List Int) (q : Int) (o : Value) (wx : World) : Prop :=
  ∃ g n co, o = .slice (some ⟨g, 0, none⟩) n co ∧ w.heap.size ≤ g ∧ 1 ≤ n ∧ n ≤ 6 ∧ SqW w K a cap bs q g n co wx
/-- So many rows of noughts. -/
def RepW (w : World) (K : Nat) (a : Option Addr) (cap : Nat) (bs : List Int) (p : Int) (m k : Nat) (ao : Option Addr) (co : Nat) (wi : World) : Prop :=
  OwnII w.heap.size wi (.slice ao k co) (List.replicate k (List.replicate m 0)) ∧ Rd wi K a cap bs p ∧ w.grownBy wi (some K)

theorem sq_line (n : Nat) (ring : Bool) : Sq n (lineR n ring) := by
  refine ⟨lineR_length n ring, fun xs hx => ?_⟩
  obtain ⟨i, hi, rfl⟩ := List.getElem_of_mem hx
  rw [lineR_get]
  refine ⟨fun x hx => ?_, rowR_length _ _ _⟩
  obtain ⟨k, hk, rfl⟩ := List.getElem_of_mem hx
  rw [rowR_get]
  unfold adjI In64
  split <;> omega

/-- What a drawing of rows of boxes leaves. -/
def BesideDrawn (K : Nat) (a : Option Addr) (cap : Nat) (bs : List Int) (p n : Int) (w : World) (e : Ending) (w' : World) : Prop :=
  ∃ xss a' cap', e = .returned (.slice a' xss.length cap') ∧ Rows2 w.heap.size w' (.slice a' xss.length cap') xss ∧ xss.length ≤ 6 ∧ (∀ xs ∈ xss, xs.length ≤ 7) ∧ Drew K a cap bs p n w w'

theorem SqW.drawn {w wi : World} {K : Nat} {a : Option Addr} {cap : Nat} {bs : List Int} {p q : Int} {g n co : Nat} (h : SqW w K a cap bs q g n co wi) (hn : n ≤ 6) (hq : q ≤ p + 100) :
    BesideDrawn K a cap bs p 100 w (.returned (.slice (some ⟨g, 0, none⟩) n co)) wi := by
  obtain ⟨xss, ho, ⟨hl, hs⟩, ⟨p', hR, hp⟩, hg⟩ := h
  refine ⟨xss, some ⟨g, 0, none⟩, co, by rw [hl], by rw [hl]; exact ho.rows (fun xs hx => (hs xs hx).1), by omega, fun xs hx => by have := (hs xs hx).2; omega, ⟨p', hR, by omega⟩, hg⟩

set_option maxRecDepth 100000 in
set_option maxHeartbeats 4000000 in
theorem beside_any (N : Int) (w : World) (K : Nat) (a : Option Addr) (cap : Nat) (bs : List Int) (p : Int) (h : Rd w K a cap bs p) (hp : p ≤ 100000000000) (hN : In64 N) :
    Calls Try.prog 53 #[.pointer (some ⟨K, 0, none⟩), .int .i64 N] w (BesideDrawn K a cap bs p 100 w) := by
  have hKw := h.lt
  have hp0 := h.p0
  go_enter Try.func53, Try.ntmps53
  go_wp2_with fail
  refine (pick_any 6 _ K a cap bs p h (by omega) (by unfold In64; omega)).mono ?_
  rintro e w1 ⟨t, rfl, ht0, ht1, ⟨p1, hR1, hp1⟩, hg1⟩
  have ht1 := ht1 (by omega)
  obtain ⟨m, rfl⟩ := Int.eq_ofNat_of_zero_le ht0
  have hz1 := hg1.size
  have hKw1 : K < w1.heap.size := by omega
  have hlit := (OwnII.lit w1).mono hz1
  have hR1a : Rd (w1.alloc (.cells #[] 23)) K a cap bs p1 := hR1.below ((Below.refl _ _).alloc (Nat.le_refl _) _)
  have hg1a : w.grownBy (w1.alloc (.cells #[] 23)) (some K) := hg1.andThen (World.grownBy_alloc w1 _ none) (fun _ e => by cases e)
  clear h hR1 hg1
  go_wp2_with fail
  refine (pick_any 4 _ K a cap bs p1 hR1a (by omega) (by unfold In64; omega)).mono ?_
  rintro e w2 ⟨s, rfl, hs0, hs1, ⟨p2, hR2, hp2⟩, hg2⟩
  have hs1 := hs1 (by omega)
  have hg02 := grown_trans hg1a hg2
  have hz2 := hg02.size
  have hown2 := hlit.keep (Above.of_grown hg2 hKw)
  clear hR1a hg1a hg2 hlit
  have HG := Lib.hid hg02
  have HO := Lib.hid hown2
  clear hg02 hown2
  obtain ⟨g1, hg1⟩ : ∃ g1, g1 = w1.heap.size := ⟨_, rfl⟩
  rw [← hg1] at HO ⊢
  clear hg1
  go_upto_block 0 with fail
  go_cut [6] from 10 (fun o wx => SqRel w K a cap bs (p + 20) o wx)
  case first =>
    have hcase : s = 0 ∨ s = 1 ∨ 2 ≤ s := by omega
    rcases hcase with rfl | rfl | hs
    · have hE : inRowR (1 + (m : Int)) = lineR (m + 1) false := by unfold inRowR; rw [if_pos (by omega), show (1 + (m : Int)).toNat = m + 1 by omega]
      have hS := specInRow_any (1 + (m : Int)) w2
      rw [hE] at hS
      clear hE
      go_wp2_with fail
      refine hS.mono ?_
      rintro e w3 ⟨a3, c3, rfl, ho3, hb3⟩
      rw [lineR_length] at ho3 ⊢
      obtain ⟨g, rfl, hB⟩ := ho3.head (by simp)
      have HO3 := Lib.hid ho3
      have HB3 := Lib.hid hb3
      clear ho3 hb3
      go_wp2
      go_meet
      case rel => exact ⟨g, m + 1, c3, rfl, by omega, by omega, by omega, ⟨_, HO3.out.mono hz2, sq_line _ _, ⟨p2, hR2.under HB3.out (by omega), by omega⟩, grown_under HG.out HB3.out hz2⟩⟩
    · go_wp2_with fail
      refine (pick_any 4 _ K a cap bs p2 hR2 (by omega) (by unfold In64; omega)).mono ?_
      rintro e w3 ⟨q, rfl, hq0, hq1, ⟨p3, hR3, hp3⟩, hg3⟩
      have hq1 := hq1 (by omega)
      obtain ⟨q, rfl⟩ := Int.eq_ofNat_of_zero_le hq0
      have HG3 := Lib.hid (grown_trans HG.out hg3)
      have hz3 := (grown_trans HG.out hg3).size
      have hE : inRingR (3 + (q : Int)) = lineR (q + 3) true := by unfold inRingR; rw [if_pos (by omega), show (3 + (q : Int)).toNat = q + 3 by omega]
      have hS := specInRing_any (3 + (q : Int)) w3
      rw [hE] at hS
      clear hE hg3 hR2
      go_wp2_with fail
      refine hS.mono ?_
      rintro e w4 ⟨a4, c4, rfl, ho4, hb4⟩
      rw [lineR_length] at ho4 ⊢
      obtain ⟨g, rfl, hB⟩ := ho4.head (by simp)
      have HO4 := Lib.hid ho4
      have HB4 := Lib.hid hb4
      clear ho4 hb4
      go_wp2
      go_meet
      case rel => exact ⟨g, q + 3, c4, rfl, by omega, by omega, by omega, ⟨_, HO4.out.mono hz3, sq_line _ _, ⟨p3, hR3.under HB4.out (by omega), by omega⟩, grown_under HG3.out HB4.out hz3⟩⟩
    · have hs3 : (s == 0) = false := by rw [beq_eq_false_iff_ne]; omega
      have hs4 : (s == 1) = false := by rw [beq_eq_false_iff_ne]; omega
      have hrep : RepW w K a cap bs p2 (m + 1) 0 (some ⟨g1, 0, none⟩) 0 w2 := ⟨HO.out, hR2, HG.out⟩
      clear hR2 HO HG
      go_wp2
      go_loopw [6, 7] (fun o c wi => ∃ (k : Nat) (ao : Option Addr) (co : Nat), k ≤ m + 1 ∧ c = .int .i64 k ∧ o = .slice ao k co ∧ RepW w K a cap bs p2 (m + 1) k ao co wi) (fun _ c _ => m + 1 - (intOf c).toNat)
      case atStart => exact ⟨0, _, 0, by omega, rfl, rfl, hrep⟩
      case round =>
        obtain ⟨k, ao, co, hk, rfl, rfl, ho, hR, hg⟩ := hrel
        clear hrep
        have HO1 := Lib.hid ho
        have HG1 := Lib.hid hg
        have HR1 := Lib.hid hR
        have hzr := hg.size
        clear ho hg hR
        by_cases hlt : (k : Int) < 1 + (m : Int)
        · go_wp2_with (first
            | (at_make; refine wpList_make_ints _ rfl _ _ rfl _ _ (m + 1) rfl rfl (by omega) (by omega) (by omega) ?_; intro w5 hr5 hb5 hs5; have HR5 := Lib.hid hr5; have HB5 := Lib.hid hb5; clear hr5 hb5)
            | (at_builtin; refine wpList_push_new wr _ rfl (.tmp 21) (.tmp 24) rfl w.heap.size (.slice ao k co) (List.replicate k (List.replicate (m + 1) 0)) rfl HO1.out HB5.out w5.heap.size rfl (.slice (some ⟨wr.heap.size, 0, none⟩) (m + 1) (m + 1)) _ rfl HR5.out (by simp; omega) hzr ?_; intro a' cap' w6 ho6 hb6; rw [List.length_replicate] at ho6 ⊢; have HO6 := Lib.hid ho6; have HB6 := Lib.hid hb6; clear ho6 hb6))
          go_roundw
          case rel => exact ⟨k + 1, a', cap', by omega, by go_num, rfl, by rw [List.replicate_succ']; exact HO6.out, HR1.out.under HB6.out hKw, grown_under HG1.out HB6.out (Nat.le_refl _)⟩
          case measure => simp [intOf]; omega
        · have hkm : k = m + 1 := by omega
          subst hkm
          obtain ⟨g, rfl, hgB⟩ := HO1.out.head (by simp)
          have hsq : SqW w K a cap bs (p + 2 + 2 * ((1 : Nat) : Int)) g (m + 1) co wr := ⟨_, HO1.out, ⟨by simp, fun xs hx => by
            rw [List.eq_of_mem_replicate hx]
            exact ⟨fun x hx => by rw [List.eq_of_mem_replicate hx]; unfold In64; omega, by simp⟩⟩, ⟨p2, HR1.out, by omega⟩, HG1.out⟩
          clear HO1 HG1 HR1
          go_wp2
          obtain ⟨wo, hwo⟩ : ∃ wo : World, wo = wr := ⟨_, rfl⟩
          rw [← hwo] at hsq ⊢
          clear hwo hzr
          go_loopw [8] (fun c wi => ∃ k : Nat, 1 ≤ k ∧ k ≤ m + 1 ∧ c = .int .i64 k ∧ SqW w K a cap bs (p + 2 + 2 * (k : Int)) g (m + 1) co wi) (fun c _ => m + 1 - (intOf c).toNat)
          case atStart => exact ⟨1, by omega, by omega, rfl, hsq⟩
          case round =>
            obtain ⟨k, hk1, hk, rfl, hsk⟩ := hrel
            clear hsq
            by_cases hlt : (k : Int) < 1 + (m : Int)
            · obtain ⟨p4, hR4, hp4, hnext⟩ := hsk.pick hKw
              have HN4 := Lib.hid hnext
              clear hsk hnext
              go_wp2_with fail
              refine (pick_any (k : Int) _ K a cap bs p4 hR4 (by omega) (by unfold In64; omega)).mono ?_
              rintro e w5 ⟨j, rfl, hj0, hj1, hD⟩
              have hj1 := hj1 (by omega)
              have h5 := HN4.out _ hD
              clear HN4 hD hR4
              obtain ⟨j, rfl⟩ := Int.eq_ofNat_of_zero_le hj0
              obtain ⟨g6, c6, x6, e1, e2, e3, e4, e5, h6⟩ := h5.elem hKw (i := k) (j := j) (by omega) (by omega)
              obtain ⟨g7, c7, x7, f1, f2, f3, f4, f5, h7⟩ := h6.elem hKw (i := j) (j := k) (by omega) (by omega)
              obtain ⟨p8, hR8, hp8, hnext⟩ := h7.pick hKw
              have HN8 := Lib.hid hnext
              have HR8 := Lib.hid hR8
              have hi1 : (j : Int) < (m : Int) + 1 := by omega
              have hi2 : (k : Int) < (m : Int) + 1 := by omega
              clear h5 h6 h7 hnext hR8
              go_wp2_with fail
              refine (pick_any 5 _ K a cap bs p8 HR8.out (by omega) (by unfold In64; omega)).mono ?_
              rintro e w9 ⟨s9, rfl, hs90, _, hD9⟩
              have h9 := HN8.out _ hD9
              clear HN8 hD9 HR8 e1 e2 e3 e4 e5 f1 f2 f3 f4 f5
              by_cases hs9 : s9 = 0
              · subst hs9
                obtain ⟨g6, c6, x6, e1, e2, e3, e4, e5, h6⟩ := h9.elem hKw (i := k) (j := 0) (by omega) (by omega)
                obtain ⟨g7, c7, x7, f1, f2, f3, f4, f5, h7⟩ := h6.elem hKw (i := 0) (j := k) (by omega) (by omega)
                have H7 := Lib.hid h7
                clear h9 h6 h7
                go_wp2
                go_roundw
                case rel => exact ⟨k + 1, by omega, by omega, by go_num, H7.out.later (by omega)⟩
                case measure => simp [intOf]; omega
              · have hs10 : (s9 == 0) = false := by rw [beq_eq_false_iff_ne]; exact hs9
                have H9 := Lib.hid h9
                clear h9 hs9
                go_wp2
                go_roundw
                case rel => exact ⟨k + 1, by omega, by omega, by go_num, H9.out.later (by omega)⟩
                case measure => simp [intOf]; omega
            · have HS := Lib.hid hsk
              clear hsk
              go_wp2
              go_meet
              case rel => exact ⟨g, m + 1, co, rfl, hgB, by omega, by omega, HS.out.later (by omega)⟩
  case rest =>
    obtain ⟨g, n, co, rfl, hgB, hn1, hn6, hsq⟩ := hcut
    obtain ⟨p3, hR3, hp3, hnext⟩ := hsq.pick hKw
    have HN3 := Lib.hid hnext
    clear hsq hnext hR2 HO HG
    go_wp2_with fail
    refine (odd_any N _ K a cap bs p3 hR3 (by omega) hN).mono ?_
    rintro e w4 ⟨b, rfl, hD4⟩
    have h4 := HN3.out _ hD4
    clear HN3 hD4 hR3
    cases b
    · have HD := Lib.hid (h4.drawn hn6 (show p + 20 + 1 ≤ p + 100 by omega))
      clear h4
      go_wp2
      go_ret
      exact HD.out
    · obtain ⟨p5, hR5, hp5, hnext⟩ := h4.pick hKw
      have HN5 := Lib.hid hnext
      clear h4 hnext
      go_wp2_with fail
      refine (pick_any 3 _ K a cap bs p5 hR5 (by omega) (by unfold In64; omega)).mono ?_
      rintro e w6 ⟨r, rfl, hr0, hr1, hD6⟩
      have hr1 := hr1 (by omega)
      have h6 := HN5.out _ hD6
      clear HN5 hD6 hR5
      have hcase : r = 0 ∨ r = 1 ∨ r = 2 := by omega
      rcases hcase with rfl | rfl | rfl
      · obtain ⟨xss, ho6, _, ⟨p6, hR6, hp6⟩, hg6⟩ := h6
        have hz6 := hg6.size
        have HF := Lib.hid ((((OwnII.lit w6).mono hz6)).rows (by simp))
        have HD := Lib.hid (show Drew K a cap bs p 100 w (w6.alloc (.cells #[] 23)) from ⟨⟨p6, hR6.below ((Below.refl _ _).alloc (Nat.le_refl _) _), by omega⟩, hg6.andThen (World.grownBy_alloc w6 _ none) (fun _ e => by cases e)⟩)
        clear ho6 hR6 hg6
        go_wp2
        go_ret
        exact ⟨[], _, 0, rfl, HF.out, by simp, by simp, HD.out⟩
      · obtain ⟨g7, c7, x7, e1, e2, e3, e4, e5, h7⟩ := h6.elem hKw (i := 0) (j := 0) (by omega) (by omega)
        have HD := Lib.hid (h7.drawn hn6 (show p + 20 + 1 + 1 ≤ p + 100 by omega))
        clear h6 h7
        go_wp2
        go_ret
        exact HD.out
      · obtain ⟨xss, ho6, ⟨hl6, hs6⟩, ⟨p6, hR6, hp6⟩, hg6⟩ := h6
        have hz6 := hg6.size
        have hk0 : 0 < xss.length := by omega
        obtain ⟨⟨u, hcu, hou⟩, hfu⟩ := ho6.at 0 hk0
        obtain ⟨au, cu, rfl, hu1, hu2⟩ := own_shape hou
        unfold maxLen at hu2
        have hou6 : OwnI w.heap.size (w6.alloc (.cells #[.int .i64 0] 3)) (.slice au (xss[0]'hk0).length cu) (xss[0]'hk0) := World.ownsRow.alloc hou _
        have hin0 := hs6 _ (List.getElem_mem hk0)
        have hl60 : (xss[0]'hk0).length ≤ 6 := by have := hin0.2; omega
        have hblk := World.ownsRow.lt hou
        have HL := Lib.hid hl6
        have HS := Lib.hid hs6
        have HC6 := Lib.hid (show w.grownBy w6 (some K) ∧ Rd w6 K a cap bs p6 from ⟨hg6, hR6⟩)
        have HI0 := Lib.hid hin0
        clear hg6 hR6 hin0 hl6 hs6
        go_wp2_with (first
          | (at_builtin; refine wpList_push_int _ rfl (.tmp 77) (.tmp 78) rfl w.heap.size (.slice au (xss[0]'hk0).length cu) (xss[0]'hk0) rfl hou6 ⟨w6.heap.size, 0, none⟩ 1 0 rfl (by simp) (by omega) (by simp; omega) ?_; intro a7 c7v w7 ho7 hg7; obtain ⟨hcg, hfg, hga⟩ := ho6.outer hk0 hcu hg7; have HO7 := Lib.hid ho7; have HGA := Lib.hid hga; have hz7 := hga.size; clear ho7 hg7 hga))
        have c7 := chain_step hKw HC6.out HGA.out (fun j hj => (hblk j hj).1)
        have c8 := chain_step hKw c7 (grownBy_setCell w7 ⟨g, 0, none⟩ (.slice a7 ((xss[0]'hk0).length + 1) c7v)) (fun j hj => by cases hj; exact hgB)
        have hW := ho6.regrown hk0 hcu HGA.out HO7.out
        have hlen : ∀ xs ∈ xss.set 0 (xss[0]'hk0 ++ [0]), (∀ x ∈ xs, In64 x) ∧ xs.length ≤ 7 := fun xs hx => by
          rcases List.mem_or_eq_of_mem_set hx with h | h
          · have := HS.out xs h
            exact ⟨this.1, by omega⟩
          · rw [h]
            refine ⟨fun y hy => ?_, by simp; omega⟩
            rcases List.mem_append.1 hy with h2 | h2
            · exact HI0.out.1 y h2
            · simp at h2; rw [h2]; unfold In64; omega
        have hfin := hW.rows (fun xs hx => (hlen xs hx).1)
        have HFin := Lib.hid hfin
        have HLen := Lib.hid hlen
        have HC8 := Lib.hid c8
        clear c7 c8 hW hfin hlen
        go_ret
        refine ⟨xss.set 0 (xss[0]'hk0 ++ [0]), some ⟨g, 0, none⟩, co, ?_, ?_, by rw [List.length_set, HL.out]; exact hn6, fun xs hx => (HLen.out xs hx).2, ⟨p6, HC8.out.2, by omega⟩, HC8.out.1⟩
        · refine congrArg (fun m => Ending.returned (.slice (some ⟨g, 0, none⟩) m co)) (by rw [List.length_set, HL.out])
        · rw [List.length_set, HL.out]; exact HFin.out

end Go.Proofs.Ytoddomhpdeoeeaa
