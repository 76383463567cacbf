/- needed: the recursion with its map of known lots. -/
import Derived.Test.YtpeogghiboaceaaLots
import Derived.Laws.Rows
namespace Go.Proofs.Ytpeogghiboaceaa
open Go.RowKit
set_option linter.unusedVariables false
set_option maxRecDepth 100000

theorem cntN_up {f : Nat → Bool} {n : Nat} : ∀ m, n ≤ m → (∀ k, n ≤ k → f k = false) → cntN f m = cntN f n := by
  intro m
  induction m with
  | zero => intro h _; have : n = 0 := by omega
            subst this; rfl
  | succ m ih =>
    intro h hf
    by_cases e : n = m + 1
    · subst e; rfl
    · rw [cntN, ih (by omega) hf, hf m (by omega)]; simp
theorem bitN_high {L n k : Nat} (h : L < 2 ^ n) (hk : n ≤ k) : bitN L k = false := by
  have : 2 ^ n ≤ 2 ^ k := Nat.pow_le_pow_right (by omega) hk
  unfold bitN
  rw [Nat.div_eq_of_lt (by omega)]; rfl
theorem one_bit : ∀ L, L < 128 → ((L &&& (L - 1) = 0) ↔ cntN (bitN L) 7 ≤ 1) := by decide +kernel
theorem many_seven {xss : List (List Int)} {L : Nat} (hn : xss.length ≤ 7) (hL : L < 2 ^ xss.length) : many xss L = cntN (bitN L) 7 :=
  (cntN_up 7 hn fun k hk => bitN_high hL hk).symm
theorem lot_128 {xss : List (List Int)} {L : Nat} (hn : xss.length ≤ 7) (hL : L < 2 ^ xss.length) : L < 128 :=
  Nat.lt_of_lt_of_le hL (Nat.pow_le_pow_right (by omega) hn)
theorem and_less {xss : List (List Int)} {L : Nat} (hn : xss.length ≤ 7) (hL : L < 2 ^ xss.length) : (bits .and .i64 (L : Int) ((L : Int) - 1) == 0) = decide (many xss L ≤ 1) := by
  have h7 := lot_128 hn hL
  rw [many_seven hn hL]
  by_cases h0 : L = 0
  · subst h0; decide +kernel
  · have e : ((L : Int) - 1) = ((L - 1 : Nat) : Int) := by omega
    rw [e, i64_and_nat _ _ (by omega) (by omega)]
    have := one_bit L h7
    rw [Bool.eq_iff_iff, beq_iff_eq, decide_eq_true_eq, ← this]
    omega

theorem grown_any {a b : World} {row : Option Nat} (h : Below a.heap.size a b) : a.grownBy b row := ⟨h.os, h.tape, h.output, h.size, fun k hk _ => h.block k hk⟩
theorem grown_then {a b c : World} {K : Nat} (h : a.grownBy b (some K)) (h' : b.grownBy c (some K)) : a.grownBy c (some K) := h.andThen h' (fun _ e => by cases e; exact .inr rfl)
theorem worst_whole {xss : List (List Int)} {g : Nat → Int} {L q : Nat} (h : partN xss L q 0 = L ∨ partN xss L q 1 = L ∨ partN xss L q 2 = L) : worstK xss g L q 3 < 0 := by
  by_cases hn : 0 ≤ worstK xss g L q 3
  · have hw := worstK_pos hn
    rcases h with h | h | h
    · exact absurd h (hw 0 (by omega)).1
    · exact absurd h (hw 1 (by omega)).1
    · exact absurd h (hw 2 (by omega)).1
  · omega
theorem bstep_no {w b : Int} (h : w < 0) : bstep w b = b := by unfold bstep; rw [if_neg (by omega)]
theorem bstep_less {w b : Int} (h : 0 ≤ w) (h2 : b < 0 ∨ 1 + w < b) : bstep w b = 1 + w := by unfold bstep; rw [if_pos ⟨h, h2⟩]
theorem bstep_keep {w b : Int} (h : 0 ≤ b) (h2 : b ≤ 1 + w) : bstep w b = b := by unfold bstep; rw [if_neg (by omega)]
theorem wstep_no {g : Nat → Int} {L p : Nat} {w : Int} (h : w < 0 ∨ g p < 0) : wstep g L p w = -1 := by unfold wstep; rw [if_pos (by omega)]
theorem wstep_yes {g : Nat → Int} {L p : Nat} {w : Int} (hp : p ≠ L) (hw : 0 ≤ w) (h : 0 ≤ g p) : wstep g L p w = max w (g p) := by unfold wstep; rw [if_neg (by omega)]
theorem worst_rng (xss : List (List Int)) {L q : Nat} (k : Nat) : -1 ≤ worstK xss (need xss) L q k ∧ worstK xss (need xss) L q k ≤ L := by
  induction k with
  | zero => simp [worstK]
  | succ k ih =>
    rw [worstK]; unfold wstep
    have h1 := need_rng xss (partN xss L q k)
    have h2 := partN_le xss L q k
    split <;> omega
theorem best_rng (xss : List (List Int)) {L : Nat} (q : Nat) : -1 ≤ bestK xss (need xss) L q ∧ bestK xss (need xss) L q ≤ (L : Int) + 1 := by
  induction q with
  | zero => simp [bestK]; omega
  | succ q ih =>
    rw [bestK]; unfold bstep
    have := worst_rng xss (L := L) (q := q) 3
    split <;> omega
/-- The call tells what a lot needs; the map may know more; nothing else is written. -/
def Needs (xss : List (List Int)) (bm : Nat) (r : Int) (w : World) (e : Ending) (w' : World) : Prop := e = .returned (.int .i64 r) ∧ Memo xss bm w' ∧ w.grownBy w' (some bm)

theorem index_t0 (x y z : Value) (w : World) : (Instr.index 92 (.agg #[x, y, z]) (.int .i64 0)).run Try.prog w = .ok x w := by kernel_rfl
theorem index_t1 (x y z : Value) (w : World) : (Instr.index 92 (.agg #[x, y, z]) (.int .i64 1)).run Try.prog w = .ok y w := by kernel_rfl
theorem index_t2 (x y z : Value) (w : World) : (Instr.index 92 (.agg #[x, y, z]) (.int .i64 2)).run Try.prog w = .ok z w := by kernel_rfl
theorem index_three (xss : List (List Int)) (L q : Nat) (j : Nat) (hj : j < 3) (w : World) :
    (Instr.index 92 (.agg #[.int .i64 (partN xss L q 0 : Nat), .int .i64 (partN xss L q 1 : Nat), .int .i64 (partN xss L q 2 : Nat)]) (.int .i64 (j : Int))).run Try.prog w = .ok (.int .i64 (partN xss L q j : Nat)) w := by
  have h : j = 0 ∨ j = 1 ∨ j = 2 := by omega
  rcases h with rfl | rfl | rfl
  · exact index_t0 _ _ _ w
  · exact index_t1 _ _ _ w
  · exact index_t2 _ _ _ w

def intsThree (xss : List (List Int)) (L q : Nat) : List Int := [(partN xss L q 0 : Nat), (partN xss L q 1 : Nat), (partN xss L q 2 : Nat)]
theorem three_ints {xss : List (List Int)} {L q : Nat} (hL : L < 128) (w : World) (N : Nat) (hN : w.heap.size = N) (t : TypeId) :
    Ints 0 (w.alloc (.cells #[.int .i64 (partN xss L q 0 : Nat), .int .i64 (partN xss L q 1 : Nat), .int .i64 (partN xss L q 2 : Nat)] t)) (.slice (some ⟨N, 0, none⟩) 3 3) (intsThree xss L q) := by
  have h0 := partN_le xss L q 0
  have h1 := partN_le xss L q 1
  have h2 := partN_le xss L q 2
  refine ⟨⟨some ⟨N, 0, none⟩, 3, rfl, by simp [intsThree], by omega, fun _ => ⟨N, 0, rfl, Nat.zero_le _, fun i hi => ?_⟩⟩, fun x hx => ?_⟩
  · subst hN
    have hi3 : i < 3 := by simpa [intsThree] using hi
    have hb := heap_alloc_new w (.cells #[.int .i64 (partN xss L q 0 : Nat), .int .i64 (partN xss L q 1 : Nat), .int .i64 (partN xss L q 2 : Nat)] t)
    have h : i = 0 ∨ i = 1 ∨ i = 2 := by omega
    rw [Nat.zero_add, cell_of_row _ w.heap.size i _ t (0, 0) hb]
    rcases h with rfl | rfl | rfl <;> simp [intsThree, ints]
  · simp [intsThree] at hx
    unfold In64
    rcases hx with rfl | rfl | rfl <;> omega
theorem any_three (xss : List (List Int)) (L q : Nat) : anyN (fun i => (L : Int) == (intsThree xss L q).getD i 0) (intsThree xss L q).length = decide (partN xss L q 0 = L ∨ partN xss L q 1 = L ∨ partN xss L q 2 = L) := by
  have : (intsThree xss L q).length = 3 := rfl
  rw [this]
  unfold anyN
  rw [show List.range 3 = [0, 1, 2] from rfl]
  simp only [List.any_cons, List.any_nil, Bool.or_false, intsThree]
  rw [Bool.eq_iff_iff]
  simp
  omega


set_option maxHeartbeats 4000000 in
theorem needed_any {B : Nat} (v : Value) (xss : List (List Int)) (hT : tableB xss = true) (bm : Nat) : ∀ N L : Nat, L < N → L < 2 ^ xss.length → ∀ w, Rows2 B w v xss → Memo xss bm w →
    Calls Try.prog 65 #[.agg #[v, .map (some bm)], .int .i64 L] w (Needs xss bm (need xss L) w) := by
  intro N
  induction N with
  | zero => intro L hL; omega
  | succ N ih =>
    intro L hLN hL w hrows hm
    have hn := tableB_len hT
    have hL7 := lot_128 hn.2 hL
    have hand := and_less hn.2 hL
    obtain ⟨ad, cap, rfl, hcap, hmax, V, hcells, hV⟩ := hrows.opened
    by_cases hmany : many xss L ≤ 1
    · have hz := need_small hmany
      rw [decide_eq_true hmany] at hand
      have HM := Lib.hid hm
      rw [hz]
      clear hz hmany hcells hV hrows hm
      go_enter Try.func65, Try.ntmps65
      go_wp2_with fail
      go_ret
      exact ⟨rfl, HM.out.below ((Below.refl _ _).alloc (Nat.le_refl _) _), World.grownBy_alloc _ _ _⟩
    · rw [decide_eq_false hmany] at hand
      obtain ⟨w1, hw1⟩ : ∃ w1, w1 = w.alloc (.cells #[.slice ad xss.length cap, .map (some bm)] 64) := ⟨_, rfl⟩
      have hb1 : Below w.heap.size w w1 := by rw [hw1]; exact (Below.refl _ _).alloc (Nat.le_refl _) _
      have hm1 := hm.below hb1
      obtain ⟨x, bk, hrun, hbk⟩ := hm1.look hL7
      have HB1 := Lib.hid hb1
      have HM1 := Lib.hid hm1
      have HMany := Lib.hid hmany
      clear hmany hb1 hm1
      cases bk
      · rw [hw1] at hrun
        obtain ⟨g, off, rfl, _, hc⟩ := hcells (by omega)
        have hc0 := hc 0 (by omega)
        obtain ⟨a0, c0, hv0, h01, h02⟩ := (hV 0 (by omega)).shape
        have hhd : xss.headD [] = xss[0] := headD_get (by omega)
        rw [hv0, Nat.add_zero] at hc0
        have hm0 : xss[0].length = asks xss := by unfold asks; rw [hhd]
        have hm5 : asks xss ≤ 5 := by
          have := hT
          unfold tableB at this
          simp only [Bool.and_eq_true, decide_eq_true_eq] at this
          exact this.2.1
        rw [hm0] at hc0 h01
        have hc1 := (Above.of_below (B := 0) HB1.out).cell (Nat.zero_le _) hc0
        rw [hw1] at hc1
        have hn1 : (0 : Int) < (xss.length : Int) := by omega
        have HR1 := Lib.hid (hrows.below HB1.out)
        have HW1 := Lib.hid hw1
        clear hw1 hbk hhd hv0 hc hcells hV hrows hm hm0
        go_enter Try.func65, Try.ntmps65
        go_wp2_with fail
        rw [← HW1.out]
        have hbx0 : w1.cell? ⟨w.heap.size, 0, none⟩ = some (.slice (some ⟨g, off, none⟩) xss.length cap) := by
          rw [HW1.out]; exact cell_of_row _ _ 0 _ _ (0, 0) (heap_alloc_new w _)
        have hbx1 : w1.cell? ⟨w.heap.size, 1, none⟩ = some (.map (some bm)) := by
          rw [HW1.out]; exact cell_of_row _ _ 1 _ _ (0, 0) (heap_alloc_new w _)
        rw [← HW1.out] at hc1 hrun
        clear hc0
        go_loopw [7, 33] (fun b i wr => ∃ k : Nat, k ≤ asks xss ∧ i = .int .i64 k ∧ b = .int .i64 (bestK xss (need xss) L k) ∧ Memo xss bm wr ∧ w1.grownBy wr (some bm)) (fun _ i _ => asks xss - (intOf i).toNat)
        case atStart => exact ⟨0, Nat.zero_le _, rfl, rfl, HM1.out, World.grownBy.refl _ _⟩
        case round =>
          obtain ⟨k, hk, rfl, rfl, hmr, hgr⟩ := hrel
          by_cases hlt : k < asks xss
          · have hck0 := HM1.out.cell hgr hbx0
            have hck1 := HM1.out.cell hgr hbx1
            have hLots := lots_any _ xss L k wr (HR1.out.cells (fun p u => HM1.out.cell hgr)) hT hL hlt
            unfold threeV at hLots
            have HGr := Lib.hid hgr
            have HMr := Lib.hid hmr
            clear hgr hmr hc1 hrun hbx0 hbx1
            go_wp2_with fail
            refine hLots.mono ?_
            rintro e w2 ⟨rfl, hb2⟩
            have HB2 := Lib.hid hb2
            have hsz2 := hb2.size
            have hC := contains_elem _ (intsThree xss L k) (L : Int) _ (three_ints (xss := xss) (q := k) hL7 w2 _ rfl 92)
            rw [any_three] at hC
            have hck02 := (Above.of_below (B := 0) hb2).cell (Nat.zero_le _) hck0
            have hck12 := (Above.of_below (B := 0) hb2).cell (Nat.zero_le _) hck1
            clear hb2 hck0 hck1 hLots
            by_cases hcont : partN xss L k 0 = L ∨ partN xss L k 1 = L ∨ partN xss L k 2 = L
            · rw [decide_eq_true hcont] at hC
              have HK := Lib.hid hcont
              clear hcont
              go_wp2_with fail
              refine hC.mono ?_
              rintro e w3 ⟨rfl, rfl⟩
              go_wp2
              go_roundw
              case rel => exact ⟨k + 1, by omega, by go_num, by rw [bestK, bstep_no (worst_whole HK.out)], (HMr.out.below HB2.out).below ((Below.refl _ _).alloc (Nat.le_refl _) _), grown_then HGr.out (grown_any (HB2.out.alloc HB2.out.size _))⟩
              case measure => simp [intOf]; omega
            · rw [decide_eq_false hcont] at hC
              have HK := Lib.hid hcont
              have hm3 := (HMr.out.below HB2.out).below ((Below.refl _ _).alloc (Nat.le_refl _) (.cells #[.int .i64 (partN xss L k 0 : Nat), .int .i64 (partN xss L k 1 : Nat), .int .i64 (partN xss L k 2 : Nat)] 92))
              have hg3 := grown_then HGr.out (grown_any (HB2.out.alloc HB2.out.size (.cells #[.int .i64 (partN xss L k 0 : Nat), .int .i64 (partN xss L k 1 : Nat), .int .i64 (partN xss L k 2 : Nat)] 92)))
              have hbx0 := (Above.of_below (B := 0) ((Below.refl w2.heap.size w2).alloc (Nat.le_refl _) (.cells #[.int .i64 (partN xss L k 0 : Nat), .int .i64 (partN xss L k 1 : Nat), .int .i64 (partN xss L k 2 : Nat)] 92))).cell (Nat.zero_le _) hck02
              have hbx1 := (Above.of_below (B := 0) ((Below.refl w2.heap.size w2).alloc (Nat.le_refl _) (.cells #[.int .i64 (partN xss L k 0 : Nat), .int .i64 (partN xss L k 1 : Nat), .int .i64 (partN xss L k 2 : Nat)] 92))).cell (Nat.zero_le _) hck12
              clear hcont
              go_wp2_with fail
              refine hC.mono ?_
              rintro e w3 ⟨rfl, rfl⟩
              clear hC
              go_wp2
              obtain ⟨w3, hw3⟩ : ∃ w3, w3 = w2.alloc (.cells #[.int .i64 (partN xss L k 0 : Nat), .int .i64 (partN xss L k 1 : Nat), .int .i64 (partN xss L k 2 : Nat)] 92) := ⟨_, rfl⟩
              rw [← hw3] at hm3 hg3 hbx0 hbx1 ⊢
              have HM3 := Lib.hid hm3
              have HG3 := Lib.hid hg3
              clear hw3 hm3 hg3 hck02 hck12 hsz2
              go_loopw [10, 45] (fun s i wi => ∃ j : Nat, j ≤ 3 ∧ i = .int .i64 j ∧ s = .int .i64 (worstK xss (need xss) L k j) ∧ Memo xss bm wi ∧ w3.grownBy wi (some bm)) (fun _ i _ => 3 - (intOf i).toNat)
              case atStart => exact ⟨0, Nat.zero_le _, rfl, rfl, HM3.out, World.grownBy.refl _ _⟩
              case round =>
                obtain ⟨j, hj, rfl, rfl, hmi, hgi⟩ := hrel
                have hci0 := HM3.out.cell hgi hbx0
                have hci1 := HM3.out.cell hgi hbx1
                have hws := worst_rng xss (L := L) (q := k) j
                by_cases hjl : j < 3
                · have hpl := partN_le xss L k j
                  have hpn : partN xss L k j ≠ L := fun e => HK.out (by
                    have h : j = 0 ∨ j = 1 ∨ j = 2 := by omega
                    rcases h with rfl | rfl | rfl
                    · exact .inl e
                    · exact .inr (.inl e)
                    · exact .inr (.inr e))
                  have hrec := ih (partN xss L k j) (by omega) (partN_lt xss L k j) _ ((HR1.out.cells (fun p u => HM1.out.cell HG3.out)).cells (fun p u => HM3.out.cell hgi)) hmi
                  have hrr := need_rng xss (partN xss L k j)
                  have hidx := fun W => index_three xss L k j hjl W
                  obtain ⟨P, hP⟩ : ∃ P, P = partN xss L k j := ⟨_, rfl⟩
                  obtain ⟨W, hW⟩ : ∃ W, W = worstK xss (need xss) L k j := ⟨_, rfl⟩
                  rw [← hP] at hrec hrr hidx hpn hpl
                  obtain ⟨r, hr⟩ : ∃ r, r = need xss P := ⟨_, rfl⟩
                  rw [← hr] at hrec hrr
                  rw [← hW] at hws ⊢
                  have HGi := Lib.hid hgi
                  have HStep := Lib.hid (show worstK xss (need xss) L k (j + 1) = wstep (need xss) L P W by rw [worstK, hP, hW])
                  have HR := Lib.hid hr
                  have HPn := Lib.hid hpn
                  have hj3 : (j : Int) < 3 := by omega
                  clear hgi hmi hP hW hr hpn
                  go_wp2_with fail
                  refine hrec.mono ?_
                  rintro e w5 ⟨rfl, hm5, hg5⟩
                  have HM5 := Lib.hid hm5
                  have HG5 := Lib.hid hg5
                  clear hm5 hg5 hrec hci0 hci1 hidx
                  by_cases hr0 : r < 0
                  · have hd : decide (r < 0) = true := decide_eq_true hr0
                    go_wp2
                    go_roundw
                    case rel => exact ⟨j + 1, by omega, by go_num, by rw [HStep.out, wstep_no (.inr (by rw [← HR.out]; exact hr0))], HM5.out, grown_then HGi.out HG5.out⟩
                    case measure => simp [intOf]; omega
                  · have hd : decide (r < 0) = false := decide_eq_false hr0
                    by_cases hw0 : W < 0
                    · have hd2 : decide (W < 0) = true := decide_eq_true hw0
                      go_wp2
                      go_roundw
                      case rel => exact ⟨j + 1, by omega, by go_num, by rw [HStep.out, wstep_no (.inl hw0)], HM5.out, grown_then HGi.out HG5.out⟩
                      case measure => simp [intOf]; omega
                    · have hd2 : decide (W < 0) = false := decide_eq_false hw0
                      have HMx := Lib.hid (show worstK xss (need xss) L k (j + 1) = max W r by rw [HStep.out, wstep_yes HPn.out (by omega) (by rw [← HR.out]; omega), ← HR.out])
                      go_wp2
                      go_roundw
                      case rel => exact ⟨j + 1, by omega, by go_num, by rw [HMx.out]; congr 1; split <;> omega, HM5.out, grown_then HGi.out HG5.out⟩
                      case measure => simp [intOf]; omega
                · obtain rfl : j = 3 := by omega
                  have hbr := best_rng xss (L := L) k
                  obtain ⟨W, hW⟩ : ∃ W, W = worstK xss (need xss) L k 3 := ⟨_, rfl⟩
                  obtain ⟨b, hb⟩ : ∃ b, b = bestK xss (need xss) L k := ⟨_, rfl⟩
                  rw [← hW] at hws ⊢
                  rw [← hb] at hbr ⊢
                  have HS := Lib.hid (show bestK xss (need xss) L (k + 1) = bstep W b by rw [bestK, hW, hb])
                  have HGi := Lib.hid (grown_then HG3.out hgi)
                  have HMi := Lib.hid hmi
                  clear hgi hmi hW hb hci0 hci1
                  by_cases hw0 : 0 ≤ W
                  · have hd : decide (0 ≤ W) = true := decide_eq_true hw0
                    by_cases hb0 : b < 0
                    · have hd2 : decide (b < 0) = true := decide_eq_true hb0
                      go_wp2
                      go_roundw
                      case rel => exact ⟨k + 1, by omega, by go_num, by rw [HS.out, bstep_less hw0 (.inl hb0)], HMi.out, HGi.out⟩
                      case measure => simp [intOf]; omega
                    · have hd2 : decide (b < 0) = false := decide_eq_false hb0
                      by_cases hlb : 1 + W < b
                      · have hd3 : decide (1 + W < b) = true := decide_eq_true hlb
                        go_wp2
                        go_roundw
                        case rel => exact ⟨k + 1, by omega, by go_num, by rw [HS.out, bstep_less hw0 (.inr hlb)], HMi.out, HGi.out⟩
                        case measure => simp [intOf]; omega
                      · have hd3 : decide (1 + W < b) = false := decide_eq_false hlb
                        go_wp2
                        go_roundw
                        case rel => exact ⟨k + 1, by omega, by go_num, by rw [HS.out, bstep_keep (by omega) (by omega)], HMi.out, HGi.out⟩
                        case measure => simp [intOf]; omega
                  · have hd : decide (0 ≤ W) = false := decide_eq_false hw0
                    go_wp2
                    go_roundw
                    case rel => exact ⟨k + 1, by omega, by go_num, by rw [HS.out, bstep_no (by omega)], HMi.out, HGi.out⟩
                    case measure => simp [intOf]; omega
          · obtain rfl : k = asks xss := by omega
            have hbest : bestK xss (need xss) L (asks xss) = need xss L := by rw [need_big (by have := HMany.out; omega)]
            have hck0 := HM1.out.cell hgr hbx0
            have hck1 := HM1.out.cell hgr hbx1
            rw [hbest]
            obtain ⟨w9, hrun9, hm9, hg9⟩ := hmr.store hL7
            have HM9 := Lib.hid hm9
            have HG9 := Lib.hid (grown_then (grown_any (row := some bm) HB1.out) (grown_then hgr hg9))
            clear hbest hgr hmr hm9 hg9 hrun hbx0 hbx1 hc1
            go_wp2
            go_ret
            exact ⟨rfl, HM9.out, HG9.out⟩
      · rw [hw1] at hrun
        have HX := Lib.hid (hbk rfl)
        have HW1 := Lib.hid hw1
        clear hw1 hbk hcells hV hrows hm
        go_enter Try.func65, Try.ntmps65
        go_wp2_with fail
        go_ret
        rw [← HW1.out]
        exact ⟨ret_int HX.out, HM1.out, grown_any HB1.out⟩

end Go.Proofs.Ytpeogghiboaceaa
