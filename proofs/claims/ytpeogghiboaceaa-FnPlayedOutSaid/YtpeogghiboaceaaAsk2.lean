/- ask of the program: a search whose test writes the map of known lots. -/
import Derived.Test.YtpeogghiboaceaaAsk
import Derived.BigQuiet
namespace Go.Proofs.Ytpeogghiboaceaa
open Go.RowKit
set_option linter.unusedVariables false
set_option maxRecDepth 100000

/-- A function value that tells p of the i-th element, and keeps what I says. -/
def TellsI (I : World → Prop) (g : Nat) (lb : Array Value) (vs : List Value) (p : Nat → Bool) : Prop :=
  (∀ args W, (callFunc g args).run Try.prog W = .ok (.enter g args) W) ∧
  ∀ W, I W → ∀ i (h : i < vs.length), Calls Try.prog g (#[vs[i]] ++ lb) W fun e W' => e = .returned (.bool (p i)) ∧ I W'

set_option maxHeartbeats 400000 in
theorem index_inv (I : World → Prop) (v : Value) (vs : List Value) (hS : ∀ W, I W → SL 0 W v vs) (g : Nat) (lb : Array Value) (p : Nat → Bool) (hf : TellsI I g lb vs p) (w : World) (hI : I w) :
    Calls Try.prog 112 #[v, .func (.func g) #[] lb] w fun e w' => e = .returned (.int .i64 (idxN p vs.length)) ∧ I w' := by
  obtain ⟨a, cap, rfl, hcap, hmax, _⟩ := hS w hI
  obtain ⟨eg, hf⟩ := hf
  have HS := Lib.hid hS
  have HF := Lib.hid hf
  clear hS hf
  go_enter Try.func112, Try.ntmps112
  go_wp2
  go_loopw [8] (fun i wr => ∃ k : Nat, k ≤ vs.length ∧ i = .int .i64 k ∧ (∀ j, j < k → p j = false) ∧ I wr) (fun i _ => vs.length - (intOf i).toNat)
  case atStart => exact ⟨0, Nat.zero_le _, rfl, by omega, hI⟩
  case round =>
    obtain ⟨k, hk, rfl, hn, hi⟩ := hrel
    have HN := Lib.hid hn
    have HI := Lib.hid hi
    by_cases hlt : k < vs.length
    · obtain ⟨a', cap', he, _, _, hcells⟩ := HS.out wr hi
      injection he with e1 _ e3
      subst e1 e3
      obtain ⟨b, off, rfl, _, hc⟩ := hcells (by omega)
      have hck := hc k hlt
      have hF := HF.out wr hi k hlt
      obtain ⟨u, hu⟩ : ∃ u, u = vs[k] := ⟨_, rfl⟩
      rw [← hu] at hck hF
      clear hc hcells hn hi hu
      cases hp : p k
      · rw [hp] at hF
        have HP := Lib.hid hp
        clear hp
        go_wp2_with fail
        refine hF.mono ?_
        rintro e w2 ⟨rfl, hi2⟩
        have HI2 := Lib.hid hi2
        clear hi2
        go_wp2
        go_roundw
        case rel => exact ⟨k + 1, by omega, by go_num, upto_step HN.out HP.out, HI2.out⟩
        case measure => simp [intOf]; omega
      · rw [hp] at hF
        have HP := Lib.hid hp
        clear hp
        go_wp2_with fail
        refine hF.mono ?_
        rintro e w2 ⟨rfl, hi2⟩
        have HI2 := Lib.hid hi2
        clear hi2
        go_wp2
        go_ret
        exact ⟨ret_int (by rw [idxN_hit hlt HN.out HP.out]), HI2.out⟩
    · have e : k = vs.length := by omega
      have HE := Lib.hid e
      clear e hn hi
      go_wp2
      go_ret
      exact ⟨ret_int (by rw [idxN_none (by rw [← HE.out]; exact HN.out)]), HI.out⟩

theorem contains_inv (I : World → Prop) (v : Value) (vs : List Value) (hS : ∀ W, I W → SL 0 W v vs) (g : Nat) (lb : Array Value) (p : Nat → Bool) (hf : TellsI I g lb vs p) (w : World) (hI : I w) :
    Calls Try.prog 103 #[v, .func (.func g) #[] lb] w fun e w' => e = .returned (.bool (anyN p vs.length)) ∧ I w' := by
  have hC := index_inv I v vs hS g lb p hf w hI
  have hE := Lib.hid (idxN_nonneg p vs.length)
  obtain ⟨a, cap, rfl, hcap, hmax, _⟩ := hS w hI
  clear hS hf hI
  go_enter Try.func103, Try.ntmps103
  go_wp2_with fail
  refine hC.mono ?_
  rintro e w2 ⟨rfl, hb2⟩
  have HB2 := Lib.hid hb2
  clear hb2
  go_wp2
  go_ret
  exact ⟨ret_bool (by rw [← hE.out]), HB2.out⟩

/-- A world in which the map knows more than in w; nothing else is written. -/
structure MemoW (xss : List (List Int)) (bm : Nat) (w : World) where
  val : World
  ok : Memo xss bm w → Memo xss bm val ∧ w.grownBy val (some bm)
instance (xss : List (List Int)) (bm : Nat) (w : World) : Nonempty (MemoW xss bm w) := ⟨⟨w, fun h => ⟨h, World.grownBy.refl _ _⟩⟩⟩
theorem drawn_below (w : World) (n : Nat) : Below w.heap.size w (w.drewN n) := (show Drawn w (w.drewN n) from ⟨n, rfl⟩).below
theorem wp_region_memo {id : Nat} {Q : Exit → Act → World → Prop} {a : Act} (xss : List (List Int)) (bm : Nat) {w : World} {l : List Oper} (hm : Try.prog.follows .mixedOrders = true) (hB : Region.lexB .any l.toArray = true)
    (h : wpQuiet Try.prog l.toArray (fun w' => ∃ z : MemoW xss bm w, w' = z.val) (fun a' => ∀ w', (∃ z : MemoW xss bm w, w' = z.val) → Q .normal a' w') l a) : (Code.region id l.toArray true).wp Try.prog Q a w :=
  wp_region_quiet (C := fun w' => ∃ z : MemoW xss bm w, w' = z.val) hm hB ⟨⟨w.drewN 1, fun h => ⟨h.below (drawn_below w 1), grown_any (drawn_below w 1)⟩⟩, rfl⟩ (by simpa using h)

theorem ask1_any {B : Nat} (v : Value) (xss : List (List Int)) (hT : tableB xss = true) (bm L P : Nat) (hL : L < 2 ^ xss.length) (hP : P < 2 ^ xss.length) (bx mo : Nat) (w : World) (hrows : Rows2 B w v xss) (hm : Memo xss bm w)
    (h0 : w.cell? ⟨bx, 0, none⟩ = some v) (h1 : w.cell? ⟨bx, 1, none⟩ = some (.map (some bm))) (h2 : w.cell? ⟨mo, 0, none⟩ = some (.int .i64 (need xss L - 1))) :
    Calls Try.prog 102 #[.int .i64 P, .pointer (some ⟨bx, 0, none⟩), .pointer (some ⟨mo, 0, none⟩)] w fun e w' => e = .returned (.bool (moreB xss L P)) ∧ Memo xss bm w' ∧ w.grownBy w' (some bm) := by
  have hz0 : ∀ z : MemoW xss bm w, z.val.cell? ⟨bx, 0, none⟩ = some v := fun z => hm.cell (z.ok hm).2 h0
  have hz1 : ∀ z : MemoW xss bm w, z.val.cell? ⟨bx, 1, none⟩ = some (.map (some bm)) := fun z => hm.cell (z.ok hm).2 h1
  have hz2 : ∀ z : MemoW xss bm w, z.val.cell? ⟨mo, 0, none⟩ = some (.int .i64 (need xss L - 1)) := fun z => hm.cell (z.ok hm).2 h2
  have hC : ∀ z : MemoW xss bm w, Calls Try.prog 65 #[.agg #[v, .map (some bm)], .int .i64 P] z.val (fun e w'' => e = .returned (.int .i64 (need xss P)) ∧ ∃ z' : MemoW xss bm w, w'' = z'.val) := fun z =>
    (needed_any v xss hT bm (P + 1) P (by omega) hP z.val (hrows.cells (fun p u => hm.cell (z.ok hm).2)) (z.ok hm).1).mono (fun e w'' ⟨he, hm2, hg2⟩ => ⟨he, ⟨w'', fun h => ⟨hm2, grown_then (z.ok h).2 hg2⟩⟩, rfl⟩)
  have hI : ∀ z : MemoW xss bm w, Calls Try.prog 75 #[.int .i64 (need xss P), .int .i64 0, .int .i64 (need xss L - 1)] z.val (fun e w'' => e = .returned (.bool (inB (need xss P) 0 (need xss L - 1))) ∧ ∃ z' : MemoW xss bm w, w'' = z'.val) := fun z =>
    (in_any _ _ _ z.val).mono (fun e w'' ⟨he, hw⟩ => ⟨he, z, hw.symm⟩)
  have HM := Lib.hid hm
  have HMore := Lib.hid (show moreB xss L P = !inB (need xss P) 0 (need xss L - 1) from rfl)
  clear hrows hm h0 h1 h2
  go_enter Try.func102, Try.ntmps102
  go_wp2_with fail
  refine wp_region_memo xss bm (by kernel_rfl) (by kernel_rfl) ?_
  repeat (first | go_big_quiet_skip | (go_big_quiet_want; go_big_quiet_op; first | go_big_quiet_on | go_big_quiet_call (first | (go_at_call 65; exact hC _) | (go_at_call 75; exact hI _))))
  refine wpQuiet_nil ?_
  intro w8 hw8
  obtain ⟨z8, rfl⟩ := hw8
  have H8 := Lib.hid (z8.ok HM.out)
  clear hz0 hz1 hz2 hC hI
  go_wp2
  go_ret
  exact ⟨ret_bool (by rw [HMore.out]), H8.out.1, H8.out.2⟩


set_option maxHeartbeats 4000000 in
theorem ask_any {B : Nat} (v : Value) (xss : List (List Int)) (hT : tableB xss = true) (bm L : Nat) (hL : L < 2 ^ xss.length) (w : World) (hrows : Rows2 B w v xss) (hm : Memo xss bm w) :
    Calls Try.prog 80 #[.agg #[v, .map (some bm)], .int .i64 L] w (Needs xss bm (askI xss L) w) := by
  have hn := tableB_len hT
  have hL7 := lot_128 hn.2 hL
  have hrows0 := hrows
  obtain ⟨ad, cap, rfl, hcap, hmax, V, hcells, hV⟩ := hrows.opened
  obtain ⟨g, off, rfl, _, hc⟩ := hcells (by omega)
  have hc0 := hc 0 (by omega)
  obtain ⟨a0, c0, hv0, h01, h02⟩ := (hV 0 (by omega)).shape
  have hhd : xss.headD [] = xss[0] := headD_get (by omega)
  rw [hv0, Nat.add_zero] at hc0
  have hm0 : xss[0].length = asks xss := by unfold asks; rw [hhd]
  have hm5 : asks xss ≤ 5 := by
    have := hT
    unfold tableB at this
    simp only [Bool.and_eq_true, decide_eq_true_eq] at this
    exact this.2.1
  rw [hm0] at hc0 h01
  have hn1 : (0 : Int) < (xss.length : Int) := by omega
  obtain ⟨w1, hw1⟩ : ∃ w1, w1 = w.alloc (.cells #[.slice (some ⟨g, off, none⟩) xss.length cap, .map (some bm)] 64) := ⟨_, rfl⟩
  have hb1 : Below w.heap.size w w1 := by rw [hw1]; exact (Below.refl _ _).alloc (Nat.le_refl _) _
  have hm1 := hm.below hb1
  have hr1 := hrows0.below hb1
  have hc1 := (Above.of_below (B := 0) hb1).cell (Nat.zero_le _) hc0
  have hbx0 : w1.cell? ⟨w.heap.size, 0, none⟩ = some (.slice (some ⟨g, off, none⟩) xss.length cap) := by rw [hw1]; exact cell_of_row _ _ 0 _ _ (0, 0) (heap_alloc_new w _)
  have hbx1 : w1.cell? ⟨w.heap.size, 1, none⟩ = some (.map (some bm)) := by rw [hw1]; exact cell_of_row _ _ 1 _ _ (0, 0) (heap_alloc_new w _)
  have hN := needed_any _ xss hT bm (L + 1) L (by omega) hL w1 hr1 hm1
  have hrngL := need_rng xss L
  have HB1 := Lib.hid hb1
  have HM1 := Lib.hid hm1
  have HR1 := Lib.hid hr1
  clear hcells hV hrows hrows0 hm hm1 hb1 hr1 hc hv0 hhd hm0 hc0
  go_enter Try.func80, Try.ntmps80
  go_wp2_with fail
  rw [← hw1]
  have HW1 := Lib.hid hw1
  clear hw1
  refine hN.mono ?_
  rintro e w2 ⟨rfl, hm2, hg2⟩
  have hd0 := HM1.out.cell hg2 hbx0
  have hd1 := HM1.out.cell hg2 hbx1
  have hdc := HM1.out.cell hg2 hc1
  have HR2 := Lib.hid (HR1.out.cells (fun p u => HM1.out.cell hg2))
  have HG2 := Lib.hid (grown_then (grown_any (row := some bm) HB1.out) hg2)
  have HM2 := Lib.hid hm2
  obtain ⟨w3, hw3⟩ : ∃ w3, w3 = w2.alloc (.cells #[.int .i64 (need xss L - 1)] 3) := ⟨_, rfl⟩
  have hb3 : Below w2.heap.size w2 w3 := by rw [hw3]; exact (Below.refl _ _).alloc (Nat.le_refl _) _
  have he0 := (Above.of_below (B := 0) hb3).cell (Nat.zero_le _) hd0
  have he1 := (Above.of_below (B := 0) hb3).cell (Nat.zero_le _) hd1
  have hec := (Above.of_below (B := 0) hb3).cell (Nat.zero_le _) hdc
  have hmo : w3.cell? ⟨w2.heap.size, 0, none⟩ = some (.int .i64 (need xss L - 1)) := by rw [hw3]; exact cell_of_row _ _ 0 _ _ (0, 0) (heap_alloc_new w2 _)
  have HM3 := Lib.hid (HM2.out.below hb3)
  have HR3 := Lib.hid (HR2.out.below hb3)
  have HG3 := Lib.hid (grown_then HG2.out (grown_any hb3))
  rw [hw3] at he0 he1 hec
  have HW3 := Lib.hid hw3
  clear hN hbx0 hbx1 hc1 hm2 hg2 hd0 hd1 hdc hw3 hb3
  go_wp2
  rw [← HW3.out] at he0 he1 hec ⊢
  go_loopw [18] (fun i wr => ∃ k : Nat, k ≤ asks xss ∧ i = .int .i64 k ∧ (∀ j, j < k → goodQ xss L j = false) ∧ Memo xss bm wr ∧ w3.grownBy wr (some bm)) (fun i _ => asks xss - (intOf i).toNat)
  case atStart => exact ⟨0, Nat.zero_le _, rfl, by omega, HM3.out, World.grownBy.refl _ _⟩
  case round =>
    obtain ⟨k, hk, rfl, hno, hmr, hgr⟩ := hrel
    have HNo := Lib.hid hno
    clear hno
    by_cases hlt : k < asks xss
    · have hck0 := HM3.out.cell hgr he0
      have hck1 := HM3.out.cell hgr he1
      have hckm := HM3.out.cell hgr hmo
      have hLots := lots_any _ xss L k wr (HR3.out.cells (fun p u => HM3.out.cell hgr)) hT hL hlt
      unfold threeV at hLots
      have HRr := Lib.hid (HR3.out.cells (fun p u => HM3.out.cell hgr))
      have HGr := Lib.hid hgr
      have HMr := Lib.hid hmr
      clear hgr hmr he0 he1 hec hmo
      go_wp2_with fail
      refine hLots.mono ?_
      rintro e w4 ⟨rfl, hb4⟩
      obtain ⟨w5, hw5⟩ : ∃ w5, w5 = w4.alloc (.cells #[.int .i64 (partN xss L k 0 : Nat), .int .i64 (partN xss L k 1 : Nat), .int .i64 (partN xss L k 2 : Nat)] 92) := ⟨_, rfl⟩
      have hb45 : Below w4.heap.size w4 w5 := by rw [hw5]; exact (Below.refl _ _).alloc (Nat.le_refl _) _
      have hb5 : Below wr.heap.size wr w5 := hb4.trans (hb45.mono hb4.size)
      have hx0 := (Above.of_below (B := 0) hb5).cell (Nat.zero_le _) hck0
      have hx1 := (Above.of_below (B := 0) hb5).cell (Nat.zero_le _) hck1
      have hxm := (Above.of_below (B := 0) hb5).cell (Nat.zero_le _) hckm
      have hm5 := HMr.out.below hb5
      have hr5 := HRr.out.below hb5
      have hg5 := grown_then HGr.out (grown_any (row := some bm) hb5)
      have hI3 := three_ints (xss := xss) (q := k) hL7 w4 w4.heap.size rfl 92
      rw [← hw5] at hI3
      have hsl : ∀ W, (Memo xss bm W ∧ w5.grownBy W (some bm)) → SL 0 W (.slice (some ⟨w4.heap.size, 0, none⟩) 3 3) (ints (intsThree xss L k)) := fun W hW => hI3.1.cells (fun p u => hm5.cell hW.2)
      have htell : TellsI (fun W => Memo xss bm W ∧ w5.grownBy W (some bm)) 102 #[.pointer (some ⟨w.heap.size, 0, none⟩), .pointer (some ⟨w2.heap.size, 0, none⟩)] (ints (intsThree xss L k)) (fun a => moreB xss L (partN xss L k a)) := by
        refine ⟨enters_of Try.func102 (by kernel_rfl) rfl, fun W hW i hi => ?_⟩
        have hi3 : i < 3 := by simpa [intsThree] using hi
        have e : (ints (intsThree xss L k))[i]'hi = .int .i64 (partN xss L k i : Nat) := by
          have h : i = 0 ∨ i = 1 ∨ i = 2 := by omega
          rcases h with rfl | rfl | rfl <;> rfl
        show Calls Try.prog _ (#[(ints (intsThree xss L k))[i]'hi] ++ _) W (fun e W' => e = .returned (.bool (moreB xss L (partN xss L k i))) ∧ (Memo xss bm W' ∧ w5.grownBy W' (some bm)))
        rw [e]
        exact (ask1_any _ xss hT bm L (partN xss L k i) hL (partN_lt xss L k i) w.heap.size w2.heap.size W (hr5.cells (fun p u => hm5.cell hW.2)) hW.1 (hm5.cell hW.2 hx0) (hm5.cell hW.2 hx1) (hm5.cell hW.2 hxm)).mono
          fun e w' ⟨h1, h2, h3⟩ => ⟨h1, h2, grown_then hW.2 h3⟩
      have hC := contains_inv _ _ _ hsl _ _ _ htell w5 ⟨hm5, World.grownBy.refl _ _⟩
      have hg : anyN (fun a => moreB xss L (partN xss L k a)) (ints (intsThree xss L k)).length = !goodQ xss L k := by
        show anyN _ 3 = _
        unfold goodQ; simp
      rw [hg] at hC
      rw [hw5] at hC
      have HG5 := Lib.hid hg5
      have HW5 := Lib.hid hw5
      clear hg htell hsl hI3 hg5 hr5 hm5 hx0 hx1 hxm hb5 hb45 hb4 hLots hck0 hck1 hckm hw5
      cases hgood : goodQ xss L k
      · rw [hgood] at hC
        have HGood := Lib.hid hgood
        clear hgood
        go_wp2_with fail
        refine hC.mono ?_
        rintro e w6 ⟨rfl, hm6, hg6⟩
        rw [← HW5.out] at hg6
        have HM6 := Lib.hid hm6
        have HG6 := Lib.hid (grown_then HG5.out hg6)
        clear hm6 hg6 hC
        go_wp2
        go_roundw
        case rel => exact ⟨k + 1, by omega, by go_num, upto_step HNo.out HGood.out, HM6.out, HG6.out⟩
        case measure => simp [intOf]; omega
      · rw [hgood] at hC
        have HGood := Lib.hid hgood
        clear hgood
        go_wp2_with fail
        refine hC.mono ?_
        rintro e w6 ⟨rfl, hm6, hg6⟩
        rw [← HW5.out] at hg6
        have HM6 := Lib.hid hm6
        have HG6 := Lib.hid (grown_then HG3.out (grown_then HG5.out hg6))
        clear hm6 hg6 hC
        go_wp2
        go_ret
        exact ⟨ret_int (by unfold askI; rw [idxN_hit hlt HNo.out HGood.out]), HM6.out, HG6.out⟩
    · obtain rfl : k = asks xss := by omega
      have HMr := Lib.hid hmr
      have HGr := Lib.hid (grown_then HG3.out hgr)
      clear hmr hgr he0 he1 hec hmo
      go_wp2
      go_ret
      exact ⟨ret_int (by unfold askI; rw [idxN_none HNo.out]), HMr.out, HGr.out⟩

end Go.Proofs.Ytpeogghiboaceaa
