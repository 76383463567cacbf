/- Places of ships: plain words, memory, the small functions. -/
import Derived.Test.YtpeogghiboaceaaFun
namespace Go.Proofs.Ytpeogghiboaceaa
open Go.RowKit
set_option linter.unusedVariables false
set_option maxRecDepth 100000

/-- A place. -/
structure Pl where
  r : Nat
  c : Nat
  d : Nat
deriving DecidableEq
def plC (p : Pl) : List Value := [.int .i64 p.r, .int .i64 p.c, .int .i64 p.d]
def plV (p : Pl) : Value := .agg #[.int .i64 p.r, .int .i64 p.c, .int .i64 p.d]
def cellsP (ps : List Pl) : List Value := ps.flatMap plC
theorem cellsP_nil : cellsP [] = [] := rfl
theorem cellsP_cons (p : Pl) (ps : List Pl) : cellsP (p :: ps) = plC p ++ cellsP ps := rfl
theorem cellsP_append (ps qs : List Pl) : cellsP (ps ++ qs) = cellsP ps ++ cellsP qs := by simp [cellsP]
theorem cellsP_length : ∀ ps : List Pl, (cellsP ps).length = ps.length * 3
  | [] => rfl
  | p :: ps => by rw [cellsP_cons, List.length_append, cellsP_length ps]; simp [plC]; omega
theorem cellsP_get : ∀ (ps : List Pl) (k : Nat) (hk : k < ps.length), (cellsP ps)[k * 3]? = some (.int .i64 ps[k].r) ∧ (cellsP ps)[k * 3 + 1]? = some (.int .i64 ps[k].c) ∧ (cellsP ps)[k * 3 + 2]? = some (.int .i64 ps[k].d)
  | [], k, hk => by simp at hk
  | p :: ps, 0, _ => by simp [cellsP_cons, plC]
  | p :: ps, k + 1, hk => by
    have h := cellsP_get ps k (by simpa using hk)
    rw [cellsP_cons]
    have e : (plC p).length = 3 := rfl
    rw [List.getElem?_append_right (by rw [e]; omega), List.getElem?_append_right (by rw [e]; omega), List.getElem?_append_right (by rw [e]; omega), e,
      show (k + 1) * 3 - 3 = k * 3 by omega, show (k + 1) * 3 + 1 - 3 = k * 3 + 1 by omega, show (k + 1) * 3 + 2 - 3 = k * 3 + 2 by omega]
    exact h

/-- Owned places. -/
def OwnP (B : Nat) (w : World) (v : Value) (ps : List Pl) : Prop := w.ownsRow B 80 3 v ps.length (cellsP ps)
theorem OwnP.keep {B : Nat} {w w' : World} {v : Value} {ps : List Pl} (h : OwnP B w v ps) (hs : Above B w w') : OwnP B w' v ps := owns_keep h hs
theorem OwnP.below {B : Nat} {w w' : World} {v : Value} {ps : List Pl} (h : OwnP B w v ps) (hb : Below w.heap.size w w') : OwnP B w' v ps := owns_keep h (.of_below hb)
theorem OwnP.mono {B B' : Nat} {w : World} {v : Value} {ps : List Pl} (h : OwnP B w v ps) (hB : B' ≤ B) : OwnP B' w v ps := owns_mono h hB
theorem OwnP.nil (w : World) (B : Nat) : OwnP B w (.slice none 0 0) [] := World.ownsRow_nil w B _ 3
theorem OwnP.opened {B : Nat} {w : World} {v : Value} {ps : List Pl} (h : OwnP B w v ps) :
    ∃ a cap, v = .slice a ps.length cap ∧ ps.length ≤ cap ∧ cap ≤ 9223372036854775807 ∧
      (0 < ps.length → ∃ g, a = some ⟨g, 0, none⟩ ∧ B ≤ g ∧ g < w.heap.size ∧ ∀ k (h : k < ps.length), w.cell? ⟨g, k * 3, none⟩ = some (.int .i64 ps[k].r) ∧ w.cell? ⟨g, k * 3 + 1, none⟩ = some (.int .i64 ps[k].c) ∧ w.cell? ⟨g, k * 3 + 2, none⟩ = some (.int .i64 ps[k].d)) := by
  obtain ⟨h0, h⟩ := h
  rcases h with ⟨rfl, h1⟩ | ⟨g, cap, cur, rfl, hb, hg, h1, h2, h3, h4⟩
  · exact ⟨none, 0, by rw [h1], by omega, by omega, by omega⟩
  · refine ⟨_, cap, rfl, h1, h2, fun _ => ⟨g, rfl, hb, (Array.getElem?_eq_some_iff.1 hg).1, fun k hk => ?_⟩⟩
    have hc : ∀ j, j < ps.length * 3 → cur[j]? = (cellsP ps)[j]? := fun j hj => by
      rw [← h4, List.getElem?_take, if_pos hj, Array.getElem?_toList]
    obtain ⟨q1, q2, q3⟩ := cellsP_get ps k hk
    rw [cell_of_row _ _ _ _ _ _ hg, cell_of_row _ _ _ _ _ _ hg, cell_of_row _ _ _ _ _ _ hg, hc _ (by omega), hc _ (by omega), hc _ (by omega)]
    exact ⟨q1, q2, q3⟩

/-- A world that has grown out of w. -/
structure GrownS (w : World) where
  val : World
  ok : Below w.heap.size w val
instance (w : World) : Nonempty (GrownS w) := ⟨⟨w, Below.refl _ _⟩⟩
theorem wp_region_grownS {id : Nat} {Q : Exit → Act → World → Prop} {a : Act} {w : World} {l : List Oper} (hm : Try.prog.follows .mixedOrders = true) (hB : Region.lexB .any l.toArray = true)
    (h : wpQuiet Try.prog l.toArray (fun w' => ∃ z : GrownS w, w' = z.val) (fun a' => ∀ w', (∃ z : GrownS w, w' = z.val) → Q .normal a' w') l a) : (Code.region id l.toArray true).wp Try.prog Q a w :=
  wp_region_quiet (C := fun w' => ∃ z : GrownS w, w' = z.val) hm hB ⟨⟨w.drewN 1, (show Drawn w (w.drewN 1) from ⟨1, rfl⟩).below⟩, rfl⟩ (by simpa using h)

theorem drewN_below {w w' : World} (h : Below w.heap.size w w') (n : Nat) : Below w.heap.size w (w'.drewN n) := h.trans ((show Drawn w' (w'.drewN n) from ⟨n, rfl⟩).below.mono h.size)

theorem field_any (p : Pl) (k : Nat) (hr : p.r ≤ 100) (hc : p.c ≤ 100) (hd : p.d ≤ 1) (hk : k ≤ 100) (w : World) :
    Calls Try.prog 94 #[plV p, .int .i64 k] w fun e w' => e = .returned (.tuple #[.int .i64 (p.r + k * p.d : Nat), .int .i64 (p.c + k * (1 - p.d) : Nat)]) ∧ Below w.heap.size w w' := by
  obtain ⟨r, c, d⟩ := p
  simp only [plV] at *
  have h1 : wrap64 ((r : Int) + wrap64 ((k : Int) * (d : Int))) = ((r + k * d : Nat) : Int) := by
    rcases (show d = 0 ∨ d = 1 by omega) with rfl | rfl
    · rw [IntWalk.wrap64_in ((k : Int) * ((0 : Nat) : Int)) ⟨by omega, by omega⟩, IntWalk.wrap64_in _ ⟨by omega, by omega⟩]; omega
    · rw [IntWalk.wrap64_in ((k : Int) * ((1 : Nat) : Int)) ⟨by omega, by omega⟩, IntWalk.wrap64_in _ ⟨by omega, by omega⟩]; omega
  have h2 : wrap64 ((c : Int) + wrap64 ((k : Int) * (1 - (d : Int)))) = ((c + k * (1 - d) : Nat) : Int) := by
    rcases (show d = 0 ∨ d = 1 by omega) with rfl | rfl
    · rw [IntWalk.wrap64_in ((k : Int) * (1 - ((0 : Nat) : Int))) ⟨by omega, by omega⟩, IntWalk.wrap64_in _ ⟨by omega, by omega⟩]; omega
    · rw [IntWalk.wrap64_in ((k : Int) * (1 - ((1 : Nat) : Int))) ⟨by omega, by omega⟩, IntWalk.wrap64_in _ ⟨by omega, by omega⟩]; omega
  have H1 := Lib.hid h1
  have H2 := Lib.hid h2
  clear h1 h2
  go_enter Try.func94, Try.ntmps94
  go_wp2
  go_quiet (fail)
  go_wp2
  go_ret2
  refine ⟨?_, drewN_below ((Below.refl _ _).alloc (Nat.le_refl _) _) _⟩
  show Ending.returned (.tuple #[.int .i64 _, .int .i64 _]) = _
  rw [H1.out, H2.out]

theorem eqPlace_any (p q : Pl) (w : World) :
    Calls Try.prog 90 #[plV p, plV q] w fun e w' => e = .returned (.bool (decide (p = q))) ∧ Below w.heap.size w w' := by
  obtain ⟨r, c, d⟩ := p
  obtain ⟨r', c', d'⟩ := q
  simp only [plV] at *
  have hb : ∀ o o', Below w.heap.size w ((w.alloc o).alloc o') := fun o o' => ((Below.refl _ _).alloc (Nat.le_refl _) _).alloc (by simp) _
  go_enter Try.func90, Try.ntmps90
  by_cases h1 : r = r'
  · by_cases h2 : c = c'
    · by_cases h3 : d = d'
      · subst h1 h2 h3
        go_wp2
        go_ret
        exact ⟨ret_bool (by simp), hb _ _⟩
      · have h3' : ((d : Int) != (d' : Int)) = true := by simp; omega
        subst h1 h2
        have H := Lib.hid h3
        clear h3
        go_wp2
        go_ret
        exact ⟨ret_bool (by have := H.out; simp [this]), hb _ _⟩
    · have h2' : ((c : Int) != (c' : Int)) = true := by simp; omega
      subst h1
      have H := Lib.hid h2
      clear h2
      go_wp2
      go_ret
      exact ⟨ret_bool (by have := H.out; simp [this]), hb _ _⟩
  · have h1' : ((r : Int) != (r' : Int)) = true := by simp; omega
    have H := Lib.hid h1
    clear h1
    go_wp2
    go_ret
    exact ⟨ret_bool (by have := H.out; simp [this]), hb _ _⟩

theorem pl_take {ps qs : List Pl} {k : Nat} (h1 : k < ps.length) (h2 : k < qs.length) (ht : ps.take k = qs.take k) (he : ps[k] = qs[k]) : ps.take (k + 1) = qs.take (k + 1) := by
  rw [List.take_succ_eq_append_getElem h1, List.take_succ_eq_append_getElem h2, ht, he]

set_option maxHeartbeats 1000000 in
theorem eqPlaceS_any {B C : Nat} (a b : Value) (ps qs : List Pl) (w : World) (ha : OwnP B w a ps) (hb : OwnP C w b qs) :
    Calls Try.prog 46 #[a, b] w fun e w' => e = .returned (.bool (decide (ps = qs))) ∧ Below w.heap.size w w' := by
  have HA := Lib.hid ha
  have HB := Lib.hid hb
  obtain ⟨a, cap, rfl, hcap, hmax, hcells⟩ := ha.opened
  obtain ⟨b, cap', rfl, hcap', hmax', hcells'⟩ := hb.opened
  clear ha hb
  by_cases hl : ps.length = qs.length
  · have hl1 : ((ps.length : Int) != (qs.length : Int)) = false := by rw [bne_eq_false_iff_eq]; omega
    have hl2 : ps.length ≤ qs.length := by omega
    have hl3 : qs.length ≤ ps.length := by omega
    clear hl
    go_enter Try.func46, Try.ntmps46
    go_wp2
    go_loopw [5] (fun i wr => ∃ k : Nat, k ≤ ps.length ∧ i = .int .i64 k ∧ ps.take k = qs.take k ∧ Below w.heap.size w wr) (fun i _ => ps.length - (intOf i).toNat)
    case atStart => exact ⟨0, Nat.zero_le _, rfl, rfl, Below.refl _ _⟩
    case round =>
      obtain ⟨k, hk, rfl, ht, hbw⟩ := hrel
      have HT := Lib.hid ht
      have HW := Lib.hid hbw
      clear ht
      by_cases hlt : k < ps.length
      · obtain ⟨_, _, he1, _, _, hc⟩ := (HA.out.below hbw).opened
        injection he1 with q1 _ q3
        subst q1 q3
        obtain ⟨_, _, he2, _, _, hc'⟩ := (HB.out.below hbw).opened
        injection he2 with q1 _ q3
        subst q1 q3
        obtain ⟨g1, rfl, _, _, hc⟩ := hc (by omega)
        obtain ⟨g2, rfl, _, _, hc'⟩ := hc' (by omega)
        obtain ⟨c1, c2, c3⟩ := hc k hlt
        obtain ⟨d1, d2, d3⟩ := hc' k (by omega)
        have hlt' : k < qs.length := by omega
        have hi0 : (0 : Int) ≤ (k : Int) := by omega
        have hi1 : (k : Int) < (ps.length : Int) := by omega
        have hi2 : (k : Int) < (qs.length : Int) := by omega
        have HE := Lib.hid (fun e : ps[k] = qs[k] => pl_take hlt hlt' HT.out e)
        have HN := Lib.hid (fun e : ¬ ps[k] = qs[k] => (show ¬ ps = qs from fun h => e (by simp only [h])))
        have hC : ∀ z : GrownS wr, Calls Try.prog 90 #[.agg #[.int .i64 ps[k].r, .int .i64 ps[k].c, .int .i64 ps[k].d], .agg #[.int .i64 qs[k].r, .int .i64 qs[k].c, .int .i64 qs[k].d]] z.val (fun e w'' => e = .returned (.bool (decide (ps[k] = qs[k]))) ∧ ∃ z' : GrownS wr, w'' = z'.val) := fun z =>
          (eqPlace_any ps[k] qs[k] z.val).mono (fun e w'' ⟨he, hb⟩ => ⟨he, ⟨w'', z.ok.trans (hb.mono z.ok.size)⟩, rfl⟩)
        clear hc hcells hc' hcells' hbw
        obtain ⟨r, hr⟩ : ∃ r, r = ps[k] := ⟨_, rfl⟩
        obtain ⟨r', hr'⟩ : ∃ r', r' = qs[k] := ⟨_, rfl⟩
        rw [← hr] at HE HN hC c1 c2 c3
        rw [← hr'] at HE HN hC d1 d2 d3
        have C1 : ∀ z : GrownS wr, z.val.cell? ⟨g1, k * 3, none⟩ = some (.int .i64 r.r) := fun z => (Above.of_below (B := 0) z.ok).cell (Nat.zero_le _) c1
        have C2 : ∀ z : GrownS wr, z.val.cell? ⟨g1, k * 3 + 1, none⟩ = some (.int .i64 r.c) := fun z => (Above.of_below (B := 0) z.ok).cell (Nat.zero_le _) c2
        have C3 : ∀ z : GrownS wr, z.val.cell? ⟨g1, k * 3 + 2, none⟩ = some (.int .i64 r.d) := fun z => (Above.of_below (B := 0) z.ok).cell (Nat.zero_le _) c3
        have D1 : ∀ z : GrownS wr, z.val.cell? ⟨g2, k * 3, none⟩ = some (.int .i64 r'.r) := fun z => (Above.of_below (B := 0) z.ok).cell (Nat.zero_le _) d1
        have D2 : ∀ z : GrownS wr, z.val.cell? ⟨g2, k * 3 + 1, none⟩ = some (.int .i64 r'.c) := fun z => (Above.of_below (B := 0) z.ok).cell (Nat.zero_le _) d2
        have D3 : ∀ z : GrownS wr, z.val.cell? ⟨g2, k * 3 + 2, none⟩ = some (.int .i64 r'.d) := fun z => (Above.of_below (B := 0) z.ok).cell (Nat.zero_le _) d3
        clear hr hr' c1 c2 c3 d1 d2 d3
        by_cases he : r = r'
        · have HQ := Lib.hid (HE.out he)
          rw [decide_eq_true he] at hC
          clear he HE HN
          go_wp2
          refine wp_region_grownS (by kernel_rfl) (by kernel_rfl) ?_
          repeat (first | go_big_quiet_skip | (go_big_quiet_want; go_big_quiet_op; first | go_big_quiet_on | go_big_quiet_call ((go_at_call 90; exact hC _))))
          refine wpQuiet_nil ?_
          intro w8 hw8
          obtain ⟨z8, hz8⟩ := hw8
          have HB8 := Lib.hid (HW.out.trans (z8.ok.mono HW.out.size))
          rw [← hz8] at HB8
          clear hz8
          go_wp2
          go_roundw
          case rel => exact ⟨k + 1, by omega, by go_num, HQ.out, HB8.out⟩
          case measure => simp [intOf]; omega
        · have HQ := Lib.hid (HN.out he)
          rw [decide_eq_false he] at hC
          clear he HE HN
          go_wp2
          refine wp_region_grownS (by kernel_rfl) (by kernel_rfl) ?_
          repeat (first | go_big_quiet_skip | (go_big_quiet_want; go_big_quiet_op; first | go_big_quiet_on | go_big_quiet_call ((go_at_call 90; exact hC _))))
          refine wpQuiet_nil ?_
          intro w8 hw8
          obtain ⟨z8, hz8⟩ := hw8
          have HB8 := Lib.hid (HW.out.trans (z8.ok.mono HW.out.size))
          rw [← hz8] at HB8
          clear hz8
          go_wp2
          go_ret
          exact ⟨ret_bool (by have := HQ.out; simp [this]), HB8.out⟩
      · have HE := Lib.hid (show ps = qs from by
          have := HT.out
          rwa [List.take_of_length_le (by omega), List.take_of_length_le (by omega)] at this)
        clear hbw
        go_wp2
        go_ret
        exact ⟨ret_bool (by simp [HE.out]), HW.out⟩
  · have hl1 : ((ps.length : Int) != (qs.length : Int)) = true := by simp; omega
    have HE := Lib.hid (show ¬ ps = qs from fun e => hl (by rw [e]))
    clear hl
    go_enter Try.func46, Try.ntmps46
    go_wp2
    go_ret
    exact ⟨ret_bool (by simp [HE.out]), Below.refl _ _⟩

/-! ### Marks -/
def markP (n : Nat) : List Pl := (List.range n).map fun i => ⟨3 * i + 1, 3 * i + 2, 3 * i + 3⟩
theorem markP_length (n : Nat) : (markP n).length = n := by simp [markP]
theorem markP_succ (n : Nat) : markP (n + 1) = markP n ++ [⟨3 * n + 1, 3 * n + 2, 3 * n + 3⟩] := by simp [markP, List.range_succ]
theorem set3 : ∀ (A : List Pl) (p q : Pl) (R : List Pl), (((cellsP (A ++ p :: R)).set (A.length * 3) (.int .i64 q.r)).set (A.length * 3 + 1) (.int .i64 q.c)).set (A.length * 3 + 2) (.int .i64 q.d) = cellsP (A ++ q :: R)
  | [], p, q, R => by simp [cellsP_cons, plC]
  | a :: A, p, q, R => by
    have h := set3 A p q R
    have e : (plC a).length = 3 := rfl
    simp only [List.cons_append, cellsP_cons, List.length_cons]
    rw [← h]
    rw [List.set_append_right _ _ (by rw [e]; omega), List.set_append_right _ _ (by rw [e]; omega), List.set_append_right _ _ (by rw [e]; omega), e,
      show (A.length + 1) * 3 - 3 = A.length * 3 by omega, show (A.length + 1) * 3 + 1 - 3 = A.length * 3 + 1 by omega, show (A.length + 1) * 3 + 2 - 3 = A.length * 3 + 2 by omega]

theorem OwnP.put {B : Nat} {w : World} {g n cap : Nat} {A R : List Pl} {p q : Pl} (h : OwnP B w (.slice (some ⟨g, 0, none⟩) n cap) (A ++ p :: R)) :
    OwnP B (((w.setCell ⟨g, A.length * 3, none⟩ (.int .i64 q.r)).setCell ⟨g, A.length * 3 + 1, none⟩ (.int .i64 q.c)).setCell ⟨g, A.length * 3 + 2, none⟩ (.int .i64 q.d)) (.slice (some ⟨g, 0, none⟩) n cap) (A ++ q :: R) ∧
    w.grownBy (((w.setCell ⟨g, A.length * 3, none⟩ (.int .i64 q.r)).setCell ⟨g, A.length * 3 + 1, none⟩ (.int .i64 q.c)).setCell ⟨g, A.length * 3 + 2, none⟩ (.int .i64 q.d)) (some g) := by
  obtain ⟨_, _, he, _⟩ := h.opened
  injection he with _ e2 _
  unfold OwnP at h ⊢
  rw [← e2] at h
  have h1 := World.ownsRow.stored h (A.length * 3) (.int .i64 q.r)
  have h2 := World.ownsRow.stored h1.1 (A.length * 3 + 1) (.int .i64 q.c)
  have h3 := World.ownsRow.stored h2.1 (A.length * 3 + 2) (.int .i64 q.d)
  rw [set3 A p q R] at h3
  refine ⟨?_, (h1.2.andThen h2.2 (fun _ e => by cases e; exact .inr rfl)).andThen h3.2 (fun _ e => by cases e; exact .inr rfl)⟩
  have e3 : (A ++ q :: R).length = n := by rw [e2]; simp
  rw [e3]
  exact h3.1

end Go.Proofs.Ytpeogghiboaceaa
