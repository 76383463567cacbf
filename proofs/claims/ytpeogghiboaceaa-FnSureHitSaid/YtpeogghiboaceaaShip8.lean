/- StillAt of the program. -/
import Derived.Test.YtpeogghiboaceaaShip7
namespace Go.Proofs.Ytpeogghiboaceaa
open Go.RowKit
set_option linter.unusedVariables false
set_option maxRecDepth 100000

def cellN (xss : List (List Int)) (r c : Nat) : Int := (xss.getD r []).getD c 0
def hitK (xss : List (List Int)) (p : Pl) : Nat → Int
  | 0 => 0
  | k + 1 => hitK xss p k + cellN xss (p.r + k * p.d) (p.c + k * (1 - p.d))
/-- The shots at a board of R rows and C columns. -/
def Shots (R C : Nat) (xss : List (List Int)) : Prop := xss.length = R ∧ ∀ i (h : i < xss.length), xss[i].length = C ∧ ∀ j (h' : j < xss[i].length), 0 ≤ xss[i][j] ∧ xss[i][j] ≤ 1
/-- A place on the board. -/
def FitsP (R C l : Nat) (p : Pl) : Prop := p.d ≤ 1 ∧ p.r < R ∧ p.c < C ∧ p.r + (l - 1) * p.d < R ∧ p.c + (l - 1) * (1 - p.d) < C
theorem fits_field {R C l : Nat} {p : Pl} (h : FitsP R C l p) {k : Nat} (hk : k < l) : p.r + k * p.d < R ∧ p.c + k * (1 - p.d) < C := by
  obtain ⟨h1, h2, h3, h4, h5⟩ := h
  rcases (show p.d = 0 ∨ p.d = 1 by omega) with e | e
  · rw [e] at h4 h5 ⊢; simp at h4 h5 ⊢; omega
  · rw [e] at h4 h5 ⊢; simp at h4 h5 ⊢; omega
theorem rowP_fits {R C l r c : Nat} {p : Pl} (hr : r < R) (hc : c < C) (hl : 1 ≤ l) (h : p ∈ rowP R C l r c) : FitsP R C l p := by
  unfold rowP at h
  rw [List.mem_append] at h
  rcases h with h | h
  · split at h
    · simp at h; subst h; unfold FitsP; simp; omega
    · simp at h
  · split at h
    · simp at h; subst h; unfold FitsP; simp; omega
    · simp at h
theorem colsP_fits {R C l r k : Nat} {p : Pl} (hr : r < R) (hk : k ≤ C) (hl : 1 ≤ l) (h : p ∈ colsP R C l r k) : FitsP R C l p := by
  induction k with
  | zero => simp [colsP] at h
  | succ k ih =>
    rw [colsP, List.mem_append] at h
    rcases h with h | h
    · exact ih (by omega) h
    · exact rowP_fits hr (by omega) hl h
theorem placesK_fits {R C l k : Nat} {p : Pl} (hk : k ≤ R) (hl : 1 ≤ l) (h : p ∈ placesK R C l k) : FitsP R C l p := by
  induction k with
  | zero => simp [placesK] at h
  | succ k ih =>
    rw [placesK, List.mem_append] at h
    rcases h with h | h
    · exact ih (by omega) h
    · exact colsP_fits (by omega) (Nat.le_refl _) hl h
theorem shots_parts {rows cols : Int} {xss : List (List Int)} (h : shotsB rows cols xss = true) : ∃ R C : Nat, rows = R ∧ cols = C ∧ 1 ≤ R ∧ R ≤ 6 ∧ 1 ≤ C ∧ C ≤ 6 ∧ Shots R C xss := by
  unfold shotsB at h
  rw [Bool.and_eq_true, Bool.and_eq_true, Bool.and_eq_true, decide_eq_true_eq, List.all_eq_true] at h
  obtain ⟨⟨⟨h1, h2⟩, h3⟩, h4⟩ := h
  simp [inB] at h1 h2
  refine ⟨rows.toNat, cols.toNat, by omega, by omega, by omega, by omega, by omega, by omega, by omega, fun i hi => ?_⟩
  have h5 := h4 xss[i] (List.getElem_mem hi)
  unfold shotRow at h5
  rw [Bool.and_eq_true, decide_eq_true_eq] at h5
  refine ⟨by omega, fun j hj => ?_⟩
  have h6 := h5.2
  unfold allB at h6
  rw [List.all_eq_true] at h6
  have := h6 _ (List.getElem_mem hj)
  simp [inB] at this
  exact this
theorem cellN_at {xss : List (List Int)} {r c : Nat} (h : r < xss.length) (h' : c < xss[r].length) : cellN xss r c = xss[r][c] := by
  unfold cellN
  simp [List.getD, List.getElem?_eq_getElem h, List.getElem?_eq_getElem h']
theorem hitK_rng {R C l : Nat} {xss : List (List Int)} {p : Pl} (hS : Shots R C xss) (hf : FitsP R C l p) : ∀ k, k ≤ l → 0 ≤ hitK xss p k ∧ hitK xss p k ≤ k
  | 0, _ => by simp [hitK]
  | k + 1, hk => by
    have ih := hitK_rng hS hf k (by omega)
    obtain ⟨q1, q2⟩ := fits_field hf (show k < l by omega)
    obtain ⟨s1, s2⟩ := hS
    obtain ⟨s3, s4⟩ := s2 (p.r + k * p.d) (by omega)
    have := s4 (p.c + k * (1 - p.d)) (by omega)
    rw [hitK, cellN_at (by omega) (by omega)]
    omega

set_option maxHeartbeats 1000000 in
theorem hits_any {B R C l : Nat} (v : Value) (xss : List (List Int)) (p : Pl) (w : World) (h : Rows2 B w v xss) (hS : Shots R C xss) (hf : FitsP R C l p) (hR : R ≤ 6) (hC : C ≤ 6) (hl : l ≤ 6) :
    Calls Try.prog 89 #[v, plV p, .int .i64 l] w fun e w' => e = .returned (.int .i64 (hitK xss p l)) ∧ Below w.heap.size w w' := by
  obtain ⟨a, cap, rfl, hcap, hmax, V, hcells, hV⟩ := h.opened
  have hpr : p.r ≤ 100 ∧ p.c ≤ 100 ∧ p.d ≤ 1 := by have := hf.1; have := hf.2.1; have := hf.2.2.1; omega
  have hrng := hitK_rng hS hf
  obtain ⟨w1, hw1⟩ : ∃ w1, w1 = w.alloc (.cells #[.int .i64 p.r, .int .i64 p.c, .int .i64 p.d] 80) := ⟨_, rfl⟩
  have hb1 : Below w.heap.size w w1 := by rw [hw1]; exact (Below.refl _ _).alloc (Nat.le_refl _) _
  have hs1 : w.heap.size < w1.heap.size := by rw [hw1]; simp
  have x1 : w1.cell? ⟨w.heap.size, 0, none⟩ = some (.int .i64 p.r) := by rw [hw1]; exact cell_of_row _ _ 0 _ _ (0, 0) (heap_alloc_new w _)
  have x2 : w1.cell? ⟨w.heap.size, 1, none⟩ = some (.int .i64 p.c) := by rw [hw1]; exact cell_of_row _ _ 1 _ _ (0, 0) (heap_alloc_new w _)
  have x3 : w1.cell? ⟨w.heap.size, 2, none⟩ = some (.int .i64 p.d) := by rw [hw1]; exact cell_of_row _ _ 2 _ _ (0, 0) (heap_alloc_new w _)
  have HP := Lib.hid hpr
  have HS := Lib.hid hS
  have HF := Lib.hid hf
  have HB1 := Lib.hid hb1
  have HR := Lib.hid hrng
  unfold plV
  clear hpr hS hf hb1 hrng h
  go_enter Try.func89, Try.ntmps89
  go_wp2
  rw [← hw1]
  clear hw1
  go_loopw [7, 12] (fun s i wr => ∃ k : Nat, k ≤ l ∧ i = .int .i64 k ∧ s = .int .i64 (hitK xss p k) ∧ Below w1.heap.size w1 wr) (fun _ i _ => l - (intOf i).toNat)
  case atStart => exact ⟨0, Nat.zero_le _, rfl, rfl, Below.refl _ _⟩
  case round =>
    obtain ⟨k, hk, rfl, rfl, hb⟩ := hrel
    by_cases hlt : k < l
    · obtain ⟨q1, q2⟩ := fits_field HF.out hlt
      have hxl : xss.length = R := HS.out.1
      have hFd := field_any p k (HP.out.1) (HP.out.2.1) (HP.out.2.2) (by omega) wr
      have HSTEP := Lib.hid (show hitK xss p (k + 1) = hitK xss p k + cellN xss (p.r + k * p.d) (p.c + k * (1 - p.d)) from rfl)
      obtain ⟨X, hX⟩ : ∃ X, X = p.r + k * p.d := ⟨_, rfl⟩
      obtain ⟨Y, hY⟩ : ∃ Y, Y = p.c + k * (1 - p.d) := ⟨_, rfl⟩
      rw [← hX, ← hY] at HSTEP hFd
      rw [← hX] at q1
      rw [← hY] at q2
      have hXl : X < xss.length := by omega
      obtain ⟨hrl, hcell⟩ := HS.out.2 X hXl
      have hYl : Y < xss[X].length := by omega
      have hc01 := hcell Y hYl
      have HCE := Lib.hid (cellN_at hXl hYl)
      obtain ⟨g, off, rfl, _, hc⟩ := hcells (by omega)
      obtain ⟨ax, cx, hvx, hx1, hx2, hxc⟩ := (hV X hXl).opened
      obtain ⟨gx, ox, rfl, _, hxcc⟩ := hxc (by omega)
      have hcX := hc X hXl
      rw [hvx] at hcX
      have hcY := hxcc Y hYl
      have z1 := (Above.of_below (B := 0) hb).cell (Nat.zero_le _) x1
      have z2 := (Above.of_below (B := 0) hb).cell (Nat.zero_le _) x2
      have z3 := (Above.of_below (B := 0) hb).cell (Nat.zero_le _) x3
      obtain ⟨u, hu⟩ : ∃ u, u = xss[X][Y] := ⟨_, rfl⟩
      rw [← hu] at hcY hc01 HCE
      have hrng := HR.out k hk
      obtain ⟨s, hs⟩ : ∃ s, s = hitK xss p k := ⟨_, rfl⟩
      rw [← hs] at hrng HSTEP ⊢
      unfold plV at hFd
      have HBW := Lib.hid hb
      have i0 : (0 : Int) ≤ (X : Int) := by omega
      have i1 : (X : Int) < (xss.length : Int) := by omega
      have i2 : (0 : Int) ≤ (Y : Int) := by omega
      have i3 : (Y : Int) < (xss[X].length : Int) := by omega
      have i4 : -10 ≤ s ∧ s ≤ 10 := by omega
      clear hcells hV hc hxc hxcc hvx hX hY hu hs hb hcell hrng hxl hrl q1 q2
      go_wp2_with fail
      refine hFd.mono ?_
      rintro e w3 ⟨rfl, hb3⟩
      have hb13 := HBW.out.trans (hb3.mono HBW.out.size)
      have HB3 := Lib.hid hb13
      have d1 := (Above.of_below (B := 0) (HB1.out.trans (hb13.mono HB1.out.size))).cell (Nat.zero_le _) hcX
      have d2 := (Above.of_below (B := 0) (HB1.out.trans (hb13.mono HB1.out.size))).cell (Nat.zero_le _) hcY
      clear hb3 hb13 hcX hcY hFd z1 z2 z3
      go_wp2
      go_roundw
      case rel => exact ⟨k + 1, by omega, by go_num, by rw [HSTEP.out, HCE.out], HB3.out⟩
      case measure => simp [intOf]; omega
    · have e : k = l := by omega
      subst e
      have HBW := Lib.hid hb
      clear hb hcells hV
      go_wp2
      go_ret
      exact ⟨rfl, HB1.out.trans (HBW.out.mono HB1.out.size)⟩

theorem still1_any {B R C l : Nat} (v : Value) (xss : List (List Int)) (p : Pl) (w : World) (b1 b2 : Nat) (h : Rows2 B w v xss) (hS : Shots R C xss) (hf : FitsP R C l p) (hR : R ≤ 6) (hC : C ≤ 6) (hl : l ≤ 6)
    (h1 : w.cell? ⟨b1, 0, none⟩ = some v) (h2 : w.cell? ⟨b2, 0, none⟩ = some (.int .i64 l)) :
    Calls Try.prog 88 #[plV p, .pointer (some ⟨b1, 0, none⟩), .pointer (some ⟨b2, 0, none⟩)] w fun e w' => e = .returned (.bool (decide (0 < hitK xss p l))) ∧ Below w.heap.size w w' := by
  obtain ⟨w1, hw1⟩ : ∃ w1, w1 = w.alloc (.cells #[.int .i64 p.r, .int .i64 p.c, .int .i64 p.d] 80) := ⟨_, rfl⟩
  have hb1 : Below w.heap.size w w1 := by rw [hw1]; exact (Below.refl _ _).alloc (Nat.le_refl _) _
  have hH := hits_any (B := B) v xss p w1 (h.below hb1) hS hf hR hC hl
  obtain ⟨a, cap, rfl, _⟩ := h.opened
  unfold plV at hH
  rw [hw1] at hH
  have y1 := (Above.of_below (B := 0) hb1).cell (Nat.zero_le _) h1
  have y2 := (Above.of_below (B := 0) hb1).cell (Nat.zero_le _) h2
  rw [hw1] at y1 y2
  have HB1 := Lib.hid hb1
  have HW1 := Lib.hid hw1
  unfold plV
  clear h hS hf hb1 hw1
  go_enter Try.func88, Try.ntmps88
  go_wp2_with fail
  refine hH.mono ?_
  rintro e w3 ⟨rfl, hb3⟩
  rw [← HW1.out] at hb3
  have HB3 := Lib.hid (HB1.out.trans (hb3.mono HB1.out.size))
  clear hb3 hH
  go_wp2
  go_ret
  exact ⟨rfl, HB3.out⟩

def stillR (rows cols : Int) (xss : List (List Int)) (long : Int) : List Pl := if shotsB rows cols xss = true then (placesR rows cols long).filter (fun p => decide (hitK xss p long.toNat = 0)) else []

set_option maxHeartbeats 1000000 in
theorem implStillAt_any {B : Nat} (rows cols : Int) (v : Value) (xss : List (List Int)) (long : Int) (w : World) (h : Rows2 B w v xss) :
    Calls Try.prog 45 #[.int .i64 rows, .int .i64 cols, v, .int .i64 long] w (PlOut (stillR rows cols xss long) w) := by
  obtain ⟨a, cap, rfl, _⟩ := h.opened
  obtain ⟨w1, hw1⟩ : ∃ w1, w1 = (w.alloc (.cells #[.slice a xss.length cap] 22)).alloc (.cells #[.int .i64 long] 3) := ⟨_, rfl⟩
  have hb1 : Below w.heap.size w w1 := by rw [hw1]; exact ((Below.refl _ _).alloc (Nat.le_refl _) _).alloc (by simp) _
  have x1 : w1.cell? ⟨w.heap.size, 0, none⟩ = some (.slice a xss.length cap) := by rw [hw1]; simp
  have x2 : w1.cell? ⟨w.heap.size + 1, 0, none⟩ = some (.int .i64 long) := by rw [hw1]; simp
  have hs1 : w1.heap.size = w.heap.size + 2 := by rw [hw1]; simp
  have hSO := implShotsOk_any rows cols _ xss w1 (h.below hb1)
  cases hok : shotsB rows cols xss
  · rw [hok] at hSO
    have HST := Lib.hid (show stillR rows cols xss long = [] by unfold stillR; rw [hok]; rfl)
    rw [hw1] at hSO
    have HB1 := Lib.hid hb1
    have HW1 := Lib.hid hw1
    rw [hw1] at x1 x2
    clear h hb1 hok hw1 hs1
    go_enter Try.func45, Try.ntmps45
    go_wp2_with fail
    refine hSO.mono ?_
    rintro e w3 ⟨rfl, hb3⟩
    rw [← HW1.out] at hb3
    have HB3 := Lib.hid (HB1.out.trans (hb3.mono HB1.out.size))
    clear hb3 hSO
    go_wp2
    go_ret
    exact ⟨none, 0, by rw [HST.out]; rfl, by rw [HST.out]; exact OwnP.nil _ _, HB3.out⟩
  · rw [hok] at hSO
    have HST := Lib.hid (show stillR rows cols xss long = (placesR rows cols long).filter (fun p => decide (hitK xss p long.toNat = 0)) by unfold stillR; rw [hok]; rfl)
    have HOK := Lib.hid hok
    rw [hw1] at hSO
    have HB1 := Lib.hid hb1
    have HW1 := Lib.hid hw1
    have HH := Lib.hid h
    have X1 := Lib.hid x1
    have X2 := Lib.hid x2
    have HS1 := Lib.hid hs1
    rw [hw1] at x1 x2
    clear h hb1 hok hw1 hs1
    go_enter Try.func45, Try.ntmps45
    go_wp2_with fail
    refine hSO.mono ?_
    rintro e w3 ⟨rfl, hb3⟩
    rw [← HW1.out] at hb3
    clear hSO x1 x2
    have y2 := (Above.of_below (B := 0) hb3).cell (Nat.zero_le _) X2.out
    have HB3 := Lib.hid hb3
    clear hb3
    go_wp2_with fail
    refine (implPlacesOf_any _ _ _ _).mono ?_
    rintro e w4 ⟨a4, c4, rfl, ho4, hb4⟩
    have hb14 := HB3.out.trans (hb4.mono HB3.out.size)
    have hb04 := HB1.out.trans (hb14.mono HB1.out.size)
    have hs3 := HB3.out.size
    have hs1 := HS1.out
    have hblk := OwnP.blk ho4
    have hT : TellsP 88 #[.pointer (some ⟨w.heap.size, 0, none⟩), .pointer (some ⟨w.heap.size + 1, 0, none⟩)] (fun p => decide (0 < hitK xss p long.toNat)) (placesR rows cols long) (Value.slice a4 (placesR rows cols long).length c4).ownBlock w4 := by
      refine ⟨enters_of Try.func88 (by kernel_rfl) rfl, fun W hW p hp => ?_⟩
      by_cases hbo : boardB rows cols long = true
      · obtain ⟨R, C, l, rfl, rfl, rfl, hR1, hR2, hC1, hC2, hl1, hl2⟩ := board_parts hbo
        obtain ⟨R', C', e1, e2, _, _, _, _, hSh⟩ := shots_parts HOK.out
        have e1' : R' = R := by omega
        have e2' : C' = C := by omega
        subst e1' e2'
        have hfit : FitsP R' C' l p := placesK_fits (Nat.le_refl _) hl1 (by rw [← placesR_nat hbo]; exact hp)
        have far : ∀ j, j < w1.heap.size → W.heap[j]? = w1.heap[j]? := fun j hj => by
          rw [hW.block j (by have := hb14.size; omega) (fun e => by have := hblk j e.symm; omega)]
          exact hb14.block j hj
        have keepc : ∀ (b : Nat) (u : Value), b < w1.heap.size → w1.cell? ⟨b, 0, none⟩ = some u → W.cell? ⟨b, 0, none⟩ = some u := fun b u hb hc => by
          rw [World.cell?_of_block (w := w1) (far b hb)]; exact hc
        have hrows : Rows2 B W (.slice a xss.length cap) xss := HH.out.keep (fun b _ hb => by
          rw [far b (by omega)]
          exact HB1.out.block b hb)
        have := still1_any (B := B) (.slice a xss.length cap) xss p W w.heap.size (w.heap.size + 1) hrows hSh hfit hR2 hC2 hl2 (keepc _ _ (by omega) X1.out) (keepc _ _ (by omega) X2.out)
        simpa using this
      · rw [placesR_no (by simpa using hbo)] at hp
        cases hp
    have hDl := deleteP_any _ _ _ ho4 _ _ _ hT
    have HF := Lib.hid (show (placesR rows cols long).filter (fun p => !decide (0 < hitK xss p long.toNat)) = stillR rows cols xss long by
      rw [HST.out]
      apply List.filter_congr
      intro p hp
      by_cases hbo : boardB rows cols long = true
      · obtain ⟨R, C, l, rfl, rfl, rfl, hR1, hR2, hC1, hC2, hl1, hl2⟩ := board_parts hbo
        obtain ⟨R', C', e1, e2, _, _, _, _, hSh⟩ := shots_parts HOK.out
        have e1' : R' = R := by omega
        have e2' : C' = C := by omega
        subst e1' e2'
        have hfit : FitsP R' C' l p := placesK_fits (Nat.le_refl _) hl1 (by rw [← placesR_nat hbo]; exact hp)
        have := hitK_rng hSh hfit l (Nat.le_refl _)
        have e : ((l : Nat) : Int).toNat = l := by simp
        rw [e]
        rw [Bool.eq_iff_iff]; simp; omega
      · rw [placesR_no (by simpa using hbo)] at hp
        cases hp)
    have hblk2 : ∀ j, (Value.slice a4 (placesR rows cols long).length c4).ownBlock = some j → w.heap.size ≤ j := fun j hj => by have := hblk j hj; omega
    have HBK := Lib.hid hblk2
    have HB4 := Lib.hid hb04
    have hle : w.heap.size ≤ w3.heap.size := by omega
    have HLE := Lib.hid hle
    clear hT hblk hblk2 hb4 hb14 hb04 hs3 hs1 ho4 hle
    go_wp2_with fail
    refine hDl.mono ?_
    rintro e w5 ⟨a5, c5, rfl, ho5, hg5⟩
    have HO5 := Lib.hid ho5
    have HG5 := Lib.hid hg5
    clear ho5 hg5 hDl
    go_wp2
    go_ret
    refine ⟨a5, c5, by rw [← HF.out]; rfl, by rw [← HF.out]; exact HO5.out.mono HLE.out, HB4.out.grown HG5.out HB4.out.size HBK.out⟩

end Go.Proofs.Ytpeogghiboaceaa
