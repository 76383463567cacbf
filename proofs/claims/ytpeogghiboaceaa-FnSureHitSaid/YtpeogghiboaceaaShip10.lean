/- HitsOf and StillAt of the reference. -/
import Derived.Test.YtpeogghiboaceaaShip9
import Derived.Maps.AppendAt
namespace Go.Proofs.Ytpeogghiboaceaa
open Go.RowKit
set_option linter.unusedVariables false
set_option maxRecDepth 100000

def fnd (ps : List Pl) (p : Pl) : Nat → Bool
  | 0 => false
  | k + 1 => fnd ps p k || decide (atP ps k = p)
theorem fnd_mem {ps : List Pl} {p : Pl} (h : p ∈ ps) : fnd ps p ps.length = true := by
  obtain ⟨i, hi, rfl⟩ := List.getElem_of_mem h
  have : ∀ k, i < k → k ≤ ps.length → fnd ps ps[i] k = true := by
    intro k
    induction k with
    | zero => omega
    | succ k ih =>
      intro h1 h2
      rw [fnd]
      by_cases e : i < k
      · rw [ih e (by omega)]; rfl
      · have e2 : i = k := by omega
        subst e2
        rw [atP_get hi]; simp
  exact this _ hi (Nat.le_refl _)

set_option maxHeartbeats 4000000 in
theorem specHitsOf_any {B R C l : Nat} (v : Value) (xss : List (List Int)) (p : Pl) (w : World) (h : Rows2 B w v xss) (hok : shotsB R C xss = true) (hbo : boardB R C l = true) (hp : p ∈ placesK R C l R) :
    Calls Try.prog 84 #[.int .i64 R, .int .i64 C, v, plV p, .int .i64 l] w fun e w' => e = .returned (.int .i64 (hitK xss p l)) ∧ Below w.heap.size w w' := by
  obtain ⟨R', C', l', q1, q2, q3, hR1, hR2, hC1, hC2, hl1, hl2⟩ := board_parts hbo
  have q1' : R' = R := by omega
  have q2' : C' = C := by omega
  have q3' : l' = l := by omega
  subst q1' q2' q3'
  obtain ⟨R0, C0, q4, q5, _, _, _, _, hSh⟩ := shots_parts hok
  have q4' : R0 = R' := by omega
  have q5' : C0 = C' := by omega
  subst q4' q5'
  clear q1 q2 q3 q4 q5
  have hfit : FitsP R0 C0 l' p := placesK_fits (Nat.le_refl _) hl1 hp
  have hrng := hitK_rng hSh hfit
  have hPl := placesR_nat hbo
  have hmem := fnd_mem hp
  have hple := placesK_le R0 C0 l' R0 hC2
  obtain ⟨w1, hw1⟩ : ∃ w1, w1 = w.alloc (.cells #[.int .i64 p.r, .int .i64 p.c, .int .i64 p.d] 80) := ⟨_, rfl⟩
  have hb1 : Below w.heap.size w w1 := by rw [hw1]; exact (Below.refl _ _).alloc (Nat.le_refl _) _
  have x1 : w1.cell? ⟨w.heap.size, 0, none⟩ = some (.int .i64 p.r) := by rw [hw1]; exact cell_of_row _ _ 0 _ _ (0, 0) (heap_alloc_new w _)
  have x2 : w1.cell? ⟨w.heap.size, 1, none⟩ = some (.int .i64 p.c) := by rw [hw1]; exact cell_of_row _ _ 1 _ _ (0, 0) (heap_alloc_new w _)
  have x3 : w1.cell? ⟨w.heap.size, 2, none⟩ = some (.int .i64 p.d) := by rw [hw1]; exact cell_of_row _ _ 2 _ _ (0, 0) (heap_alloc_new w _)
  have hPO := specPlacesOf_any (R0 : Int) (C0 : Int) (l' : Int) w1
  rw [hPl] at hPO
  obtain ⟨ps, hps⟩ : ∃ ps, ps = placesK R0 C0 l' R0 := ⟨_, rfl⟩
  rw [← hps] at hPO hmem hple
  have hx1 := h.below hb1
  obtain ⟨a, cap, rfl, _⟩ := h.opened
  rw [hw1] at hPO
  have HW1 := Lib.hid hw1
  have HB1 := Lib.hid hb1
  have HX1 := Lib.hid hx1
  have X1 := Lib.hid x1
  have X2 := Lib.hid x2
  have X3 := Lib.hid x3
  have HOK := Lib.hid hok
  have HSH := Lib.hid hSh
  have HFIT := Lib.hid hfit
  have HR := Lib.hid hrng
  have HMEM := Lib.hid hmem
  have HPL := Lib.hid hple
  unfold plV
  clear hok hbo hp h hx1 hw1 hb1 x1 x2 x3 hSh hfit hrng hPl hmem hps hple
  go_enter Try.func84, Try.ntmps84
  go_wp2_with fail
  refine hPO.mono ?_
  rintro e w2 ⟨a2, c2, rfl, ho2, hb2⟩
  rw [← HW1.out] at hb2 ho2
  have y1 := (Above.of_below (B := 0) hb2).cell (Nat.zero_le _) X1.out
  have y2 := (Above.of_below (B := 0) hb2).cell (Nat.zero_le _) X2.out
  have y3 := (Above.of_below (B := 0) hb2).cell (Nat.zero_le _) X3.out
  have HB2 := Lib.hid (HB1.out.trans (hb2.mono HB1.out.size))
  have HX2 := Lib.hid (HX1.out.below hb2)
  have HO2 := Lib.hid ho2
  obtain ⟨_, _, he2, hcap2, hmax2, hcells2⟩ := ho2.opened
  injection he2 with e1 _ e3
  subst e1 e3
  clear hb2 hPO ho2
  go_wp2
  go_loopw [12, 13] (fun f i wr => ∃ k q : Nat, k ≤ ps.length ∧ i = .int .i64 k ∧ f = .bool (fnd ps p k) ∧ wr = w2.drewN q) (fun _ i _ => ps.length - (intOf i).toNat)
  case atStart => exact ⟨0, 0, Nat.zero_le _, rfl, rfl, rfl⟩
  case round =>
    obtain ⟨k, q, hk, rfl, rfl, rfl⟩ := hrel
    by_cases hlt : k < ps.length
    · obtain ⟨g, rfl, _, _, hc⟩ := hcells2 (by omega)
      obtain ⟨c1, c2', c3⟩ := hc k hlt
      have hi0 : (0 : Int) ≤ (k : Int) := by omega
      have hi1 : (k : Int) < (ps.length : Int) := by omega
      have HFS := Lib.hid (show fnd ps p (k + 1) = (fnd ps p k || decide (ps[k] = p)) by rw [fnd, atP_get hlt])
      have hE := fun W => eqPl ps[k] p W
      have hG := fun op a b W => gdPl op a b ps[k] p W
      obtain ⟨u, hu⟩ : ∃ u, u = ps[k] := ⟨_, rfl⟩
      rw [← hu] at c1 c2' c3 HFS hE hG
      obtain ⟨f, hf⟩ : ∃ f, f = fnd ps p k := ⟨_, rfl⟩
      rw [← hf] at HFS ⊢
      clear hc hcells2 hu hf
      cases f
      · cases hq : decide (u = p)
        · rw [hq] at hE HFS
          clear hq
          go_wp2
          go_quiet (fail)
          go_wp2
          go_roundw
          case rel => exact ⟨k + 1, q + nq, by omega, by go_num, by rw [HFS.out]; rfl, by simp⟩
          case measure => simp [intOf]; omega
        · rw [hq] at hE HFS
          clear hq
          go_wp2
          go_quiet (fail)
          go_wp2
          go_roundw
          case rel => exact ⟨k + 1, q + nq, by omega, by go_num, by rw [HFS.out]; rfl, by simp⟩
          case measure => simp [intOf]; omega
      · clear hE hG c1 c2' c3
        go_wp2
        go_quiet (fail)
        go_wp2
        go_roundw
        case rel => exact ⟨k + 1, q + nq, by omega, by go_num, by rw [HFS.out]; rfl, by simp⟩
        case measure => simp [intOf]; omega
    · have e : k = ps.length := by omega
      have hft : fnd ps p k = true := by rw [e]; exact HMEM.out
      rw [hft]
      obtain ⟨w3, hw3⟩ : ∃ w3, w3 = w2.drewN q := ⟨_, rfl⟩
      have hD : Drawn w2 w3 := ⟨q, hw3⟩
      rw [← hw3]
      have HX3 := Lib.hid (HX2.out.below hD.below)
      have HB3 := Lib.hid (HB2.out.trans (hD.below.mono HB2.out.size))
      have hSO := specShotsOk_any (R0 : Int) (C0 : Int) (.slice a xss.length cap) xss w3 HX3.out
      rw [HOK.out] at hSO
      have z1 := hD.cell y1
      have z2 := hD.cell y2
      have z3 := hD.cell y3
      have hFO := specFieldsOf_any p w3 HFIT.out hR2 hC2 hl1 hl2
      unfold plV at hFO
      clear hcells2 hft e hw3 hD y1 y2 y3
      go_wp2_with (first | (go_at_call 82; refine hSO.mono ?_; rintro e w4 ⟨rfl, rfl⟩) | fail)
      refine hFO.mono ?_
      rintro e w4 ⟨a4, c4, rfl, ho4, hb4⟩
      rw [fieldsL_length] at ho4 ⊢
      have hin : ∀ xs ∈ fieldsL p l', ∀ x ∈ xs, In64 x := by
        intro xs hxs x hx
        unfold fieldsL at hxs
        obtain ⟨i, hi, rfl⟩ := List.mem_map.1 hxs
        have hi' : i < l' := by simpa using hi
        obtain ⟨f1, f2⟩ := fits_field HFIT.out hi'
        simp only [List.mem_cons, List.not_mem_nil, or_false] at hx
        unfold In64
        rcases hx with rfl | rfl <;> omega
      have hr4 := ho4.rows hin
      obtain ⟨_, _, he4, hcap4, hmax4, V4, hc4, hV4⟩ := hr4.opened
      injection he4 with e1 e2 e3
      subst e1 e3
      clear e2
      rw [fieldsL_length] at hcap4 hc4
      have hx4 := HX3.out.below hb4
      obtain ⟨_, _, he5, _, _, V, hcells, hV⟩ := hx4.opened
      injection he5 with e1 e2 e3
      subst e1 e3
      clear e2
      have HB4 := Lib.hid (HB3.out.trans (hb4.mono HB3.out.size))
      clear hin hr4 ho4 hx4 hb4 hFO hSO z1 z2 z3
      go_wp2
      go_loopw [14, 16] (fun s i wr => ∃ k q : Nat, k ≤ l' ∧ i = .int .i64 k ∧ s = .int .i64 (hitK xss p k) ∧ wr = w4.drewN q) (fun _ i _ => l' - (intOf i).toNat)
      case atStart => exact ⟨0, 0, Nat.zero_le _, rfl, rfl, rfl⟩
      case round =>
        obtain ⟨k, q, hk, rfl, rfl, rfl⟩ := hrel
        by_cases hlt : k < l'
        · obtain ⟨q1, q2⟩ := fits_field HFIT.out hlt
          have hxl : xss.length = R0 := HSH.out.1
          have hVk := hV4 k (by rw [fieldsL_length]; exact hlt)
          have eK : (fieldsL p l')[k]'(by rw [fieldsL_length]; exact hlt) = [((p.r + k * p.d : Nat) : Int), ((p.c + k * (1 - p.d) : Nat) : Int)] := by simp only [fieldsL, List.getElem_map, List.getElem_range]
          rw [eK] at hVk
          have HSTEP := Lib.hid (show hitK xss p (k + 1) = hitK xss p k + cellN xss (p.r + k * p.d) (p.c + k * (1 - p.d)) from rfl)
          obtain ⟨X, hX⟩ : ∃ X, X = p.r + k * p.d := ⟨_, rfl⟩
          obtain ⟨Y, hY⟩ : ∃ Y, Y = p.c + k * (1 - p.d) := ⟨_, rfl⟩
          rw [← hX, ← hY] at HSTEP hVk
          rw [← hX] at q1
          rw [← hY] at q2
          have hXl : X < xss.length := by omega
          obtain ⟨hrl, hcell⟩ := HSH.out.2 X hXl
          have hYl : Y < xss[X].length := by omega
          have hc01 := hcell Y hYl
          have HCE := Lib.hid (cellN_at hXl hYl)
          obtain ⟨g, off, rfl, _, hc⟩ := hcells (by omega)
          obtain ⟨ax, cx, hvx, hx1, hx2, hxc⟩ := (hV X hXl).opened
          obtain ⟨gx, ox, rfl, _, hxcc⟩ := hxc (by omega)
          have hcX := hc X hXl
          rw [hvx] at hcX
          have hcY := hxcc Y hYl
          obtain ⟨g4, o4, rfl, _, hcf⟩ := hc4 (by omega)
          obtain ⟨af, cf, hvf, hf1, hf2, hfc⟩ := hVk.opened
          obtain ⟨gf, of, rfl, _, hfcc⟩ := hfc (by simp)
          have hcF := hcf k hlt
          rw [hvf] at hcF
          have hcF0 := hfcc 0 (by simp)
          have hcF1 := hfcc 1 (by simp)
          simp only [List.getElem_cons_zero, List.getElem_cons_succ, Nat.add_zero, List.length_cons, List.length_nil, Nat.zero_add] at hcF0 hcF1 hcF hf1
          obtain ⟨u, hu⟩ : ∃ u, u = xss[X][Y] := ⟨_, rfl⟩
          rw [← hu] at hcY hc01 HCE
          have hrng := HR.out k hk
          obtain ⟨s, hs⟩ : ∃ s, s = hitK xss p k := ⟨_, rfl⟩
          rw [← hs] at hrng HSTEP ⊢
          have i0 : (0 : Int) ≤ (X : Int) := by omega
          have i1 : (X : Int) < (xss.length : Int) := by omega
          have i2 : (0 : Int) ≤ (Y : Int) := by omega
          have i3 : (Y : Int) < (xss[X].length : Int) := by omega
          have i4 : -10 ≤ s ∧ s ≤ 10 := by omega
          have i5 : (0 : Int) ≤ (k : Int) := by omega
          have i6 : (k : Int) < (l' : Int) := by omega
          clear hcells hV hc hxc hxcc hvx hX hY hu hs hcell hrng hxl hrl q1 q2 hVk eK hc4 hV4 hcf hvf hfc hfcc
          go_wp2
          go_quiet (fail)
          go_wp2
          go_roundw
          case rel => exact ⟨k + 1, q + nq, by omega, by go_num, by rw [HSTEP.out, HCE.out], by simp⟩
          case measure => simp [intOf]; omega
        · have e : k = l' := by omega
          subst e
          clear hcells hV hc4 hV4
          go_wp2
          go_ret
          exact ⟨rfl, HB4.out.trans ((show Drawn w4 (w4.drewN q) from ⟨q, rfl⟩).below.mono HB4.out.size)⟩

end Go.Proofs.Ytpeogghiboaceaa
