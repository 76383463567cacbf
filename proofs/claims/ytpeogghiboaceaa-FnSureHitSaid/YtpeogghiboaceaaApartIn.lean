/- ApartIn of the program. -/
import Derived.Test.YtpeogghiboaceaaShipMath
import Derived.Test.YtpeogghiboaceaaShip11
namespace Go.Proofs.Ytpeogghiboaceaa
open Go.RowKit
set_option linter.unusedVariables false
set_option maxRecDepth 100000

def apartR (rows cols long : Int) : Int := if boardB rows cols long = true then (apartN (placesR rows cols long) long.toNat (placesR rows cols long).length : Nat) else -1
/-- What is taken, in memory. -/
def TakenW (g : Nat) (T : Nat → Nat → Bool) (w : World) : Prop := ∀ r c, r < 6 → c < 6 → w.cell? ⟨g, r * 6 + c, none⟩ = some (.bool (T r c)) ∧ w.frozen? ⟨g, r * 6 + c, none⟩ = false
theorem TakenW.below {g : Nat} {T : Nat → Nat → Bool} {w w' : World} (h : TakenW g T w) (hg : g < w.heap.size) (hb : Below w.heap.size w w') : TakenW g T w' := fun r c hr hc => by
  obtain ⟨h1, h2⟩ := h r c hr hc
  refine ⟨(Above.of_below (B := 0) hb).cell (Nat.zero_le _) h1, ?_⟩
  rw [World.frozen?_of_block (w := w) (hb.block g hg)]
  exact h2
theorem set_hit (w : World) (g i : Nat) (u u0 : Value) (h : w.cell? ⟨g, i, none⟩ = some u0) : (w.setCell ⟨g, i, none⟩ u).cell? ⟨g, i, none⟩ = some u := by
  simp only [World.cell?, World.setCell] at h ⊢
  rw [Array.getElem?_modify]
  simp only [if_true]
  cases hb : w.heap[g]? with
  | none => rw [hb] at h; simp at h
  | some o =>
    rw [hb] at h
    cases o with
    | cells cs t fr =>
      have hlt : i < cs.size := by
        have h' : cs[i]? = some u0 := by simpa using h
        exact (Array.getElem?_eq_some_iff.1 h').1
      simp [hlt]
    | _ => simp at h
theorem TakenW.set {g : Nat} {T : Nat → Nat → Bool} {w : World} (h : TakenW g T w) {r c : Nat} (hr : r < 6) (hc : c < 6) : TakenW g (setT T r c) (w.setCell ⟨g, r * 6 + c, none⟩ (.bool true)) := fun r' c' hr' hc' => by
  obtain ⟨h1, h2⟩ := h r' c' hr' hc'
  refine ⟨?_, set_thawed _ _ _ _ _ h2⟩
  by_cases e : r' = r ∧ c' = c
  · obtain ⟨rfl, rfl⟩ := e
    have : setT T r' c' r' c' = true := by unfold setT; simp
    rw [this]
    exact set_hit w _ _ _ _ h1
  · have : setT T r c r' c' = T r' c' := by
      unfold setT
      have : (decide (r' = r) && decide (c' = c)) = false := by
        rw [Bool.and_eq_false_iff, decide_eq_false_iff_not, decide_eq_false_iff_not]
        by_cases e2 : r' = r
        · exact .inr fun e3 => e ⟨e2, e3⟩
        · exact .inl e2
      rw [this, Bool.false_or]
    rw [this]
    exact set_seen w g _ _ _ _ h1 (by omega)

/-- What lies in memory while a place is looked at: what is taken, the places, the place. -/
def ApW (w w1 : World) (g : Nat) (lv : Value) (ps : List Pl) (bx : Nat) (p : Pl) (T : Nat → Nat → Bool) (wi : World) : Prop :=
  TakenW g T wi ∧ OwnP w1.heap.size wi lv ps ∧ Below w.heap.size w wi ∧ w1.heap.size ≤ wi.heap.size ∧ g < w1.heap.size ∧ w.heap.size ≤ g ∧ w1.heap.size ≤ bx ∧
    wi.cell? ⟨bx, 0, none⟩ = some (.int .i64 p.r) ∧ wi.cell? ⟨bx, 1, none⟩ = some (.int .i64 p.c) ∧ wi.cell? ⟨bx, 2, none⟩ = some (.int .i64 p.d)
theorem ApW.below {w w1 : World} {g : Nat} {lv : Value} {ps : List Pl} {bx : Nat} {p : Pl} {T : Nat → Nat → Bool} {wi w' : World} (h : ApW w w1 g lv ps bx p T wi) (hb : Below wi.heap.size wi w') : ApW w w1 g lv ps bx p T w' := by
  obtain ⟨h1, h2, h3, h4, h5, h6, h7, c1, c2, c3⟩ := h
  exact ⟨h1.below (by omega) hb, h2.below hb, h3.trans (hb.mono h3.size), Nat.le_trans h4 hb.size, h5, h6, h7, (Above.of_below (B := 0) hb).cell (Nat.zero_le _) c1, (Above.of_below (B := 0) hb).cell (Nat.zero_le _) c2, (Above.of_below (B := 0) hb).cell (Nat.zero_le _) c3⟩
theorem ApW.set {w w1 : World} {g : Nat} {lv : Value} {ps : List Pl} {bx : Nat} {p : Pl} {T : Nat → Nat → Bool} {wi : World} (h : ApW w w1 g lv ps bx p T wi) {r c : Nat} (hr : r < 6) (hc : c < 6) : ApW w w1 g lv ps bx p (setT T r c) (wi.setCell ⟨g, r * 6 + c, none⟩ (.bool true)) := by
  obtain ⟨h1, h2, h3, h4, h5, h6, h7, c1, c2, c3⟩ := h
  have hg := grownBy_setCell wi ⟨g, r * 6 + c, none⟩ (.bool true)
  have hne : some bx ≠ some g := fun e => by injection e; omega
  refine ⟨h1.set hr hc, h2.kept hg (fun j hj e => by injection e with e; have := (h2.lt j hj).1; simp only at e; omega), h3.grown hg h3.size (fun j hj => by cases hj; exact h6), Nat.le_trans h4 hg.size, h5, h6, h7, hg.cell c1 hne, hg.cell c2 hne, hg.cell c3 hne⟩

set_option maxHeartbeats 4000000 in
theorem implApartIn_any (rows cols long : Int) (w : World) :
    Calls Try.prog 53 #[.int .i64 rows, .int .i64 cols, .int .i64 long] w fun e w' => e = .returned (.int .i64 (apartR rows cols long)) ∧ Below w.heap.size w w' := by
  by_cases hbo : boardB rows cols long = true
  · obtain ⟨R, C, l, rfl, rfl, rfl, hR1, hR2, hC1, hC2, hl1, hl2⟩ := board_parts hbo
    have hi1 : (inB (R : Int) 1 6 && inB (C : Int) 1 6) = true := by simp [inB]; omega
    have hi2 : inB (l : Int) 1 6 = true := by simp [inB]; omega
    have HAP := Lib.hid (show apartR (R : Int) (C : Int) (l : Int) = (apartN (placesR R C l) l (placesR R C l).length : Nat) by unfold apartR; rw [if_pos hbo]; simp)
    have hfit : ∀ p ∈ placesR R C l, FitsP R C l p := fun p hp => placesK_fits (Nat.le_refl _) hl1 (by rw [← placesR_nat hbo]; exact hp)
    have HFIT := Lib.hid hfit
    have HLE := Lib.hid (placesR_le (R : Int) (C : Int) (l : Int))
    obtain ⟨w1, hw1⟩ : ∃ w1, w1 = w.alloc (.cells #[.bool false, .bool false, .bool false, .bool false, .bool false, .bool false, .bool false, .bool false, .bool false, .bool false, .bool false, .bool false, .bool false, .bool false, .bool false, .bool false, .bool false, .bool false, .bool false, .bool false, .bool false, .bool false, .bool false, .bool false, .bool false, .bool false, .bool false, .bool false, .bool false, .bool false, .bool false, .bool false, .bool false, .bool false, .bool false, .bool false] 88) := ⟨_, rfl⟩
    have hb1 : Below w.heap.size w w1 := by rw [hw1]; exact (Below.refl _ _).alloc (Nat.le_refl _) _
    have hs1 : w1.heap.size = w.heap.size + 1 := by rw [hw1]; simp
    have ht1 : TakenW w.heap.size (fun _ _ => false) w1 := fun r c hr hc => by
      rw [hw1]
      refine ⟨?_, frozen_of_row _ _ _ _ _ (heap_alloc_new w _)⟩
      rw [cell_of_row _ _ _ _ _ (0, 0) (heap_alloc_new w _)]
      show (Array.replicate 36 (Value.bool false))[r * 6 + c]? = _
      rw [Array.getElem?_replicate, if_pos (by omega)]
    have HB1 := Lib.hid hb1
    have HT1 := Lib.hid ht1
    have HS1 := Lib.hid hs1
    clear hb1 ht1 hs1 hbo hfit
    go_enter Try.func53, Try.ntmps53
    go_wp2_with (first | (go_at_call 93; refine (isBoard_any _ _ _).mono ?_; rintro e w' ⟨rfl, rfl⟩; rw [hi1]) | (go_at_call 75; refine (in_any _ _ _ _).mono ?_; rintro e w' ⟨rfl, rfl⟩; rw [hi2]) | fail)
    rw [← hw1]
    clear hw1
    refine (implPlacesOf_any _ _ _ _).mono ?_
    rintro e w2 ⟨a2, c2, rfl, ho2, hb2⟩
    obtain ⟨ps, hps⟩ : ∃ ps, ps = placesR (R : Int) (C : Int) (l : Int) := ⟨_, rfl⟩
    rw [← hps] at ho2 HAP HFIT HLE ⊢
    have HO2 := Lib.hid ho2
    have HB2 := Lib.hid hb2
    clear ho2 hb2 hps hi1 hi2
    go_wp2
    go_loopw [8, 32] (fun m i wr => ∃ k : Nat, k ≤ ps.length ∧ i = .int .i64 k ∧ m = .int .i64 (apartN ps l k : Nat) ∧ TakenW w.heap.size (apartT ps l k) wr ∧ OwnP w1.heap.size wr (.slice a2 ps.length c2) ps ∧ Below w.heap.size w wr ∧ w1.heap.size ≤ wr.heap.size) (fun _ i _ => ps.length - (intOf i).toNat)
    case atStart =>
      refine ⟨0, Nat.zero_le _, rfl, rfl, ?_, HO2.out, HB1.out.trans (HB2.out.mono HB1.out.size), HB2.out.size⟩
      exact TakenW.below HT1.out (by have := HS1.out; omega) HB2.out
    case round =>
      obtain ⟨k, hk, rfl, rfl, ht, ho, hb, hsz⟩ := hrel
      by_cases hlt : k < ps.length
      · have HF := Lib.hid (HFIT.out ps[k] (List.getElem_mem hlt))
        have HT := Lib.hid (show apartT ps l (k + 1) = if freeK (apartT ps l k) ps[k] l = true then addK (apartT ps l k) ps[k] l else apartT ps l k by rw [apartT, atP_get hlt])
        have HN := Lib.hid (show apartN ps l (k + 1) = if freeK (apartT ps l k) ps[k] l = true then apartN ps l k + 1 else apartN ps l k by rw [apartN, atP_get hlt])
        have hnk := apartN_le ps l k
        have hle := HLE.out
        obtain ⟨_, _, he2, _, _, hcells⟩ := ho.opened
        injection he2 with e1 e2 e3
        subst e1 e3
        clear e2
        obtain ⟨g2, rfl, _, _, hc⟩ := hcells (by omega)
        obtain ⟨d1, d2, d3⟩ := hc k hlt
        have hi0 : (0 : Int) ≤ (k : Int) := by omega
        have hi1 : (k : Int) < (ps.length : Int) := by omega
        obtain ⟨p, hp⟩ : ∃ p, p = ps[k] := ⟨_, rfl⟩
        rw [← hp] at d1 d2 d3 HF HT HN
        obtain ⟨T, hT⟩ : ∃ T, T = apartT ps l k := ⟨_, rfl⟩
        rw [← hT] at ht HT HN
        obtain ⟨n, hn⟩ : ∃ n, n = apartN ps l k := ⟨_, rfl⟩
        rw [← hn] at HN hnk ⊢
        have hpd : p.r ≤ 5 ∧ p.c ≤ 5 ∧ p.d ≤ 1 := by have := HF.out.1; have := HF.out.2.1; have := HF.out.2.2.1; omega
        have HPD := Lib.hid hpd
        obtain ⟨W1, hW1⟩ : ∃ W1, W1 = wr.alloc (.cells #[.int .i64 p.r, .int .i64 p.c, .int .i64 p.d] 80) := ⟨_, rfl⟩
        have hbW : Below wr.heap.size wr W1 := by rw [hW1]; exact (Below.refl _ _).alloc (Nat.le_refl _) _
        have x1 : W1.cell? ⟨wr.heap.size, 0, none⟩ = some (.int .i64 p.r) := by rw [hW1]; exact cell_of_row _ _ 0 _ _ (0, 0) (heap_alloc_new wr _)
        have x2 : W1.cell? ⟨wr.heap.size, 1, none⟩ = some (.int .i64 p.c) := by rw [hW1]; exact cell_of_row _ _ 1 _ _ (0, 0) (heap_alloc_new wr _)
        have x3 : W1.cell? ⟨wr.heap.size, 2, none⟩ = some (.int .i64 p.d) := by rw [hW1]; exact cell_of_row _ _ 2 _ _ (0, 0) (heap_alloc_new wr _)
        obtain ⟨bx, hbx⟩ : ∃ bx, bx = wr.heap.size := ⟨_, rfl⟩
        have hA : ApW w w1 w.heap.size (.slice (some ⟨g2, 0, none⟩) ps.length c2) ps bx p T W1 := ⟨ht.below (by have := HS1.out; omega) hbW, ho.below hbW, hb.trans (hbW.mono hb.size), by have := hbW.size; omega, by have := HS1.out; omega, Nat.le_refl _, by omega, by rw [hbx]; exact x1, by rw [hbx]; exact x2, by rw [hbx]; exact x3⟩
        have HA := Lib.hid hA
        clear hcells hc hp hT hn ht ho hb hsz hbW x1 x2 x3 hA hpd
        go_wp2
        rw [← hW1, ← hbx]
        clear hW1 hbx
        go_loopw [11, 37] (fun f j wi => ∃ k2 : Nat, k2 ≤ l ∧ j = .int .i64 k2 ∧ f = .bool (freeK T p k2) ∧ ApW w w1 w.heap.size (.slice (some ⟨g2, 0, none⟩) ps.length c2) ps bx p T wi) (fun _ j _ => l - (intOf j).toNat)
        case atStart => exact ⟨0, Nat.zero_le _, rfl, rfl, HA.out⟩
        case round =>
          obtain ⟨j, hj, rfl, rfl, hA⟩ := hrel
          by_cases hlt2 : j < l
          · obtain ⟨q1, q2⟩ := fits_field HF.out hlt2
            have hFd := field_any p j (by have := HPD.out; omega) (by have := HPD.out; omega) (HPD.out.2.2) (by omega) wr
            have HFS := Lib.hid (show freeK T p (j + 1) = (freeK T p j && !T (p.r + j * p.d) (p.c + j * (1 - p.d))) from rfl)
            obtain ⟨X, hX⟩ : ∃ X, X = p.r + j * p.d := ⟨_, rfl⟩
            obtain ⟨Y, hY⟩ : ∃ Y, Y = p.c + j * (1 - p.d) := ⟨_, rfl⟩
            rw [← hX, ← hY] at HFS hFd
            rw [← hX] at q1
            rw [← hY] at q2
            unfold plV at hFd
            obtain ⟨_, _, _, _, _, _, _, y1, y2, y3⟩ := id hA
            have hX6 : X < 6 := by omega
            have hY6 : Y < 6 := by omega
            have i0 : (0 : Int) ≤ (X : Int) := by omega
            have i1 : (X : Int) < 6 := by omega
            have i2 : (0 : Int) ≤ (Y : Int) := by omega
            have i3 : (Y : Int) < 6 := by omega
            have HA2 := Lib.hid hA
            obtain ⟨f, hf⟩ : ∃ f, f = freeK T p j := ⟨_, rfl⟩
            rw [← hf] at HFS ⊢
            clear hX hY hA hf
            go_wp2_with fail
            refine hFd.mono ?_
            rintro e w3 ⟨rfl, hb3⟩
            have hA3 := HA2.out.below hb3
            have hcell := (hA3.1 X Y hX6 hY6).1
            have HA3 := Lib.hid hA3
            obtain ⟨t, htt⟩ : ∃ t, t = T X Y := ⟨_, rfl⟩
            rw [← htt] at hcell HFS
            clear hA3 hb3 hFd y1 y2 y3 htt
            cases f
            · clear hcell
              go_wp2
              go_roundw
              case rel => exact ⟨j + 1, by omega, by go_num, by rw [HFS.out]; rfl, HA3.out⟩
              case measure => simp [intOf]; omega
            · go_wp2
              go_roundw
              case rel => exact ⟨j + 1, by omega, by go_num, by rw [HFS.out]; rfl, HA3.out⟩
              case measure => simp [intOf]; omega
          · have e : j = l := by omega
            rw [e]
            cases hfr : freeK T p l
            · have HA2 := Lib.hid hA
              have HT2 := Lib.hid (show apartT ps l (k + 1) = T by rw [HT.out, if_neg (by rw [hfr]; simp)])
              have HN2 := Lib.hid (show apartN ps l (k + 1) = n by rw [HN.out, if_neg (by rw [hfr]; simp)])
              clear hA hfr
              go_wp2
              go_roundw
              case rel =>
                obtain ⟨h1, h2, h3, h4, _⟩ := HA2.out
                exact ⟨k + 1, by omega, by go_num, by rw [HN2.out], by rw [HT2.out]; exact h1, h2, h3, h4⟩
              case measure => simp [intOf]; omega
            · have HA2 := Lib.hid hA
              have HT2 := Lib.hid (show apartT ps l (k + 1) = addK T p l by rw [HT.out, if_pos hfr])
              have HN2 := Lib.hid (show apartN ps l (k + 1) = n + 1 by rw [HN.out, if_pos hfr])
              obtain ⟨wo, hwo⟩ : ∃ wo, wo = wr := ⟨_, rfl⟩
              rw [← hwo] at HA2 ⊢
              clear hA hfr hwo
              go_wp2
              go_loopw [61] (fun j wi => ∃ k2 : Nat, k2 ≤ l ∧ j = .int .i64 k2 ∧ ApW w w1 w.heap.size (.slice (some ⟨g2, 0, none⟩) ps.length c2) ps bx p (addK T p k2) wi) (fun j _ => l - (intOf j).toNat)
              case atStart => exact ⟨0, Nat.zero_le _, rfl, HA2.out⟩
              case round =>
                obtain ⟨j, hj, rfl, hA⟩ := hrel
                by_cases hlt3 : j < l
                · obtain ⟨q1, q2⟩ := fits_field HF.out hlt3
                  have hFd := field_any p j (by have := HPD.out; omega) (by have := HPD.out; omega) (HPD.out.2.2) (by omega) wr
                  have HFS := Lib.hid (show addK T p (j + 1) = setT (addK T p j) (p.r + j * p.d) (p.c + j * (1 - p.d)) from rfl)
                  obtain ⟨X, hX⟩ : ∃ X, X = p.r + j * p.d := ⟨_, rfl⟩
                  obtain ⟨Y, hY⟩ : ∃ Y, Y = p.c + j * (1 - p.d) := ⟨_, rfl⟩
                  rw [← hX, ← hY] at HFS hFd
                  rw [← hX] at q1
                  rw [← hY] at q2
                  unfold plV at hFd
                  obtain ⟨_, _, _, _, _, _, _, y1, y2, y3⟩ := id hA
                  have hX6 : X < 6 := by omega
                  have hY6 : Y < 6 := by omega
                  have i0 : (0 : Int) ≤ (X : Int) := by omega
                  have i1 : (X : Int) < 6 := by omega
                  have i2 : (0 : Int) ≤ (Y : Int) := by omega
                  have i3 : (Y : Int) < 6 := by omega
                  have HA3 := Lib.hid hA
                  clear hX hY hA
                  go_wp2_with fail
                  refine hFd.mono ?_
                  rintro e w3 ⟨rfl, hb3⟩
                  have hA4 := HA3.out.below hb3
                  obtain ⟨hcell, hfro⟩ := hA4.1 X Y hX6 hY6
                  have HA5 := Lib.hid (hA4.set hX6 hY6)
                  clear hA4 hb3 hFd y1 y2 y3
                  go_wp2
                  go_roundw
                  case rel => exact ⟨j + 1, by omega, by go_num, by rw [HFS.out]; exact HA5.out⟩
                  case measure => simp [intOf]; omega
                · have e : j = l := by omega
                  rw [e] at hA
                  have HA3 := Lib.hid hA
                  clear hA
                  go_wp2
                  go_roundw
                  case rel =>
                    obtain ⟨h1, h2, h3, h4, _⟩ := HA3.out
                    exact ⟨k + 1, by omega, by go_num, by rw [HN2.out]; go_num, by rw [HT2.out]; exact h1, h2, h3, h4⟩
                  case measure => simp [intOf]; omega
      · have e : k = ps.length := by omega
        have HB3 := Lib.hid hb
        have HE := Lib.hid e
        clear ht ho hb e
        go_wp2
        go_ret
        exact ⟨ret_int (by rw [HAP.out, HE.out]), HB3.out⟩
  · have hb : boardB rows cols long = false := by simpa using hbo
    have HR := Lib.hid (show apartR rows cols long = -1 by unfold apartR; rw [if_neg hbo])
    cases hi1 : (inB rows 1 6 && inB cols 1 6)
    · clear hb hbo
      go_enter Try.func53, Try.ntmps53
      go_wp2_with (first | (go_at_call 93; refine (isBoard_any _ _ _).mono ?_; rintro e w' ⟨rfl, rfl⟩; rw [hi1]))
      go_ret
      exact ⟨ret_int (by rw [HR.out]), Below.refl _ _⟩
    · have hi2 : inB long 1 6 = false := by unfold boardB at hb; rw [hi1] at hb; simpa using hb
      clear hb hbo
      go_enter Try.func53, Try.ntmps53
      go_wp2_with (first | (go_at_call 93; refine (isBoard_any _ _ _).mono ?_; rintro e w' ⟨rfl, rfl⟩; rw [hi1]) | (go_at_call 75; refine (in_any _ _ _ _).mono ?_; rintro e w' ⟨rfl, rfl⟩; rw [hi2]))
      go_ret
      exact ⟨ret_int (by rw [HR.out]), Below.refl _ _⟩

end Go.Proofs.Ytpeogghiboaceaa
