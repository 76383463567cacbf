/- StillAt of the reference. -/
import Derived.Test.YtpeogghiboaceaaShip10
namespace Go.Proofs.Ytpeogghiboaceaa
open Go.RowKit
set_option linter.unusedVariables false
set_option maxRecDepth 100000

/-- 'out = append(out, p)', and in which block the new one lies. -/
theorem wpList_push_pl_at (w : World) {ops : Array Oper} {rest : List Oper} {o : Oper} {a : Act} {Q : Exit → Act → World → Prop}
    (hg : o.guard = none) (s x : Operand) (hop : o.op = Op.call { callee := Callee.builtin Builtin.append, args := #[s, x], argTypes := #[47, 47] })
    (B : Nat) (v : Value) (ps : List Pl) (hs : a.eval s = v) (hown : OwnP B w v ps) (ad : Addr) (c : Nat) (p : Pl) (hx : a.eval x = .slice (some ad) 1 c)
    (hc1 : w.cell? (ad.add 0) = some (.int .i64 p.r)) (hc2 : w.cell? (ad.add 1) = some (.int .i64 p.c)) (hc3 : w.cell? (ad.add 2) = some (.int .i64 p.d))
    (hlen : ps.length ≤ 1000000) (hB : B ≤ w.heap.size)
    (hK : ∀ a' cap' w', OwnP B w' (.slice a' (ps.length + 1) cap') (ps ++ [p]) → w.grownBy w' v.ownBlock → ((Value.slice a' (ps.length + 1) cap').ownBlock = v.ownBlock ∨ (Value.slice a' (ps.length + 1) cap').ownBlock = some w.heap.size) → wpList Try.prog ops Q rest (a.put o.dst (.slice a' (ps.length + 1) cap')) w') :
    wpList Try.prog ops Q (o :: rest) a w := by
  obtain ⟨i0, hi, hz0, hz1, hz2⟩ := info_parts infoPl
  refine wpList_append_own_at w hg s x 47 hop B 80 i0 (.agg #[.int .i64 0, .int .i64 0, .int .i64 0]) 3 24 Try.underlying47 hi hz0 hz1 hz2 rfl (by decide) v ps.length (cellsP ps) hs hown ad 1 c (plC p) hx rfl ?_ (by intro u hu; simp [plC] at hu; rcases hu with rfl | rfl | rfl <;> rfl) (by unfold maxLen; omega) (by omega) hB ?_
  · intro j u hj
    match j, hj with
    | 0, hj => simp [plC] at hj; subst hj; exact hc1
    | 1, hj => simp [plC] at hj; subst hj; exact hc2
    | 2, hj => simp [plC] at hj; subst hj; exact hc3
  · intro v' w' h1 h2 _ h4
    obtain ⟨a', cap', rfl, _⟩ := own_shape h1
    refine hK a' cap' w' ?_ h2 h4
    unfold OwnP
    rw [cellsP_append]
    simpa [cellsP] using h1

theorem OwnP.kept {B : Nat} {w w' : World} {v : Value} {ps : List Pl} {row : Option Nat} (h : OwnP B w v ps) (hg : w.grownBy w' row) (hn : ∀ j, v.ownBlock = some j → some j ≠ row) : OwnP B w' v ps := by
  refine ⟨h.1, ?_⟩
  rcases h.2 with h2 | ⟨g, cap, cur, hv, hb, hgg, r⟩
  · exact .inl h2
  · refine .inr ⟨g, cap, cur, hv, hb, ?_, r⟩
    rw [hg.block g (Array.getElem?_eq_some_iff.1 hgg).1 (hn g (by rw [hv]; rfl))]
    exact hgg
theorem OwnP.lt {B : Nat} {w : World} {v : Value} {ps : List Pl} (h : OwnP B w v ps) : ∀ j, v.ownBlock = some j → B ≤ j ∧ j < w.heap.size := fun j hj => World.ownsRow.lt h j hj

theorem filter_take {q : Pl → Bool} {ps : List Pl} {k : Nat} (hk : k < ps.length) : (ps.take (k + 1)).filter q = (ps.take k).filter q ++ (if q ps[k] = true then [ps[k]] else []) := by
  rw [List.take_succ_eq_append_getElem hk, List.filter_append]
  cases hq : q ps[k] <;> simp [hq]

set_option maxHeartbeats 4000000 in
theorem specStillAt_any {B : Nat} (rows cols : Int) (v : Value) (xss : List (List Int)) (long : Int) (w : World) (h : Rows2 B w v xss) :
    Calls Try.prog 44 #[.int .i64 rows, .int .i64 cols, v, .int .i64 long] w (PlOut (stillR rows cols xss long) w) := by
  have h0 := h
  obtain ⟨a, cap, rfl, _⟩ := h.opened
  have HLIT := Lib.hid (OwnP.lit w)
  obtain ⟨w1, hw1⟩ : ∃ w1, w1 = w.alloc (.cells #[] 80) := ⟨_, rfl⟩
  have hb1 : Below w.heap.size w w1 := by rw [hw1]; exact (Below.refl _ _).alloc (Nat.le_refl _) _
  have hs1 : w1.heap.size = w.heap.size + 1 := by rw [hw1]; simp
  have hSO := specShotsOk_any rows cols _ xss w1 (h.below hb1)
  cases hok : shotsB rows cols xss
  · rw [hok, hw1] at hSO
    have HST := Lib.hid (show stillR rows cols xss long = [] by unfold stillR; rw [hok]; rfl)
    have HB1 := Lib.hid hb1
    have HW1 := Lib.hid hw1
    clear h h0 hb1 hok hw1 hs1
    go_enter Try.func44, Try.ntmps44
    go_wp2_with fail
    refine hSO.mono ?_
    rintro e w3 ⟨rfl, rfl⟩
    rw [← HW1.out]
    go_wp2
    go_ret
    exact ⟨_, 0, by rw [HST.out]; rfl, by rw [HST.out, HW1.out]; exact HLIT.out, HB1.out⟩
  · rw [hok, hw1] at hSO
    have HST := Lib.hid (show stillR rows cols xss long = (placesR rows cols long).filter (fun p => decide (hitK xss p long.toNat = 0)) by unfold stillR; rw [hok]; rfl)
    have hPO := specPlacesOf_any rows cols long w1
    have HLE := Lib.hid (placesR_le rows cols long)
    have hbd : ∀ p ∈ placesR rows cols long, boardB rows cols long = true := fun p hp => by
      by_cases hbo : boardB rows cols long = true
      · exact hbo
      · rw [placesR_no (by simpa using hbo)] at hp
        cases hp
    have HBD := Lib.hid hbd
    obtain ⟨ps, hps⟩ : ∃ ps, ps = placesR rows cols long := ⟨_, rfl⟩
    rw [← hps] at hPO HST HBD HLE
    have HPS := Lib.hid hps
    have HOK := Lib.hid hok
    have HB1 := Lib.hid hb1
    have HW1 := Lib.hid hw1
    have HH := Lib.hid h0
    have HS1 := Lib.hid hs1
    clear h h0 hb1 hok hs1 hps hbd
    go_enter Try.func44, Try.ntmps44
    go_wp2_with fail
    refine hSO.mono ?_
    rintro e w3 ⟨rfl, rfl⟩
    rw [← hw1]
    clear hw1 hSO
    go_wp2_with fail
    refine hPO.mono ?_
    rintro e w2 ⟨a2, c2, rfl, ho2, hb2⟩
    have HB2 := Lib.hid hb2
    have HO2 := Lib.hid ho2
    clear hPO hb2 ho2
    go_wp2
    go_loopw [9, 11] (fun o i wr => ∃ (a : Option Addr) (cap k : Nat) (L : List Pl), k ≤ ps.length ∧ i = .int .i64 k ∧ L = (ps.take k).filter (fun p => decide (hitK xss p long.toNat = 0)) ∧ o = .slice a L.length cap ∧ OwnP w.heap.size wr (.slice a L.length cap) L ∧ OwnP w1.heap.size wr (.slice a2 ps.length c2) ps ∧ Below w.heap.size w wr ∧ (∀ j, (Value.slice a L.length cap).ownBlock = some j → j < w1.heap.size ∨ w2.heap.size ≤ j) ∧ w2.heap.size ≤ wr.heap.size) (fun _ i _ => ps.length - (intOf i).toNat)
    case atStart =>
      refine ⟨some ⟨w.heap.size, 0, none⟩, 0, 0, [], Nat.zero_le _, rfl, by simp, rfl, ?_, HO2.out, HB1.out.trans (HB2.out.mono HB1.out.size), fun j hj => ?_, Nat.le_refl _⟩
      · have := HLIT.out
        rw [← HW1.out] at this
        exact OwnP.below this HB2.out
      · have hj' : some w.heap.size = some j := hj
        injection hj' with hj'
        have := HS1.out
        omega
    case round =>
      obtain ⟨a3, c3, k, L, hk, rfl, hL, rfl, ho, hl, hb, hout, hsz⟩ := hrel
      by_cases hlt : k < ps.length
      · have hbo := HBD.out ps[k] (List.getElem_mem hlt)
        obtain ⟨R, C, l, rfl, rfl, rfl, hR1, hR2, hC1, hC2, hl1, hl2⟩ := board_parts hbo
        have hmem : ps[k] ∈ placesK R C l R := by
          have h9 := placesR_nat hbo
          rw [← HPS.out] at h9
          rw [← h9]; exact List.getElem_mem hlt
        have hHit := specHitsOf_any _ xss ps[k] wr (HH.out.below hb) HOK.out hbo hmem
        have hF := filter_take (q := fun p => decide (hitK xss p ((l : Nat) : Int).toNat = 0)) hlt
        rw [← hL] at hF
        have hl72 : L.length ≤ 72 := by
          rw [hL]
          have := HLE.out
          have := List.length_filter_le (fun p => decide (hitK xss p ((l : Nat) : Int).toNat = 0)) (ps.take k)
          rw [List.length_take] at this
          omega
        simp only [Int.toNat_natCast] at hF
        have HL := Lib.hid hl
        obtain ⟨_, _, he2, _, _, hcells⟩ := hl.opened
        injection he2 with e1 e2 e3
        subst e1 e3
        clear e2
        obtain ⟨g2, rfl, _, _, hc⟩ := hcells (by omega)
        obtain ⟨d1, d2, d3⟩ := hc k hlt
        have hi0 : (0 : Int) ≤ (k : Int) := by omega
        have hi1 : (k : Int) < (ps.length : Int) := by omega
        obtain ⟨u, hu⟩ : ∃ u, u = ps[k] := ⟨_, rfl⟩
        rw [← hu] at hHit hF d1 d2 d3
        unfold plV at hHit
        have HO := Lib.hid ho
        have HB := Lib.hid hb
        have hF' : (ps.take (k + 1)).filter (fun p => decide (hitK xss p l = 0)) = L ++ (if hitK xss u l = 0 then [u] else []) := by rw [hF]; simp
        obtain ⟨n, hn⟩ : ∃ n, n = hitK xss u l := ⟨_, rfl⟩
        rw [← hn] at hHit hF'
        have HF := Lib.hid hF'
        have HOUT := Lib.hid hout
        have hbs := hb.size
        clear hcells hc hu ho hb hF hF' hL hbo hmem hl hn hout
        go_wp2_with fail
        refine hHit.mono ?_
        rintro e w3 ⟨rfl, hb3⟩
        have HB3 := Lib.hid hb3
        have z1 := (Above.of_below (B := 0) hb3).cell (Nat.zero_le _) d1
        have z2 := (Above.of_below (B := 0) hb3).cell (Nat.zero_le _) d2
        have z3 := (Above.of_below (B := 0) hb3).cell (Nat.zero_le _) d3
        have hbs3 := hb3.size
        clear hb3 hHit d1 d2 d3
        by_cases hn0 : n = 0
        · have hn1 : (n == 0) = true := by rw [hn0]; rfl
          have HN := Lib.hid hn0
          have hown := (HO.out.below HB3.out).alloc (.cells #[.int .i64 u.r, .int .i64 u.c, .int .i64 u.d] 80)
          clear hn0
          go_wp2_with (at_builtin; refine wpList_push_pl_at _ rfl (.tmp 39) (.tmp 44) rfl w.heap.size _ L rfl hown ⟨w3.heap.size, 0, none⟩ 1 u rfl ?_ ?_ ?_ ?_ ?_ ?_)
          · exact cell_of_row _ _ 0 _ _ (0, 0) (heap_alloc_new w3 _)
          · exact cell_of_row _ _ 1 _ _ (0, 0) (heap_alloc_new w3 _)
          · exact cell_of_row _ _ 2 _ _ (0, 0) (heap_alloc_new w3 _)
          · first | omega | (simp; omega)
          · first | omega | (simp; omega)
          intro a5 c5 w5 ho5 hg5 hat
          have HO5 := Lib.hid ho5
          have HG5 := Lib.hid hg5
          have HAT := Lib.hid hat
          have HOW := Lib.hid hown
          clear ho5 hg5 hat hown
          go_wp2
          go_roundw
          case rel =>
            have hba : Below w3.heap.size w3 (w3.alloc (.cells #[.int .i64 u.r, .int .i64 u.c, .int .i64 u.d] 80)) := (Below.refl _ _).alloc (Nat.le_refl _) _
            have hsa : (w3.alloc (.cells #[.int .i64 u.r, .int .i64 u.c, .int .i64 u.d] 80)).heap.size = w3.heap.size + 1 := by simp
            have hlen : (L ++ [u]).length = L.length + 1 := by simp
            have hF2 : (ps.take (k + 1)).filter (fun p => decide (hitK xss p ((l : Nat) : Int).toNat = 0)) = L ++ [u] := by
              simp only [Int.toNat_natCast]
              rw [HF.out, if_pos HN.out]
            have hb4 := HB.out.trans ((HB3.out.trans (hba.mono HB3.out.size)).mono HB.out.size)
            have hl3 : OwnP w1.heap.size (w3.alloc (.cells #[.int .i64 u.r, .int .i64 u.c, .int .i64 u.d] 80)) (.slice (some ⟨g2, 0, none⟩) ps.length c2) ps := (HL.out.below HB3.out).below hba
            have hl0 := HO2.out.lt g2 rfl
            refine ⟨a5, c5, k + 1, L ++ [u], by omega, by go_num, hF2.symm, by rw [hlen], by rw [hlen]; exact HO5.out, hl3.kept HG5.out (fun j hj e => ?_), hb4.grown HG5.out (by rw [hsa]; omega) (OwnP.blk HOW.out), fun j hj => ?_, by have := HG5.out.size; omega⟩
            · have hj' : some g2 = some j := hj
              injection hj' with hj'
              have := HOUT.out _ e.symm
              omega
            · rw [hlen] at hj
              rcases HAT.out with h1 | h1
              · rw [h1] at hj; exact HOUT.out j hj
              · rw [h1] at hj
                injection hj with hj
                omega
          case measure => simp [intOf]; omega
        · have hn1 : (n == 0) = false := by rw [beq_eq_false_iff_ne]; exact hn0
          have HN := Lib.hid hn0
          clear hn0
          go_wp2
          go_roundw
          case rel =>
            have hF2 : (ps.take (k + 1)).filter (fun p => decide (hitK xss p ((l : Nat) : Int).toNat = 0)) = L := by
              simp only [Int.toNat_natCast]
              rw [HF.out, if_neg HN.out, List.append_nil]
            exact ⟨a3, c3, k + 1, L, by omega, by go_num, hF2.symm, rfl, HO.out.below HB3.out, HL.out.below HB3.out, HB.out.trans (HB3.out.mono HB.out.size), HOUT.out, by omega⟩
          case measure => simp [intOf]; omega
      · have e : k = ps.length := by omega
        have HO := Lib.hid ho
        have HB := Lib.hid hb
        have HL := Lib.hid (show L = stillR rows cols xss long by rw [hL, HST.out, e, List.take_length])
        clear ho hb hl hout hL e
        go_wp2
        go_ret
        exact ⟨a3, c3, by rw [← HL.out]; rfl, by rw [← HL.out]; exact HO.out, HB.out⟩

end Go.Proofs.Ytpeogghiboaceaa
