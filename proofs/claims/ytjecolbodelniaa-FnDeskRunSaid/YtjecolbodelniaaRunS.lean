/- The reference's DeskRun. Printed by wip/tools/gen_runs.py. -/
import Derived.Test.YtjecolbodelniaaRunI
import Derived.Deep.RegionHeld3
import Derived.Deep.DeepCutAuto
namespace Go.Proofs.Ytjecolbodelniaa
open Go.RowKit Go.Shelf
set_option linter.unusedVariables false
set_option maxRecDepth 100000

theorem cell_lt {w : World} {b j : Nat} {v : Value} (h : w.cell? ⟨b, j, none⟩ = some v) : b < w.heap.size := by
  rcases Nat.lt_or_ge b w.heap.size with q | q
  · exact q
  · exfalso
    have e : w.heap[b]? = none := Array.getElem?_eq_none q
    simp [World.cell?, e] at h

set_option maxHeartbeats 8000000 in
theorem deskRunS_any {B C : Nat} (p c : Int) (v : Value) (gs : List Gs) (vl : Value) (ds : List Dd) (w : World) (h : RG B w v gs) (hl : DL C w vl ds) (hc : ∀ g ∈ gs, g.code.length ≤ 2000000) (hdc : ∀ d ∈ ds, d.code.length ≤ 2000000) :
    Calls Try.prog 27 #[dkV p c v, vl] w (RunRes p c gs ds w) := by
  have HRG := Lib.hid h
  have H64 := Lib.hid h.i64
  have HD64 := Lib.hid hl.in64
  obtain ⟨a, cap, rfl⟩ := h.shape
  obtain ⟨al, capl, V, rfl, hcapl, hmaxl, hcells, hV⟩ := hl
  have HCE := Lib.hid hcells
  have HV := Lib.hid hV
  have HC := Lib.hid hc
  have HDC := Lib.hid hdc
  obtain ⟨w1, hw1⟩ : ∃ w1, w1 = (w.alloc (.cells #[.int .i64 p, .int .i64 c, .slice a gs.length cap] 25)).alloc (.cells #[.int .i64 0, .int .i64 0, .slice none 0 0] 25) := ⟨_, rfl⟩
  have hb1 : Below w.heap.size w w1 := by rw [hw1]; exact ((Below.refl _ _).alloc (Nat.le_refl _) _).alloc (by simp) _
  have hz0 : At w1 w.heap.size (.cells #[.int .i64 p, .int .i64 c, .slice a gs.length cap] 25) := by rw [hw1]; exact (At.new w _).below ((Below.refl _ _).alloc (Nat.le_refl _) _)
  have hz1 : At w1 (w.heap.size + 1) (.cells #[.int .i64 0, .int .i64 0, .slice none 0 0] 25) := by rw [hw1]; have q := At.new (w.alloc (.cells #[.int .i64 p, .int .i64 c, .slice a gs.length cap] 25)) (.cells #[.int .i64 0, .int .i64 0, .slice none 0 0] 25); rw [World.size_alloc] at q; exact q
  have hT := deskOkS_any p c _ gs w1 (h.toGL.below hb1)
  have HB := Lib.hid hb1
  have HA0 := Lib.hid hz0
  have HA1 := Lib.hid hz1
  have HY := Lib.hid (fun (e : Ending) (w' : World) (q : runB p c gs ds = true) => RunRes.yes (w := w) (e := e) (w' := w') q)
  have HNO := Lib.hid (fun (e : Ending) (w' : World) (q : runB p c gs ds = false) => RunRes.no (w := w) (e := e) (w' := w') q)
  obtain ⟨t, ht⟩ : ∃ t, t = deskB p c gs := ⟨_, rfl⟩
  have HT := Lib.hid ht
  rw [← ht] at hT
  unfold dkV at hT
  unfold dkV
  clear h hc hdc hb1 hz0 hz1 ht hcells hV
  go_enter Try.func27, Try.ntmps27
  go_wp2_with fail
  rw [← hw1]
  clear hw1
  refine hT.mono ?_
  rintro e w2 ⟨rfl, hb2⟩
  replace HA0 := Lib.hid (HA0.out.below hb2)
  replace HA1 := Lib.hid (HA1.out.below hb2)
  replace HB := Lib.hid (HB.out.trans (hb2.mono HB.out.size))
  clear hT hb2
  obtain ⟨e0, e1, e2⟩ := HA0.out.three
  obtain ⟨r0, r1, r2, rf⟩ := zero_cells HA1.out
  have hz0 := HA0.out.lt
  cases t
  · have HF := Lib.hid (run_ret (w := w) (p := 0) (c := 0) (gs := []) (v := .slice none 0 0) 0 HA1.out (by omega) ((OwnG.empty _ _).rg (fun g hg => by cases hg)) HB.out)
    go_wp2
    ((try simp only [Exit.inBlock, Exit.then]); refine bodyPost_ret (results_cell_tmp rfl _ _ (w.heap.size + 1) _ _ (0, 0) _ rfl HF.out.2 Try.underlying25 rfl (by kernel_rfl)) rfl ?_)
    exact HNO.out _ _ (by unfold runB; rw [← HT.out]; rfl) HF.out.1
  · by_cases hlong : 40 < (ds.length : Int)
    · have HF := Lib.hid (run_ret (w := w) (p := 0) (c := 0) (gs := []) (v := .slice none 0 0) 0 HA1.out (by omega) ((OwnG.empty _ _).rg (fun g hg => by cases hg)) HB.out)
      have HRB := Lib.hid (show runB p c gs ds = false by unfold runB; rw [decide_eq_false (by omega)]; simp)
      go_wp2
      ((try simp only [Exit.inBlock, Exit.then]); refine bodyPost_ret (results_cell_tmp rfl _ _ (w.heap.size + 1) _ _ (0, 0) _ rfl HF.out.2 Try.underlying25 rfl (by kernel_rfl)) rfl ?_)
      exact HNO.out _ _ HRB.out HF.out.1
    · have HRB := Lib.hid (show runB p c gs ds = true by unfold runB; rw [← HT.out, decide_eq_true (by omega)]; rfl)
      have hdl := deskB_len HT.out.symm
      have hT := copS_any p c _ gs w2 (HRG.out.toGL.below HB.out) (by omega) HC.out
      unfold dkV at hT
      go_wp2_with fail
      refine hT.mono ?_
      rintro e w3 ⟨a3, c3, rfl, ho3, hb3⟩
      unfold dkV
      replace HA1 := Lib.hid (HA1.out.below hb3)
      replace HB := Lib.hid (HB.out.trans (hb3.mono HB.out.size))
      have hs3 := hb3.size
      have HDK := Lib.hid HT.out.symm
      have HR3 := Lib.hid ((ho3.rg H64.out).mono (show w.heap.size ≤ w2.heap.size by omega))
      clear hT ho3 hb3 HA0 e0 e1 e2 r0 r1 r2 rf
      go_wp2
      obtain ⟨W0, hW0⟩ : ∃ z, z = w3.alloc (.cells #[.int .i64 p, .int .i64 c, .slice a3 gs.length c3] 25) := ⟨_, rfl⟩
      have hbn : Below w3.heap.size w3 W0 := by rw [hW0]; exact (Below.refl _ _).alloc (Nat.le_refl _) _
      have han : At W0 w3.heap.size (.cells #[.int .i64 p, .int .i64 c, .slice a3 gs.length c3] 25) := by rw [hW0]; exact At.new _ _
      rw [← hW0]
      clear hW0
      obtain ⟨D, hD⟩ : ∃ z, z = w3.heap.size := ⟨_, rfl⟩
      rw [← hD] at han ⊢
      have HW3 := Lib.hid (show RunW w D (w.heap.size + 1) p c (.slice a3 gs.length c3) gs W0 from ⟨han, HA1.out.below hbn, HR3.out.below hbn, HB.out.trans (hbn.mono HB.out.size), by have := HB.out.size; omega, by omega, by have := HA1.out.lt; omega⟩)
      clear hbn han hD HR3 hs3 HA1 HB
      go_loopw [7, 8] (fun s i wr => ∃ (k : Nat) (v' : Value), k ≤ ds.length ∧ i = .int .i64 k ∧ s = .int .i64 ((runG p c gs (ds.take k)).2 : Nat) ∧ RunW w D (w.heap.size + 1) p c v' (runG p c gs (ds.take k)).1 wr) (fun _ i _ => ds.length - (intOf i).toNat)
      case atStart => exact ⟨0, _, Nat.zero_le _, rfl, rfl, HW3.out⟩
      case round =>
        obtain ⟨k, v', hk, rfl, rfl, hW⟩ := hrel
        obtain ⟨wk, rfl⟩ : ∃ x, x = wr := ⟨_, rfl⟩
        clear HW3
        have hle := run_le p c (ds.take k) gs
        rw [List.length_take] at hle
        by_cases hlt : k < ds.length
        · have hnx := run_next (p := p) (c := c) (gs := gs) hlt
          have h64 := run_i64 (p := p) (c := c) (ds.take k) gs H64.out (fun d hd => HD64.out d (List.mem_of_mem_take hd))
          have hcd := run_codes (p := p) (c := c) (N := 2000000) (ds.take k) gs HC.out (fun d hd => HDC.out d (List.mem_of_mem_take hd))
          have hdk := run_desk (ds.take k) gs HDK.out
          obtain ⟨gk, hgk⟩ : ∃ z, z = (runG p c gs (ds.take k)).1 := ⟨_, rfl⟩
          obtain ⟨nk, hnk⟩ : ∃ z, z = (runG p c gs (ds.take k)).2 := ⟨_, rfl⟩
          rw [← hgk] at hnx h64 hcd hdk hW
          rw [← hnk] at hnx hle ⊢
          obtain ⟨b, off, rfl, _, hcs⟩ := HCE.out (by omega)
          obtain ⟨c0, c1, c2, c3'⟩ := hcs k hlt
          have hb := hW.2.2.2.1
          have q0 := (Above.of_below (B := 0) hb).cell (Nat.zero_le _) c0
          have q1 := (Above.of_below (B := 0) hb).cell (Nat.zero_le _) c1
          have q2 := (Above.of_below (B := 0) hb).cell (Nat.zero_le _) c2
          have q3 := (Above.of_below (B := 0) hb).cell (Nat.zero_le _) c3'
          have hIK := (HV.out k hlt).below hb
          obtain ⟨av, cv, hvv, _⟩ := (HV.out k hlt).opened
          have hxl := HDC.out _ (List.getElem_mem hlt)
          obtain ⟨x, hx⟩ : ∃ x, x = ds[k] := ⟨_, rfl⟩
          rw [← hx] at q0 q2 q3 hIK hvv hxl hnx
          rw [hvv] at q1 hIK
          obtain ⟨x0, x1, x2⟩ := hW.1.three
          obtain ⟨ak, ck, hvk⟩ := hW.2.2.1.shape
          subst hvk
          have HD := Lib.hid (show ∀ W, RG w.heap.size W (.slice ak gk.length ck) gk → Ints C W (.slice av x.code.length cv) x.code → Calls Try.prog 11 #[.agg #[.int .i64 p, .int .i64 c, .slice ak gk.length ck], .agg #[.bool x.back, .slice av x.code.length cv, .int .i64 x.right, .int .i64 x.near]] W (DoOut p c (doneG p c gk x).1 (doneG p c gk x).2 W) from
            fun W r1 r2 => (deskDoS_any p c _ gk x.back _ x.code x.right x.near W r1.toGL r2 hcd hxl).mono fun e w' q => DoRes.done hdk q)
          have H6 := Lib.hid (done_i64 (p := p) (c := c) (d := x) h64 (by rw [hx]; exact HD64.out _ (List.getElem_mem hlt)))
          have HNX := Lib.hid hnx
          have HSAME := Lib.hid (fun q => done_same (p := p) (c := c) (gs := gk) (d := x) q)
          obtain ⟨g2, hg2⟩ : ∃ z, z = (doneG p c gk x).1 := ⟨_, rfl⟩
          obtain ⟨ok, hok⟩ : ∃ z, z = (doneG p c gk x).2 := ⟨_, rfl⟩
          rw [← hg2, ← hok] at HD HNX HSAME
          rw [← hg2] at H6
          have HW := Lib.hid hW
          have hRK := hW.2.2.1
          have hzk := hW.1.lt
          have hzb := cell_lt q0
          have hi0 : (0 : Int) ≤ (k : Int) := by omega
          have hi1 : (k : Int) < (ds.length : Int) := by omega
          have hn0 : (nk : Int) ≤ 1000 := by omega
          have hzN : ¬ (wk.heap.size = D) := by omega
          have hzN1 : ¬ (wk.heap.size = b) := by omega
          clear hnx h64 hcd hdk hgk hnk hcs c0 c1 c2 c3' hb hvv hx hg2 hok hW hle hxl
          go_upto_region 8 with fail
          go_cut [9, 10] (fun s9 s10 wx => Made wk p c g2 s9 wx ∧ s10 = .bool ok)
          case first =>
            go_region_held3 (fun w' => w'.cell? ⟨D, 0, none⟩ = some (.int .i64 p) ∧ w'.cell? ⟨D, 1, none⟩ = some (.int .i64 c) ∧ w'.cell? ⟨D, 2, none⟩ = some (.slice ak gk.length ck) ∧ w'.cell? ⟨b, off + k * 4, none⟩ = some (.bool x.back) ∧ w'.cell? ⟨b, off + k * 4 + 1, none⟩ = some (.slice av x.code.length cv) ∧ w'.cell? ⟨b, off + k * 4 + 2, none⟩ = some (.int .i64 x.right) ∧ w'.cell? ⟨b, off + k * 4 + 3, none⟩ = some (.int .i64 x.near))
              (first
                | go_keep
                | (go_split_ands; exact ⟨(hbC.cell (by simp; omega)).trans (by assumption), (hbC.cell (by simp; omega)).trans (by assumption), (hbC.cell (by simp; omega)).trans (by assumption), (hbC.cell (by simp; omega)).trans (by assumption), (hbC.cell (by simp; omega)).trans (by assumption), (hbC.cell (by simp; omega)).trans (by assumption), (hbC.cell (by simp; omega)).trans (by assumption)⟩)
                | (go_split_ands; exact ⟨(HKC.out.cell (by simp; omega)).trans (by assumption), (HKC.out.cell (by simp; omega)).trans (by assumption), (HKC.out.cell (by simp; omega)).trans (by assumption), (HKC.out.cell (by simp; omega)).trans (by assumption), (HKC.out.cell (by simp; omega)).trans (by assumption), (HKC.out.cell (by simp; omega)).trans (by assumption), (HKC.out.cell (by simp; omega)).trans (by assumption)⟩))
              (first
                | (go_at_call 11; refine (HD.out wk.drew (show RG _ wk.drew _ _ from hRK) (show Ints _ wk.drew _ _ from hIK)).mono ?_; rintro e wC ⟨aC, cC, ccC, rfl, p1, p2, hoC, hbC⟩; unfold dkV; have HKC := Lib.hid (show Below wk.heap.size wk wC from (below_drw _).trans hbC);  have HRC := Lib.hid (show RG wk.heap.size wC (.slice aC g2.length ccC) g2 from ⟨aC, cC, ccC, rfl, p1, p2, hoC.mono (by first | exact Nat.le_refl _ | omega | (simp; done) | (simp; omega)), H6.out⟩); have hzC := HKC.out.size; have hnC0 : ¬ (wC.heap.size = D) := (by omega); have hnC1 : ¬ (wC.heap.size = b) := (by omega); have v0 := (HKC.out.cell hzk).trans x0; have v1 := (HKC.out.cell hzk).trans x1; have v2 := (HKC.out.cell hzk).trans x2; have v3 := (HKC.out.cell hzb).trans q0; have v4 := (HKC.out.cell hzb).trans q1; have v5 := (HKC.out.cell hzb).trans q2; have v6 := (HKC.out.cell hzb).trans q3; clear hoC p1 p2)
                | (go_at_call 11; refine (HD.out (wk.drew.alloc (.cells #[.int .i64 0, .int .i64 0, .slice none 0 0] 25)) (hRK.below (((below_drw _).alloc (Nat.le_refl _) _))) (hIK.below (((below_drw _).alloc (Nat.le_refl _) _)))).mono ?_; rintro e wC ⟨aC, cC, ccC, rfl, p1, p2, hoC, hbC⟩; unfold dkV; have HKC := Lib.hid (show Below wk.heap.size wk wC from ((below_drw _).alloc (Nat.le_refl _) _).trans (hbC.mono (by simp))); have HZZ := Lib.hid (show At wC wk.heap.size _ from (At.new wk.drew (.cells #[.int .i64 0, .int .i64 0, .slice none 0 0] 25)).below hbC); have HZL := Lib.hid (Nat.le_refl wk.heap.size); have zzf := HZZ.out.thaw; obtain ⟨zz0, zz1, zz2⟩ := HZZ.out.three; have HRC := Lib.hid (show RG wk.heap.size wC (.slice aC g2.length ccC) g2 from ⟨aC, cC, ccC, rfl, p1, p2, hoC.mono (by first | exact Nat.le_refl _ | omega | (simp; done) | (simp; omega)), H6.out⟩); have hzC := HKC.out.size; have hnC0 : ¬ (wC.heap.size = D) := (by omega); have hnC1 : ¬ (wC.heap.size = b) := (by omega); have v0 := (HKC.out.cell hzk).trans x0; have v1 := (HKC.out.cell hzk).trans x1; have v2 := (HKC.out.cell hzk).trans x2; have v3 := (HKC.out.cell hzb).trans q0; have v4 := (HKC.out.cell hzb).trans q1; have v5 := (HKC.out.cell hzb).trans q2; have v6 := (HKC.out.cell hzb).trans q3; clear hoC p1 p2)
                | fail)
            all_goals (go_wp2_with fail; go_meet; first | exact ⟨Made.late HKC.out HRC.out, rfl⟩ | exact ⟨Made.early HKC.out HRC.out HZL.out HZZ.out, rfl⟩)
          obtain ⟨hmade, rfl⟩ := hcut
          obtain ⟨t9, aC, ccC, rfl, hb9, ht9, hat9, hr9⟩ := hmade
          obtain ⟨wq, rfl⟩ : ∃ z, z = wc := ⟨_, rfl⟩
          have HWQ := Lib.hid (HW.out.below hb9)
          have HP := Lib.hid (RunW.put (p := p) (c := c) HWQ.out.1 HWQ.out.2.1 HWQ.out.2.2.2.1 HWQ.out.2.2.2.2.1 HWQ.out.2.2.2.2.2.1 HWQ.out.2.2.2.2.2.2 (hr9.mono HW.out.2.2.2.1.size))
          obtain ⟨y0, y1, y2⟩ := hat9.three
          obtain ⟨u0, u1, u2⟩ := HWQ.out.1.three
          have uf := HWQ.out.1.thaw
          clear hb9 ht9 hat9 hr9 x0 x1 x2 q0 q1 q2 q3 hRK hIK hzN hzN1 hzb hzk
          cases ok
          · go_wp2
            go_roundw
            case rel => exact ⟨k + 1, _, by omega, by go_num, by rw [HNX.out.2]; simp, by rw [HNX.out.1, HSAME.out rfl]; exact HWQ.out⟩
            case measure => simp [intOf]; omega
          · go_wp2
            go_roundw
            case rel => exact ⟨k + 1, _, by omega, by go_num, by rw [HNX.out.2]; simp, by rw [HNX.out.1]; exact HP.out⟩
            case measure => simp [intOf]; omega
        · have e : ds.take k = ds := List.take_of_length_le (by omega)
          rw [e] at hW hle ⊢
          obtain ⟨ak, ck, hvk⟩ := hW.2.2.1.shape
          subst hvk
          have HF := Lib.hid (run_ret (p := p) (c := c) ((runG p c gs ds).2 : Nat) hW.2.1 (by omega) hW.2.2.1 hW.2.2.2.1)
          obtain ⟨x0, x1, x2⟩ := hW.1.three
          obtain ⟨r0, r1, r2, rf⟩ := zero_cells hW.2.1
          obtain ⟨G, hG⟩ : ∃ z, z = (runG p c gs ds).1 := ⟨_, rfl⟩
          obtain ⟨M, hM⟩ : ∃ z, z = (runG p c gs ds).2 := ⟨_, rfl⟩
          rw [← hM] at HF ⊢
          rw [← hG] at HF x2
          have HGM := Lib.hid (And.intro hG hM)
          clear hW e hG hM hle
          go_wp2
          ((try simp only [Exit.inBlock, Exit.then]); refine bodyPost_ret (results_cell_tmp rfl _ _ (w.heap.size + 1) _ _ (0, 0) _ rfl HF.out.2 Try.underlying25 rfl (by kernel_rfl)) rfl ?_)
          refine HY.out _ _ HRB.out ?_
          rw [← HGM.out.1, ← HGM.out.2]
          exact HF.out.1

end Go.Proofs.Ytjecolbodelniaa
