/- The walk of FnExactDeskDo. Printed by wip/tools/gen_exdo.py. -/
import Derived.Test.YtjecolbodelniaaKeep
import Derived.Test.YtjecolbodelniaaBunI
import Derived.Deep.RegionHeld3
import Derived.Deep.DeepCutAuto
namespace Go.Proofs.Ytjecolbodelniaa
open Go.RowKit Go.Shelf
set_option linter.unusedVariables false
set_option maxRecDepth 100000

theorem szG_codes {gs : List Gs} (hs : 0 ≤ szSS (gs.map Gs.code) 1048576) : (∀ g ∈ gs, g.code.length ≤ 2000000) ∧ totG gs ≤ 4000000 := by
  have hb := szSS_bound hs (by omega)
  rw [List.length_map] at hb
  have ht := totG_eq gs
  refine ⟨fun g hg => ?_, by omega⟩
  have := tot_mem (List.mem_map_of_mem (f := Gs.code) hg)
  omega
theorem szSS_le (xss : List (List Int)) (l : Int) (hl : 0 ≤ l) : szSS xss l ≤ l := by
  by_cases h : 0 ≤ szSS xss l
  · have e : szSS xss l = l - (xss.length : Int) - (tot xss : Int) := by
      unfold szSS at h ⊢
      split at h
      · rename_i hx
        rw [if_pos hx, szGo_neg xss _ (by omega) h]
      · omega
    omega
  · omega
theorem szR_pos {xs : List Int} {k : Int} (h : 0 ≤ szR xs k) (hk : k ≤ 1048576) : xs.length ≤ 2000000 := by
  unfold szR at h
  split at h
  · omega
  · omega
theorem szR_ge (xs : List Int) (k : Int) (h : 0 ≤ k) : -1 ≤ szR xs k := by
  unfold szR; split <;> omega

set_option maxHeartbeats 8000000 in
theorem FnExactDeskDo_walk (p c : Int) (v : Value) (gs : List Gs) (b : Bool) (u : Value) (xs : List Int) (r n : Int) (w : World) (h : GL 0 w v gs) (hu : Ints 0 w u xs) :
    Calls Try.prog 4 #[dkV p c v, dV b u r n] w fun e w' => e = .returned (.bool true) ∧ Below w.heap.size w w' := by
  obtain ⟨a, cap, rfl⟩ : ∃ a cap, v = .slice a gs.length cap := by obtain ⟨a, cap, _, hv, _⟩ := h; exact ⟨a, cap, hv⟩
  obtain ⟨au, cu, rfl, _⟩ := hu.opened
  have hge := szSS_ge (gs.map Gs.code) 1048576 (by omega)
  have h64 := h.in64
  obtain ⟨wa, hwa⟩ : ∃ z, z = (w.alloc (.cells #[.int .i64 p, .int .i64 c, .slice a gs.length cap] 43)).alloc (.cells #[.bool b, .slice au xs.length cu, .int .i64 r, .int .i64 n] 46) := ⟨_, rfl⟩
  have hba : Below w.heap.size w wa := by rw [hwa]; exact ((Below.refl _ _).alloc (Nat.le_refl _) _).alloc (by simp) _
  have hAD : At wa w.heap.size (.cells #[.int .i64 p, .int .i64 c, .slice a gs.length cap] 43) := by rw [hwa]; exact (At.new w _).below ((Below.refl _ _).alloc (Nat.le_refl _) _)
  have hAA : At wa (w.heap.size + 1) (.cells #[.bool b, .slice au xs.length cu, .int .i64 r, .int .i64 n] 46) := by rw [hwa]; have q := At.new (w.alloc (.cells #[.int .i64 p, .int .i64 c, .slice a gs.length cap] 43)) (.cells #[.bool b, .slice au xs.length cu, .int .i64 r, .int .i64 n] 46); rw [World.size_alloc] at q; exact q
  have hsa : wa.heap.size = w.heap.size + 2 := by rw [hwa]; simp
  have HD := Lib.hid (fun p c v => show dkV p c v = .agg #[.int .i64 p, .int .i64 c, v] from rfl)
  have HDD := Lib.hid (fun b v r n => show dV b v r n = .agg #[.bool b, v, .int .i64 r, .int .i64 n] from rfl)
  have hS := szDesk_any p c _ gs 1048576 wa (h.below hba) (by omega) (by omega)
  have HGL := Lib.hid (h.below hba)
  have HIN := Lib.hid (hu.below hba)
  have H64 := Lib.hid h64
  have HX64 := Lib.hid hu.2
  have HAD := Lib.hid hAD
  have HAA := Lib.hid hAA
  have HB := Lib.hid hba
  have K0 := Lib.hid (Kp.refl 0 wa)
  obtain ⟨r1, hr1⟩ : ∃ q, q = szSS (gs.map Gs.code) 1048576 := ⟨_, rfl⟩
  rw [← hr1] at hS hge
  have HR1 := Lib.hid hr1
  have HSA := Lib.hid hsa
  rw [HD.out] at hS
  rw [HD.out, HDD.out]
  have hza : w.heap.size + 1 < wa.heap.size := by omega
  clear h hu h64 hba hAD hAA hr1 hsa
  go_enter Try.func4, Try.ntmps4
  go_wp2_with fail
  rw [← hwa]
  clear hwa
  refine hS.mono ?_
  rintro e w1 ⟨rfl, hb1⟩
  replace K0 := Lib.hid (K0.out.below hb1)
  replace HB := Lib.hid (HB.out.trans (hb1.mono HB.out.size))
  clear hS hb1
  by_cases hs1 : r1 < 0
  · go_wp2
    go_ret
    exact ⟨rfl, HB.out⟩
  obtain ⟨y0, y1, y2, y3⟩ := (K0.out.at_ HAA.out (Nat.zero_le _)).four
  have hS := szDeed_any b _ xs r n r1 w1 (K0.out.ints HIN.out) (by omega) (by have := szSS_le (gs.map Gs.code) 1048576 (by omega); rw [← HR1.out] at this; omega)
  have hge2 := szR_ge xs r1 (by omega)
  obtain ⟨r2, hr2⟩ : ∃ q, q = szR xs r1 := ⟨_, rfl⟩
  rw [← hr2] at hS hge2
  have HR2 := Lib.hid hr2
  rw [HDD.out] at hS
  clear hr2
  go_wp2_with fail
  refine hS.mono ?_
  rintro e w2 ⟨rfl, hb2⟩
  replace K0 := Lib.hid (K0.out.below hb2)
  replace HB := Lib.hid (HB.out.trans (hb2.mono HB.out.size))
  clear hS hb2 y0 y1 y2 y3
  by_cases hs2 : r2 < 0
  · go_wp2
    go_ret
    exact ⟨rfl, HB.out⟩
  have hcd := szG_codes (gs := gs) (by rw [← HR1.out]; omega)
  have hxl : xs.length ≤ 2000000 := szR_pos (k := r1) (by rw [← HR2.out]; omega) (by have := szSS_le (gs.map Gs.code) 1048576 (by omega); rw [← HR1.out] at this; omega)
  have htd := (szG_bound (gs := gs) (l := 1048576) (by rw [← HR1.out]; omega) (by omega) (by omega))
  have HCD := Lib.hid hcd.1
  have htg := hcd.2
  obtain ⟨p', c', gs', ok, hform, h64', htg'⟩ := DoRes.form p c gs ⟨b, xs, r, n⟩ H64.out HX64.out
  simp only at htg'
  have H64' := Lib.hid h64'
  have HTD := Lib.hid (show ∀ W, GL 0 W (.slice a gs.length cap) gs → Calls Try.prog 18 #[.agg #[.int .i64 p, .int .i64 c, .slice a gs.length cap]] W (DeskOut p c gs W) from fun W q => toDesk_any p c _ gs W q htd.1 htd.2)
  have HTE := Lib.hid (show ∀ W, Ints 0 W (.slice au xs.length cu) xs → Calls Try.prog 19 #[.agg #[.bool b, .slice au xs.length cu, .int .i64 r, .int .i64 n]] W (DeedOut b xs r n W) from fun W q => toDeed_any b _ xs r n W q (by omega))
  have HSD := Lib.hid (show ∀ (B C : Nat) (W : World) (a2 : Option Addr) (c2 : Nat) (a3 : Option Addr) (c3 : Nat), GL B W (.slice a2 gs.length c2) gs → Ints C W (.slice a3 xs.length c3) xs → Calls Try.prog 11 #[.agg #[.int .i64 p, .int .i64 c, .slice a2 gs.length c2], .agg #[.bool b, .slice a3 xs.length c3, .int .i64 r, .int .i64 n]] W (DoOut p' c' gs' ok W) from
    fun B C W a2 c2 a3 c3 q1 q2 => (deskDoS_any p c _ gs b _ xs r n W q1 q2 HCD.out hxl).mono fun e w' q => hform W e w' q)
  have HID := Lib.hid (show ∀ (B C : Nat) (W : World) (a2 : Option Addr) (c2 : Nat) (a3 : Option Addr) (c3 : Nat), RG B W (.slice a2 gs.length c2) gs → OwnI C W (.slice a3 xs.length c3) xs → Calls Try.prog 10 #[.agg #[.int .i64 p, .int .i64 c, .slice a2 gs.length c2], .agg #[.bool b, .slice a3 xs.length c3, .int .i64 r, .int .i64 n]] W (DoOut p' c' gs' ok W) from
    fun B C W a2 c2 a3 c3 q1 q2 => (deskDoI_any p c _ gs b _ xs r n W q1 (q2.toInts HX64.out) q2.nilOr HCD.out hxl).mono fun e w' q => hform W e w' q)
  have HEQ := Lib.hid (fun (B C : Nat) (p c : Int) (gs : List Gs) (v v' : Value) (W : World) (q1 : GL B W v gs) (q2 : GL C W v' gs) => eqDesk_self p c v v' gs W q1 q2)
  have HEE := Lib.hid (fun (B C : Nat) (v v' : Value) (W : World) (q1 : Ints B W v xs) (q2 : Ints C W v' xs) => eqDeed_self b v v' xs r n W q1 q2)
  have HKW := Lib.hid (show wa.heap.size ≤ w2.heap.size from K0.out.1)
  have HKW2 := Lib.hid (show w.heap.size + 1 < wa.heap.size from hza)
  clear hform hcd htd h64'
  obtain ⟨x0, x1, x2⟩ := (K0.out.at_ HAD.out (Nat.zero_le _)).three
  obtain ⟨y0, y1, y2, y3⟩ := (K0.out.at_ HAA.out (Nat.zero_le _)).four
  have hz0 := (K0.out.at_ HAA.out (Nat.zero_le _)).lt
  have hz00 := (K0.out.at_ HAD.out (Nat.zero_le _)).lt
  have hzN : ¬ (w2.heap.size = w.heap.size) := by omega
  have hzN1 : ¬ (w2.heap.size = w.heap.size + 1) := by omega
  go_upto_region 8 with fail
  go_cut [6, 7] (fun s6 s7 wx => Made w2 p' c' gs' s6 wx ∧ s7 = .bool ok)
  case first =>
    go_region_held3 (fun w' => w'.cell? ⟨w.heap.size, 0, none⟩ = some (.int .i64 p) ∧ w'.cell? ⟨w.heap.size, 1, none⟩ = some (.int .i64 c) ∧ w'.cell? ⟨w.heap.size, 2, none⟩ = some (.slice a gs.length cap) ∧ w'.cell? ⟨w.heap.size + 1, 0, none⟩ = some (.bool b) ∧ w'.cell? ⟨w.heap.size + 1, 1, none⟩ = some (.slice au xs.length cu) ∧ w'.cell? ⟨w.heap.size + 1, 2, none⟩ = some (.int .i64 r) ∧ w'.cell? ⟨w.heap.size + 1, 3, none⟩ = some (.int .i64 n))
      (first
        | go_keep
        | (go_split_ands; exact ⟨(hbA.cell (by simp; omega)).trans (by assumption), (hbA.cell (by simp; omega)).trans (by assumption), (hbA.cell (by simp; omega)).trans (by assumption), (hbA.cell (by simp; omega)).trans (by assumption), (hbA.cell (by simp; omega)).trans (by assumption), (hbA.cell (by simp; omega)).trans (by assumption), (hbA.cell (by simp; omega)).trans (by assumption)⟩)
        | (go_split_ands; exact ⟨(hbB.cell (by simp; omega)).trans (by assumption), (hbB.cell (by simp; omega)).trans (by assumption), (hbB.cell (by simp; omega)).trans (by assumption), (hbB.cell (by simp; omega)).trans (by assumption), (hbB.cell (by simp; omega)).trans (by assumption), (hbB.cell (by simp; omega)).trans (by assumption), (hbB.cell (by simp; omega)).trans (by assumption)⟩)
        | (go_split_ands; exact ⟨(hbC.cell (by simp; omega)).trans (by assumption), (hbC.cell (by simp; omega)).trans (by assumption), (hbC.cell (by simp; omega)).trans (by assumption), (hbC.cell (by simp; omega)).trans (by assumption), (hbC.cell (by simp; omega)).trans (by assumption), (hbC.cell (by simp; omega)).trans (by assumption), (hbC.cell (by simp; omega)).trans (by assumption)⟩)
        | (go_split_ands; exact ⟨(HKA.out.cell (by simp; omega)).trans (by assumption), (HKA.out.cell (by simp; omega)).trans (by assumption), (HKA.out.cell (by simp; omega)).trans (by assumption), (HKA.out.cell (by simp; omega)).trans (by assumption), (HKA.out.cell (by simp; omega)).trans (by assumption), (HKA.out.cell (by simp; omega)).trans (by assumption), (HKA.out.cell (by simp; omega)).trans (by assumption)⟩)
        | (go_split_ands; exact ⟨(HKC.out.cell (by simp; omega)).trans (by assumption), (HKC.out.cell (by simp; omega)).trans (by assumption), (HKC.out.cell (by simp; omega)).trans (by assumption), (HKC.out.cell (by simp; omega)).trans (by assumption), (HKC.out.cell (by simp; omega)).trans (by assumption), (HKC.out.cell (by simp; omega)).trans (by assumption), (HKC.out.cell (by simp; omega)).trans (by assumption)⟩))
      (first
      | (go_at_call 18; refine (HTD.out w2.drew (show GL 0 w2.drew _ _ from K0.out.gl HGL.out)).mono ?_; rintro e wA ⟨aA, cA, rfl, hoA, hbA⟩; rw [HD.out]; have HKA := Lib.hid (show Below w2.heap.size w2 wA from (below_drw _).trans hbA);  have HOA := Lib.hid (show OwnG w2.heap.size wA _ _ from hoA.mono (Nat.le_refl _)); have hzA := HKA.out.size; have hn0wA : ¬ (wA.heap.size = w.heap.size) := (by omega); have hn1wA : ¬ (wA.heap.size = w.heap.size + 1) := (by omega); clear hoA)
      | (go_at_call 18; refine (HTD.out (w2.drew.alloc (.cells #[.int .i64 0, .int .i64 0, .slice none 0 0] 25)) ((show GL 0 w2.drew _ _ from K0.out.gl HGL.out).below ((Below.refl _ _).alloc (Nat.le_refl _) _))).mono ?_; rintro e wA ⟨aA, cA, rfl, hoA, hbA⟩; rw [HD.out]; have HKA := Lib.hid (show Below w2.heap.size w2 wA from ((below_drw _).alloc (Nat.le_refl _) _).trans (hbA.mono (by simp))); have HZZ := Lib.hid (show At wA w2.heap.size _ from (At.new w2.drew (.cells #[.int .i64 0, .int .i64 0, .slice none 0 0] 25)).below hbA); have HZL := Lib.hid (Nat.le_refl w2.heap.size); have HOA := Lib.hid (show OwnG w2.heap.size wA _ _ from hoA.mono (by simp)); have hzA := HKA.out.size; have hn0wA : ¬ (wA.heap.size = w.heap.size) := (by omega); have hn1wA : ¬ (wA.heap.size = w.heap.size + 1) := (by omega); clear hoA)
      | (go_at_call 19; refine (HTE.out wA ((K0.out.ints HIN.out).below HKA.out)).mono ?_; rintro e wB ⟨aB, cB, rfl, hoB, hbB⟩; rw [HDD.out]; have HKB := Lib.hid (show Below wA.heap.size wA wB from hbB); (try replace HZZ := Lib.hid (HZZ.out.below hbB)); have HOB := Lib.hid (show OwnI wA.heap.size wB _ _ from OwnI.mono2 hoB (Nat.le_refl _)); have hzB := HKB.out.size; have hn0wB : ¬ (wB.heap.size = w.heap.size) := (by omega); have hn1wB : ¬ (wB.heap.size = w.heap.size + 1) := (by omega); clear hoB)
      | (go_at_call 19; refine (HTE.out (wA.alloc (.cells #[.int .i64 0, .int .i64 0, .slice none 0 0] 25)) (((K0.out.ints HIN.out).below HKA.out).below ((Below.refl _ _).alloc (Nat.le_refl _) _))).mono ?_; rintro e wB ⟨aB, cB, rfl, hoB, hbB⟩; rw [HDD.out]; have HKB := Lib.hid (show Below wA.heap.size wA wB from ((Below.refl _ _).alloc (Nat.le_refl _) _).trans (hbB.mono (by simp))); have HZZ := Lib.hid (show At wB wA.heap.size _ from (At.new wA (.cells #[.int .i64 0, .int .i64 0, .slice none 0 0] 25)).below hbB); have HZL := Lib.hid HKA.out.size; have HOB := Lib.hid (show OwnI wA.heap.size wB _ _ from OwnI.mono2 hoB (by simp)); have hzB := HKB.out.size; have hn0wB : ¬ (wB.heap.size = w.heap.size) := (by omega); have hn1wB : ¬ (wB.heap.size = w.heap.size + 1) := (by omega); clear hoB)
      | (go_at_call 11; refine (HSD.out _ _ wB _ _ _ _ (((HOA.out.below HKB.out)).toGL H64.out) ((HOB.out.toInts HX64.out))).mono ?_; rintro e wC ⟨aC, cC, ccC, rfl, q1, q2, hoC, hbC⟩; rw [HD.out]; have HKC := Lib.hid ((HKA.out.trans (HKB.out.mono HKA.out.size)).trans ((show Below wB.heap.size wB wC from hbC).mono (Nat.le_trans HKA.out.size HKB.out.size))); (try replace HZZ := Lib.hid (HZZ.out.below hbC)); have HRC := Lib.hid (show RG w2.heap.size wC (.slice aC gs'.length ccC) gs' from ⟨aC, cC, ccC, rfl, q1, q2, hoC.mono (by first | omega | (simp; omega)), H64'.out⟩); have hzC := HKC.out.size; have KC := K0.out.below HKC.out; obtain ⟨v0, v1, v2⟩ := (KC.at_ HAD.out (Nat.zero_le _)).three; obtain ⟨v3, v4, v5, v6⟩ := (KC.at_ HAA.out (Nat.zero_le _)).four; (try (obtain ⟨z0, z1, z2⟩ := HZZ.out.three; have zf := HZZ.out.thaw)); clear hoC KC q1 q2)
      | (go_at_call 11; refine (HSD.out _ _ (wB.alloc (.cells #[.int .i64 0, .int .i64 0, .slice none 0 0] 25)) _ _ _ _ (((HOA.out.below HKB.out).alloc _).toGL H64.out) ((HOB.out.toInts HX64.out).below ((Below.refl _ _).alloc (Nat.le_refl _) _))).mono ?_; rintro e wC ⟨aC, cC, ccC, rfl, q1, q2, hoC, hbC⟩; rw [HD.out]; have HKC := Lib.hid ((HKA.out.trans (HKB.out.mono HKA.out.size)).trans ((show Below wB.heap.size wB wC from ((Below.refl _ _).alloc (Nat.le_refl _) _).trans (hbC.mono (by simp))).mono (Nat.le_trans HKA.out.size HKB.out.size))); have HZZ := Lib.hid (show At wC wB.heap.size _ from (At.new wB (.cells #[.int .i64 0, .int .i64 0, .slice none 0 0] 25)).below hbC); have HZL := Lib.hid (Nat.le_trans HKA.out.size HKB.out.size); have HRC := Lib.hid (show RG w2.heap.size wC (.slice aC gs'.length ccC) gs' from ⟨aC, cC, ccC, rfl, q1, q2, hoC.mono (by first | omega | (simp; omega)), H64'.out⟩); have hzC := HKC.out.size; have KC := K0.out.below HKC.out; obtain ⟨v0, v1, v2⟩ := (KC.at_ HAD.out (Nat.zero_le _)).three; obtain ⟨v3, v4, v5, v6⟩ := (KC.at_ HAA.out (Nat.zero_le _)).four; (try (obtain ⟨z0, z1, z2⟩ := HZZ.out.three; have zf := HZZ.out.thaw)); clear hoC KC q1 q2)
      | fail)
    all_goals (go_wp2_with fail; go_meet; first | exact ⟨Made.late HKC.out HRC.out, rfl⟩ | exact ⟨Made.early HKC.out HRC.out HZL.out HZZ.out, rfl⟩)
  obtain ⟨hmade, rfl⟩ := hcut
  obtain ⟨t6, aC, ccC, rfl, hb, ht6, hat6, hrt6⟩ := hmade
  obtain ⟨wk1, rfl⟩ : ∃ z, z = wc := ⟨_, rfl⟩
  clear x0 x1 x2 y0 y1 y2 y3 hz0 hz00 hzN hzN1
  replace K0 := Lib.hid (K0.out.below hb)
  replace HB := Lib.hid (HB.out.trans (hb.mono HB.out.size))
  have HAt6 := Lib.hid hat6
  have HR1 := Lib.hid hrt6
  have K1 := Lib.hid (Kp.refl w2.heap.size wk1)
  obtain ⟨z1, hz1⟩ : ∃ z, z = w2.heap.size := ⟨_, rfl⟩
  rw [← hz1] at HR1 K1 ht6
  have HZ1 := Lib.hid hz1
  have HS1 := Lib.hid ht6
  clear hb ht6 hat6 hrt6 hz1
  obtain ⟨x0, x1, x2⟩ := (K0.out.at_ HAD.out (Nat.zero_le _)).three
  obtain ⟨y0, y1, y2, y3⟩ := (K0.out.at_ HAA.out (Nat.zero_le _)).four
  have hz0 := (K0.out.at_ HAA.out (Nat.zero_le _)).lt
  have hz00 := (K0.out.at_ HAD.out (Nat.zero_le _)).lt
  go_wp2_with fail
  refine (HTD.out _ (K0.out.gl HGL.out)).mono ?_
  rintro e wx ⟨ax, cx, rfl, hox, hbx⟩
  rw [HD.out]
  replace K0 := Lib.hid (K0.out.below hbx)
  replace K1 := Lib.hid (K1.out.below hbx)
  replace HB := Lib.hid (HB.out.trans (hbx.mono HB.out.size))
  obtain ⟨x0, x1, x2⟩ := (K0.out.at_ HAD.out (Nat.zero_le _)).three
  obtain ⟨y0, y1, y2, y3⟩ := (K0.out.at_ HAA.out (Nat.zero_le _)).four
  have hz0 := (K0.out.at_ HAA.out (Nat.zero_le _)).lt
  have hz00 := (K0.out.at_ HAD.out (Nat.zero_le _)).lt
  go_wp2_with fail
  obtain ⟨zx, hzx⟩ : ∃ z, z = wk1.heap.size := ⟨_, rfl⟩
  rw [← hzx] at hox
  obtain ⟨wkx, hwn⟩ : ∃ z, z = wx.alloc (.cells #[.int .i64 p, .int .i64 c, .slice ax gs.length cx] 25) := ⟨_, rfl⟩
  have hbn : Below wx.heap.size wx wkx := by rw [hwn]; exact (Below.refl _ _).alloc (Nat.le_refl _) _
  have han : At wkx wx.heap.size (.cells #[.int .i64 p, .int .i64 c, .slice ax gs.length cx] 25) := by rw [hwn]; exact At.new _ _
  rw [← hwn]
  clear hwn
  obtain ⟨t8, ht8⟩ : ∃ z, z = wx.heap.size := ⟨_, rfl⟩
  rw [← ht8] at han ⊢
  replace K0 := Lib.hid (K0.out.below hbn)
  replace K1 := Lib.hid (K1.out.below hbn)
  replace HB := Lib.hid (HB.out.trans (hbn.mono HB.out.size))
  have HAt8 := Lib.hid han
  have HZt8 := Lib.hid ht8
  have Kx := Lib.hid (Kp.refl zx wkx)
  have HOX := Lib.hid (hox.below hbn)
  have HZX := Lib.hid hzx
  have HBX := Lib.hid (show zx ≤ t8 from by rw [hzx, ht8]; exact hbx.size)
  clear hbn han ht8 hox hbx hzx x0 x1 x2 y0 y1 y2 y3 hz0 hz00
  refine (HTE.out _ (K0.out.ints HIN.out)).mono ?_
  rintro e wd ⟨ad, cd, rfl, hod, hbd⟩
  rw [HDD.out]
  replace K0 := Lib.hid (K0.out.below hbd)
  replace K1 := Lib.hid (K1.out.below hbd)
  replace Kx := Lib.hid (Kx.out.below hbd)
  replace HB := Lib.hid (HB.out.trans (hbd.mono HB.out.size))
  obtain ⟨u0, u1, u2⟩ := (Kx.out.at_ HAt8.out HBX.out).three
  have hzx0 := Kx.out.1
  have hzt8 : t8 < wd.heap.size := (Kx.out.at_ HAt8.out HBX.out).lt
  go_wp2_with fail
  obtain ⟨zd, hzd⟩ : ∃ z, z = wkx.heap.size := ⟨_, rfl⟩
  rw [← hzd] at hod
  obtain ⟨wkd, hwn⟩ : ∃ z, z = wd.alloc (.cells #[.bool b, .slice ad xs.length cd, .int .i64 r, .int .i64 n] 30) := ⟨_, rfl⟩
  have hbn : Below wd.heap.size wd wkd := by rw [hwn]; exact (Below.refl _ _).alloc (Nat.le_refl _) _
  have han : At wkd wd.heap.size (.cells #[.bool b, .slice ad xs.length cd, .int .i64 r, .int .i64 n] 30) := by rw [hwn]; exact At.new _ _
  rw [← hwn]
  clear hwn
  obtain ⟨t9, ht9⟩ : ∃ z, z = wd.heap.size := ⟨_, rfl⟩
  rw [← ht9] at han ⊢
  replace K0 := Lib.hid (K0.out.below hbn)
  replace K1 := Lib.hid (K1.out.below hbn)
  replace Kx := Lib.hid (Kx.out.below hbn)
  replace HB := Lib.hid (HB.out.trans (hbn.mono HB.out.size))
  have HAt9 := Lib.hid han
  have HZt9 := Lib.hid ht9
  have Kd := Lib.hid (Kp.refl zd wkd)
  have HOD := Lib.hid (show OwnI zd wkd _ _ from owns_below hod hbn)
  have HZD := Lib.hid hzd
  have HBD := Lib.hid (show zd ≤ t9 from by rw [hzd, ht9]; exact hbd.size)
  clear hbn han ht9 hod hbd hzd u0 u1 u2 hzx0 hzt8
  refine (HID.out _ _ _ _ _ _ _ ((Kx.out.owng HOX.out).rg H64.out) HOD.out).mono ?_
  rintro e wg ⟨ag, cg, ccg, rfl, q1, q2, hog, hbg⟩
  rw [HD.out]
  replace K0 := Lib.hid (K0.out.below hbg)
  replace K1 := Lib.hid (K1.out.below hbg)
  replace Kx := Lib.hid (Kx.out.below hbg)
  replace Kd := Lib.hid (Kd.out.below hbg)
  replace HB := Lib.hid (HB.out.trans (hbg.mono HB.out.size))
  obtain ⟨u0, u1, u2⟩ := (K1.out.at_ HAt6.out HS1.out).three
  have hzt6 : t6 < wg.heap.size := (K1.out.at_ HAt6.out HS1.out).lt
  go_wp2_with fail
  obtain ⟨zg, hzg⟩ : ∃ z, z = wkd.heap.size := ⟨_, rfl⟩
  rw [← hzg] at hog
  have hrg : RG zg wg (.slice ag gs'.length ccg) gs' := ⟨ag, cg, ccg, rfl, q1, q2, hog, H64'.out⟩
  obtain ⟨wkg, hwn⟩ : ∃ z, z = wg.alloc (.cells #[.int .i64 p', .int .i64 c', .slice ag gs'.length ccg] 25) := ⟨_, rfl⟩
  have hbn : Below wg.heap.size wg wkg := by rw [hwn]; exact (Below.refl _ _).alloc (Nat.le_refl _) _
  have han : At wkg wg.heap.size (.cells #[.int .i64 p', .int .i64 c', .slice ag gs'.length ccg] 25) := by rw [hwn]; exact At.new _ _
  rw [← hwn]
  clear hwn
  obtain ⟨t10, ht10⟩ : ∃ z, z = wg.heap.size := ⟨_, rfl⟩
  rw [← ht10] at han ⊢
  replace K0 := Lib.hid (K0.out.below hbn)
  replace K1 := Lib.hid (K1.out.below hbn)
  replace Kx := Lib.hid (Kx.out.below hbn)
  replace Kd := Lib.hid (Kd.out.below hbn)
  replace HB := Lib.hid (HB.out.trans (hbn.mono HB.out.size))
  have HAt10 := Lib.hid han
  have HZt10 := Lib.hid ht10
  have Kg := Lib.hid (Kp.refl zg wkg)
  have HRG := Lib.hid (hrg.below hbn)
  have HRGG := Lib.hid hrg
  have HKG := Lib.hid (show Kp zg wg wkg from (Kp.refl zg wg).below hbn)
  have HZG := Lib.hid hzg
  have HBG := Lib.hid (show zg ≤ t10 from by rw [hzg, ht10]; exact hbg.size)
  clear hbn han ht10 hog hrg hbg hzg q1 q2 u0 u1 u2 hzt6
  have hok : (ok != ok) = false := by simp
  have hT := HEQ.out _ _ p' c' gs' _ _ wkg (Kg.out.rg HRG.out).toGL (K1.out.rg HR1.out).toGL
  rw [HD.out, HD.out] at hT
  refine hT.mono ?_
  rintro e w12 ⟨rfl, hbe⟩
  replace K0 := Lib.hid (K0.out.below hbe)
  replace K1 := Lib.hid (K1.out.below hbe)
  replace Kx := Lib.hid (Kx.out.below hbe)
  replace Kd := Lib.hid (Kd.out.below hbe)
  replace Kg := Lib.hid (Kg.out.below hbe)
  replace HKG := Lib.hid (HKG.out.below hbe)
  replace HB := Lib.hid (HB.out.trans (hbe.mono HB.out.size))
  clear hT hbe
  obtain ⟨x0, x1, x2⟩ := (K0.out.at_ HAD.out (Nat.zero_le _)).three
  obtain ⟨y0, y1, y2, y3⟩ := (K0.out.at_ HAA.out (Nat.zero_le _)).four
  have hz0 := (K0.out.at_ HAA.out (Nat.zero_le _)).lt
  have hz00 := (K0.out.at_ HAD.out (Nat.zero_le _)).lt
  obtain ⟨u0, u1, u2⟩ := (Kx.out.at_ HAt8.out HBX.out).three
  have hzt : t8 < w12.heap.size := (Kx.out.at_ HAt8.out HBX.out).lt
  go_wp2_with fail
  go_region_held3 (fun w' => w'.cell? ⟨t8, 0, none⟩ = some (.int .i64 p) ∧ w'.cell? ⟨t8, 1, none⟩ = some (.int .i64 c) ∧ w'.cell? ⟨t8, 2, none⟩ = some (.slice ax gs.length cx) ∧ w'.cell? ⟨w.heap.size, 0, none⟩ = some (.int .i64 p) ∧ w'.cell? ⟨w.heap.size, 1, none⟩ = some (.int .i64 c) ∧ w'.cell? ⟨w.heap.size, 2, none⟩ = some (.slice a gs.length cap))
    (first
      | go_keep
      | (go_split_ands; exact ⟨(hbA.cell (by simp; omega)).trans (by assumption), (hbA.cell (by simp; omega)).trans (by assumption), (hbA.cell (by simp; omega)).trans (by assumption), (hbA.cell (by simp; omega)).trans (by assumption), (hbA.cell (by simp; omega)).trans (by assumption), (hbA.cell (by simp; omega)).trans (by assumption)⟩)
      | (go_split_ands; exact ⟨(hbB.cell (by simp; omega)).trans (by assumption), (hbB.cell (by simp; omega)).trans (by assumption), (hbB.cell (by simp; omega)).trans (by assumption), (hbB.cell (by simp; omega)).trans (by assumption), (hbB.cell (by simp; omega)).trans (by assumption), (hbB.cell (by simp; omega)).trans (by assumption)⟩))
    (first
      | (go_at_call 18; refine (HTD.out _ (show GL 0 w12.drew _ _ from K0.out.gl HGL.out)).mono ?_; rintro e wA ⟨aA, cA, rfl, hoA, hbA⟩; rw [HD.out]; have HKA := Lib.hid (show Below w12.heap.size w12 wA from (below_drw _).trans hbA); have HOA := Lib.hid hoA; have hzA := hbA.size; simp at hzA; clear hoA)
      | (go_at_call 20; have hT := HEQ.out _ _ p c gs _ _ wA (((Kx.out.owng HOX.out).below HKA.out).toGL H64.out) (HOA.out.toGL H64.out); rw [HD.out, HD.out] at hT; refine hT.mono ?_; clear hT; rintro e wB ⟨rfl, hbB⟩; have HKB := Lib.hid hbB; have hzB := hbB.size)
      | fail)
  have hb := HKA.out.trans (HKB.out.mono HKA.out.size)
  replace K0 := Lib.hid (K0.out.below hb)
  replace K1 := Lib.hid (K1.out.below hb)
  replace Kx := Lib.hid (Kx.out.below hb)
  replace Kd := Lib.hid (Kd.out.below hb)
  replace Kg := Lib.hid (Kg.out.below hb)
  replace HKG := Lib.hid (HKG.out.below hb)
  replace HB := Lib.hid (HB.out.trans (hb.mono HB.out.size))
  obtain ⟨w14, h14⟩ : ∃ z, z = wB := ⟨_, rfl⟩
  rw [← h14] at K0 K1 Kx Kd Kg HKG HB ⊢
  clear h14 HKA HKB HOA hbA hbB hb u0 u1 u2 hzt x0 x1 x2 y0 y1 y2 y3 hz0 hz00 hzA hzB
  obtain ⟨x0, x1, x2⟩ := (K0.out.at_ HAD.out (Nat.zero_le _)).three
  obtain ⟨y0, y1, y2, y3⟩ := (K0.out.at_ HAA.out (Nat.zero_le _)).four
  have hz0 := (K0.out.at_ HAA.out (Nat.zero_le _)).lt
  have hz00 := (K0.out.at_ HAD.out (Nat.zero_le _)).lt
  obtain ⟨u0, u1, u2, u3⟩ := (Kd.out.at_ HAt9.out HBD.out).four
  have hzt : t9 < w14.heap.size := (Kd.out.at_ HAt9.out HBD.out).lt
  go_wp2_with fail
  go_region_held3 (fun w' => w'.cell? ⟨t9, 0, none⟩ = some (.bool b) ∧ w'.cell? ⟨t9, 1, none⟩ = some (.slice ad xs.length cd) ∧ w'.cell? ⟨t9, 2, none⟩ = some (.int .i64 r) ∧ w'.cell? ⟨t9, 3, none⟩ = some (.int .i64 n) ∧ w'.cell? ⟨w.heap.size + 1, 0, none⟩ = some (.bool b) ∧ w'.cell? ⟨w.heap.size + 1, 1, none⟩ = some (.slice au xs.length cu) ∧ w'.cell? ⟨w.heap.size + 1, 2, none⟩ = some (.int .i64 r) ∧ w'.cell? ⟨w.heap.size + 1, 3, none⟩ = some (.int .i64 n))
    (first
      | go_keep
      | (go_split_ands; exact ⟨(hbA.cell (by simp; omega)).trans (by assumption), (hbA.cell (by simp; omega)).trans (by assumption), (hbA.cell (by simp; omega)).trans (by assumption), (hbA.cell (by simp; omega)).trans (by assumption), (hbA.cell (by simp; omega)).trans (by assumption), (hbA.cell (by simp; omega)).trans (by assumption), (hbA.cell (by simp; omega)).trans (by assumption), (hbA.cell (by simp; omega)).trans (by assumption)⟩)
      | (go_split_ands; exact ⟨(hbB.cell (by simp; omega)).trans (by assumption), (hbB.cell (by simp; omega)).trans (by assumption), (hbB.cell (by simp; omega)).trans (by assumption), (hbB.cell (by simp; omega)).trans (by assumption), (hbB.cell (by simp; omega)).trans (by assumption), (hbB.cell (by simp; omega)).trans (by assumption), (hbB.cell (by simp; omega)).trans (by assumption), (hbB.cell (by simp; omega)).trans (by assumption)⟩))
    (first
      | (go_at_call 19; refine (HTE.out _ (show Ints 0 w14.drew _ _ from K0.out.ints HIN.out)).mono ?_; rintro e wA ⟨aA, cA, rfl, hoA, hbA⟩; rw [HDD.out]; have HKA := Lib.hid (show Below w14.heap.size w14 wA from (below_drw _).trans hbA); have HOA := Lib.hid hoA; have hzA := hbA.size; simp at hzA; clear hoA)
      | (go_at_call 21; have hT := HEE.out _ _ _ _ wA (((Kd.out.owni HOD.out).toInts HX64.out).below HKA.out) (HOA.out.toInts HX64.out); rw [HDD.out, HDD.out] at hT; refine hT.mono ?_; clear hT; rintro e wB ⟨rfl, hbB⟩; have HKB := Lib.hid hbB; have hzB := hbB.size)
      | fail)
  have hb := HKA.out.trans (HKB.out.mono HKA.out.size)
  replace K0 := Lib.hid (K0.out.below hb)
  replace K1 := Lib.hid (K1.out.below hb)
  replace Kx := Lib.hid (Kx.out.below hb)
  replace Kd := Lib.hid (Kd.out.below hb)
  replace Kg := Lib.hid (Kg.out.below hb)
  replace HKG := Lib.hid (HKG.out.below hb)
  replace HB := Lib.hid (HB.out.trans (hb.mono HB.out.size))
  obtain ⟨w16, h16⟩ : ∃ z, z = wB := ⟨_, rfl⟩
  rw [← h16] at K0 K1 Kx Kd Kg HKG HB ⊢
  clear h16 HKA HKB HOA hbA hbB hb u0 u1 u2 u3 hzt x0 x1 x2 y0 y1 y2 y3 hz0 hz00 hzA hzB
  obtain ⟨u0, u1, u2⟩ := (Kx.out.at_ HAt8.out HBX.out).three
  go_wp2_with fail
  have hM := markDesk_any (B := zx) (C := wkx.heap.size) p c _ gs 1 w16 (Kx.out.owng HOX.out) (HOX.out.low Kx.out.2) (by have := Kx.out.1; have := HBX.out; have := HAt8.out.lt; omega) (by omega) (by omega)
  rw [HD.out] at hM
  refine hM.mono ?_
  rintro e w19 ⟨rfl, _, hbM, hfM⟩
  have hzM := hfM
  have hsz : w16.heap.size ≤ w19.heap.size := hbM.size
  have hx1 : wk1.heap.size = zx := HZX.out.symm
  have hx2 : wkx.heap.size = zd := HZD.out.symm
  have hx3 : wkd.heap.size = zg := HZG.out.symm
  have hk1 := K1.out.1
  have hxx : zx ≤ zd := by have := HBX.out; have := HAt8.out.lt; omega
  have hdd : zd ≤ zg := by have := HBD.out; have := HAt9.out.lt; omega
  have hk0 : wa.heap.size ≤ zx := by have := K0.out.1; have q1 := HZX.out; have q2 := HS1.out; have q3 := HAt6.out.lt; have q4 := HKW.out; have q5 := HZ1.out; omega
  replace K0 := Lib.hid (K0.out.under hbM hk0)
  replace K1 := Lib.hid (K1.out.under hbM (by omega))
  replace Kd := Lib.hid (Kd.out.far hfM (by omega) hsz)
  replace Kg := Lib.hid (Kg.out.far hfM (by omega) hsz)
  replace HKG := Lib.hid (HKG.out.far hfM (by omega) hsz)
  replace HB := Lib.hid (HB.out.trans (hbM.mono (by have := HKW2.out; omega)))
  rw [endK_tot]
  clear hM hbM hfM hzM Kx u0 u1 u2
  obtain ⟨u0, u1, u2, u3⟩ := (Kd.out.at_ HAt9.out HBD.out).four
  go_wp2_with fail
  have hM := markDeed_any (B := zd) b _ xs r n (1 + (totG gs : Int)) w19 (Kd.out.owni HOD.out) (by have := Kd.out.1; have := HBD.out; have := HAt9.out.lt; omega) (by omega) (by omega) (by omega)
  rw [HDD.out] at hM
  refine hM.mono ?_
  rintro e w20 ⟨rfl, _, hbM, hfM⟩
  have hsz2 : w19.heap.size ≤ w20.heap.size := hbM.size
  have hfar : ∀ j, zg ≤ j → j < w19.heap.size → w20.heap[j]? = w19.heap[j]? := fun j q1 q2 => hfM j q2 (fun e => by have := (World.ownsRow.lt HOD.out j e).2; omega)
  replace K0 := Lib.hid (K0.out.under hbM (by omega))
  replace K1 := Lib.hid (K1.out.under hbM (by omega))
  replace Kg := Lib.hid (Kg.out.far hfar (Nat.le_refl _) hsz2)
  replace HKG := Lib.hid (HKG.out.far hfar (Nat.le_refl _) hsz2)
  replace HB := Lib.hid (HB.out.trans (hbM.mono (by have := HKW2.out; omega)))
  have hm0 : ¬ (1 + (totG gs : Int) + (xs.length : Int) < 0) := by omega
  have hm1 : (0 : Int) ≤ 1 + (totG gs : Int) + (xs.length : Int) := by omega
  clear hM hbM hfM hfar Kd u0 u1 u2 u3
  obtain ⟨u0, u1, u2⟩ := (K1.out.at_ HAt6.out HS1.out).three
  obtain ⟨x0, x1, x2⟩ := (Kg.out.at_ HAt10.out HBG.out).three
  go_wp2_with fail
  have hT := HEQ.out _ _ p' c' gs' _ _ w20 (Kg.out.rg HRG.out).toGL (K1.out.rg HR1.out).toGL
  rw [HD.out, HD.out] at hT
  refine hT.mono ?_
  rintro e w21 ⟨rfl, hbe⟩
  replace K0 := Lib.hid (K0.out.below hbe)
  replace K1 := Lib.hid (K1.out.below hbe)
  replace Kg := Lib.hid (Kg.out.below hbe)
  replace HKG := Lib.hid (HKG.out.below hbe)
  replace HB := Lib.hid (HB.out.trans (hbe.mono HB.out.size))
  clear hT hbe
  clear u0 u1 u2 x0 x1 x2
  obtain ⟨u0, u1, u2⟩ := (Kg.out.at_ HAt10.out HBG.out).three
  go_wp2_with fail
  have hM := markDesk_rg (B := zg) (wk := wg) p' c' _ gs' 1 w21 HRGG.out HKG.out.2 (by have := Kg.out.1; have := HBG.out; have := HAt10.out.lt; omega) (by omega) (by omega)
  rw [HD.out] at hM
  refine hM.mono ?_
  rintro e w24 ⟨rfl, hrm, hbM, hfM⟩
  have hsz3 : w21.heap.size ≤ w24.heap.size := hbM.size
  have hat10 : At w24 t10 (.cells #[.int .i64 p', .int .i64 c', .slice ag gs'.length ccg] 25) := (hfM t10 (by have := HZt10.out; omega) (Kg.out.at_ HAt10.out HBG.out).lt).trans (Kg.out.at_ HAt10.out HBG.out)
  replace K0 := Lib.hid (K0.out.under hbM (by omega))
  replace K1 := Lib.hid (K1.out.under hbM (by omega))
  replace HB := Lib.hid (HB.out.trans (hbM.mono (by have := HKW2.out; omega)))
  have HRM := Lib.hid hrm
  replace HAt10 := Lib.hid hat10
  replace Kg := Lib.hid (Kp.refl zg w24)
  rw [endK_tot]
  have hm0 : ¬ (1 + (totG gs' : Int) < 0) := by omega
  have hm1 : (0 : Int) ≤ 1 + (totG gs' : Int) := by omega
  clear hM hbM hfM u0 u1 u2 hrm HKG hat10
  obtain ⟨u0, u1, u2⟩ := (Kg.out.at_ HAt10.out HBG.out).three
  go_wp2_with fail
  have hM := heldDesk_any p' c' _ gs' 1 w24 (Kg.out.rg HRM.out).toGL (by omega) (by omega)
  rw [HD.out] at hM
  refine hM.mono ?_
  rintro e w26 ⟨rfl, hbM⟩
  replace K0 := Lib.hid (K0.out.below hbM)
  replace K1 := Lib.hid (K1.out.below hbM)
  replace Kg := Lib.hid (Kg.out.below hbM)
  replace HB := Lib.hid (HB.out.trans (hbM.mono HB.out.size))
  rw [endK_tot]
  clear hM hbM u0 u1 u2
  have hne : ((1 : Int) + (totG gs' : Int) != 1 + (totG gs' : Int)) = false := by simp
  obtain ⟨x0, x1, x2⟩ := (K0.out.at_ HAD.out (Nat.zero_le _)).three
  obtain ⟨y0, y1, y2, y3⟩ := (K0.out.at_ HAA.out (Nat.zero_le _)).four
  have hz0 := (K0.out.at_ HAA.out (Nat.zero_le _)).lt
  have hz00 := (K0.out.at_ HAD.out (Nat.zero_le _)).lt
  have hzN : ¬ (w26.heap.size = w.heap.size) := by omega
  have hzN1 : ¬ (w26.heap.size = w.heap.size + 1) := by omega
  go_upto_region 31 with fail
  go_cut [15, 16] (fun s6 s7 wx => Made w26 p' c' gs' s6 wx ∧ s7 = .bool ok)
  case first =>
    go_region_held3 (fun w' => w'.cell? ⟨w.heap.size, 0, none⟩ = some (.int .i64 p) ∧ w'.cell? ⟨w.heap.size, 1, none⟩ = some (.int .i64 c) ∧ w'.cell? ⟨w.heap.size, 2, none⟩ = some (.slice a gs.length cap) ∧ w'.cell? ⟨w.heap.size + 1, 0, none⟩ = some (.bool b) ∧ w'.cell? ⟨w.heap.size + 1, 1, none⟩ = some (.slice au xs.length cu) ∧ w'.cell? ⟨w.heap.size + 1, 2, none⟩ = some (.int .i64 r) ∧ w'.cell? ⟨w.heap.size + 1, 3, none⟩ = some (.int .i64 n))
      (first
        | go_keep
        | (go_split_ands; exact ⟨(hbA.cell (by simp; omega)).trans (by assumption), (hbA.cell (by simp; omega)).trans (by assumption), (hbA.cell (by simp; omega)).trans (by assumption), (hbA.cell (by simp; omega)).trans (by assumption), (hbA.cell (by simp; omega)).trans (by assumption), (hbA.cell (by simp; omega)).trans (by assumption), (hbA.cell (by simp; omega)).trans (by assumption)⟩)
        | (go_split_ands; exact ⟨(hbB.cell (by simp; omega)).trans (by assumption), (hbB.cell (by simp; omega)).trans (by assumption), (hbB.cell (by simp; omega)).trans (by assumption), (hbB.cell (by simp; omega)).trans (by assumption), (hbB.cell (by simp; omega)).trans (by assumption), (hbB.cell (by simp; omega)).trans (by assumption), (hbB.cell (by simp; omega)).trans (by assumption)⟩)
        | (go_split_ands; exact ⟨(hbC.cell (by simp; omega)).trans (by assumption), (hbC.cell (by simp; omega)).trans (by assumption), (hbC.cell (by simp; omega)).trans (by assumption), (hbC.cell (by simp; omega)).trans (by assumption), (hbC.cell (by simp; omega)).trans (by assumption), (hbC.cell (by simp; omega)).trans (by assumption), (hbC.cell (by simp; omega)).trans (by assumption)⟩)
        | (go_split_ands; exact ⟨(HKA.out.cell (by simp; omega)).trans (by assumption), (HKA.out.cell (by simp; omega)).trans (by assumption), (HKA.out.cell (by simp; omega)).trans (by assumption), (HKA.out.cell (by simp; omega)).trans (by assumption), (HKA.out.cell (by simp; omega)).trans (by assumption), (HKA.out.cell (by simp; omega)).trans (by assumption), (HKA.out.cell (by simp; omega)).trans (by assumption)⟩)
        | (go_split_ands; exact ⟨(HKC.out.cell (by simp; omega)).trans (by assumption), (HKC.out.cell (by simp; omega)).trans (by assumption), (HKC.out.cell (by simp; omega)).trans (by assumption), (HKC.out.cell (by simp; omega)).trans (by assumption), (HKC.out.cell (by simp; omega)).trans (by assumption), (HKC.out.cell (by simp; omega)).trans (by assumption), (HKC.out.cell (by simp; omega)).trans (by assumption)⟩))
      (first
      | (go_at_call 18; refine (HTD.out w26.drew (show GL 0 w26.drew _ _ from K0.out.gl HGL.out)).mono ?_; rintro e wA ⟨aA, cA, rfl, hoA, hbA⟩; rw [HD.out]; have HKA := Lib.hid (show Below w26.heap.size w26 wA from (below_drw _).trans hbA);  have HOA := Lib.hid (show OwnG w26.heap.size wA _ _ from hoA.mono (Nat.le_refl _)); have hzA := HKA.out.size; have hn0wA : ¬ (wA.heap.size = w.heap.size) := (by omega); have hn1wA : ¬ (wA.heap.size = w.heap.size + 1) := (by omega); clear hoA)
      | (go_at_call 18; refine (HTD.out (w26.drew.alloc (.cells #[.int .i64 0, .int .i64 0, .slice none 0 0] 25)) ((show GL 0 w26.drew _ _ from K0.out.gl HGL.out).below ((Below.refl _ _).alloc (Nat.le_refl _) _))).mono ?_; rintro e wA ⟨aA, cA, rfl, hoA, hbA⟩; rw [HD.out]; have HKA := Lib.hid (show Below w26.heap.size w26 wA from ((below_drw _).alloc (Nat.le_refl _) _).trans (hbA.mono (by simp))); have HZZ := Lib.hid (show At wA w26.heap.size _ from (At.new w26.drew (.cells #[.int .i64 0, .int .i64 0, .slice none 0 0] 25)).below hbA); have HZL := Lib.hid (Nat.le_refl w26.heap.size); have HOA := Lib.hid (show OwnG w26.heap.size wA _ _ from hoA.mono (by simp)); have hzA := HKA.out.size; have hn0wA : ¬ (wA.heap.size = w.heap.size) := (by omega); have hn1wA : ¬ (wA.heap.size = w.heap.size + 1) := (by omega); clear hoA)
      | (go_at_call 19; refine (HTE.out wA ((K0.out.ints HIN.out).below HKA.out)).mono ?_; rintro e wB ⟨aB, cB, rfl, hoB, hbB⟩; rw [HDD.out]; have HKB := Lib.hid (show Below wA.heap.size wA wB from hbB); (try replace HZZ := Lib.hid (HZZ.out.below hbB)); have HOB := Lib.hid (show OwnI wA.heap.size wB _ _ from OwnI.mono2 hoB (Nat.le_refl _)); have hzB := HKB.out.size; have hn0wB : ¬ (wB.heap.size = w.heap.size) := (by omega); have hn1wB : ¬ (wB.heap.size = w.heap.size + 1) := (by omega); clear hoB)
      | (go_at_call 19; refine (HTE.out (wA.alloc (.cells #[.int .i64 0, .int .i64 0, .slice none 0 0] 25)) (((K0.out.ints HIN.out).below HKA.out).below ((Below.refl _ _).alloc (Nat.le_refl _) _))).mono ?_; rintro e wB ⟨aB, cB, rfl, hoB, hbB⟩; rw [HDD.out]; have HKB := Lib.hid (show Below wA.heap.size wA wB from ((Below.refl _ _).alloc (Nat.le_refl _) _).trans (hbB.mono (by simp))); have HZZ := Lib.hid (show At wB wA.heap.size _ from (At.new wA (.cells #[.int .i64 0, .int .i64 0, .slice none 0 0] 25)).below hbB); have HZL := Lib.hid HKA.out.size; have HOB := Lib.hid (show OwnI wA.heap.size wB _ _ from OwnI.mono2 hoB (by simp)); have hzB := HKB.out.size; have hn0wB : ¬ (wB.heap.size = w.heap.size) := (by omega); have hn1wB : ¬ (wB.heap.size = w.heap.size + 1) := (by omega); clear hoB)
      | (go_at_call 10; refine (HID.out _ _ wB _ _ _ _ (((HOA.out.below HKB.out)).rg H64.out) HOB.out).mono ?_; rintro e wC ⟨aC, cC, ccC, rfl, q1, q2, hoC, hbC⟩; rw [HD.out]; have HKC := Lib.hid ((HKA.out.trans (HKB.out.mono HKA.out.size)).trans ((show Below wB.heap.size wB wC from hbC).mono (Nat.le_trans HKA.out.size HKB.out.size))); (try replace HZZ := Lib.hid (HZZ.out.below hbC)); have HRC := Lib.hid (show RG w26.heap.size wC (.slice aC gs'.length ccC) gs' from ⟨aC, cC, ccC, rfl, q1, q2, hoC.mono (by first | omega | (simp; omega)), H64'.out⟩); have hzC := HKC.out.size; have KC := K0.out.below HKC.out; obtain ⟨v0, v1, v2⟩ := (KC.at_ HAD.out (Nat.zero_le _)).three; obtain ⟨v3, v4, v5, v6⟩ := (KC.at_ HAA.out (Nat.zero_le _)).four; (try (obtain ⟨z0, z1, z2⟩ := HZZ.out.three; have zf := HZZ.out.thaw)); clear hoC KC q1 q2)
      | (go_at_call 10; refine (HID.out _ _ (wB.alloc (.cells #[.int .i64 0, .int .i64 0, .slice none 0 0] 25)) _ _ _ _ (((HOA.out.below HKB.out).alloc _).rg H64.out) (World.ownsRow.alloc HOB.out _)).mono ?_; rintro e wC ⟨aC, cC, ccC, rfl, q1, q2, hoC, hbC⟩; rw [HD.out]; have HKC := Lib.hid ((HKA.out.trans (HKB.out.mono HKA.out.size)).trans ((show Below wB.heap.size wB wC from ((Below.refl _ _).alloc (Nat.le_refl _) _).trans (hbC.mono (by simp))).mono (Nat.le_trans HKA.out.size HKB.out.size))); have HZZ := Lib.hid (show At wC wB.heap.size _ from (At.new wB (.cells #[.int .i64 0, .int .i64 0, .slice none 0 0] 25)).below hbC); have HZL := Lib.hid (Nat.le_trans HKA.out.size HKB.out.size); have HRC := Lib.hid (show RG w26.heap.size wC (.slice aC gs'.length ccC) gs' from ⟨aC, cC, ccC, rfl, q1, q2, hoC.mono (by first | omega | (simp; omega)), H64'.out⟩); have hzC := HKC.out.size; have KC := K0.out.below HKC.out; obtain ⟨v0, v1, v2⟩ := (KC.at_ HAD.out (Nat.zero_le _)).three; obtain ⟨v3, v4, v5, v6⟩ := (KC.at_ HAA.out (Nat.zero_le _)).four; (try (obtain ⟨z0, z1, z2⟩ := HZZ.out.three; have zf := HZZ.out.thaw)); clear hoC KC q1 q2)
      | fail)
    all_goals (go_wp2_with fail; go_meet; first | exact ⟨Made.late HKC.out HRC.out, rfl⟩ | exact ⟨Made.early HKC.out HRC.out HZL.out HZZ.out, rfl⟩)
  obtain ⟨hmade, rfl⟩ := hcut
  obtain ⟨t15, aC, ccC, rfl, hb, ht15, hat15, hrt15⟩ := hmade
  obtain ⟨wkh, rfl⟩ : ∃ z, z = wc := ⟨_, rfl⟩
  clear x0 x1 x2 y0 y1 y2 y3 hz0 hz00 hzN hzN1
  replace K0 := Lib.hid (K0.out.below hb)
  replace K1 := Lib.hid (K1.out.below hb)
  replace Kg := Lib.hid (Kg.out.below hb)
  replace HB := Lib.hid (HB.out.trans (hb.mono HB.out.size))
  obtain ⟨u0, u1, u2⟩ := (K1.out.at_ HAt6.out HS1.out).three
  obtain ⟨x0, x1, x2⟩ := hat15.three
  go_wp2_with fail
  have hT := HEQ.out _ _ p' c' gs' _ _ wkh hrt15.toGL (K1.out.rg HR1.out).toGL
  rw [HD.out, HD.out] at hT
  refine hT.mono ?_
  rintro e w32 ⟨rfl, hbe⟩
  replace K0 := Lib.hid (K0.out.below hbe)
  replace K1 := Lib.hid (K1.out.below hbe)
  replace Kg := Lib.hid (Kg.out.below hbe)
  replace HB := Lib.hid (HB.out.trans (hbe.mono HB.out.size))
  clear hT hbe hb u0 u1 u2 x0 x1 x2 ht15 hat15 hrt15
  obtain ⟨u0, u1, u2⟩ := (Kg.out.at_ HAt10.out HBG.out).three
  go_wp2_with fail
  have hM := heldDesk_any p' c' _ gs' 1 w32 (Kg.out.rg HRM.out).toGL (by omega) (by omega)
  rw [HD.out] at hM
  refine hM.mono ?_
  rintro e w35 ⟨rfl, hbM⟩
  replace K0 := Lib.hid (K0.out.below hbM)
  replace K1 := Lib.hid (K1.out.below hbM)
  replace Kg := Lib.hid (Kg.out.below hbM)
  replace HB := Lib.hid (HB.out.trans (hbM.mono HB.out.size))
  rw [endK_tot]
  clear hM hbM u0 u1 u2
  go_wp2
  go_ret
  exact ⟨rfl, HB.out⟩

end Go.Proofs.Ytjecolbodelniaa