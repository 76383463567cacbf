/- The walk of FnExactDeskRun. Printed by wip/tools/gen_exrun.py. -/
import Derived.Test.YtjecolbodelniaaExDeskDo
import Derived.Test.YtjecolbodelniaaRunS
import Derived.Test.YtjecolbodelniaaDeedS
import Derived.Test.YtjecolbodelniaaDeedM
namespace Go.Proofs.Ytjecolbodelniaa
open Go.RowKit Go.Shelf
set_option linter.unusedVariables false
set_option maxRecDepth 100000

theorem done_tot (p c : Int) (gs : List Gs) (d : Dd) : totG (doneG p c gs d).1 ≤ totG gs + d.code.length + 2 := by
  unfold doneG
  split
  · split
    · have := totG_take_le gs (gs.length - 1); simp only; omega
    · simp only; omega
  · split
    · simp only [totG_app]
      have : totG [d.gs] = d.code.length + 2 := by rw [totG_eq]; simp [tot, Dd.gs]
      omega
    · simp only; omega
theorem run_tot (p c : Int) : ∀ (ds : List Dd) (gs : List Gs), totG (runG p c gs ds).1 ≤ totG gs + totD ds
  | [], gs => by simp [runG, totD]
  | d :: t, gs => by
    have h1 := run_tot p c t (doneG p c gs d).1
    have h2 := done_tot p c gs d
    simp only [runG, totD]
    omega
/-- DeskRun's answer, whatever it is, is a desk of bounded size. -/
theorem RunRes.form (p c : Int) (gs : List Gs) (ds : List Dd) (h64 : In64G gs) (hx : In64D ds) :
    ∃ p' c' gs' m, (∀ w e w', RunRes p c gs ds w e w' → RunOut p' c' gs' m w e w') ∧ In64G gs' ∧ totG gs' ≤ totG gs + totD ds := by
  by_cases h : runB p c gs ds = true
  · refine ⟨p, c, (runG p c gs ds).1, ((runG p c gs ds).2 : Nat), fun w e w' q => ?_, run_i64 ds gs h64 hx, run_tot p c ds gs⟩
    unfold RunRes at q; rw [if_pos h] at q; exact q
  · refine ⟨0, 0, [], 0, fun w e w' q => ?_, (fun g hg => by cases hg), by simp [totG]⟩
    unfold RunRes at q; rw [if_neg h] at q; exact q
theorem Kp.ownd {lo : Nat} {wk w : World} {v : Value} {ds : List Dd} (h : Kp lo wk w) (hr : OwnD lo wk v ds) : OwnD lo w v ds := hr.keep h.2
theorem szD_codes {ds : List Dd} {l : Int} (hs : 0 ≤ szSS (ds.map Dd.code) l) (h0 : 0 ≤ l) (hl : l ≤ 1048576) : ds.length ≤ 2000000 ∧ (∀ d ∈ ds, d.code.length ≤ 2000000) ∧ totD ds ≤ 4000000 := by
  have hb := szSS_bound hs h0
  rw [List.length_map] at hb
  have ht := totD_eq ds
  refine ⟨by omega, fun g hg => ?_, by omega⟩
  have := tot_mem (List.mem_map_of_mem (f := Dd.code) hg)
  omega

set_option maxHeartbeats 8000000 in
theorem FnExactDeskRun_walk (p c : Int) (v : Value) (gs : List Gs) (vl : Value) (ds : List Dd) (w : World) (h : GL 0 w v gs) (hu : DL 0 w vl ds) :
    Calls Try.prog 6 #[dkV p c v, vl] w fun e w' => e = .returned (.bool true) ∧ Below w.heap.size w w' := by
  obtain ⟨a, cap, rfl⟩ : ∃ a cap, v = .slice a gs.length cap := by obtain ⟨a, cap, _, hv, _⟩ := h; exact ⟨a, cap, hv⟩
  obtain ⟨au, cu, rfl, _⟩ := hu.shape
  have hge := szSS_ge (gs.map Gs.code) 1048576 (by omega)
  have h64 := h.in64
  obtain ⟨wa, hwa⟩ : ∃ z, z = w.alloc (.cells #[.int .i64 p, .int .i64 c, .slice a gs.length cap] 43) := ⟨_, rfl⟩
  have hba : Below w.heap.size w wa := by rw [hwa]; exact (Below.refl _ _).alloc (Nat.le_refl _) _
  have hAD : At wa w.heap.size (.cells #[.int .i64 p, .int .i64 c, .slice a gs.length cap] 43) := by rw [hwa]; exact At.new w _
  have hsa : wa.heap.size = w.heap.size + 1 := by rw [hwa]; simp
  have HD := Lib.hid (fun p c v => show dkV p c v = .agg #[.int .i64 p, .int .i64 c, v] from rfl)
  have hS := szDesk_any p c _ gs 1048576 wa (h.below hba) (by omega) (by omega)
  have HGL := Lib.hid (h.below hba)
  have HIN := Lib.hid (hu.below hba)
  have H64 := Lib.hid h64
  have HX64 := Lib.hid hu.in64
  have HAD := Lib.hid hAD
  have HB := Lib.hid hba
  have K0 := Lib.hid (Kp.refl 0 wa)
  obtain ⟨r1, hr1⟩ : ∃ q, q = szSS (gs.map Gs.code) 1048576 := ⟨_, rfl⟩
  rw [← hr1] at hS hge
  have HR1 := Lib.hid hr1
  have HSA := Lib.hid hsa
  rw [HD.out] at hS
  rw [HD.out]
  have hza : w.heap.size < wa.heap.size := by omega
  clear h hu h64 hba hAD hr1 hsa
  go_enter Try.func6, Try.ntmps6
  go_wp2_with fail
  rw [← hwa]
  clear hwa
  refine hS.mono ?_
  rintro e w1 ⟨rfl, hb1⟩
  replace K0 := Lib.hid (K0.out.below hb1)
  replace HB := Lib.hid (HB.out.trans (hb1.mono HB.out.size))
  clear hS hb1
  by_cases hs1 : r1 < 0
  · go_wp2
    go_ret
    exact ⟨rfl, HB.out⟩
  have hl1 : r1 ≤ 1048576 := by have := szSS_le (gs.map Gs.code) 1048576 (by omega); rw [← HR1.out] at this; exact this
  have hS := szDeedS_any _ ds r1 w1 (K0.out.dl HIN.out) (by omega) (by omega)
  have hge2 := szSS_ge (ds.map Dd.code) r1 (by omega)
  obtain ⟨r2, hr2⟩ : ∃ q, q = szSS (ds.map Dd.code) r1 := ⟨_, rfl⟩
  rw [← hr2] at hS hge2
  have HR2 := Lib.hid hr2
  clear hr2
  go_wp2_with fail
  refine hS.mono ?_
  rintro e w2 ⟨rfl, hb2⟩
  replace K0 := Lib.hid (K0.out.below hb2)
  replace HB := Lib.hid (HB.out.trans (hb2.mono HB.out.size))
  clear hS hb2
  by_cases hs2 : r2 < 0
  · go_wp2
    go_ret
    exact ⟨rfl, HB.out⟩
  have hcd := szG_codes (gs := gs) (by rw [← HR1.out]; omega)
  obtain ⟨hdl, hdc, htd⟩ := szD_codes (ds := ds) (l := r1) (by rw [← HR2.out]; omega) (by omega) hl1
  have htg0 := (szG_bound (gs := gs) (l := 1048576) (by rw [← HR1.out]; omega) (by omega) (by omega))
  have HCD := Lib.hid hcd.1
  have HDC := Lib.hid hdc
  have htg := hcd.2
  obtain ⟨p', c', gs', m, hform, h64', htg'⟩ := RunRes.form p c gs ds H64.out HX64.out
  have H64' := Lib.hid h64'
  have HTD := Lib.hid (show ∀ W, GL 0 W (.slice a gs.length cap) gs → Calls Try.prog 18 #[.agg #[.int .i64 p, .int .i64 c, .slice a gs.length cap]] W (DeskOut p c gs W) from fun W q => toDesk_any p c _ gs W q htg0.1 htg0.2)
  have HTE := Lib.hid (show ∀ W, DL 0 W (.slice au ds.length cu) ds → Calls Try.prog 31 #[.slice au ds.length cu] W (FreshD ds W) from fun W q => toDeedS_any _ ds W q hdl (fun d hd => Nat.le_trans (HDC.out d hd) (by omega)))
  have HSD := Lib.hid (show ∀ (B C : Nat) (W : World) (a2 : Option Addr) (c2 : Nat) (a3 : Option Addr) (c3 : Nat), RG B W (.slice a2 gs.length c2) gs → OwnD C W (.slice a3 ds.length c3) ds → Calls Try.prog 27 #[.agg #[.int .i64 p, .int .i64 c, .slice a2 gs.length c2], .slice a3 ds.length c3] W (RunOut p' c' gs' m W) from
    fun B C W a2 c2 a3 c3 q1 q2 => (deskRunS_any p c _ gs _ ds W q1 (q2.toDL HX64.out) HCD.out HDC.out).mono fun e w' q => hform W e w' q)
  have HID := Lib.hid (show ∀ (B C : Nat) (W : World) (a2 : Option Addr) (c2 : Nat) (a3 : Option Addr) (c3 : Nat), RG B W (.slice a2 gs.length c2) gs → OwnD C W (.slice a3 ds.length c3) ds → Calls Try.prog 26 #[.agg #[.int .i64 p, .int .i64 c, .slice a2 gs.length c2], .slice a3 ds.length c3] W (RunOut p' c' gs' m W) from
    fun B C W a2 c2 a3 c3 q1 q2 => (deskRunI_any p c _ gs _ ds W q1 (q2.toDL HX64.out) q2.dn HCD.out HDC.out).mono fun e w' q => hform W e w' q)
  have HEQ := Lib.hid (fun (B C : Nat) (p c : Int) (gs : List Gs) (v v' : Value) (W : World) (q1 : GL B W v gs) (q2 : GL C W v' gs) => eqDesk_self p c v v' gs W q1 q2)
  have HEE := Lib.hid (fun (B C : Nat) (v v' : Value) (W : World) (q1 : DL B W v ds) (q2 : DL C W v' ds) => eqDeedS_self v v' ds W q1 q2)
  have HKW := Lib.hid (show wa.heap.size ≤ w2.heap.size from K0.out.1)
  have HKW2 := Lib.hid (show w.heap.size < wa.heap.size from hza)
  clear hform hcd htg0 h64' hdc
  obtain ⟨x0, x1, x2⟩ := (K0.out.at_ HAD.out (Nat.zero_le _)).three
  have hz00 := (K0.out.at_ HAD.out (Nat.zero_le _)).lt
  go_wp2_with fail
  refine (HTD.out _ (K0.out.gl HGL.out)).mono ?_
  rintro e wA ⟨aA, cA, rfl, hoA, hbA⟩
  rw [HD.out]
  replace K0 := Lib.hid (K0.out.below hbA)
  replace HB := Lib.hid (HB.out.trans (hbA.mono HB.out.size))
  have HOA := Lib.hid hoA
  clear hoA x0 x1 x2 hz00
  go_wp2_with fail
  refine (HTE.out _ (K0.out.dl HIN.out)).mono ?_
  rintro e wB ⟨aB, cB, rfl, hoB, hbB⟩
  replace K0 := Lib.hid (K0.out.below hbB)
  replace HB := Lib.hid (HB.out.trans (hbB.mono HB.out.size))
  replace HOA := Lib.hid (HOA.out.below hbB)
  have HOB := Lib.hid hoB
  clear hoB
  go_wp2_with fail
  refine (HSD.out _ _ _ _ _ _ _ (HOA.out.rg H64.out) HOB.out).mono ?_
  rintro e wC ⟨aC, cC, ccC, rfl, q1, q2, hoC, hbC⟩
  rw [HD.out]
  replace K0 := Lib.hid (K0.out.below hbC)
  replace HB := Lib.hid (HB.out.trans (hbC.mono HB.out.size))
  obtain ⟨zz1, hzz1⟩ : ∃ z, z = wB.heap.size := ⟨_, rfl⟩
  have hrC : RG wB.heap.size wC (.slice aC gs'.length ccC) gs' := ⟨aC, cC, ccC, rfl, q1, q2, hoC, H64'.out⟩
  rw [← hzz1] at hrC
  clear hoC q1 q2 HOA HOB hbA hbB
  have hsC := hbC.size
  clear hbC
  obtain ⟨x0, x1, x2⟩ := (K0.out.at_ HAD.out (Nat.zero_le _)).three
  have hz00 := (K0.out.at_ HAD.out (Nat.zero_le _)).lt
  go_wp2_with fail
  obtain ⟨wk1, hwn⟩ : ∃ z, z = wC.alloc (.cells #[.int .i64 p', .int .i64 c', .slice aC gs'.length ccC] 25) := ⟨_, rfl⟩
  have hbn : Below wC.heap.size wC wk1 := by rw [hwn]; exact (Below.refl _ _).alloc (Nat.le_refl _) _
  have han : At wk1 wC.heap.size (.cells #[.int .i64 p', .int .i64 c', .slice aC gs'.length ccC] 25) := by rw [hwn]; exact At.new _ _
  rw [← hwn]
  clear hwn
  obtain ⟨t6, ht6⟩ : ∃ z, z = wC.heap.size := ⟨_, rfl⟩
  rw [← ht6] at han ⊢
  replace K0 := Lib.hid (K0.out.below hbn)
  replace HB := Lib.hid (HB.out.trans (hbn.mono HB.out.size))
  have HAt6 := Lib.hid han
  have HZt6 := Lib.hid ht6
  have K1 := Lib.hid (Kp.refl zz1 wk1)
  have HR1 := Lib.hid (hrC.below hbn)
  have HS1 := Lib.hid (show zz1 ≤ t6 from by rw [HZt6.out, hzz1]; exact hsC)
  have HKW3 := Lib.hid (show wa.heap.size ≤ wk1.heap.size from K0.out.1)
  clear hbn han ht6 hrC hsC hzz1 x0 x1 x2 hz00
  refine (HTD.out _ (K0.out.gl HGL.out)).mono ?_
  rintro e wx ⟨ax, cx, rfl, hox, hbx⟩
  rw [HD.out]
  replace K0 := Lib.hid (K0.out.below hbx)
  replace K1 := Lib.hid (K1.out.below hbx)
  replace HB := Lib.hid (HB.out.trans (hbx.mono HB.out.size))
  go_wp2_with fail
  obtain ⟨zx, hzx⟩ : ∃ z, z = wk1.heap.size := ⟨_, rfl⟩
  rw [← hzx] at hox
  obtain ⟨wkx, hwn⟩ : ∃ z, z = wx.alloc (.cells #[.int .i64 p, .int .i64 c, .slice ax gs.length cx] 25) := ⟨_, rfl⟩
  have hbn : Below wx.heap.size wx wkx := by rw [hwn]; exact (Below.refl _ _).alloc (Nat.le_refl _) _
  have han : At wkx wx.heap.size (.cells #[.int .i64 p, .int .i64 c, .slice ax gs.length cx] 25) := by rw [hwn]; exact At.new _ _
  rw [← hwn]
  clear hwn
  obtain ⟨t8, ht8⟩ : ∃ z, z = wx.heap.size := ⟨_, rfl⟩
  rw [← ht8] at han ⊢
  replace K0 := Lib.hid (K0.out.below hbn)
  replace K1 := Lib.hid (K1.out.below hbn)
  replace HB := Lib.hid (HB.out.trans (hbn.mono HB.out.size))
  have HAt8 := Lib.hid han
  have HZt8 := Lib.hid ht8
  have Kx := Lib.hid (Kp.refl zx wkx)
  have HOX := Lib.hid (hox.below hbn)
  have HZX := Lib.hid hzx
  have HBX := Lib.hid (show zx ≤ t8 from by rw [hzx, ht8]; exact hbx.size)
  clear hbn han ht8 hox hbx hzx
  refine (HTE.out _ (K0.out.dl HIN.out)).mono ?_
  rintro e wd ⟨ad, cd, rfl, hod, hbd⟩
  replace K0 := Lib.hid (K0.out.below hbd)
  replace K1 := Lib.hid (K1.out.below hbd)
  replace Kx := Lib.hid (Kx.out.below hbd)
  replace HB := Lib.hid (HB.out.trans (hbd.mono HB.out.size))
  obtain ⟨zd, hzd⟩ : ∃ z, z = wkx.heap.size := ⟨_, rfl⟩
  rw [← hzd] at hod
  have Kd := Lib.hid (Kp.refl zd wd)
  have HOD := Lib.hid hod
  have HZD := Lib.hid hzd
  have HBD := Lib.hid (show zd ≤ wd.heap.size from by rw [hzd]; exact hbd.size)
  clear hod hbd hzd
  obtain ⟨u0, u1, u2⟩ := (Kx.out.at_ HAt8.out HBX.out).three
  have hzt8 : t8 < wd.heap.size := (Kx.out.at_ HAt8.out HBX.out).lt
  go_wp2_with fail
  refine (HID.out _ _ _ _ _ _ _ ((Kx.out.owng HOX.out).rg H64.out) HOD.out).mono ?_
  rintro e wg ⟨ag, cg, ccg, rfl, q1, q2, hog, hbg⟩
  rw [HD.out]
  replace K0 := Lib.hid (K0.out.below hbg)
  replace K1 := Lib.hid (K1.out.below hbg)
  replace Kx := Lib.hid (Kx.out.below hbg)
  replace Kd := Lib.hid (Kd.out.below hbg)
  replace HB := Lib.hid (HB.out.trans (hbg.mono HB.out.size))
  clear u0 u1 u2 hzt8
  obtain ⟨u0, u1, u2⟩ := (K1.out.at_ HAt6.out HS1.out).three
  have hzt6 : t6 < wg.heap.size := (K1.out.at_ HAt6.out HS1.out).lt
  go_wp2_with fail
  obtain ⟨zg, hzg⟩ : ∃ z, z = wd.heap.size := ⟨_, rfl⟩
  rw [← hzg] at hog
  have hrg : RG zg wg (.slice ag gs'.length ccg) gs' := ⟨ag, cg, ccg, rfl, q1, q2, hog, H64'.out⟩
  obtain ⟨wkg, hwn⟩ : ∃ z, z = wg.alloc (.cells #[.int .i64 p', .int .i64 c', .slice ag gs'.length ccg] 25) := ⟨_, rfl⟩
  have hbn : Below wg.heap.size wg wkg := by rw [hwn]; exact (Below.refl _ _).alloc (Nat.le_refl _) _
  have han : At wkg wg.heap.size (.cells #[.int .i64 p', .int .i64 c', .slice ag gs'.length ccg] 25) := by rw [hwn]; exact At.new _ _
  rw [← hwn]
  clear hwn
  obtain ⟨t10, ht10⟩ : ∃ z, z = wg.heap.size := ⟨_, rfl⟩
  rw [← ht10] at han ⊢
  replace K0 := Lib.hid (K0.out.below hbn)
  replace K1 := Lib.hid (K1.out.below hbn)
  replace Kx := Lib.hid (Kx.out.below hbn)
  replace Kd := Lib.hid (Kd.out.below hbn)
  replace HB := Lib.hid (HB.out.trans (hbn.mono HB.out.size))
  have HAt10 := Lib.hid han
  have HZt10 := Lib.hid ht10
  have Kg := Lib.hid (Kp.refl zg wkg)
  have HRG := Lib.hid (hrg.below hbn)
  have HRGG := Lib.hid hrg
  have HKG := Lib.hid (show Kp zg wg wkg from (Kp.refl zg wg).below hbn)
  have HZG := Lib.hid hzg
  have HBG := Lib.hid (show zg ≤ t10 from by rw [hzg, ht10]; exact hbg.size)
  clear hbn han ht10 hog hrg hbg hzg q1 q2 u0 u1 u2 hzt6
  have hok : (m != m) = false := by simp
  have hT := HEQ.out _ _ p' c' gs' _ _ wkg (Kg.out.rg HRG.out).toGL (K1.out.rg HR1.out).toGL
  rw [HD.out, HD.out] at hT
  refine hT.mono ?_
  rintro e w12 ⟨rfl, hbe⟩
  replace K0 := Lib.hid (K0.out.below hbe)
  replace K1 := Lib.hid (K1.out.below hbe)
  replace Kx := Lib.hid (Kx.out.below hbe)
  replace Kd := Lib.hid (Kd.out.below hbe)
  replace Kg := Lib.hid (Kg.out.below hbe)
  replace HKG := Lib.hid (HKG.out.below hbe)
  replace HB := Lib.hid (HB.out.trans (hbe.mono HB.out.size))
  clear hT hbe
  obtain ⟨x0, x1, x2⟩ := (K0.out.at_ HAD.out (Nat.zero_le _)).three
  have hz00 := (K0.out.at_ HAD.out (Nat.zero_le _)).lt
  obtain ⟨u0, u1, u2⟩ := (Kx.out.at_ HAt8.out HBX.out).three
  have hzt : t8 < w12.heap.size := (Kx.out.at_ HAt8.out HBX.out).lt
  go_wp2_with fail
  go_region_held3 (fun w' => w'.cell? ⟨t8, 0, none⟩ = some (.int .i64 p) ∧ w'.cell? ⟨t8, 1, none⟩ = some (.int .i64 c) ∧ w'.cell? ⟨t8, 2, none⟩ = some (.slice ax gs.length cx) ∧ w'.cell? ⟨w.heap.size, 0, none⟩ = some (.int .i64 p) ∧ w'.cell? ⟨w.heap.size, 1, none⟩ = some (.int .i64 c) ∧ w'.cell? ⟨w.heap.size, 2, none⟩ = some (.slice a gs.length cap))
    (first
      | go_keep
      | (go_split_ands; exact ⟨(hbA.cell (by simp; omega)).trans (by assumption), (hbA.cell (by simp; omega)).trans (by assumption), (hbA.cell (by simp; omega)).trans (by assumption), (hbA.cell (by simp; omega)).trans (by assumption), (hbA.cell (by simp; omega)).trans (by assumption), (hbA.cell (by simp; omega)).trans (by assumption)⟩)
      | (go_split_ands; exact ⟨(hbB.cell (by simp; omega)).trans (by assumption), (hbB.cell (by simp; omega)).trans (by assumption), (hbB.cell (by simp; omega)).trans (by assumption), (hbB.cell (by simp; omega)).trans (by assumption), (hbB.cell (by simp; omega)).trans (by assumption), (hbB.cell (by simp; omega)).trans (by assumption)⟩))
    (first
      | (go_at_call 18; refine (HTD.out _ (show GL 0 w12.drew _ _ from K0.out.gl HGL.out)).mono ?_; rintro e wA ⟨aA, cA, rfl, hoA, hbA⟩; rw [HD.out]; have HKA := Lib.hid (show Below w12.heap.size w12 wA from (below_drw _).trans hbA); have HOA := Lib.hid hoA; have hzA := hbA.size; simp at hzA; clear hoA)
      | (go_at_call 20; have hT := HEQ.out _ _ p c gs _ _ wA (((Kx.out.owng HOX.out).below HKA.out).toGL H64.out) (HOA.out.toGL H64.out); rw [HD.out, HD.out] at hT; refine hT.mono ?_; clear hT; rintro e wB ⟨rfl, hbB⟩; have HKB := Lib.hid hbB; have hzB := hbB.size)
      | fail)
  have hb := HKA.out.trans (HKB.out.mono HKA.out.size)
  replace K0 := Lib.hid (K0.out.below hb)
  replace K1 := Lib.hid (K1.out.below hb)
  replace Kx := Lib.hid (Kx.out.below hb)
  replace Kd := Lib.hid (Kd.out.below hb)
  replace Kg := Lib.hid (Kg.out.below hb)
  replace HKG := Lib.hid (HKG.out.below hb)
  replace HB := Lib.hid (HB.out.trans (hb.mono HB.out.size))
  obtain ⟨w14, h14⟩ : ∃ z, z = wB := ⟨_, rfl⟩
  rw [← h14] at K0 K1 Kx Kd Kg HKG HB ⊢
  clear h14 HKA HKB HOA hbA hbB hb u0 u1 u2 hzt x0 x1 x2 hz00 hzA hzB
  go_wp2_with fail
  refine (HTE.out _ (K0.out.dl HIN.out)).mono ?_
  rintro e wA ⟨aA, cA, rfl, hoA, hbA⟩
  replace K0 := Lib.hid (K0.out.below hbA)
  replace K1 := Lib.hid (K1.out.below hbA)
  replace Kx := Lib.hid (Kx.out.below hbA)
  replace Kd := Lib.hid (Kd.out.below hbA)
  replace Kg := Lib.hid (Kg.out.below hbA)
  replace HKG := Lib.hid (HKG.out.below hbA)
  replace HB := Lib.hid (HB.out.trans (hbA.mono HB.out.size))
  have HOA := Lib.hid hoA
  clear hoA hbA
  go_wp2_with fail
  have hT := HEE.out _ _ _ _ wA ((Kd.out.ownd HOD.out).toDL HX64.out) (HOA.out.toDL HX64.out)
  refine hT.mono ?_
  rintro e w16 ⟨rfl, hbe⟩
  replace K0 := Lib.hid (K0.out.below hbe)
  replace K1 := Lib.hid (K1.out.below hbe)
  replace Kx := Lib.hid (Kx.out.below hbe)
  replace Kd := Lib.hid (Kd.out.below hbe)
  replace Kg := Lib.hid (Kg.out.below hbe)
  replace HKG := Lib.hid (HKG.out.below hbe)
  replace HB := Lib.hid (HB.out.trans (hbe.mono HB.out.size))
  clear hT hbe HOA
  obtain ⟨u0, u1, u2⟩ := (Kx.out.at_ HAt8.out HBX.out).three
  go_wp2_with fail
  have hM := markDesk_any (B := zx) (C := wkx.heap.size) p c _ gs 1 w16 (Kx.out.owng HOX.out) (HOX.out.low Kx.out.2) (by have := Kx.out.1; have := HBX.out; have := HAt8.out.lt; omega) (by omega) (by omega)
  rw [HD.out] at hM
  refine hM.mono ?_
  rintro e w19 ⟨rfl, _, hbM, hfM⟩
  have hzM := hfM
  have hsz : w16.heap.size ≤ w19.heap.size := hbM.size
  have hx1 : wk1.heap.size = zx := HZX.out.symm
  have hx2 : wkx.heap.size = zd := HZD.out.symm
  have hx3 : wd.heap.size = zg := HZG.out.symm
  have hk1 := K1.out.1
  have hxx : zx ≤ zd := by have := HBX.out; have := HAt8.out.lt; omega
  have hdd : zd ≤ zg := by have := HBD.out; omega
  have hk0 : wa.heap.size ≤ zx := by have := HKW3.out; omega
  replace K0 := Lib.hid (K0.out.under hbM hk0)
  replace K1 := Lib.hid (K1.out.under hbM (by omega))
  replace Kd := Lib.hid (Kd.out.far hfM (by omega) hsz)
  replace Kg := Lib.hid (Kg.out.far hfM (by omega) hsz)
  replace HKG := Lib.hid (HKG.out.far hfM (by omega) hsz)
  replace HB := Lib.hid (HB.out.trans (hbM.mono (by have := HKW2.out; omega)))
  rw [endK_tot]
  clear hM hbM hfM hzM Kx u0 u1 u2
  go_wp2_with fail
  have hM := markDeedS_any (B := zd) (C := wd.heap.size) _ ds (1 + (totG gs : Int)) w19 (Kd.out.ownd HOD.out) (HOD.out.low Kd.out.2) (by have := Kd.out.1; omega) (by omega) (by omega)
  refine hM.mono ?_
  rintro e w20 ⟨rfl, _, hbM, hfM⟩
  have hsz2 : w19.heap.size ≤ w20.heap.size := hbM.size
  replace K0 := Lib.hid (K0.out.under hbM (by omega))
  replace K1 := Lib.hid (K1.out.under hbM (by omega))
  replace Kg := Lib.hid (Kg.out.far hfM (by omega) hsz2)
  replace HKG := Lib.hid (HKG.out.far hfM (by omega) hsz2)
  replace HB := Lib.hid (HB.out.trans (hbM.mono (by have := HKW2.out; omega)))
  rw [endD_tot]
  have hm0 : ¬ (1 + (totG gs : Int) + (totD ds : Int) < 0) := by omega
  have hm1 : (0 : Int) ≤ 1 + (totG gs : Int) + (totD ds : Int) := by omega
  clear hM hbM hfM Kd
  obtain ⟨u0, u1, u2⟩ := (K1.out.at_ HAt6.out HS1.out).three
  obtain ⟨x0, x1, x2⟩ := (Kg.out.at_ HAt10.out HBG.out).three
  go_wp2_with fail
  have hT := HEQ.out _ _ p' c' gs' _ _ w20 (Kg.out.rg HRG.out).toGL (K1.out.rg HR1.out).toGL
  rw [HD.out, HD.out] at hT
  refine hT.mono ?_
  rintro e w21 ⟨rfl, hbe⟩
  replace K0 := Lib.hid (K0.out.below hbe)
  replace K1 := Lib.hid (K1.out.below hbe)
  replace Kg := Lib.hid (Kg.out.below hbe)
  replace HKG := Lib.hid (HKG.out.below hbe)
  replace HB := Lib.hid (HB.out.trans (hbe.mono HB.out.size))
  clear hT hbe
  clear u0 u1 u2 x0 x1 x2
  obtain ⟨u0, u1, u2⟩ := (Kg.out.at_ HAt10.out HBG.out).three
  go_wp2_with fail
  have hM := markDesk_rg (B := zg) (wk := wg) p' c' _ gs' 1 w21 HRGG.out HKG.out.2 (by have := Kg.out.1; have := HBG.out; have := HAt10.out.lt; omega) (by omega) (by omega)
  rw [HD.out] at hM
  refine hM.mono ?_
  rintro e w24 ⟨rfl, hrm, hbM, hfM⟩
  have hsz3 : w21.heap.size ≤ w24.heap.size := hbM.size
  have hat10 : At w24 t10 (.cells #[.int .i64 p', .int .i64 c', .slice ag gs'.length ccg] 25) := (hfM t10 (by have := HZt10.out; omega) (Kg.out.at_ HAt10.out HBG.out).lt).trans (Kg.out.at_ HAt10.out HBG.out)
  replace K0 := Lib.hid (K0.out.under hbM (by omega))
  replace K1 := Lib.hid (K1.out.under hbM (by omega))
  replace HB := Lib.hid (HB.out.trans (hbM.mono (by have := HKW2.out; omega)))
  have HRM := Lib.hid hrm
  replace HAt10 := Lib.hid hat10
  replace Kg := Lib.hid (Kp.refl zg w24)
  rw [endK_tot]
  have hm0 : ¬ (1 + (totG gs' : Int) < 0) := by omega
  have hm1 : (0 : Int) ≤ 1 + (totG gs' : Int) := by omega
  clear hM hbM hfM u0 u1 u2 hrm HKG hat10
  obtain ⟨u0, u1, u2⟩ := (Kg.out.at_ HAt10.out HBG.out).three
  go_wp2_with fail
  have hM := heldDesk_any p' c' _ gs' 1 w24 (Kg.out.rg HRM.out).toGL (by omega) (by omega)
  rw [HD.out] at hM
  refine hM.mono ?_
  rintro e w26 ⟨rfl, hbM⟩
  replace K0 := Lib.hid (K0.out.below hbM)
  replace K1 := Lib.hid (K1.out.below hbM)
  replace Kg := Lib.hid (Kg.out.below hbM)
  replace HB := Lib.hid (HB.out.trans (hbM.mono HB.out.size))
  rw [endK_tot]
  clear hM hbM u0 u1 u2
  have hne : ((1 : Int) + (totG gs' : Int) != 1 + (totG gs' : Int)) = false := by simp
  obtain ⟨x0, x1, x2⟩ := (K0.out.at_ HAD.out (Nat.zero_le _)).three
  have hz00 := (K0.out.at_ HAD.out (Nat.zero_le _)).lt
  go_wp2_with fail
  refine (HTD.out _ (K0.out.gl HGL.out)).mono ?_
  rintro e wA ⟨aA, cA, rfl, hoA, hbA⟩
  rw [HD.out]
  replace K0 := Lib.hid (K0.out.below hbA)
  replace K1 := Lib.hid (K1.out.below hbA)
  replace Kg := Lib.hid (Kg.out.below hbA)
  replace HB := Lib.hid (HB.out.trans (hbA.mono HB.out.size))
  have HOA := Lib.hid hoA
  clear hoA x0 x1 x2 hz00
  go_wp2_with fail
  refine (HTE.out _ (K0.out.dl HIN.out)).mono ?_
  rintro e wB ⟨aB, cB, rfl, hoB, hbB⟩
  replace K0 := Lib.hid (K0.out.below hbB)
  replace K1 := Lib.hid (K1.out.below hbB)
  replace Kg := Lib.hid (Kg.out.below hbB)
  replace HB := Lib.hid (HB.out.trans (hbB.mono HB.out.size))
  replace HOA := Lib.hid (HOA.out.below hbB)
  have HOB := Lib.hid hoB
  clear hoB
  go_wp2_with fail
  refine (HID.out _ _ _ _ _ _ _ (HOA.out.rg H64.out) HOB.out).mono ?_
  rintro e wC ⟨aC, cC, ccC, rfl, q1, q2, hoC, hbC⟩
  rw [HD.out]
  replace K0 := Lib.hid (K0.out.below hbC)
  replace K1 := Lib.hid (K1.out.below hbC)
  replace Kg := Lib.hid (Kg.out.below hbC)
  replace HB := Lib.hid (HB.out.trans (hbC.mono HB.out.size))
  obtain ⟨zz2, hzz2⟩ : ∃ z, z = wB.heap.size := ⟨_, rfl⟩
  have hrC : RG wB.heap.size wC (.slice aC gs'.length ccC) gs' := ⟨aC, cC, ccC, rfl, q1, q2, hoC, H64'.out⟩
  rw [← hzz2] at hrC
  clear hoC q1 q2 HOA HOB hbA hbB
  have hsC := hbC.size
  clear hbC
  obtain ⟨u0, u1, u2⟩ := (K1.out.at_ HAt6.out HS1.out).three
  have hzt6 : t6 < wC.heap.size := (K1.out.at_ HAt6.out HS1.out).lt
  go_wp2_with fail
  obtain ⟨wkh, hwn⟩ : ∃ z, z = wC.alloc (.cells #[.int .i64 p', .int .i64 c', .slice aC gs'.length ccC] 25) := ⟨_, rfl⟩
  have hbn : Below wC.heap.size wC wkh := by rw [hwn]; exact (Below.refl _ _).alloc (Nat.le_refl _) _
  have han : At wkh wC.heap.size (.cells #[.int .i64 p', .int .i64 c', .slice aC gs'.length ccC] 25) := by rw [hwn]; exact At.new _ _
  rw [← hwn]
  clear hwn
  obtain ⟨t15, ht15⟩ : ∃ z, z = wC.heap.size := ⟨_, rfl⟩
  rw [← ht15] at han ⊢
  replace K0 := Lib.hid (K0.out.below hbn)
  replace K1 := Lib.hid (K1.out.below hbn)
  replace Kg := Lib.hid (Kg.out.below hbn)
  replace HB := Lib.hid (HB.out.trans (hbn.mono HB.out.size))
  have HAt15 := Lib.hid han
  have HZt15 := Lib.hid ht15
  have Kh := Lib.hid (Kp.refl zz2 wkh)
  have HRH := Lib.hid (hrC.below hbn)
  clear hbn han ht15 hrC hsC hzz2 u0 u1 u2 hzt6
  have hT := HEQ.out _ _ p' c' gs' _ _ wkh HRH.out.toGL (K1.out.rg HR1.out).toGL
  rw [HD.out, HD.out] at hT
  refine hT.mono ?_
  rintro e w32 ⟨rfl, hbe⟩
  replace K0 := Lib.hid (K0.out.below hbe)
  replace K1 := Lib.hid (K1.out.below hbe)
  replace Kg := Lib.hid (Kg.out.below hbe)
  replace HB := Lib.hid (HB.out.trans (hbe.mono HB.out.size))
  clear hT hbe
  obtain ⟨u0, u1, u2⟩ := (Kg.out.at_ HAt10.out HBG.out).three
  go_wp2_with fail
  have hM := heldDesk_any p' c' _ gs' 1 w32 (Kg.out.rg HRM.out).toGL (by omega) (by omega)
  rw [HD.out] at hM
  refine hM.mono ?_
  rintro e w35 ⟨rfl, hbM⟩
  replace K0 := Lib.hid (K0.out.below hbM)
  replace K1 := Lib.hid (K1.out.below hbM)
  replace Kg := Lib.hid (Kg.out.below hbM)
  replace HB := Lib.hid (HB.out.trans (hbM.mono HB.out.size))
  rw [endK_tot]
  clear hM hbM u0 u1 u2
  go_wp2
  go_ret
  exact ⟨rfl, HB.out⟩

end Go.Proofs.Ytjecolbodelniaa