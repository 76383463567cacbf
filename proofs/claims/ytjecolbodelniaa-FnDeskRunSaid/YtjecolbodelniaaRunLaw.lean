/- The walk of FnDeskRun. Printed by wip/tools/gen_runlaw.py. -/
import Derived.Test.YtjecolbodelniaaRunS
import Derived.Test.YtjecolbodelniaaDrawRun
import Derived.Test.YtjecolbodelniaaSameG
import Derived.Test.YtjecolbodelniaaAlive
namespace Go.Proofs.Ytjecolbodelniaa
open Go.RowKit Go.Shelf
set_option linter.unusedVariables false
set_option maxRecDepth 100000

theorem noDesk_any {B : Nat} (a0 : Option Addr) (cap0 : Nat) (w : World) (h : GL B w (.slice a0 0 cap0) []) :
    Calls Try.prog 29 #[dkV 0 0 (.slice a0 0 cap0)] w fun e w' => e = .returned (.bool true) ∧ Below w.heap.size w w' := by
  have hb1 : Below w.heap.size w (w.alloc (.cells #[.int .i64 0, .int .i64 0, .slice a0 0 cap0] 25)) := (Below.refl _ _).alloc (Nat.le_refl _) _
  have hE := sameDesk_self 0 0 (.slice a0 0 cap0) (.slice none 0 0) [] _ (h.below hb1) (GL.nil 0 (w.alloc (.cells #[.int .i64 0, .int .i64 0, .slice a0 0 cap0] 25)))
  have HB := Lib.hid hb1
  unfold dkV at hE ⊢
  clear hb1 h
  go_enter Try.func29, Try.ntmps29
  go_wp2_with fail
  refine hE.mono ?_
  rintro e w2 ⟨rfl, hb2⟩
  have HB2 := Lib.hid (HB.out.trans (hb2.mono HB.out.size))
  clear hE hb2
  go_wp2
  go_ret
  exact ⟨rfl, HB2.out⟩

theorem DL.zero (B : Nat) (w : World) (a : Option Addr) (cap : Nat) (hc : cap ≤ 9223372036854775807) : DL B w (.slice a 0 cap) [] := ⟨a, cap, fun _ => undef, rfl, by simp, hc, by simp, by simp⟩
theorem DN.zero (w : World) (v : Value) : DN w v [] := fun _ _ _ _ _ i _ hi => by simp at hi
theorem DL.sub {B : Nat} {w : World} {g n cap : Nat} {ds : List Dd} (h : DL B w (.slice (some ⟨g, 0, none⟩) n cap) ds) (j k cap' : Nat) (hk : j + k ≤ ds.length) (hc : k ≤ cap') (hm : cap' ≤ 9223372036854775807) :
    DL B w (.slice (some ⟨g, j * 4, none⟩) k cap') ((ds.drop j).take k) := by
  obtain ⟨a, cap0, V, h1, h2, h3, h4, h5⟩ := h
  injection h1 with e1 e2 e3
  subst e1
  have hl : ((ds.drop j).take k).length = k := by simp; omega
  refine ⟨some ⟨g, j * 4, none⟩, cap', fun i => V (j + i), by rw [hl], by omega, hm, fun hp => ?_, fun i hi => ?_⟩
  · obtain ⟨b, off, e, hb, hcs⟩ := h4 (by omega)
    injection e with e
    injection e with e1 e2 _
    subst e1 e2
    refine ⟨g, j * 4, rfl, hb, fun i hi => ?_⟩
    have hi' : j + i < ds.length := by omega
    have := hcs (j + i) hi'
    rw [List.getElem_take, List.getElem_drop]
    rw [show 0 + (j + i) * 4 = j * 4 + i * 4 by omega] at this
    exact this
  · have hi' : j + i < ds.length := by omega
    rw [List.getElem_take, List.getElem_drop]
    exact h5 (j + i) hi'
theorem DN.sub {w : World} {g n cap : Nat} {ds : List Dd} (h : DN w (.slice (some ⟨g, 0, none⟩) n cap) ds) (j k k' cap' : Nat) (hk : j + k ≤ ds.length) : DN w (.slice (some ⟨g, j * 4, none⟩) k' cap') ((ds.drop j).take k) := by
  intro b off m c e i u hi hu
  injection e with e _ _
  injection e with e
  injection e with e1 e2 _
  subst e1 e2
  have hl : ((ds.drop j).take k).length = k := by simp; omega
  rw [show j * 4 + i * 4 + 1 = 0 + (j + i) * 4 + 1 by omega] at hu
  exact h g 0 n cap rfl (j + i) u (by omega) hu
theorem OwnD.addr {B : Nat} {w : World} {a : Option Addr} {n cap : Nat} {ds : List Dd} (h : OwnD B w (.slice a n cap) ds) : (a = none ∧ cap = 0) ∨ ∃ g, a = some ⟨g, 0, none⟩ := by
  obtain ⟨ts, h1, _⟩ := h
  obtain ⟨_, h1⟩ := h1
  rcases h1 with ⟨e, _⟩ | ⟨g, cap, cur, e, _⟩
  · injection e with e1 e2 e3
    exact .inl ⟨e1, e3⟩
  · injection e with e1 e2 e3
    exact .inr ⟨g, e1⟩
theorem RunRes.is {p c : Int} {gs : List Gs} {ds : List Dd} {w : World} {e : Ending} {w' : World} (h : runB p c gs ds = true) (q : RunRes p c gs ds w e w') : RunOut p c (runG p c gs ds).1 ((runG p c gs ds).2 : Nat) w e w' := by
  unfold RunRes at q; rw [if_pos h] at q; exact q
theorem RunRes.not {p c : Int} {gs : List Gs} {ds : List Dd} {w : World} {e : Ending} {w' : World} (h : runB p c gs ds = false) (q : RunRes p c gs ds w e w') : RunOut 0 0 [] 0 w e w' := by
  unfold RunRes at q; rw [if_neg (by simp [h])] at q; exact q
theorem runB_iff {p c : Int} {gs : List Gs} {ds : List Dd} : runB p c gs ds = true ↔ deskB p c gs = true ∧ ds.length ≤ 40 := by
  unfold runB
  rw [Bool.and_eq_true, decide_eq_true_iff]
  exact ⟨fun h => ⟨h.1, by omega⟩, fun h => ⟨h.1, by omega⟩⟩
theorem Kp.ownd' {lo : Nat} {wk w : World} {v : Value} {ds : List Dd} (h : Kp lo wk w) (hr : OwnD lo wk v ds) : OwnD lo w v ds := hr.keep h.2

set_option maxHeartbeats 8000000 in
theorem FnDeskRun_walk (v : Value) (bs : List Int) (w : World) (h : Bytes 0 w v bs) :
    Calls Try.prog 5 #[v] w fun e w' => e = .returned (.bool true) ∧ Below w.heap.size w w' := by
  obtain ⟨a0, cap0, rfl, hc1, hc2, hc3⟩ := id h.1
  rw [List.length_map] at h ⊢
  clear hc1 hc2 hc3
  have hDr := drawDeskRun_any _ bs w h
  clear h
  by_cases hs : 1048576 < bs.length
  · go_enter Try.func5, Try.ntmps5
    go_wp2
    go_ret
    exact ⟨rfl, Below.refl _ _⟩
  go_enter Try.func5, Try.ntmps5
  go_wp2_with fail
  refine hDr.mono ?_
  rintro e w1 ⟨p, c, gs, a1, c1, ds, a2, c2, rfl, ho1, h64, hl5, hcl, hi1, hy, hyl, hdc, hb1⟩
  have HD := Lib.hid (fun p c v => show dkV p c v = .agg #[.int .i64 p, .int .i64 c, v] from rfl)
  rw [HD.out]
  have HB := Lib.hid hb1
  have HO := Lib.hid ho1
  have HI := Lib.hid hi1
  have H64 := Lib.hid h64
  have HY := Lib.hid hy
  have HCL := Lib.hid (show ∀ g ∈ gs, g.code.length ≤ 2000000 from fun g hg => Nat.le_trans (hcl g hg) (by omega))
  have HDC := Lib.hid (show ∀ d ∈ ds, d.code.length ≤ 2000000 from fun d hd => Nat.le_trans (hdc d hd) (by omega))
  clear hDr ho1 hi1 h64 hy hcl hdc hb1
  go_wp2_with fail
  obtain ⟨wa, hwa⟩ : ∃ z, z = w1.alloc (.cells #[.int .i64 p, .int .i64 c, .slice a1 gs.length c1] 25) := ⟨_, rfl⟩
  have hba : Below w1.heap.size w1 wa := by rw [hwa]; exact (Below.refl _ _).alloc (Nat.le_refl _) _
  have hAD : At wa w1.heap.size (.cells #[.int .i64 p, .int .i64 c, .slice a1 gs.length c1] 25) := by rw [hwa]; exact At.new w1 _
  rw [← hwa]
  obtain ⟨t3, ht3⟩ : ∃ z, z = w1.heap.size := ⟨_, rfl⟩
  rw [← ht3] at hAD ⊢
  have HR := Lib.hid ((HO.out.rg H64.out).below hba)
  have HU := Lib.hid (HI.out.below hba)
  replace HB := Lib.hid (HB.out.trans (hba.mono HB.out.size))
  have A3 := Lib.hid hAD
  clear hwa hba hAD HO HI ht3
  have HID := Lib.hid (fun (B C : Nat) (gs : List Gs) (ds : List Dd) (W : World) (v u : Value) (hg : ∀ g ∈ gs, g.code.length ≤ 2000000) (hx : ∀ d ∈ ds, d.code.length ≤ 2000000) (q1 : RG B W v gs) (q2 : DL C W u ds) (q3 : DN W u ds) => deskRunI_any p c v gs u ds W q1 q2 q3 hg hx)
  have HSD := Lib.hid (fun (B C : Nat) (W : World) (v u : Value) (q1 : RG B W v gs) (q2 : DL C W u ds) => deskRunS_any p c v gs u ds W q1 q2 HCL.out HDC.out)
  have HSM := Lib.hid (fun (B C : Nat) (p c : Int) (gs : List Gs) (v v' : Value) (W : World) (q1 : GL B W v gs) (q2 : GL C W v' gs) => sameDesk_self p c v v' gs W q1 q2)
  have HOK := Lib.hid (fun (B : Nat) (p c : Int) (gs : List Gs) (v : Value) (W : World) (q : GL B W v gs) => deskOkI_any p c v gs W q)
  have HOS := Lib.hid (fun (B : Nat) (p c : Int) (gs : List Gs) (v : Value) (W : World) (q : GL B W v gs) => deskOkS_any p c v gs W q)
  rcases hdk : runB p c gs ds with _ | _
  · have HK := Lib.hid hdk
    clear hdk
    have hT := HID.out _ _ gs ds wa _ _ HCL.out HDC.out HR.out (HU.out.toDL HY.out) HU.out.dn
    rw [HD.out] at hT
    refine hT.mono ?_
    rintro e w2 hq2
    obtain ⟨a3, c3, cc3, rfl, q1, q2, ho2, hb2⟩ := RunRes.not HK.out hq2
    rw [HD.out]
    simp only [List.length_nil]
    clear hT
    have hr2 : RG wa.heap.size w2 (.slice a3 0 cc3) (([] : List Gs)) := ⟨a3, c3, cc3, rfl, q1, q2, ho2, (fun g hg => by cases hg)⟩
    replace HR := Lib.hid (HR.out.below hb2)
    replace HU := Lib.hid (HU.out.below hb2)
    replace A3 := Lib.hid (A3.out.below hb2)
    replace HB := Lib.hid (HB.out.trans (hb2.mono HB.out.size))
    clear hb2 ho2 q1 q2 hq2
    obtain ⟨x0, x1, x2⟩ := A3.out.three
    have xz := A3.out.lt
    go_wp2_with fail
    have HX := Lib.hid hr2
    clear hr2
    obtain ⟨w3, hwn⟩ : ∃ z, z = w2.alloc (.cells #[.int .i64 0, .int .i64 0, .slice a3 0 cc3] 25) := ⟨_, rfl⟩
    have hbn : Below w2.heap.size w2 w3 := by rw [hwn]; exact (Below.refl _ _).alloc (Nat.le_refl _) _
    have han : At w3 w2.heap.size (.cells #[.int .i64 0, .int .i64 0, .slice a3 0 cc3] 25) := by rw [hwn]; exact At.new _ _
    rw [← hwn]
    clear hwn
    obtain ⟨t5, hblk⟩ : ∃ z, z = w2.heap.size := ⟨_, rfl⟩
    rw [← hblk] at han ⊢
    replace HR := Lib.hid (HR.out.below hbn)
    replace HU := Lib.hid (HU.out.below hbn)
    replace A3 := Lib.hid (A3.out.below hbn)
    replace HX := Lib.hid (HX.out.below hbn)
    replace HB := Lib.hid (HB.out.trans (hbn.mono HB.out.size))
    have A5 := Lib.hid han
    clear hbn han hblk
    clear x0 x1 x2 xz
    have hT := HSD.out _ _ w3 _ _ HR.out (HU.out.toDL HY.out)
    rw [HD.out] at hT
    refine hT.mono ?_
    rintro e w4 hq2
    obtain ⟨a4, c4, cc4, rfl, q1, q2, ho4, hb4⟩ := RunRes.not HK.out hq2
    rw [HD.out]
    simp only [List.length_nil]
    clear hT
    have hr4 : RG w3.heap.size w4 (.slice a4 0 cc4) (([] : List Gs)) := ⟨a4, c4, cc4, rfl, q1, q2, ho4, (fun g hg => by cases hg)⟩
    replace HR := Lib.hid (HR.out.below hb4)
    replace HU := Lib.hid (HU.out.below hb4)
    replace A3 := Lib.hid (A3.out.below hb4)
    replace HX := Lib.hid (HX.out.below hb4)
    replace A5 := Lib.hid (A5.out.below hb4)
    replace HB := Lib.hid (HB.out.trans (hb4.mono HB.out.size))
    clear hb4 ho4 q1 q2 hq2
    obtain ⟨x0, x1, x2⟩ := A5.out.three
    have xz := A5.out.lt
    go_wp2_with fail
    have HY2 := Lib.hid hr4
    clear hr4
    obtain ⟨w5, hwn⟩ : ∃ z, z = w4.alloc (.cells #[.int .i64 0, .int .i64 0, .slice a4 0 cc4] 25) := ⟨_, rfl⟩
    have hbn : Below w4.heap.size w4 w5 := by rw [hwn]; exact (Below.refl _ _).alloc (Nat.le_refl _) _
    have han : At w5 w4.heap.size (.cells #[.int .i64 0, .int .i64 0, .slice a4 0 cc4] 25) := by rw [hwn]; exact At.new _ _
    rw [← hwn]
    clear hwn
    obtain ⟨t7, hblk⟩ : ∃ z, z = w4.heap.size := ⟨_, rfl⟩
    rw [← hblk] at han ⊢
    replace HR := Lib.hid (HR.out.below hbn)
    replace HU := Lib.hid (HU.out.below hbn)
    replace A3 := Lib.hid (A3.out.below hbn)
    replace HX := Lib.hid (HX.out.below hbn)
    replace A5 := Lib.hid (A5.out.below hbn)
    replace HY2 := Lib.hid (HY2.out.below hbn)
    replace HB := Lib.hid (HB.out.trans (hbn.mono HB.out.size))
    have A7 := Lib.hid han
    clear hbn han hblk
    clear x0 x1 x2 xz
    have hT := HSM.out _ _ (0) (0) (([] : List Gs)) _ _ w5 HX.out.toGL HY2.out.toGL
    rw [HD.out, HD.out] at hT
    refine hT.mono ?_
    rintro e w6 ⟨rfl, hb6⟩
    clear hT
    replace HR := Lib.hid (HR.out.below hb6)
    replace HU := Lib.hid (HU.out.below hb6)
    replace A3 := Lib.hid (A3.out.below hb6)
    replace HX := Lib.hid (HX.out.below hb6)
    replace A5 := Lib.hid (A5.out.below hb6)
    replace HB := Lib.hid (HB.out.trans (hb6.mono HB.out.size))
    clear hb6 HY2 A7
    have hoo : ((0 : Int) != (0 : Int)) = false := by simp
    obtain ⟨x0, x1, x2⟩ := A3.out.three
    have xz := A3.out.lt
    go_wp2_with fail
    have hT := HOS.out _ p c gs _ w6 HR.out.toGL
    rw [HD.out] at hT
    refine hT.mono ?_
    rintro e w7 ⟨rfl, hb7⟩
    clear hT
    replace HR := Lib.hid (HR.out.below hb7)
    replace HU := Lib.hid (HU.out.below hb7)
    replace A3 := Lib.hid (A3.out.below hb7)
    replace HX := Lib.hid (HX.out.below hb7)
    replace A5 := Lib.hid (A5.out.below hb7)
    replace HB := Lib.hid (HB.out.trans (hb7.mono HB.out.size))
    clear hb7
    clear x0 x1 x2 xz
    have HZ := Lib.hid (show deskB p c gs = false ∨ ds.length = 41 from by
      rcases q : deskB p c gs with _ | _
      · exact .inl rfl
      · right
        have := HK.out
        rcases Nat.lt_or_ge ds.length 41 with q2 | q2
        · rw [runB_iff.2 ⟨q, by omega⟩] at this; cases this
        · omega)
    have hend : ∀ W, GL wa.heap.size W (.slice a3 0 cc3) [] → Calls Try.prog 29 #[.agg #[.int .i64 0, .int .i64 0, .slice a3 0 cc3]] W (fun e w' => e = .returned (.bool true) ∧ Below W.heap.size W w') := fun W q => noDesk_any a3 cc3 W q
    obtain ⟨x0, x1, x2⟩ := A5.out.three
    have xz := A5.out.lt
    obtain ⟨t, ht⟩ : ∃ t, t = deskB p c gs := ⟨_, rfl⟩
    rw [← ht] at HZ ⊢
    clear ht
    have HEND := Lib.hid hend
    clear hend
    cases t
    · go_wp2_with fail
      refine (HEND.out _ HX.out.toGL).mono ?_
      rintro e w8 ⟨rfl, hb8⟩
      replace HB := Lib.hid (HB.out.trans (hb8.mono HB.out.size))
      clear hb8
      go_wp2_with fail
      refine (alive_any _).mono ?_
      rintro e w9 ⟨rfl, rfl⟩
      go_wp2
      go_ret
      exact ⟨rfl, HB.out⟩
    · have h41 : (40 : Int) < (ds.length : Int) := by rcases HZ.out with q | q; cases q; omega
      go_wp2_with fail
      refine (HEND.out _ HX.out.toGL).mono ?_
      rintro e w8 ⟨rfl, hb8⟩
      replace HB := Lib.hid (HB.out.trans (hb8.mono HB.out.size))
      clear hb8
      go_wp2_with fail
      refine (alive_any _).mono ?_
      rintro e w9 ⟨rfl, rfl⟩
      go_wp2
      go_ret
      exact ⟨rfl, HB.out⟩
  · have HK := Lib.hid hdk
    have HK1 := Lib.hid (runB_iff.1 hdk)
    have HQ := Lib.hid (show ∀ W e W', RunRes p c gs ds W e W' → RunOut p c (runG p c gs ds).1 ((runG p c gs ds).2 : Nat) W e W' from fun W e W' q => RunRes.is hdk q)
    have HG64 := Lib.hid (run_i64 (p := p) (c := c) ds gs H64.out HY.out)
    have HGD := Lib.hid (run_desk ds gs (runB_iff.1 hdk).1)
    have HAPP := Lib.hid (run_app p c (ds.take (ds.length / 2)) gs (ds.drop (ds.length / 2)))
    have HLE := Lib.hid (run_le p c ds gs)
    rw [List.take_append_drop] at HAPP
    obtain ⟨gs', hgs⟩ : ∃ z, z = (runG p c gs ds).1 := ⟨_, rfl⟩
    obtain ⟨m, hm⟩ : ∃ z, z = (runG p c gs ds).2 := ⟨_, rfl⟩
    rw [← hgs, ← hm] at HQ HAPP
    rw [← hgs] at HG64 HGD
    rw [← hm] at HLE
    have hlen := (runB_iff.1 hdk).2
    clear hdk hgs hm
    have hT := HID.out _ _ gs ds wa _ _ HCL.out HDC.out HR.out (HU.out.toDL HY.out) HU.out.dn
    rw [HD.out] at hT
    refine hT.mono ?_
    rintro e w2 hq2
    obtain ⟨a3, c3, cc3, rfl, q1, q2, ho2, hb2⟩ := HQ.out _ _ _ hq2
    rw [HD.out]
    clear hT
    have hr2 : RG wa.heap.size w2 (.slice a3 (gs').length cc3) (gs') := ⟨a3, c3, cc3, rfl, q1, q2, ho2, HG64.out⟩
    replace HR := Lib.hid (HR.out.below hb2)
    replace HU := Lib.hid (HU.out.below hb2)
    replace A3 := Lib.hid (A3.out.below hb2)
    replace HB := Lib.hid (HB.out.trans (hb2.mono HB.out.size))
    clear hb2 ho2 q1 q2 hq2
    obtain ⟨x0, x1, x2⟩ := A3.out.three
    have xz := A3.out.lt
    go_wp2_with fail
    have HX := Lib.hid hr2
    clear hr2
    obtain ⟨w3, hwn⟩ : ∃ z, z = w2.alloc (.cells #[.int .i64 p, .int .i64 c, .slice a3 (gs').length cc3] 25) := ⟨_, rfl⟩
    have hbn : Below w2.heap.size w2 w3 := by rw [hwn]; exact (Below.refl _ _).alloc (Nat.le_refl _) _
    have han : At w3 w2.heap.size (.cells #[.int .i64 p, .int .i64 c, .slice a3 (gs').length cc3] 25) := by rw [hwn]; exact At.new _ _
    rw [← hwn]
    clear hwn
    obtain ⟨t5, hblk⟩ : ∃ z, z = w2.heap.size := ⟨_, rfl⟩
    rw [← hblk] at han ⊢
    replace HR := Lib.hid (HR.out.below hbn)
    replace HU := Lib.hid (HU.out.below hbn)
    replace A3 := Lib.hid (A3.out.below hbn)
    replace HX := Lib.hid (HX.out.below hbn)
    replace HB := Lib.hid (HB.out.trans (hbn.mono HB.out.size))
    have A5 := Lib.hid han
    clear hbn han hblk
    clear x0 x1 x2 xz
    have hT := HSD.out _ _ w3 _ _ HR.out (HU.out.toDL HY.out)
    rw [HD.out] at hT
    refine hT.mono ?_
    rintro e w4 hq2
    obtain ⟨a4, c4, cc4, rfl, q1, q2, ho4, hb4⟩ := HQ.out _ _ _ hq2
    rw [HD.out]
    clear hT
    have hr4 : RG w3.heap.size w4 (.slice a4 (gs').length cc4) (gs') := ⟨a4, c4, cc4, rfl, q1, q2, ho4, HG64.out⟩
    replace HR := Lib.hid (HR.out.below hb4)
    replace HU := Lib.hid (HU.out.below hb4)
    replace A3 := Lib.hid (A3.out.below hb4)
    replace HX := Lib.hid (HX.out.below hb4)
    replace A5 := Lib.hid (A5.out.below hb4)
    replace HB := Lib.hid (HB.out.trans (hb4.mono HB.out.size))
    clear hb4 ho4 q1 q2 hq2
    obtain ⟨x0, x1, x2⟩ := A5.out.three
    have xz := A5.out.lt
    go_wp2_with fail
    have HY2 := Lib.hid hr4
    clear hr4
    obtain ⟨w5, hwn⟩ : ∃ z, z = w4.alloc (.cells #[.int .i64 p, .int .i64 c, .slice a4 (gs').length cc4] 25) := ⟨_, rfl⟩
    have hbn : Below w4.heap.size w4 w5 := by rw [hwn]; exact (Below.refl _ _).alloc (Nat.le_refl _) _
    have han : At w5 w4.heap.size (.cells #[.int .i64 p, .int .i64 c, .slice a4 (gs').length cc4] 25) := by rw [hwn]; exact At.new _ _
    rw [← hwn]
    clear hwn
    obtain ⟨t7, hblk⟩ : ∃ z, z = w4.heap.size := ⟨_, rfl⟩
    rw [← hblk] at han ⊢
    replace HR := Lib.hid (HR.out.below hbn)
    replace HU := Lib.hid (HU.out.below hbn)
    replace A3 := Lib.hid (A3.out.below hbn)
    replace HX := Lib.hid (HX.out.below hbn)
    replace A5 := Lib.hid (A5.out.below hbn)
    replace HY2 := Lib.hid (HY2.out.below hbn)
    replace HB := Lib.hid (HB.out.trans (hbn.mono HB.out.size))
    have A7 := Lib.hid han
    clear hbn han hblk
    clear x0 x1 x2 xz
    have hT := HSM.out _ _ (p) (c) (gs') _ _ w5 HX.out.toGL HY2.out.toGL
    rw [HD.out, HD.out] at hT
    refine hT.mono ?_
    rintro e w6 ⟨rfl, hb6⟩
    clear hT
    replace HR := Lib.hid (HR.out.below hb6)
    replace HU := Lib.hid (HU.out.below hb6)
    replace A3 := Lib.hid (A3.out.below hb6)
    replace HX := Lib.hid (HX.out.below hb6)
    replace A5 := Lib.hid (A5.out.below hb6)
    replace HB := Lib.hid (HB.out.trans (hb6.mono HB.out.size))
    clear hb6 HY2 A7
    have hoo : ((m : Int) != (m : Int)) = false := by simp
    obtain ⟨x0, x1, x2⟩ := A3.out.three
    have xz := A3.out.lt
    go_wp2_with fail
    have hT := HOS.out _ p c gs _ w6 HR.out.toGL
    rw [HD.out] at hT
    refine hT.mono ?_
    rintro e w7 ⟨rfl, hb7⟩
    clear hT
    replace HR := Lib.hid (HR.out.below hb7)
    replace HU := Lib.hid (HU.out.below hb7)
    replace A3 := Lib.hid (A3.out.below hb7)
    replace HX := Lib.hid (HX.out.below hb7)
    replace A5 := Lib.hid (A5.out.below hb7)
    replace HB := Lib.hid (HB.out.trans (hb7.mono HB.out.size))
    clear hb7
    clear x0 x1 x2 xz
    rw [HK1.out.1]
    have h41 : ¬ ((40 : Int) < (ds.length : Int)) := by omega
    obtain ⟨half, hhalf⟩ : ∃ z, z = ds.length / 2 := ⟨_, rfl⟩
    have hdiv : ((ds.length : Int)).tdiv 2 = (half : Int) := by rw [hhalf, Int.tdiv_eq_ediv_of_nonneg (by omega)]; omega
    rw [← hhalf] at HAPP
    have HHALF := Lib.hid hhalf
    have hhl : half ≤ ds.length := by omega
    clear hhalf
    have HP1 := Lib.hid (show runB p c gs (ds.take half) = true from runB_iff.2 ⟨HK1.out.1, by rw [List.length_take]; omega⟩)
    have HG1 := Lib.hid (run_i64 (p := p) (c := c) (ds.take half) gs H64.out (fun d hd => HY.out d (List.mem_of_mem_take hd)))
    have HGD1 := Lib.hid (run_desk (p := p) (c := c) (ds.take half) gs HK1.out.1)
    have HGC1 := Lib.hid (run_codes (p := p) (c := c) (N := 2000000) (ds.take half) gs HCL.out (fun d hd => HDC.out d (List.mem_of_mem_take hd)))
    obtain ⟨g1, hg1⟩ : ∃ z, z = (runG p c gs (ds.take half)).1 := ⟨_, rfl⟩
    obtain ⟨m1, hm1⟩ : ∃ z, z = (runG p c gs (ds.take half)).2 := ⟨_, rfl⟩
    have HP2 := Lib.hid (show runB p c g1 (ds.drop half) = true from runB_iff.2 ⟨by rw [hg1]; exact HGD1.out, by rw [List.length_drop]; omega⟩)
    have HR1 := Lib.hid (show ∀ W e W', RunRes p c gs (ds.take half) W e W' → RunOut p c g1 (m1 : Nat) W e W' from fun W e W' q => by rw [hg1, hm1]; exact RunRes.is HP1.out q)
    rw [← hg1] at HG1 HGC1 HAPP
    rw [← hm1] at HAPP
    have HR2 := Lib.hid (show ∀ W e W', RunRes p c g1 (ds.drop half) W e W' → RunOut p c gs' ((runG p c g1 (ds.drop half)).2 : Nat) W e W' from fun W e W' q => by rw [HAPP.out.1]; exact RunRes.is HP2.out q)
    obtain ⟨m2, hm2⟩ : ∃ z, z = (runG p c g1 (ds.drop half)).2 := ⟨_, rfl⟩
    rw [← hm2] at HAPP HR2
    have hmm : (((m1 : Int) + (m2 : Int)) == (m : Int)) = true := by rw [beq_iff_eq]; have := HAPP.out.2; omega
    have hm40 : (m1 : Int) + (m2 : Int) ≤ 1000 := by have := HAPP.out.2; have := HLE.out; omega
    have hm0 : (0 : Int) ≤ (m1 : Int) := by omega
    have hm0' : (0 : Int) ≤ (m2 : Int) := by omega
    clear hg1 hm1 hm2
    obtain ⟨ad, cd, hvd, hcd, hmd⟩ := HU.out.shape
    injection hvd with e1 e2 e3
    subst e1 e3
    have HCT := Lib.hid (show ∀ d ∈ ds.take half, d.code.length ≤ 2000000 from fun d hd => HDC.out d (List.mem_of_mem_take hd))
    have HCR := Lib.hid (show ∀ d ∈ ds.drop half, d.code.length ≤ 2000000 from fun d hd => HDC.out d (List.mem_of_mem_drop hd))
    have hk0 : (0 : Int) ≤ (half : Int) := by omega
    have hk1 : (half : Int) ≤ (c2 : Int) := by omega
    have hk1' : (half : Int) ≤ (ds.length : Int) := by omega
    clear e2
    by_cases hc : c2 = half
    · have hz0 : ds = [] := List.eq_nil_of_length_eq_zero (by have := HHALF.out; omega)
      have hh0 : half = 0 := by rw [hz0] at hhl; simpa using hhl
      subst hz0
      subst hh0
      subst hc
      simp only [List.length_nil] at HU hdiv hk0 hk1 hk1' h41 hhl hlen hcd ⊢
      rcases HU.out.addr with ⟨rfl, _⟩ | ⟨g, rfl⟩
      · have HDL := Lib.hid (show ∀ W, OwnD w.heap.size W (.slice none 0 0) [] → DL w.heap.size W (.slice none 0 0) (([] : List Dd).take 0) ∧ DN W (.slice none 0 0) (([] : List Dd).take 0) from fun W q => ⟨DL.zero _ _ _ _ (by omega), DN.zero _ _⟩)
        have HDR := Lib.hid (show ∀ W, OwnD w.heap.size W (.slice none 0 0) [] → DL w.heap.size W (.slice none 0 0) (([] : List Dd).drop 0) ∧ DN W (.slice none 0 0) (([] : List Dd).drop 0) from fun W q => ⟨DL.zero _ _ _ _ (by omega), DN.zero _ _⟩)
        have HC1 := Lib.hid (show ∀ W, OwnD w.heap.size W (.slice none 0 0) [] → RG w.heap.size W (.slice a1 gs.length c1) gs → Calls Try.prog 26 #[.agg #[.int .i64 p, .int .i64 c, .slice a1 gs.length c1], .slice none 0 0] W (RunOut p c g1 (m1 : Int) W) from
          fun W q1 q2 => (HID.out _ _ gs [] W _ _ HCL.out HCT.out q2 (HDL.out W q1).1 (HDL.out W q1).2).mono fun e W' q => HR1.out _ _ _ q)
        have HC2 := Lib.hid (show ∀ (B : Nat) (W : World) (aa : Option Addr) (ca : Nat), OwnD w.heap.size W (.slice none 0 0) [] → RG B W (.slice aa g1.length ca) g1 → Calls Try.prog 26 #[.agg #[.int .i64 p, .int .i64 c, .slice aa g1.length ca], .slice none 0 0] W (RunOut p c gs' (m2 : Int) W) from
          fun B W aa ca q1 q2 => (HID.out _ _ g1 [] W _ _ HGC1.out HCR.out q2 (HDR.out W q1).1 (HDR.out W q1).2).mono fun e W' q => HR2.out _ _ _ q)
        have HRR := Lib.hid HR.out
        obtain ⟨x0, x1, x2⟩ := A3.out.three
        have xz := A3.out.lt
        have hzN : ¬ (w7.heap.size = t3) := by omega
        go_upto_region 11 with fail
        go_cut [10, 11] (fun sa sb wx => Made w7 p c g1 sa wx ∧ sb = .int .i64 (m1 : Int))
        case first =>
          go_region_held3 (fun w' => w'.cell? ⟨t3, 0, none⟩ = some (.int .i64 p) ∧ w'.cell? ⟨t3, 1, none⟩ = some (.int .i64 c) ∧ w'.cell? ⟨t3, 2, none⟩ = some (.slice a1 gs.length c1))
            (first
              | go_keep
              | (go_split_ands; exact ⟨(hbC.cell (by simp; omega)).trans (by assumption), (hbC.cell (by simp; omega)).trans (by assumption), (hbC.cell (by simp; omega)).trans (by assumption)⟩)
              | (go_split_ands; exact ⟨(HKC.out.cell (by simp; omega)).trans (by assumption), (HKC.out.cell (by simp; omega)).trans (by assumption), (HKC.out.cell (by simp; omega)).trans (by assumption)⟩))
            (first
              | (go_at_call 26; refine (HC1.out w7.drew (HU.out.below (below_drw _)) (HRR.out.below (below_drw _))).mono ?_; rintro e wC ⟨aC, cC, ccC, rfl, p1, p2, hoC, hbC⟩; rw [HD.out]; have HKC := Lib.hid (show Below w7.heap.size w7 wC from (below_drw _).trans hbC);  have HRC := Lib.hid (show RG w7.heap.size wC (.slice aC g1.length ccC) g1 from ⟨aC, cC, ccC, rfl, p1, p2, hoC.mono (by first | exact Nat.le_refl _ | omega | (simp; done) | (simp; omega)), HG1.out⟩); have hzC := HKC.out.size; have hnC0 : ¬ (wC.heap.size = t3) := (by omega); have v0 := (HKC.out.cell xz).trans x0; have v1 := (HKC.out.cell xz).trans x1; have v2 := (HKC.out.cell xz).trans x2; clear hoC p1 p2)
              | (go_at_call 26; refine (HC1.out (w7.drew.alloc (.cells #[.int .i64 0, .int .i64 0, .slice none 0 0] 25)) (HU.out.below ((below_drw _).alloc (Nat.le_refl _) _)) (HRR.out.below ((below_drw _).alloc (Nat.le_refl _) _))).mono ?_; rintro e wC ⟨aC, cC, ccC, rfl, p1, p2, hoC, hbC⟩; rw [HD.out]; have HKC := Lib.hid (show Below w7.heap.size w7 wC from ((below_drw _).alloc (Nat.le_refl _) _).trans (hbC.mono (by simp))); have HZZ := Lib.hid (show At wC w7.heap.size _ from (At.new w7.drew (.cells #[.int .i64 0, .int .i64 0, .slice none 0 0] 25)).below hbC); have HZL := Lib.hid (Nat.le_refl w7.heap.size); have zzf := HZZ.out.thaw; obtain ⟨zz0, zz1, zz2⟩ := HZZ.out.three; have HRC := Lib.hid (show RG w7.heap.size wC (.slice aC g1.length ccC) g1 from ⟨aC, cC, ccC, rfl, p1, p2, hoC.mono (by first | exact Nat.le_refl _ | omega | (simp; done) | (simp; omega)), HG1.out⟩); have hzC := HKC.out.size; have hnC0 : ¬ (wC.heap.size = t3) := (by omega); have v0 := (HKC.out.cell xz).trans x0; have v1 := (HKC.out.cell xz).trans x1; have v2 := (HKC.out.cell xz).trans x2; clear hoC p1 p2)
              | fail)
          all_goals (go_wp2_with fail; go_meet; first | exact ⟨Made.late HKC.out HRC.out, rfl⟩ | exact ⟨Made.early HKC.out HRC.out HZL.out HZZ.out, rfl⟩)
        obtain ⟨hmade, rfl⟩ := hcut
        obtain ⟨t10, aC11, ccC11, rfl, hb9, ht9, hat9, hr9⟩ := hmade
        obtain ⟨w8, rfl⟩ : ∃ z, z = wc := ⟨_, rfl⟩
        clear hzN
        replace HR := Lib.hid (HR.out.below hb9)
        replace HU := Lib.hid (HU.out.below hb9)
        replace A3 := Lib.hid (A3.out.below hb9)
        replace HX := Lib.hid (HX.out.below hb9)
        replace A5 := Lib.hid (A5.out.below hb9)
        replace HB := Lib.hid (HB.out.trans (hb9.mono HB.out.size))
        have A10 := Lib.hid hat9
        have HR10 := Lib.hid hr9
        clear hb9 ht9 hat9 hr9 HRR
        have HRR := Lib.hid HR10.out
        clear x0 x1 x2 xz
        obtain ⟨x0, x1, x2⟩ := A10.out.three
        have xz := A10.out.lt
        have hzN : ¬ (w8.heap.size = t10) := by omega
        go_upto_region 12 with fail
        go_cut [12, 13] (fun sa sb wx => Made w8 p c gs' sa wx ∧ sb = .int .i64 (m2 : Int))
        case first =>
          go_region_held3 (fun w' => w'.cell? ⟨t10, 0, none⟩ = some (.int .i64 p) ∧ w'.cell? ⟨t10, 1, none⟩ = some (.int .i64 c) ∧ w'.cell? ⟨t10, 2, none⟩ = some (.slice aC11 g1.length ccC11))
            (first
              | go_keep
              | (go_split_ands; exact ⟨(hbC.cell (by simp; omega)).trans (by assumption), (hbC.cell (by simp; omega)).trans (by assumption), (hbC.cell (by simp; omega)).trans (by assumption)⟩)
              | (go_split_ands; exact ⟨(HKC.out.cell (by simp; omega)).trans (by assumption), (HKC.out.cell (by simp; omega)).trans (by assumption), (HKC.out.cell (by simp; omega)).trans (by assumption)⟩))
            (first
              | (go_at_call 26; refine (HC2.out _ w8.drew _ _ (HU.out.below (below_drw _)) (HRR.out.below (below_drw _))).mono ?_; rintro e wC ⟨aC, cC, ccC, rfl, p1, p2, hoC, hbC⟩; rw [HD.out]; have HKC := Lib.hid (show Below w8.heap.size w8 wC from (below_drw _).trans hbC);  have HRC := Lib.hid (show RG w8.heap.size wC (.slice aC gs'.length ccC) gs' from ⟨aC, cC, ccC, rfl, p1, p2, hoC.mono (by first | exact Nat.le_refl _ | omega | (simp; done) | (simp; omega)), HG64.out⟩); have hzC := HKC.out.size; have hnC0 : ¬ (wC.heap.size = t10) := (by omega); have v0 := (HKC.out.cell xz).trans x0; have v1 := (HKC.out.cell xz).trans x1; have v2 := (HKC.out.cell xz).trans x2; clear hoC p1 p2)
              | (go_at_call 26; refine (HC2.out _ (w8.drew.alloc (.cells #[.int .i64 0, .int .i64 0, .slice none 0 0] 25)) _ _ (HU.out.below ((below_drw _).alloc (Nat.le_refl _) _)) (HRR.out.below ((below_drw _).alloc (Nat.le_refl _) _))).mono ?_; rintro e wC ⟨aC, cC, ccC, rfl, p1, p2, hoC, hbC⟩; rw [HD.out]; have HKC := Lib.hid (show Below w8.heap.size w8 wC from ((below_drw _).alloc (Nat.le_refl _) _).trans (hbC.mono (by simp))); have HZZ := Lib.hid (show At wC w8.heap.size _ from (At.new w8.drew (.cells #[.int .i64 0, .int .i64 0, .slice none 0 0] 25)).below hbC); have HZL := Lib.hid (Nat.le_refl w8.heap.size); have zzf := HZZ.out.thaw; obtain ⟨zz0, zz1, zz2⟩ := HZZ.out.three; have HRC := Lib.hid (show RG w8.heap.size wC (.slice aC gs'.length ccC) gs' from ⟨aC, cC, ccC, rfl, p1, p2, hoC.mono (by first | exact Nat.le_refl _ | omega | (simp; done) | (simp; omega)), HG64.out⟩); have hzC := HKC.out.size; have hnC0 : ¬ (wC.heap.size = t10) := (by omega); have v0 := (HKC.out.cell xz).trans x0; have v1 := (HKC.out.cell xz).trans x1; have v2 := (HKC.out.cell xz).trans x2; clear hoC p1 p2)
              | fail)
          all_goals (go_wp2_with fail; go_meet; first | exact ⟨Made.late HKC.out HRC.out, rfl⟩ | exact ⟨Made.early HKC.out HRC.out HZL.out HZZ.out, rfl⟩)
        obtain ⟨hmade, rfl⟩ := hcut
        obtain ⟨t12, aC12, ccC12, rfl, hb9, ht9, hat9, hr9⟩ := hmade
        obtain ⟨w9, rfl⟩ : ∃ z, z = wc := ⟨_, rfl⟩
        clear hzN
        replace A5 := Lib.hid (A5.out.below hb9)
        replace HX := Lib.hid (HX.out.below hb9)
        replace HB := Lib.hid (HB.out.trans (hb9.mono HB.out.size))
        have A12 := Lib.hid hat9
        have HR12 := Lib.hid hr9
        clear hb9 ht9 hat9 hr9 HRR
        clear x0 x1 x2 xz
        obtain ⟨x0, x1, x2⟩ := A5.out.three
        have xz := A5.out.lt
        go_wp2_with fail
        have hT := HOK.out _ p c gs' _ w9 HX.out.toGL
        rw [HD.out, HGD.out] at hT
        refine hT.mono ?_
        rintro e w10 ⟨rfl, hb10⟩
        replace A5 := Lib.hid (A5.out.below hb10)
        replace HX := Lib.hid (HX.out.below hb10)
        replace A12 := Lib.hid (A12.out.below hb10)
        replace HR12 := Lib.hid (HR12.out.below hb10)
        replace HB := Lib.hid (HB.out.trans (hb10.mono HB.out.size))
        clear hT hb10
        clear x0 x1 x2 xz
        obtain ⟨x0, x1, x2⟩ := A5.out.three
        have xz := A5.out.lt
        obtain ⟨y0, y1, y2⟩ := A12.out.three
        have yz := A12.out.lt
        go_wp2_with fail
        have hT := HSM.out _ _ p c gs' _ _ w10 HR12.out.toGL HX.out.toGL
        rw [HD.out, HD.out] at hT
        refine hT.mono ?_
        rintro e w11 ⟨rfl, hb11⟩
        replace HB := Lib.hid (HB.out.trans (hb11.mono HB.out.size))
        clear hT hb11
        go_wp2
        go_ret
        exact ⟨rfl, HB.out⟩
      · have HDL := Lib.hid (show ∀ W, OwnD w.heap.size W (.slice (some ⟨g, 0, none⟩) 0 0) [] → DL w.heap.size W (.slice (some ⟨g, 0, none⟩) 0 0) (([] : List Dd).take 0) ∧ DN W (.slice (some ⟨g, 0, none⟩) 0 0) (([] : List Dd).take 0) from fun W q => ⟨DL.zero _ _ _ _ (by omega), DN.zero _ _⟩)
        have HDR := Lib.hid (show ∀ W, OwnD w.heap.size W (.slice (some ⟨g, 0, none⟩) 0 0) [] → DL w.heap.size W (.slice (some ⟨g, 0, none⟩) 0 0) (([] : List Dd).drop 0) ∧ DN W (.slice (some ⟨g, 0, none⟩) 0 0) (([] : List Dd).drop 0) from fun W q => ⟨DL.zero _ _ _ _ (by omega), DN.zero _ _⟩)
        have HC1 := Lib.hid (show ∀ W, OwnD w.heap.size W (.slice (some ⟨g, 0, none⟩) 0 0) [] → RG w.heap.size W (.slice a1 gs.length c1) gs → Calls Try.prog 26 #[.agg #[.int .i64 p, .int .i64 c, .slice a1 gs.length c1], .slice (some ⟨g, 0, none⟩) 0 0] W (RunOut p c g1 (m1 : Int) W) from
          fun W q1 q2 => (HID.out _ _ gs [] W _ _ HCL.out HCT.out q2 (HDL.out W q1).1 (HDL.out W q1).2).mono fun e W' q => HR1.out _ _ _ q)
        have HC2 := Lib.hid (show ∀ (B : Nat) (W : World) (aa : Option Addr) (ca : Nat), OwnD w.heap.size W (.slice (some ⟨g, 0, none⟩) 0 0) [] → RG B W (.slice aa g1.length ca) g1 → Calls Try.prog 26 #[.agg #[.int .i64 p, .int .i64 c, .slice aa g1.length ca], .slice (some ⟨g, 0, none⟩) 0 0] W (RunOut p c gs' (m2 : Int) W) from
          fun B W aa ca q1 q2 => (HID.out _ _ g1 [] W _ _ HGC1.out HCR.out q2 (HDR.out W q1).1 (HDR.out W q1).2).mono fun e W' q => HR2.out _ _ _ q)
        have HRR := Lib.hid HR.out
        obtain ⟨x0, x1, x2⟩ := A3.out.three
        have xz := A3.out.lt
        have hzN : ¬ (w7.heap.size = t3) := by omega
        go_upto_region 11 with fail
        go_cut [10, 11] (fun sa sb wx => Made w7 p c g1 sa wx ∧ sb = .int .i64 (m1 : Int))
        case first =>
          go_region_held3 (fun w' => w'.cell? ⟨t3, 0, none⟩ = some (.int .i64 p) ∧ w'.cell? ⟨t3, 1, none⟩ = some (.int .i64 c) ∧ w'.cell? ⟨t3, 2, none⟩ = some (.slice a1 gs.length c1))
            (first
              | go_keep
              | (go_split_ands; exact ⟨(hbC.cell (by simp; omega)).trans (by assumption), (hbC.cell (by simp; omega)).trans (by assumption), (hbC.cell (by simp; omega)).trans (by assumption)⟩)
              | (go_split_ands; exact ⟨(HKC.out.cell (by simp; omega)).trans (by assumption), (HKC.out.cell (by simp; omega)).trans (by assumption), (HKC.out.cell (by simp; omega)).trans (by assumption)⟩))
            (first
              | (go_at_call 26; refine (HC1.out w7.drew (HU.out.below (below_drw _)) (HRR.out.below (below_drw _))).mono ?_; rintro e wC ⟨aC, cC, ccC, rfl, p1, p2, hoC, hbC⟩; rw [HD.out]; have HKC := Lib.hid (show Below w7.heap.size w7 wC from (below_drw _).trans hbC);  have HRC := Lib.hid (show RG w7.heap.size wC (.slice aC g1.length ccC) g1 from ⟨aC, cC, ccC, rfl, p1, p2, hoC.mono (by first | exact Nat.le_refl _ | omega | (simp; done) | (simp; omega)), HG1.out⟩); have hzC := HKC.out.size; have hnC0 : ¬ (wC.heap.size = t3) := (by omega); have v0 := (HKC.out.cell xz).trans x0; have v1 := (HKC.out.cell xz).trans x1; have v2 := (HKC.out.cell xz).trans x2; clear hoC p1 p2)
              | (go_at_call 26; refine (HC1.out (w7.drew.alloc (.cells #[.int .i64 0, .int .i64 0, .slice none 0 0] 25)) (HU.out.below ((below_drw _).alloc (Nat.le_refl _) _)) (HRR.out.below ((below_drw _).alloc (Nat.le_refl _) _))).mono ?_; rintro e wC ⟨aC, cC, ccC, rfl, p1, p2, hoC, hbC⟩; rw [HD.out]; have HKC := Lib.hid (show Below w7.heap.size w7 wC from ((below_drw _).alloc (Nat.le_refl _) _).trans (hbC.mono (by simp))); have HZZ := Lib.hid (show At wC w7.heap.size _ from (At.new w7.drew (.cells #[.int .i64 0, .int .i64 0, .slice none 0 0] 25)).below hbC); have HZL := Lib.hid (Nat.le_refl w7.heap.size); have zzf := HZZ.out.thaw; obtain ⟨zz0, zz1, zz2⟩ := HZZ.out.three; have HRC := Lib.hid (show RG w7.heap.size wC (.slice aC g1.length ccC) g1 from ⟨aC, cC, ccC, rfl, p1, p2, hoC.mono (by first | exact Nat.le_refl _ | omega | (simp; done) | (simp; omega)), HG1.out⟩); have hzC := HKC.out.size; have hnC0 : ¬ (wC.heap.size = t3) := (by omega); have v0 := (HKC.out.cell xz).trans x0; have v1 := (HKC.out.cell xz).trans x1; have v2 := (HKC.out.cell xz).trans x2; clear hoC p1 p2)
              | fail)
          all_goals (go_wp2_with fail; go_meet; first | exact ⟨Made.late HKC.out HRC.out, rfl⟩ | exact ⟨Made.early HKC.out HRC.out HZL.out HZZ.out, rfl⟩)
        obtain ⟨hmade, rfl⟩ := hcut
        obtain ⟨t10, aC11, ccC11, rfl, hb9, ht9, hat9, hr9⟩ := hmade
        obtain ⟨w8, rfl⟩ : ∃ z, z = wc := ⟨_, rfl⟩
        clear hzN
        replace HR := Lib.hid (HR.out.below hb9)
        replace HU := Lib.hid (HU.out.below hb9)
        replace A3 := Lib.hid (A3.out.below hb9)
        replace HX := Lib.hid (HX.out.below hb9)
        replace A5 := Lib.hid (A5.out.below hb9)
        replace HB := Lib.hid (HB.out.trans (hb9.mono HB.out.size))
        have A10 := Lib.hid hat9
        have HR10 := Lib.hid hr9
        clear hb9 ht9 hat9 hr9 HRR
        have HRR := Lib.hid HR10.out
        clear x0 x1 x2 xz
        obtain ⟨x0, x1, x2⟩ := A10.out.three
        have xz := A10.out.lt
        have hzN : ¬ (w8.heap.size = t10) := by omega
        go_upto_region 12 with fail
        go_cut [12, 13] (fun sa sb wx => Made w8 p c gs' sa wx ∧ sb = .int .i64 (m2 : Int))
        case first =>
          go_region_held3 (fun w' => w'.cell? ⟨t10, 0, none⟩ = some (.int .i64 p) ∧ w'.cell? ⟨t10, 1, none⟩ = some (.int .i64 c) ∧ w'.cell? ⟨t10, 2, none⟩ = some (.slice aC11 g1.length ccC11))
            (first
              | go_keep
              | (go_split_ands; exact ⟨(hbC.cell (by simp; omega)).trans (by assumption), (hbC.cell (by simp; omega)).trans (by assumption), (hbC.cell (by simp; omega)).trans (by assumption)⟩)
              | (go_split_ands; exact ⟨(HKC.out.cell (by simp; omega)).trans (by assumption), (HKC.out.cell (by simp; omega)).trans (by assumption), (HKC.out.cell (by simp; omega)).trans (by assumption)⟩))
            (first
              | (go_at_call 26; refine (HC2.out _ w8.drew _ _ (HU.out.below (below_drw _)) (HRR.out.below (below_drw _))).mono ?_; rintro e wC ⟨aC, cC, ccC, rfl, p1, p2, hoC, hbC⟩; rw [HD.out]; have HKC := Lib.hid (show Below w8.heap.size w8 wC from (below_drw _).trans hbC);  have HRC := Lib.hid (show RG w8.heap.size wC (.slice aC gs'.length ccC) gs' from ⟨aC, cC, ccC, rfl, p1, p2, hoC.mono (by first | exact Nat.le_refl _ | omega | (simp; done) | (simp; omega)), HG64.out⟩); have hzC := HKC.out.size; have hnC0 : ¬ (wC.heap.size = t10) := (by omega); have v0 := (HKC.out.cell xz).trans x0; have v1 := (HKC.out.cell xz).trans x1; have v2 := (HKC.out.cell xz).trans x2; clear hoC p1 p2)
              | (go_at_call 26; refine (HC2.out _ (w8.drew.alloc (.cells #[.int .i64 0, .int .i64 0, .slice none 0 0] 25)) _ _ (HU.out.below ((below_drw _).alloc (Nat.le_refl _) _)) (HRR.out.below ((below_drw _).alloc (Nat.le_refl _) _))).mono ?_; rintro e wC ⟨aC, cC, ccC, rfl, p1, p2, hoC, hbC⟩; rw [HD.out]; have HKC := Lib.hid (show Below w8.heap.size w8 wC from ((below_drw _).alloc (Nat.le_refl _) _).trans (hbC.mono (by simp))); have HZZ := Lib.hid (show At wC w8.heap.size _ from (At.new w8.drew (.cells #[.int .i64 0, .int .i64 0, .slice none 0 0] 25)).below hbC); have HZL := Lib.hid (Nat.le_refl w8.heap.size); have zzf := HZZ.out.thaw; obtain ⟨zz0, zz1, zz2⟩ := HZZ.out.three; have HRC := Lib.hid (show RG w8.heap.size wC (.slice aC gs'.length ccC) gs' from ⟨aC, cC, ccC, rfl, p1, p2, hoC.mono (by first | exact Nat.le_refl _ | omega | (simp; done) | (simp; omega)), HG64.out⟩); have hzC := HKC.out.size; have hnC0 : ¬ (wC.heap.size = t10) := (by omega); have v0 := (HKC.out.cell xz).trans x0; have v1 := (HKC.out.cell xz).trans x1; have v2 := (HKC.out.cell xz).trans x2; clear hoC p1 p2)
              | fail)
          all_goals (go_wp2_with fail; go_meet; first | exact ⟨Made.late HKC.out HRC.out, rfl⟩ | exact ⟨Made.early HKC.out HRC.out HZL.out HZZ.out, rfl⟩)
        obtain ⟨hmade, rfl⟩ := hcut
        obtain ⟨t12, aC12, ccC12, rfl, hb9, ht9, hat9, hr9⟩ := hmade
        obtain ⟨w9, rfl⟩ : ∃ z, z = wc := ⟨_, rfl⟩
        clear hzN
        replace A5 := Lib.hid (A5.out.below hb9)
        replace HX := Lib.hid (HX.out.below hb9)
        replace HB := Lib.hid (HB.out.trans (hb9.mono HB.out.size))
        have A12 := Lib.hid hat9
        have HR12 := Lib.hid hr9
        clear hb9 ht9 hat9 hr9 HRR
        clear x0 x1 x2 xz
        obtain ⟨x0, x1, x2⟩ := A5.out.three
        have xz := A5.out.lt
        go_wp2_with fail
        have hT := HOK.out _ p c gs' _ w9 HX.out.toGL
        rw [HD.out, HGD.out] at hT
        refine hT.mono ?_
        rintro e w10 ⟨rfl, hb10⟩
        replace A5 := Lib.hid (A5.out.below hb10)
        replace HX := Lib.hid (HX.out.below hb10)
        replace A12 := Lib.hid (A12.out.below hb10)
        replace HR12 := Lib.hid (HR12.out.below hb10)
        replace HB := Lib.hid (HB.out.trans (hb10.mono HB.out.size))
        clear hT hb10
        clear x0 x1 x2 xz
        obtain ⟨x0, x1, x2⟩ := A5.out.three
        have xz := A5.out.lt
        obtain ⟨y0, y1, y2⟩ := A12.out.three
        have yz := A12.out.lt
        go_wp2_with fail
        have hT := HSM.out _ _ p c gs' _ _ w10 HR12.out.toGL HX.out.toGL
        rw [HD.out, HD.out] at hT
        refine hT.mono ?_
        rintro e w11 ⟨rfl, hb11⟩
        replace HB := Lib.hid (HB.out.trans (hb11.mono HB.out.size))
        clear hT hb11
        go_wp2
        go_ret
        exact ⟨rfl, HB.out⟩
    · rcases HU.out.addr with ⟨_, rfl⟩ | ⟨g, rfl⟩
      · omega
      have hlt2 : (half : Int) < (c2 : Int) := by omega
      have HDL := Lib.hid (show ∀ W, OwnD w.heap.size W (.slice (some ⟨g, 0, none⟩) ds.length c2) ds → DL w.heap.size W (.slice (some ⟨g, 0, none⟩) half c2) (ds.take half) ∧ DN W (.slice (some ⟨g, 0, none⟩) half c2) (ds.take half) from fun W q =>
        ⟨by have := (q.toDL HY.out).sub 0 half c2 (by omega) (by omega) (by omega); simpa using this, by have := q.dn.sub 0 half half c2 (by omega); simpa using this⟩)
      have HDR := Lib.hid (show ∀ W, OwnD w.heap.size W (.slice (some ⟨g, 0, none⟩) ds.length c2) ds → DL w.heap.size W (.slice (some ⟨g, half * 4, none⟩) (ds.length - half) (c2 - half)) (ds.drop half) ∧ DN W (.slice (some ⟨g, half * 4, none⟩) (ds.length - half) (c2 - half)) (ds.drop half) from fun W q =>
          ⟨by have := (q.toDL HY.out).sub half (ds.length - half) (c2 - half) (by omega) (by omega) (by omega); rwa [List.take_of_length_le (by simp)] at this, by have := q.dn.sub half (ds.length - half) (ds.length - half) (c2 - half) (by omega); rwa [List.take_of_length_le (by simp)] at this⟩)
      have HC1 := Lib.hid (show ∀ W, OwnD w.heap.size W (.slice (some ⟨g, 0, none⟩) ds.length c2) ds → RG w.heap.size W (.slice a1 gs.length c1) gs → Calls Try.prog 26 #[.agg #[.int .i64 p, .int .i64 c, .slice a1 gs.length c1], .slice (some ⟨g, 0, none⟩) half c2] W (RunOut p c g1 (m1 : Int) W) from
        fun W q1 q2 => (HID.out _ _ gs (ds.take half) W _ _ HCL.out HCT.out q2 (HDL.out W q1).1 (HDL.out W q1).2).mono fun e W' q => HR1.out _ _ _ q)
      have HC2 := Lib.hid (show ∀ (B : Nat) (W : World) (aa : Option Addr) (ca : Nat), OwnD w.heap.size W (.slice (some ⟨g, 0, none⟩) ds.length c2) ds → RG B W (.slice aa g1.length ca) g1 → Calls Try.prog 26 #[.agg #[.int .i64 p, .int .i64 c, .slice aa g1.length ca], .slice (some ⟨g, half * 4, none⟩) (ds.length - half) (c2 - half)] W (RunOut p c gs' (m2 : Int) W) from
        fun B W aa ca q1 q2 => (HID.out _ _ g1 (ds.drop half) W _ _ HGC1.out HCR.out q2 (HDR.out W q1).1 (HDR.out W q1).2).mono fun e W' q => HR2.out _ _ _ q)
      have HRR := Lib.hid HR.out
      obtain ⟨x0, x1, x2⟩ := A3.out.three
      have xz := A3.out.lt
      have hzN : ¬ (w7.heap.size = t3) := by omega
      go_upto_region 11 with fail
      go_cut [10, 11] (fun sa sb wx => Made w7 p c g1 sa wx ∧ sb = .int .i64 (m1 : Int))
      case first =>
        go_region_held3 (fun w' => w'.cell? ⟨t3, 0, none⟩ = some (.int .i64 p) ∧ w'.cell? ⟨t3, 1, none⟩ = some (.int .i64 c) ∧ w'.cell? ⟨t3, 2, none⟩ = some (.slice a1 gs.length c1))
          (first
            | go_keep
            | (go_split_ands; exact ⟨(hbC.cell (by simp; omega)).trans (by assumption), (hbC.cell (by simp; omega)).trans (by assumption), (hbC.cell (by simp; omega)).trans (by assumption)⟩)
            | (go_split_ands; exact ⟨(HKC.out.cell (by simp; omega)).trans (by assumption), (HKC.out.cell (by simp; omega)).trans (by assumption), (HKC.out.cell (by simp; omega)).trans (by assumption)⟩))
          (first
            | (go_at_call 26; refine (HC1.out w7.drew (HU.out.below (below_drw _)) (HRR.out.below (below_drw _))).mono ?_; rintro e wC ⟨aC, cC, ccC, rfl, p1, p2, hoC, hbC⟩; rw [HD.out]; have HKC := Lib.hid (show Below w7.heap.size w7 wC from (below_drw _).trans hbC);  have HRC := Lib.hid (show RG w7.heap.size wC (.slice aC g1.length ccC) g1 from ⟨aC, cC, ccC, rfl, p1, p2, hoC.mono (by first | exact Nat.le_refl _ | omega | (simp; done) | (simp; omega)), HG1.out⟩); have hzC := HKC.out.size; have hnC0 : ¬ (wC.heap.size = t3) := (by omega); have v0 := (HKC.out.cell xz).trans x0; have v1 := (HKC.out.cell xz).trans x1; have v2 := (HKC.out.cell xz).trans x2; clear hoC p1 p2)
            | (go_at_call 26; refine (HC1.out (w7.drew.alloc (.cells #[.int .i64 0, .int .i64 0, .slice none 0 0] 25)) (HU.out.below ((below_drw _).alloc (Nat.le_refl _) _)) (HRR.out.below ((below_drw _).alloc (Nat.le_refl _) _))).mono ?_; rintro e wC ⟨aC, cC, ccC, rfl, p1, p2, hoC, hbC⟩; rw [HD.out]; have HKC := Lib.hid (show Below w7.heap.size w7 wC from ((below_drw _).alloc (Nat.le_refl _) _).trans (hbC.mono (by simp))); have HZZ := Lib.hid (show At wC w7.heap.size _ from (At.new w7.drew (.cells #[.int .i64 0, .int .i64 0, .slice none 0 0] 25)).below hbC); have HZL := Lib.hid (Nat.le_refl w7.heap.size); have zzf := HZZ.out.thaw; obtain ⟨zz0, zz1, zz2⟩ := HZZ.out.three; have HRC := Lib.hid (show RG w7.heap.size wC (.slice aC g1.length ccC) g1 from ⟨aC, cC, ccC, rfl, p1, p2, hoC.mono (by first | exact Nat.le_refl _ | omega | (simp; done) | (simp; omega)), HG1.out⟩); have hzC := HKC.out.size; have hnC0 : ¬ (wC.heap.size = t3) := (by omega); have v0 := (HKC.out.cell xz).trans x0; have v1 := (HKC.out.cell xz).trans x1; have v2 := (HKC.out.cell xz).trans x2; clear hoC p1 p2)
            | fail)
        all_goals (go_wp2_with fail; go_meet; first | exact ⟨Made.late HKC.out HRC.out, rfl⟩ | exact ⟨Made.early HKC.out HRC.out HZL.out HZZ.out, rfl⟩)
      obtain ⟨hmade, rfl⟩ := hcut
      obtain ⟨t10, aC11, ccC11, rfl, hb9, ht9, hat9, hr9⟩ := hmade
      obtain ⟨w8, rfl⟩ : ∃ z, z = wc := ⟨_, rfl⟩
      clear hzN
      replace HR := Lib.hid (HR.out.below hb9)
      replace HU := Lib.hid (HU.out.below hb9)
      replace A3 := Lib.hid (A3.out.below hb9)
      replace HX := Lib.hid (HX.out.below hb9)
      replace A5 := Lib.hid (A5.out.below hb9)
      replace HB := Lib.hid (HB.out.trans (hb9.mono HB.out.size))
      have A10 := Lib.hid hat9
      have HR10 := Lib.hid hr9
      clear hb9 ht9 hat9 hr9 HRR
      have HRR := Lib.hid HR10.out
      clear x0 x1 x2 xz
      obtain ⟨x0, x1, x2⟩ := A10.out.three
      have xz := A10.out.lt
      have hzN : ¬ (w8.heap.size = t10) := by omega
      go_upto_region 12 with fail
      go_cut [12, 13] (fun sa sb wx => Made w8 p c gs' sa wx ∧ sb = .int .i64 (m2 : Int))
      case first =>
        go_region_held3 (fun w' => w'.cell? ⟨t10, 0, none⟩ = some (.int .i64 p) ∧ w'.cell? ⟨t10, 1, none⟩ = some (.int .i64 c) ∧ w'.cell? ⟨t10, 2, none⟩ = some (.slice aC11 g1.length ccC11))
          (first
            | go_keep
            | (go_split_ands; exact ⟨(hbC.cell (by simp; omega)).trans (by assumption), (hbC.cell (by simp; omega)).trans (by assumption), (hbC.cell (by simp; omega)).trans (by assumption)⟩)
            | (go_split_ands; exact ⟨(HKC.out.cell (by simp; omega)).trans (by assumption), (HKC.out.cell (by simp; omega)).trans (by assumption), (HKC.out.cell (by simp; omega)).trans (by assumption)⟩))
          (first
            | (go_at_call 26; refine (HC2.out _ w8.drew _ _ (HU.out.below (below_drw _)) (HRR.out.below (below_drw _))).mono ?_; rintro e wC ⟨aC, cC, ccC, rfl, p1, p2, hoC, hbC⟩; rw [HD.out]; have HKC := Lib.hid (show Below w8.heap.size w8 wC from (below_drw _).trans hbC);  have HRC := Lib.hid (show RG w8.heap.size wC (.slice aC gs'.length ccC) gs' from ⟨aC, cC, ccC, rfl, p1, p2, hoC.mono (by first | exact Nat.le_refl _ | omega | (simp; done) | (simp; omega)), HG64.out⟩); have hzC := HKC.out.size; have hnC0 : ¬ (wC.heap.size = t10) := (by omega); have v0 := (HKC.out.cell xz).trans x0; have v1 := (HKC.out.cell xz).trans x1; have v2 := (HKC.out.cell xz).trans x2; clear hoC p1 p2)
            | (go_at_call 26; refine (HC2.out _ (w8.drew.alloc (.cells #[.int .i64 0, .int .i64 0, .slice none 0 0] 25)) _ _ (HU.out.below ((below_drw _).alloc (Nat.le_refl _) _)) (HRR.out.below ((below_drw _).alloc (Nat.le_refl _) _))).mono ?_; rintro e wC ⟨aC, cC, ccC, rfl, p1, p2, hoC, hbC⟩; rw [HD.out]; have HKC := Lib.hid (show Below w8.heap.size w8 wC from ((below_drw _).alloc (Nat.le_refl _) _).trans (hbC.mono (by simp))); have HZZ := Lib.hid (show At wC w8.heap.size _ from (At.new w8.drew (.cells #[.int .i64 0, .int .i64 0, .slice none 0 0] 25)).below hbC); have HZL := Lib.hid (Nat.le_refl w8.heap.size); have zzf := HZZ.out.thaw; obtain ⟨zz0, zz1, zz2⟩ := HZZ.out.three; have HRC := Lib.hid (show RG w8.heap.size wC (.slice aC gs'.length ccC) gs' from ⟨aC, cC, ccC, rfl, p1, p2, hoC.mono (by first | exact Nat.le_refl _ | omega | (simp; done) | (simp; omega)), HG64.out⟩); have hzC := HKC.out.size; have hnC0 : ¬ (wC.heap.size = t10) := (by omega); have v0 := (HKC.out.cell xz).trans x0; have v1 := (HKC.out.cell xz).trans x1; have v2 := (HKC.out.cell xz).trans x2; clear hoC p1 p2)
            | fail)
        all_goals (go_wp2_with fail; go_meet; first | exact ⟨Made.late HKC.out HRC.out, rfl⟩ | exact ⟨Made.early HKC.out HRC.out HZL.out HZZ.out, rfl⟩)
      obtain ⟨hmade, rfl⟩ := hcut
      obtain ⟨t12, aC12, ccC12, rfl, hb9, ht9, hat9, hr9⟩ := hmade
      obtain ⟨w9, rfl⟩ : ∃ z, z = wc := ⟨_, rfl⟩
      clear hzN
      replace A5 := Lib.hid (A5.out.below hb9)
      replace HX := Lib.hid (HX.out.below hb9)
      replace HB := Lib.hid (HB.out.trans (hb9.mono HB.out.size))
      have A12 := Lib.hid hat9
      have HR12 := Lib.hid hr9
      clear hb9 ht9 hat9 hr9 HRR
      clear x0 x1 x2 xz
      obtain ⟨x0, x1, x2⟩ := A5.out.three
      have xz := A5.out.lt
      go_wp2_with fail
      have hT := HOK.out _ p c gs' _ w9 HX.out.toGL
      rw [HD.out, HGD.out] at hT
      refine hT.mono ?_
      rintro e w10 ⟨rfl, hb10⟩
      replace A5 := Lib.hid (A5.out.below hb10)
      replace HX := Lib.hid (HX.out.below hb10)
      replace A12 := Lib.hid (A12.out.below hb10)
      replace HR12 := Lib.hid (HR12.out.below hb10)
      replace HB := Lib.hid (HB.out.trans (hb10.mono HB.out.size))
      clear hT hb10
      clear x0 x1 x2 xz
      obtain ⟨x0, x1, x2⟩ := A5.out.three
      have xz := A5.out.lt
      obtain ⟨y0, y1, y2⟩ := A12.out.three
      have yz := A12.out.lt
      go_wp2_with fail
      have hT := HSM.out _ _ p c gs' _ _ w10 HR12.out.toGL HX.out.toGL
      rw [HD.out, HD.out] at hT
      refine hT.mono ?_
      rintro e w11 ⟨rfl, hb11⟩
      replace HB := Lib.hid (HB.out.trans (hb11.mono HB.out.size))
      clear hT hb11
      go_wp2
      go_ret
      exact ⟨rfl, HB.out⟩

end Go.Proofs.Ytjecolbodelniaa