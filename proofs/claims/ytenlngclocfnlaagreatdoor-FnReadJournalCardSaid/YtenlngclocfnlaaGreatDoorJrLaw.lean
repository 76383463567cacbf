/- The law FnReadJournal, walked. -/
import Derived.Test.YtenlngclocfnlaaGreatDoorBunS
import Derived.Test.YtenlngclocfnlaaGreatDoorBunR
import Derived.Test.YtenlngclocfnlaaGreatDoorSayD
import Derived.Test.YtenlngclocfnlaaGreatDoorBunQ
import Derived.Test.YtenlngclocfnlaaGreatDoorBunU
import Derived.Test.YtenlngclocfnlaaGreatDoorAlive
namespace Go.Proofs.YtenlngclocfnlaaGreatDoor
open Go.RowKit Go.Shelf
set_option linter.unusedVariables false
set_option maxRecDepth 100000

theorem lines_many : ∀ ds : List Dd, allText ds = true → ds.length ≤ (linesJ ds).length
  | [], _ => by simp
  | d :: t, h => by
    unfold allText at h
    rw [List.all_cons, Bool.and_eq_true] at h
    have := lines_many t h.2
    rw [linesJ_cons]
    simp; omega
/-- What a reading gives. -/
theorem readJ_facts (l : List UInt8) : (readJ l).2 ≤ l.length ∧ textJ (readJ l).1 = l.take (readJ l).2 ∧ (readJ l).1.length ≤ l.length ∧ (∀ d ∈ (readJ l).1, readD (textD d) = some d ∧ d.code.length ≤ 3 ∧ ∀ y ∈ d.code, In64 y) := by
  obtain ⟨h1, h2, h3⟩ := readJ_spec l.length l (Nat.le_refl _)
  have hm := lines_many _ h1
  rw [h3, List.length_take] at hm
  refine ⟨h2, by rw [textJ_all h1]; exact h3, by omega, fun d hd => ?_⟩
  have hne : textD d ≠ [] := by
    have := List.all_eq_true.1 (show (readJ l).1.all (fun d => decide (textD d ≠ [])) = true from h1) d hd
    simpa using this
  have hr : readD (textD d) = some d := readD_iff.2 ⟨rfl, hne⟩
  have hc := rd_code (textD d)
  rw [(rd_some hr).1] at hc
  exact ⟨hr, hc.1, fun y hy => by have := hc.2 y hy; unfold In64; omega⟩
theorem DL.upto {B : Nat} {w : World} {a : Option Addr} {n cap : Nat} {ds : List Dd} (h : DL B w (.slice a n cap) ds) {k : Nat} (hk : k ≤ ds.length) : DL B w (.slice a k cap) (ds.take k) := by
  obtain ⟨a', cap', V, e, h2, h3, h4, h5⟩ := h
  injection e with e1 e2 e3
  subst e1 e3
  have hl : (ds.take k).length = k := by rw [List.length_take]; omega
  refine ⟨a, cap, V, by rw [hl], by omega, h3, fun hp => ?_, fun i hi => ?_⟩
  · obtain ⟨b, off, e, hb, hc⟩ := h4 (by omega)
    exact ⟨b, off, e, hb, fun i hi => by rw [List.getElem_take]; exact hc i (by omega)⟩
  · rw [List.getElem_take]; exact h5 i (by omega)
theorem OwnD.addrOr {B : Nat} {w : World} {a : Option Addr} {n cap : Nat} {ds : List Dd} (h : OwnD B w (.slice a n cap) ds) : (a = none ∧ cap = 0) ∨ ∃ g, a = some ⟨g, 0, none⟩ := by
  obtain ⟨ts, h1, _⟩ := h
  obtain ⟨_, h1⟩ := h1
  rcases h1 with ⟨e, _⟩ | ⟨g, cap, cur, e, _⟩
  · injection e with e1 e2 e3
    exact .inl ⟨e1, e3⟩
  · injection e with e1 e2 e3
    exact .inr ⟨g, e1⟩

/-- Between two lines: the desk d in block t3, the desk now in block t5, the deeds read. -/
def JW (w : World) (z t3 t5 : Nat) (p c : Int) (v6 : Value) (gs gk : List Gs) (ak : Option Addr) (ck : Nat) (zl : Nat) (vl : Value) (ds : List Dd) (wr : World) : Prop :=
  At wr t3 (.cells #[.int .i64 p, .int .i64 c, v6] 30) ∧ At wr t5 (.cells #[.int .i64 p, .int .i64 c, .slice ak gk.length ck] 30) ∧ RG z wr v6 gs ∧ RG z wr (.slice ak gk.length ck) gk ∧ OwnD zl wr vl ds ∧ Below w.heap.size w wr ∧ t3 < t5 ∧ w.heap.size ≤ t3
theorem JW.below {w wr wr' : World} {z t3 t5 : Nat} {p c : Int} {v6 vl : Value} {gs gk : List Gs} {ak : Option Addr} {ck zl : Nat} {ds : List Dd} (h : JW w z t3 t5 p c v6 gs gk ak ck zl vl ds wr) (hb : Below wr.heap.size wr wr') : JW w z t3 t5 p c v6 gs gk ak ck zl vl ds wr' := by
  obtain ⟨h1, h2, h3, h4, h5, h6, h7, h8⟩ := h
  exact ⟨h1.below hb, h2.below hb, h3.below hb, h4.below hb, h5.below hb, h6.trans (hb.mono h6.size), h7, h8⟩
theorem JW.store {w wr : World} {z t3 t5 : Nat} {p c : Int} {v6 vl : Value} {gs gk gn : List Gs} {ak an : Option Addr} {ck cn zl : Nat} {ds : List Dd} (h : JW w z t3 t5 p c v6 gs gk ak ck zl vl ds wr) (hn : RG z wr (.slice an gn.length cn) gn) :
    JW w z t3 t5 p c v6 gs gn an cn zl vl ds (((wr.setCell ⟨t5, 0, none⟩ (.int .i64 p)).setCell ⟨t5, 1, none⟩ (.int .i64 c)).setCell ⟨t5, 2, none⟩ (.slice an gn.length cn)) := by
  obtain ⟨h1, h2, h3, h4, h5, h6, h7, h8⟩ := h
  have q1 := heap_setCell_same _ _ 0 _ _ (.int .i64 p) h2
  have q2 := heap_setCell_same _ _ 1 _ _ (.int .i64 c) q1
  have q3 := heap_setCell_same _ _ 2 _ _ (.slice an gn.length cn) q2
  refine ⟨?_, q3, ((h3.other h2).other q1).other q2, ((hn.other h2).other q1).other q2, ((h5.otherD (j := 0) (z := .int .i64 p) h2 (by decide) (by decide)).otherD (j := 1) (z := .int .i64 c) q1 (by decide) (by decide)).otherD (j := 2) (z := .slice an gn.length cn) q2 (by decide) (by decide),
    ((h6.setCell (p := ⟨t5, 0, none⟩) (by simp; omega) _).setCell (p := ⟨t5, 1, none⟩) (by simp; omega) _).setCell (p := ⟨t5, 2, none⟩) (by simp; omega) _, h7, h8⟩
  have hne : t3 ≠ t5 := by omega
  unfold At at h1 ⊢
  rw [heap_setCell_other _ _ _ _ (by simpa using hne), heap_setCell_other _ _ _ _ (by simpa using hne), heap_setCell_other _ _ _ _ (by simpa using hne)]
  exact h1
theorem RunRes.is' {p c : Int} {gs : List Gs} {ds : List Dd} {w : World} {e : Ending} {w' : World} (h : runB p c gs ds = true) (q : RunRes p c gs ds w e w') : RunOut p c (runG p c gs ds).1 ((runG p c gs ds).2 : Nat) w e w' := by
  unfold RunRes at q; rw [if_pos h] at q; exact q
theorem RunRes.not' {p c : Int} {gs : List Gs} {ds : List Dd} {w : World} {e : Ending} {w' : World} (h : runB p c gs ds = false) (q : RunRes p c gs ds w e w') : RunOut 0 0 [] 0 w e w' := by
  unfold RunRes at q; rw [if_neg (by simp [h])] at q; exact q
theorem runB_iff' {p c : Int} {gs : List Gs} {ds : List Dd} : runB p c gs ds = true ↔ deskB p c gs = true ∧ ds.length ≤ 40 := by
  unfold runB
  rw [Bool.and_eq_true, decide_eq_true_iff]
  exact ⟨fun h => ⟨h.1, by omega⟩, fun h => ⟨h.1, by omega⟩⟩

set_option maxHeartbeats 8000000 in
theorem FnReadJournal_walk {B C : Nat} (v u : Value) (bs cs : List Int) (w : World) (hm : MaxIs w) (h : Bytes B w v bs) (h' : Bytes C w u cs) :
    Calls Tryz.prog 3 #[v, u] w fun e w' => e = .returned (.bool true) ∧ Below w.heap.size w w' := by
  have hD0 := drawReadJournal_any v bs w h
  obtain ⟨a0, cap0, rfl, _⟩ := id h.1
  obtain ⟨b0, capb, rfl, _⟩ := id h'.1
  rw [List.length_map] at hD0 h'
  rw [List.length_map, List.length_map]
  clear h
  by_cases hbig : (1048576 : Int) < (bs.length : Int)
  · clear hD0
    go_enter Tryz.func3, Tryz.ntmps3
    go_wp2
    go_ret
    exact ⟨rfl, Below.refl _ _⟩
  by_cases hbig2 : (1048576 : Int) < (cs.length : Int)
  · clear hD0
    go_enter Tryz.func3, Tryz.ntmps3
    go_wp2
    go_ret
    exact ⟨rfl, Below.refl _ _⟩
  have HM := Lib.hid hm
  have HBY := Lib.hid h'
  clear hm h'
  go_enter Tryz.func3, Tryz.ntmps3
  go_wp2_with fail
  refine hD0.mono ?_
  rintro e w1 ⟨l, rfl, hl, hb1⟩
  have HB1 := Lib.hid hb1
  obtain ⟨f1, f2, f3, f4⟩ := readJ_facts l
  have hTK := readJ_take l.length l
  have hI := readJI_any l w1 (by omega) (HM.out.below hb1)
  have hS := fun W => readJS_any l W (by omega)
  unfold JOut strV at hI
  unfold JOut strV at hS
  obtain ⟨ds, hds⟩ : ∃ z, z = (readJ l).1 := ⟨_, rfl⟩
  obtain ⟨n, hn⟩ : ∃ z, z = (readJ l).2 := ⟨_, rfl⟩
  rw [← hds, ← hn] at hI
  simp only [← hds, ← hn] at hS
  rw [← hn] at f1 f2
  rw [← hds] at f2 f3 f4
  simp only [← hds] at hTK
  have HS := Lib.hid hS
  have HTXT := Lib.hid f2
  have HDD := Lib.hid f4
  have H64 := Lib.hid (show In64D ds from fun d hd => (f4 d hd).2.2)
  have HTK := Lib.hid (fun k => hTK k (Nat.le_refl _))
  clear hD0 hb1 hS hds hn f2 f4 hTK hbig hbig2
  go_wp2_with fail
  refine hI.mono ?_
  rintro e w2 ⟨a2, c2, rfl, ho2, hb2⟩
  have HB2 := Lib.hid (HB1.out.trans (hb2.mono HB1.out.size))
  have HAD := Lib.hid ho2.addrOr
  have HZ12 := Lib.hid hb2.size
  have HL2 := Lib.hid (ho2.toDL H64.out)
  have HO2 := Lib.hid ho2
  have hS := HS.out w2
  clear hI ho2 hb2 HS
  go_wp2_with fail
  refine hS.mono ?_
  rintro e w3 ⟨a3, c3, rfl, ho3, hb3⟩
  have HB3 := Lib.hid (HB2.out.trans (hb3.mono HB2.out.size))
  have HL3 := Lib.hid (HL2.out.below hb3)
  have HO3 := Lib.hid (HO2.out.below hb3)
  have HZ1 := Lib.hid (Nat.le_trans HZ12.out hb3.size)
  have hE := sameDeeds_self _ _ ds w3 HL3.out (ho3.toDL H64.out) HZ1.out hb3.size
  have hnn : ((n : Int) != (n : Int)) = false := by simp
  clear hS ho3 hb3 HL2 HO2
  go_wp2_with fail
  refine hE.mono ?_
  rintro e w4 ⟨rfl, hb4⟩
  have HB4 := Lib.hid (HB3.out.trans (hb4.mono HB3.out.size))
  have HL4 := Lib.hid (HL3.out.below hb4)
  have HO4 := Lib.hid (HO3.out.below hb4)
  have HZ4 := Lib.hid (show w1.heap.size ≤ w4.heap.size from Nat.le_trans HZ1.out hb4.size)
  clear hE hb4 HL3 HO3 HZ1 hnn
  go_wp2
  go_loopw [10] (fun i wr => ∃ k : Nat, k ≤ l.length + 1 ∧ i = .int .i64 k ∧ Below w4.heap.size w4 wr) (fun i _ => l.length + 1 - (intOf i).toNat)
  case atStart => exact ⟨0, Nat.zero_le _, rfl, Below.refl _ _⟩
  case round =>
    obtain ⟨k, hk, rfl, hb⟩ := hrel
    obtain ⟨wk, rfl⟩ : ∃ x, x = wr := ⟨_, rfl⟩
    have HBK := Lib.hid hb
    by_cases hlt : k ≤ l.length
    · have hk0 : (0 : Int) ≤ (k : Int) := by omega
      have hk1 : (k : Int) ≤ (l.length : Int) := by omega
      obtain ⟨t1, t2, t3⟩ := HTK.out k
      have hI := readJI_any (l.take k) wk (by rw [List.length_take]; omega) (HM.out.below (HB4.out.trans (hb.mono HB4.out.size)))
      unfold JOut strV at hI
      obtain ⟨xs, hxs⟩ : ∃ z, z = (readJ (l.take k)).1 := ⟨_, rfl⟩
      obtain ⟨m, hmm⟩ : ∃ z, z = (readJ (l.take k)).2 := ⟨_, rfl⟩
      rw [← hxs, ← hmm] at hI
      rw [← hxs] at t1 t2
      rw [← hmm] at t3
      have HEX := Lib.hid (show (ByteArray.mk l.toArray).extract 0 k = ByteArray.mk (l.take k).toArray by rw [ByteArray.extract_mk, List.drop_zero, Nat.sub_zero])
      have HT2 := Lib.hid t2
      clear hb t2 hxs hmm
      go_wp2_with fail
      rw [HEX.out]
      refine hI.mono ?_
      rintro e w5 ⟨a5, c5, rfl, ho5, hb5⟩
      have HB5 := Lib.hid (HBK.out.trans (hb5.mono HBK.out.size))
      have h64x : In64D xs := fun d hd => H64.out d (by rw [HT2.out] at hd; exact List.mem_of_mem_take hd)
      have hdl := (HL4.out.below HB5.out).upto (k := xs.length) t1
      rw [← HT2.out] at hdl
      have hE := sameDeeds_self _ _ xs w5 (ho5.toDL h64x) hdl hb5.size (Nat.le_trans HZ4.out HB5.out.size)
      have hx1 : ¬ ((ds.length : Int) < (xs.length : Int)) := by omega
      have HMN := Lib.hid (show (min (xs.length : Int) (ds.length : Int)).toNat = xs.length by omega)
      have hx3 : ¬ ((k : Int) < (m : Int)) := by omega
      have hx4 : (0 : Int) ≤ (xs.length : Int) := by omega
      have hx5 : (xs.length : Int) ≤ (c2 : Int) := by have := HL4.out.shape; obtain ⟨_, _, e, q, _⟩ := this; injection e with _ _ e; omega
      clear hI ho5 hb5 h64x hdl
      rcases HAD.out with ⟨e1, e2⟩ | ⟨g, e1⟩
      · subst e1 e2
        go_wp2_with fail
        rw [HMN.out]
        refine hE.mono ?_
        rintro e w6 ⟨rfl, hb6⟩
        have HB6 := Lib.hid (HB5.out.trans (hb6.mono HB5.out.size))
        clear hE hb6
        go_wp2
        go_roundw
        case rel => exact ⟨k + 1, by omega, by go_num, HB6.out⟩
        case measure => simp [intOf]; omega
      · subst e1
        go_wp2_with fail
        rw [HMN.out]
        refine hE.mono ?_
        rintro e w6 ⟨rfl, hb6⟩
        have HB6 := Lib.hid (HB5.out.trans (hb6.mono HB5.out.size))
        clear hE hb6
        go_wp2
        go_roundw
        case rel => exact ⟨k + 1, by omega, by go_num, HB6.out⟩
        case measure => simp [intOf]; omega
    · have hk1 : ¬ ((k : Int) ≤ (l.length : Int)) := by omega
      have HB5 := Lib.hid (HB4.out.trans (hb.mono HB4.out.size))
      have HL5 := Lib.hid (HL4.out.below hb)
      have HO5 := Lib.hid (HO4.out.below hb)
      have HZ5 := Lib.hid (Nat.le_trans HZ4.out hb.size)
      have hDr := drawDeskRun_any _ cs wk (HBY.out.below HB5.out)
      clear hb HBK hlt HL4 HO4 HZ4
      go_wp2_with fail
      refine hDr.mono ?_
      rintro e w6 ⟨p, c, gs, a6, c6, es, a7, c7, rfl, ho6, h64, hl5, hcl, _, _, _, _, hb6⟩
      have HD := Lib.hid (fun p c v => show dkV p c v = .agg #[.int .i64 p, .int .i64 c, v] from rfl)
      rw [HD.out]
      obtain ⟨w7, hw7⟩ : ∃ z, z = (w6.alloc (.cells #[.int .i64 p, .int .i64 c, .slice a6 gs.length c6] 30)).alloc (.cells #[.int .i64 p, .int .i64 c, .slice a6 gs.length c6] 30) := ⟨_, rfl⟩
      have hb7 : Below w6.heap.size w6 w7 := by rw [hw7]; exact ((Below.refl _ _).alloc (Nat.le_refl _) _).alloc (by simp) _
      have hA3 : At w7 w6.heap.size (.cells #[.int .i64 p, .int .i64 c, .slice a6 gs.length c6] 30) := by rw [hw7]; exact (At.new w6 _).below ((Below.refl _ _).alloc (Nat.le_refl _) _)
      have hA5 : At w7 (w6.heap.size + 1) (.cells #[.int .i64 p, .int .i64 c, .slice a6 gs.length c6] 30) := by
        rw [hw7]; have q := At.new (w6.alloc (.cells #[.int .i64 p, .int .i64 c, .slice a6 gs.length c6] 30)) (.cells #[.int .i64 p, .int .i64 c, .slice a6 gs.length c6] 30); rw [World.size_alloc] at q; exact q
      have HRG := Lib.hid ((ho6.rg h64).below hb7)
      have HJ := Lib.hid (show JW w wk.heap.size w6.heap.size (w6.heap.size + 1) p c (.slice a6 gs.length c6) gs gs a6 c6 w1.heap.size (.slice a2 ds.length c2) ds w7 from
        ⟨hA3, hA5, HRG.out, HRG.out, (HO5.out.below hb6).below hb7, (HB5.out.trans (hb6.mono HB5.out.size)).trans (hb7.mono (Nat.le_trans HB5.out.size hb6.size)), by omega, Nat.le_trans HB5.out.size hb6.size⟩)
      have HG64 := Lib.hid h64
      have HCL := Lib.hid (show ∀ g ∈ gs, g.code.length ≤ 2000000 from fun g hg => Nat.le_trans (hcl g hg) (by omega))
      obtain ⟨t3, ht3⟩ : ∃ z, z = w6.heap.size := ⟨_, rfl⟩
      have HJ0 := Lib.hid (show JW w wk.heap.size t3 (t3 + 1) p c (.slice a6 gs.length c6) gs gs a6 c6 w1.heap.size (.slice a2 ds.length c2) ds w7 by rw [ht3]; exact HJ.out)
      have HZT := Lib.hid (show wk.heap.size ≤ t3 by rw [ht3]; exact hb6.size)
      have HOS := Lib.hid (fun (B : Nat) (gs : List Gs) (v : Value) (W : World) (q : GL B W v gs) => deskOkS_any p c v gs W q)
      --@P
      go_upto_region 16 with fail
      rw [← hw7, ← ht3]
      clear hDr ho6 h64 hcl hb6 hb7 hA3 hA5 HRG HJ hw7 ht3 HB5 HL5 HO5 HTK HBY HB4
      obtain ⟨t5, ht5⟩ : ∃ z, z = t3 + 1 := ⟨_, rfl⟩
      have ht35 : t3 < t5 := by omega
      rw [← ht5] at HJ0 ⊢
      clear ht5
      --@Q
      rcases hdk : deskB p c gs with _ | _
      · have HDK := Lib.hid hdk
        have HRB := Lib.hid (show runB p c gs ds = false by rcases q : runB p c gs ds with _ | _; rfl; have := (runB_iff'.1 q).1; rw [HDK.out] at this; cases this)
        clear hdk
        by_cases hd0 : ds.length = 0
        · have hd0' : ¬ ((0 : Int) < (ds.length : Int)) := by omega
          clear hd0
          --@L
          go_wp2
          go_loopw [16] (fun i wr => i = .int .i64 0 ∧ JW w wk.heap.size t3 t5 p c (.slice a6 gs.length c6) gs gs a6 c6 w1.heap.size (.slice a2 ds.length c2) ds wr) (fun i _ => 0)
          case atStart => exact ⟨rfl, HJ0.out⟩
          case round =>
            obtain ⟨rfl, hJ⟩ := hrel
            obtain ⟨wj, rfl⟩ : ∃ x, x = wr := ⟨_, rfl⟩
            have HJ := Lib.hid hJ
            clear hJ HJ0
            obtain ⟨x0, x1, x2⟩ := HJ.out.1.three
            have xz := HJ.out.1.lt
            have HRUN := Lib.hid (deskRunI_any p c (.slice a6 gs.length c6) gs _ ds wj HJ.out.2.2.1 (HJ.out.2.2.2.2.1.toDL H64.out) HJ.out.2.2.2.2.1.dn HCL.out (fun d hd => Nat.le_trans (HDD.out d hd).2.1 (by omega)))
            have hRun := HRUN.out
            rw [HD.out] at hRun
            --@T1a
            go_wp2_with fail
            --@T1b
            refine hRun.mono ?_
            rintro e wy hq
            --@T1c
            obtain ⟨ay, cy, ccy, rfl, y1, y2, hoy, hby⟩ := RunRes.not' HRB.out hq
            rw [HD.out]
            simp only [List.length_nil]
            obtain ⟨wz, hwz⟩ : ∃ z, z = wy.alloc (.cells #[.int .i64 0, .int .i64 0, .slice ay 0 ccy] 30) := ⟨_, rfl⟩
            have hbz : Below wy.heap.size wy wz := by rw [hwz]; exact (Below.refl _ _).alloc (Nat.le_refl _) _
            have hA9 : At wz wy.heap.size (.cells #[.int .i64 0, .int .i64 0, .slice ay 0 ccy] 30) := by rw [hwz]; exact At.new _ _
            have HJZ := Lib.hid ((HJ.out.below hby).below hbz)
            have HA9 := Lib.hid hA9
            clear hRun HRUN hq hoy y1 y2 hby hbz hA9 x0 x1 x2 xz
            --@TTd
            go_upto_region 24 with fail
            --@TTe
            rw [← hwz]
            clear hwz
            obtain ⟨t9, ht9⟩ : ∃ z, z = wy.heap.size := ⟨_, rfl⟩
            rw [← ht9] at HA9 ⊢
            clear ht9 HJ
            obtain ⟨x0, x1, x2⟩ := HJZ.out.1.three
            have xz := HJZ.out.1.lt
            obtain ⟨y0, y1, y2⟩ := HJZ.out.2.1.three
            have yz := HJZ.out.2.1.lt
            obtain ⟨u0, u1, u2⟩ := HA9.out.three
            have uz := HA9.out.lt
            have KK : ∀ (z : GrownC wz) (a : Addr) (v : Value), wz.cell? a = some v → z.val.cell? a = some v := fun z a v q => (Above.of_below (B := 0) z.ok).cell (Nat.zero_le _) q
            have KX0 := fun z => KK z _ _ x0
            have KX1 := fun z => KK z _ _ x1
            have KX2 := fun z => KK z _ _ x2
            have KY0 := fun z => KK z _ _ y0
            have KY1 := fun z => KK z _ _ y1
            have KY2 := fun z => KK z _ _ y2
            have KU0 := fun z => KK z _ _ u0
            have KU1 := fun z => KK z _ _ u1
            have KU2 := fun z => KK z _ _ u2
            obtain ⟨T, hT⟩ : ∃ T, T = l.take n := ⟨_, rfl⟩
            have HC1 := Lib.hid (show ∀ z : GrownC wz, Calls Tryz.prog 17 #[.slice a2 ds.length c2] z.val (fun e w'' => e = .returned (.string ⟨T.toArray⟩) ∧ ∃ z' : GrownC wz, w'' = z'.val) from fun z =>
              (journalTextI_any _ ds z.val ((HJZ.out.2.2.2.2.1.toDL H64.out).below z.ok) (by omega)).mono fun e w'' ⟨he, hq⟩ => ⟨by rw [he, HTXT.out, ← hT]; rfl, ⟨w'', z.ok.trans (hq.mono z.ok.size)⟩, rfl⟩)
            have HC2 := Lib.hid (show ∀ z : GrownC wz, Calls Tryz.prog 13 #[.agg #[.int .i64 p, .int .i64 c, .slice a6 gs.length c6]] z.val (fun e w'' => e = .returned (.bool false) ∧ ∃ z' : GrownC wz, w'' = z'.val) from fun z =>
              (deskOkS_any p c _ gs z.val (HJZ.out.2.2.1.below z.ok).toGL).mono fun e w'' ⟨he, hq⟩ => ⟨by rw [he, HDK.out], ⟨w'', z.ok.trans (hq.mono z.ok.size)⟩, rfl⟩)
            have HC3 := Lib.hid (show ∀ z : GrownC wz, Calls Tryz.prog 19 #[] z.val (fun e w'' => e = .returned (.bool true) ∧ ∃ z' : GrownC wz, w'' = z'.val) from fun z =>
              (alive_any z.val).mono fun e w'' ⟨he, hq⟩ => ⟨he, z, hq.symm⟩)
            have hnl : (n : Int) ≤ (l.length : Int) := by omega
            have hn0 : (0 : Int) ≤ (n : Int) := by omega
            have hsl : (ByteArray.mk l.toArray).extract 0 n = ByteArray.mk T.toArray := by rw [ByteArray.extract_mk, List.drop_zero, Nat.sub_zero, hT]
            have hTT : (T == T) = true := by simp
            have HEND := Lib.hid HJZ.out.2.2.2.2.2.1
            clear x0 x1 x2 y0 y1 y2 u0 u1 u2 KK HJZ hT
            --@T1
            go_wp2
            refine wp_region_grownC (by kernel_rfl) (by kernel_rfl) ?_
            repeat (first | go_big_quiet_skip | (go_big_quiet_want; go_big_quiet_op; first | go_big_quiet_on | go_big_quiet_call ((go_at_call 17; exact HC1.out _)) | go_big_quiet_call ((go_at_call 13; exact HC2.out _)) | go_big_quiet_call ((go_at_call 19; exact HC3.out _))))
            refine wpQuiet_nil ?_
            intro w8 hw8
            obtain ⟨z8, hz8⟩ := hw8
            have HB8 := Lib.hid (HEND.out.trans (z8.ok.mono HEND.out.size))
            rw [← hz8] at HB8
            clear hz8
            go_wp2
            go_ret
            exact ⟨rfl, HB8.out⟩
        · have hd0' : ((0 : Int) < (ds.length : Int)) := by omega
          clear hd0
          go_wp2
          go_loopw [16] (fun i wr => i = .int .i64 0 ∧ JW w wk.heap.size t3 t5 p c (.slice a6 gs.length c6) gs gs a6 c6 w1.heap.size (.slice a2 ds.length c2) ds wr) (fun i _ => 0)
          case atStart => exact ⟨rfl, HJ0.out⟩
          case round =>
            obtain ⟨rfl, hJ⟩ := hrel
            obtain ⟨wj, rfl⟩ : ∃ x, x = wr := ⟨_, rfl⟩
            have hT := HOS.out _ gs _ wj hJ.2.2.1.toGL
            rw [HD.out, HDK.out] at hT
            obtain ⟨x0, x1, x2⟩ := hJ.1.three
            have HJ := Lib.hid hJ
            clear hJ HJ0
            --@R
            go_wp2_with fail
            refine hT.mono ?_
            rintro e wv ⟨rfl, hbv⟩
            have HJ := Lib.hid (HJ.out.below hbv)
            clear hT hbv x0 x1 x2
            obtain ⟨x0, x1, x2⟩ := HJ.out.1.three
            have xz := HJ.out.1.lt
            have HRUN := Lib.hid (deskRunI_any p c (.slice a6 gs.length c6) gs _ ds wv HJ.out.2.2.1 (HJ.out.2.2.2.2.1.toDL H64.out) HJ.out.2.2.2.2.1.dn HCL.out (fun d hd => Nat.le_trans (HDD.out d hd).2.1 (by omega)))
            have hRun := HRUN.out
            rw [HD.out] at hRun
            --@T1a
            go_wp2_with fail
            --@T1b
            refine hRun.mono ?_
            rintro e wy hq
            --@T1c
            obtain ⟨ay, cy, ccy, rfl, y1, y2, hoy, hby⟩ := RunRes.not' HRB.out hq
            rw [HD.out]
            simp only [List.length_nil]
            obtain ⟨wz, hwz⟩ : ∃ z, z = wy.alloc (.cells #[.int .i64 0, .int .i64 0, .slice ay 0 ccy] 30) := ⟨_, rfl⟩
            have hbz : Below wy.heap.size wy wz := by rw [hwz]; exact (Below.refl _ _).alloc (Nat.le_refl _) _
            have hA9 : At wz wy.heap.size (.cells #[.int .i64 0, .int .i64 0, .slice ay 0 ccy] 30) := by rw [hwz]; exact At.new _ _
            have HJZ := Lib.hid ((HJ.out.below hby).below hbz)
            have HA9 := Lib.hid hA9
            clear hRun HRUN hq hoy y1 y2 hby hbz hA9 x0 x1 x2 xz
            --@TTd
            go_upto_region 24 with fail
            --@TTe
            rw [← hwz]
            clear hwz
            obtain ⟨t9, ht9⟩ : ∃ z, z = wy.heap.size := ⟨_, rfl⟩
            rw [← ht9] at HA9 ⊢
            clear ht9 HJ
            obtain ⟨x0, x1, x2⟩ := HJZ.out.1.three
            have xz := HJZ.out.1.lt
            obtain ⟨y0, y1, y2⟩ := HJZ.out.2.1.three
            have yz := HJZ.out.2.1.lt
            obtain ⟨u0, u1, u2⟩ := HA9.out.three
            have uz := HA9.out.lt
            have KK : ∀ (z : GrownC wz) (a : Addr) (v : Value), wz.cell? a = some v → z.val.cell? a = some v := fun z a v q => (Above.of_below (B := 0) z.ok).cell (Nat.zero_le _) q
            have KX0 := fun z => KK z _ _ x0
            have KX1 := fun z => KK z _ _ x1
            have KX2 := fun z => KK z _ _ x2
            have KY0 := fun z => KK z _ _ y0
            have KY1 := fun z => KK z _ _ y1
            have KY2 := fun z => KK z _ _ y2
            have KU0 := fun z => KK z _ _ u0
            have KU1 := fun z => KK z _ _ u1
            have KU2 := fun z => KK z _ _ u2
            obtain ⟨T, hT⟩ : ∃ T, T = l.take n := ⟨_, rfl⟩
            have HC1 := Lib.hid (show ∀ z : GrownC wz, Calls Tryz.prog 17 #[.slice a2 ds.length c2] z.val (fun e w'' => e = .returned (.string ⟨T.toArray⟩) ∧ ∃ z' : GrownC wz, w'' = z'.val) from fun z =>
              (journalTextI_any _ ds z.val ((HJZ.out.2.2.2.2.1.toDL H64.out).below z.ok) (by omega)).mono fun e w'' ⟨he, hq⟩ => ⟨by rw [he, HTXT.out, ← hT]; rfl, ⟨w'', z.ok.trans (hq.mono z.ok.size)⟩, rfl⟩)
            have HC2 := Lib.hid (show ∀ z : GrownC wz, Calls Tryz.prog 13 #[.agg #[.int .i64 p, .int .i64 c, .slice a6 gs.length c6]] z.val (fun e w'' => e = .returned (.bool false) ∧ ∃ z' : GrownC wz, w'' = z'.val) from fun z =>
              (deskOkS_any p c _ gs z.val (HJZ.out.2.2.1.below z.ok).toGL).mono fun e w'' ⟨he, hq⟩ => ⟨by rw [he, HDK.out], ⟨w'', z.ok.trans (hq.mono z.ok.size)⟩, rfl⟩)
            have HC3 := Lib.hid (show ∀ z : GrownC wz, Calls Tryz.prog 19 #[] z.val (fun e w'' => e = .returned (.bool true) ∧ ∃ z' : GrownC wz, w'' = z'.val) from fun z =>
              (alive_any z.val).mono fun e w'' ⟨he, hq⟩ => ⟨he, z, hq.symm⟩)
            have hnl : (n : Int) ≤ (l.length : Int) := by omega
            have hn0 : (0 : Int) ≤ (n : Int) := by omega
            have hsl : (ByteArray.mk l.toArray).extract 0 n = ByteArray.mk T.toArray := by rw [ByteArray.extract_mk, List.drop_zero, Nat.sub_zero, hT]
            have hTT : (T == T) = true := by simp
            have HEND := Lib.hid HJZ.out.2.2.2.2.2.1
            clear x0 x1 x2 y0 y1 y2 u0 u1 u2 KK HJZ hT
            --@T1
            go_wp2
            refine wp_region_grownC (by kernel_rfl) (by kernel_rfl) ?_
            repeat (first | go_big_quiet_skip | (go_big_quiet_want; go_big_quiet_op; first | go_big_quiet_on | go_big_quiet_call ((go_at_call 17; exact HC1.out _)) | go_big_quiet_call ((go_at_call 13; exact HC2.out _)) | go_big_quiet_call ((go_at_call 19; exact HC3.out _))))
            refine wpQuiet_nil ?_
            intro w8 hw8
            obtain ⟨z8, hz8⟩ := hw8
            have HB8 := Lib.hid (HEND.out.trans (z8.ok.mono HEND.out.size))
            rw [← hz8] at HB8
            clear hz8
            go_wp2
            go_ret
            exact ⟨rfl, HB8.out⟩
      · have HDK := Lib.hid hdk
        clear hdk
        go_wp2
        go_loopw [16] (fun i wr => ∃ (k : Nat) (gk : List Gs) (ak : Option Addr) (ck : Nat), k ≤ ds.length ∧ i = .int .i64 k ∧ gk = (runG p c gs (ds.take k)).1 ∧ JW w wk.heap.size t3 t5 p c (.slice a6 gs.length c6) gs gk ak ck w1.heap.size (.slice a2 ds.length c2) ds wr) (fun i _ => ds.length - (intOf i).toNat)
        case atStart => exact ⟨0, gs, a6, c6, Nat.zero_le _, rfl, rfl, HJ0.out⟩
        case round =>
          obtain ⟨k, gk, ak, ck, hk, rfl, hgk, hJ⟩ := hrel
          obtain ⟨wj, rfl⟩ : ∃ x, x = wr := ⟨_, rfl⟩
          have HGK := Lib.hid hgk
          have HJ := Lib.hid hJ
          clear hJ hgk HJ0
          by_cases hlt : k < ds.length
          · have hT := HOS.out _ gs _ wj HJ.out.2.2.1.toGL
            rw [HD.out, HDK.out] at hT
            have hk1 : (k : Int) < (ds.length : Int) := by omega
            have hk0 : (0 : Int) ≤ (k : Int) := by omega
            obtain ⟨x0, x1, x2⟩ := HJ.out.1.three
            --@S
            go_wp2_with fail
            refine hT.mono ?_
            rintro e wv ⟨rfl, hbv⟩
            have HJ := Lib.hid (HJ.out.below hbv)
            clear hT hbv x0 x1 x2
            --@S2
            -- the line is said
            obtain ⟨g, capg, hge, hgB, hgl, _, _, _, hat⟩ := HJ.out.2.2.2.2.1.opened (by omega)
            injection hge with hg1 _ hg3
            subst hg1 hg3
            obtain ⟨uu, q0, q1, hou, q2, q3⟩ := hat k hlt
            obtain ⟨au, cu, huu, hcu⟩ := own_shape hou
            clear hcu
            subst huu
            obtain ⟨x, hx⟩ : ∃ x, x = ds[k] := ⟨_, rfl⟩
            have hxm : x ∈ ds := by rw [hx]; exact List.getElem_mem hlt
            obtain ⟨r1, r2, r3⟩ := HDD.out x hxm
            obtain ⟨gn, hgn⟩ : ∃ z, z = (doneG p c gk x).1 := ⟨_, rfl⟩
            obtain ⟨ok, hok⟩ : ∃ z, z = (doneG p c gk x).2 := ⟨_, rfl⟩
            have HNX := Lib.hid (show gn = (runG p c gs (ds.take (k + 1))).1 by rw [hgn, HGK.out, hx]; exact (run_next (p := p) (c := c) (gs := gs) hlt).1.symm)
            have hG64 : In64G gn := by rw [HNX.out]; exact run_i64 _ gs HG64.out (fun d hd => H64.out d (List.mem_of_mem_take hd))
            have hGKD : deskB p c gk = true := by rw [HGK.out]; exact run_desk _ gs HDK.out
            have hGKC : ∀ g ∈ gk, g.code.length ≤ 2000000 := by rw [HGK.out]; exact run_codes _ gs HCL.out (fun d hd => Nat.le_trans (HDD.out d (List.mem_of_mem_take hd)).2.1 (by omega))
            obtain ⟨an, han⟩ : ∃ z, z = (if ok = true then wOk else wNo) := ⟨_, rfl⟩
            rw [← hx] at q0 q1 q2 q3 hou
            have HTX := Lib.hid (show ∀ W, Below wv.heap.size wv W → Calls Tryz.prog 15 #[.agg #[.bool x.back, .slice au x.code.length cu, .int .i64 x.right, .int .i64 x.near]] W (fun e W' => e = .returned (.string ⟨(textD x).toArray⟩) ∧ Below W.heap.size W W') from
              fun W q => deedTextI_any x.back _ x.code x.right x.near W ((OwnI.below hou q).toInts r3))
            have HLN := Lib.hid (show ∀ W, Below wv.heap.size wv W → Calls Tryz.prog 14 #[.agg #[.int .i64 p, .int .i64 c, .slice ak gk.length ck], .string ⟨(textD x).toArray⟩] W (SayOut p c gn an W) from fun W q => by
              have hh := lineD_any p c (.slice ak gk.length ck) gk (textD x) x W (HM.out.below (HJ.out.2.2.2.2.2.1.trans (q.mono HJ.out.2.2.2.2.2.1.size))) (HJ.out.2.2.2.1.below q) (by have := textD_len x; omega) r1 hGKD hGKC
              rw [← hgn, ← hok, ← han] at hh
              exact hh)
            obtain ⟨T, hTT⟩ : ∃ z, z = textD x := ⟨_, rfl⟩
            rw [← hTT] at HTX HLN
            have HG64N := Lib.hid hG64
            have HANS := Lib.hid han
            obtain ⟨y0, y1, y2⟩ := HJ.out.2.1.three
            have yz := HJ.out.2.1.lt
            clear hat hou hx hxm r1 r2 r3 hgn hok hG64 hGKD hGKC hTT han
            have HZV := Lib.hid (show wk.heap.size ≤ wv.heap.size by have := HZT.out; have := HJ.out.1.lt; omega)
            have hzN0 : ¬ (wv.heap.size = t5) := by omega
            have hzN1 : ¬ (wv.heap.size = g) := by omega
            --@U
            go_upto_region 19 with fail
            go_cut [17, 18] (fun sa sb wx => Made wv p c gn sa wx ∧ sb = strV an)
            case first =>
              --@V
              go_region_held3 (fun w' => w'.cell? ⟨t5, 0, none⟩ = some (.int .i64 p) ∧ w'.cell? ⟨t5, 1, none⟩ = some (.int .i64 c) ∧ w'.cell? ⟨t5, 2, none⟩ = some (.slice ak gk.length ck) ∧ w'.cell? ⟨g, k * 4, none⟩ = some (.bool x.back) ∧ w'.cell? ⟨g, k * 4 + 1, none⟩ = some (.slice au x.code.length cu) ∧ w'.cell? ⟨g, k * 4 + 2, none⟩ = some (.int .i64 x.right) ∧ w'.cell? ⟨g, k * 4 + 3, none⟩ = some (.int .i64 x.near))
                (first
                  | go_keep
                  | (go_split_ands; exact ⟨(hb2.cell (by simp; omega)).trans (by assumption), (hb2.cell (by simp; omega)).trans (by assumption), (hb2.cell (by simp; omega)).trans (by assumption), (hb2.cell (by simp; omega)).trans (by assumption), (hb2.cell (by simp; omega)).trans (by assumption), (hb2.cell (by simp; omega)).trans (by assumption), (hb2.cell (by simp; omega)).trans (by assumption)⟩)
                  | (go_split_ands; exact ⟨(hb1.cell (by simp; omega)).trans (by assumption), (hb1.cell (by simp; omega)).trans (by assumption), (hb1.cell (by simp; omega)).trans (by assumption), (hb1.cell (by simp; omega)).trans (by assumption), (hb1.cell (by simp; omega)).trans (by assumption), (hb1.cell (by simp; omega)).trans (by assumption), (hb1.cell (by simp; omega)).trans (by assumption)⟩))
                (first
                  | (go_at_call 15; refine (HTX.out wv.drew (below_drw _)).mono ?_; rintro e wA ⟨rfl, hb1⟩; have HKA := Lib.hid (show Below wv.heap.size wv wA from (below_drw _).trans hb1); have hzA := HKA.out.size; have hnA0 : ¬ (wA.heap.size = t5) := (by omega); have hnA1 : ¬ (wA.heap.size = g) := (by omega); have o0 := (HKA.out.cell yz).trans y0; have o1 := (HKA.out.cell yz).trans y1; have o2 := (HKA.out.cell yz).trans y2; have o3 := (HKA.out.cell hgl).trans q0; have o4 := (HKA.out.cell hgl).trans q1; have o5 := (HKA.out.cell hgl).trans q2; have o6 := (HKA.out.cell hgl).trans q3)
                  | (go_at_call 15; refine (HTX.out (wv.drew.alloc (.cells #[.int .i64 0, .int .i64 0, .slice none 0 0] 30)) ((below_drw _).alloc (Nat.le_refl _) _)).mono ?_; rintro e wA ⟨rfl, hb1⟩; have HKA := Lib.hid (show Below wv.heap.size wv wA from ((below_drw _).alloc (Nat.le_refl _) _).trans (hb1.mono (by simp))); have HZA := Lib.hid (show At wA wv.heap.size _ from (At.new wv.drew (.cells #[.int .i64 0, .int .i64 0, .slice none 0 0] 30)).below hb1); have hzA := HKA.out.size; have hnA0 : ¬ (wA.heap.size = t5) := (by omega); have hnA1 : ¬ (wA.heap.size = g) := (by omega); have o0 := (HKA.out.cell yz).trans y0; have o1 := (HKA.out.cell yz).trans y1; have o2 := (HKA.out.cell yz).trans y2; have o3 := (HKA.out.cell hgl).trans q0; have o4 := (HKA.out.cell hgl).trans q1; have o5 := (HKA.out.cell hgl).trans q2; have o6 := (HKA.out.cell hgl).trans q3)
                  | (go_at_call 14; refine (HLN.out (wA.alloc (.cells #[.int .i64 0, .int .i64 0, .slice none 0 0] 30)) (HKA.out.alloc HKA.out.size _)).mono ?_; rintro e wC ⟨aC, cC, ccC, rfl, p1, p2, hoC, hb2⟩; rw [HD.out]; have HKC := Lib.hid (show Below wv.heap.size wv wC from (HKA.out.alloc HKA.out.size _).trans (hb2.mono (HKA.out.alloc HKA.out.size (.cells #[.int .i64 0, .int .i64 0, .slice none 0 0] 30)).size)); have HZZ := Lib.hid (show At wC wA.heap.size _ from (At.new wA (.cells #[.int .i64 0, .int .i64 0, .slice none 0 0] 30)).below hb2); have HZL := Lib.hid (show wv.heap.size ≤ wA.heap.size from hzA); have zzf := HZZ.out.thaw; obtain ⟨zz0, zz1, zz2⟩ := HZZ.out.three; have HRC := Lib.hid (show RG wv.heap.size wC (.slice aC gn.length ccC) gn from ⟨aC, cC, ccC, rfl, p1, p2, hoC.mono (HKA.out.alloc HKA.out.size _).size, HG64N.out⟩); have hzC := HKC.out.size; have hnC0 : ¬ (wC.heap.size = t5) := (by omega); have hnC1 : ¬ (wC.heap.size = g) := (by omega); have v0 := (HKC.out.cell yz).trans y0; have v1 := (HKC.out.cell yz).trans y1; have v2 := (HKC.out.cell yz).trans y2; have v3 := (HKC.out.cell hgl).trans q0; have v4 := (HKC.out.cell hgl).trans q1; have v5 := (HKC.out.cell hgl).trans q2; have v6 := (HKC.out.cell hgl).trans q3; clear hoC p1 p2)
                  | (go_at_call 14; refine (HLN.out wA HKA.out).mono ?_; rintro e wC ⟨aC, cC, ccC, rfl, p1, p2, hoC, hb2⟩; rw [HD.out]; have HKC := Lib.hid (show Below wv.heap.size wv wC from HKA.out.trans (hb2.mono hzA)); have HZZ := Lib.hid (HZA.out.below hb2); have HZL := Lib.hid (Nat.le_refl wv.heap.size); have zzf := HZZ.out.thaw; obtain ⟨zz0, zz1, zz2⟩ := HZZ.out.three; have HRC := Lib.hid (show RG wv.heap.size wC (.slice aC gn.length ccC) gn from ⟨aC, cC, ccC, rfl, p1, p2, hoC.mono hzA, HG64N.out⟩); have hzC := HKC.out.size; have hnC0 : ¬ (wC.heap.size = t5) := (by omega); have hnC1 : ¬ (wC.heap.size = g) := (by omega); have v0 := (HKC.out.cell yz).trans y0; have v1 := (HKC.out.cell yz).trans y1; have v2 := (HKC.out.cell yz).trans y2; have v3 := (HKC.out.cell hgl).trans q0; have v4 := (HKC.out.cell hgl).trans q1; have v5 := (HKC.out.cell hgl).trans q2; have v6 := (HKC.out.cell hgl).trans q3; clear hoC p1 p2)
                  | (go_at_call 14; refine (HLN.out wA HKA.out).mono ?_; rintro e wC ⟨aC, cC, ccC, rfl, p1, p2, hoC, hb2⟩; rw [HD.out]; have HKC := Lib.hid (show Below wv.heap.size wv wC from HKA.out.trans (hb2.mono hzA)); have HRC := Lib.hid (show RG wv.heap.size wC (.slice aC gn.length ccC) gn from ⟨aC, cC, ccC, rfl, p1, p2, hoC.mono hzA, HG64N.out⟩); have hzC := HKC.out.size; have hnC0 : ¬ (wC.heap.size = t5) := (by omega); have hnC1 : ¬ (wC.heap.size = g) := (by omega); have v0 := (HKC.out.cell yz).trans y0; have v1 := (HKC.out.cell yz).trans y1; have v2 := (HKC.out.cell yz).trans y2; have v3 := (HKC.out.cell hgl).trans q0; have v4 := (HKC.out.cell hgl).trans q1; have v5 := (HKC.out.cell hgl).trans q2; have v6 := (HKC.out.cell hgl).trans q3; clear hoC p1 p2)
                  | fail)
              --@V2
              all_goals (go_wp2_with fail; go_meet; first | exact ⟨Made.late HKC.out HRC.out, rfl⟩ | exact ⟨Made.early HKC.out HRC.out HZL.out HZZ.out, rfl⟩)
            --@X
            obtain ⟨hmade, rfl⟩ := hcut
            obtain ⟨t17, aC, ccC, rfl, hb9, ht9, hat9, hr9⟩ := hmade
            obtain ⟨w9, rfl⟩ : ∃ z, z = wc := ⟨_, rfl⟩
            have HJ9 := HJ.out.below hb9
            have HJN := Lib.hid (HJ9.store (hr9.mono (HZV.out)))
            have hans := HANS.out
            obtain ⟨x0, x1, x2⟩ := hat9.three
            obtain ⟨y0, y1, y2⟩ := HJ9.2.1.three
            have yf := HJ9.2.1.thaw
            clear hb9 hr9 hat9 HJ9
            cases ok
            · rw [if_neg (by simp)] at hans
              subst hans
              unfold wNo strV
              --@Y
              go_wp2
              go_roundw
              case rel => exact ⟨k + 1, gn, aC, ccC, by omega, by go_num, HNX.out, HJN.out⟩
              case measure => simp [intOf]; omega
            · rw [if_pos rfl] at hans
              subst hans
              unfold wOk strV
              go_wp2
              go_roundw
              case rel => exact ⟨k + 1, gn, aC, ccC, by omega, by go_num, HNX.out, HJN.out⟩
              case measure => simp [intOf]; omega
          · have hkk : k = ds.length := by omega
            have hk1 : ¬ ((k : Int) < (ds.length : Int)) := by omega
            have HGK := Lib.hid (show gk = (runG p c gs ds).1 by rw [HGK.out, List.take_of_length_le (by omega)])
            clear hkk
            by_cases h41 : (40 : Int) < (ds.length : Int)
            · have H41 := Lib.hid h41
              have HRB := Lib.hid (show runB p c gs ds = false by rcases q : runB p c gs ds with _ | _; rfl; have := (runB_iff'.1 q).2; omega)
              clear h41
              obtain ⟨x0, x1, x2⟩ := HJ.out.1.three
              have xz := HJ.out.1.lt
              have HRUN := Lib.hid (deskRunI_any p c (.slice a6 gs.length c6) gs _ ds wj HJ.out.2.2.1 (HJ.out.2.2.2.2.1.toDL H64.out) HJ.out.2.2.2.2.1.dn HCL.out (fun d hd => Nat.le_trans (HDD.out d hd).2.1 (by omega)))
              have hRun := HRUN.out
              rw [HD.out] at hRun
              --@T3a
              go_wp2_with fail
              --@T3b
              refine hRun.mono ?_
              rintro e wy hq
              --@T3c
              obtain ⟨ay, cy, ccy, rfl, y1, y2, hoy, hby⟩ := RunRes.not' HRB.out hq
              rw [HD.out]
              simp only [List.length_nil]
              obtain ⟨wz, hwz⟩ : ∃ z, z = wy.alloc (.cells #[.int .i64 0, .int .i64 0, .slice ay 0 ccy] 30) := ⟨_, rfl⟩
              have hbz : Below wy.heap.size wy wz := by rw [hwz]; exact (Below.refl _ _).alloc (Nat.le_refl _) _
              have hA9 : At wz wy.heap.size (.cells #[.int .i64 0, .int .i64 0, .slice ay 0 ccy] 30) := by rw [hwz]; exact At.new _ _
              have HJZ := Lib.hid ((HJ.out.below hby).below hbz)
              have HA9 := Lib.hid hA9
              clear hRun HRUN hq hoy y1 y2 hby hbz hA9 x0 x1 x2 xz
              --@TTd
              go_upto_region 24 with fail
              --@TTe
              rw [← hwz]
              clear hwz
              obtain ⟨t9, ht9⟩ : ∃ z, z = wy.heap.size := ⟨_, rfl⟩
              rw [← ht9] at HA9 ⊢
              clear ht9 HJ
              obtain ⟨x0, x1, x2⟩ := HJZ.out.1.three
              have xz := HJZ.out.1.lt
              obtain ⟨y0, y1, y2⟩ := HJZ.out.2.1.three
              have yz := HJZ.out.2.1.lt
              obtain ⟨u0, u1, u2⟩ := HA9.out.three
              have uz := HA9.out.lt
              have KK : ∀ (z : GrownC wz) (a : Addr) (v : Value), wz.cell? a = some v → z.val.cell? a = some v := fun z a v q => (Above.of_below (B := 0) z.ok).cell (Nat.zero_le _) q
              have KX0 := fun z => KK z _ _ x0
              have KX1 := fun z => KK z _ _ x1
              have KX2 := fun z => KK z _ _ x2
              have KY0 := fun z => KK z _ _ y0
              have KY1 := fun z => KK z _ _ y1
              have KY2 := fun z => KK z _ _ y2
              have KU0 := fun z => KK z _ _ u0
              have KU1 := fun z => KK z _ _ u1
              have KU2 := fun z => KK z _ _ u2
              obtain ⟨T, hT⟩ : ∃ T, T = l.take n := ⟨_, rfl⟩
              have HC1 := Lib.hid (show ∀ z : GrownC wz, Calls Tryz.prog 17 #[.slice a2 ds.length c2] z.val (fun e w'' => e = .returned (.string ⟨T.toArray⟩) ∧ ∃ z' : GrownC wz, w'' = z'.val) from fun z =>
                (journalTextI_any _ ds z.val ((HJZ.out.2.2.2.2.1.toDL H64.out).below z.ok) (by omega)).mono fun e w'' ⟨he, hq⟩ => ⟨by rw [he, HTXT.out, ← hT]; rfl, ⟨w'', z.ok.trans (hq.mono z.ok.size)⟩, rfl⟩)
              have HC2 := Lib.hid (show ∀ z : GrownC wz, Calls Tryz.prog 13 #[.agg #[.int .i64 p, .int .i64 c, .slice a6 gs.length c6]] z.val (fun e w'' => e = .returned (.bool true) ∧ ∃ z' : GrownC wz, w'' = z'.val) from fun z =>
                (deskOkS_any p c _ gs z.val (HJZ.out.2.2.1.below z.ok).toGL).mono fun e w'' ⟨he, hq⟩ => ⟨by rw [he, HDK.out], ⟨w'', z.ok.trans (hq.mono z.ok.size)⟩, rfl⟩)
              have HC3 := Lib.hid (show ∀ z : GrownC wz, Calls Tryz.prog 19 #[] z.val (fun e w'' => e = .returned (.bool true) ∧ ∃ z' : GrownC wz, w'' = z'.val) from fun z =>
                (alive_any z.val).mono fun e w'' ⟨he, hq⟩ => ⟨he, z, hq.symm⟩)
              have hnl : (n : Int) ≤ (l.length : Int) := by omega
              have hn0 : (0 : Int) ≤ (n : Int) := by omega
              have hsl : (ByteArray.mk l.toArray).extract 0 n = ByteArray.mk T.toArray := by rw [ByteArray.extract_mk, List.drop_zero, Nat.sub_zero, hT]
              have hTT : (T == T) = true := by simp
              have HEND := Lib.hid HJZ.out.2.2.2.2.2.1
              have h40 : ((40 : Int) < (ds.length : Int)) := H41.out
              clear x0 x1 x2 y0 y1 y2 u0 u1 u2 KK HJZ hT
              --@T3
              go_wp2
              refine wp_region_grownC (by kernel_rfl) (by kernel_rfl) ?_
              repeat (first | go_big_quiet_skip | (go_big_quiet_want; go_big_quiet_op; first | go_big_quiet_on | go_big_quiet_call ((go_at_call 17; exact HC1.out _)) | go_big_quiet_call ((go_at_call 13; exact HC2.out _)) | go_big_quiet_call ((go_at_call 19; exact HC3.out _))))
              refine wpQuiet_nil ?_
              intro w8 hw8
              obtain ⟨z8, hz8⟩ := hw8
              have HB8 := Lib.hid (HEND.out.trans (z8.ok.mono HEND.out.size))
              rw [← hz8] at HB8
              clear hz8
              go_wp2
              go_ret
              exact ⟨rfl, HB8.out⟩
            · have HRB := Lib.hid (show runB p c gs ds = true from runB_iff'.2 ⟨HDK.out, by omega⟩)
              clear h41
              obtain ⟨x0, x1, x2⟩ := HJ.out.1.three
              have xz := HJ.out.1.lt
              have HRUN := Lib.hid (deskRunI_any p c (.slice a6 gs.length c6) gs _ ds wj HJ.out.2.2.1 (HJ.out.2.2.2.2.1.toDL H64.out) HJ.out.2.2.2.2.1.dn HCL.out (fun d hd => Nat.le_trans (HDD.out d hd).2.1 (by omega)))
              have hRun := HRUN.out
              rw [HD.out] at hRun
              --@T2a
              go_wp2_with fail
              --@T2b
              refine hRun.mono ?_
              rintro e wy hq
              --@T2c
              obtain ⟨ay, cy, ccy, rfl, y1, y2, hoy, hby⟩ := RunRes.is' HRB.out hq
              rw [HD.out]
              obtain ⟨wz, hwz⟩ : ∃ z, z = wy.alloc (.cells #[.int .i64 p, .int .i64 c, .slice ay (runG p c gs ds).1.length ccy] 30) := ⟨_, rfl⟩
              have hbz : Below wy.heap.size wy wz := by rw [hwz]; exact (Below.refl _ _).alloc (Nat.le_refl _) _
              have hA9 : At wz wy.heap.size (.cells #[.int .i64 p, .int .i64 c, .slice ay (runG p c gs ds).1.length ccy] 30) := by rw [hwz]; exact At.new _ _
              have HJZ := Lib.hid ((HJ.out.below hby).below hbz)
              have HR9 := Lib.hid (show RG wj.heap.size wz (.slice ay (runG p c gs ds).1.length ccy) (runG p c gs ds).1 from RG.below ⟨ay, cy, ccy, rfl, y1, y2, hoy, run_i64 ds gs HG64.out H64.out⟩ hbz)
              have HA9 := Lib.hid hA9
              clear hRun HRUN hq hoy y1 y2 hby hbz hA9 x0 x1 x2 xz
              --@TTd
              go_upto_region 24 with fail
              --@TTe
              rw [← hwz]
              clear hwz
              obtain ⟨t9, ht9⟩ : ∃ z, z = wy.heap.size := ⟨_, rfl⟩
              rw [← ht9] at HA9 ⊢
              clear ht9 HJ
              obtain ⟨x0, x1, x2⟩ := HJZ.out.1.three
              have xz := HJZ.out.1.lt
              obtain ⟨y0, y1, y2⟩ := HJZ.out.2.1.three
              have yz := HJZ.out.2.1.lt
              obtain ⟨u0, u1, u2⟩ := HA9.out.three
              have uz := HA9.out.lt
              have KK : ∀ (z : GrownC wz) (a : Addr) (v : Value), wz.cell? a = some v → z.val.cell? a = some v := fun z a v q => (Above.of_below (B := 0) z.ok).cell (Nat.zero_le _) q
              have KX0 := fun z => KK z _ _ x0
              have KX1 := fun z => KK z _ _ x1
              have KX2 := fun z => KK z _ _ x2
              have KY0 := fun z => KK z _ _ y0
              have KY1 := fun z => KK z _ _ y1
              have KY2 := fun z => KK z _ _ y2
              have KU0 := fun z => KK z _ _ u0
              have KU1 := fun z => KK z _ _ u1
              have KU2 := fun z => KK z _ _ u2
              obtain ⟨T, hT⟩ : ∃ T, T = l.take n := ⟨_, rfl⟩
              have HC1 := Lib.hid (show ∀ z : GrownC wz, Calls Tryz.prog 17 #[.slice a2 ds.length c2] z.val (fun e w'' => e = .returned (.string ⟨T.toArray⟩) ∧ ∃ z' : GrownC wz, w'' = z'.val) from fun z =>
                (journalTextI_any _ ds z.val ((HJZ.out.2.2.2.2.1.toDL H64.out).below z.ok) (by omega)).mono fun e w'' ⟨he, hq⟩ => ⟨by rw [he, HTXT.out, ← hT]; rfl, ⟨w'', z.ok.trans (hq.mono z.ok.size)⟩, rfl⟩)
              have HC2 := Lib.hid (show ∀ z : GrownC wz, Calls Tryz.prog 13 #[.agg #[.int .i64 p, .int .i64 c, .slice a6 gs.length c6]] z.val (fun e w'' => e = .returned (.bool true) ∧ ∃ z' : GrownC wz, w'' = z'.val) from fun z =>
                (deskOkS_any p c _ gs z.val (HJZ.out.2.2.1.below z.ok).toGL).mono fun e w'' ⟨he, hq⟩ => ⟨by rw [he, HDK.out], ⟨w'', z.ok.trans (hq.mono z.ok.size)⟩, rfl⟩)
              have HC3 := Lib.hid (show ∀ z : GrownC wz, Calls Tryz.prog 19 #[] z.val (fun e w'' => e = .returned (.bool true) ∧ ∃ z' : GrownC wz, w'' = z'.val) from fun z =>
                (alive_any z.val).mono fun e w'' ⟨he, hq⟩ => ⟨he, z, hq.symm⟩)
              have HC4 := Lib.hid (show ∀ z : GrownC wz, Calls Tryz.prog 18 #[.agg #[.int .i64 p, .int .i64 c, .slice ak gk.length ck], .agg #[.int .i64 p, .int .i64 c, .slice ay (runG p c gs ds).1.length ccy]] z.val (fun e w'' => e = .returned (.bool true) ∧ ∃ z' : GrownC wz, w'' = z'.val) from fun z => by
                have q1 := (HJZ.out.2.2.2.1.below z.ok).toGL
                have q2 := (HR9.out.below z.ok).toGL
                rw [HGK.out] at q1 ⊢
                exact (sameDesk_self p c _ _ (runG p c gs ds).1 z.val q1 q2).mono fun e w'' ⟨he, hq⟩ => ⟨he, ⟨w'', z.ok.trans (hq.mono z.ok.size)⟩, rfl⟩)
              have hnl : (n : Int) ≤ (l.length : Int) := by omega
              have hn0 : (0 : Int) ≤ (n : Int) := by omega
              have hsl : (ByteArray.mk l.toArray).extract 0 n = ByteArray.mk T.toArray := by rw [ByteArray.extract_mk, List.drop_zero, Nat.sub_zero, hT]
              have hTT : (T == T) = true := by simp
              have HEND := Lib.hid HJZ.out.2.2.2.2.2.1
              have h40 : ((ds.length : Int) ≤ (40 : Int)) := by have := (runB_iff'.1 HRB.out).2; omega
              have h40b : decide ((40 : Int) < (ds.length : Int)) = false := decide_eq_false (by omega)
              clear x0 x1 x2 y0 y1 y2 u0 u1 u2 KK HJZ hT
              --@T2
              go_wp2
              refine wp_region_grownC (by kernel_rfl) (by kernel_rfl) ?_
              repeat (first | go_big_quiet_skip | (go_big_quiet_want; go_big_quiet_op; first | go_big_quiet_on | go_big_quiet_call ((go_at_call 17; exact HC1.out _)) | go_big_quiet_call ((go_at_call 13; exact HC2.out _)) | go_big_quiet_call ((go_at_call 19; exact HC3.out _)) | go_big_quiet_call ((go_at_call 18; exact HC4.out _))))
              refine wpQuiet_nil ?_
              intro w8 hw8
              obtain ⟨z8, hz8⟩ := hw8
              have HB8 := Lib.hid (HEND.out.trans (z8.ok.mono HEND.out.size))
              rw [← hz8] at HB8
              clear hz8
              go_wp2
              go_ret
              exact ⟨rfl, HB8.out⟩

end Go.Proofs.YtenlngclocfnlaaGreatDoor
