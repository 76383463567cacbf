/- The walk of FnDeskDo. Printed by wip/tools/gen_dolaw.py. -/
import Derived.Test.YtenlngclocfnlaaGreatDoorBunO
import Derived.Test.YtenlngclocfnlaaGreatDoorBunS
import Derived.Test.YtenlngclocfnlaaGreatDoorBunR
import Derived.Test.YtenlngclocfnlaaGreatDoorAlive
import Derived.Deep.RegionHeld3
/- The walk of FnDeskDo. Printed by wip/tools/gen_dolaw.py. -/
namespace Go.Proofs.YtenlngclocfnlaaGreatDoor
open Go.RowKit
set_option linter.unusedVariables false
set_option maxRecDepth 100000

theorem DoRes.done {p c : Int} {gs : List Gs} {d : Dd} {w : World} {e : Ending} {w' : World} (h : deskB p c gs = true) (q : DoRes p c gs d w e w') : DoOut p c (doneG p c gs d).1 (doneG p c gs d).2 w e w' := by
  unfold DoRes at q; rw [if_pos h] at q; exact q
theorem DoRes.not {p c : Int} {gs : List Gs} {d : Dd} {w : World} {e : Ending} {w' : World} (h : deskB p c gs = false) (q : DoRes p c gs d w e w') : DoOut 0 0 [] false w e w' := by
  unfold DoRes at q; rw [if_neg (by simp [h])] at q; exact q
theorem done_i64 {p c : Int} {gs : List Gs} {d : Dd} (h64 : In64G gs) (hx : ∀ y ∈ d.code, In64 y) : In64G (doneG p c gs d).1 := by
  unfold doneG
  split
  · split
    · exact fun g hg => h64 g (List.mem_of_mem_take hg)
    · exact h64
  · split
    · exact h64.snoc (x := d.gs) hx
    · exact h64
theorem done_codes {p c : Int} {gs : List Gs} {d : Dd} {N : Nat} (h : ∀ g ∈ gs, g.code.length ≤ N) (hx : d.code.length ≤ N) : ∀ g ∈ (doneG p c gs d).1, g.code.length ≤ N := by
  unfold doneG
  split
  · split
    · exact fun g hg => h g (List.mem_of_mem_take hg)
    · exact h
  · split
    · intro g hg
      rcases List.mem_append.1 hg with q | q
      · exact h g q
      · rw [List.mem_singleton.1 q]; exact hx
    · exact h
theorem done_back_len {p c : Int} {gs : List Gs} {d : Dd} (hb : d.back = true) (h : (doneG p c gs d).2 = true) : (doneG p c gs d).1.length = gs.length - 1 ∧ 0 < gs.length := by
  revert h
  unfold doneG
  rw [if_pos hb]
  split
  · rename_i q
    intro _
    exact ⟨by simp, q.2⟩
  · intro h; cases h

/-- The zero desk against another one. -/
theorem sameDesk_zero {B C : Nat} (a0 : Option Addr) (cap0 : Nat) (p c : Int) (v : Value) (gs : List Gs) (w : World) (h0 : GL C w (.slice a0 0 cap0) []) (h : GL B w v gs) :
    Calls Tryz.prog 18 #[dkV 0 0 (.slice a0 0 cap0), dkV p c v] w fun e w' => (∃ t, e = .returned (.bool t)) ∧ Below w.heap.size w w' := by
  obtain ⟨a, cap, rfl⟩ : ∃ a cap, v = .slice a gs.length cap := by obtain ⟨a, cap, _, hv, _⟩ := h; exact ⟨a, cap, hv⟩
  have hb1 : Below w.heap.size w ((w.alloc (.cells #[.int .i64 0, .int .i64 0, .slice a0 0 cap0] 30)).alloc (.cells #[.int .i64 p, .int .i64 c, .slice a gs.length cap] 30)) := ((Below.refl _ _).alloc (Nat.le_refl _) _).alloc (by simp) _
  have HB1 := Lib.hid hb1
  unfold dkV
  by_cases hp : p = 0
  · subst hp
    by_cases hc : c = 0
    · subst hc
      by_cases hl : gs.length = 0
      · have hg : gs = [] := List.eq_nil_of_length_eq_zero hl
        subst hg
        have hS := sameGuesses_self (.slice a0 0 cap0) (.slice a 0 cap) [] _ (h0.below hb1) (h.below hb1)
        clear h h0 hb1 hl
        go_enter Tryz.func18, Tryz.ntmps18
        go_wp2_with fail
        refine hS.mono ?_
        rintro e w2 ⟨rfl, hb2⟩
        have HB2 := Lib.hid (HB1.out.trans (hb2.mono HB1.out.size))
        clear hS hb2
        go_wp2
        go_ret
        exact ⟨⟨_, rfl⟩, HB2.out⟩
      · have hl' : ((0 : Int) != (gs.length : Int)) = true := by simp; omega
        clear h h0 hb1 hl
        go_enter Tryz.func18, Tryz.ntmps18
        go_wp2_with go_in
        go_ret
        exact ⟨⟨_, rfl⟩, HB1.out⟩
    · have hc' : ((0 : Int) == c) = false := by rw [beq_eq_false_iff_ne]; exact fun e => hc e.symm
      clear h h0 hb1 hc
      go_enter Tryz.func18, Tryz.ntmps18
      go_wp2
      go_ret
      exact ⟨⟨_, rfl⟩, HB1.out⟩
  · have hp' : ((0 : Int) == p) = false := by rw [beq_eq_false_iff_ne]; exact fun e => hp e.symm
    clear h h0 hb1 hp
    go_enter Tryz.func18, Tryz.ntmps18
    go_wp2
    go_ret
    exact ⟨⟨_, rfl⟩, HB1.out⟩

end Go.Proofs.YtenlngclocfnlaaGreatDoor
/- The program's DeskRun. -/
namespace Go.Proofs.YtenlngclocfnlaaGreatDoor
open Go.RowKit
set_option linter.unusedVariables false
set_option maxRecDepth 100000

/-- A desk of one's own, and a number. -/
def RunOut (p c : Int) (gs : List Gs) (m : Int) (w : World) (e : Ending) (w' : World) : Prop :=
  ∃ a cap cap2, e = .returned (.tuple #[dkV p c (.slice a gs.length cap2), .int .i64 m]) ∧ gs.length ≤ cap2 ∧ cap2 ≤ 9223372036854775807 ∧ OwnG w.heap.size w' (.slice a gs.length cap) gs ∧ Below w.heap.size w w'
def runB (p c : Int) (gs : List Gs) (ds : List Dd) : Bool := deskB p c gs && decide ((ds.length : Int) ≤ 40)
/-- What DeskRun returns. -/
def RunRes (p c : Int) (gs : List Gs) (ds : List Dd) (w : World) (e : Ending) (w' : World) : Prop :=
  if runB p c gs ds = true then RunOut p c (runG p c gs ds).1 ((runG p c gs ds).2 : Nat) w e w' else RunOut 0 0 [] 0 w e w'
theorem RunRes.yes {p c : Int} {gs : List Gs} {ds : List Dd} {w : World} {e : Ending} {w' : World} (h : runB p c gs ds = true) (ho : RunOut p c (runG p c gs ds).1 ((runG p c gs ds).2 : Nat) w e w') : RunRes p c gs ds w e w' := by
  unfold RunRes; rw [if_pos h]; exact ho
theorem RunRes.no {p c : Int} {gs : List Gs} {ds : List Dd} {w : World} {e : Ending} {w' : World} (h : runB p c gs ds = false) (ho : RunOut 0 0 [] 0 w e w') : RunRes p c gs ds w e w' := by
  unfold RunRes; rw [if_neg (by simp [h])]; exact ho
theorem run_ret {w w4 : World} {R : Nat} {p c : Int} {gs : List Gs} {v : Value} (m : Int) (hR : w4.heap[R]? = some (.cells #[.int .i64 0, .int .i64 0, .slice none 0 0] 30 (0, 0))) (hRB : w.heap.size ≤ R)
    (ho : RG w.heap.size w4 v gs) (hb : Below w.heap.size w w4) :
    RunOut p c gs m w (.returned (.tuple #[dkV p c v, .int .i64 m])) (((w4.setCell ⟨R, 0, none⟩ (.int .i64 p)).setCell ⟨R, 1, none⟩ (.int .i64 c)).setCell ⟨R, 2, none⟩ v) ∧
      (((w4.setCell ⟨R, 0, none⟩ (.int .i64 p)).setCell ⟨R, 1, none⟩ (.int .i64 c)).setCell ⟨R, 2, none⟩ v).heap[R]? = some (.cells #[.int .i64 p, .int .i64 c, v] 30 (0, 0)) := by
  obtain ⟨a, cap, cap2, rfl, h1, h2, h3, _⟩ := ho
  have q1 := heap_setCell_same _ _ 0 _ _ (.int .i64 p) hR
  have q2 := heap_setCell_same _ _ 1 _ _ (.int .i64 c) q1
  have q3 := heap_setCell_same _ _ 2 _ _ (.slice a gs.length cap2) q2
  exact ⟨⟨a, cap, cap2, rfl, h1, h2, ((h3.other hR).other q1).other q2, ((hb.setCell (p := ⟨R, 0, none⟩) hRB _).setCell (p := ⟨R, 1, none⟩) hRB _).setCell (p := ⟨R, 2, none⟩) hRB _⟩, q3⟩
theorem OwnG.rgcap {B : Nat} {w : World} {a : Option Addr} {cap cap2 : Nat} {gs : List Gs} (h : OwnG B w (.slice a gs.length cap) gs) (h1 : gs.length ≤ cap2) (h2 : cap2 ≤ 9223372036854775807) (h64 : In64G gs) : RG B w (.slice a gs.length cap2) gs := ⟨a, cap, cap2, rfl, h1, h2, h, h64⟩
theorem run_i64 {p c : Int} : ∀ (ds : List Dd) (gs : List Gs), In64G gs → In64D ds → In64G (runG p c gs ds).1
  | [], gs, h, _ => h
  | d :: t, gs, h, hd => run_i64 t _ (done_i64 h (hd d (by simp))) (fun x hx => hd x (by simp [hx]))
theorem run_codes {p c : Int} {N : Nat} : ∀ (ds : List Dd) (gs : List Gs), (∀ g ∈ gs, g.code.length ≤ N) → (∀ d ∈ ds, d.code.length ≤ N) → ∀ g ∈ (runG p c gs ds).1, g.code.length ≤ N
  | [], gs, h, _ => h
  | d :: t, gs, h, hd => run_codes t _ (done_codes h (hd d (by simp))) (fun x hx => hd x (by simp [hx]))

/-- The walk's state: the desk in block D, the result's box R. -/
def RunW (w : World) (D R : Nat) (p c : Int) (v : Value) (gs : List Gs) (wr : World) : Prop :=
  At wr D (.cells #[.int .i64 p, .int .i64 c, v] 30) ∧ At wr R (.cells #[.int .i64 0, .int .i64 0, .slice none 0 0] 30) ∧ RG w.heap.size wr v gs ∧ Below w.heap.size w wr ∧ w.heap.size ≤ D ∧ w.heap.size ≤ R ∧ D ≠ R
theorem RunW.below {w : World} {D R : Nat} {p c : Int} {v : Value} {gs : List Gs} {wr wj : World} (h : RunW w D R p c v gs wr) (hb : Below wr.heap.size wr wj) : RunW w D R p c v gs wj := by
  obtain ⟨h1, h2, h3, h4, h5⟩ := h
  exact ⟨h1.below hb, h2.below hb, h3.below hb, h4.trans (hb.mono h4.size), h5⟩
/-- A desk is stored into D. -/
theorem RunW.put {w : World} {D R : Nat} {p c : Int} {v0 v' : Value} {p0 c0 : Int} {gs' : List Gs} {wr : World} (h1 : At wr D (.cells #[.int .i64 p0, .int .i64 c0, v0] 30)) (h2 : At wr R (.cells #[.int .i64 0, .int .i64 0, .slice none 0 0] 30)) (h4 : Below w.heap.size w wr) (h5 : w.heap.size ≤ D) (h6 : w.heap.size ≤ R) (h7 : D ≠ R) (hr : RG w.heap.size wr v' gs') :
    RunW w D R p c v' gs' (((wr.setCell ⟨D, 0, none⟩ (.int .i64 p)).setCell ⟨D, 1, none⟩ (.int .i64 c)).setCell ⟨D, 2, none⟩ v') := by
  have q1 := heap_setCell_same _ _ 0 _ _ (.int .i64 p) h1
  have q2 := heap_setCell_same _ _ 1 _ _ (.int .i64 c) q1
  have q3 := heap_setCell_same _ _ 2 _ _ v' q2
  refine ⟨q3, ?_, ((hr.other h1).other q1).other q2, ((h4.setCell (p := ⟨D, 0, none⟩) h5 _).setCell (p := ⟨D, 1, none⟩) h5 _).setCell (p := ⟨D, 2, none⟩) h5 _, h5, h6, h7⟩
  unfold At
  rw [heap_setCell_other _ _ _ _ (by simp; omega), heap_setCell_other _ _ _ _ (by simp; omega), heap_setCell_other _ _ _ _ (by simp; omega)]
  exact h2
theorem dd_eta (d : Dd) : (⟨d.back, d.code, d.right, d.near⟩ : Dd) = d := rfl

set_option maxHeartbeats 4000000 in
theorem deskRunI_any {B C : Nat} (p c : Int) (v : Value) (gs : List Gs) (vl : Value) (ds : List Dd) (w : World) (h : RG B w v gs) (hl : DL C w vl ds) (hn : DN w vl ds) (hc : ∀ g ∈ gs, g.code.length ≤ 2000000) (hdc : ∀ d ∈ ds, d.code.length ≤ 2000000) :
    Calls Tryz.prog 16 #[dkV p c v, vl] w (RunRes p c gs ds w) := by
  have HRG := Lib.hid h
  have H64 := Lib.hid h.i64
  have HD64 := Lib.hid hl.in64
  obtain ⟨a, cap, rfl⟩ := h.shape
  obtain ⟨al, capl, V, rfl, hcapl, hmaxl, hcells, hV⟩ := hl
  have HCE := Lib.hid hcells
  have HV := Lib.hid hV
  have HN := Lib.hid hn
  have HC := Lib.hid hc
  have HDC := Lib.hid hdc
  obtain ⟨w1, hw1⟩ : ∃ w1, w1 = (w.alloc (.cells #[.int .i64 p, .int .i64 c, .slice a gs.length cap] 30)).alloc (.cells #[.int .i64 0, .int .i64 0, .slice none 0 0] 30) := ⟨_, rfl⟩
  have hb1 : Below w.heap.size w w1 := by rw [hw1]; exact ((Below.refl _ _).alloc (Nat.le_refl _) _).alloc (by simp) _
  have hz0 : At w1 w.heap.size (.cells #[.int .i64 p, .int .i64 c, .slice a gs.length cap] 30) := by rw [hw1]; exact (At.new w _).below ((Below.refl _ _).alloc (Nat.le_refl _) _)
  have hz1 : At w1 (w.heap.size + 1) (.cells #[.int .i64 0, .int .i64 0, .slice none 0 0] 30) := by rw [hw1]; have q := At.new (w.alloc (.cells #[.int .i64 p, .int .i64 c, .slice a gs.length cap] 30)) (.cells #[.int .i64 0, .int .i64 0, .slice none 0 0] 30); rw [World.size_alloc] at q; exact q
  have hT := deskOkI_any p c _ gs w1 (h.toGL.below hb1)
  have HB := Lib.hid hb1
  have HA0 := Lib.hid hz0
  have HA1 := Lib.hid hz1
  have HY := Lib.hid (fun (e : Ending) (w' : World) (q : runB p c gs ds = true) => RunRes.yes (w := w) (e := e) (w' := w') q)
  have HNO := Lib.hid (fun (e : Ending) (w' : World) (q : runB p c gs ds = false) => RunRes.no (w := w) (e := e) (w' := w') q)
  obtain ⟨t, ht⟩ : ∃ t, t = deskB p c gs := ⟨_, rfl⟩
  have HT := Lib.hid ht
  rw [← ht] at hT
  unfold dkV at hT
  unfold dkV
  clear h hc hdc hb1 hz0 hz1 ht hcells hV hn
  go_enter Tryz.func16, Tryz.ntmps16
  go_wp2_with fail
  rw [← hw1]
  clear hw1
  refine hT.mono ?_
  rintro e w2 ⟨rfl, hb2⟩
  replace HA0 := Lib.hid (HA0.out.below hb2)
  replace HA1 := Lib.hid (HA1.out.below hb2)
  replace HB := Lib.hid (HB.out.trans (hb2.mono HB.out.size))
  clear hT hb2
  obtain ⟨e0, e1, e2⟩ := HA0.out.three
  obtain ⟨r0, r1, r2, rf⟩ := zero_cells HA1.out
  have hz0 := HA0.out.lt
  cases t
  · have HF := Lib.hid (run_ret (w := w) (p := 0) (c := 0) (gs := []) (v := .slice none 0 0) 0 HA1.out (by omega) ((OwnG.empty _ _).rg (fun g hg => by cases hg)) HB.out)
    go_wp2
    ((try simp only [Exit.inBlock, Exit.then]); refine bodyPost_ret (results_cell_tmp rfl _ _ (w.heap.size + 1) _ _ (0, 0) _ rfl HF.out.2 Tryz.underlying30 rfl (by kernel_rfl)) rfl ?_)
    exact HNO.out _ _ (by unfold runB; rw [← HT.out]; rfl) HF.out.1
  · by_cases hlong : 40 < (ds.length : Int)
    · have HF := Lib.hid (run_ret (w := w) (p := 0) (c := 0) (gs := []) (v := .slice none 0 0) 0 HA1.out (by omega) ((OwnG.empty _ _).rg (fun g hg => by cases hg)) HB.out)
      have HRB := Lib.hid (show runB p c gs ds = false by unfold runB; rw [decide_eq_false (by omega)]; simp)
      go_wp2
      ((try simp only [Exit.inBlock, Exit.then]); refine bodyPost_ret (results_cell_tmp rfl _ _ (w.heap.size + 1) _ _ (0, 0) _ rfl HF.out.2 Tryz.underlying30 rfl (by kernel_rfl)) rfl ?_)
      exact HNO.out _ _ HRB.out HF.out.1
    · have HRB := Lib.hid (show runB p c gs ds = true by unfold runB; rw [← HT.out, decide_eq_true (by omega)]; rfl)
      have hdl := deskB_len HT.out.symm
      have hT := dcop_any p c _ gs w2 (HRG.out.below HB.out) (by omega) HC.out
      unfold dkV at hT
      have ef := HA0.out.thaw
      go_wp2_with fail
      refine hT.mono ?_
      rintro e w3 ⟨a3, c3, rfl, ho3, hb3⟩
      unfold dkV
      replace HA0 := Lib.hid (HA0.out.below hb3)
      replace HA1 := Lib.hid (HA1.out.below hb3)
      have HW3 := Lib.hid (RunW.put (p := p) (c := c) HA0.out HA1.out (HB.out.trans (hb3.mono HB.out.size)) (Nat.le_refl _) (by omega) (by omega) ((ho3.rg H64.out).mono HB.out.size))
      obtain ⟨e0', e1', e2'⟩ := HA0.out.three
      have ef' := HA0.out.thaw
      have HDK := Lib.hid HT.out.symm
      clear hT ho3 hb3 HA0 HA1 e0 e1 e2 ef r0 r1 r2 rf
      go_wp2
      obtain ⟨W0, hW0⟩ : ∃ z, z = ((w3.setCell ⟨w.heap.size, 0, none⟩ (.int .i64 p)).setCell ⟨w.heap.size, 1, none⟩ (.int .i64 c)).setCell ⟨w.heap.size, 2, none⟩ (.slice a3 gs.length c3) := ⟨_, rfl⟩
      rw [← hW0] at HW3 ⊢
      clear hW0 e0' e1' e2' ef' HB
      go_loopw [6, 24] (fun s i wr => ∃ (k : Nat) (v' : Value), k ≤ ds.length ∧ i = .int .i64 k ∧ s = .int .i64 ((runG p c gs (ds.take k)).2 : Nat) ∧ RunW w w.heap.size (w.heap.size + 1) p c v' (runG p c gs (ds.take k)).1 wr) (fun _ i _ => ds.length - (intOf i).toNat)
      case atStart => exact ⟨0, _, Nat.zero_le _, rfl, rfl, HW3.out⟩
      case round =>
        obtain ⟨k, v', hk, rfl, rfl, hW⟩ := hrel
        obtain ⟨wk, rfl⟩ : ∃ x, x = wr := ⟨_, rfl⟩
        clear HW3
        have hle := run_le p c (ds.take k) gs
        rw [List.length_take] at hle
        by_cases hlt : k < ds.length
        · have hnx := run_next (p := p) (c := c) (gs := gs) hlt
          have h64 := run_i64 (p := p) (c := c) (ds.take k) gs H64.out (fun d hd => HD64.out d (List.mem_of_mem_take hd))
          have hcd := run_codes (p := p) (c := c) (N := 2000000) (ds.take k) gs HC.out (fun d hd => HDC.out d (List.mem_of_mem_take hd))
          have hdk := run_desk (ds.take k) gs HDK.out
          obtain ⟨gk, hgk⟩ : ∃ z, z = (runG p c gs (ds.take k)).1 := ⟨_, rfl⟩
          obtain ⟨nk, hnk⟩ : ∃ z, z = (runG p c gs (ds.take k)).2 := ⟨_, rfl⟩
          rw [← hgk] at hnx h64 hcd hdk hW
          rw [← hnk] at hnx hle ⊢
          obtain ⟨b, off, rfl, _, hcs⟩ := HCE.out (by omega)
          obtain ⟨c0, c1, c2, c3⟩ := hcs k hlt
          have hb := hW.2.2.2.1
          have q0 := (Above.of_below (B := 0) hb).cell (Nat.zero_le _) c0
          have q1 := (Above.of_below (B := 0) hb).cell (Nat.zero_le _) c1
          have q2 := (Above.of_below (B := 0) hb).cell (Nat.zero_le _) c2
          have q3 := (Above.of_below (B := 0) hb).cell (Nat.zero_le _) c3
          have hIk := (HV.out k hlt).below hb
          have hNk := HN.out b off _ _ rfl k _ hlt c1
          obtain ⟨av, cv, hvv, _⟩ := (HV.out k hlt).opened
          have hxl := HDC.out _ (List.getElem_mem hlt)
          obtain ⟨x, hx⟩ : ∃ x, x = ds[k] := ⟨_, rfl⟩
          rw [← hx] at q0 q2 q3 hIk hvv hxl hnx
          rw [hvv] at q1 hIk hNk
          obtain ⟨x0, x1, x2⟩ := hW.1.three
          obtain ⟨ak, ck, hvk⟩ := hW.2.2.1.shape
          subst hvk
          have HD := Lib.hid (show ∀ W, RG w.heap.size W (.slice ak gk.length ck) gk → Ints C W (.slice av x.code.length cv) x.code → Calls Tryz.prog 58 #[.agg #[.int .i64 p, .int .i64 c, .slice ak gk.length ck], .agg #[.bool x.back, .slice av x.code.length cv, .int .i64 x.right, .int .i64 x.near]] W (DoOut p c (doneG p c gk x).1 (doneG p c gk x).2 W) from
            fun W r1 r2 => done_any p c _ gk x.back _ x.code x.right x.near W r1 r2 hNk (by have := deskB_len hdk; omega) hcd hxl)
          have H6 := Lib.hid (done_i64 (p := p) (c := c) (d := x) h64 (by rw [hx]; exact HD64.out _ (List.getElem_mem hlt)))
          have HNX := Lib.hid hnx
          obtain ⟨g2, hg2⟩ : ∃ z, z = (doneG p c gk x).1 := ⟨_, rfl⟩
          obtain ⟨ok, hok⟩ : ∃ z, z = (doneG p c gk x).2 := ⟨_, rfl⟩
          rw [← hg2, ← hok] at HD HNX
          rw [← hg2] at H6
          have HW := Lib.hid hW
          have HIK := Lib.hid hIk
          have hzk := hW.1.lt
          have hi0 : (0 : Int) ≤ (k : Int) := by omega
          have hi1 : (k : Int) < (ds.length : Int) := by omega
          have hn0 : (nk : Int) ≤ 1000 := by omega
          clear hnx h64 hcd hdk hgk hnk hcs c0 c1 c2 c3 hb hIk hNk hvv hx hg2 hok hW hle hxl
          go_wp2_with fail
          obtain ⟨wq, hwq⟩ : ∃ z, z = wk.alloc (.cells #[.bool x.back, .slice av x.code.length cv, .int .i64 x.right, .int .i64 x.near] 41) := ⟨_, rfl⟩
          have hbq : Below wk.heap.size wk wq := by rw [hwq]; exact (Below.refl _ _).alloc (Nat.le_refl _) _
          rw [← hwq]
          have HWQ := Lib.hid (HW.out.below hbq)
          clear hwq q0 q1 q2 q3 x0 x1 x2
          refine (HD.out wq HWQ.out.2.2.1 (HIK.out.below hbq)).mono ?_
          rintro e w4 ⟨a4, c4, cc4, rfl, r1, r2, ho4, hb4⟩
          unfold dkV
          have HW4 := Lib.hid (HWQ.out.below hb4)
          have HR4 := Lib.hid (show RG w.heap.size w4 (.slice a4 g2.length cc4) g2 from (ho4.rgcap r1 r2 H6.out).mono HWQ.out.2.2.2.1.size)
          have HP := Lib.hid ((RunW.put (p := p) (c := c) HW4.out.1 HW4.out.2.1 HW4.out.2.2.2.1 HW4.out.2.2.2.2.1 HW4.out.2.2.2.2.2.1 HW4.out.2.2.2.2.2.2 HR4.out).below ((Below.refl _ _).alloc (Nat.le_refl _) (.cells #[.int .i64 p, .int .i64 c, .slice a4 g2.length cc4] 30)))
          have hz4 := HW4.out.1.lt
          obtain ⟨x0, x1, x2⟩ := HW4.out.1.three
          have xf := HW4.out.1.thaw
          clear hbq ho4 hb4 hzk
          cases ok
          · go_wp2
            go_roundw
            case rel => exact ⟨k + 1, _, by omega, by go_num, by rw [HNX.out.2]; simp, by rw [HNX.out.1]; exact HP.out⟩
            case measure => simp [intOf]; omega
          · go_wp2
            go_roundw
            case rel => exact ⟨k + 1, _, by omega, by go_num, by rw [HNX.out.2]; simp, by rw [HNX.out.1]; exact HP.out⟩
            case measure => simp [intOf]; omega
        · have e : ds.take k = ds := List.take_of_length_le (by omega)
          rw [e] at hW hle ⊢
          obtain ⟨ak, ck, hvk⟩ := hW.2.2.1.shape
          subst hvk
          have HF := Lib.hid (run_ret (p := p) (c := c) ((runG p c gs ds).2 : Nat) hW.2.1 (by omega) hW.2.2.1 hW.2.2.2.1)
          obtain ⟨x0, x1, x2⟩ := hW.1.three
          obtain ⟨r0, r1, r2, rf⟩ := zero_cells hW.2.1
          obtain ⟨G, hG⟩ : ∃ z, z = (runG p c gs ds).1 := ⟨_, rfl⟩
          obtain ⟨M, hM⟩ : ∃ z, z = (runG p c gs ds).2 := ⟨_, rfl⟩
          rw [← hM] at HF ⊢
          rw [← hG] at HF x2
          have HGM := Lib.hid (And.intro hG hM)
          clear hW e hG hM hle
          go_wp2
          ((try simp only [Exit.inBlock, Exit.then]); refine bodyPost_ret (results_cell_tmp rfl _ _ (w.heap.size + 1) _ _ (0, 0) _ rfl HF.out.2 Tryz.underlying30 rfl (by kernel_rfl)) rfl ?_)
          refine HY.out _ _ HRB.out ?_
          rw [← HGM.out.1, ← HGM.out.2]
          exact HF.out.1

end Go.Proofs.YtenlngclocfnlaaGreatDoor
