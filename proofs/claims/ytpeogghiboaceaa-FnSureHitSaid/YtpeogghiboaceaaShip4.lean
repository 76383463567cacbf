/- slices.DeleteFunc over places. -/
import Derived.Test.YtpeogghiboaceaaShip3
namespace Go.Proofs.Ytpeogghiboaceaa
open Go.RowKit
set_option linter.unusedVariables false
set_option maxRecDepth 100000

/-- Places are left: in the same block. -/
def DelOut (B : Nat) (v : Value) (ps : List Pl) (w : World) (e : Ending) (w' : World) : Prop :=
  ∃ a cap, e = .returned (.slice a ps.length cap) ∧ OwnP B w' (.slice a ps.length cap) ps ∧ w.grownBy w' v.ownBlock

set_option maxHeartbeats 4000000 in
theorem deleteP_any {B : Nat} (v : Value) (ps : List Pl) (w : World) (h : OwnP B w v ps) (g : Nat) (lb : Array Value) (q : Pl → Bool) (hf : TellsP g lb q ps v.ownBlock w) :
    Calls Try.prog 86 #[v, .func (.func g) #[] lb] w (DelOut B v (ps.filter fun p => !q p) w) := by
  have hI := indexP_any v ps w h g lb q _ hf
  by_cases hno : ∀ j, j < ps.length → (fun i => q (atP ps i)) j = false
  · rw [idxN_none hno] at hI
    have HF := Lib.hid (show ps.filter (fun p => !q p) = ps from by
      rw [List.filter_eq_self]
      intro x hx
      obtain ⟨i, hi, rfl⟩ := List.getElem_of_mem hx
      have := hno i hi
      simp only [atP_get hi] at this
      rw [this]; rfl)
    have HO := Lib.hid h
    obtain ⟨a, cap, rfl, _⟩ := h.opened
    clear hno hf h
    go_enter Try.func86, Try.ntmps86
    go_wp2_with fail
    refine hI.mono ?_
    rintro e w2 ⟨rfl, hb2⟩
    have HB2 := Lib.hid hb2
    clear hb2
    go_wp2
    go_ret
    refine ⟨a, cap, ?_, ?_, grownP_of HB2.out⟩
    · rw [HF.out]; rfl
    · rw [HF.out]; exact HO.out.below HB2.out
  · obtain ⟨k, hk, hqk, hmin⟩ : ∃ k, k < ps.length ∧ (fun i => q (atP ps i)) k = true ∧ ∀ j, j < k → (fun i => q (atP ps i)) j = false := by
      have hex : ∃ k, k < ps.length ∧ (fun i => q (atP ps i)) k = true := by
        apply Classical.byContradiction
        intro hc
        apply hno
        intro j hj
        cases hq : (fun i => q (atP ps i)) j
        · rfl
        · exact absurd ⟨j, hj, hq⟩ hc
      obtain ⟨k, hk⟩ := hex
      induction k using Nat.strongRecOn with
      | _ k ih =>
        by_cases hm : ∃ j, j < k ∧ (fun i => q (atP ps i)) j = true
        · obtain ⟨j, hj, hqj⟩ := hm
          exact ih j hj ⟨by omega, hqj⟩
        · refine ⟨k, hk.1, hk.2, fun j hj => ?_⟩
          cases hq : (fun i => q (atP ps i)) j
          · rfl
          · exact absurd ⟨j, hj, hq⟩ hm
    rw [idxN_hit hk hmin hqk] at hI
    obtain ⟨g0, cap, rfl, hBg, hgs, hcap, hmax⟩ := h.head (by omega)
    have hst : DelInv ps (fun p => !q p) k (k + 1) ps := DelInv.start hk (fun j hj => by have := hmin j hj; simp only at this; simp only [this]; rfl) (by simp only at hqk; simp only [hqk]; rfl)
    have HST := Lib.hid hst
    have HH := Lib.hid h
    obtain ⟨eg, hf⟩ := hf
    have HF := Lib.hid hf
    have hne : ((k : Int) == -1) = false := by rw [beq_eq_false_iff_ne]; omega
    clear hno hqk hmin hst h hf
    go_enter Try.func86, Try.ntmps86
    go_wp2_with fail
    refine hI.mono ?_
    rintro e w2 ⟨rfl, hb2⟩
    have HB2 := Lib.hid hb2
    clear hb2 hI
    go_wp2
    go_loopw [5, 6] (fun s5 s6 wr => ∃ (i j : Nat) (L : List Pl), s5 = .int .i64 i ∧ s6 = .int .i64 j ∧ DelInv ps (fun p => !q p) i j L ∧ OwnP B wr (.slice (some ⟨g0, 0, none⟩) ps.length cap) L ∧ w.grownBy wr (some g0)) (fun _ j _ => ps.length - (intOf j).toNat)
    case atStart => exact ⟨k, k + 1, ps, rfl, by go_num, HST.out, HH.out.below HB2.out, grownP_of HB2.out⟩
    case round =>
      obtain ⟨i, j, L, rfl, rfl, hD, ho, hg⟩ := hrel
      have HD := Lib.hid hD
      have HO := Lib.hid ho
      have HG := Lib.hid hg
      obtain ⟨hLl, hij, hjn, _, _⟩ := id hD
      by_cases hlt : j < ps.length
      · obtain ⟨hjL, eL⟩ := hD.get hlt
        obtain ⟨c1, c2, c3, hfz⟩ := ho.at j hjL
        rw [eL] at c1 c2 c3
        have HK := Lib.hid (hD.keep hlt)
        have HS := Lib.hid (hD.skip hlt)
        have hF := fun W hW => HF.out W hW ps[j] (List.getElem_mem hlt)
        have hsplit : L = L.take i ++ L[i] :: L.drop (i + 1) := by
          rw [← List.drop_eq_getElem_cons (by omega), List.take_append_drop]
        obtain ⟨u, hu⟩ : ∃ u, u = ps[j] := ⟨_, rfl⟩
        rw [← hu] at c1 c2 c3 HK HS hF
        have HSET := Lib.hid (show L.set i u = L.take i ++ u :: L.drop (i + 1) from by rw [List.set_eq_take_append_cons_drop, if_pos (by omega)])
        have HSP := Lib.hid hsplit
        have hil : (L.take i).length = i := by rw [List.length_take]; omega
        have HIL := Lib.hid hil
        unfold plV at hF
        have hi0 : (0 : Int) ≤ (j : Int) := by omega
        have hi1 : (j : Int) < (ps.length : Int) := by omega
        have hi2 : (0 : Int) ≤ (i : Int) := by omega
        have hi3 : (i : Int) < (ps.length : Int) := by omega
        have hi4 : (j : Int) < 9223372036854775807 := by omega
        have hi5 : (i : Int) < 9223372036854775807 := by omega
        obtain ⟨W1, hW1⟩ : ∃ W1, W1 = wr.alloc (.cells #[.int .i64 u.r, .int .i64 u.c, .int .i64 u.d] 80) := ⟨_, rfl⟩
        have hb1 : Below wr.heap.size wr W1 := by rw [hW1]; exact (Below.refl _ _).alloc (Nat.le_refl _) _
        have hF1 := hF W1 (by have := grownP_then hg hb1; exact this)
        have x1 : W1.cell? ⟨wr.heap.size, 0, none⟩ = some (.int .i64 u.r) := by rw [hW1]; exact cell_of_row _ _ 0 _ _ (0, 0) (heap_alloc_new wr _)
        have x2 : W1.cell? ⟨wr.heap.size, 1, none⟩ = some (.int .i64 u.c) := by rw [hW1]; exact cell_of_row _ _ 1 _ _ (0, 0) (heap_alloc_new wr _)
        have x3 : W1.cell? ⟨wr.heap.size, 2, none⟩ = some (.int .i64 u.d) := by rw [hW1]; exact cell_of_row _ _ 2 _ _ (0, 0) (heap_alloc_new wr _)
        rw [hW1] at hF1
        have HW1 := Lib.hid hW1
        clear hu eL hjL hsplit hil hF hg ho hD hfz HF hW1
        cases hq : q u
        · rw [hq] at hF1
          have HQ := Lib.hid (HK.out (by rw [hq]; rfl))
          clear hq HK HS
          go_wp2_with fail
          refine hF1.mono ?_
          rintro e w3 ⟨rfl, hb3⟩
          rw [← HW1.out] at hb3
          have ho3 := (HO.out.below hb1).below hb3
          have y1 := (Above.of_below (B := 0) hb3).cell (Nat.zero_le _) x1
          have y2 := (Above.of_below (B := 0) hb3).cell (Nat.zero_le _) x2
          have y3 := (Above.of_below (B := 0) hb3).cell (Nat.zero_le _) x3
          obtain ⟨c1, c2, c3, hf⟩ := ho3.at i (by have := HD.out.1; omega)
          have hc2 := set_seen w3 g0 (i * 3) (i * 3 + 1) (.int .i64 u.r) _ c2 (by omega)
          have hc3 := set_seen (w3.setCell ⟨g0, i * 3, none⟩ (.int .i64 u.r)) g0 (i * 3 + 1) (i * 3 + 2) (.int .i64 u.c) _ (set_seen w3 g0 (i * 3) (i * 3 + 2) (.int .i64 u.r) _ c3 (by omega)) (by omega)
          have hf1 := hf (i * 3)
          have hf2 := set_thawed w3 g0 (i * 3) (i * 3 + 1) (.int .i64 u.r) (hf _)
          have hf3 := set_thawed (w3.setCell ⟨g0, i * 3, none⟩ (.int .i64 u.r)) g0 (i * 3 + 1) (i * 3 + 2) (.int .i64 u.c) (set_thawed w3 g0 (i * 3) (i * 3 + 2) (.int .i64 u.r) (hf _))
          rw [HSP.out] at ho3
          have hput := ho3.put (q := u)
          rw [HIL.out, ← HSET.out] at hput
          have HP := Lib.hid hput.1
          have HG3 := Lib.hid (((grownP_then HG.out hb1).andThen (grownP_none hb3) (fun _ e => by cases e)).andThen hput.2 (fun _ e => by cases e; exact .inr rfl))
          clear hput hb3 ho3 hb1 x1 x2 x3 hf
          go_wp2
          go_roundw
          case rel => exact ⟨i + 1, j + 1, _, by go_num, by go_num, HQ.out, HP.out, HG3.out⟩
          case measure => simp [intOf]; omega
        · rw [hq] at hF1
          have HQ := Lib.hid (HS.out (by rw [hq]; rfl))
          clear hq HK HS
          go_wp2_with fail
          refine hF1.mono ?_
          rintro e w3 ⟨rfl, hb3⟩
          rw [← HW1.out] at hb3
          have HO3 := Lib.hid ((HO.out.below hb1).below hb3)
          have HG3 := Lib.hid ((grownP_then HG.out hb1).andThen (grownP_none hb3) (fun _ e => by cases e))
          clear hb3 hb1 x1 x2 x3
          go_wp2
          go_roundw
          case rel => exact ⟨i, j + 1, L, rfl, by go_num, HQ.out, HO3.out, HG3.out⟩
          case measure => simp [intOf]; omega
      · have e : j = ps.length := by omega
        subst e
        have hcl : ∀ ty, (Builtin.clear_ #[47] ty #[.slice (some ⟨g0, i * 3, none⟩) (ps.length - i) (cap - i)]).run Try.prog wr = .ok (.tuple #[]) (wr.setCells g0 (i * 3) (List.replicate ((ps.length - i) * 3) (.int .i64 0))) := fun ty => by
          refine run_clear_pl wr ty g0 (i * 3) _ _ (by omega) (fun t ht => ?_) (fun t ht => ?_)
          · obtain ⟨c1, c2, c3, _⟩ := ho.at (i + t / 3) (by omega)
            have : t % 3 = 0 ∨ t % 3 = 1 ∨ t % 3 = 2 := by omega
            rcases this with m | m | m
            · rw [show i * 3 + t = (i + t / 3) * 3 by omega, c1]; rfl
            · rw [show i * 3 + t = (i + t / 3) * 3 + 1 by omega, c2]; rfl
            · rw [show i * 3 + t = (i + t / 3) * 3 + 2 by omega, c3]; rfl
          · exact (ho.at i (by omega)).2.2.2 _
        have hfin := ho.cleared i (by omega) (List.replicate ((ps.length - i) * 3) (.int .i64 0))
        have hLi : L.take i = ps.filter (fun p => !q p) := by rw [HD.out.2.2.2.1, List.take_of_length_le (Nat.le_refl _)]
        have hil : (L.take i).length = i := by rw [List.length_take]; omega
        have HL := Lib.hid hLi
        have HIL := Lib.hid hil
        have HFI := Lib.hid hfin
        have hi2 : (0 : Int) ≤ (i : Int) := by omega
        have hi3 : (i : Int) < (ps.length : Int) := by omega
        have hi5 : (i : Int) ≤ (cap : Int) := by omega
        clear hLi hil hfin ho hg hD hLl HF
        go_wp2
        go_ret
        refine ⟨some ⟨g0, 0, none⟩, cap, ?_, ?_, HG.out.andThen HFI.out.2 (fun _ e => by cases e; exact .inr rfl)⟩
        · rw [← HL.out, HIL.out]; rfl
        · rw [← HL.out, HIL.out]; exact HFI.out.1

end Go.Proofs.Ytpeogghiboaceaa
