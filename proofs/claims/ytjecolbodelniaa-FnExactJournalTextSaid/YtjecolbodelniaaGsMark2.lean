/- Marks of guesses where the slice shows less than the block's capacity. -/
import Derived.Test.YtjecolbodelniaaCopI
import Derived.Test.YtjecolbodelniaaDoMath
namespace Go.Proofs.Ytjecolbodelniaa
open Go.RowKit
set_option linter.unusedVariables false
set_option maxRecDepth 100000

set_option maxHeartbeats 4000000 in
theorem markGuessS_cap {B C : Nat} (a : Option Addr) (capo cap2 : Nat) (gs : List Gs) (m : Int) (w : World) (h : OwnG B w (.slice a gs.length capo) gs) (hlow : LowG C w (.slice a gs.length capo) gs.length) (hBw : B ≤ w.heap.size) (h0 : 0 ≤ m) (h1 : m + totG gs ≤ 1099511627776) :
    Calls Try.prog 56 #[.slice a gs.length cap2, .int .i64 m] w (MarkedG B C (.slice a gs.length capo) gs m w) := by
  by_cases hz : gs = []
  · subst hz
    have HO := Lib.hid h
    clear h hlow
    go_enter Try.func56, Try.ntmps56
    go_wp2
    refine wp_loop_rounds 1 ?_; rw [rounds_succ]
    go_wp2
    go_ret
    exact ⟨rfl, HO.out, Below.refl _ _, fun _ _ _ => rfl⟩
  · have hp : 0 < gs.length := List.length_pos_iff.2 hz
    obtain ⟨g, cap, e0, hBg, hgs, hcap, hmax, _, hat0⟩ := h.opened hp
    injection e0 with e0 e0b e0c
    subst e0 e0c
    clear e0b
    obtain ⟨hgC, hlw⟩ := hlow g _ _ rfl hp
    have HLW := Lib.hid hlw
    have HO0 := Lib.hid h
    clear hlow hlw hat0 hz h
    go_enter Try.func56, Try.ntmps56
    go_wp2
    go_loopw [1, 5] (fun s i wr => ∃ k : Nat, k ≤ gs.length ∧ i = .int .i64 k ∧ s = .int .i64 (endK (gs.take k) m) ∧ OwnG B wr (.slice (some ⟨g, 0, none⟩) gs.length capo) (markGs (gs.take k) m ++ gs.drop k) ∧ Below B w wr ∧
      (∀ b, C ≤ b → b < w.heap.size → wr.heap[b]? = w.heap[b]?) ∧ ∀ i, i < gs.length → wr.cell? ⟨g, i * 3, none⟩ = w.cell? ⟨g, i * 3, none⟩) (fun _ i _ => gs.length - (intOf i).toNat)
    case atStart => exact ⟨0, Nat.zero_le _, rfl, by simp [endK], by simpa [markGs] using HO0.out, Below.refl _ _, fun _ _ _ => rfl, fun _ _ => rfl⟩
    case round =>
      obtain ⟨k, hk, rfl, rfl, ho, hb, hfar, hsame⟩ := hrel
      obtain ⟨wk, rfl⟩ : ∃ x, x = wr := ⟨_, rfl⟩
      clear HO0
      have hlen : (markGs (gs.take k) m ++ gs.drop k).length = gs.length := by simp; omega
      by_cases hlt : k < gs.length
      · obtain ⟨g9, cap9, e9, _, _, _, _, hfz, hat⟩ := ho.opened (by rw [hlen]; omega)
        injection e9 with e9 e9b e9c
        clear e9b e9c
        injection e9 with e9
        injection e9 with e9 _
        subst e9
        have hkl : k < (markGs (gs.take k) m ++ gs.drop k).length := by rw [hlen]; exact hlt
        obtain ⟨u, z1, zu, z2, z3⟩ := hat k hkl
        rw [markGs_at hlt] at zu z2 z3
        have htn := totG_next hlt
        have hem : endK (gs.take k) m = m + totG (gs.take k) := endK_tot _ _
        have hM := markIntS_any u gs[k].code (endK (gs.take k) m) wk zu (by omega) (by omega) (by omega)
        have HT := Lib.hid (fun (w2 : World) (ys : List Int) (hg : wk.grownBy w2 u.ownBlock) (hu : OwnI B w2 u ys) => ho.turn k hkl z1 hg hu)
        have hju : ∀ j, u.ownBlock = some j → j < C ∧ B ≤ j := fun j hj => ⟨HLW.out k u j hlt (by rw [← hsame k hlt]; exact z1) hj, (World.ownsRow.lt zu j hj).1⟩
        have hug : u.ownBlock ≠ some g := by
          obtain ⟨ts, t1, _⟩ := ho
          have := own_apart zu t1 (by decide)
          rcases this with q | q
          · rw [q]; simp
          · simpa [Value.ownBlock] using q
        have HNX := Lib.hid (endK_next hlt m)
        have HMN := Lib.hid (markGs_next hlt m)
        have HAT := Lib.hid (fun (h' : k < (markGs (gs.take k) m ++ gs.drop k).length) => markGs_at hlt m h')
        obtain ⟨au, cu, hus, _⟩ := own_shape zu
        obtain ⟨e, he⟩ : ∃ e, e = endK (gs.take k) m := ⟨_, rfl⟩
        rw [← he] at hM hem HNX HMN ⊢
        obtain ⟨n, hn⟩ : ∃ n, n = gs[k].code.length := ⟨_, rfl⟩
        rw [← hn] at hM hus htn HNX HMN
        subst hus
        have HB := Lib.hid hb
        have HFR := Lib.hid hfar
        have HSM := Lib.hid hsame
        have HJU := Lib.hid hju
        have HUG := Lib.hid hug
        have HLEN := Lib.hid hlen
        have hzk := hb.size
        have hk3 : (k : Int) < (gs.length : Int) := by omega
        have hk0 : (0 : Int) ≤ (k : Int) := by omega
        have he0 : 0 ≤ e := by omega
        have he1 : e + n + 2 ≤ 1099511627776 := by omega
        clear hfz hat zu hju hug hb hfar hsame ho he hn hlen hem htn
        go_wp2_with fail
        refine hM.mono ?_
        rintro e' w2 ⟨rfl, hu2, hg2⟩
        have hT := HT.out w2 _ hg2 hu2
        have hlen2 : ((markGs (gs.take k) m ++ gs.drop k).set k ⟨markL n e, (markGs (gs.take k) m ++ gs.drop k)[k]'hkl |>.right, (markGs (gs.take k) m ++ gs.drop k)[k]'hkl |>.near⟩).length = gs.length := by rw [List.length_set, HLEN.out]
        have htl := hT.tail k (by rw [hlen2]; exact hlt) (e + n) (e + n + 1)
        have hfin : (((markGs (gs.take k) m ++ gs.drop k).set k ⟨markL n e, (markGs (gs.take k) m ++ gs.drop k)[k]'hkl |>.right, (markGs (gs.take k) m ++ gs.drop k)[k]'hkl |>.near⟩).set k ⟨(((markGs (gs.take k) m ++ gs.drop k).set k ⟨markL n e, (markGs (gs.take k) m ++ gs.drop k)[k]'hkl |>.right, (markGs (gs.take k) m ++ gs.drop k)[k]'hkl |>.near⟩)[k]'(by rw [hlen2]; exact hlt)).code, e + n, e + n + 1⟩) = markGs (gs.take (k + 1)) m ++ gs.drop (k + 1) := by
          rw [HMN.out, List.set_set]
          simp
        rw [hfin] at htl
        obtain ⟨g8, cap8, e8, _, _, _, _, hfz, hat⟩ := hT.opened (by rw [hlen2]; omega)
        injection e8 with e8 e8b e8c
        clear e8b e8c
        injection e8 with e8
        injection e8 with e8 _
        subst e8
        obtain ⟨u8, y1, _, y2, y3⟩ := hat k (by rw [hlen2]; exact hlt)
        obtain ⟨r8, hr8⟩ : ∃ r8, w2.cell? ⟨g, k * 3 + 1, none⟩ = some (.int .i64 r8) := ⟨_, y2⟩
        obtain ⟨n8, hn8⟩ : ∃ n8, w2.cell? ⟨g, k * 3 + 2, none⟩ = some (.int .i64 n8) := ⟨_, y3⟩
        have hc3 := set_seenG w2 g (k * 3 + 1) (k * 3 + 2) (.int .i64 (e + n)) _ hn8 (by omega)
        have hf1 := hfz (k * 3 + 1)
        have hf2 := set_thawedG w2 g (k * 3 + 1) (k * 3 + 2) (.int .i64 (e + n)) (hfz _)
        have hsame2 : ∀ i, i < gs.length → ((w2.setCell ⟨g, k * 3 + 1, none⟩ (.int .i64 (e + n))).setCell ⟨g, k * 3 + 2, none⟩ (.int .i64 (e + n + 1))).cell? ⟨g, i * 3, none⟩ = w.cell? ⟨g, i * 3, none⟩ := fun i hi => by
          obtain ⟨ui, x1, _⟩ := hat i (by rw [hlen2]; exact hi)
          have x2 := set_seenG w2 g (k * 3 + 1) (i * 3) (.int .i64 (e + n)) _ x1 (by omega)
          have x3 := set_seenG _ g (k * 3 + 2) (i * 3) (.int .i64 (e + n + 1)) _ x2 (by omega)
          rw [x3, ← x1, ← HSM.out i hi]
          exact World.cell?_of_block (hg2.block g (by have := World.block_lt_of_cell? wk _ z1; exact this) (fun q => HUG.out q.symm))
        have hb2 := HB.out.grown hg2 (by omega) (fun j hj => (HJU.out j hj).2)
        have hz2 := hg2.size
        have HO2 := Lib.hid htl.1
        have HB2 := Lib.hid (hb2.grown htl.2 (by omega) (fun j hj => by cases hj; exact hBg))
        have HFR2 := Lib.hid (show ∀ b, C ≤ b → b < w.heap.size → ((w2.setCell ⟨g, k * 3 + 1, none⟩ (.int .i64 (e + n))).setCell ⟨g, k * 3 + 2, none⟩ (.int .i64 (e + n + 1))).heap[b]? = w.heap[b]? from fun b q1 q2 => by
          have hbw : b < wk.heap.size := by
            have := HFR.out b q1 q2
            rw [Array.getElem?_eq_getElem q2] at this
            exact (Array.getElem?_eq_some_iff.1 this).1
          rw [htl.2.block b (by omega) (fun q => by injection q with q; omega), hg2.block b hbw (fun q => by have := (HJU.out b q.symm).1; omega)]
          exact HFR.out b q1 q2)
        have HS2 := Lib.hid hsame2
        clear hM hT htl hfin hfz hat y1 y2 y3 hu2 hg2 hsame2 hb2
        go_wp2
        go_roundw
        case rel => exact ⟨k + 1, by omega, by go_num, by rw [HNX.out]; go_num, HO2.out, HB2.out, HFR2.out, HS2.out⟩
        case measure => simp [intOf]; omega
      · have e1 : gs.take k = gs := List.take_of_length_le (by omega)
        have e2 : gs.drop k = [] := List.drop_eq_nil_of_le (by omega)
        rw [e1, e2, List.append_nil] at ho
        rw [e1]
        have HO := Lib.hid ho
        have HB := Lib.hid hb
        have HFR := Lib.hid hfar
        clear e1 e2 ho hb hfar hsame hlen
        go_wp2
        go_ret
        exact ⟨rfl, HO.out, HB.out, HFR.out⟩

/-- Marked guesses; what lies behind the world in which they were made stands. -/
def MarkedR (B : Nat) (wk : World) (v : Value) (gs : List Gs) (m : Int) (w : World) (e : Ending) (w' : World) : Prop :=
  e = .returned (.int .i64 (endK gs m)) ∧ RG B w' v (markGs gs m) ∧ Below B w w' ∧ ∀ b, wk.heap.size ≤ b → b < w.heap.size → w'.heap[b]? = w.heap[b]?

theorem markDesk_rg {B : Nat} {wk : World} (p c : Int) (v : Value) (gs : List Gs) (m : Int) (w : World) (h : RG B wk v gs) (hA : Above B wk w) (hBw : B ≤ w.heap.size) (h0 : 0 ≤ m) (h1 : m + totG gs ≤ 1099511627776) :
    Calls Try.prog 22 #[dkV p c v, .int .i64 m] w (MarkedR B wk v gs m w) := by
  obtain ⟨a, cap, cap2, rfl, h2, h3, h4, h5⟩ := h
  have hb1 : Below w.heap.size w (w.alloc (.cells #[.int .i64 p, .int .i64 c, .slice a gs.length cap2] 25)) := (Below.refl _ _).alloc (Nat.le_refl _) _
  have ho := (h4.keep hA).below hb1
  have hlow : LowG wk.heap.size (w.alloc (.cells #[.int .i64 p, .int .i64 c, .slice a gs.length cap2] 25)) (.slice a gs.length cap) gs.length := by
    by_cases hz : wk.heap.size ≤ w.heap.size
    · exact h4.low (fun b q1 q2 => (hb1.block b (by omega)).trans (hA b q1 q2))
    · intro g m cap' e hp
      obtain ⟨g1, c1, e1, _, q2, _⟩ := (h4.keep hA).opened hp
      rw [e] at e1
      injection e1 with e1 _ _
      injection e1 with e1
      injection e1 with e1 _
      subst e1
      refine ⟨by omega, fun i z j hi hz' hj => ?_⟩
      obtain ⟨g2, c2, e2, _, _, _, _, _, hat⟩ := (h4.keep hA).opened hp
      rw [e] at e2
      injection e2 with e2 _ _
      injection e2 with e2
      injection e2 with e2 _
      subst e2
      obtain ⟨u, u1, u2, _⟩ := hat i hi
      have := (Above.of_below (B := 0) hb1).cell (Nat.zero_le _) u1
      rw [hz'] at this
      obtain rfl := Option.some.inj this
      have := (World.ownsRow.lt u2 j hj).2
      omega
  have hM := markGuessS_cap a cap cap2 gs m _ ho hlow (by simp; omega) h0 h1
  have HB1 := Lib.hid hb1
  have HBW := Lib.hid hBw
  have H64 := Lib.hid (markGs_in64 gs m h0 h1)
  unfold dkV
  clear h4 h5 hb1 ho hBw hA hlow
  go_enter Try.func22, Try.ntmps22
  go_wp2_with fail
  refine hM.mono ?_
  rintro e w2 ⟨rfl, ho2, hb2, hf2⟩
  have HO2 := Lib.hid ho2
  have HB2 := Lib.hid ((HB1.out.mono HBW.out).trans hb2)
  have HF2 := Lib.hid (show ∀ b, wk.heap.size ≤ b → b < w.heap.size → w2.heap[b]? = w.heap[b]? from fun b q1 q2 => (hf2 b q1 (by simp; omega)).trans (HB1.out.block b q2))
  clear hM ho2 hb2 hf2
  go_wp2
  go_ret
  exact ⟨rfl, ⟨a, cap, cap2, by rw [markGs_length], by rw [markGs_length]; exact h2, h3, by rw [markGs_length]; exact HO2.out, H64.out⟩, HB2.out, HF2.out⟩

theorem markDeed_any {B : Nat} (b : Bool) (v : Value) (xs : List Int) (r n : Int) (m : Int) (w : World) (h : OwnI B w v xs) (hBw : B ≤ w.heap.size) (h0 : 0 ≤ m) (h1 : m ≤ 1099511627776) (h2 : xs.length ≤ 1099511627776) :
    Calls Try.prog 23 #[dV b v r n, .int .i64 m] w fun e w' => e = .returned (.int .i64 (m + (xs.length : Int))) ∧ OwnI B w' v (markL xs.length m) ∧ Below B w w' ∧ (∀ j, j < w.heap.size → v.ownBlock ≠ some j → w'.heap[j]? = w.heap[j]?) := by
  obtain ⟨a, cap, rfl, _⟩ := own_shape h
  obtain ⟨w1, hw1⟩ : ∃ w1, w1 = (w.alloc (.cells #[.bool b, .slice a xs.length cap, .int .i64 r, .int .i64 n] 30)).alloc (.cells #[.slice a xs.length cap, .int .i64 r, .int .i64 n] 28) := ⟨_, rfl⟩
  have hb1 : Below w.heap.size w w1 := by rw [hw1]; exact ((Below.refl _ _).alloc (Nat.le_refl _) _).alloc (by simp) _
  have hM := markIntS_any _ xs m w1 (owns_below h hb1) h0 h1 h2
  subst hw1
  have HB1 := Lib.hid hb1
  have HL := Lib.hid (fun j hj => World.ownsRow.lt h j hj)
  have HBW := Lib.hid hBw
  unfold dV
  clear h hb1 hBw
  go_enter Try.func23, Try.ntmps23
  go_wp2_with (first
    | (go_at_call 64; refine hM.mono ?_; rintro e w2 ⟨rfl, ho2, hg2⟩; have HO2 := Lib.hid ho2; have HG2 := Lib.hid hg2; clear hM ho2 hg2)
    | go_in)
  go_ret
  refine ⟨rfl, HO2.out, ?_, fun j hj hne => ?_⟩
  · exact ((HB1.out.mono HBW.out).grown HG2.out (by simp; have := HBW.out; omega) (fun j hj => (HL.out j hj).1))
  · have := HG2.out.block j (by simp; omega) (fun e => hne e.symm)
    rw [this]
    exact (Below.heap_alloc _ _ j (by simp; omega)).trans (Below.heap_alloc _ _ j hj)

end Go.Proofs.Ytjecolbodelniaa
