/- Marks of lists of guesses; their sizes and comparisons. -/
import Derived.Test.YtkjdlpbfalojdaaGsLaw
import Derived.Test.YtkjdlpbfalojdaaFitI
namespace Go.Proofs.Ytkjdlpbfalojdaa
open Go.RowKit
set_option linter.unusedVariables false
set_option maxRecDepth 100000

def markGs : List Gs → Int → List Gs
  | [], _ => []
  | g :: gs, k => ⟨markL g.code.length k, k + g.code.length, k + g.code.length + 1⟩ :: markGs gs (k + g.code.length + 2)
def endK : List Gs → Int → Int
  | [], k => k
  | g :: gs, k => endK gs (k + g.code.length + 2)
def totG : List Gs → Nat
  | [] => 0
  | g :: gs => g.code.length + 2 + totG gs
theorem endK_tot : ∀ (gs : List Gs) (k : Int), endK gs k = k + totG gs
  | [], k => by simp [endK, totG]
  | g :: gs, k => by rw [endK, endK_tot gs]; simp only [totG]; push_cast; omega
theorem endK_app : ∀ (a b : List Gs) (k : Int), endK (a ++ b) k = endK b (endK a k)
  | [], b, k => rfl
  | g :: a, b, k => by simp only [List.cons_append, endK]; exact endK_app a b _
theorem markGs_app : ∀ (a b : List Gs) (k : Int), markGs (a ++ b) k = markGs a k ++ markGs b (endK a k)
  | [], b, k => rfl
  | g :: a, b, k => by simp only [List.cons_append, markGs, endK]; rw [markGs_app a b]
@[simp] theorem markGs_length : ∀ (gs : List Gs) (k : Int), (markGs gs k).length = gs.length
  | [], _ => rfl
  | g :: gs, k => by simp [markGs, markGs_length gs]
theorem endK_next {gs : List Gs} {k : Nat} (h : k < gs.length) (m : Int) : endK (gs.take (k + 1)) m = endK (gs.take k) m + gs[k].code.length + 2 := by
  rw [List.take_succ_eq_append_getElem h, endK_app]; rfl
theorem markGs_next {gs : List Gs} {k : Nat} (h : k < gs.length) (m : Int) : markGs (gs.take (k + 1)) m ++ gs.drop (k + 1) =
    (markGs (gs.take k) m ++ gs.drop k).set k ⟨markL gs[k].code.length (endK (gs.take k) m), endK (gs.take k) m + gs[k].code.length, endK (gs.take k) m + gs[k].code.length + 1⟩ := by
  rw [List.take_succ_eq_append_getElem h, markGs_app, List.set_append_right _ _ (by simp; omega)]
  have e : k - (markGs (gs.take k) m).length = 0 := by simp; omega
  rw [e, List.drop_eq_getElem_cons h, List.set_cons_zero]
  simp [markGs]
theorem markGs_at {gs : List Gs} {k : Nat} (h : k < gs.length) (m : Int) (h' : k < (markGs (gs.take k) m ++ gs.drop k).length) : (markGs (gs.take k) m ++ gs.drop k)[k] = gs[k] := by
  rw [List.getElem_append_right (by simp; omega)]
  simp only [List.getElem_drop]
  congr 1
  simp; omega
theorem totG_take_le : ∀ (gs : List Gs) (k : Nat), totG (gs.take k) ≤ totG gs
  | [], k => by simp [totG]
  | g :: gs, 0 => by simp [totG]
  | g :: gs, k + 1 => by simp only [List.take_succ_cons, totG]; have := totG_take_le gs k; omega
theorem totG_next {gs : List Gs} {k : Nat} (h : k < gs.length) : totG (gs.take k) + gs[k].code.length + 2 ≤ totG gs := by
  have h1 := totG_take_le gs (k + 1)
  have h2 := endK_next h 0
  rw [endK_tot, endK_tot] at h2
  omega

def MarkedG (B C : Nat) (v : Value) (gs : List Gs) (m : Int) (w : World) (e : Ending) (w' : World) : Prop :=
  e = .returned (.int .i64 (endK gs m)) ∧ OwnG B w' v (markGs gs m) ∧ Below B w w' ∧ ∀ b, C ≤ b → b < w.heap.size → w'.heap[b]? = w.heap[b]?

/-- The guesses lie in blocks below C. -/
def LowG (C : Nat) (w : World) (v : Value) (n : Nat) : Prop := ∀ g m cap, v = .slice (some ⟨g, 0, none⟩) m cap → 0 < n → g < C ∧ ∀ i z j, i < n → w.cell? ⟨g, i * 3, none⟩ = some z → z.ownBlock = some j → j < C
theorem OwnG.low {B : Nat} {w0 w : World} {v : Value} {gs : List Gs} (h : OwnG B w0 v gs) (hA : Above B w0 w) : LowG w0.heap.size w v gs.length := by
  intro g m cap hv hn
  have h' := h.keep hA
  obtain ⟨g1, c1, e1, hB, hlt, _, _, _, hat⟩ := h.opened hn
  obtain ⟨g2, c2, e2, _, _, _, _, _, hat2⟩ := h'.opened hn
  rw [hv] at e1 e2
  injection e1 with e1 _ _
  injection e1 with e1
  injection e1 with e1 _
  subst e1
  injection e2 with e2 _ _
  injection e2 with e2
  injection e2 with e2 _
  subst e2
  refine ⟨hlt, fun i z j hi hz hj => ?_⟩
  obtain ⟨u, q1, q2, _⟩ := hat i hi
  have := hA.cell (p := ⟨g, i * 3, none⟩) hB q1
  rw [hz] at this
  have e : z = u := Option.some.inj this
  subst e
  exact (World.ownsRow.lt q2 j hj).2

set_option maxHeartbeats 4000000 in
theorem markGuessS_any {B C : Nat} (v : Value) (gs : List Gs) (m : Int) (w : World) (h : OwnG B w v gs) (hlow : LowG C w v gs.length) (hBw : B ≤ w.heap.size) (h0 : 0 ≤ m) (h1 : m + totG gs ≤ 1099511627776) :
    Calls Try.prog 44 #[v, .int .i64 m] w (MarkedG B C v gs m w) := by
  by_cases hz : gs = []
  · subst hz
    have HO := Lib.hid h
    obtain ⟨a, cap, rfl, _⟩ := h.shape
    clear h hlow
    go_enter Try.func44, Try.ntmps44
    go_wp2
    refine wp_loop_rounds 1 ?_; rw [rounds_succ]
    go_wp2
    go_ret
    exact ⟨rfl, HO.out, Below.refl _ _, fun _ _ _ => rfl⟩
  · have hp : 0 < gs.length := List.length_pos_iff.2 hz
    obtain ⟨g, cap, rfl, hBg, hgs, hcap, hmax, _, hat0⟩ := h.opened hp
    obtain ⟨hgC, hlw⟩ := hlow g _ cap rfl hp
    have HLW := Lib.hid hlw
    have HO0 := Lib.hid h
    clear hlow hlw hat0 hz h
    go_enter Try.func44, Try.ntmps44
    go_wp2
    go_loopw [1, 5] (fun s i wr => ∃ k : Nat, k ≤ gs.length ∧ i = .int .i64 k ∧ s = .int .i64 (endK (gs.take k) m) ∧ OwnG B wr (.slice (some ⟨g, 0, none⟩) gs.length cap) (markGs (gs.take k) m ++ gs.drop k) ∧ Below B w wr ∧
      (∀ b, C ≤ b → b < w.heap.size → wr.heap[b]? = w.heap[b]?) ∧ ∀ i, i < gs.length → wr.cell? ⟨g, i * 3, none⟩ = w.cell? ⟨g, i * 3, none⟩) (fun _ i _ => gs.length - (intOf i).toNat)
    case atStart => exact ⟨0, Nat.zero_le _, rfl, by simp [endK], by simpa [markGs] using HO0.out, Below.refl _ _, fun _ _ _ => rfl, fun _ _ => rfl⟩
    case round =>
      obtain ⟨k, hk, rfl, rfl, ho, hb, hfar, hsame⟩ := hrel
      obtain ⟨wk, rfl⟩ : ∃ x, x = wr := ⟨_, rfl⟩
      clear HO0
      have hlen : (markGs (gs.take k) m ++ gs.drop k).length = gs.length := by simp; omega
      by_cases hlt : k < gs.length
      · obtain ⟨g9, cap9, e9, _, _, _, _, hfz, hat⟩ := ho.opened (by rw [hlen]; omega)
        injection e9 with e9 e9b e9c
        clear e9b e9c
        injection e9 with e9
        injection e9 with e9 _
        subst e9
        have hkl : k < (markGs (gs.take k) m ++ gs.drop k).length := by rw [hlen]; exact hlt
        obtain ⟨u, z1, zu, z2, z3⟩ := hat k hkl
        rw [markGs_at hlt] at zu z2 z3
        have htn := totG_next hlt
        have hem : endK (gs.take k) m = m + totG (gs.take k) := endK_tot _ _
        have hM := markIntS_any u gs[k].code (endK (gs.take k) m) wk zu (by omega) (by omega) (by omega)
        have HT := Lib.hid (fun (w2 : World) (ys : List Int) (hg : wk.grownBy w2 u.ownBlock) (hu : OwnI B w2 u ys) => ho.turn k hkl z1 hg hu)
        have hju : ∀ j, u.ownBlock = some j → j < C ∧ B ≤ j := fun j hj => ⟨HLW.out k u j hlt (by rw [← hsame k hlt]; exact z1) hj, (World.ownsRow.lt zu j hj).1⟩
        have hug : u.ownBlock ≠ some g := by
          obtain ⟨ts, t1, _⟩ := ho
          have := own_apart zu t1 (by decide)
          rcases this with q | q
          · rw [q]; simp
          · simpa [Value.ownBlock] using q
        have HNX := Lib.hid (endK_next hlt m)
        have HMN := Lib.hid (markGs_next hlt m)
        have HAT := Lib.hid (fun (h' : k < (markGs (gs.take k) m ++ gs.drop k).length) => markGs_at hlt m h')
        obtain ⟨au, cu, hus, _⟩ := own_shape zu
        obtain ⟨e, he⟩ : ∃ e, e = endK (gs.take k) m := ⟨_, rfl⟩
        rw [← he] at hM hem HNX HMN ⊢
        obtain ⟨n, hn⟩ : ∃ n, n = gs[k].code.length := ⟨_, rfl⟩
        rw [← hn] at hM hus htn HNX HMN
        subst hus
        have HB := Lib.hid hb
        have HFR := Lib.hid hfar
        have HSM := Lib.hid hsame
        have HJU := Lib.hid hju
        have HUG := Lib.hid hug
        have HLEN := Lib.hid hlen
        have hzk := hb.size
        have hk3 : (k : Int) < (gs.length : Int) := by omega
        have hk0 : (0 : Int) ≤ (k : Int) := by omega
        have he0 : 0 ≤ e := by omega
        have he1 : e + n + 2 ≤ 1099511627776 := by omega
        clear hfz hat zu hju hug hb hfar hsame ho he hn hlen hem htn
        go_wp2_with fail
        refine hM.mono ?_
        rintro e' w2 ⟨rfl, hu2, hg2⟩
        have hT := HT.out w2 _ hg2 hu2
        have hlen2 : ((markGs (gs.take k) m ++ gs.drop k).set k ⟨markL n e, (markGs (gs.take k) m ++ gs.drop k)[k]'hkl |>.right, (markGs (gs.take k) m ++ gs.drop k)[k]'hkl |>.near⟩).length = gs.length := by rw [List.length_set, HLEN.out]
        have htl := hT.tail k (by rw [hlen2]; exact hlt) (e + n) (e + n + 1)
        have hfin : (((markGs (gs.take k) m ++ gs.drop k).set k ⟨markL n e, (markGs (gs.take k) m ++ gs.drop k)[k]'hkl |>.right, (markGs (gs.take k) m ++ gs.drop k)[k]'hkl |>.near⟩).set k ⟨(((markGs (gs.take k) m ++ gs.drop k).set k ⟨markL n e, (markGs (gs.take k) m ++ gs.drop k)[k]'hkl |>.right, (markGs (gs.take k) m ++ gs.drop k)[k]'hkl |>.near⟩)[k]'(by rw [hlen2]; exact hlt)).code, e + n, e + n + 1⟩) = markGs (gs.take (k + 1)) m ++ gs.drop (k + 1) := by
          rw [HMN.out, List.set_set]
          simp
        rw [hfin] at htl
        obtain ⟨g8, cap8, e8, _, _, _, _, hfz, hat⟩ := hT.opened (by rw [hlen2]; omega)
        injection e8 with e8 e8b e8c
        clear e8b e8c
        injection e8 with e8
        injection e8 with e8 _
        subst e8
        obtain ⟨u8, y1, _, y2, y3⟩ := hat k (by rw [hlen2]; exact hlt)
        obtain ⟨r8, hr8⟩ : ∃ r8, w2.cell? ⟨g, k * 3 + 1, none⟩ = some (.int .i64 r8) := ⟨_, y2⟩
        obtain ⟨n8, hn8⟩ : ∃ n8, w2.cell? ⟨g, k * 3 + 2, none⟩ = some (.int .i64 n8) := ⟨_, y3⟩
        have hc3 := set_seenG w2 g (k * 3 + 1) (k * 3 + 2) (.int .i64 (e + n)) _ hn8 (by omega)
        have hf1 := hfz (k * 3 + 1)
        have hf2 := set_thawedG w2 g (k * 3 + 1) (k * 3 + 2) (.int .i64 (e + n)) (hfz _)
        have hsame2 : ∀ i, i < gs.length → ((w2.setCell ⟨g, k * 3 + 1, none⟩ (.int .i64 (e + n))).setCell ⟨g, k * 3 + 2, none⟩ (.int .i64 (e + n + 1))).cell? ⟨g, i * 3, none⟩ = w.cell? ⟨g, i * 3, none⟩ := fun i hi => by
          obtain ⟨ui, x1, _⟩ := hat i (by rw [hlen2]; exact hi)
          have x2 := set_seenG w2 g (k * 3 + 1) (i * 3) (.int .i64 (e + n)) _ x1 (by omega)
          have x3 := set_seenG _ g (k * 3 + 2) (i * 3) (.int .i64 (e + n + 1)) _ x2 (by omega)
          rw [x3, ← x1, ← HSM.out i hi]
          exact World.cell?_of_block (hg2.block g (by have := World.block_lt_of_cell? wk _ z1; exact this) (fun q => HUG.out q.symm))
        have hb2 := HB.out.grown hg2 (by omega) (fun j hj => (HJU.out j hj).2)
        have hz2 := hg2.size
        have HO2 := Lib.hid htl.1
        have HB2 := Lib.hid (hb2.grown htl.2 (by omega) (fun j hj => by cases hj; exact hBg))
        have HFR2 := Lib.hid (show ∀ b, C ≤ b → b < w.heap.size → ((w2.setCell ⟨g, k * 3 + 1, none⟩ (.int .i64 (e + n))).setCell ⟨g, k * 3 + 2, none⟩ (.int .i64 (e + n + 1))).heap[b]? = w.heap[b]? from fun b q1 q2 => by
          have hbw : b < wk.heap.size := by
            have := HFR.out b q1 q2
            rw [Array.getElem?_eq_getElem q2] at this
            exact (Array.getElem?_eq_some_iff.1 this).1
          rw [htl.2.block b (by omega) (fun q => by injection q with q; omega), hg2.block b hbw (fun q => by have := (HJU.out b q.symm).1; omega)]
          exact HFR.out b q1 q2)
        have HS2 := Lib.hid hsame2
        clear hM hT htl hfin hfz hat y1 y2 y3 hu2 hg2 hsame2 hb2
        go_wp2
        go_roundw
        case rel => exact ⟨k + 1, by omega, by go_num, by rw [HNX.out]; go_num, HO2.out, HB2.out, HFR2.out, HS2.out⟩
        case measure => simp [intOf]; omega
      · have e1 : gs.take k = gs := List.take_of_length_le (by omega)
        have e2 : gs.drop k = [] := List.drop_eq_nil_of_le (by omega)
        rw [e1, e2, List.append_nil] at ho
        rw [e1]
        have HO := Lib.hid ho
        have HB := Lib.hid hb
        have HFR := Lib.hid hfar
        clear e1 e2 ho hb hfar hsame hlen
        go_wp2
        go_ret
        exact ⟨rfl, HO.out, HB.out, HFR.out⟩

end Go.Proofs.Ytkjdlpbfalojdaa
