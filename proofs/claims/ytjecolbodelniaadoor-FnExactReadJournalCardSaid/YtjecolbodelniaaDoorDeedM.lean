/- Marks of lists of deeds. -/
import Derived.Test.YtjecolbodelniaaDoorDeedS
namespace Go.Proofs.YtjecolbodelniaaDoor
open Go.RowKit Go.Shelf
set_option linter.unusedVariables false
set_option maxRecDepth 100000

def markDs : List Dd → Int → List Dd
  | [], _ => []
  | d :: ds, k => ⟨k % 3 == 0, markL d.code.length (k + 1), k + 1 + d.code.length, k + 1 + d.code.length + 1⟩ :: markDs ds (k + d.code.length + 3)
def endD : List Dd → Int → Int
  | [], k => k
  | d :: ds, k => endD ds (k + d.code.length + 3)
def totD : List Dd → Nat
  | [] => 0
  | d :: ds => d.code.length + 3 + totD ds
theorem endD_tot : ∀ (ds : List Dd) (k : Int), endD ds k = k + totD ds
  | [], k => by simp [endD, totD]
  | d :: ds, k => by rw [endD, endD_tot ds]; simp only [totD]; push_cast; omega
theorem endD_app : ∀ (a b : List Dd) (k : Int), endD (a ++ b) k = endD b (endD a k)
  | [], b, k => rfl
  | d :: a, b, k => by simp only [List.cons_append, endD]; exact endD_app a b _
theorem markDs_app : ∀ (a b : List Dd) (k : Int), markDs (a ++ b) k = markDs a k ++ markDs b (endD a k)
  | [], b, k => rfl
  | d :: a, b, k => by simp only [List.cons_append, markDs, endD]; rw [markDs_app a b]
@[simp] theorem markDs_length : ∀ (ds : List Dd) (k : Int), (markDs ds k).length = ds.length
  | [], _ => rfl
  | d :: ds, k => by simp [markDs, markDs_length ds]
theorem endD_next {ds : List Dd} {k : Nat} (h : k < ds.length) (m : Int) : endD (ds.take (k + 1)) m = endD (ds.take k) m + ds[k].code.length + 3 := by
  rw [List.take_succ_eq_append_getElem h, endD_app]; rfl
theorem markDs_next {ds : List Dd} {k : Nat} (h : k < ds.length) (m : Int) : markDs (ds.take (k + 1)) m ++ ds.drop (k + 1) =
    (markDs (ds.take k) m ++ ds.drop k).set k ⟨endD (ds.take k) m % 3 == 0, markL ds[k].code.length (endD (ds.take k) m + 1), endD (ds.take k) m + 1 + ds[k].code.length, endD (ds.take k) m + 1 + ds[k].code.length + 1⟩ := by
  rw [List.take_succ_eq_append_getElem h, markDs_app, List.set_append_right _ _ (by simp; omega)]
  have e : k - (markDs (ds.take k) m).length = 0 := by simp; omega
  rw [e, List.drop_eq_getElem_cons h, List.set_cons_zero]
  simp [markDs]
theorem markDs_at {ds : List Dd} {k : Nat} (h : k < ds.length) (m : Int) (h' : k < (markDs (ds.take k) m ++ ds.drop k).length) : (markDs (ds.take k) m ++ ds.drop k)[k] = ds[k] := by
  rw [List.getElem_append_right (by simp; omega)]
  simp only [List.getElem_drop]
  congr 1
  simp; omega
theorem totD_take_le : ∀ (ds : List Dd) (k : Nat), totD (ds.take k) ≤ totD ds
  | [], k => by simp [totD]
  | d :: ds, 0 => by simp [totD]
  | d :: ds, k + 1 => by simp only [List.take_succ_cons, totD]; have := totD_take_le ds k; omega
theorem totD_next {ds : List Dd} {k : Nat} (h : k < ds.length) : totD (ds.take k) + ds[k].code.length + 3 ≤ totD ds := by
  have h1 := totD_take_le ds (k + 1)
  have h2 := endD_next h 0
  rw [endD_tot, endD_tot] at h2
  omega
theorem totD_eq : ∀ ds : List Dd, totD ds = tot (ds.map Dd.code) + 3 * ds.length
  | [] => rfl
  | d :: ds => by
    have := totD_eq ds
    simp only [totD, List.map_cons, List.length_cons, tot, List.sum_cons] at this ⊢
    omega

def MarkedD (B C : Nat) (v : Value) (ds : List Dd) (m : Int) (w : World) (e : Ending) (w' : World) : Prop :=
  e = .returned (.int .i64 (endD ds m)) ∧ OwnD B w' v (markDs ds m) ∧ Below B w w' ∧ ∀ b, C ≤ b → b < w.heap.size → w'.heap[b]? = w.heap[b]?

/-- The deeds lie in blocks below C. -/
def LowD (C : Nat) (w : World) (v : Value) (n : Nat) : Prop := ∀ g m cap, v = .slice (some ⟨g, 0, none⟩) m cap → 0 < n → g < C ∧ ∀ i z j, i < n → w.cell? ⟨g, i * 4 + 1, none⟩ = some z → z.ownBlock = some j → j < C
theorem OwnD.low {B : Nat} {w0 w : World} {v : Value} {ds : List Dd} (h : OwnD B w0 v ds) (hA : Above B w0 w) : LowD w0.heap.size w v ds.length := by
  intro g m cap hv hn
  obtain ⟨g1, c1, e1, hB, hlt, _, _, _, hat⟩ := h.opened hn
  rw [hv] at e1
  injection e1 with e1 _ _
  injection e1 with e1
  injection e1 with e1 _
  subst e1
  refine ⟨hlt, fun i z j hi hz hj => ?_⟩
  obtain ⟨u, _, q1, q2, _⟩ := hat i hi
  have := hA.cell (p := ⟨g, i * 4 + 1, none⟩) hB q1
  rw [hz] at this
  have e : z = u := Option.some.inj this
  subst e
  exact (World.ownsRow.lt q2 j hj).2

set_option maxHeartbeats 4000000 in
theorem markDeedS_any {B C : Nat} (v : Value) (ds : List Dd) (m : Int) (w : World) (h : OwnD B w v ds) (hlow : LowD C w v ds.length) (hBw : B ≤ w.heap.size) (h0 : 0 ≤ m) (h1 : m + totD ds ≤ 1099511627776) :
    Calls Tryd.prog 16 #[v, .int .i64 m] w (MarkedD B C v ds m w) := by
  by_cases hz : ds = []
  · subst hz
    have HO := Lib.hid h
    obtain ⟨a, cap, rfl, _⟩ := h.shape
    clear h hlow
    go_enter Tryd.func16, Tryd.ntmps16
    go_wp2
    refine wp_loop_rounds 1 ?_; rw [rounds_succ]
    go_wp2
    go_ret
    exact ⟨rfl, HO.out, Below.refl _ _, fun _ _ _ => rfl⟩
  · have hp : 0 < ds.length := List.length_pos_iff.2 hz
    obtain ⟨g, cap, rfl, hBg, hgs, hcap, hmax, _, hat0⟩ := h.opened hp
    obtain ⟨hgC, hlw⟩ := hlow g _ cap rfl hp
    have HLW := Lib.hid hlw
    have HO0 := Lib.hid h
    clear hlow hlw hat0 hz h
    go_enter Tryd.func16, Tryd.ntmps16
    go_wp2
    go_loopw [1, 5] (fun s i wr => ∃ k : Nat, k ≤ ds.length ∧ i = .int .i64 k ∧ s = .int .i64 (endD (ds.take k) m) ∧ OwnD B wr (.slice (some ⟨g, 0, none⟩) ds.length cap) (markDs (ds.take k) m ++ ds.drop k) ∧ Below B w wr ∧
      (∀ b, C ≤ b → b < w.heap.size → wr.heap[b]? = w.heap[b]?) ∧ ∀ i, i < ds.length → wr.cell? ⟨g, i * 4 + 1, none⟩ = w.cell? ⟨g, i * 4 + 1, none⟩) (fun _ i _ => ds.length - (intOf i).toNat)
    case atStart => exact ⟨0, Nat.zero_le _, rfl, by simp [endD], by simpa [markDs] using HO0.out, Below.refl _ _, fun _ _ _ => rfl, fun _ _ => rfl⟩
    case round =>
      obtain ⟨k, hk, rfl, rfl, ho, hb, hfar, hsame⟩ := hrel
      obtain ⟨wk, rfl⟩ : ∃ x, x = wr := ⟨_, rfl⟩
      clear HO0
      have hlen : (markDs (ds.take k) m ++ ds.drop k).length = ds.length := by simp; omega
      by_cases hlt : k < ds.length
      · have htn := totD_next hlt
        have hem : endD (ds.take k) m = m + totD (ds.take k) := endD_tot _ _
        have HNX := Lib.hid (endD_next hlt m)
        have hMN := markDs_next hlt m
        obtain ⟨D0, hD0⟩ : ∃ D, D = markDs (ds.take k) m ++ ds.drop k := ⟨_, rfl⟩
        have hlen : D0.length = ds.length := by rw [hD0]; exact hlen
        have hkl : k < D0.length := by omega
        have hek : D0[k] = ds[k] := by subst hD0; exact markDs_at hlt m _
        rw [← hD0] at ho hMN
        have HMN := Lib.hid hMN
        clear hD0 hMN
        obtain ⟨e, he⟩ : ∃ e, e = endD (ds.take k) m := ⟨_, rfl⟩
        rw [← he] at hem HNX HMN ⊢
        obtain ⟨x, hx⟩ : ∃ x, x = ds[k] := ⟨_, rfl⟩
        rw [← hx] at hek htn HNX HMN
        clear hx he
        -- the first store
        obtain ⟨g9, cap9, e9, _, _, _, _, hfz0, hat0⟩ := ho.opened (by rw [hlen]; omega)
        injection e9 with e9 e9b e9c
        clear e9b e9c
        injection e9 with e9
        injection e9 with e9 _
        subst e9
        obtain ⟨u0, y0, y1, _, y2, y3⟩ := hat0 k hkl
        have hF0 := ho.field k hkl 0 (.bool (e % 3 == 0)) (e % 3 == 0) D0[k].right D0[k].near (.inl ⟨rfl, rfl, rfl, rfl⟩)
        rw [hek, Nat.add_zero] at hF0
        obtain ⟨W1, hW1⟩ : ∃ W, W = wk.setCell ⟨g, k * 4, none⟩ (.bool (e % 3 == 0)) := ⟨_, rfl⟩
        rw [← hW1] at hF0
        obtain ⟨D1, hD1⟩ : ∃ D, D = D0.set k ⟨e % 3 == 0, x.code, x.right, x.near⟩ := ⟨_, rfl⟩
        have hl1 : D1.length = ds.length := by rw [hD1, List.length_set, hlen]
        have hk1 : k < D1.length := by omega
        have he1 : D1[k] = ⟨e % 3 == 0, x.code, x.right, x.near⟩ := by simp [hD1]
        rw [← hD1] at hF0
        obtain ⟨g8, cap8, e8, _, _, _, _, hfz1, hat1⟩ := hF0.1.opened (by rw [hl1]; omega)
        injection e8 with e8 e8b e8c
        clear e8b e8c
        injection e8 with e8
        injection e8 with e8 _
        subst e8
        obtain ⟨u, z0, z1, zu, z2, z3⟩ := hat1 k hk1
        rw [he1] at zu z2 z3
        simp only at zu z2 z3
        have hz1k : W1.heap.size = wk.heap.size := by rw [hW1]; simp
        have hzk := hb.size
        have hM := markIntS_any u x.code (e + 1) W1 zu (by omega) (by omega) (by omega)
        have HT := Lib.hid (fun (w2 : World) (ys : List Int) (hg : W1.grownBy w2 u.ownBlock) (hu : OwnI B w2 u ys) => hF0.1.turn k hk1 z1 hg hu)
        rw [he1] at HT
        have hsame1 : ∀ i, i < ds.length → W1.cell? ⟨g, i * 4 + 1, none⟩ = w.cell? ⟨g, i * 4 + 1, none⟩ := fun i hi => by
          rw [← hsame i hi, hW1]
          obtain ⟨ui, _, x1, _⟩ := hat0 i (by rw [hlen]; exact hi)
          rw [x1]
          exact set_seenG wk g (k * 4) (i * 4 + 1) _ _ x1 (by omega)
        have hju : ∀ j, u.ownBlock = some j → j < C ∧ B ≤ j := fun j hj => ⟨HLW.out k u j hlt (by rw [← hsame1 k hlt]; exact z1) hj, (World.ownsRow.lt zu j hj).1⟩
        have hug : u.ownBlock ≠ some g := by
          obtain ⟨ts, t1, _⟩ := hF0.1
          have := own_apart zu t1 (by decide)
          rcases this with q | q
          · rw [q]; simp
          · simpa [Value.ownBlock] using q
        obtain ⟨au, cu, hus, _⟩ := own_shape zu
        obtain ⟨n, hn⟩ : ∃ n, n = x.code.length := ⟨_, rfl⟩
        rw [← hn] at hM hus htn HNX HMN
        subst hus
        have HB := Lib.hid (hb.grown hF0.2 (by omega) (fun j hj => by cases hj; exact hBg))
        have HFR := Lib.hid (show ∀ b, C ≤ b → b < w.heap.size → W1.heap[b]? = w.heap[b]? from fun b q1 q2 => by
          have hbw : b < wk.heap.size := by
            have := hfar b q1 q2
            rw [Array.getElem?_eq_getElem q2] at this
            exact (Array.getElem?_eq_some_iff.1 this).1
          rw [hF0.2.block b hbw (fun q => by injection q with q; omega)]
          exact hfar b q1 q2)
        have HSM := Lib.hid hsame1
        have HJU := Lib.hid hju
        have HUG := Lib.hid hug
        have HDD := Lib.hid hD1
        have HLL := Lib.hid (And.intro hl1 hz1k)
        have hk3 : (k : Int) < (ds.length : Int) := by omega
        have hk0 : (0 : Int) ≤ (k : Int) := by omega
        have he0 : 0 ≤ e := by omega
        have hee : e + n + 3 ≤ 1099511627776 := by omega
        have hf0 := hfz0 (k * 4)
        have s1 : (wk.setCell ⟨g, k * 4, none⟩ (.bool (e % 3 == 0))).cell? ⟨g, k * 4 + 1, none⟩ = some (.slice au n cu) := by rw [← hW1]; exact z1
        have HZ1 := Lib.hid z1
        clear hfz0 hat0 hfz1 hat1 zu z0 z2 z3 hju hug hb hfar hsame hsame1 ho hF0 hD1 he1 hl1 hlen hem htn hek hn y1 y2 y3
        go_wp2_with fail
        rw [← hW1]
        clear hW1
        refine hM.mono ?_
        rintro e' w2 ⟨rfl, hu2, hg2⟩
        have hT := HT.out w2 _ hg2 hu2
        obtain ⟨D2, hD2⟩ : ∃ D, D = D1.set k ⟨e % 3 == 0, markL n (e + 1), x.right, x.near⟩ := ⟨_, rfl⟩
        simp only [← hD2] at hT
        have hl2 : D2.length = ds.length := by rw [hD2, List.length_set, HLL.out.1]
        have hk2 : k < D2.length := by omega
        have he2 : D2[k] = ⟨e % 3 == 0, markL n (e + 1), x.right, x.near⟩ := by simp [hD2]
        have f2 := hT.field k hk2 2 (.int .i64 (e + 1 + n)) D2[k].back (e + 1 + n) D2[k].near (.inr (.inl ⟨rfl, rfl, rfl, rfl⟩))
        rw [he2] at f2
        simp only at f2
        obtain ⟨D3, hD3⟩ : ∃ D, D = D2.set k ⟨e % 3 == 0, markL n (e + 1), e + 1 + n, x.near⟩ := ⟨_, rfl⟩
        rw [← hD3] at f2
        have hl3 : D3.length = ds.length := by rw [hD3, List.length_set, hl2]
        have hkk3 : k < D3.length := by omega
        have he3 : D3[k] = ⟨e % 3 == 0, markL n (e + 1), e + 1 + n, x.near⟩ := by simp [hD3]
        have f3 := f2.1.field k hkk3 3 (.int .i64 (e + 1 + n + 1)) D3[k].back D3[k].right (e + 1 + n + 1) (.inr (.inr ⟨rfl, rfl, rfl, rfl⟩))
        rw [he3] at f3
        simp only at f3
        have hfin : D3.set k ⟨e % 3 == 0, markL n (e + 1), e + 1 + n, e + 1 + n + 1⟩ = markDs (ds.take (k + 1)) m ++ ds.drop (k + 1) := by
          rw [HMN.out, hD3, hD2, HDD.out, List.set_set, List.set_set, List.set_set]
        rw [hfin] at f3
        obtain ⟨g7, cap7, e7, _, _, _, _, hfz, hat⟩ := hT.opened (by rw [hl2]; omega)
        injection e7 with e7 e7b e7c
        clear e7b e7c
        injection e7 with e7
        injection e7 with e7 _
        subst e7
        obtain ⟨u8, x0, x1, x9, x2, x3⟩ := hat k (by rw [hl2]; exact hlt)
        obtain ⟨r8, hr8⟩ : ∃ r8, w2.cell? ⟨g, k * 4 + 2, none⟩ = some (.int .i64 r8) := ⟨_, x2⟩
        obtain ⟨n8, hn8⟩ : ∃ n8, w2.cell? ⟨g, k * 4 + 3, none⟩ = some (.int .i64 n8) := ⟨_, x3⟩
        have hc3 := set_seenG w2 g (k * 4 + 2) (k * 4 + 3) (.int .i64 (e + 1 + n)) _ hn8 (by omega)
        have hf1 := hfz (k * 4 + 2)
        have hf2 := set_thawedG w2 g (k * 4 + 2) (k * 4 + 3) (.int .i64 (e + 1 + n)) (hfz _)
        have hz2 := hg2.size
        have hsame2 : ∀ i, i < ds.length → ((w2.setCell ⟨g, k * 4 + 2, none⟩ (.int .i64 (e + 1 + n))).setCell ⟨g, k * 4 + 3, none⟩ (.int .i64 (e + 1 + n + 1))).cell? ⟨g, i * 4 + 1, none⟩ = w.cell? ⟨g, i * 4 + 1, none⟩ := fun i hi => by
          obtain ⟨ui, _, q1, _⟩ := hat i (by rw [hl2]; exact hi)
          have q2 := set_seenG w2 g (k * 4 + 2) (i * 4 + 1) (.int .i64 (e + 1 + n)) _ q1 (by omega)
          have q3 := set_seenG _ g (k * 4 + 3) (i * 4 + 1) (.int .i64 (e + 1 + n + 1)) _ q2 (by omega)
          rw [q3, ← q1, ← HSM.out i hi]
          exact World.cell?_of_block (hg2.block g (by have := World.block_lt_of_cell? W1 _ HZ1.out; exact this) (fun q => HUG.out q.symm))
        have hb2 := HB.out.grown hg2 (by have := HLL.out.2; omega) (fun j hj => (HJU.out j hj).2)
        have hz12 := HLL.out.2
        have hb3 := hb2.grown f2.2 (by omega) (fun j hj => by cases hj; exact hBg)
        have HO2 := Lib.hid f3.1
        have HB2 := Lib.hid (hb3.grown f3.2 (by have := f2.2.size; omega) (fun j hj => by cases hj; exact hBg))
        have HFR2 := Lib.hid (show ∀ b, C ≤ b → b < w.heap.size → ((w2.setCell ⟨g, k * 4 + 2, none⟩ (.int .i64 (e + 1 + n))).setCell ⟨g, k * 4 + 3, none⟩ (.int .i64 (e + 1 + n + 1))).heap[b]? = w.heap[b]? from fun b q1 q2 => by
          have hbw : b < W1.heap.size := by
            have := HFR.out b q1 q2
            rw [Array.getElem?_eq_getElem q2] at this
            exact (Array.getElem?_eq_some_iff.1 this).1
          rw [f3.2.block b (by have := f2.2.size; omega) (fun q => by injection q with q; omega), f2.2.block b (by omega) (fun q => by injection q with q; omega), hg2.block b hbw (fun q => by have := (HJU.out b q.symm).1; omega)]
          exact HFR.out b q1 q2)
        have HS2 := Lib.hid hsame2
        clear hM hT f2 f3 hfin hfz hat x0 x1 x2 x3 x9 hu2 hg2 hsame2 hb2 hb3 hD2 hD3 he2 he3 hl2 hl3
        go_wp2
        go_roundw
        case rel => exact ⟨k + 1, by omega, by go_num, by rw [HNX.out]; go_num, HO2.out, HB2.out, HFR2.out, HS2.out⟩
        case measure => simp [intOf]; omega
      · have e1 : ds.take k = ds := List.take_of_length_le (by omega)
        have e2 : ds.drop k = [] := List.drop_eq_nil_of_le (by omega)
        rw [e1, e2, List.append_nil] at ho
        rw [e1]
        have HO := Lib.hid ho
        have HB := Lib.hid hb
        have HFR := Lib.hid hfar
        clear e1 e2 ho hb hfar hsame hlen
        go_wp2
        go_ret
        exact ⟨rfl, HO.out, HB.out, HFR.out⟩

end Go.Proofs.YtjecolbodelniaaDoor
