/- Slices of slices of ints: copied, compared, marked, measured. -/
import Derived.Test.YtpeogghiboaceaaLeaf
namespace Go.Proofs.Ytpeogghiboaceaa
open Go.RowKit
set_option linter.unusedVariables false

theorem eqIntSS_any {B C : Nat} (a b : Value) (xss yss : List (List Int)) (w : World) (ha : Rows2 B w a xss) (hb : Rows2 C w b yss) :
    Calls Try.prog 20 #[a, b] w (Quiet (.bool (decide (xss = yss))) w) := by
  obtain ⟨a, cap, rfl, hcap, hmax, V, hcells, hV⟩ := ha.opened
  obtain ⟨b, cap', rfl, hcap', hmax', V', hcells', hV'⟩ := hb.opened
  clear ha hb
  by_cases hl : xss.length = yss.length
  · have hl1 : ((xss.length : Int) != (yss.length : Int)) = false := by rw [bne_eq_false_iff_eq]; omega
    have hl2 : xss.length ≤ yss.length := by omega
    have hl3 : yss.length ≤ xss.length := by omega
    clear hl
    go_enter Try.func20, Try.ntmps20
    go_wp2
    go_loopw [5] (fun i wr => ∃ k : Nat, k ≤ xss.length ∧ i = .int .i64 k ∧ xss.take k = yss.take k ∧ Drawn w wr) (fun i _ => xss.length - (intOf i).toNat)
    case atStart => exact ⟨0, Nat.zero_le _, rfl, rfl, Drawn.refl _⟩
    case round =>
      obtain ⟨k, hk, rfl, ht, hD⟩ := hrel
      have HT := Lib.hid ht
      clear ht
      by_cases hlt : k < xss.length
      · obtain ⟨b1, o1, rfl, _, hc⟩ := hcells (by omega)
        obtain ⟨b2, o2, rfl, _, hc'⟩ := hcells' (by omega)
        have hck := hD.cell (hc k hlt)
        have hck' := hD.cell (hc' k (by omega))
        have hlt' : k < yss.length := by omega
        have hi0 : (0 : Int) ≤ (k : Int) := by omega
        have hi1 : (k : Int) < (xss.length : Int) := by omega
        have hi2 : (k : Int) < (yss.length : Int) := by omega
        have hE := fun n => eqIntS_any (V k) (V' k) xss[k] yss[k] (wr.drewN n) ((hV k hlt).below (hD.more n).below) ((hV' k hlt').below (hD.more n).below)
        clear hc hcells hc' hcells' hV hV'
        by_cases he : xss[k] = yss[k]
        · have HE := Lib.hid he
          rw [decide_eq_true he] at hE
          clear he
          go_wp2
          go_quiet ((go_at_call 19; exact Calls.quiet_of (hE _)))
          go_wp2
          go_roundw
          case rel => exact ⟨k + 1, by omega, by go_num, take_eq_succ hlt hlt' HT.out HE.out, hD.more _⟩
          case measure => simp [intOf]; omega
        · have HE := Lib.hid (ne_of_get hlt hlt' he)
          rw [decide_eq_false he] at hE
          clear he
          go_wp2
          go_quiet ((go_at_call 19; exact Calls.quiet_of (hE _)))
          go_wp2
          go_ret
          exact ⟨ret_bool (by simp [HE.out]), hD.more _⟩
      · go_wp2
        go_ret
        have e : xss = yss := by
          have := HT.out
          rwa [List.take_of_length_le (by omega), List.take_of_length_le (by omega)] at this
        exact ⟨ret_bool (by simp [e]), hD⟩
  · have hl1 : ((xss.length : Int) != (yss.length : Int)) = true := by simp; omega
    have HE := Lib.hid (show ¬ xss = yss from fun e => hl (by rw [e]))
    clear hl
    go_enter Try.func20, Try.ntmps20
    go_wp2
    go_ret
    exact ⟨ret_bool (by simp [HE.out]), 0, rfl⟩

/-- The call returns a slice of slices of ints of its own. -/
def FreshII (xss : List (List Int)) (w : World) (e : Ending) (w' : World) : Prop := ∃ a cap, e = .returned (.slice a xss.length cap) ∧ OwnII w.heap.size w' (.slice a xss.length cap) xss ∧ Below w.heap.size w w'

theorem copy_step2 {α : Type} {xs : List α} {z : α} {k n : Nat} (h : k < xs.length) (hn : n = xs.length) : (xs.take k ++ List.replicate (n - k) z).set k xs[k] = xs.take (k + 1) ++ List.replicate (n - (k + 1)) z := by
  subst hn
  rw [List.take_succ_eq_append_getElem h, List.set_append_right _ _ (by rw [List.length_take]; omega)]
  have e : k - (xs.take k).length = 0 := by rw [List.length_take]; omega
  rw [e, show xs.length - k = (xs.length - (k + 1)) + 1 from by omega, List.replicate_succ, List.set_cons_zero, List.append_assoc]
  rfl

theorem toIntSS_any {B : Nat} (v : Value) (xss : List (List Int)) (w : World) (h : Rows2 B w v xss) (h2 : xss.length ≤ 1099511627776) (h3 : ∀ xs ∈ xss, xs.length ≤ 1099511627776) :
    Calls Try.prog 17 #[v] w (FreshII xss w) := by
  obtain ⟨a, cap, rfl, hcap, hmax, V, hcells, hV⟩ := h.opened
  clear h
  go_enter Try.func17, Try.ntmps17
  go_wp2_with (at_make; refine wpList_make_rows _ rfl _ _ rfl _ _ xss.length rfl rfl rfl rfl h2 ?_; intro w1 hown hb1 hs1)
  go_loopw [4] (fun i wr => ∃ k : Nat, k ≤ xss.length ∧ i = .int .i64 k ∧ OwnII w.heap.size wr (.slice (some ⟨w.heap.size, 0, none⟩) xss.length xss.length) (xss.take k ++ List.replicate (xss.length - k) []) ∧ Below w.heap.size w wr) (fun i _ => xss.length - (intOf i).toNat)
  case atStart => exact ⟨0, Nat.zero_le _, rfl, by simpa using hown, hb1⟩
  case round =>
    obtain ⟨k, hk, rfl, ho, hb⟩ := hrel
    clear hown hb1
    by_cases hlt : k < xss.length
    · obtain ⟨b, off, rfl, _, hc⟩ := hcells (by omega)
      have hck2 := (Above.of_below (B := 0) hb).cell (Nat.zero_le _) (hc k hlt)
      have hl : (xss.take k ++ List.replicate (xss.length - k) []).length = xss.length := by simp; omega
      have hI := toIntS_any (V k) xss[k] wr ((hV k hlt).below hb) (h3 _ (List.getElem_mem _))
      have HK := Lib.hid (copy_step2 (z := []) hlt rfl)
      have HO := Lib.hid ho
      have HB := Lib.hid hb
      have hsz : w.heap.size ≤ wr.heap.size := hb.size
      clear hcells hc hV ho hb
      go_wp2_with (go_at_call 58; refine hI.mono ?_; rintro e w2 ⟨ua, uc, rfl, hu, hb2⟩; have HU := Lib.hid hu; have HB2 := Lib.hid hb2; obtain ⟨⟨u0, hc0, _⟩, hf0⟩ := (OwnII.below HO.out hb2).at k (by omega); clear hu hb2)
      go_roundw
      case rel => exact ⟨k + 1, by omega, by go_num, by rw [← HK.out]; exact HO.out.setFresh HB2.out hsz k HU.out, ((HB.out.trans (HB2.out.mono hsz))).setCell (p := ⟨w.heap.size, k, none⟩) (Nat.le_refl _) _⟩
      case measure => simp [intOf]; omega
    · have e : k = xss.length := by omega
      have HO := Lib.hid (show OwnII w.heap.size wr (.slice (some ⟨w.heap.size, 0, none⟩) xss.length xss.length) xss by simpa [e] using ho)
      have HB := Lib.hid hb
      clear ho e hb
      go_wp2
      go_ret
      exact ⟨_, _, rfl, HO.out, HB.out⟩

/-! ### Marks -/
def tot (xss : List (List Int)) : Nat := (xss.map List.length).sum
theorem tot_snoc {xss : List (List Int)} {k : Nat} (h : k < xss.length) : tot (xss.take (k + 1)) = tot (xss.take k) + xss[k].length := by
  unfold tot
  rw [List.take_succ_eq_append_getElem h]
  simp only [List.map_append, List.sum_append, List.map_cons, List.map_nil, List.sum_cons, List.sum_nil]
  omega
theorem tot_take_le (xss : List (List Int)) (k : Nat) : tot (xss.take k) ≤ tot xss := by
  have : tot (xss.take k) + tot (xss.drop k) = tot xss := by
    unfold tot
    rw [← List.sum_append, ← List.map_append, List.take_append_drop]
  omega

def markSS : List (List Int) → Int → List (List Int)
  | [], _ => []
  | x :: t, m => markL x.length m :: markSS t (m + (x.length : Int))

theorem markSS_length (xss : List (List Int)) (m : Int) : (markSS xss m).length = xss.length := by
  induction xss generalizing m with
  | nil => rfl
  | cons x t ih => simp [markSS, ih]
theorem markSS_append (xss yss : List (List Int)) (m : Int) : markSS (xss ++ yss) m = markSS xss m ++ markSS yss (m + (tot xss : Int)) := by
  induction xss generalizing m with
  | nil => simp [markSS, tot]
  | cons x t ih =>
    simp only [List.cons_append, markSS, ih, List.cons.injEq, true_and, List.append_cancel_left_eq]
    congr 1
    simp [tot]; omega

theorem mark2_step {xss : List (List Int)} {k : Nat} {m : Int} (h : k < xss.length) :
    (markSS (xss.take k) m ++ xss.drop k).set k (markL xss[k].length (m + (tot (xss.take k) : Int))) = markSS (xss.take (k + 1)) m ++ xss.drop (k + 1) := by
  rw [List.set_append_right _ _ (by rw [markSS_length]; simp; omega)]
  have e : k - (markSS (xss.take k) m).length = 0 := by rw [markSS_length]; simp; omega
  rw [e, List.drop_eq_getElem_cons h, List.set_cons_zero, List.take_succ_eq_append_getElem h, markSS_append]
  simp [markSS]

theorem mark2_get {xss : List (List Int)} {k : Nat} {m : Int} (h : k < xss.length) (h' : k < (markSS (xss.take k) m ++ xss.drop k).length) : (markSS (xss.take k) m ++ xss.drop k)[k] = xss[k] := by
  rw [List.getElem_append_right (by rw [markSS_length]; simp; omega)]
  have e : k - (markSS (xss.take k) m).length = 0 := by rw [markSS_length]; simp; omega
  simp [e]

/-- What a marking of rows leaves. -/
def MarkedII (B : Nat) (v : Value) (xss : List (List Int)) (m : Int) (w : World) (e : Ending) (w' : World) : Prop :=
  e = .returned (.int .i64 (m + (tot xss : Int))) ∧ OwnII B w' v (markSS xss m) ∧ Below B w w'

theorem markIntSS_any {B : Nat} (v : Value) (xss : List (List Int)) (m : Int) (w : World) (h : OwnII B w v xss) (hB : B ≤ w.heap.size) (h0 : 0 ≤ m) (h1 : m + (tot xss : Int) ≤ 1099511627776) :
    Calls Try.prog 21 #[v, .int .i64 m] w (MarkedII B v xss m w) := by
  obtain ⟨vs, hv, hl, hr, hd⟩ := h
  obtain ⟨a, cap, rfl, hcap, hmax⟩ := own_shape hv
  unfold maxLen at hmax
  have hlen : (vs.length : Int) ≤ 9223372036854775807 := by omega
  have HD := Lib.hid hd
  have HL := Lib.hid hl
  clear hd
  go_enter Try.func21, Try.ntmps21
  go_wp2
  go_loopw [1, 5] (fun s i wr => ∃ k : Nat, k ≤ vs.length ∧ i = .int .i64 k ∧ s = .int .i64 (m + (tot (xss.take k) : Int)) ∧ (wr.ownsRow B 24 1 (.slice a vs.length cap) vs.length vs ∧ vs.length = (markSS (xss.take k) m ++ xss.drop k).length ∧
      ∀ i (h : i < vs.length) (h' : i < (markSS (xss.take k) m ++ xss.drop k).length), OwnI B wr vs[i] (markSS (xss.take k) m ++ xss.drop k)[i]) ∧ Below B w wr) (fun _ i _ => vs.length - (intOf i).toNat)
  case atStart => exact ⟨0, Nat.zero_le _, rfl, by simp [tot], ⟨hv, by simpa [markSS] using hl, by simpa [markSS] using hr⟩, Below.refl _ _⟩
  case round =>
    obtain ⟨k, hk, rfl, rfl, ho, hb⟩ := hrel
    clear hv hr hl
    by_cases hlt : k < vs.length
    · have hlx : k < xss.length := by have := HL.out; omega
      obtain ⟨g, cap', he, hBg, hgs, _, _⟩ := own_head ho.1 (by omega)
      injection he with e1 _ e3
      subst e1
      have hck : wr.cell? ⟨g, k, none⟩ = some vs[k] := by rw [World.ownsRow.cellAt ho.1 k (by omega), List.getElem?_eq_getElem hlt]
      have hIk := ho.2.2 k hlt (by have := ho.2.1; omega)
      rw [mark2_get hlx] at hIk
      have ht := tot_snoc hlx
      have hle := tot_take_le xss (k + 1)
      have hM := markIntS_any vs[k] xss[k] (m + (tot (xss.take k) : Int)) wr hIk (by omega) (by omega) (by omega)
      obtain ⟨vk, hvk⟩ : ∃ vk, vk = vs[k] := ⟨_, rfl⟩
      rw [← hvk] at hck hM
      have HV := Lib.hid hvk
      have HO := Lib.hid ho
      have HB := Lib.hid hb
      have HS := Lib.hid (mark2_step (m := m) hlx)
      have HT := Lib.hid ht
      have HI := Lib.hid hIk
      have hsz := hb.size
      clear hvk ho hb hIk ht e3
      go_wp2_with (go_at_call 22; refine hM.mono ?_; rintro e w2 ⟨rfl, hu, hg⟩; have HU := Lib.hid hu; have HG := Lib.hid hg; clear hu hg)
      go_roundw
      case rel =>
        have hu := HU.out
        have hg := HG.out
        have ho := HO.out
        rw [HV.out] at hu hg
        have := OwnII.turnRow ho.1 ho.2.1 ho.2.2 HD.out hlt hg hu
        rw [HS.out] at this
        refine ⟨k + 1, by omega, by go_num, by rw [HT.out]; go_num, this, HB.out.grown hg (by omega) (fun j hj => (World.ownsRow.lt HI.out j hj).1)⟩
      case measure => simp [intOf]; omega
    · have e : k = vs.length := by omega
      have e2 : xss.take k = xss := List.take_of_length_le (by have := HL.out; omega)
      have e3 : xss.drop k = [] := List.drop_eq_nil_of_le (by have := HL.out; omega)
      rw [e2, e3, List.append_nil] at ho
      have HO := Lib.hid ho
      have HB := Lib.hid hb
      have HE := Lib.hid e2
      clear ho e hb e2 e3
      go_wp2
      go_ret
      exact ⟨ret_int (by rw [HE.out]), ⟨vs, HO.out.1, HO.out.2.1, HO.out.2.2, HD.out⟩, HB.out⟩

/-- What heldIntSS returns. -/
def heldSS : List (List Int) → Int → Int
  | [], k => k
  | x :: t, k => if heldL x k < 0 then -1 else heldSS t (heldL x k)

theorem heldL_mark (n : Nat) (m : Int) : heldL (markL n m) m = m + (n : Int) := by
  unfold heldL; simp
theorem heldSS_mark (xss : List (List Int)) (m : Int) (h : 0 ≤ m) : heldSS (markSS xss m) m = m + (tot xss : Int) := by
  induction xss generalizing m with
  | nil => simp [heldSS, markSS, tot]
  | cons x t ih =>
    rw [markSS, heldSS, heldL_mark, if_neg (by omega), ih _ (by omega)]
    simp [tot]; omega
theorem heldL_range (xs : List Int) (k : Int) : heldL xs k = -1 ∨ heldL xs k = k + xs.length := by
  unfold heldL; split <;> simp

/-- What szIntSS returns. -/
def szGo : List (List Int) → Int → Int
  | [], l => l
  | x :: t, l => if (x.length : Int) ≤ l then szGo t (l - (x.length : Int)) else -1
def szSS (xss : List (List Int)) (l : Int) : Int := if (xss.length : Int) ≤ l then szGo xss (l - (xss.length : Int)) else -1

theorem szGo_neg (xss : List (List Int)) : ∀ l, 0 ≤ l → 0 ≤ szGo xss l → szGo xss l = l - (tot xss : Int) := by
  induction xss with
  | nil => intro l _ _; simp [szGo, tot]
  | cons x t ih =>
    intro l h0 h
    rw [szGo] at h ⊢
    split at h
    · rename_i hx
      rw [if_pos hx, ih _ (by omega) h]
      simp [tot]; omega
    · omega
theorem szSS_bound {xss : List (List Int)} {l : Int} (h : 0 ≤ szSS xss l) (hl : 0 ≤ l) : (xss.length : Int) + (tot xss : Int) ≤ l := by
  unfold szSS at h
  split at h
  · rename_i hx
    have := szGo_neg xss _ (by omega) h
    omega
  · omega
theorem tot_mem {xss : List (List Int)} {xs : List Int} (h : xs ∈ xss) : xs.length ≤ tot xss := by
  induction xss with
  | nil => simp at h
  | cons x t ih =>
    simp only [List.mem_cons] at h
    rcases h with rfl | h
    · simp [tot]
    · have := ih h
      simp [tot] at this ⊢; omega
theorem szSS_ge (xss : List (List Int)) (l : Int) (hl : 0 ≤ l) : -1 ≤ szSS xss l := by
  have key : ∀ (xss : List (List Int)) (l : Int), 0 ≤ l → -1 ≤ szGo xss l := by
    intro xss
    induction xss with
    | nil => intro l h; simp [szGo]; omega
    | cons x t ih => intro l h; rw [szGo]; split <;> first | exact ih _ (by omega) | omega
  unfold szSS
  split
  · exact key _ _ (by omega)
  · omega

theorem szIntSS_any {B : Nat} (v : Value) (xss : List (List Int)) (l : Int) (w : World) (h : Rows2 B w v xss) (h0 : 0 ≤ l) (h1 : l ≤ 1099511627776) :
    Calls Try.prog 15 #[v, .int .i64 l] w fun e w' => e = .returned (.int .i64 (szSS xss l)) ∧ w = w' := by
  obtain ⟨a, cap, rfl, hcap, hmax, V, hcells, hV⟩ := h.opened
  clear h
  by_cases hle : (xss.length : Int) ≤ l
  · go_enter Try.func15, Try.ntmps15
    go_wp2
    go_loop [1, 5] (fun s i => ∃ (k : Nat) (c : Int), k ≤ xss.length ∧ i = .int .i64 k ∧ s = .int .i64 c ∧ szGo (xss.drop k) c = szSS xss l ∧ 0 ≤ c ∧ c ≤ l) (fun _ i => xss.length - (intOf i).toNat)
    case atStart => exact ⟨0, _, Nat.zero_le _, rfl, rfl, by simp [szSS, hle], by omega, by omega⟩
    case round =>
      obtain ⟨k, c, hk, rfl, rfl, ht, hc0, hc1⟩ := hrel
      by_cases hlt : k < xss.length
      · obtain ⟨b, off, rfl, _, hc⟩ := hcells (by omega)
        have hck := hc k hlt
        have hH := szIntS_any (V k) xss[k] c w (hV k hlt) hc0 (by omega)
        rw [List.drop_eq_getElem_cons hlt, szGo] at ht
        clear hc hcells hV
        by_cases hneg : (xss[k].length : Int) ≤ c
        · rw [if_pos hneg] at ht hH
          have HT := Lib.hid ht
          clear ht
          go_wp2_with (go_at_call 55; refine hH.mono ?_; rintro e w2 ⟨rfl, rfl⟩)
          go_round
          case rel => exact ⟨k + 1, _, by omega, by go_num, rfl, HT.out, by omega, by omega⟩
          case measure => simp [intOf]; omega
        · rw [if_neg hneg] at ht hH
          have HT := Lib.hid ht
          clear ht
          go_wp2_with (go_at_call 55; refine hH.mono ?_; rintro e w2 ⟨rfl, rfl⟩)
          go_ret
          exact ⟨ret_int (by rw [← HT.out]), rfl⟩
      · have e : xss.drop k = [] := List.drop_eq_nil_of_le (by omega)
        rw [e, szGo] at ht
        have HT := Lib.hid ht
        clear ht e
        go_wp2
        go_ret
        exact ⟨ret_int (by rw [← HT.out]), rfl⟩
  · have HS := Lib.hid (show szSS xss l = -1 by unfold szSS; rw [if_neg hle])
    go_enter Try.func15, Try.ntmps15
    go_wp2
    go_ret
    exact ⟨ret_int (by rw [HS.out]), rfl⟩

end Go.Proofs.Ytpeogghiboaceaa
