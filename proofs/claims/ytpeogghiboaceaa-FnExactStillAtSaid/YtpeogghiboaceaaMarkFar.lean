/- markIntSS once more: what lies in memory younger than the rows stays as it was. -/
import Derived.Test.YtpeogghiboaceaaLeaf2
namespace Go.Proofs.Ytpeogghiboaceaa
open Go.RowKit
set_option linter.unusedVariables false

/-- The marking of rows that stood in an older world: what is younger stays. -/
theorem markIntSS_far {B : Nat} (v : Value) (xss : List (List Int)) (m : Int) (w0 w : World) (h0' : OwnII B w0 v xss) (hAb : Above B w0 w) (hB : B ≤ w.heap.size) (h0 : 0 ≤ m) (h1 : m + (tot xss : Int) ≤ 1099511627776) :
    Calls Try.prog 21 #[v, .int .i64 m] w (fun e w' => MarkedII B v xss m w e w' ∧ ∀ b, w0.heap.size ≤ b → b < w.heap.size → w'.heap[b]? = w.heap[b]?) := by
  obtain ⟨vs, hv0, hl, hr0, hd⟩ := h0'
  have hv := owns_keep hv0 hAb
  have hr : ∀ i (h : i < vs.length) (h' : i < xss.length), OwnI B w vs[i] xss[i] := fun i hi hi' => owns_keep (hr0 i hi hi') hAb
  have HFar := Lib.hid (show ∀ i (h : i < vs.length) j, vs[i].ownBlock = some j → j < w0.heap.size from fun i hi j hj => (World.ownsRow.lt (hr0 i hi (by omega)) j hj).2)
  clear hv0 hr0
  obtain ⟨a, cap, rfl, hcap, hmax⟩ := own_shape hv
  unfold maxLen at hmax
  have hlen : (vs.length : Int) ≤ 9223372036854775807 := by omega
  have HD := Lib.hid hd
  have HL := Lib.hid hl
  clear hd
  go_enter Try.func21, Try.ntmps21
  go_wp2
  go_loopw [1, 5] (fun s i wr => ∃ k : Nat, k ≤ vs.length ∧ i = .int .i64 k ∧ s = .int .i64 (m + (tot (xss.take k) : Int)) ∧ (wr.ownsRow B 24 1 (.slice a vs.length cap) vs.length vs ∧ vs.length = (markSS (xss.take k) m ++ xss.drop k).length ∧
      ∀ i (h : i < vs.length) (h' : i < (markSS (xss.take k) m ++ xss.drop k).length), OwnI B wr vs[i] (markSS (xss.take k) m ++ xss.drop k)[i]) ∧ Below B w wr ∧ ∀ b, w0.heap.size ≤ b → b < w.heap.size → wr.heap[b]? = w.heap[b]?) (fun _ i _ => vs.length - (intOf i).toNat)
  case atStart => exact ⟨0, Nat.zero_le _, rfl, by simp [tot], ⟨hv, by simpa [markSS] using hl, by simpa [markSS] using hr⟩, Below.refl _ _, fun _ _ _ => rfl⟩
  case round =>
    obtain ⟨k, hk, rfl, rfl, ho, hb, hfar⟩ := hrel
    have HFr := Lib.hid hfar
    clear hfar
    clear hv hr hl
    by_cases hlt : k < vs.length
    · have hlx : k < xss.length := by have := HL.out; omega
      obtain ⟨g, cap', he, hBg, hgs, _, _⟩ := own_head ho.1 (by omega)
      injection he with e1 _ e3
      subst e1
      have hck : wr.cell? ⟨g, k, none⟩ = some vs[k] := by rw [World.ownsRow.cellAt ho.1 k (by omega), List.getElem?_eq_getElem hlt]
      have hIk := ho.2.2 k hlt (by have := ho.2.1; omega)
      rw [mark2_get hlx] at hIk
      have ht := tot_snoc hlx
      have hle := tot_take_le xss (k + 1)
      have hM := markIntS_any vs[k] xss[k] (m + (tot (xss.take k) : Int)) wr hIk (by omega) (by omega) (by omega)
      obtain ⟨vk, hvk⟩ : ∃ vk, vk = vs[k] := ⟨_, rfl⟩
      rw [← hvk] at hck hM
      have HV := Lib.hid hvk
      have HO := Lib.hid ho
      have HB := Lib.hid hb
      have HS := Lib.hid (mark2_step (m := m) hlx)
      have HT := Lib.hid ht
      have HI := Lib.hid hIk
      have hsz := hb.size
      clear hvk ho hb hIk ht e3
      go_wp2_with (go_at_call 22; refine hM.mono ?_; rintro e w2 ⟨rfl, hu, hg⟩; have HU := Lib.hid hu; have HG := Lib.hid hg; clear hu hg)
      go_roundw
      case rel =>
        have hu := HU.out
        have hg := HG.out
        have ho := HO.out
        rw [HV.out] at hu hg
        have := OwnII.turnRow ho.1 ho.2.1 ho.2.2 HD.out hlt hg hu
        rw [HS.out] at this
        refine ⟨k + 1, by omega, by go_num, by rw [HT.out]; go_num, this, HB.out.grown hg (by omega) (fun j hj => (World.ownsRow.lt HI.out j hj).1), fun b hb1 hb2 => by
          rw [hg.block b (by omega) (fun e => by have := HFar.out k hlt b e.symm; omega)]
          exact HFr.out b hb1 hb2⟩
      case measure => simp [intOf]; omega
    · have e : k = vs.length := by omega
      have e2 : xss.take k = xss := List.take_of_length_le (by have := HL.out; omega)
      have e3 : xss.drop k = [] := List.drop_eq_nil_of_le (by have := HL.out; omega)
      rw [e2, e3, List.append_nil] at ho
      have HO := Lib.hid ho
      have HB := Lib.hid hb
      have HE := Lib.hid e2
      clear ho e hb e2 e3
      go_wp2
      go_ret
      exact ⟨⟨ret_int (by rw [HE.out]), ⟨vs, HO.out.1, HO.out.2.1, HO.out.2.2, HD.out⟩, HB.out⟩, HFr.out⟩


end Go.Proofs.Ytpeogghiboaceaa
