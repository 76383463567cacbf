/- Texts of digits: the program's digits, the reference's l1Number at one digit and l15Code. -/
import Derived.Test.YtenlngclocfnlaaDoorBuild
import Derived.Test.YtenlngclocfnlaaDoorTextMath
namespace Go.Proofs.YtenlngclocfnlaaDoor
open Go.RowKit
set_option linter.unusedVariables false
set_option maxRecDepth 100000

def dgs (xs : List Int) : List UInt8 := xs.map dg
def strV (l : List UInt8) : Value := .string ⟨l.toArray⟩
def allD (xs : List Int) : Bool := xs.all fun x => inB x 0 9
theorem inB_of {n : Int} (h0 : 0 ≤ n) (h1 : n ≤ 9) : inB n 0 9 = true := inB_iff.2 ⟨h0, h1⟩

set_option maxHeartbeats 1000000 in
theorem digits_any {B : Nat} (v : Value) (xs : List Int) (w : World) (h : Ints B w v xs) (hd : allD xs = true) (hl : xs.length ≤ 1000000) :
    Calls Tryd.prog 46 #[v] w fun e w' => e = .returned (strV (dgs xs)) ∧ Below w.heap.size w w' := by
  have HX := Lib.hid h
  obtain ⟨a, cap, rfl, _⟩ := h.opened
  have HD := Lib.hid (List.all_eq_true.1 hd)
  have HB0 := Lib.hid (Bld.new w)
  have HBW := Lib.hid (show Below w.heap.size w (w.alloc (.cells #[.pointer none, .slice none 0 0] 74)) from (Below.refl _ _).alloc (Nat.le_refl _) _)
  clear h hd
  go_enter Tryd.func46, Tryd.ntmps46
  go_wp2
  go_loopw [8] (fun i wr => ∃ k : Nat, k ≤ xs.length ∧ i = .int .i64 k ∧ Bld w.heap.size w.heap.size (dgs (xs.take k)) wr ∧ Below w.heap.size w wr) (fun i _ => xs.length - (intOf i).toNat)
  case atStart => exact ⟨0, Nat.zero_le _, rfl, HB0.out, HBW.out⟩
  case round =>
    obtain ⟨k, hk, rfl, hb, hw⟩ := hrel
    obtain ⟨wk, rfl⟩ : ∃ x, x = wr := ⟨_, rfl⟩
    clear HB0 HBW
    by_cases hlt : k < xs.length
    · obtain ⟨a', cap', e, _, _, hc⟩ := HX.out.opened
      obtain ⟨b, off, rfl, _, hcs⟩ := hc (by omega)
      injection e with e1 _ e3
      subst e1 e3
      have hx := (Above.of_below (B := 0) hw).cell (Nat.zero_le _) (hcs k hlt)
      have hin := HD.out xs[k] (List.getElem_mem hlt)
      have hln : (dgs (xs.take k)).length ≤ 1000000000 := by simp [dgs]; omega
      have hW := writeByte_any (dg xs[k]) hb hln hw.size
      have HN := Lib.hid (show dgs (xs.take (k + 1)) = dgs (xs.take k) ++ [dg xs[k]] by unfold dgs; rw [List.take_succ_eq_append_getElem hlt, List.map_append]; rfl)
      have hdg := dg_toNat hin
      obtain ⟨h0, h9⟩ := inB_iff.1 hin
      obtain ⟨y, hy⟩ : ∃ y, y = xs[k] := ⟨_, rfl⟩
      rw [← hy] at hx hW hdg h0 h9 HN
      have hcv : ((dg y).toNat : Int) = 48 + y := by omega
      rw [hcv] at hW
      have HB := Lib.hid hw
      have hi0 : (0 : Int) ≤ (k : Int) := by omega
      have hi1 : (k : Int) < (xs.length : Int) := by omega
      clear hc hcs hin hdg hcv hy hb hw hln
      go_wp2_with fail
      refine hW.mono ?_
      rintro e w2 ⟨rfl, hb2, hw2⟩
      have HB2 := Lib.hid hb2
      have HW2 := Lib.hid (HB.out.trans hw2)
      clear hW hb2 hw2
      go_wp2
      go_roundw
      case rel => exact ⟨k + 1, by omega, by go_num, by rw [HN.out]; exact HB2.out, HW2.out⟩
      case measure => simp [intOf]; omega
    · have e : xs.take k = xs := List.take_of_length_le (by omega)
      rw [e] at hb
      have hT := text_any hb hw.size
      have HB := Lib.hid hw
      clear hb e hw
      go_wp2_with fail
      refine hT.mono ?_
      rintro e w2 ⟨rfl, hw2⟩
      have HW2 := Lib.hid (HB.out.trans hw2)
      clear hT hw2
      go_wp2
      go_ret
      exact ⟨rfl, HW2.out⟩

theorem oneByte (w : World) (n : Int) (h0 : 0 ≤ n) (h1 : n ≤ 9) :
    (convert 37 9 (.slice (some ⟨w.heap.size, 0, none⟩) 1 1)).run Tryd.prog (w.alloc (.cells #[.int .u8 (48 + n)] 5)) = .ok (.string ⟨[dg n].toArray⟩) (w.alloc (.cells #[.int .u8 (48 + n)] 5)) := by
  refine run_convert_bytes_back _ _ _ 5 _ 1 [dg n] Tryd.underlying37 Tryd.underlying5 Tryd.underlying9 ?_
  intro j hj
  have hj0 : j = 0 := by simpa using hj
  subst hj0
  have e : ((dg n).toNat : Int) = 48 + n := by have := dg_toNat (inB_of h0 h1); omega
  simp only [List.getElem_cons_zero, e]
  simp [Addr.add]

theorem l1Number_any (n : Int) (w : World) (h0 : 0 ≤ n) (h1 : n ≤ 9) :
    Calls Tryd.prog 49 #[.int .i64 n] w fun e w' => e = .returned (strV [dg n]) ∧ Below w.heap.size w w' := by
  have hn : ¬ n < 0 := by omega
  have hn2 : n < 10 := by omega
  have hcv := oneByte w n h0 h1
  have HB := Lib.hid (show Below w.heap.size w (w.alloc (.cells #[.int .u8 (48 + n)] 5)) from (Below.refl _ _).alloc (Nat.le_refl _) _)
  go_enter Tryd.func49, Tryd.ntmps49
  go_wp2
  go_ret
  exact ⟨rfl, HB.out⟩

set_option maxHeartbeats 1000000 in
theorem l15Code_any {B : Nat} (v : Value) (xs : List Int) (w : World) (h : Ints B w v xs) (hd : allD xs = true) (hl : xs.length ≤ 1000000) :
    Calls Tryd.prog 48 #[v] w fun e w' => e = .returned (strV (dgs xs)) ∧ Below w.heap.size w w' := by
  have HX := Lib.hid h
  obtain ⟨a, cap, rfl, _⟩ := h.opened
  have HD := Lib.hid (List.all_eq_true.1 hd)
  clear h hd
  go_enter Tryd.func48, Tryd.ntmps48
  go_wp2
  go_loopw [3, 4] (fun s i wr => ∃ k : Nat, k ≤ xs.length ∧ i = .int .i64 k ∧ s = strV (dgs (xs.take k)) ∧ Below w.heap.size w wr) (fun _ i _ => xs.length - (intOf i).toNat)
  case atStart => exact ⟨0, Nat.zero_le _, rfl, rfl, Below.refl _ _⟩
  case round =>
    obtain ⟨k, hk, rfl, rfl, hw⟩ := hrel
    obtain ⟨wk, rfl⟩ : ∃ x, x = wr := ⟨_, rfl⟩
    by_cases hlt : k < xs.length
    · obtain ⟨a', cap', e, _, _, hc⟩ := HX.out.opened
      obtain ⟨b, off, rfl, _, hcs⟩ := hc (by omega)
      injection e with e1 _ e3
      subst e1 e3
      have hx := (Above.of_below (B := 0) hw).cell (Nat.zero_le _) (hcs k hlt)
      have hin := HD.out xs[k] (List.getElem_mem hlt)
      obtain ⟨h0, h9⟩ := inB_iff.1 hin
      have hN := l1Number_any xs[k] wk h0 h9
      have HN := Lib.hid (show dgs (xs.take (k + 1)) = dgs (xs.take k) ++ [dg xs[k]] by unfold dgs; rw [List.take_succ_eq_append_getElem hlt, List.map_append]; rfl)
      obtain ⟨y, hy⟩ : ∃ y, y = xs[k] := ⟨_, rfl⟩
      rw [← hy] at hx hN h0 h9 HN
      have HB := Lib.hid hw
      have hi0 : (0 : Int) ≤ (k : Int) := by omega
      have hi1 : (k : Int) < (xs.length : Int) := by omega
      have hlk : (dgs (xs.take k)).length ≤ 1000000 := by unfold dgs; simp; omega
      obtain ⟨L, hL⟩ : ∃ L, L = dgs (xs.take k) := ⟨_, rfl⟩
      rw [← hL] at hlk HN ⊢
      clear hc hcs hin hy hw hL
      unfold strV at hN ⊢
      go_wp2_with fail
      refine hN.mono ?_
      rintro e w2 ⟨rfl, hw2⟩
      have HW2 := Lib.hid (HB.out.trans (hw2.mono HB.out.size))
      clear hN hw2
      go_wp2
      go_roundw
      case rel => exact ⟨k + 1, by omega, by go_num, by rw [HN.out]; exact congrArg Value.string (ByteArray.mk_append_mk L [dg y]), HW2.out⟩
      case measure => simp [intOf]; omega
    · have e : xs.take k = xs := List.take_of_length_le (by omega)
      rw [e]
      have HB := Lib.hid hw
      clear e hw
      unfold strV
      go_wp2
      go_ret
      exact ⟨rfl, HB.out⟩

end Go.Proofs.YtenlngclocfnlaaDoor
