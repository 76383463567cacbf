/- FieldsOf and HitsOf of the reference. -/
import Derived.Test.YtpeogghiboaceaaShip8
import Derived.Test.YtpeogghiboaceaaOwn
import Derived.Laws.StructEq
namespace Go.Proofs.Ytpeogghiboaceaa
open Go.RowKit
set_option linter.unusedVariables false
set_option maxRecDepth 100000

theorem eqPl (x y : Pl) (w : World) : (binOp .eql 80 (.agg #[.int .i64 x.r, .int .i64 x.c, .int .i64 x.d]) (.agg #[.int .i64 y.r, .int .i64 y.c, .int .i64 y.d])).run Try.prog w = .ok (.bool (decide (x = y))) w := by
  have u3 := Try.underlying3
  have a3 := Try.isAgg3
  have z3 := Try.sizeOf3
  have hS : Try.prog.underlying 80 = some (.struct (Try.prog.fieldsOf 80)) := by kernel_rfl
  have hp : Try.prog.stoodInHeld 80 = false := by kernel_rfl
  rw [run_eql_struct, show (10000 : Nat) = 9999 + 1 from rfl, run_equalIn_agg w 9999 80 _ _ hS hp]
  simp only [Program.fieldsOf, Try.underlying80]
  go_simp
  obtain ⟨r, c, d⟩ := x
  obtain ⟨r', c', d'⟩ := y
  by_cases h1 : r = r' <;> by_cases h2 : c = c' <;> by_cases h3 : d = d' <;> simp [h1, h2, h3] <;> omega
theorem gdPl (op : BinOp) (a b : Operand) (x y : Pl) (w : World) : (eqGuard op 80 a b (.agg #[.int .i64 x.r, .int .i64 x.c, .int .i64 x.d]) (.agg #[.int .i64 y.r, .int .i64 y.c, .int .i64 y.d])).run Try.prog w = .ok () w := run_eqGuard_agg w op _ a b _ _ (by kernel_rfl)

theorem field_num (r c d k : Nat) (hr : r ≤ 100) (hc : c ≤ 100) (hd : d ≤ 1) (hk : k ≤ 100) : wrap64 ((r : Int) + wrap64 ((k : Int) * (d : Int))) = ((r + k * d : Nat) : Int) ∧ wrap64 ((c : Int) + wrap64 ((k : Int) * (1 - (d : Int)))) = ((c + k * (1 - d) : Nat) : Int) := by
  constructor
  · rcases (show d = 0 ∨ d = 1 by omega) with rfl | rfl
    · rw [IntWalk.wrap64_in ((k : Int) * ((0 : Nat) : Int)) ⟨by omega, by omega⟩, IntWalk.wrap64_in _ ⟨by omega, by omega⟩]; omega
    · rw [IntWalk.wrap64_in ((k : Int) * ((1 : Nat) : Int)) ⟨by omega, by omega⟩, IntWalk.wrap64_in _ ⟨by omega, by omega⟩]; omega
  · rcases (show d = 0 ∨ d = 1 by omega) with rfl | rfl
    · rw [IntWalk.wrap64_in ((k : Int) * (1 - ((0 : Nat) : Int))) ⟨by omega, by omega⟩, IntWalk.wrap64_in _ ⟨by omega, by omega⟩]; omega
    · rw [IntWalk.wrap64_in ((k : Int) * (1 - ((1 : Nat) : Int))) ⟨by omega, by omega⟩, IntWalk.wrap64_in _ ⟨by omega, by omega⟩]; omega

def fieldsL (p : Pl) (k : Nat) : List (List Int) := (List.range k).map fun i => [((p.r + i * p.d : Nat) : Int), ((p.c + i * (1 - p.d) : Nat) : Int)]
theorem fieldsL_length (p : Pl) (k : Nat) : (fieldsL p k).length = k := by simp [fieldsL]
theorem fieldsL_succ (p : Pl) (k : Nat) : fieldsL p (k + 1) = fieldsL p k ++ [[((p.r + k * p.d : Nat) : Int), ((p.c + k * (1 - p.d) : Nat) : Int)]] := by simp [fieldsL, List.range_succ]
theorem OwnI.two (w : World) (x y : Int) : OwnI w.heap.size (w.alloc (.cells #[.int .i64 x, .int .i64 y] 3)) (.slice (some ⟨w.heap.size, 0, none⟩) 2 2) [x, y] :=
  World.ownsRow_lit w #[.int .i64 x, .int .i64 y] 2 (Nat.le_refl _) (by simp [maxLen]) rfl
def RowsOut (xss : List (List Int)) (w : World) (e : Ending) (w' : World) : Prop :=
  ∃ a cap, e = .returned (.slice a xss.length cap) ∧ OwnII w.heap.size w' (.slice a xss.length cap) xss ∧ Below w.heap.size w w'
theorem OwnII.lit0 (w : World) : OwnII w.heap.size (w.alloc (.cells #[] 24)) (.slice (some ⟨w.heap.size, 0, none⟩) 0 0) [] := by
  refine ⟨[], World.ownsRow_made w #[] 0 (Nat.le_refl _) (by simp [maxLen]) rfl, rfl, by simp, by simp⟩

set_option maxHeartbeats 2000000 in
theorem specFieldsOf_any {R C l : Nat} (p : Pl) (w : World) (hf : FitsP R C l p) (hR : R ≤ 6) (hC : C ≤ 6) (hl1 : 1 ≤ l) (hl : l ≤ 6) :
    Calls Try.prog 105 #[plV p, .int .i64 l] w (RowsOut (fieldsL p l) w) := by
  obtain ⟨r, c, d⟩ := p
  obtain ⟨f1, f2, f3, f4, f5⟩ := hf
  simp only at f1 f2 f3 f4 f5
  simp only [plV]
  obtain ⟨w1, hw1⟩ : ∃ w1, w1 = w.alloc (.cells #[.int .i64 r, .int .i64 c, .int .i64 d] 80) := ⟨_, rfl⟩
  have hb1 : Below w.heap.size w w1 := by rw [hw1]; exact (Below.refl _ _).alloc (Nat.le_refl _) _
  have hs1 : w1.heap.size = w.heap.size + 1 := by rw [hw1]; simp
  have x1 : w1.cell? ⟨w.heap.size, 0, none⟩ = some (.int .i64 r) := by rw [hw1]; exact cell_of_row _ _ 0 _ _ (0, 0) (heap_alloc_new w _)
  have x2 : w1.cell? ⟨w.heap.size, 1, none⟩ = some (.int .i64 c) := by rw [hw1]; exact cell_of_row _ _ 1 _ _ (0, 0) (heap_alloc_new w _)
  have x3 : w1.cell? ⟨w.heap.size, 2, none⟩ = some (.int .i64 d) := by rw [hw1]; exact cell_of_row _ _ 2 _ _ (0, 0) (heap_alloc_new w _)
  have HLIT := Lib.hid (OwnII.lit0 w1)
  have g1 : inB (l : Int) 1 6 = true := by simp [inB]; omega
  have g2 : inB (d : Int) 0 1 = true := by simp [inB]; omega
  have g3 : inB (r : Int) 0 5 = true := by simp [inB]; omega
  have g4 : inB (c : Int) 0 5 = true := by simp [inB]; omega
  have hn := field_num r c d (l - 1) (by omega) (by omega) (by omega) (by omega)
  have el : ((l - 1 : Nat) : Int) = (l : Int) - 1 := by omega
  rw [el] at hn
  have g5 : inB (wrap64 ((r : Int) + wrap64 (((l : Int) - 1) * (d : Int)))) 0 5 = true := by rw [hn.1]; simp [inB]; omega
  have g6 : inB (wrap64 ((c : Int) + wrap64 (((l : Int) - 1) * (1 - (d : Int))))) 0 5 = true := by rw [hn.2]; simp [inB]; omega
  have HFL := Lib.hid (fun k => fieldsL_succ ⟨r, c, d⟩ k)
  have HLL := Lib.hid (fieldsL_length ⟨r, c, d⟩ l)
  have HB1 := Lib.hid hb1
  have HB12 := Lib.hid ((Below.refl w1.heap.size w1).alloc (Nat.le_refl _) (.cells #[] 24))
  have hdr : r ≤ 5 ∧ c ≤ 5 ∧ d ≤ 1 := by omega
  have HPR := Lib.hid hdr
  have X1 := Lib.hid x1
  have X2 := Lib.hid x2
  have X3 := Lib.hid x3
  rw [hw1] at x1 x2 x3
  have HW1 := Lib.hid hw1
  clear hb1 hn el hdr f2 f3 f4 f5
  go_enter Try.func105, Try.ntmps105
  go_wp2_with (go_at_call 62; refine (l1In_any _ _ _ _).mono ?_; rintro e w' ⟨rfl, rfl⟩; (first | rw [g1] | rw [g2] | rw [g3] | rw [g4] | rw [g5] | rw [g6]))
  rw [← HW1.out]
  clear hw1 g1 g2 g3 g4 g5 g6 x1 x2 x3
  go_loopw [5, 6] (fun o i wr => ∃ (a : Option Addr) (cap k : Nat), k ≤ l ∧ i = .int .i64 k ∧ o = .slice a k cap ∧ OwnII w1.heap.size wr (.slice a k cap) (fieldsL ⟨r, c, d⟩ k) ∧ Below w1.heap.size w1 wr) (fun _ i _ => l - (intOf i).toNat)
  case atStart => exact ⟨_, 0, 0, Nat.zero_le _, rfl, by rw [hs1], HLIT.out, HB12.out⟩
  case round =>
    obtain ⟨a, cap, k, hk, rfl, rfl, ho, hb⟩ := hrel
    by_cases hlt : k < l
    · have hnn := field_num r c d k (by have := HPR.out; omega) (by have := HPR.out; omega) (by have := HPR.out; omega) (by omega)
      have HNN := Lib.hid hnn
      have z1 := (Above.of_below (B := 0) hb).cell (Nat.zero_le _) X1.out
      have z2 := (Above.of_below (B := 0) hb).cell (Nat.zero_le _) X2.out
      have z3 := (Above.of_below (B := 0) hb).cell (Nat.zero_le _) X3.out
      have HO := Lib.hid ho
      have HB := Lib.hid hb
      have hbs : w1.heap.size ≤ wr.heap.size := hb.size
      have HLEN := Lib.hid (fieldsL_length ⟨r, c, d⟩ k)
      clear hnn ho hb
      go_wp2_with (at_builtin; refine wpList_push_new wr _ rfl (.tmp 60) (.tmp 77) rfl w1.heap.size (.slice a k cap) (fieldsL ⟨r, c, d⟩ k) rfl HO.out ((Below.refl _ _).alloc (Nat.le_refl _) _) (wr.heap.size + 1) (by simp) (.slice (some ⟨wr.heap.size, 0, none⟩) 2 2) [((r + k * d : Nat) : Int), ((c + k * (1 - d) : Nat) : Int)] rfl (by rw [← HNN.out.1, ← HNN.out.2]; exact OwnI.two wr _ _) (by rw [HLEN.out]; omega) hbs ?_; intro a' cap' w8 ho8 hb8; rw [HLEN.out] at ho8 ⊢; have HO8 := Lib.hid ho8; have HB8 := Lib.hid hb8; clear ho8 hb8)
      go_roundw
      case rel => exact ⟨a', cap', k + 1, by omega, by go_num, rfl, by rw [HFL.out]; exact HO8.out, HB.out.trans HB8.out⟩
      case measure => simp [intOf]; omega
    · have e : k = l := by omega
      subst e
      have HO := Lib.hid ho
      have HB := Lib.hid hb
      clear ho hb
      go_wp2
      go_ret
      exact ⟨a, cap, by rw [HLL.out]; rfl, by rw [HLL.out]; exact HO.out.mono (by omega), HB1.out.trans (HB.out.mono HB1.out.size)⟩

end Go.Proofs.Ytpeogghiboaceaa
