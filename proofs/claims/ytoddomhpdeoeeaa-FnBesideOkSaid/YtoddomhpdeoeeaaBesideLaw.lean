/- The walk of FnBesideOk. -/
import Derived.Test.YtoddomhpdeoeeaaDrawAfter
import Derived.Test.YtoddomhpdeoeeaaCatMath
namespace Go.Proofs.Ytoddomhpdeoeeaa
open Go.RowKit
set_option linter.unusedVariables false

/-- Row k of the boxes of which each is beside all others. -/
def farR (n k : Nat) : List Int := (List.range n).map fun j => if j = k then 0 else 1
def allR (n : Nat) : List (List Int) := (List.range n).map (farR n)
@[simp] theorem farR_length (n k : Nat) : (farR n k).length = n := by simp [farR]
@[simp] theorem allR_length (n : Nat) : (allR n).length = n := by simp [allR]
theorem farR_get (n k i : Nat) (h : i < (farR n k).length) : (farR n k)[i] = if i = k then 0 else 1 := by simp [farR]
theorem allR_get (n i : Nat) (h : i < (allR n).length) : (allR n)[i] = farR n i := by simp [allR]
theorem allR_ok {n : Nat} (h1 : 1 ≤ n) (h2 : n ≤ 6) : besideB (allR n) = true := by
  have : n = 1 ∨ n = 2 ∨ n = 3 ∨ n = 4 ∨ n = 5 ∨ n = 6 := by omega
  rcases this with rfl | rfl | rfl | rfl | rfl | rfl <;> decide +kernel
theorem farR_step {n k j : Nat} (hj : j < n) {x : Int} (hx : x = if j = k then 0 else 1) : (farR n k).take j ++ [x] = (farR n k).take (j + 1) := by
  rw [hx, ← farR_get n k j (by simpa using hj), ← List.take_succ_eq_append_getElem]
theorem allR_step {n k : Nat} (hk : k < n) : (allR n).take k ++ [farR n k] = (allR n).take (k + 1) := by
  rw [← allR_get n k (by simpa using hk), ← List.take_succ_eq_append_getElem]
theorem farR_in (n k : Nat) : ∀ x ∈ farR n k, In64 x := by
  intro x hx
  obtain ⟨i, hi, rfl⟩ := List.getElem_of_mem hx
  rw [farR_get]
  unfold In64
  split <;> omega
theorem allR_in (n : Nat) : ∀ xs ∈ allR n, ∀ x ∈ xs, In64 x := by
  intro xs hx
  obtain ⟨i, hi, rfl⟩ := List.getElem_of_mem hx
  rw [allR_get]
  exact farR_in n i

theorem rows_one_nought (W : World) (N : Nat) (hN : W.heap.size = N) : Rows2 0 ((W.alloc (.cells #[.int .i64 0] 3)).alloc (.cells #[.slice (some ⟨N, 0, none⟩) 1 1] 23)) (.slice (some ⟨N + 1, 0, none⟩) 1 1) [[0]] := by
  refine ⟨[.slice (some ⟨N, 0, none⟩) 1 1], ⟨some ⟨N + 1, 0, none⟩, 1, rfl, by simp, by simp, fun _ => ⟨N + 1, 0, rfl, Nat.zero_le _, fun i hi => ?_⟩⟩, rfl, fun i hi hi' => ?_⟩
  · have : i = 0 := by simpa using hi
    subst this
    exact cell_new _ _ _ _ (by simp [hN])
  · have : i = 0 := by simpa using hi
    subst this
    refine ⟨⟨some ⟨N, 0, none⟩, 1, rfl, by simp, by simp, fun hp => ⟨N, 0, rfl, Nat.zero_le _, fun i hi => ?_⟩⟩, fun x hx => ?_⟩
    · have : i = 0 := by simpa using hi
      subst this
      rw [World.cell?_of_block (w := W.alloc (.cells #[.int .i64 0] 3)) (Below.heap_alloc _ _ N (by simp [hN]))]
      exact cell_new W N _ _ hN
    · have : x = 0 := by simpa using hx
      rw [this]; unfold In64; omega

/-- Of row k j numbers are there. -/
def FarW (wb : World) (n k j : Nat) (ar : Option Addr) (cr : Nat) (wi : World) : Prop :=
  OwnI wb.heap.size wi (.slice ar j cr) ((farR n k).take j) ∧ Below wb.heap.size wb wi
/-- k rows are there. -/
def AllW (w : World) (n k : Nat) (ao : Option Addr) (co : Nat) (wi : World) : Prop :=
  OwnII w.heap.size wi (.slice ao k co) ((allR n).take k) ∧ Below w.heap.size w wi

set_option maxHeartbeats 2000000 in
theorem FnBesideOk_walk (v : Value) (bs : List Int) (w : World) (h : Bytes 0 w v bs) :
    Calls Try.prog 4 #[v] w fun e w' => e = .returned (.bool true) ∧ Below w.heap.size w w' := by
  obtain ⟨a0, cap0, rfl, hc1, hc2, hc3⟩ := id h.1
  rw [List.length_map] at h ⊢
  clear hc1 hc2 hc3
  by_cases hs : 1048576 < bs.length
  · go_enter Try.func4, Try.ntmps4
    go_wp2
    go_ret
    exact ⟨rfl, Below.refl _ _⟩
  · go_enter Try.func4, Try.ntmps4
    go_wp2_with fail
    refine (drawBesideOk_any _ _ _ h).mono ?_
    rintro e w1 ⟨xss, a1, c1, rfl, hx1, hl, _, hb1⟩
    clear h
    go_wp2_with fail
    refine (implBesideOk_any _ _ _ hx1).mono ?_
    rintro e w2 ⟨rfl, hb2⟩
    have hx2 := hx1.below hb2
    have hbb2 := hb1.trans (hb2.mono hb1.size)
    clear hx1 hb1 hb2
    go_wp2_with fail
    refine (specBesideOk_any _ _ _ hx2).mono ?_
    rintro e w3 ⟨rfl, hq3⟩
    have hD3 : Drawn w2 w3 := hq3
    have hbb3 := hbb2.trans (hD3.below.mono hbb2.size)
    clear hq3 hx2 hbb2 hD3
    have hself : (besideB xss != besideB xss) = false := by simp
    have hcase : besideB xss = true → 1 ≤ xss.length := fun h => (besideB_spec h).1.1
    obtain ⟨n, hn⟩ : ∃ n, n = xss.length := ⟨_, rfl⟩
    obtain ⟨ok, hok⟩ : ∃ ok, ok = besideB xss := ⟨_, rfl⟩
    have hn6 : n ≤ 6 := by omega
    rw [← hok, ← hn] at hcase
    rw [← hok] at hself
    rw [← hn, ← hok]
    have HCase := Lib.hid hcase
    clear hn hok hcase
    have hlit : AllW w3 n 0 (some ⟨w3.heap.size, 0, none⟩) 0 (w3.alloc (.cells #[] 23)) := ⟨OwnII.lit w3, (Below.refl _ _).alloc (Nat.le_refl _) _⟩
    go_wp2
    obtain ⟨wl, hwl⟩ : ∃ wl : World, wl = w3.alloc (.cells #[] 23) := ⟨_, rfl⟩
    rw [← hwl] at hlit ⊢
    clear hwl
    go_loopw [5, 6] (fun o c wi => ∃ (k : Nat) (ao : Option Addr) (co : Nat), k ≤ n ∧ c = .int .i64 k ∧ o = .slice ao k co ∧ AllW w3 n k ao co wi) (fun _ c _ => n - (intOf c).toNat)
    case atStart => exact ⟨0, _, 0, Nat.zero_le _, rfl, rfl, hlit⟩
    case round =>
      obtain ⟨k, ao, co, hk, rfl, rfl, ho, hb⟩ := hrel
      have HO := Lib.hid ho
      have HB := Lib.hid hb
      have hzb := hb.size
      clear hlit ho hb
      by_cases hlt : (k : Int) < (n : Int)
      · have hrow : FarW wr n k 0 (some ⟨wr.heap.size, 0, none⟩) 0 (wr.alloc (.cells #[] 3)) := ⟨OwnI.lit wr, (Below.refl _ _).alloc (Nat.le_refl _) _⟩
        go_wp2
        obtain ⟨wc, hwc⟩ : ∃ wc : World, wc = wr.alloc (.cells #[] 3) := ⟨_, rfl⟩
        rw [← hwc] at hrow ⊢
        clear hwc
        obtain ⟨wb, hwb⟩ : ∃ wb : World, wb = wr := ⟨_, rfl⟩
        rw [← hwb] at hrow HO HB hzb ⊢
        clear hwb
        go_loopw [7, 8] (fun r c wi => ∃ (j : Nat) (ar : Option Addr) (cr : Nat), j ≤ n ∧ c = .int .i64 j ∧ r = .slice ar j cr ∧ FarW wb n k j ar cr wi) (fun _ c _ => n - (intOf c).toNat)
        case atStart => exact ⟨0, _, 0, Nat.zero_le _, rfl, rfl, hrow⟩
        case round =>
          obtain ⟨j, ar, cr, hj, rfl, rfl, hr, hbr⟩ := hrel
          have HR := Lib.hid hr
          have HBR := Lib.hid hbr
          have hzr := hbr.size
          clear hrow hr hbr
          by_cases hjn : (j : Int) < (n : Int)
          · have hlen : ((farR n k).take j).length = j := by simp; omega
            have HL := Lib.hid hlen
            clear hlen
            have hjn' : j < n := by omega
            by_cases hc : j = k
            · have hd : ((k : Int) - (j : Int)) = 0 := by omega
              have hd2 : ((j : Int) - (k : Int)) = 0 := by omega
              have HC := Lib.hid hc
              clear hc
              have hown : OwnI wb.heap.size (wr.alloc (.cells #[.int .i64 0] 3)) (.slice ar j cr) ((farR n k).take j) := World.ownsRow.alloc HR.out _
              go_wp2_with (at_builtin; refine wpList_push_int _ rfl (.tmp 34) (.tmp 43) rfl wb.heap.size (.slice ar j cr) ((farR n k).take j) rfl hown ⟨wr.heap.size, 0, none⟩ 1 0 rfl (by simp) (by have := HL.out; omega) (by simp; omega) ?_; intro a' cap' w7 ho7 hg7; (try rw [HL.out] at ho7 ⊢); have HO7 := Lib.hid ho7; have HG7 := Lib.hid hg7; clear ho7 hg7)
              go_roundw
              case rel => exact ⟨j + 1, a', cap', by omega, by go_num, rfl, by rw [← farR_step hjn' (x := 0) (by rw [if_pos HC.out])]; exact HO7.out, (HBR.out.alloc hzr _).grown HG7.out (by simp; omega) (fun i hi => (World.ownsRow.lt HR.out i hi).1)⟩
              case measure => simp [intOf]; omega
            · have hcs : ((k : Int) - (j : Int) = 1 ∧ (j : Int) - (k : Int) = -1) ∨ ((j : Int) - (k : Int) = 1 ∧ (k : Int) - (j : Int) = -1) ∨ (2 ≤ (k : Int) - (j : Int)) ∨ (2 ≤ (j : Int) - (k : Int)) := by omega
              have HC := Lib.hid hc
              clear hc
              rcases hcs with ⟨hd, hd2⟩ | ⟨hd2, hd⟩ | hd | hd
              · have hown : OwnI wb.heap.size (wr.alloc (.cells #[.int .i64 1] 3)) (.slice ar j cr) ((farR n k).take j) := World.ownsRow.alloc HR.out _
                go_wp2_with (at_builtin; refine wpList_push_int _ rfl (.tmp 34) (.tmp 43) rfl wb.heap.size (.slice ar j cr) ((farR n k).take j) rfl hown ⟨wr.heap.size, 0, none⟩ 1 1 rfl (by simp) (by have := HL.out; omega) (by simp; omega) ?_; intro a' cap' w7 ho7 hg7; (try rw [HL.out] at ho7 ⊢); have HO7 := Lib.hid ho7; have HG7 := Lib.hid hg7; clear ho7 hg7)
                go_roundw
                case rel => exact ⟨j + 1, a', cap', by omega, by go_num, rfl, by rw [← farR_step hjn' (x := 1) (by rw [if_neg HC.out])]; exact HO7.out, (HBR.out.alloc hzr _).grown HG7.out (by simp; omega) (fun i hi => (World.ownsRow.lt HR.out i hi).1)⟩
                case measure => simp [intOf]; omega
              · have hown : OwnI wb.heap.size (wr.alloc (.cells #[.int .i64 1] 3)) (.slice ar j cr) ((farR n k).take j) := World.ownsRow.alloc HR.out _
                go_wp2_with (at_builtin; refine wpList_push_int _ rfl (.tmp 34) (.tmp 43) rfl wb.heap.size (.slice ar j cr) ((farR n k).take j) rfl hown ⟨wr.heap.size, 0, none⟩ 1 1 rfl (by simp) (by have := HL.out; omega) (by simp; omega) ?_; intro a' cap' w7 ho7 hg7; (try rw [HL.out] at ho7 ⊢); have HO7 := Lib.hid ho7; have HG7 := Lib.hid hg7; clear ho7 hg7)
                go_roundw
                case rel => exact ⟨j + 1, a', cap', by omega, by go_num, rfl, by rw [← farR_step hjn' (x := 1) (by rw [if_neg HC.out])]; exact HO7.out, (HBR.out.alloc hzr _).grown HG7.out (by simp; omega) (fun i hi => (World.ownsRow.lt HR.out i hi).1)⟩
                case measure => simp [intOf]; omega
              · have hd2 : (j : Int) - (k : Int) < (k : Int) - (j : Int) := by omega
                have hd3 : ¬ ((k : Int) - (j : Int) ≤ 1) := by omega
                have hd4 : ¬ ((k : Int) - (j : Int) ≤ (j : Int) - (k : Int)) := by omega
                have hd5 : ¬ ((k : Int) - (j : Int) < 1) := by omega
                have hown : OwnI wb.heap.size (wr.alloc (.cells #[.int .i64 1] 3)) (.slice ar j cr) ((farR n k).take j) := World.ownsRow.alloc HR.out _
                go_wp2_with (at_builtin; refine wpList_push_int _ rfl (.tmp 34) (.tmp 43) rfl wb.heap.size (.slice ar j cr) ((farR n k).take j) rfl hown ⟨wr.heap.size, 0, none⟩ 1 1 rfl (by simp) (by have := HL.out; omega) (by simp; omega) ?_; intro a' cap' w7 ho7 hg7; (try rw [HL.out] at ho7 ⊢); have HO7 := Lib.hid ho7; have HG7 := Lib.hid hg7; clear ho7 hg7)
                go_roundw
                case rel => exact ⟨j + 1, a', cap', by omega, by go_num, rfl, by rw [← farR_step hjn' (x := 1) (by rw [if_neg HC.out])]; exact HO7.out, (HBR.out.alloc hzr _).grown HG7.out (by simp; omega) (fun i hi => (World.ownsRow.lt HR.out i hi).1)⟩
                case measure => simp [intOf]; omega
              · have hd2 : (k : Int) - (j : Int) < (j : Int) - (k : Int) := by omega
                have hd3 : ¬ ((j : Int) - (k : Int) ≤ 1) := by omega
                have hd4 : ¬ ((j : Int) - (k : Int) ≤ (k : Int) - (j : Int)) := by omega
                have hd5 : ¬ ((j : Int) - (k : Int) < 1) := by omega
                have hown : OwnI wb.heap.size (wr.alloc (.cells #[.int .i64 1] 3)) (.slice ar j cr) ((farR n k).take j) := World.ownsRow.alloc HR.out _
                go_wp2_with (at_builtin; refine wpList_push_int _ rfl (.tmp 34) (.tmp 43) rfl wb.heap.size (.slice ar j cr) ((farR n k).take j) rfl hown ⟨wr.heap.size, 0, none⟩ 1 1 rfl (by simp) (by have := HL.out; omega) (by simp; omega) ?_; intro a' cap' w7 ho7 hg7; (try rw [HL.out] at ho7 ⊢); have HO7 := Lib.hid ho7; have HG7 := Lib.hid hg7; clear ho7 hg7)
                go_roundw
                case rel => exact ⟨j + 1, a', cap', by omega, by go_num, rfl, by rw [← farR_step hjn' (x := 1) (by rw [if_neg HC.out])]; exact HO7.out, (HBR.out.alloc hzr _).grown HG7.out (by simp; omega) (fun i hi => (World.ownsRow.lt HR.out i hi).1)⟩
                case measure => simp [intOf]; omega
          · have hjn' : j = n := by omega
            subst hjn'
            have HRow := Lib.hid (show OwnI wb.heap.size wr (.slice ar j cr) (farR j k) by have := HR.out; rwa [List.take_of_length_le (by simp)] at this)
            clear HR
            go_wp2_with (at_builtin; refine wpList_push_new wb _ rfl (.tmp 45) (.tmp 47) rfl w3.heap.size (.slice ao k co) ((allR j).take k) rfl HO.out HBR.out wr.heap.size rfl (.slice ar j cr) _ rfl HRow.out (by simp; omega) hzb ?_; intro a' cap' w8 ho8 hb8; (try rw [show ((allR j).take k).length = k by simp; omega] at ho8 ⊢); have HO8 := Lib.hid ho8; have HB8 := Lib.hid hb8; clear ho8 hb8)
            go_roundw
            case rel => exact ⟨k + 1, a', cap', by omega, by go_num, rfl, by rw [← allR_step (by omega)]; exact HO8.out, HB.out.trans HB8.out⟩
            case measure => simp [intOf]; omega
      · have hkn : k = n := by omega
        subst hkn
        have hall : Rows2 w3.heap.size wr (.slice ao k co) (allR k) := by
          have := HO.out
          rw [List.take_of_length_le (by simp)] at this
          exact this.rows (allR_in k)
        have hbb := hbb3.trans (HB.out.mono hbb3.size)
        clear HO HB
        cases ok
        · clear hall
          go_wp2_with fail
          refine (implBesideOk_any _ _ _ (rows_one_nought wr _ rfl)).mono ?_
          rintro e w5 ⟨rfl, hb5⟩
          have hbb5 := hbb.trans ((((Below.refl _ _).alloc (Nat.le_refl _) _).alloc (by simp) _ |>.trans (hb5.mono (by simp; omega))).mono hbb.size)
          clear hb5 hbb
          rw [show besideB [[0]] = true by decide]
          go_wp2_with fail
          refine (implBesideOk_any _ _ _ (Rows2.nil 0 w5)).mono ?_
          rintro e w6 ⟨rfl, hb6⟩
          have hbb6 := hbb5.trans (hb6.mono hbb5.size)
          clear hb6 hbb5
          rw [show besideB [] = false by decide]
          go_wp2_with fail
          refine (alive_any _).mono ?_
          rintro e w7 ⟨rfl, rfl⟩
          go_wp2
          go_ret
          exact ⟨rfl, hbb6⟩
        · have hbt := allR_ok (HCase.out rfl) hn6
          go_wp2_with fail
          refine (implBesideOk_any _ _ _ hall).mono ?_
          rintro e w4 ⟨rfl, hb4⟩
          rw [hbt]
          have hbb4 := hbb.trans (hb4.mono hbb.size)
          clear hb4 hbb hall hbt
          go_wp2_with fail
          refine (implBesideOk_any _ _ _ (rows_one_nought w4 _ rfl)).mono ?_
          rintro e w5 ⟨rfl, hb5⟩
          have hbb5 := hbb4.trans ((((Below.refl _ _).alloc (Nat.le_refl _) _).alloc (by simp) _ |>.trans (hb5.mono (by simp; omega))).mono hbb4.size)
          clear hb5 hbb4
          rw [show besideB [[0]] = true by decide]
          go_wp2_with fail
          refine (implBesideOk_any _ _ _ (Rows2.nil 0 w5)).mono ?_
          rintro e w6 ⟨rfl, hb6⟩
          have hbb6 := hbb5.trans (hb6.mono hbb5.size)
          clear hb6 hbb5
          rw [show besideB [] = false by decide]
          go_wp2_with fail
          refine (alive_any _).mono ?_
          rintro e w7 ⟨rfl, rfl⟩
          go_wp2
          go_ret
          exact ⟨rfl, hbb6⟩

end Go.Proofs.Ytoddomhpdeoeeaa
