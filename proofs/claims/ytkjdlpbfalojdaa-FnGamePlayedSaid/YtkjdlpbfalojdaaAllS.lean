/- The reference's AllCodes. -/
import Derived.Test.YtkjdlpbfalojdaaGs2
import Derived.Test.YtkjdlpbfalojdaaRowsR
namespace Go.Proofs.Ytkjdlpbfalojdaa
open Go.RowKit
set_option linter.unusedVariables false
set_option maxRecDepth 100000

def FreshR (xss : List (List Int)) (w : World) (e : Ending) (w' : World) : Prop := ∃ a cap, e = .returned (.slice a xss.length cap) ∧ OwnR w.heap.size w' (.slice a xss.length cap) xss ∧ Below w.heap.size w w'

def inL (x : List Int) (j : Nat) : List (List Int) := (List.range j).map fun (n : Nat) => x ++ [(n : Int)]
def midL (c : Nat) (L : List (List Int)) (n : Nat) : List (List Int) := (L.take n).flatMap fun x => inL x c
@[simp] theorem inL_length (x : List Int) (j : Nat) : (inL x j).length = j := by simp [inL]
theorem inL_step (x : List Int) (j : Nat) : inL x (j + 1) = inL x j ++ [x ++ [(j : Int)]] := by simp [inL, List.range_succ]
theorem midL_step {c : Nat} {L : List (List Int)} {n : Nat} (h : n < L.length) : midL c L (n + 1) = midL c L n ++ inL L[n] c := by
  unfold midL
  rw [List.take_succ_eq_append_getElem h, List.flatMap_append]
  simp
theorem midL_full (c k : Nat) {n : Nat} (h : (allL c k).length ≤ n) : midL c (allL c k) n = allL c (k + 1) := by
  unfold midL
  rw [List.take_of_length_le h]; rfl
theorem midL_length (c : Nat) (L : List (List Int)) {n : Nat} (h : n ≤ L.length) : (midL c L n).length = n * c := by
  induction n with
  | zero => simp [midL]
  | succ n ih => rw [midL_step (by omega), List.length_append, ih (by omega), inL_length, Nat.succ_mul]
theorem all_small {c k : Nat} (hc : c ≤ 5) (hk : k ≤ 3) : (allL c k).length ≤ 125 := by
  rw [allL_length]
  have : c ^ k ≤ 5 ^ k := Nat.pow_le_pow_left hc _
  have : 5 ^ k ≤ 5 ^ 3 := Nat.pow_le_pow_right (by omega) hk
  omega
theorem mid_small {c k n : Nat} (hc : c ≤ 5) (hk : k ≤ 2) (hn : n ≤ (allL c k).length) : (midL c (allL c k) n).length ≤ 625 := by
  rw [midL_length c _ hn]
  have := all_small hc (show k ≤ 3 by omega)
  calc n * c ≤ 125 * 5 := Nat.mul_le_mul (by omega) hc
    _ = 625 := by omega

set_option maxHeartbeats 4000000 in
theorem allS_any (n c : Nat) (w : World) (h : codesP n c) :
    Calls Try.prog 96 #[.int .i64 n, .int .i64 c] w (FreshR (allL c n) w) := by
  obtain ⟨⟨h1, h2⟩, h3, h4⟩ := h
  have q1 := fun W => l1In_yes n 1 3 W ⟨h1, h2⟩
  have q2 := fun W => l1In_yes c 1 5 W ⟨h3, h4⟩
  have hn3 : n ≤ 3 := by omega
  have hc5 : c ≤ 5 := by omega
  obtain ⟨W1, hW1⟩ : ∃ W1, W1 = (w.alloc (.cells #[] 38)).alloc (.cells #[] 3) := ⟨_, rfl⟩
  have hb1 : Below w.heap.size w (w.alloc (.cells #[] 38)) := (Below.refl _ _).alloc (Nat.le_refl _) _
  have hsz1 : (w.alloc (.cells #[] 38)).heap.size = w.heap.size + 1 := by simp
  have hO1 : OwnR w.heap.size (w.alloc (.cells #[] 38)) (.slice (some ⟨w.heap.size, 0, none⟩) 0 0) [] := (OwnII.lit w).toR
  have hR1 : OwnI (w.heap.size + 1) ((w.alloc (.cells #[] 38)).alloc (.cells #[] 3)) (.slice (some ⟨w.heap.size + 1, 0, none⟩) 0 0) [] := by have := OwnI.lit (w.alloc (.cells #[] 38)); rw [hsz1] at this; exact this
  have hbb : Below (w.alloc (.cells #[] 38)).heap.size (w.alloc (.cells #[] 38)) ((w.alloc (.cells #[] 38)).alloc (.cells #[] 3)) := (Below.refl _ _).alloc (Nat.le_refl _) _
  have HB1 := Lib.hid hb1
  have HO1 := Lib.hid hO1
  have HR1 := Lib.hid hR1
  have HBB := Lib.hid hbb
  have HSZ := Lib.hid hsz1
  clear h1 h2 h3 h4 hb1 hO1 hR1 hbb hsz1
  go_enter Try.func96, Try.ntmps96
  go_wp2_with fail
  refine (q1 _).mono ?_
  rintro e w2 ⟨rfl, rfl⟩
  go_wp2_with fail
  refine (q2 _).mono ?_
  rintro e w2 ⟨rfl, rfl⟩
  clear q1 q2
  go_wp2_with (at_builtin; refine wpList_push_rnew (w.alloc (.cells #[] 38)) _ rfl (.tmp 20) (.tmp 22) rfl w.heap.size (.slice (some ⟨w.heap.size, 0, none⟩) 0 0) [] rfl HO1.out HBB.out (w.heap.size + 1 + 1) (by simp) (.slice (some ⟨w.heap.size + 1, 0, none⟩) 0 0) [] rfl (by rw [HSZ.out]; exact HR1.out) (by simp) (by simp) ?_; intro a3 c3 w3 ho3 hb3; have HO3 := Lib.hid ho3; have HB3 := Lib.hid hb3; clear ho3 hb3)
  have HL0 := Lib.hid (show allL c 0 = [[]] from rfl)
  clear hW1 HO1 HR1 HBB HSZ
  go_loopw [5, 6] (fun s i wr => ∃ (k : Nat) (a : Option Addr) (cap : Nat), k ≤ n ∧ i = .int .i64 k ∧ s = .slice a (allL c k).length cap ∧ OwnR w.heap.size wr (.slice a (allL c k).length cap) (allL c k) ∧ Below w.heap.size w wr) (fun _ i _ => n - (intOf i).toNat)
  case atStart => exact ⟨0, a3, c3, Nat.zero_le _, rfl, rfl, HO3.out, HB1.out.trans HB3.out⟩
  case round =>
    obtain ⟨k, ak, ck, hk, rfl, rfl, ho, hb⟩ := hrel
    obtain ⟨wo, rfl⟩ : ∃ x, x = wr := ⟨_, rfl⟩
    have HO := Lib.hid ho
    have HB := Lib.hid hb
    have hz := hb.size
    obtain ⟨L, hL⟩ : ∃ L, L = allL c k := ⟨_, rfl⟩
    obtain ⟨ak', ck', he, hck1, hck2⟩ := ho.shape
    injection he with e1 _ e3
    subst e1 e3
    clear HO3 HB3 HB1 ho hb HL0
    by_cases hlt : k < n
    · have hLs := all_small hc5 (show k ≤ 3 by omega)
      have HN := Lib.hid (show allL c (k + 1) = midL c L L.length from by rw [hL]; exact (midL_full c k (Nat.le_refl _)).symm)
      have HMS := Lib.hid (fun j (hj : j ≤ L.length) => show (midL c L j).length ≤ 625 from by rw [hL] at hj ⊢; exact mid_small hc5 (by omega) hj)
      have HXL := Lib.hid (fun j (hj : j < L.length) => show (L[j]).length ≤ 3 from by have := (allL_row (c := c) (k := k) (x := L[j]) (by rw [← hL]; exact List.getElem_mem hj)).1; omega)
      rw [← hL] at HO hLs hck1 ⊢
      clear hL
      have hb1 : Below wo.heap.size wo (wo.alloc (.cells #[] 38)) := (Below.refl _ _).alloc (Nat.le_refl _) _
      have HO1 := Lib.hid ((OwnII.lit wo).toR)
      have HBk := Lib.hid hb1
      clear hb1
      go_wp2
      obtain ⟨wk, hwk⟩ : ∃ wk, wk = wo.alloc (.cells #[] 38) := ⟨_, rfl⟩
      rw [← hwk] at HO1 HBk ⊢
      clear hwk
      go_loopw [7, 8] (fun s i wi => ∃ (m : Nat) (a : Option Addr) (cap : Nat), m ≤ L.length ∧ i = .int .i64 m ∧ s = .slice a (midL c L m).length cap ∧ OwnR wo.heap.size wi (.slice a (midL c L m).length cap) (midL c L m) ∧ Below wo.heap.size wo wi) (fun _ i _ => L.length - (intOf i).toNat)
      case atStart => exact ⟨0, _, _, Nat.zero_le _, rfl, rfl, HO1.out, HBk.out⟩
      case round =>
        obtain ⟨m, am, cm, hm, rfl, rfl, ho, hb⟩ := hrel
        obtain ⟨wm, rfl⟩ : ∃ x, x = wr := ⟨_, rfl⟩
        have HOm := Lib.hid ho
        have HBm := Lib.hid hb
        obtain ⟨LM, hLM⟩ : ∃ LM, LM = midL c L m := ⟨_, rfl⟩
        have hms := HMS.out m (by omega)
        rw [← hLM] at HOm hms ⊢
        clear ho hb HO1 HBk
        by_cases hmL : m < L.length
        · have HMN := Lib.hid (midL_step (c := c) hmL)
          have hxl := HXL.out m hmL
          obtain ⟨g, u, e1, hgB, hcu, hou⟩ := (HO.out.below HBm.out).at m hmL
          have HOU := Lib.hid hou
          obtain ⟨x, hx⟩ : ∃ x, x = L[m] := ⟨_, rfl⟩
          rw [← hx, ← hLM] at HMN
          rw [← hx] at HOU hxl
          subst e1
          have HX := Lib.hid hx
          clear hx hou hLM HMS HXL
          go_wp2
          go_loopw [7, 9] (fun s i wi => ∃ (j : Nat) (a : Option Addr) (cap : Nat), j ≤ c ∧ i = .int .i64 j ∧ s = .slice a (LM ++ inL x j).length cap ∧ OwnR wo.heap.size wi (.slice a (LM ++ inL x j).length cap) (LM ++ inL x j) ∧ Below wo.heap.size wo wi) (fun _ i _ => c - (intOf i).toNat)
          case atStart => exact ⟨0, am, cm, Nat.zero_le _, rfl, by simp [inL], by simpa [inL] using HOm.out, HBm.out⟩
          case round =>
            obtain ⟨j, aj, cj, hj, rfl, rfl, ho, hb⟩ := hrel
            obtain ⟨wj, rfl⟩ : ∃ x, x = wr := ⟨_, rfl⟩
            by_cases hjc : j < c
            · obtain ⟨g', u', e1, hgB', hcu', hou'⟩ := (HO.out.below hb).at m hmL
              injection e1 with e1
              injection e1 with e1
              subst e1
              rw [← HX.out] at hou'
              have hlx : (inL x j).length = j := inL_length x j
              have hlen : (LM ++ inL x j).length ≤ 1099511627776 := by rw [List.length_append, hlx]; omega
              have HSTEP := Lib.hid (inL_step x j)
              have HLEN := Lib.hid hlen
              obtain ⟨M, hM⟩ : ∃ M, M = LM ++ inL x j := ⟨_, rfl⟩
              rw [← hM] at ho HLEN ⊢
              have HM := Lib.hid hM
              have HOj := Lib.hid ho
              have HBj := Lib.hid hb
              have HOU2 := Lib.hid (show OwnI w.heap.size (wj.alloc (.cells #[] 3)) u' x from World.ownsRow.alloc hou' _)
              have hzj := hb.size
              have hcu2 := (Above.of_below (B := 0) ((Below.refl wj.heap.size wj).alloc (Nat.le_refl _) (.cells #[] 3))).cell (Nat.zero_le _) hcu'
              have hi0 : (0 : Int) ≤ (m : Int) := by omega
              have hi1 : (m : Int) < (L.length : Int) := by omega
              clear hM ho hb hou' hlx hlen hcu hcu'
              go_wp2_with (first
                | (at_builtin; refine wpList_push_all (wj.alloc (.cells #[] 3)) rfl (.tmp 42) (.tmp 46) rfl wj.heap.size w.heap.size (.slice (some ⟨wj.heap.size, 0, none⟩) 0 0) [] rfl (OwnI.lit wj) u' x rfl HOU2.out (by simp; omega) (by simp) ?_; intro a4 c4 w4 ho4 hg4; rw [List.nil_append] at ho4; rw [List.length_nil, Nat.zero_add] at ho4 ⊢; have hb4 := ((Below.refl wj.heap.size wj).alloc (Nat.le_refl _) (.cells #[] 3)).grown hg4 (by simp) (fun k hk => by cases hk; exact Nat.le_refl _); have HO4 := Lib.hid ho4; have HB4 := Lib.hid hb4; have hz4 := hb4.size; clear ho4 hg4 hb4)
                | (at_builtin; refine wpList_push_int (w4.alloc (.cells #[.int .i64 (j : Int)] 3)) rfl (.tmp 47) (.tmp 49) rfl wj.heap.size (.slice a4 x.length c4) x rfl (World.ownsRow.alloc HO4.out _) ⟨w4.heap.size, 0, none⟩ 1 j rfl (cell_of_one (heap_alloc_new w4 _)) (by omega) (by simp; omega) ?_; intro a5 c5 w5 ho5 hg5; have hb5 := (HB4.out.alloc hz4 (.cells #[.int .i64 (j : Int)] 3)).grown hg5 (by simp; omega) (fun k hk => (World.ownsRow.lt HO4.out k hk).1); have HO5 := Lib.hid ho5; have HB5 := Lib.hid hb5; have hz5 := hb5.size; clear ho5 hg5 hb5)
                | (at_builtin; refine wpList_push_rnew wj w5 rfl (.tmp 41) (.tmp 51) rfl wo.heap.size (.slice aj M.length cj) M rfl HOj.out HB5.out w5.heap.size rfl (.slice a5 (x.length + 1) c5) (x ++ [(j : Int)]) rfl (by simpa using HO5.out) HLEN.out hzj ?_; intro a6 c6 w6 ho6 hb6; have HO6 := Lib.hid ho6; have HB6 := Lib.hid hb6; clear ho6 hb6))
              have hfin : M ++ [x ++ [(j : Int)]] = LM ++ inL x (j + 1) := by rw [HM.out, HSTEP.out, List.append_assoc]
              have HF := Lib.hid hfin
              clear hfin
              go_roundw
              case rel => exact ⟨j + 1, a6, c6, by omega, by go_num, by rw [← HF.out]; simp, by rw [← HF.out]; simpa using HO6.out, HBj.out.trans HB6.out⟩
              case measure => simp [intOf]; omega
            · have e : j = c := by omega
              subst e
              have HOj := Lib.hid ho
              have HBj := Lib.hid hb
              clear ho hb
              go_wp2
              go_roundw
              case rel => exact ⟨m + 1, aj, cj, by omega, by go_num, by rw [HMN.out], by rw [HMN.out]; exact HOj.out, HBj.out⟩
              case measure => simp [intOf]; omega
        · have e : m = L.length := by omega
          subst e
          rw [← HN.out] at hLM
          have HLM := Lib.hid hLM
          clear hLM HMS HXL
          go_wp2
          go_roundw
          case rel => exact ⟨k + 1, am, cm, by omega, by go_num, by rw [HLM.out], by rw [← HLM.out]; exact HOm.out.mono hz, HB.out.trans (HBm.out.mono hz)⟩
          case measure => simp [intOf]; omega
    · have e : k = n := by omega
      subst e
      have HLL := Lib.hid hL
      clear hL
      go_wp2
      go_ret
      refine ⟨ak, ck, ?_, ?_, HB.out⟩
      · rfl
      · exact HO.out

end Go.Proofs.Ytkjdlpbfalojdaa
