/- The reference's AllCodes. -/
import Derived.Test.YtenlngclocfnlaaDoorBunB
import Derived.WideKeyEntry
import Derived.DeepKeys4
import Derived.RangeFuncLeaves
import Derived.RangeFuncNested
/- The reference's AllCodes. -/
namespace Go.Proofs.YtenlngclocfnlaaDoor
open Go.RowKit
set_option linter.unusedVariables false
set_option maxRecDepth 100000

def FreshR (xss : List (List Int)) (w : World) (e : Ending) (w' : World) : Prop := ∃ a cap, e = .returned (.slice a xss.length cap) ∧ OwnR w.heap.size w' (.slice a xss.length cap) xss ∧ Below w.heap.size w w'

def inL (x : List Int) (j : Nat) : List (List Int) := (List.range j).map fun (n : Nat) => x ++ [(n : Int)]
def midL (c : Nat) (L : List (List Int)) (n : Nat) : List (List Int) := (L.take n).flatMap fun x => inL x c
@[simp] theorem inL_length (x : List Int) (j : Nat) : (inL x j).length = j := by simp [inL]
theorem inL_step (x : List Int) (j : Nat) : inL x (j + 1) = inL x j ++ [x ++ [(j : Int)]] := by simp [inL, List.range_succ]
theorem midL_step {c : Nat} {L : List (List Int)} {n : Nat} (h : n < L.length) : midL c L (n + 1) = midL c L n ++ inL L[n] c := by
  unfold midL
  rw [List.take_succ_eq_append_getElem h, List.flatMap_append]
  simp
theorem midL_full (c k : Nat) {n : Nat} (h : (allL c k).length ≤ n) : midL c (allL c k) n = allL c (k + 1) := by
  unfold midL
  rw [List.take_of_length_le h]; rfl
theorem midL_length (c : Nat) (L : List (List Int)) {n : Nat} (h : n ≤ L.length) : (midL c L n).length = n * c := by
  induction n with
  | zero => simp [midL]
  | succ n ih => rw [midL_step (by omega), List.length_append, ih (by omega), inL_length, Nat.succ_mul]
theorem all_small {c k : Nat} (hc : c ≤ 5) (hk : k ≤ 3) : (allL c k).length ≤ 125 := by
  rw [allL_length]
  have : c ^ k ≤ 5 ^ k := Nat.pow_le_pow_left hc _
  have : 5 ^ k ≤ 5 ^ 3 := Nat.pow_le_pow_right (by omega) hk
  omega
theorem mid_small {c k n : Nat} (hc : c ≤ 5) (hk : k ≤ 2) (hn : n ≤ (allL c k).length) : (midL c (allL c k) n).length ≤ 625 := by
  rw [midL_length c _ hn]
  have := all_small hc (show k ≤ 3 by omega)
  calc n * c ≤ 125 * 5 := Nat.mul_le_mul (by omega) hc
    _ = 625 := by omega

set_option maxHeartbeats 4000000 in
theorem allS_any (n c : Nat) (w : World) (h : codesP n c) :
    Calls Tryd.prog 87 #[.int .i64 n, .int .i64 c] w (FreshR (allL c n) w) := by
  obtain ⟨⟨h1, h2⟩, h3, h4⟩ := h
  have q1 := fun W => l1In_yes n 1 3 W ⟨h1, h2⟩
  have q2 := fun W => l1In_yes c 1 5 W ⟨h3, h4⟩
  have hn3 : n ≤ 3 := by omega
  have hc5 : c ≤ 5 := by omega
  obtain ⟨W1, hW1⟩ : ∃ W1, W1 = (w.alloc (.cells #[] 22)).alloc (.cells #[] 3) := ⟨_, rfl⟩
  have hb1 : Below w.heap.size w (w.alloc (.cells #[] 22)) := (Below.refl _ _).alloc (Nat.le_refl _) _
  have hsz1 : (w.alloc (.cells #[] 22)).heap.size = w.heap.size + 1 := by simp
  have hO1 : OwnR w.heap.size (w.alloc (.cells #[] 22)) (.slice (some ⟨w.heap.size, 0, none⟩) 0 0) [] := (OwnII.lit w).toR
  have hR1 : OwnI (w.heap.size + 1) ((w.alloc (.cells #[] 22)).alloc (.cells #[] 3)) (.slice (some ⟨w.heap.size + 1, 0, none⟩) 0 0) [] := by have := OwnI.lit (w.alloc (.cells #[] 22)); rw [hsz1] at this; exact this
  have hbb : Below (w.alloc (.cells #[] 22)).heap.size (w.alloc (.cells #[] 22)) ((w.alloc (.cells #[] 22)).alloc (.cells #[] 3)) := (Below.refl _ _).alloc (Nat.le_refl _) _
  have HB1 := Lib.hid hb1
  have HO1 := Lib.hid hO1
  have HR1 := Lib.hid hR1
  have HBB := Lib.hid hbb
  have HSZ := Lib.hid hsz1
  clear h1 h2 h3 h4 hb1 hO1 hR1 hbb hsz1
  go_enter Tryd.func87, Tryd.ntmps87
  go_wp2_with fail
  refine (q1 _).mono ?_
  rintro e w2 ⟨rfl, rfl⟩
  go_wp2_with fail
  refine (q2 _).mono ?_
  rintro e w2 ⟨rfl, rfl⟩
  clear q1 q2
  go_wp2_with (at_builtin; refine wpList_push_rnew (w.alloc (.cells #[] 22)) _ rfl (.tmp 20) (.tmp 22) rfl w.heap.size (.slice (some ⟨w.heap.size, 0, none⟩) 0 0) [] rfl HO1.out HBB.out (w.heap.size + 1 + 1) (by simp) (.slice (some ⟨w.heap.size + 1, 0, none⟩) 0 0) [] rfl (by rw [HSZ.out]; exact HR1.out) (by simp) (by simp) ?_; intro a3 c3 w3 ho3 hb3; have HO3 := Lib.hid ho3; have HB3 := Lib.hid hb3; clear ho3 hb3)
  have HL0 := Lib.hid (show allL c 0 = [[]] from rfl)
  clear hW1 HO1 HR1 HBB HSZ
  go_loopw [5, 6] (fun s i wr => ∃ (k : Nat) (a : Option Addr) (cap : Nat), k ≤ n ∧ i = .int .i64 k ∧ s = .slice a (allL c k).length cap ∧ OwnR w.heap.size wr (.slice a (allL c k).length cap) (allL c k) ∧ Below w.heap.size w wr) (fun _ i _ => n - (intOf i).toNat)
  case atStart => exact ⟨0, a3, c3, Nat.zero_le _, rfl, rfl, HO3.out, HB1.out.trans HB3.out⟩
  case round =>
    obtain ⟨k, ak, ck, hk, rfl, rfl, ho, hb⟩ := hrel
    obtain ⟨wo, rfl⟩ : ∃ x, x = wr := ⟨_, rfl⟩
    have HO := Lib.hid ho
    have HB := Lib.hid hb
    have hz := hb.size
    obtain ⟨L, hL⟩ : ∃ L, L = allL c k := ⟨_, rfl⟩
    obtain ⟨ak', ck', he, hck1, hck2⟩ := ho.shape
    injection he with e1 _ e3
    subst e1 e3
    clear HO3 HB3 HB1 ho hb HL0
    by_cases hlt : k < n
    · have hLs := all_small hc5 (show k ≤ 3 by omega)
      have HN := Lib.hid (show allL c (k + 1) = midL c L L.length from by rw [hL]; exact (midL_full c k (Nat.le_refl _)).symm)
      have HMS := Lib.hid (fun j (hj : j ≤ L.length) => show (midL c L j).length ≤ 625 from by rw [hL] at hj ⊢; exact mid_small hc5 (by omega) hj)
      have HXL := Lib.hid (fun j (hj : j < L.length) => show (L[j]).length ≤ 3 from by have := (allL_row (c := c) (k := k) (x := L[j]) (by rw [← hL]; exact List.getElem_mem hj)).1; omega)
      rw [← hL] at HO hLs hck1 ⊢
      clear hL
      have hb1 : Below wo.heap.size wo (wo.alloc (.cells #[] 22)) := (Below.refl _ _).alloc (Nat.le_refl _) _
      have HO1 := Lib.hid ((OwnII.lit wo).toR)
      have HBk := Lib.hid hb1
      clear hb1
      go_wp2
      obtain ⟨wk, hwk⟩ : ∃ wk, wk = wo.alloc (.cells #[] 22) := ⟨_, rfl⟩
      rw [← hwk] at HO1 HBk ⊢
      clear hwk
      go_loopw [7, 8] (fun s i wi => ∃ (m : Nat) (a : Option Addr) (cap : Nat), m ≤ L.length ∧ i = .int .i64 m ∧ s = .slice a (midL c L m).length cap ∧ OwnR wo.heap.size wi (.slice a (midL c L m).length cap) (midL c L m) ∧ Below wo.heap.size wo wi) (fun _ i _ => L.length - (intOf i).toNat)
      case atStart => exact ⟨0, _, _, Nat.zero_le _, rfl, rfl, HO1.out, HBk.out⟩
      case round =>
        obtain ⟨m, am, cm, hm, rfl, rfl, ho, hb⟩ := hrel
        obtain ⟨wm, rfl⟩ : ∃ x, x = wr := ⟨_, rfl⟩
        have HOm := Lib.hid ho
        have HBm := Lib.hid hb
        obtain ⟨LM, hLM⟩ : ∃ LM, LM = midL c L m := ⟨_, rfl⟩
        have hms := HMS.out m (by omega)
        rw [← hLM] at HOm hms ⊢
        clear ho hb HO1 HBk
        by_cases hmL : m < L.length
        · have HMN := Lib.hid (midL_step (c := c) hmL)
          have hxl := HXL.out m hmL
          obtain ⟨g, u, e1, hgB, hcu, hou⟩ := (HO.out.below HBm.out).at m hmL
          have HOU := Lib.hid hou
          obtain ⟨x, hx⟩ : ∃ x, x = L[m] := ⟨_, rfl⟩
          rw [← hx, ← hLM] at HMN
          rw [← hx] at HOU hxl
          subst e1
          have HX := Lib.hid hx
          clear hx hou hLM HMS HXL
          go_wp2
          go_loopw [7, 9] (fun s i wi => ∃ (j : Nat) (a : Option Addr) (cap : Nat), j ≤ c ∧ i = .int .i64 j ∧ s = .slice a (LM ++ inL x j).length cap ∧ OwnR wo.heap.size wi (.slice a (LM ++ inL x j).length cap) (LM ++ inL x j) ∧ Below wo.heap.size wo wi) (fun _ i _ => c - (intOf i).toNat)
          case atStart => exact ⟨0, am, cm, Nat.zero_le _, rfl, by simp [inL], by simpa [inL] using HOm.out, HBm.out⟩
          case round =>
            obtain ⟨j, aj, cj, hj, rfl, rfl, ho, hb⟩ := hrel
            obtain ⟨wj, rfl⟩ : ∃ x, x = wr := ⟨_, rfl⟩
            by_cases hjc : j < c
            · obtain ⟨g', u', e1, hgB', hcu', hou'⟩ := (HO.out.below hb).at m hmL
              injection e1 with e1
              injection e1 with e1
              subst e1
              rw [← HX.out] at hou'
              have hlx : (inL x j).length = j := inL_length x j
              have hlen : (LM ++ inL x j).length ≤ 1099511627776 := by rw [List.length_append, hlx]; omega
              have HSTEP := Lib.hid (inL_step x j)
              have HLEN := Lib.hid hlen
              obtain ⟨M, hM⟩ : ∃ M, M = LM ++ inL x j := ⟨_, rfl⟩
              rw [← hM] at ho HLEN ⊢
              have HM := Lib.hid hM
              have HOj := Lib.hid ho
              have HBj := Lib.hid hb
              have HOU2 := Lib.hid (show OwnI w.heap.size (wj.alloc (.cells #[] 3)) u' x from World.ownsRow.alloc hou' _)
              have hzj := hb.size
              have hcu2 := (Above.of_below (B := 0) ((Below.refl wj.heap.size wj).alloc (Nat.le_refl _) (.cells #[] 3))).cell (Nat.zero_le _) hcu'
              have hi0 : (0 : Int) ≤ (m : Int) := by omega
              have hi1 : (m : Int) < (L.length : Int) := by omega
              clear hM ho hb hou' hlx hlen hcu hcu'
              go_wp2_with (first
                | (at_builtin; refine wpList_push_all (wj.alloc (.cells #[] 3)) rfl (.tmp 42) (.tmp 46) rfl wj.heap.size w.heap.size (.slice (some ⟨wj.heap.size, 0, none⟩) 0 0) [] rfl (OwnI.lit wj) u' x rfl HOU2.out (by simp; omega) (by simp) ?_; intro a4 c4 w4 ho4 hg4; rw [List.nil_append] at ho4; rw [List.length_nil, Nat.zero_add] at ho4 ⊢; have hb4 := ((Below.refl wj.heap.size wj).alloc (Nat.le_refl _) (.cells #[] 3)).grown hg4 (by simp) (fun k hk => by cases hk; exact Nat.le_refl _); have HO4 := Lib.hid ho4; have HB4 := Lib.hid hb4; have hz4 := hb4.size; clear ho4 hg4 hb4)
                | (at_builtin; refine wpList_push_int (w4.alloc (.cells #[.int .i64 (j : Int)] 3)) rfl (.tmp 47) (.tmp 49) rfl wj.heap.size (.slice a4 x.length c4) x rfl (World.ownsRow.alloc HO4.out _) ⟨w4.heap.size, 0, none⟩ 1 j rfl (cell_of_one (heap_alloc_new w4 _)) (by omega) (by simp; omega) ?_; intro a5 c5 w5 ho5 hg5; have hb5 := (HB4.out.alloc hz4 (.cells #[.int .i64 (j : Int)] 3)).grown hg5 (by simp; omega) (fun k hk => (World.ownsRow.lt HO4.out k hk).1); have HO5 := Lib.hid ho5; have HB5 := Lib.hid hb5; have hz5 := hb5.size; clear ho5 hg5 hb5)
                | (at_builtin; refine wpList_push_rnew wj w5 rfl (.tmp 41) (.tmp 51) rfl wo.heap.size (.slice aj M.length cj) M rfl HOj.out HB5.out w5.heap.size rfl (.slice a5 (x.length + 1) c5) (x ++ [(j : Int)]) rfl (by simpa using HO5.out) HLEN.out hzj ?_; intro a6 c6 w6 ho6 hb6; have HO6 := Lib.hid ho6; have HB6 := Lib.hid hb6; clear ho6 hb6))
              have hfin : M ++ [x ++ [(j : Int)]] = LM ++ inL x (j + 1) := by rw [HM.out, HSTEP.out, List.append_assoc]
              have HF := Lib.hid hfin
              clear hfin
              go_roundw
              case rel => exact ⟨j + 1, a6, c6, by omega, by go_num, by rw [← HF.out]; simp, by rw [← HF.out]; simpa using HO6.out, HBj.out.trans HB6.out⟩
              case measure => simp [intOf]; omega
            · have e : j = c := by omega
              subst e
              have HOj := Lib.hid ho
              have HBj := Lib.hid hb
              clear ho hb
              go_wp2
              go_roundw
              case rel => exact ⟨m + 1, aj, cj, by omega, by go_num, by rw [HMN.out], by rw [HMN.out]; exact HOj.out, HBj.out⟩
              case measure => simp [intOf]; omega
        · have e : m = L.length := by omega
          subst e
          rw [← HN.out] at hLM
          have HLM := Lib.hid hLM
          clear hLM HMS HXL
          go_wp2
          go_roundw
          case rel => exact ⟨k + 1, am, cm, by omega, by go_num, by rw [HLM.out], by rw [← HLM.out]; exact HOm.out.mono hz, HB.out.trans (HBm.out.mono hz)⟩
          case measure => simp [intOf]; omega
    · have e : k = n := by omega
      subst e
      have HLL := Lib.hid hL
      clear hL
      go_wp2
      go_ret
      refine ⟨ak, ck, ?_, ?_, HB.out⟩
      · rfl
      · exact HO.out

end Go.Proofs.YtenlngclocfnlaaDoor

/- The reference's FittingCodes. -/
namespace Go.Proofs.YtenlngclocfnlaaDoor
open Go.RowKit
set_option linter.unusedVariables false
set_option maxRecDepth 100000

theorem filter_hit {α : Type} {L : List α} {q : α → Bool} {k : Nat} (h : k < L.length) (e : q L[k] = true) : (L.take (k + 1)).filter q = (L.take k).filter q ++ [L[k]] := by
  rw [List.take_succ_eq_append_getElem h, List.filter_append]; simp [e]
theorem filter_miss {α : Type} {L : List α} {q : α → Bool} {k : Nat} (h : k < L.length) (e : q L[k] = false) : (L.take (k + 1)).filter q = (L.take k).filter q := by
  rw [List.take_succ_eq_append_getElem h, List.filter_append]; simp [e]

theorem code_in64 {p c : Int} {x : List Int} (h : CodeP p c x) : ∀ y ∈ x, In64 y := fun y hy => by
  obtain ⟨⟨_, h1, h2⟩, _, h4⟩ := h
  have := h4 y hy
  unfold In64; omega
theorem own_nat {p c : Int} (h : codesP p c) : ∃ n m : Nat, p = n ∧ c = m ∧ n ≤ 3 ∧ m ≤ 5 := by
  obtain ⟨⟨h1, h2⟩, h3, h4⟩ := h
  exact ⟨p.toNat, c.toNat, by omega, by omega, by omega, by omega⟩

/-- Where out lies: in the block z or behind A. -/
def Far (z A : Nat) (v : Value) : Prop := ∀ k, v.ownBlock = some k → k = z ∨ A ≤ k

set_option maxHeartbeats 4000000 in
theorem fitS_any {B : Nat} (p c : Int) (v : Value) (gs : List Gs) (w : World) (h : GL B w v gs) :
    Calls Tryd.prog 77 #[.int .i64 p, .int .i64 c, v] w (FreshR (fitL p c gs) w) := by
  have hb1 : Below w.heap.size w (w.alloc (.cells #[] 22)) := (Below.refl _ _).alloc (Nat.le_refl _) _
  have hO1 : OwnR w.heap.size (w.alloc (.cells #[] 22)) (.slice (some ⟨w.heap.size, 0, none⟩) 0 0) [] := (OwnII.lit w).toR
  have hG := guessesS_any p c v gs _ (h.below hb1)
  have hsh : ∃ a cap, v = .slice a gs.length cap := by obtain ⟨a, cap, _, hv, _⟩ := h; exact ⟨a, cap, hv⟩
  obtain ⟨a, cap, rfl⟩ := hsh
  cases hg : guessesB p c gs
  · rw [hg] at hG
    have HR := Lib.hid (show fitL p c gs = [] from by unfold fitL; rw [hg]; rfl)
    have HO := Lib.hid hO1
    have HB := Lib.hid hb1
    clear h hg hb1 hO1
    go_enter Tryd.func77, Tryd.ntmps77
    go_wp2_with fail
    refine hG.mono ?_
    rintro e w2 ⟨rfl, rfl⟩
    clear hG
    go_wp2
    go_ret
    exact ⟨some ⟨w.heap.size, 0, none⟩, 0, by rw [HR.out]; rfl, by rw [HR.out]; exact HO.out, HB.out⟩
  · rw [hg] at hG
    obtain ⟨n, m, rfl, rfl, hn3, hm5⟩ := own_nat (guesses_codes hg)
    have hA := allS_any n m (w.alloc (.cells #[] 22)) (guesses_codes hg)
    have HR := Lib.hid (show fitL n m gs = (allL m n).filter (fun x => fitsB x gs) from by unfold fitL; rw [hg]; rfl)
    have HC := Lib.hid (fun x (hx : x ∈ allL m n) => (allP_mem (guesses_codes hg) (x := x)).1 (by simpa [allP] using hx))
    have HLs := Lib.hid (all_small hm5 hn3)
    have HO := Lib.hid hO1
    have HB := Lib.hid hb1
    have HG := Lib.hid hg
    have HH := Lib.hid h
    clear h hg hb1 hO1
    go_enter Tryd.func77, Tryd.ntmps77
    go_wp2_with fail
    refine hG.mono ?_
    rintro e w2 ⟨rfl, rfl⟩
    clear hG
    go_wp2_with fail
    refine hA.mono ?_
    rintro e w2 ⟨a2, c2, rfl, ho2, hb2⟩
    clear hA
    have hz1 : (w.alloc (.cells #[] 22)).heap.size = w.heap.size + 1 := by simp
    rw [hz1] at ho2 hb2
    have hz2 := hb2.size
    rw [hz1] at hz2
    have HO1 := Lib.hid (HO.out.below (by rw [hz1]; exact hb2))
    have HB1 := Lib.hid (HB.out.trans (hb2.mono (by omega)))
    obtain ⟨L, hL⟩ : ∃ L, L = allL m n := ⟨_, rfl⟩
    rw [← hL] at HC HLs HR ho2 ⊢
    obtain ⟨a2', c2', he, hc21, hc22⟩ := ho2.shape
    injection he with e1 _ e3
    subst e1 e3
    have HO2 := Lib.hid ho2
    clear hL HO HB ho2 hb2 hz1
    go_wp2
    go_loopw [7, 9] (fun s i wr => ∃ (k : Nat) (a : Option Addr) (cap : Nat), k ≤ L.length ∧ i = .int .i64 k ∧ s = .slice a ((L.take k).filter fun x => fitsB x gs).length cap ∧ OwnR w.heap.size wr (.slice a ((L.take k).filter fun x => fitsB x gs).length cap) ((L.take k).filter fun x => fitsB x gs) ∧
      Far w.heap.size w2.heap.size (.slice a ((L.take k).filter fun x => fitsB x gs).length cap) ∧ Above (w.heap.size + 1) w2 wr ∧ Below w.heap.size w wr ∧ w2.heap.size ≤ wr.heap.size) (fun _ i _ => L.length - (intOf i).toNat)
    case atStart => exact ⟨0, _, _, Nat.zero_le _, rfl, rfl, HO1.out, fun k hk => by cases hk; exact .inl rfl, Above.refl _ _, HB1.out, Nat.le_refl _⟩
    case round =>
      obtain ⟨k, ak, ck, hk, rfl, rfl, ho, hfar, hab, hb, hsz⟩ := hrel
      obtain ⟨wk, rfl⟩ : ∃ x, x = wr := ⟨_, rfl⟩
      have hB2 := hb.size
      by_cases hlt : k < L.length
      · have hHIT := filter_hit (q := fun x => fitsB x gs) hlt
        have hMIS := filter_miss (q := fun x => fitsB x gs) hlt
        obtain ⟨g, u, e1, hgB, hcu, hou⟩ := (HO2.out.keep hab).at k hlt
        have hcx := HC.out _ (List.getElem_mem hlt)
        have hF := fitsS_any n m (.slice a gs.length cap) u gs L[k] wk (HH.out.below hb) (hou.toInts (code_in64 hcx)) HG.out hcx
        have hlen : ((L.take k).filter fun x => fitsB x gs).length ≤ 125 := Nat.le_trans (List.length_filter_le _ _) (by have := HLs.out; simp; omega)
        obtain ⟨x, hx⟩ : ∃ x, x = L[k] := ⟨_, rfl⟩
        rw [← hx] at hHIT hMIS hou hF
        subst e1
        obtain ⟨au, cu, rfl, _⟩ := own_shape hou
        obtain ⟨M, hM⟩ : ∃ M, M = (L.take k).filter (fun x => fitsB x gs) := ⟨_, rfl⟩
        rw [← hM] at hHIT hMIS ho hfar hlen ⊢
        have HOk := Lib.hid ho
        have HFk := Lib.hid hfar
        have HAk := Lib.hid hab
        have HBk := Lib.hid hb
        have HOU := Lib.hid (hou.mono (show w.heap.size ≤ w.heap.size + 1 by omega))
        have hi0 : (0 : Int) ≤ (k : Int) := by omega
        have hi1 : (k : Int) < (L.length : Int) := by omega
        have hgw := World.block_lt_of_cell? wk _ hcu
        simp only at hgw
        clear hx hM ho hfar hab hb hou hcx
        cases hq : fitsB x gs
        · rw [hq] at hF
          have HN := Lib.hid (hMIS hq)
          clear hHIT hMIS hq
          go_wp2_with fail
          refine hF.mono ?_
          rintro e w3 ⟨rfl, nq, rfl⟩
          clear hF
          go_wp2
          go_roundw
          case rel => exact ⟨k + 1, ak, ck, by omega, by go_num, by rw [HN.out], by rw [HN.out]; exact HOk.out, by rw [HN.out]; exact HFk.out, fun b h1 h2 => HAk.out b h1 h2, below_drewN HBk.out _, by simpa using hsz⟩
          case measure => simp [intOf]; omega
        · rw [hq] at hF
          have HN := Lib.hid (hHIT hq)
          clear hHIT hMIS hq
          go_wp2_with fail
          refine hF.mono ?_
          rintro e w3 ⟨rfl, hq3⟩
          have hD : Drawn wk w3 := hq3
          clear hq3 hF
          have hcu3 := hD.cell hcu
          have hb3 := hD.below
          have hz3 : w3.heap.size = wk.heap.size := by obtain ⟨q, rfl⟩ := hD; rfl
          have HO3 := Lib.hid (HOk.out.below hb3)
          have HOU3 := Lib.hid (owns_below HOU.out hb3)
          have HB3 := Lib.hid hb3
          have HZ3 := Lib.hid hz3
          clear hD hcu hb3 hz3
          go_wp2_with (at_builtin; refine wpList_push_r (w3.alloc (.cells #[.slice au x.length cu] 22)) rfl (.tmp 34) (.tmp 39) rfl w.heap.size (.slice ak M.length ck) M rfl (OwnR.alloc HO3.out _) ⟨w3.heap.size, 0, none⟩ 1 (.slice au x.length cu) x rfl (cell_of_one (heap_alloc_new w3 _)) (World.ownsRow.alloc HOU3.out _) (by omega) (by have := HZ3.out; simp; omega) ?_; intro a6 c6 w6 ho6 hg6 hv6; have HO6 := Lib.hid ho6; have HG6 := Lib.hid hg6; have HV6 := Lib.hid hv6; clear ho6 hg6 hv6)
          have hz3 := HZ3.out
          have hbA : Below wk.heap.size wk (w3.alloc (.cells #[.slice au x.length cu] 22)) := HB3.out.alloc (by omega) _
          have hz6 := HG6.out.size
          have hza : (w3.alloc (.cells #[.slice au x.length cu] 22)).heap.size = w3.heap.size + 1 := by simp
          have hlo : ∀ k, (Value.slice ak M.length ck).ownBlock = some k → w.heap.size ≤ k := fun k hk => (HOk.out.lt k hk).1
          have HFN := Lib.hid (show M ++ [x] = (L.take (k + 1)).filter (fun x => fitsB x gs) from HN.out.symm)
          have HLT := Lib.hid (And.intro hz3 (And.intro hz6 hza))
          clear hz3 hz6 hza
          go_roundw
          case rel =>
            obtain ⟨hz3, hz6, hza⟩ := HLT.out
            refine ⟨k + 1, a6, c6, by omega, by go_num, by rw [← HFN.out]; simp, by rw [← HFN.out]; simpa using HO6.out, by
              rw [← HFN.out]
              intro j hj
              rcases HV6.out with e | e
              · exact HFk.out j (by rw [← e]; simpa using hj)
              · right
                rw [List.length_append, List.length_singleton, e] at hj
                injection hj with hj
                omega, fun b h1 h2 => ?_, (HBk.out.trans (hbA.mono hB2)).grown HG6.out (by omega) hlo, by omega⟩
            rw [HG6.out.block b (by omega) (fun e => by have := HFk.out b e.symm; omega), hbA.block b (by omega)]
            exact HAk.out b h1 h2
          case measure => simp [intOf]; omega
      · have hLk : L.take k = L := List.take_of_length_le (by omega)
        rw [hLk, ← HR.out] at ho ⊢
        have HOk := Lib.hid ho
        have HBk := Lib.hid hb
        clear hLk ho hb hab hfar
        go_wp2
        go_ret
        exact ⟨ak, ck, rfl, HOk.out, HBk.out⟩

end Go.Proofs.YtenlngclocfnlaaDoor

/- Lots of answers as a row of numbers. Plain. -/
namespace Go.Proofs.YtenlngclocfnlaaDoor
set_option linter.unusedVariables false

/-- Where the reference keeps the lot of an answer. -/
def atN (n : Nat) (a : Int × Int) : Nat := a.1.toNat * (n + 1) + a.2.toNat
def GoodA (n : Nat) (a : Int × Int) : Prop := 0 ≤ a.1 ∧ a.1 ≤ n ∧ 0 ≤ a.2 ∧ a.2 ≤ n
theorem atN_lt {n : Nat} {a : Int × Int} (h : GoodA n a) (hn : n ≤ 3) : atN n a < (n + 1) * (n + 1) := by
  obtain ⟨h1, h2, h3, h4⟩ := h
  unfold atN
  have : n = 0 ∨ n = 1 ∨ n = 2 ∨ n = 3 := by omega
  rcases this with rfl | rfl | rfl | rfl <;> omega
theorem atN_inj {n : Nat} {a b : Int × Int} (h : GoodA n a) (k : GoodA n b) (hn : n ≤ 3) (e : atN n a = atN n b) : a = b := by
  obtain ⟨h1, h2, h3, h4⟩ := h
  obtain ⟨k1, k2, k3, k4⟩ := k
  unfold atN at e
  have : n = 0 ∨ n = 1 ∨ n = 2 ∨ n = 3 := by omega
  have q : a.1 = b.1 ∧ a.2 = b.2 := by
    rcases this with rfl | rfl | rfl | rfl <;> omega
  exact Prod.ext q.1 q.2
def lotsK (n : Nat) (ws : List (Int × Int)) (k : Nat) : List Int := (List.range ((n + 1) * (n + 1))).map fun i => (((ws.take k).countP fun a => atN n a == i : Nat) : Int)
@[simp] theorem lotsK_length (n : Nat) (ws : List (Int × Int)) (k : Nat) : (lotsK n ws k).length = (n + 1) * (n + 1) := by simp [lotsK]
theorem lotsK_zero (n : Nat) (ws : List (Int × Int)) : lotsK n ws 0 = List.replicate ((n + 1) * (n + 1)) 0 := by
  refine List.ext_getElem (by simp) fun i h1 h2 => ?_
  simp [lotsK]
theorem lotsK_get {n : Nat} {ws : List (Int × Int)} {k : Nat} (hg : ∀ a ∈ ws, GoodA n a) (hn : n ≤ 3) {a : Int × Int} (ha : GoodA n a) (h : atN n a < (lotsK n ws k).length) : (lotsK n ws k)[atN n a] = (((ws.take k).count a : Nat) : Int) := by
  simp only [lotsK, List.getElem_map, List.getElem_range]
  rw [List.count]
  congr 1
  refine List.countP_congr fun b hb => ?_
  have hb' := hg b (List.mem_of_mem_take hb)
  constructor
  · intro q
    have := atN_inj hb' ha hn (by simpa using q)
    simp [this]
  · intro q
    have : b = a := by simpa using q
    simp [this]
theorem lotsK_set {n : Nat} {ws : List (Int × Int)} {k : Nat} (hk : k < ws.length) (hg : ∀ a ∈ ws, GoodA n a) (hn : n ≤ 3) :
    (lotsK n ws k).set (atN n ws[k]) ((((ws.take k).count ws[k] : Nat) : Int) + 1) = lotsK n ws (k + 1) := by
  have hgk := hg _ (List.getElem_mem hk)
  have hlt := atN_lt hgk hn
  refine List.ext_getElem (by simp) fun i h1 h2 => ?_
  rw [List.getElem_set]
  split
  · rename_i e
    subst e
    rw [lotsK_get hg hn hgk, List.take_succ_eq_append_getElem hk, List.count_append]
    simp
  · rename_i e
    simp only [lotsK, List.getElem_map, List.getElem_range]
    rw [List.take_succ_eq_append_getElem hk, List.countP_append]
    simp [e]
theorem count_next {ws : List (Int × Int)} {k : Nat} (hk : k < ws.length) : (ws.take (k + 1)).count ws[k] = (ws.take k).count ws[k] + 1 := by
  rw [List.take_succ_eq_append_getElem hk, List.count_append]; simp
theorem worst_next {ws : List (Int × Int)} {k : Nat} (hk : k < ws.length) : worstK ws (k + 1) = max (worstK ws k) ((ws.take k).count ws[k] + 1) := by
  rw [worstK, show ws.getD k (0, 0) = ws[k] from by simp [List.getD, List.getElem?_eq_getElem hk], count_next hk]
theorem good_ans {n c : Nat} {x y : List Int} (hx : CodeP n c x) (hy : CodeP n c y) : GoodA n (ansZ x y) := ans_bounds hx hy

end Go.Proofs.YtenlngclocfnlaaDoor

/- The map from answers to numbers. -/
namespace Go.Proofs.YtenlngclocfnlaaDoor
open Go.RowKit
open Go.WideMaps (KeyLaw)
set_option linter.unusedVariables false
set_option maxRecDepth 100000

def GoodK (a : Int × Int) : Prop := (Lit.int .i64 a.1).wf = true ∧ (Lit.int .i64 a.2).wf = true

end Go.Proofs.YtenlngclocfnlaaDoor

/- The reference's l4Worst. -/
namespace Go.Proofs.YtenlngclocfnlaaDoor
open Go.RowKit
set_option linter.unusedVariables false
set_option maxRecDepth 100000

def GrownInt (x : Int) (w : World) (e : Ending) (w' : World) : Prop := e = .returned (.int .i64 x) ∧ Below w.heap.size w w'

end Go.Proofs.YtenlngclocfnlaaDoor

/- The reference's WorstLot and NextGuess. -/
namespace Go.Proofs.YtenlngclocfnlaaDoor
open Go.RowKit
set_option linter.unusedVariables false
set_option maxRecDepth 100000

def worstLotZ (p c : Int) (gs : List Gs) (y : List Int) : Int := if guessesB p c gs = true ∧ codeOkB p c y = true then (worstN (fitL p c gs) y : Int) else -1
theorem fit_codes {p c : Int} {gs : List Gs} : ∀ x ∈ fitL p c gs, CodeP p c x := fun x hx => (fitL_mem.1 hx).2.1
theorem fit_rows {B : Nat} {w : World} {p c : Int} {gs : List Gs} {v : Value} (h : OwnR B w v (fitL p c gs)) : Rows2 B w v (fitL p c gs) := h.rows fun x hx => code_in64 (fit_codes x hx)

def NextOut (p c : Int) (gs : List Gs) (w : World) (e : Ending) (w' : World) : Prop :=
  ∃ a cap, e = .returned (.tuple #[.slice a (nextL (fitL p c gs)).length cap, .bool (decide (0 < (fitL p c gs).length))]) ∧ OwnI w.heap.size w' (.slice a (nextL (fitL p c gs)).length cap) (nextL (fitL p c gs)) ∧ Below w.heap.size w w'

theorem best_hit {left : List (List Int)} {k : Nat} (hk : k < left.length) (h : (bestK left k).2 < 0 ∨ (worstN left left[k] : Int) < (bestK left k).2) : bestK left (k + 1) = (left[k], (worstN left left[k] : Int)) := by
  have e : left.getD k [] = left[k] := by simp [List.getD, List.getElem?_eq_getElem hk]
  rw [bestK, e, if_pos h]
theorem best_miss {left : List (List Int)} {k : Nat} (hk : k < left.length) (h : ¬ (bestK left k).2 < 0) (h2 : ¬ (worstN left left[k] : Int) < (bestK left k).2) : bestK left (k + 1) = bestK left k := by
  have e : left.getD k [] = left[k] := by simp [List.getD, List.getElem?_eq_getElem hk]
  rw [bestK, e, if_neg (by rintro (q | q); exact h q; exact h2 q)]
theorem best_end (left : List (List Int)) : decide (0 ≤ (bestK left left.length).2) = decide (0 < left.length) := by
  rw [decide_eq_decide]
  constructor
  · intro h
    rcases Nat.eq_zero_or_pos left.length with e | e
    · rw [e] at h; simp [bestK] at h
    · exact e
  · exact bestK_pos left _

end Go.Proofs.YtenlngclocfnlaaDoor
