/- The program's worst. -/
import Derived.Test.YtkjdlpbfalojdaaAnsMap
import Derived.Test.YtkjdlpbfalojdaaFitI
import Derived.Test.YtkjdlpbfalojdaaNextS
import Derived.Carry
import Derived.IntWalk
namespace Go.Proofs.Ytkjdlpbfalojdaa
open Go.RowKit
set_option linter.unusedVariables false
set_option maxRecDepth 100000

def cntA (ws : List (Int × Int)) (k : Nat) : Int × Int → Nat := fun a => (ws.take k).count a
theorem cntA_next {ws : List (Int × Int)} {k : Nat} (hk : k < ws.length) : (fun x => if x = ws[k] then cntA ws k ws[k] + 1 else cntA ws k x) = cntA ws (k + 1) := by
  funext x
  unfold cntA
  rw [List.take_succ_eq_append_getElem hk, List.count_append]
  by_cases e : x = ws[k]
  · rw [if_pos e, e]; simp
  · rw [if_neg e, List.count_singleton, if_neg (by simp; exact fun h => e h.symm)]; rfl
theorem goodK {n : Nat} {a : Int × Int} (h : GoodA n a) (hn : n ≤ 3) : GoodK a := ⟨WalkArith.wf_i64 (by obtain ⟨h1, h2, h3, h4⟩ := h; omega), WalkArith.wf_i64 (by obtain ⟨h1, h2, h3, h4⟩ := h; omega)⟩

set_option maxHeartbeats 4000000 in
theorem worstI_any {B C : Nat} (n c : Nat) (v u : Value) (left : List (List Int)) (y : List Int) (w : World) (h : Rows2 B w v left) (hu : Ints C w u y) (hl : ∀ x ∈ left, CodeP n c x) (hy : CodeP n c y) (hlen : left.length ≤ 1000000) :
    Calls Try.prog 75 #[v, u] w (GrownInt (worstN left y) w) := by
  have hn3 : n ≤ 3 := by have := hy.1; unfold codesP at this; omega
  obtain ⟨ws, hws⟩ : ∃ ws, ws = left.map (fun x => ansZ x y) := ⟨_, rfl⟩
  have HLW := Lib.hid (show ws.length = left.length from by rw [hws]; simp)
  have HG := Lib.hid (show ∀ a ∈ ws, GoodA n a from by
    intro a ha
    rw [hws] at ha
    obtain ⟨x, hx, rfl⟩ := List.mem_map.1 ha
    exact good_ans (hl x hx) hy)
  have HW := Lib.hid (show worstN left y = worstK ws left.length from by rw [hws]; rfl)
  have HWS := Lib.hid (fun (k : Nat) (hk : k < left.length) (hk' : k < ws.length) => show ws[k] = ansZ left[k] y from by subst hws; simp)
  have HL := Lib.hid hl
  have HY := Lib.hid hy
  have HU := Lib.hid hu
  obtain ⟨a, cap, rfl, hcap, hmax, V, hcells, hV⟩ := h.opened
  obtain ⟨au, cu, rfl, _⟩ := hu.opened
  have HN := Lib.hid (mapSt_new w)
  have HB1 := Lib.hid ((Below.refl w.heap.size w).alloc (Nat.le_refl _) (.map #[] 0))
  clear hws hl hy h hu
  have hmm := @run_makeMap Try.prog
  go_enter Try.func75, Try.ntmps75
  go_wp2
  go_loopw [6, 13] (fun s i wr => ∃ k : Nat, k ≤ left.length ∧ i = .int .i64 k ∧ s = .int .i64 (worstK ws k : Nat) ∧ MapSt w.heap.size (cntA ws k) wr ∧ Below w.heap.size w wr) (fun _ i _ => left.length - (intOf i).toNat)
  case atStart => exact ⟨0, Nat.zero_le _, rfl, rfl, HN.out, HB1.out⟩
  case round =>
    obtain ⟨k, hk, rfl, rfl, hm, hb⟩ := hrel
    obtain ⟨wk, rfl⟩ : ∃ x, x = wr := ⟨_, rfl⟩
    have hwl := worstK_le ws k
    clear HN HB1 hmm
    by_cases hlt : k < left.length
    · obtain ⟨b, off, rfl, _, hc⟩ := hcells (by omega)
      have hck := (Above.of_below (B := 0) hb).cell (Nat.zero_le _) (hc k hlt)
      have hlw := HLW.out
      have hk2 : k < ws.length := by omega
      have hgd := HG.out _ (List.getElem_mem hk2)
      have hcx := HL.out _ (List.getElem_mem hlt)
      have hA := answerI_any (V k) (.slice au y.length cu) left[k] y wk ((hV k hlt).below hb) (HU.out.below hb) (by have h1 := hcx.2.1; have h2 := HY.out.2.1; omega) (by have h1 := hcx.2.1; omega)
        (fun z hz => by have h1 := hcx.2.2 z hz; have h2 := hcx.1.2.2; omega) (fun z hz => by have h1 := HY.out.2.2 z hz; have h2 := HY.out.1.2.2; omega)
      unfold AnsOut at hA
      have e1 : rightZ left[k] y = ws[k].1 := by rw [HWS.out k hlt hk2]; rfl
      have e2 : nearZ left[k] y = ws[k].2 := by rw [HWS.out k hlt hk2]; rfl
      rw [e1, e2] at hA
      have hcb : cntA ws k ws[k] ≤ k := Nat.le_trans List.count_le_length (by simp; omega)
      have HNX := Lib.hid (show worstK ws (k + 1) = max (worstK ws k) (cntA ws k ws[k] + 1) from worst_next hk2)
      have HCN := Lib.hid (cntA_next hk2)
      have hgk := goodK hgd hn3
      obtain ⟨av, cv, hsv, _⟩ := (hV k hlt).opened
      rw [hsv] at hck hA
      obtain ⟨p, hp⟩ : ∃ p, p = ws[k] := ⟨_, rfl⟩
      rw [← hp] at hA hcb HNX HCN hgk
      have hm2 : ∀ W : World, Below wk.heap.size wk W → MapSt w.heap.size (cntA ws k) W := fun W hW => hm.keep (hW.block _ (by obtain ⟨es, cl, h1, _⟩ := hm; exact (Array.getElem?_eq_some_iff.1 h1).1))
      have HM2 := Lib.hid hm2
      have hMlt : w.heap.size < wk.heap.size := by obtain ⟨es, cl, h1, _⟩ := hm; exact (Array.getElem?_eq_some_iff.1 h1).1
      have HB := Lib.hid hb
      have HGK := Lib.hid hgk
      have hi0 : (0 : Int) ≤ (k : Int) := by omega
      have hi1 : (k : Int) < (left.length : Int) := by omega
      clear hc hcells hV hlw e1 e2 hgd hcx hgk hsv hp hm hm2 hb
      go_wp2_with fail
      refine hA.mono ?_
      rintro e w3 ⟨rfl, hb3⟩
      have hz3 := hb3.size
      obtain ⟨W, hW⟩ : ∃ W, W = w3.alloc (.cells #[.int .i64 p.1, .int .i64 p.2] 100) := ⟨_, rfl⟩
      have hb4 : Below wk.heap.size wk W := by rw [hW]; exact hb3.alloc hz3 _
      have h9 : W.heap[w3.heap.size]? = some (.cells #[.int .i64 p.1, .int .i64 p.2] 100 (0, 0)) := by rw [hW]; exact heap_alloc_new w3 _
      have hmW : MapSt w.heap.size (cntA ws k) W.drew := (HM2.out W hb4).keep rfl
      obtain ⟨st, w1, hent, hg1, hm1, he1⟩ := mapEntry_run hmW HGK.out
      obtain ⟨w2, hsto, hg2, hm2⟩ := mapStore_run hm1 he1 119 (cntA ws k p + 1)
      rw [HCN.out] at hm2
      have hlk0 := mapLook_run hmW HGK.out
      have hlk1 := mapLook_run hm1 HGK.out
      have hlk2 := mapLook_run hm2 HGK.out
      have h19 : w1.heap[w3.heap.size]? = _ := (hg1.block w3.heap.size (Array.getElem?_eq_some_iff.1 h9).1 (by simp; omega)).trans h9
      have h29 : w2.heap[w3.heap.size]? = _ := (hg2.block w3.heap.size (Array.getElem?_eq_some_iff.1 h19).1 (by simp; omega)).trans h19
      have l0 := cell_of_row _ _ 0 _ _ (0, 0) h9
      have l1 := cell_of_row _ _ 1 _ _ (0, 0) h9
      have n0 := cell_of_row _ _ 0 _ _ (0, 0) h29
      have n1 := cell_of_row _ _ 1 _ _ (0, 0) h29
      simp only [List.getElem?_toArray, List.getElem?_cons_zero, List.getElem?_cons_succ] at l0 l1 n0 n1
      have hcn : cntA ws (k + 1) p = cntA ws k p + 1 := by rw [← HCN.out]; simp
      rw [hcn] at hlk2
      have HM2' := Lib.hid hm2
      have HLE := Lib.hid (Nat.le_refl w.heap.size)
      have HGR := Lib.hid (show Below w.heap.size wk w2 from (((hb4.mono (Nat.le_of_lt hMlt)).drew).grown hg1 (Nat.le_trans (Nat.le_of_lt hMlt) hb4.size) (fun q hq => by cases hq; exact HLE.out)).grown hg2 (Nat.le_trans (Nat.le_trans (Nat.le_of_lt hMlt) hb4.size) hg1.size) (fun q hq => by cases hq; exact HLE.out))
      have hmx : Try.prog.follows .mixedOrders = true := by kernel_rfl
      unfold ansV at hent hlk0 hlk1 hlk2
      rw [show ((cntA ws k p + 1 : Nat) : Int) = ((cntA ws k p : Nat) : Int) + 1 from by push_cast; rfl] at hsto hlk2
      have hwr : IntKind.i64.wrap (((cntA ws k p : Nat) : Int) + 1) = ((cntA ws k p : Nat) : Int) + 1 := IntWalk.i64_in _ (by omega)
      rw [hW] at hent hlk0 l0 l1
      have HWW := Lib.hid hW
      clear hmW hm1 he1 hm2 h9 h19 h29 hcn hb4 hg1 hg2 hW hb3
      go_wp2
      rcases Nat.lt_or_ge (worstK ws k) (cntA ws k p + 1) with hx | hx
      · have hx1 : ((worstK ws k : Nat) : Int) < ((cntA ws k p : Nat) : Int) + 1 := by omega
        have HMX := Lib.hid (show max (worstK ws k) (cntA ws k p + 1) = cntA ws k p + 1 from Nat.max_eq_right (by omega))
        clear hx
        go_region
        go_wp2
        go_roundw
        case rel => exact ⟨k + 1, by omega, by go_num, by rw [HNX.out, HMX.out]; go_num, HM2'.out, HB.out.trans HGR.out⟩
        case measure => simp [intOf]; omega
      · have hx1 : ¬ ((worstK ws k : Nat) : Int) < ((cntA ws k p : Nat) : Int) + 1 := by omega
        have HMX := Lib.hid (show max (worstK ws k) (cntA ws k p + 1) = worstK ws k from Nat.max_eq_left (by omega))
        clear hx
        go_region
        go_wp2
        go_roundw
        case rel => exact ⟨k + 1, by omega, by go_num, by rw [HNX.out, HMX.out], HM2'.out, HB.out.trans HGR.out⟩
        case measure => simp [intOf]; omega
    · have e : k = left.length := by omega
      have HR := Lib.hid (show worstN left y = worstK ws k from by rw [e]; exact HW.out)
      have HB := Lib.hid hb
      clear e hcells hV hm hb
      go_wp2
      go_ret
      exact ⟨ret_int (by rw [HR.out]), HB.out⟩

end Go.Proofs.Ytkjdlpbfalojdaa
