/- The reference's FittingCodes. -/
import Derived.Test.YtkjdlpbfalojdaaAllS
namespace Go.Proofs.Ytkjdlpbfalojdaa
open Go.RowKit
set_option linter.unusedVariables false
set_option maxRecDepth 100000

theorem filter_hit {α : Type} {L : List α} {q : α → Bool} {k : Nat} (h : k < L.length) (e : q L[k] = true) : (L.take (k + 1)).filter q = (L.take k).filter q ++ [L[k]] := by
  rw [List.take_succ_eq_append_getElem h, List.filter_append]; simp [e]
theorem filter_miss {α : Type} {L : List α} {q : α → Bool} {k : Nat} (h : k < L.length) (e : q L[k] = false) : (L.take (k + 1)).filter q = (L.take k).filter q := by
  rw [List.take_succ_eq_append_getElem h, List.filter_append]; simp [e]

theorem code_in64 {p c : Int} {x : List Int} (h : CodeP p c x) : ∀ y ∈ x, In64 y := fun y hy => by
  obtain ⟨⟨_, h1, h2⟩, _, h4⟩ := h
  have := h4 y hy
  unfold In64; omega
theorem own_nat {p c : Int} (h : codesP p c) : ∃ n m : Nat, p = n ∧ c = m ∧ n ≤ 3 ∧ m ≤ 5 := by
  obtain ⟨⟨h1, h2⟩, h3, h4⟩ := h
  exact ⟨p.toNat, c.toNat, by omega, by omega, by omega, by omega⟩

/-- Where out lies: in the block z or behind A. -/
def Far (z A : Nat) (v : Value) : Prop := ∀ k, v.ownBlock = some k → k = z ∨ A ≤ k

set_option maxHeartbeats 4000000 in
theorem fitS_any {B : Nat} (p c : Int) (v : Value) (gs : List Gs) (w : World) (h : GL B w v gs) :
    Calls Try.prog 71 #[.int .i64 p, .int .i64 c, v] w (FreshR (fitL p c gs) w) := by
  have hb1 : Below w.heap.size w (w.alloc (.cells #[] 38)) := (Below.refl _ _).alloc (Nat.le_refl _) _
  have hO1 : OwnR w.heap.size (w.alloc (.cells #[] 38)) (.slice (some ⟨w.heap.size, 0, none⟩) 0 0) [] := (OwnII.lit w).toR
  have hG := guessesS_any p c v gs _ (h.below hb1)
  have hsh : ∃ a cap, v = .slice a gs.length cap := by obtain ⟨a, cap, _, hv, _⟩ := h; exact ⟨a, cap, hv⟩
  obtain ⟨a, cap, rfl⟩ := hsh
  cases hg : guessesB p c gs
  · rw [hg] at hG
    have HR := Lib.hid (show fitL p c gs = [] from by unfold fitL; rw [hg]; rfl)
    have HO := Lib.hid hO1
    have HB := Lib.hid hb1
    clear h hg hb1 hO1
    go_enter Try.func71, Try.ntmps71
    go_wp2_with fail
    refine hG.mono ?_
    rintro e w2 ⟨rfl, rfl⟩
    clear hG
    go_wp2
    go_ret
    exact ⟨some ⟨w.heap.size, 0, none⟩, 0, by rw [HR.out]; rfl, by rw [HR.out]; exact HO.out, HB.out⟩
  · rw [hg] at hG
    obtain ⟨n, m, rfl, rfl, hn3, hm5⟩ := own_nat (guesses_codes hg)
    have hA := allS_any n m (w.alloc (.cells #[] 38)) (guesses_codes hg)
    have HR := Lib.hid (show fitL n m gs = (allL m n).filter (fun x => fitsB x gs) from by unfold fitL; rw [hg]; rfl)
    have HC := Lib.hid (fun x (hx : x ∈ allL m n) => (allP_mem (guesses_codes hg) (x := x)).1 (by simpa [allP] using hx))
    have HLs := Lib.hid (all_small hm5 hn3)
    have HO := Lib.hid hO1
    have HB := Lib.hid hb1
    have HG := Lib.hid hg
    have HH := Lib.hid h
    clear h hg hb1 hO1
    go_enter Try.func71, Try.ntmps71
    go_wp2_with fail
    refine hG.mono ?_
    rintro e w2 ⟨rfl, rfl⟩
    clear hG
    go_wp2_with fail
    refine hA.mono ?_
    rintro e w2 ⟨a2, c2, rfl, ho2, hb2⟩
    clear hA
    have hz1 : (w.alloc (.cells #[] 38)).heap.size = w.heap.size + 1 := by simp
    rw [hz1] at ho2 hb2
    have hz2 := hb2.size
    rw [hz1] at hz2
    have HO1 := Lib.hid (HO.out.below (by rw [hz1]; exact hb2))
    have HB1 := Lib.hid (HB.out.trans (hb2.mono (by omega)))
    obtain ⟨L, hL⟩ : ∃ L, L = allL m n := ⟨_, rfl⟩
    rw [← hL] at HC HLs HR ho2 ⊢
    obtain ⟨a2', c2', he, hc21, hc22⟩ := ho2.shape
    injection he with e1 _ e3
    subst e1 e3
    have HO2 := Lib.hid ho2
    clear hL HO HB ho2 hb2 hz1
    go_wp2
    go_loopw [7, 9] (fun s i wr => ∃ (k : Nat) (a : Option Addr) (cap : Nat), k ≤ L.length ∧ i = .int .i64 k ∧ s = .slice a ((L.take k).filter fun x => fitsB x gs).length cap ∧ OwnR w.heap.size wr (.slice a ((L.take k).filter fun x => fitsB x gs).length cap) ((L.take k).filter fun x => fitsB x gs) ∧
      Far w.heap.size w2.heap.size (.slice a ((L.take k).filter fun x => fitsB x gs).length cap) ∧ Above (w.heap.size + 1) w2 wr ∧ Below w.heap.size w wr ∧ w2.heap.size ≤ wr.heap.size) (fun _ i _ => L.length - (intOf i).toNat)
    case atStart => exact ⟨0, _, _, Nat.zero_le _, rfl, rfl, HO1.out, fun k hk => by cases hk; exact .inl rfl, Above.refl _ _, HB1.out, Nat.le_refl _⟩
    case round =>
      obtain ⟨k, ak, ck, hk, rfl, rfl, ho, hfar, hab, hb, hsz⟩ := hrel
      obtain ⟨wk, rfl⟩ : ∃ x, x = wr := ⟨_, rfl⟩
      have hB2 := hb.size
      by_cases hlt : k < L.length
      · have hHIT := filter_hit (q := fun x => fitsB x gs) hlt
        have hMIS := filter_miss (q := fun x => fitsB x gs) hlt
        obtain ⟨g, u, e1, hgB, hcu, hou⟩ := (HO2.out.keep hab).at k hlt
        have hcx := HC.out _ (List.getElem_mem hlt)
        have hF := fitsS_any n m (.slice a gs.length cap) u gs L[k] wk (HH.out.below hb) (hou.toInts (code_in64 hcx)) HG.out hcx
        have hlen : ((L.take k).filter fun x => fitsB x gs).length ≤ 125 := Nat.le_trans (List.length_filter_le _ _) (by have := HLs.out; simp; omega)
        obtain ⟨x, hx⟩ : ∃ x, x = L[k] := ⟨_, rfl⟩
        rw [← hx] at hHIT hMIS hou hF
        subst e1
        obtain ⟨au, cu, rfl, _⟩ := own_shape hou
        obtain ⟨M, hM⟩ : ∃ M, M = (L.take k).filter (fun x => fitsB x gs) := ⟨_, rfl⟩
        rw [← hM] at hHIT hMIS ho hfar hlen ⊢
        have HOk := Lib.hid ho
        have HFk := Lib.hid hfar
        have HAk := Lib.hid hab
        have HBk := Lib.hid hb
        have HOU := Lib.hid (hou.mono (show w.heap.size ≤ w.heap.size + 1 by omega))
        have hi0 : (0 : Int) ≤ (k : Int) := by omega
        have hi1 : (k : Int) < (L.length : Int) := by omega
        have hgw := World.block_lt_of_cell? wk _ hcu
        simp only at hgw
        clear hx hM ho hfar hab hb hou hcx
        cases hq : fitsB x gs
        · rw [hq] at hF
          have HN := Lib.hid (hMIS hq)
          clear hHIT hMIS hq
          go_wp2_with fail
          refine hF.mono ?_
          rintro e w3 ⟨rfl, nq, rfl⟩
          clear hF
          go_wp2
          go_roundw
          case rel => exact ⟨k + 1, ak, ck, by omega, by go_num, by rw [HN.out], by rw [HN.out]; exact HOk.out, by rw [HN.out]; exact HFk.out, fun b h1 h2 => HAk.out b h1 h2, below_drewN HBk.out _, by simpa using hsz⟩
          case measure => simp [intOf]; omega
        · rw [hq] at hF
          have HN := Lib.hid (hHIT hq)
          clear hHIT hMIS hq
          go_wp2_with fail
          refine hF.mono ?_
          rintro e w3 ⟨rfl, hq3⟩
          have hD : Drawn wk w3 := hq3
          clear hq3 hF
          have hcu3 := hD.cell hcu
          have hb3 := hD.below
          have hz3 : w3.heap.size = wk.heap.size := by obtain ⟨q, rfl⟩ := hD; rfl
          have HO3 := Lib.hid (HOk.out.below hb3)
          have HOU3 := Lib.hid (owns_below HOU.out hb3)
          have HB3 := Lib.hid hb3
          have HZ3 := Lib.hid hz3
          clear hD hcu hb3 hz3
          go_wp2_with (at_builtin; refine wpList_push_r (w3.alloc (.cells #[.slice au x.length cu] 38)) rfl (.tmp 34) (.tmp 39) rfl w.heap.size (.slice ak M.length ck) M rfl (OwnR.alloc HO3.out _) ⟨w3.heap.size, 0, none⟩ 1 (.slice au x.length cu) x rfl (cell_of_one (heap_alloc_new w3 _)) (World.ownsRow.alloc HOU3.out _) (by omega) (by have := HZ3.out; simp; omega) ?_; intro a6 c6 w6 ho6 hg6 hv6; have HO6 := Lib.hid ho6; have HG6 := Lib.hid hg6; have HV6 := Lib.hid hv6; clear ho6 hg6 hv6)
          have hz3 := HZ3.out
          have hbA : Below wk.heap.size wk (w3.alloc (.cells #[.slice au x.length cu] 38)) := HB3.out.alloc (by omega) _
          have hz6 := HG6.out.size
          have hza : (w3.alloc (.cells #[.slice au x.length cu] 38)).heap.size = w3.heap.size + 1 := by simp
          have hlo : ∀ k, (Value.slice ak M.length ck).ownBlock = some k → w.heap.size ≤ k := fun k hk => (HOk.out.lt k hk).1
          have HFN := Lib.hid (show M ++ [x] = (L.take (k + 1)).filter (fun x => fitsB x gs) from HN.out.symm)
          have HLT := Lib.hid (And.intro hz3 (And.intro hz6 hza))
          clear hz3 hz6 hza
          go_roundw
          case rel =>
            obtain ⟨hz3, hz6, hza⟩ := HLT.out
            refine ⟨k + 1, a6, c6, by omega, by go_num, by rw [← HFN.out]; simp, by rw [← HFN.out]; simpa using HO6.out, by
              rw [← HFN.out]
              intro j hj
              rcases HV6.out with e | e
              · exact HFk.out j (by rw [← e]; simpa using hj)
              · right
                rw [List.length_append, List.length_singleton, e] at hj
                injection hj with hj
                omega, fun b h1 h2 => ?_, (HBk.out.trans (hbA.mono hB2)).grown HG6.out (by omega) hlo, by omega⟩
            rw [HG6.out.block b (by omega) (fun e => by have := HFk.out b e.symm; omega), hbA.block b (by omega)]
            exact HAk.out b h1 h2
          case measure => simp [intOf]; omega
      · have hLk : L.take k = L := List.take_of_length_le (by omega)
        rw [hLk, ← HR.out] at ho ⊢
        have HOk := Lib.hid ho
        have HBk := Lib.hid hb
        clear hLk ho hb hab hfar
        go_wp2
        go_ret
        exact ⟨ak, ck, rfl, HOk.out, HBk.out⟩

end Go.Proofs.Ytkjdlpbfalojdaa
