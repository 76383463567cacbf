/- The program's ReadDeed. -/
import Derived.Test.YtenlngclocfnlaaDoorWords
import Derived.Test.YtenlngclocfnlaaDoorTextI
import Derived.Test.YtenlngclocfnlaaDoorShelf
import Derived.Deep.RegionHeld3
import Derived.Deep.DeepCutAuto
namespace Go.Proofs.YtenlngclocfnlaaDoor
open Go.RowKit
set_option linter.unusedVariables false
set_option maxRecDepth 100000

/-- The library's variable is a number. -/
def MaxIs (w : World) : Prop := ∃ m : Int, w.cell? ⟨0, 0, none⟩ = some (.int .i64 m)
theorem MaxIs.below {w w' : World} (h : MaxIs w) (hb : Below w.heap.size w w') : MaxIs w' := by
  obtain ⟨m, hm⟩ := h
  exact ⟨m, (hb.cell (cell_lt' hm)).trans hm⟩
theorem words_len (c : UInt8) : ∀ l : List UInt8, (words c l).length = l.count c + 1
  | [] => rfl
  | b :: t => by
    have ih := words_len c t
    unfold words
    by_cases h : b = c
    · rw [if_pos h, h, List.count_cons_self, List.length_cons, ih]
    · rw [if_neg h, List.count_cons_of_ne (by simpa using h)]
      rcases e : words c t with _ | ⟨u, us⟩
      · exact absurd e (words_ne c t)
      · rw [e] at ih
        simpa using ih
theorem split_any (l : List UInt8) (W : World) (hs : l.length ≤ 4000000) (hm : MaxIs W) :
    Calls Tryd.prog 31 #[strV l, .string ⟨#[32]⟩] W (WordsOut (words 32 l) W) := by
  obtain ⟨m, hm⟩ := hm
  have hlen : (⟨l.toArray⟩ : ByteArray).size < 4294967281 := by simp only [ByteArray.size, List.size_toArray]; omega
  refine (Tryd.strings_Split ⟨l.toArray⟩ ⟨#[32]⟩ m W hlen hm (by decide)).mono ?_
  rintro e w' ⟨rfl, rfl⟩
  have hw : (Lib.splitB ⟨#[32]⟩ 0 (Lib.countB ⟨l.toArray⟩ ⟨#[32]⟩) ⟨l.toArray⟩).map Value.string = (words 32 l).map strV := by
    rw [← split_words l 32, List.map_map]
    refine List.map_congr_left fun x _ => ?_
    simp [strV]
  have hc : Lib.countB ⟨l.toArray⟩ ⟨#[32]⟩ + 1 = (words 32 l).length := by
    rw [words_len]
    congr 1
    exact Lib.count_one 32 l
  rw [hw, hc]
  refine ⟨W.heap.size, (words 32 l).length, rfl, Nat.le_refl _, by rw [words_len]; have := List.count_le_length (a := (32 : UInt8)) (l := l); omega, fun k hk => ?_, Nat.le_refl _, by simp, (Below.refl _ W).alloc (Nat.le_refl _) _⟩
  rw [cell_of_row _ _ _ _ _ _ (heap_alloc_new W _)]
  simp [hk]

def zeroDeed : Array Value := #[.bool false, .slice none 0 0, .int .i64 0, .int .i64 0]
/-- What a reading leaves. -/
def ReadOut (l : List UInt8) (w : World) (e : Ending) (w' : World) : Prop :=
  ∃ a cap, e = .returned (.tuple #[dV (rdD l).back (.slice a (rdD l).code.length cap) (rdD l).right (rdD l).near, .bool (rdB l)]) ∧ OwnI w.heap.size w' (.slice a (rdD l).code.length cap) (rdD l).code ∧ Below w.heap.size w w'
theorem ReadOut.of {l : List UInt8} {w w' : World} {d : Dd} {ok : Bool} {a : Option Addr} {cap : Nat} (h1 : rdD l = d) (h2 : rdB l = ok) (ho : OwnI w.heap.size w' (.slice a d.code.length cap) d.code) (hb : Below w.heap.size w w') :
    ReadOut l w (.returned (.tuple #[.agg #[.bool d.back, .slice a d.code.length cap, .int .i64 d.right, .int .i64 d.near], .bool ok])) w' := by
  subst h1 h2
  exact ⟨a, cap, rfl, ho, hb⟩
theorem OwnI.otherR {B D j : Nat} {w : World} {v z : Value} {xs : List Int} {cs : Array Value} {t : TypeId} {fr : Nat × Nat} (h : OwnI B w v xs) (hD : w.heap[D]? = some (.cells cs t fr)) (hne : 3 ≠ t) : OwnI B (w.setCell ⟨D, j, none⟩ z) v xs := by
  obtain ⟨h0, hh⟩ := id h
  refine World.ownsRow.kept h (grownBy_setCell w ⟨D, j, none⟩ z) ?_
  rcases hh with ⟨rfl, _⟩ | ⟨g, cap, cur, rfl, _, hg, _⟩
  · exact .inl rfl
  · refine .inr fun e => ?_
    have e2 : g = D := by simpa [Value.ownBlock] using e
    subst e2
    rw [hD] at hg
    injection hg with hg
    injection hg with _ hg _
    exact hne hg.symm
/-- The result's box: zero, then stored into. -/
theorem box_zero {w : World} {R : Nat} (h1 : w.heap[R]? = some (.cells #[.bool false, .slice none 0 0, .int .i64 0, .int .i64 0] 26 (0, 0))) :
    w.cell? ⟨R, 0, none⟩ = some (.bool false) ∧ w.cell? ⟨R, 1, none⟩ = some (.slice none 0 0) ∧ w.cell? ⟨R, 2, none⟩ = some (.int .i64 0) ∧ w.cell? ⟨R, 3, none⟩ = some (.int .i64 0) ∧ ∀ j, w.frozen? ⟨R, j, none⟩ = false := by
  refine ⟨?_, ?_, ?_, ?_, fun j => frozen_of_row _ _ j _ _ h1⟩ <;> rw [cell_of_row _ _ _ _ _ _ h1] <;> simp
theorem box_out {l : List UInt8} {w wi : World} {d : Dd} {ok : Bool} {a : Option Addr} {cap : Nat} (h1 : rdD l = d) (h2 : rdB l = ok) (hz : wi.heap[w.heap.size]? = some (.cells #[.bool false, .slice none 0 0, .int .i64 0, .int .i64 0] 26 (0, 0)))
    (hb : Below w.heap.size w wi) (ho : OwnI w.heap.size wi (.slice a d.code.length cap) d.code) :
    ReadOut l w (.returned (.tuple #[.agg #[.bool d.back, .slice a d.code.length cap, .int .i64 d.right, .int .i64 d.near], .bool ok])) ((((wi.setCell ⟨w.heap.size, 0, none⟩ (.bool d.back)).setCell ⟨w.heap.size, 1, none⟩ (.slice a d.code.length cap)).setCell ⟨w.heap.size, 2, none⟩ (.int .i64 d.right)).setCell ⟨w.heap.size, 3, none⟩ (.int .i64 d.near)) ∧
      ((((wi.setCell ⟨w.heap.size, 0, none⟩ (.bool d.back)).setCell ⟨w.heap.size, 1, none⟩ (.slice a d.code.length cap)).setCell ⟨w.heap.size, 2, none⟩ (.int .i64 d.right)).setCell ⟨w.heap.size, 3, none⟩ (.int .i64 d.near)).heap[w.heap.size]? = some (.cells #[.bool d.back, .slice a d.code.length cap, .int .i64 d.right, .int .i64 d.near] 26 (0, 0)) := by
  have q1 := heap_setCell_same _ _ 0 _ _ (.bool d.back) hz
  have q2 := heap_setCell_same _ _ 1 _ _ (.slice a d.code.length cap) q1
  have q3 := heap_setCell_same _ _ 2 _ _ (.int .i64 d.right) q2
  have q4 := heap_setCell_same _ _ 3 _ _ (.int .i64 d.near) q3
  refine ⟨ReadOut.of h1 h2 ((((ho.otherR hz (by decide)).otherR q1 (by decide)).otherR q2 (by decide)).otherR q3 (by decide)) ?_, q4⟩
  exact (((hb.setCell (p := ⟨w.heap.size, 0, none⟩) (Nat.le_refl _) _).setCell (p := ⟨w.heap.size, 1, none⟩) (Nat.le_refl _) _).setCell (p := ⟨w.heap.size, 2, none⟩) (Nat.le_refl _) _).setCell (p := ⟨w.heap.size, 3, none⟩) (Nat.le_refl _) _
/-- Nothing is read. -/
theorem box_none {l : List UInt8} {w wi : World} (h : readD l = none) (hz : wi.heap[w.heap.size]? = some (.cells #[.bool false, .slice none 0 0, .int .i64 0, .int .i64 0] 26 (0, 0)))
    (hb : Below w.heap.size w wi) :
    ReadOut l w (.returned (.tuple #[.agg #[.bool false, .slice none 0 0, .int .i64 0, .int .i64 0], .bool false])) ((((wi.setCell ⟨w.heap.size, 0, none⟩ (.bool false)).setCell ⟨w.heap.size, 1, none⟩ (.slice none 0 0)).setCell ⟨w.heap.size, 2, none⟩ (.int .i64 0)).setCell ⟨w.heap.size, 3, none⟩ (.int .i64 0)) ∧
      ((((wi.setCell ⟨w.heap.size, 0, none⟩ (.bool false)).setCell ⟨w.heap.size, 1, none⟩ (.slice none 0 0)).setCell ⟨w.heap.size, 2, none⟩ (.int .i64 0)).setCell ⟨w.heap.size, 3, none⟩ (.int .i64 0)).heap[w.heap.size]? = some (.cells #[.bool false, .slice none 0 0, .int .i64 0, .int .i64 0] 26 (0, 0)) :=
  box_out (d := ⟨false, [], 0, 0⟩) (rd_none h).1 (rd_none h).2 hz hb (OwnI.empty _ _)
theorem words_le (c : UInt8) : ∀ (l : List UInt8) (u : List UInt8), u ∈ words c l → u.length ≤ l.length
  | [], u, h => by
    simp only [words, List.mem_singleton] at h
    subst h; exact Nat.le_refl _
  | b :: t, u, h => by
    have ih := words_le c t
    unfold words at h
    split at h
    · rcases List.mem_cons.1 h with rfl | h
      · simp
      · have := ih u h
        simp only [List.length_cons]; omega
    · rcases e : words c t with _ | ⟨x, xs⟩
      · exact absurd e (words_ne c t)
      · rw [e] at h ih
        rcases List.mem_cons.1 h with rfl | h
        · have := ih x (by simp)
          simp only [List.length_cons]; omega
        · have := ih u (by simp [h])
          simp only [List.length_cons]; omega
/-- A deed in block g, and what it points to, made behind w. -/
def MadeD (w : World) (a : Option Addr) (n cap : Nat) (r q : Int) (s : Value) (wx : World) : Prop :=
  ∃ g, s = .pointer (some ⟨g, 0, none⟩) ∧ Below w.heap.size w wx ∧ w.heap.size ≤ g ∧ wx.heap[g]? = some (.cells #[.bool false, .slice a n cap, .int .i64 r, .int .i64 q] 26 (0, 0))

theorem MadeD.new (w : World) (a : Option Addr) (n cap : Nat) (r q : Int) : MadeD w a n cap r q (.pointer (some ⟨w.heap.size, 0, none⟩)) (w.alloc (.cells #[.bool false, .slice a n cap, .int .i64 r, .int .i64 q] 26)).drew :=
  ⟨_, rfl, ((Below.refl _ _).alloc (Nat.le_refl _) _).drew, Nat.le_refl _, heap_alloc_new w _⟩
theorem deed_cells {w : World} {g : Nat} {a b c d : Value} {t : TypeId} {fr : Nat × Nat} (h : w.heap[g]? = some (.cells #[a, b, c, d] t fr)) : w.cell? ⟨g, 0, none⟩ = some a ∧ w.cell? ⟨g, 1, none⟩ = some b ∧ w.cell? ⟨g, 2, none⟩ = some c ∧ w.cell? ⟨g, 3, none⟩ = some d := by
  refine ⟨?_, ?_, ?_, ?_⟩ <;> rw [cell_of_row _ _ _ _ _ _ h] <;> simp
theorem OwnI.first {B cap : Nat} {w : World} {a : Option Addr} {xs t : List Int} {r : Int} (h : OwnI B w (.slice a xs.length cap) xs) (hx : xs = r :: t) :
    ∃ g, a = some ⟨g, 0, none⟩ ∧ g < w.heap.size ∧ B ≤ g ∧ w.cell? ⟨g, 0, none⟩ = some (.int .i64 r) := by
  subst hx
  obtain ⟨a', cap', he, _, _, hd⟩ := h.opened
  injection he with e1 _ _
  subst e1
  obtain ⟨g, hg, hb, hc, _⟩ := hd (by simp)
  have h0 := hc 0 (by simp)
  exact ⟨g, hg, cell_lt' h0, hb, h0⟩

set_option maxHeartbeats 8000000 in
theorem readDeedI_any (l : List UInt8) (w : World) (hl : l.length ≤ 4000000) (hm : MaxIs w) :
    Calls Tryd.prog 9 #[strV l] w (ReadOut l w) := by
  unfold strV
  by_cases hback : l = wordBack
  · subst hback
    have HB := Lib.hid (show Below w.heap.size w (w.alloc (.cells #[.bool true, .slice none 0 0, .int .i64 0, .int .i64 0] 26)) from (Below.refl _ _).alloc (Nat.le_refl _) _)
    have HR := Lib.hid (heap_alloc_new w (.cells #[.bool true, .slice none 0 0, .int .i64 0, .int .i64 0] 26))
    unfold wordBack
    go_enter Tryd.func9, Tryd.ntmps9
    go_wp2
    ((try simp only [Exit.inBlock, Exit.then]); refine bodyPost_ret (results_cell_tmp rfl _ _ w.heap.size _ _ (0, 0) _ rfl HR.out Tryd.underlying26 rfl (by kernel_rfl)) rfl ?_)
    exact ReadOut.of (d := Dd.undo) rd_back.1 rd_back.2 (OwnI.empty _ _) HB.out
  · have hbk : (l == [98, 97, 99, 107]) = false := by simpa [wordBack] using hback
    obtain ⟨w1, hw1⟩ : ∃ z, z = w.alloc (.cells #[.bool false, .slice none 0 0, .int .i64 0, .int .i64 0] 26) := ⟨_, rfl⟩
    have hb1 : Below w.heap.size w w1 := by rw [hw1]; exact (Below.refl _ _).alloc (Nat.le_refl _) _
    have hR1 : w1.heap[w.heap.size]? = some (.cells #[.bool false, .slice none 0 0, .int .i64 0, .int .i64 0] 26 (0, 0)) := by rw [hw1]; exact heap_alloc_new w _
    have hS := split_any l w1 hl (hm.below hb1)
    have HBK := Lib.hid hback
    have HB := Lib.hid hb1
    have HR := Lib.hid hR1
    have HWL := Lib.hid (words_le 32 l)
    unfold strV at hS
    clear hback hb1 hR1 hm
    go_enter Tryd.func9, Tryd.ntmps9
    go_wp2_with fail
    rw [← hw1]
    clear hw1
    refine hS.mono ?_
    rintro e w2 ⟨g, cap, rfl, hc1, hc2, hcs, hg1, hg2, hb2⟩
    have hb2' := HB.out.trans (hb2.mono HB.out.size)
    have hz2 := (hb2.block _ (Array.getElem?_eq_some_iff.1 HR.out).1).trans HR.out
    obtain ⟨us, hus⟩ : ∃ us, us = words 32 l := ⟨_, rfl⟩
    have HUS := Lib.hid hus.symm
    rw [← hus] at hc1 hcs HWL ⊢
    clear hS hus hbk hg1 hb2 HB HR
    by_cases h4 : us.length = 4
    · obtain ⟨u0, u1, u2, u3, rfl⟩ : ∃ a b c d, us = [a, b, c, d] := by
        match us, h4 with
        | [a, b, c, d], _ => exact ⟨a, b, c, d, rfl⟩
      have c0 := hcs 0 (by simp)
      have c1 := hcs 1 (by simp)
      have c2 := hcs 2 (by simp)
      have c3 := hcs 3 (by simp)
      simp only [List.getElem_cons_zero, List.getElem_cons_succ, strV] at c0 c1 c2 c3
      simp only [List.length_cons, List.length_nil, Nat.zero_add, Nat.reduceAdd] at hc1 ⊢
      have hl1 : u1.length ≤ 4000000 := Nat.le_trans (HWL.out u1 (by simp)) hl
      have hl2 : u2.length ≤ 4000000 := Nat.le_trans (HWL.out u2 (by simp)) hl
      have hl3 : u3.length ≤ 4000000 := Nat.le_trans (HWL.out u3 (by simp)) hl
      clear hcs h4
      by_cases hw0 : u0 = wordGuess
      · subst hw0
        unfold wordGuess at c0
        have hO1 := digitsOf_any u1 w2 hl1
        go_wp2_with fail
        refine hO1.mono ?_
        rintro e w3 ⟨a1, k1, rfl, ho1, hb3⟩
        have HS2 := Lib.hid hb2'.size
        have HB3 := Lib.hid (hb2'.trans (hb3.mono hb2'.size))
        have HZ3 := Lib.hid ((hb3.block _ (Array.getElem?_eq_some_iff.1 hz2).1).trans hz2)
        have HG3 := Lib.hid (Nat.lt_of_lt_of_le hg2 hb3.size)
        have c2 := (hb3.cell hg2).trans c2
        have c3 := (hb3.cell hg2).trans c3
        have HO1 := Lib.hid ho1
        have hO2 := digitsOf_any u2 w3 hl2
        clear hO1 ho1 hb2' hz2 hg2 c0 c1 hb3
        go_wp2_with fail
        refine hO2.mono ?_
        rintro e w4 ⟨a2, k2, rfl, ho2, hb4⟩
        have HB4 := Lib.hid (HB3.out.trans (hb4.mono HB3.out.size))
        have HZ4 := Lib.hid ((hb4.block _ (Array.getElem?_eq_some_iff.1 HZ3.out).1).trans HZ3.out)
        have c3 := (hb4.cell HG3.out).trans c3
        have HO1 := Lib.hid (HO1.out.below hb4)
        have HO2 := Lib.hid ho2
        have hO3 := digitsOf_any u3 w4 hl3
        clear hO2 ho2 c2 hb4
        go_wp2_with fail
        refine hO3.mono ?_
        rintro e w5 ⟨a3, k3, rfl, ho3, hb5⟩
        have HB5 := Lib.hid (HB4.out.trans (hb5.mono HB4.out.size))
        have HZ5 := Lib.hid ((hb5.block _ (Array.getElem?_eq_some_iff.1 HZ4.out).1).trans HZ4.out)
        have HX1 := Lib.hid ((HO1.out.below hb5).mono HS2.out)
        have HX2 := Lib.hid (HO2.out.below hb5)
        have HX3 := Lib.hid ho3
        have HROW := Lib.hid (fun h => read_row (l := l) HBK.out HUS.out h)
        have HIMP := Lib.hid (fun r n t2 t3 h2 h3 => read_impl (l := l) (r := r) (n := n) (t2 := t2) (t3 := t3) HBK.out HUS.out h2 h3)
        clear hO3 ho3 c3 hb5 HO1 HO2 HB3 HZ3 HB4 HZ4 hl1 hl2 hl3
        rcases e1 : rowB u1 with _ | _
        · have HF := Lib.hid (box_none (HROW.out (.inl e1)) HZ5.out HB5.out)
          obtain ⟨z0, z1, z2, z3, zf⟩ := box_zero HZ5.out
          go_wp2
          ((try simp only [Exit.inBlock, Exit.then]); refine bodyPost_ret (results_cell_tmp rfl _ _ w.heap.size _ _ (0, 0) _ rfl HF.out.2 Tryd.underlying26 rfl (by kernel_rfl)) rfl ?_)
          exact HF.out.1
        · rcases e2 : rowB u2 with _ | _
          · have HF := Lib.hid (box_none (HROW.out (.inr (.inl e2))) HZ5.out HB5.out)
            obtain ⟨z0, z1, z2, z3, zf⟩ := box_zero HZ5.out
            go_wp2
            ((try simp only [Exit.inBlock, Exit.then]); refine bodyPost_ret (results_cell_tmp rfl _ _ w.heap.size _ _ (0, 0) _ rfl HF.out.2 Tryd.underlying26 rfl (by kernel_rfl)) rfl ?_)
            exact HF.out.1
          · rcases e3 : rowB u3 with _ | _
            · have HF := Lib.hid (box_none (HROW.out (.inr (.inr e3))) HZ5.out HB5.out)
              obtain ⟨z0, z1, z2, z3, zf⟩ := box_zero HZ5.out
              go_wp2
              ((try simp only [Exit.inBlock, Exit.then]); refine bodyPost_ret (results_cell_tmp rfl _ _ w.heap.size _ _ (0, 0) _ rfl HF.out.2 Tryd.underlying26 rfl (by kernel_rfl)) rfl ?_)
              exact HF.out.1
            · obtain ⟨r, t2, hx2⟩ := rowB_cons e2
              obtain ⟨n, t3, hx3⟩ := rowB_cons e3
              have HI := Lib.hid (HIMP.out r n t2 t3 hx2 hx3)
              obtain ⟨g2, rfl, hg2, _, d2⟩ := HX2.out.first hx2
              obtain ⟨g3, rfl, hg3, _, d3⟩ := HX3.out.first hx3
              have hp2 : 0 < (rowX u2).length := by rw [hx2]; simp
              have hp3 : 0 < (rowX u3).length := by rw [hx3]; simp
              obtain ⟨L2, hL2⟩ : ∃ L, L = (rowX u2).length := ⟨_, rfl⟩
              obtain ⟨L3, hL3⟩ : ∃ L, L = (rowX u3).length := ⟨_, rfl⟩
              rw [← hL2] at hp2 ⊢
              rw [← hL3] at hp3 ⊢
              have HIN := Lib.hid (rowX_in u1)
              obtain ⟨xs, hxs⟩ : ∃ xs, xs = rowX u1 := ⟨_, rfl⟩
              rw [← hxs] at HX1 HI HIN ⊢
              have q2 : (0 : Int) < (L2 : Int) := by omega
              have q3 : (0 : Int) < (L3 : Int) := by omega
              clear hx2 hx3 hL2 hL3 hxs HX2 HX3 HIMP HROW e1 e2 e3
              go_upto_region 11 with fail
              go_cut [11] (fun s wx => MadeD w5 a1 xs.length k1 r n s wx)
              case first =>
                go_region_held3 (fun w' => w'.cell? ⟨g2, 0, none⟩ = some (.int .i64 r) ∧ w'.cell? ⟨g3, 0, none⟩ = some (.int .i64 n))
                  (first
                    | go_keep
                    | fail)
                  (fail)
                all_goals (go_wp2_with fail; go_meet; exact MadeD.new _ _ _ _ _ _)
              case rest =>
                obtain ⟨G, rfl, hb6, hG, hat⟩ := hcut
                obtain ⟨w6, rfl⟩ : ∃ z, z = wc := ⟨_, rfl⟩
                have HB6 := Lib.hid (HB5.out.trans (hb6.mono HB5.out.size))
                have HZ6 := Lib.hid ((hb6.block _ (Array.getElem?_eq_some_iff.1 HZ5.out).1).trans HZ5.out)
                have HX6 := Lib.hid (HX1.out.below hb6)
                have HAT := Lib.hid hat
                have hT := deedTextI_any false _ xs r n w6 (HX6.out.toInts HIN.out)
                obtain ⟨y0, y1, y2, y3⟩ := deed_cells hat
                unfold TextOut strV at hT
                obtain ⟨T, hTT⟩ : ∃ T, T = textD ⟨false, xs, r, n⟩ := ⟨_, rfl⟩
                rw [← hTT] at HI hT
                clear hb6 hat d2 d3 hg2 hg3 hp2 hp3 q2 q3 hTT HX1 HZ5 HB5 HIN
                unfold dV at hT
                go_wp2_with fail
                refine hT.mono ?_
                rintro e w7 ⟨rfl, hb7⟩
                have HB7 := Lib.hid (HB6.out.trans (hb7.mono HB6.out.size))
                have HZ7 := Lib.hid ((hb7.block _ (Array.getElem?_eq_some_iff.1 HZ6.out).1).trans HZ6.out)
                have HX7 := Lib.hid (HX6.out.below hb7)
                obtain ⟨y0, y1, y2, y3⟩ := deed_cells ((hb7.block _ (Array.getElem?_eq_some_iff.1 HAT.out).1).trans HAT.out)
                obtain ⟨z0, z1, z2, z3, zf⟩ := box_zero HZ7.out
                clear hT hb7
                by_cases hTl : T = l
                · have hr := HI.out
                  rw [if_pos hTl] at hr
                  have HF := Lib.hid (box_out (d := ⟨false, xs, r, n⟩) (rd_some hr).1 (rd_some hr).2 HZ7.out HB7.out HX7.out)
                  have hq : (T == l) = true := by simp [hTl]
                  clear hTl hr
                  go_wp2
                  ((try simp only [Exit.inBlock, Exit.then]); refine bodyPost_ret (results_cell_tmp rfl _ _ w.heap.size _ _ (0, 0) _ rfl HF.out.2 Tryd.underlying26 rfl (by kernel_rfl)) rfl ?_)
                  exact HF.out.1
                · have hr := HI.out
                  rw [if_neg hTl] at hr
                  have HF := Lib.hid (box_none hr HZ7.out HB7.out)
                  have hq : (T == l) = false := by simpa using hTl
                  clear hTl hr
                  go_wp2
                  ((try simp only [Exit.inBlock, Exit.then]); refine bodyPost_ret (results_cell_tmp rfl _ _ w.heap.size _ _ (0, 0) _ rfl HF.out.2 Tryd.underlying26 rfl (by kernel_rfl)) rfl ?_)
                  exact HF.out.1
      · have h0 : (u0 == [103, 117, 101, 115, 115]) = false := by simpa [wordGuess] using hw0
        have HF := Lib.hid (box_none (l := l) (read_word HBK.out HUS.out hw0) hz2 hb2')
        obtain ⟨z0, z1, z2, z3, zf⟩ := box_zero hz2
        clear hz2 hb2' c1 c2 c3
        go_wp2
        ((try simp only [Exit.inBlock, Exit.then]); refine bodyPost_ret (results_cell_tmp rfl _ _ w.heap.size _ _ (0, 0) _ rfl HF.out.2 Tryd.underlying26 rfl (by kernel_rfl)) rfl ?_)
        exact HF.out.1
    · have h4' : ¬ ((us.length : Int) = 4) := by omega
      have HF := Lib.hid (box_none (l := l) (read_len HBK.out (by rw [HUS.out]; exact h4)) hz2 hb2')
      obtain ⟨z0, z1, z2, z3, zf⟩ := box_zero hz2
      clear hz2 hb2' h4 hcs
      go_wp2
      ((try simp only [Exit.inBlock, Exit.then]); refine bodyPost_ret (results_cell_tmp rfl _ _ w.heap.size _ _ (0, 0) _ rfl HF.out.2 Tryd.underlying26 rfl (by kernel_rfl)) rfl ?_)
      exact HF.out.1

end Go.Proofs.YtenlngclocfnlaaDoor
