/- A law for regions that draw their order and end in one operation that waits for all others (a store, say): each operation is looked at once. No walk. -/
import Derived.Test.YtenlngclocfnlaaGreatDoorBunP
import Derived.Test.YtenlngclocfnlaaGreatDoorBunO
/- A law for regions that draw their order and end in one operation that waits for all others (a store, say): each operation is looked at once. No walk. -/
namespace Go.Proofs.YtenlngclocfnlaaGreatDoor
open Go Go.RowKit
set_option linter.unusedVariables false

theorem invSl_same {dst : Nat → Nat} {n : Nat} {done done' : Array Bool} {vs : Nat → Value} (h : ∀ k, k < n → done.getD k false = done'.getD k false) (t : Nat) (x : Value) : invSl dst n done vs t x = invSl dst n done' vs t x := by
  unfold invSl
  rcases q : invIdx dst n t with _ | k
  · rfl
  · simp only [h k (invIdx_lt q)]
theorem invL_same {dst : Nat → Nat} {n : Nat} {done done' : Array Bool} {vs : Nat → Value} (h : ∀ k, k < n → done.getD k false = done'.getD k false) : ∀ (l : List Value) (t : Nat), invL dst n done vs t l = invL dst n done' vs t l
  | [], t => rfl
  | x :: xs, t => by
    simp only [invL, invL_same h xs (t + 1), invSl_same h t x]
theorem invA_same {dst : Nat → Nat} {n : Nat} {a0 : Act} {done done' : Array Bool} {vs : Nat → Value} (h : ∀ k, k < n → done.getD k false = done'.getD k false) : invA dst n a0 done vs = invA dst n a0 done' vs := by
  unfold invA
  rw [invL_same h]
theorem replicate_getD (n k : Nat) (h : k < n) : (Array.replicate n true).getD k false = true := by
  simp [h]

section
variable {P : Program} {l : List Oper} {Q : Exit → Act → World → Prop} {a0 : Act} {w0 : World} {dst : Nat → Nat} {Φ : Nat → Value → World → Prop} {n : Nat}

theorem ready_nil {done : Array Bool} (hs : done.size = l.length) (h : ∀ i, i < l.length → done.getD i false = true) : Region.ready .any l.toArray done = [] := by
  rcases q : Region.ready .any l.toArray done with _ | ⟨j, r⟩
  · rfl
  · exfalso
    have hj : j ∈ Region.ready .any l.toArray done := by rw [q]; simp
    obtain ⟨h1, o, h2, _⟩ := mem_ready.1 hj
    have hlt : j < l.length := by simpa using (Array.getElem?_eq_some_iff.1 h2).1
    have h3 := h j hlt
    have h4 : j < done.size := by omega
    simp only [Array.getD_eq_getD_getElem?, Array.getElem?_eq_getElem h4, Option.getD_some] at h1 h3
    rw [h1] at h3
    cases h3
theorem wpAny_done {done : Array Bool} {a : Act} {w : World} (hs : done.size = l.length) (h : ∀ i, i < l.length → done.getD i false = true) (hq : Q .normal a w) : ∀ c, wpAny P .any l.toArray Q c done a w
  | 0 => ⟨ready_nil hs h, hq⟩
  | c + 1 => ⟨fun _ => hq, fun i hi => by rw [ready_nil hs h] at hi; cases hi⟩

/-- The state between two operations; the last one is not done. -/
def InvE (l : List Oper) (a0 : Act) (w0 : World) (dst : Nat → Nat) (Φ : Nat → Value → World → Prop) (n : Nat) (done : Array Bool) (a : Act) (w : World) : Prop :=
  done.size = l.length ∧ done.getD n false = false ∧ Below w0.heap.size w0 w ∧ ∃ vs, a = invA dst n a0 done vs ∧ ∀ k, k < n → done.getD k false = true → Φ k (vs k) w

theorem inv_anyE (hn : l.length = n + 1) (hdst : ∀ i (h : i < l.length), i < n → l[i].dst = some (dst i)) (hinj : ∀ i, i < n → invIdx dst n (dst i) = some i) (hsz : ∀ i, i < n → dst i < a0.tmps.size) (hdag : ∀ i (h : i < l.length), ∀ k ∈ invDeps l[i], k < i) (hlast : ∀ (h : n < l.length), ∀ k, k < n → k ∈ invDeps l[n])
    (hmono : ∀ k v w w', Φ k v w → Below w.heap.size w w' → Φ k v w')
    (hstep : ∀ i (h : i < l.length), i < n → ∀ (A : Act) (W : World), Below w0.heap.size w0 W → (∀ t, invIdx dst n t = none → A.tmps.getD t undef = a0.tmps.getD t undef) → (∀ k ∈ invDeps l[i], Φ k (A.tmps.getD (dst k) undef) W) →
      ∀ K : Act → World → Prop, Hid (∀ v W', Below W.heap.size W W' → Φ i v W' → K (A.put (some (dst i)) v) W') → if Region.wanted l[i] (yielded l.toArray A.tmps) = true then Oper.wp P l[i] A W K Q else K (A.put l[i].dst undef) W)
    (hend : ∀ (h : n < l.length), ∀ vs W, Below w0.heap.size w0 W → (∀ k, k < n → Φ k (vs k) W) → ∀ A, A = invA dst n a0 (Array.replicate n true) vs → (∀ k, k < n → A.tmps.getD (dst k) undef = vs k) →
      ∀ K : Act → World → Prop, Hid (∀ a w, Q .normal a w → K a w) → if Region.wanted l[n] (yielded l.toArray A.tmps) = true then Oper.wp P l[n] A W K Q else K (A.put l[n].dst undef) W) :
    ∀ (c : Nat) (done : Array Bool) (a : Act) (w : World), InvE l a0 w0 dst Φ n done a w → invLeft done = c → wpAny P .any l.toArray Q c done a w := by
  intro c
  induction c with
  | zero =>
    intro done a w hI hz
    have h1 := inv_zero hI.1 hz n (by omega)
    rw [hI.2.1] at h1
    cases h1
  | succ c ih =>
    intro done a w hI hc
    refine ⟨fun hr => ?_, fun i hi => ?_⟩
    · have h1 := inv_all hI.1 hdag hr n (by omega)
      rw [hI.2.1] at h1
      cases h1
    · obtain ⟨h1, o, h2, h3⟩ := mem_ready.1 hi
      have hlt : i < l.length := by simpa using (Array.getElem?_eq_some_iff.1 h2).1
      have ho : o = l[i] := by simpa [hlt] using h2.symm
      subst ho
      obtain ⟨hs, hnf, hB, vs, rfl, hv⟩ := hI
      have hls : i < done.size := by omega
      have hund : done.getD i false = false := by
        simp only [Array.getD_eq_getD_getElem?, Array.getElem?_eq_getElem hls, Option.getD_some] at h1 ⊢
        exact h1
      have hdep : ∀ k ∈ invDeps l[i], done.getD k false = true := by
        intro k hk
        obtain ⟨e, he, rfl⟩ := List.mem_map.1 hk
        obtain ⟨he1, he2⟩ := List.mem_filter.1 he
        exact h3 e (by simpa using he1) he2
      by_cases hin : i = n
      · subst hin
        have hall : ∀ k, k < i → done.getD k false = true := fun k hk => hdep k (hlast hlt k hk)
        refine wpOp_step h2 fun K' hK' => ?_
        refine hend hlt vs w hB (fun k hk => hv k hk (hall k hk)) _ (invA_same fun k hk => by rw [hall k hk, replicate_getD _ _ hk]) (fun k hk => invA_done (hinj k hk) (hsz k hk) (hall k hk)) K' (Lib.hid fun a' w' hq => hK' _ _ ?_)
        refine wpAny_done (by simpa using hs) (fun j hj => ?_) hq c
        by_cases e : j = i
        · subst e; simp [hls]
        · rw [getD_set_ne false (Ne.symm e)]; exact hall j (by omega)
      · have hin' : i < n := by omega
        refine wpOp_step h2 fun K' hK' => ?_
        refine hstep i hlt hin' _ w hB (fun t ht => invA_other ht) (fun k hk => ?_) K' (Lib.hid fun v W' hb hΦ => hK' _ _ ?_)
        · have hkl := hdag i hlt k hk
          have hd := hdep k hk
          rw [invA_done (hinj k (by omega)) (hsz k (by omega)) hd]
          exact hv k (by omega) hd
        · refine ih (done.setIfInBounds i true) _ W' ⟨by simpa using hs, by rw [getD_set_ne false hin]; exact hnf, hB.trans (hb.mono hB.size), fun k => if k = i then v else vs k, invA_put (hinj i hin') hls hund v, fun k hk hd => ?_⟩ (by have := invLeft_set hls hund; omega)
          by_cases e : k = i
          · subst e
            simp only [if_true]
            exact hΦ
          · rw [getD_set_ne false (Ne.symm e)] at hd
            simp only [if_neg e]
            exact hmono k _ _ _ (hv k hk hd) hb

/-- The region is such. -/
def invChkE (l : List Oper) (dst : Nat → Nat) (n m : Nat) : Bool := l.length == n + 1 && ((List.range n).all (fun i => match l[i]? with
  | some o => o.dst == some (dst i) && (invIdx dst n (dst i) == some i && (decide (dst i < m) && (invDeps o).all (fun k => decide (k < i))))
  | none => false) && (match l[n]? with
  | some o => (invDeps o).all (fun k => decide (k < n)) && (List.range n).all (fun k => (invDeps o).contains k)
  | none => false))

/-- The region, each operation looked at once; the last one waits for all others. -/
theorem wp_region_invE {id : Nat} (hm : P.follows .mixedOrders = true) (dst : Nat → Nat) (n m : Nat) (Φ : Nat → Value → World → Prop) (hsz : a0.tmps.size = m) (hchk : invChkE l dst n m = true)
    (hmono : ∀ k v w w', Φ k v w → Below w.heap.size w w' → Φ k v w')
    (hstep : ∀ i o, i < n → l[i]? = some o → ∀ (A : Act) (W : World), Below w0.heap.size w0 W → (∀ t, invIdx dst n t = none → A.tmps.getD t undef = a0.tmps.getD t undef) → (∀ k, (invDeps o).contains k = true → Φ k (A.tmps.getD (dst k) undef) W) →
      ∀ K : Act → World → Prop, Hid (∀ v W', Below W.heap.size W W' → Φ i v W' → K (A.put (some (dst i)) v) W') → if Region.wanted o (yielded l.toArray A.tmps) = true then Oper.wp P o A W K Q else K (A.put o.dst undef) W)
    (hend : ∀ o, l[n]? = some o → ∀ vs W, Below w0.heap.size w0 W → (∀ k, k < n → Φ k (vs k) W) → ∀ A, A = invA dst n a0 (Array.replicate n true) vs → (∀ k, k < n → A.tmps.getD (dst k) undef = vs k) →
      ∀ K : Act → World → Prop, Hid (∀ a w, Q .normal a w → K a w) → if Region.wanted o (yielded l.toArray A.tmps) = true then Oper.wp P o A W K Q else K (A.put o.dst undef) W) : (Code.region id l.toArray true).wp P Q a0 w0 := by
  refine wp_region_any hm ?_
  unfold invChkE at hchk
  rw [Bool.and_eq_true, Bool.and_eq_true] at hchk
  obtain ⟨hc1, hc2, hc3⟩ := hchk
  have hn : l.length = n + 1 := by simpa using hc1
  have at' : ∀ i (h : i < l.length), i < n → l[i].dst = some (dst i) ∧ invIdx dst n (dst i) = some i ∧ dst i < m ∧ ∀ k ∈ invDeps l[i], k < i := by
    intro i h hi
    have := List.all_eq_true.1 hc2 i (List.mem_range.2 hi)
    rw [List.getElem?_eq_getElem h] at this
    simp only [Bool.and_eq_true, beq_iff_eq, decide_eq_true_eq, List.all_eq_true] at this
    exact this
  have hnl : n < l.length := by omega
  rw [List.getElem?_eq_getElem hnl] at hc3
  simp only [Bool.and_eq_true, decide_eq_true_eq, List.all_eq_true, List.mem_range, List.contains_iff_mem] at hc3
  have hnone : ∀ k, (Array.replicate l.toArray.size false).getD k false = false := fun k => by
    simp only [Array.getD_eq_getD_getElem?]
    rcases q : (Array.replicate l.toArray.size false)[k]? with _ | b
    · rfl
    · obtain ⟨_, q2⟩ := Array.getElem?_eq_some_iff.1 q
      simp at q2
      simp [← q2]
  refine inv_anyE (w0 := w0) (a0 := a0) hn (fun i h hi => (at' i h hi).1) (fun i hi => (at' i (by omega) hi).2.1) (fun i hi => by rw [hsz]; exact (at' i (by omega) hi).2.2.1) (fun i h => ?_) (fun h k hk => hc3.2 k hk) hmono
    (fun i h hi A W hB hA hD K hK => hstep i l[i] hi (List.getElem?_eq_getElem h) A W hB hA (fun k hk => hD k (by simpa using hk)) K hK) (fun h => hend l[n] (List.getElem?_eq_getElem h)) _ _ _ _ ⟨by simp, hnone n, (Below.refl _ w0).drew, fun _ => undef, ?_, fun k _ hk => ?_⟩ (by simpa using invLeft_none l.length)
  · by_cases e : i = n
    · subst e; exact hc3.1
    · exact (at' i h (by omega)).2.2.2
  · unfold invA
    rw [invL_none n _ _ hnone]
  · rw [hnone] at hk; cases hk
end
end Go.Proofs.YtenlngclocfnlaaGreatDoor

/- The reference's ReadDeed. -/
namespace Go.Proofs.YtenlngclocfnlaaGreatDoor
open Go.RowKit
set_option linter.unusedVariables false
set_option maxRecDepth 100000

theorem MadeD.set {w W : World} {a : Option Addr} {n cap G : Nat} {r q : Int} (hb : Below w.heap.size w W) (hG : w.heap.size ≤ G) (hz : W.heap[G]? = some (.cells #[.bool false, .slice none 0 0, .int .i64 0, .int .i64 0] 41 (0, 0))) :
    MadeD w a n cap r q (.pointer (some ⟨G, 0, none⟩)) ((((W.setCell ⟨G, 0, none⟩ (.bool false)).setCell ⟨G, 1, none⟩ (.slice a n cap)).setCell ⟨G, 2, none⟩ (.int .i64 r)).setCell ⟨G, 3, none⟩ (.int .i64 q)) := by
  have q1 := heap_setCell_same _ _ 0 _ _ (.bool false) hz
  have q2 := heap_setCell_same _ _ 1 _ _ (.slice a n cap) q1
  have q3 := heap_setCell_same _ _ 2 _ _ (.int .i64 r) q2
  have q4 := heap_setCell_same _ _ 3 _ _ (.int .i64 q) q3
  exact ⟨G, rfl, (((hb.setCell (p := ⟨G, 0, none⟩) hG _).setCell (p := ⟨G, 1, none⟩) hG _).setCell (p := ⟨G, 2, none⟩) hG _).setCell (p := ⟨G, 3, none⟩) hG _, hG, q4⟩

set_option maxHeartbeats 8000000 in
theorem readDeedS_any (l : List UInt8) (w : World) (hl : l.length ≤ 4000000) :
    Calls Tryz.prog 45 #[strV l] w (ReadOut l w) := by
  unfold strV
  by_cases hback : l = wordBack
  · subst hback
    have HB := Lib.hid (show Below w.heap.size w (w.alloc (.cells #[.bool true, .slice none 0 0, .int .i64 0, .int .i64 0] 41)) from (Below.refl _ _).alloc (Nat.le_refl _) _)
    have HR := Lib.hid (heap_alloc_new w (.cells #[.bool true, .slice none 0 0, .int .i64 0, .int .i64 0] 41))
    unfold wordBack
    go_enter Tryz.func45, Tryz.ntmps45
    go_wp2
    ((try simp only [Exit.inBlock, Exit.then]); refine bodyPost_ret (results_cell_tmp rfl _ _ w.heap.size _ _ (0, 0) _ rfl HR.out Tryz.underlying41 rfl (by kernel_rfl)) rfl ?_)
    exact ReadOut.of (d := Dd.undo) rd_back.1 rd_back.2 (OwnI.empty _ _) HB.out
  · have hbk : (l == [98, 97, 99, 107]) = false := by simpa [wordBack] using hback
    obtain ⟨w1, hw1⟩ : ∃ z, z = w.alloc (.cells #[.bool false, .slice none 0 0, .int .i64 0, .int .i64 0] 41) := ⟨_, rfl⟩
    have hb1 : Below w.heap.size w w1 := by rw [hw1]; exact (Below.refl _ _).alloc (Nat.le_refl _) _
    have hR1 : w1.heap[w.heap.size]? = some (.cells #[.bool false, .slice none 0 0, .int .i64 0, .int .i64 0] 41 (0, 0)) := by rw [hw1]; exact heap_alloc_new w _
    have hS : Calls Tryz.prog 71 #[.string ⟨l.toArray⟩, .int .u8 32] w1 (WordsOut (words 32 l) w1) := l1Cut_any l 32 w1 hl
    have HBK := Lib.hid hback
    have HB := Lib.hid hb1
    have HR := Lib.hid hR1
    have HWL := Lib.hid (words_le 32 l)
    clear hback hb1 hR1
    go_enter Tryz.func45, Tryz.ntmps45
    go_wp2_with fail
    rw [← hw1]
    clear hw1
    refine hS.mono ?_
    rintro e w2 ⟨g, cap, rfl, hc1, hc2, hcs, hg1, hg2, hb2⟩
    have hb2' := HB.out.trans (hb2.mono HB.out.size)
    have hz2 := (hb2.block _ (Array.getElem?_eq_some_iff.1 HR.out).1).trans HR.out
    obtain ⟨us, hus⟩ : ∃ us, us = words 32 l := ⟨_, rfl⟩
    have HUS := Lib.hid hus.symm
    rw [← hus] at hc1 hcs HWL ⊢
    clear hS hus hbk hg1 hb2 HB HR
    by_cases h4 : us.length = 4
    · obtain ⟨u0, u1, u2, u3, rfl⟩ : ∃ a b c d, us = [a, b, c, d] := by
        match us, h4 with
        | [a, b, c, d], _ => exact ⟨a, b, c, d, rfl⟩
      have c1 := hcs 1 (by simp)
      have c2 := hcs 2 (by simp)
      have c3 := hcs 3 (by simp)
      simp only [List.getElem_cons_zero, List.getElem_cons_succ, strV] at c1 c2 c3
      simp only [List.length_cons, List.length_nil, Nat.zero_add, Nat.reduceAdd] at hc1 ⊢
      have hl1 : u1.length ≤ 4000000 := Nat.le_trans (HWL.out u1 (by simp)) hl
      have hl2 : u2.length ≤ 4000000 := Nat.le_trans (HWL.out u2 (by simp)) hl
      have hl3 : u3.length ≤ 4000000 := Nat.le_trans (HWL.out u3 (by simp)) hl
      have hO1 := l15Row_any u1 w2 hl1
      clear hcs h4
      go_wp2_with fail
      refine hO1.mono ?_
      rintro e w3 ⟨a1, k1, rfl, ho1, hb3⟩
      have HS2 := Lib.hid hb2'.size
      have HB3 := Lib.hid (hb2'.trans (hb3.mono hb2'.size))
      have HZ3 := Lib.hid ((hb3.block _ (Array.getElem?_eq_some_iff.1 hz2).1).trans hz2)
      have hg3 := (Nat.lt_of_lt_of_le hg2 hb3.size)
      have q2 := (hb3.cell hg2).trans c2
      have q3 := (hb3.cell hg2).trans c3
      have HX1 := Lib.hid (ho1.mono (B' := w.heap.size) HS2.out)
      have HROW := Lib.hid (fun h => read_row (l := l) HBK.out (u0 := u0) HUS.out h)
      have HI := Lib.hid (read_spec (l := l) HBK.out HUS.out)
      have HN2 := Lib.hid (fun W : World => l1Digits_any u2 W hl2)
      have HN3 := Lib.hid (fun W : World => l1Digits_any u3 W hl3)
      have HIN := Lib.hid (rowX_in u1)
      obtain ⟨xs, hxs⟩ : ∃ xs, xs = rowX u1 := ⟨_, rfl⟩
      obtain ⟨r, hr⟩ : ∃ r, r = numL u2 := ⟨_, rfl⟩
      obtain ⟨n, hn⟩ : ∃ n, n = numL u3 := ⟨_, rfl⟩
      obtain ⟨o, ho⟩ : ∃ o, o = rowB u1 := ⟨_, rfl⟩
      rw [← hxs] at HX1 HI HIN ⊢
      rw [← hr] at HN2 HI
      rw [← hn] at HN3 HI
      rw [← ho] at HROW ⊢
      clear hO1 ho1 hb3 c1 c2 c3 hb2' hz2 hg2 hl1 hl2 hl3 hxs hr hn ho
      go_upto_region 7 with fail
      go_cut [7] (fun s wx => MadeD w3 a1 xs.length k1 r n s wx)
      case first =>
        unfold strV at HN2 HN3
        refine wp_region_invE (by kernel_rfl) (fun k => (#[24, 25, 26, 27, 28, 29, 30, 31, 32, 33, 34, 7] : Array Nat).getD k 0) 12 45
          (fun k v W => match k with
            | 0 => v = Value.slice a1 xs.length k1
            | 1 => v = Value.slice (some ⟨g, 0, none⟩) 4 cap
            | 2 => v = Value.pointer (some ⟨g, 2, none⟩)
            | 3 => v = Value.string ⟨u2.toArray⟩
            | 4 => v = Value.int .i64 r
            | 5 => v = Value.slice (some ⟨g, 0, none⟩) 4 cap
            | 6 => v = Value.pointer (some ⟨g, 3, none⟩)
            | 7 => v = Value.string ⟨u3.toArray⟩
            | 8 => v = Value.int .i64 n
            | 9 => v = Value.agg #[Value.slice a1 xs.length k1, .int .i64 r, .int .i64 n]
            | 10 => v = Value.agg #[.bool false, Value.slice a1 xs.length k1, .int .i64 r, .int .i64 n]
            | 11 => ∃ G, v = .pointer (some ⟨G, 0, none⟩) ∧ w3.heap.size ≤ G ∧ W.heap[G]? = some (.cells #[.bool false, .slice none 0 0, .int .i64 0, .int .i64 0] 41 (0, 0))
            | _ => False) rfl (by kernel_rfl) ?mono ?step ?fin
        case mono =>
          intro k v W W' h hb
          match k, h with
          | 0, h => exact h
          | 1, h => exact h
          | 2, h => exact h
          | 3, h => exact h
          | 4, h => exact h
          | 5, h => exact h
          | 6, h => exact h
          | 7, h => exact h
          | 8, h => exact h
          | 9, h => exact h
          | 10, h => exact h
          | 11, h => (obtain ⟨G, h1, h2, h3⟩ := h; exact ⟨G, h1, h2, (hb.block _ (Array.getElem?_eq_some_iff.1 h3).1).trans h3⟩)
        case step =>
          intro i o hi ho A W hW hA hD K hK
          match i, ho with
          | 0, ho =>
            simp only [List.getElem?_cons_zero, Option.some.injEq] at ho
            subst ho
            have e5 : A.tmps.getD 5 undef = Value.slice a1 xs.length k1 := (hA 5 (by kernel_rfl)).trans rfl
            have e5' := e5
            rw [Array.getD_eq_getD_getElem?] at e5'
            have e4 : A.tmps.getD 4 undef = Value.slice (some ⟨g, 0, none⟩) 4 cap := (hA 4 (by kernel_rfl)).trans rfl
            have e4' := e4
            rw [Array.getD_eq_getD_getElem?] at e4'
            have HK := Lib.hid (show ∀ v W', Below W.heap.size W W' → (v = Value.slice a1 xs.length k1) → K (A.put (some 24) v) W' from hK.out)
            clear hA hD hK
            go_simp
            exact HK.out _ _ (Below.refl _ _) rfl
          | 1, ho =>
            simp only [List.getElem?_cons_succ, List.getElem?_cons_zero, Option.some.injEq] at ho
            subst ho
            have e5 : A.tmps.getD 5 undef = Value.slice a1 xs.length k1 := (hA 5 (by kernel_rfl)).trans rfl
            have e5' := e5
            rw [Array.getD_eq_getD_getElem?] at e5'
            have e4 : A.tmps.getD 4 undef = Value.slice (some ⟨g, 0, none⟩) 4 cap := (hA 4 (by kernel_rfl)).trans rfl
            have e4' := e4
            rw [Array.getD_eq_getD_getElem?] at e4'
            have HK := Lib.hid (show ∀ v W', Below W.heap.size W W' → (v = Value.slice (some ⟨g, 0, none⟩) 4 cap) → K (A.put (some 25) v) W' from hK.out)
            clear hA hD hK
            go_simp
            exact HK.out _ _ (Below.refl _ _) rfl
          | 2, ho =>
            simp only [List.getElem?_cons_succ, List.getElem?_cons_zero, Option.some.injEq] at ho
            subst ho
            have e5 : A.tmps.getD 5 undef = Value.slice a1 xs.length k1 := (hA 5 (by kernel_rfl)).trans rfl
            have e5' := e5
            rw [Array.getD_eq_getD_getElem?] at e5'
            have e4 : A.tmps.getD 4 undef = Value.slice (some ⟨g, 0, none⟩) 4 cap := (hA 4 (by kernel_rfl)).trans rfl
            have e4' := e4
            rw [Array.getD_eq_getD_getElem?] at e4'
            have d1 : A.tmps.getD 25 undef = Value.slice (some ⟨g, 0, none⟩) 4 cap := hD 1 (by kernel_rfl)
            have d1' := d1
            rw [Array.getD_eq_getD_getElem?] at d1'
            have HK := Lib.hid (show ∀ v W', Below W.heap.size W W' → (v = Value.pointer (some ⟨g, 2, none⟩)) → K (A.put (some 26) v) W' from hK.out)
            clear hA hD hK
            go_simp
            exact HK.out _ _ (Below.refl _ _) rfl
          | 3, ho =>
            simp only [List.getElem?_cons_succ, List.getElem?_cons_zero, Option.some.injEq] at ho
            subst ho
            have e5 : A.tmps.getD 5 undef = Value.slice a1 xs.length k1 := (hA 5 (by kernel_rfl)).trans rfl
            have e5' := e5
            rw [Array.getD_eq_getD_getElem?] at e5'
            have e4 : A.tmps.getD 4 undef = Value.slice (some ⟨g, 0, none⟩) 4 cap := (hA 4 (by kernel_rfl)).trans rfl
            have e4' := e4
            rw [Array.getD_eq_getD_getElem?] at e4'
            have d2 : A.tmps.getD 26 undef = Value.pointer (some ⟨g, 2, none⟩) := hD 2 (by kernel_rfl)
            have d2' := d2
            rw [Array.getD_eq_getD_getElem?] at d2'
            have HK := Lib.hid (show ∀ v W', Below W.heap.size W W' → (v = Value.string ⟨u2.toArray⟩) → K (A.put (some 27) v) W' from hK.out)
            have hcc := (hW.cell hg3).trans q2
            clear hA hD hK
            go_simp
            exact HK.out _ _ (Below.refl _ _) rfl
          | 4, ho =>
            simp only [List.getElem?_cons_succ, List.getElem?_cons_zero, Option.some.injEq] at ho
            subst ho
            have e5 : A.tmps.getD 5 undef = Value.slice a1 xs.length k1 := (hA 5 (by kernel_rfl)).trans rfl
            have e5' := e5
            rw [Array.getD_eq_getD_getElem?] at e5'
            have e4 : A.tmps.getD 4 undef = Value.slice (some ⟨g, 0, none⟩) 4 cap := (hA 4 (by kernel_rfl)).trans rfl
            have e4' := e4
            rw [Array.getD_eq_getD_getElem?] at e4'
            have d3 : A.tmps.getD 27 undef = Value.string ⟨u2.toArray⟩ := hD 3 (by kernel_rfl)
            have d3' := d3
            rw [Array.getD_eq_getD_getElem?] at d3'
            have HK := Lib.hid (show ∀ v W', Below W.heap.size W W' → (v = Value.int .i64 r) → K (A.put (some 28) v) W' from hK.out)
            clear hA hD hK
            go_simp
            refine (HN2.out W).mono ?_
            rintro e W' ⟨rfl, rfl⟩
            exact HK.out _ _ (Below.refl _ _) rfl
          | 5, ho =>
            simp only [List.getElem?_cons_succ, List.getElem?_cons_zero, Option.some.injEq] at ho
            subst ho
            have e5 : A.tmps.getD 5 undef = Value.slice a1 xs.length k1 := (hA 5 (by kernel_rfl)).trans rfl
            have e5' := e5
            rw [Array.getD_eq_getD_getElem?] at e5'
            have e4 : A.tmps.getD 4 undef = Value.slice (some ⟨g, 0, none⟩) 4 cap := (hA 4 (by kernel_rfl)).trans rfl
            have e4' := e4
            rw [Array.getD_eq_getD_getElem?] at e4'
            have HK := Lib.hid (show ∀ v W', Below W.heap.size W W' → (v = Value.slice (some ⟨g, 0, none⟩) 4 cap) → K (A.put (some 29) v) W' from hK.out)
            clear hA hD hK
            go_simp
            exact HK.out _ _ (Below.refl _ _) rfl
          | 6, ho =>
            simp only [List.getElem?_cons_succ, List.getElem?_cons_zero, Option.some.injEq] at ho
            subst ho
            have e5 : A.tmps.getD 5 undef = Value.slice a1 xs.length k1 := (hA 5 (by kernel_rfl)).trans rfl
            have e5' := e5
            rw [Array.getD_eq_getD_getElem?] at e5'
            have e4 : A.tmps.getD 4 undef = Value.slice (some ⟨g, 0, none⟩) 4 cap := (hA 4 (by kernel_rfl)).trans rfl
            have e4' := e4
            rw [Array.getD_eq_getD_getElem?] at e4'
            have d5 : A.tmps.getD 29 undef = Value.slice (some ⟨g, 0, none⟩) 4 cap := hD 5 (by kernel_rfl)
            have d5' := d5
            rw [Array.getD_eq_getD_getElem?] at d5'
            have HK := Lib.hid (show ∀ v W', Below W.heap.size W W' → (v = Value.pointer (some ⟨g, 3, none⟩)) → K (A.put (some 30) v) W' from hK.out)
            clear hA hD hK
            go_simp
            exact HK.out _ _ (Below.refl _ _) rfl
          | 7, ho =>
            simp only [List.getElem?_cons_succ, List.getElem?_cons_zero, Option.some.injEq] at ho
            subst ho
            have e5 : A.tmps.getD 5 undef = Value.slice a1 xs.length k1 := (hA 5 (by kernel_rfl)).trans rfl
            have e5' := e5
            rw [Array.getD_eq_getD_getElem?] at e5'
            have e4 : A.tmps.getD 4 undef = Value.slice (some ⟨g, 0, none⟩) 4 cap := (hA 4 (by kernel_rfl)).trans rfl
            have e4' := e4
            rw [Array.getD_eq_getD_getElem?] at e4'
            have d6 : A.tmps.getD 30 undef = Value.pointer (some ⟨g, 3, none⟩) := hD 6 (by kernel_rfl)
            have d6' := d6
            rw [Array.getD_eq_getD_getElem?] at d6'
            have HK := Lib.hid (show ∀ v W', Below W.heap.size W W' → (v = Value.string ⟨u3.toArray⟩) → K (A.put (some 31) v) W' from hK.out)
            have hcc := (hW.cell hg3).trans q3
            clear hA hD hK
            go_simp
            exact HK.out _ _ (Below.refl _ _) rfl
          | 8, ho =>
            simp only [List.getElem?_cons_succ, List.getElem?_cons_zero, Option.some.injEq] at ho
            subst ho
            have e5 : A.tmps.getD 5 undef = Value.slice a1 xs.length k1 := (hA 5 (by kernel_rfl)).trans rfl
            have e5' := e5
            rw [Array.getD_eq_getD_getElem?] at e5'
            have e4 : A.tmps.getD 4 undef = Value.slice (some ⟨g, 0, none⟩) 4 cap := (hA 4 (by kernel_rfl)).trans rfl
            have e4' := e4
            rw [Array.getD_eq_getD_getElem?] at e4'
            have d7 : A.tmps.getD 31 undef = Value.string ⟨u3.toArray⟩ := hD 7 (by kernel_rfl)
            have d7' := d7
            rw [Array.getD_eq_getD_getElem?] at d7'
            have HK := Lib.hid (show ∀ v W', Below W.heap.size W W' → (v = Value.int .i64 n) → K (A.put (some 32) v) W' from hK.out)
            clear hA hD hK
            go_simp
            refine (HN3.out W).mono ?_
            rintro e W' ⟨rfl, rfl⟩
            exact HK.out _ _ (Below.refl _ _) rfl
          | 9, ho =>
            simp only [List.getElem?_cons_succ, List.getElem?_cons_zero, Option.some.injEq] at ho
            subst ho
            have e5 : A.tmps.getD 5 undef = Value.slice a1 xs.length k1 := (hA 5 (by kernel_rfl)).trans rfl
            have e5' := e5
            rw [Array.getD_eq_getD_getElem?] at e5'
            have e4 : A.tmps.getD 4 undef = Value.slice (some ⟨g, 0, none⟩) 4 cap := (hA 4 (by kernel_rfl)).trans rfl
            have e4' := e4
            rw [Array.getD_eq_getD_getElem?] at e4'
            have d0 : A.tmps.getD 24 undef = Value.slice a1 xs.length k1 := hD 0 (by kernel_rfl)
            have d0' := d0
            rw [Array.getD_eq_getD_getElem?] at d0'
            have d4 : A.tmps.getD 28 undef = Value.int .i64 r := hD 4 (by kernel_rfl)
            have d4' := d4
            rw [Array.getD_eq_getD_getElem?] at d4'
            have d8 : A.tmps.getD 32 undef = Value.int .i64 n := hD 8 (by kernel_rfl)
            have d8' := d8
            rw [Array.getD_eq_getD_getElem?] at d8'
            have HK := Lib.hid (show ∀ v W', Below W.heap.size W W' → (v = Value.agg #[Value.slice a1 xs.length k1, .int .i64 r, .int .i64 n]) → K (A.put (some 33) v) W' from hK.out)
            clear hA hD hK
            go_simp
            exact HK.out _ _ (Below.refl _ _) rfl
          | 10, ho =>
            simp only [List.getElem?_cons_succ, List.getElem?_cons_zero, Option.some.injEq] at ho
            subst ho
            have e5 : A.tmps.getD 5 undef = Value.slice a1 xs.length k1 := (hA 5 (by kernel_rfl)).trans rfl
            have e5' := e5
            rw [Array.getD_eq_getD_getElem?] at e5'
            have e4 : A.tmps.getD 4 undef = Value.slice (some ⟨g, 0, none⟩) 4 cap := (hA 4 (by kernel_rfl)).trans rfl
            have e4' := e4
            rw [Array.getD_eq_getD_getElem?] at e4'
            have d9 : A.tmps.getD 33 undef = Value.agg #[Value.slice a1 xs.length k1, .int .i64 r, .int .i64 n] := hD 9 (by kernel_rfl)
            have d9' := d9
            rw [Array.getD_eq_getD_getElem?] at d9'
            have HK := Lib.hid (show ∀ v W', Below W.heap.size W W' → (v = Value.agg #[.bool false, Value.slice a1 xs.length k1, .int .i64 r, .int .i64 n]) → K (A.put (some 34) v) W' from hK.out)
            clear hA hD hK
            go_simp
            exact HK.out _ _ (Below.refl _ _) rfl
          | 11, ho =>
            simp only [List.getElem?_cons_succ, List.getElem?_cons_zero, Option.some.injEq] at ho
            subst ho
            have e5 : A.tmps.getD 5 undef = Value.slice a1 xs.length k1 := (hA 5 (by kernel_rfl)).trans rfl
            have e5' := e5
            rw [Array.getD_eq_getD_getElem?] at e5'
            have e4 : A.tmps.getD 4 undef = Value.slice (some ⟨g, 0, none⟩) 4 cap := (hA 4 (by kernel_rfl)).trans rfl
            have e4' := e4
            rw [Array.getD_eq_getD_getElem?] at e4'
            have HK := Lib.hid (show ∀ v W', Below W.heap.size W W' → (∃ G, v = .pointer (some ⟨G, 0, none⟩) ∧ w3.heap.size ≤ G ∧ W'.heap[G]? = some (.cells #[.bool false, .slice none 0 0, .int .i64 0, .int .i64 0] 41 (0, 0))) → K (A.put (some 7) v) W' from hK.out)
            have hsz := hW.size
            clear hA hD hK
            go_simp
            exact HK.out _ _ ((Below.refl _ _).alloc (Nat.le_refl _) _) ⟨_, rfl, hsz, heap_alloc_new W _⟩
          | n + 12, ho =>
            exact absurd hi (by omega)
        case fin =>
          intro o ho vs W hW h A hAe hV K hK
          simp only [List.getElem?_cons_succ, List.getElem?_cons_zero, Option.some.injEq] at ho
          subst ho
          have h10 : vs 10 = Value.agg #[.bool false, Value.slice a1 xs.length k1, .int .i64 r, .int .i64 n] := h 10 (by decide)
          obtain ⟨G, h11, hG, hrow⟩ := (show ∃ G, vs 11 = .pointer (some ⟨G, 0, none⟩) ∧ w3.heap.size ≤ G ∧ W.heap[G]? = some (.cells #[.bool false, .slice none 0 0, .int .i64 0, .int .i64 0] 41 (0, 0)) from h 11 (by decide))
          have d10 : A.tmps.getD 34 undef = Value.agg #[.bool false, Value.slice a1 xs.length k1, .int .i64 r, .int .i64 n] := (hV 10 (by decide)).trans h10
          have d10' := d10
          rw [Array.getD_eq_getD_getElem?] at d10'
          have d11 : A.tmps.getD 7 undef = .pointer (some ⟨G, 0, none⟩) := (hV 11 (by decide)).trans h11
          have d11' := d11
          rw [Array.getD_eq_getD_getElem?] at d11'
          obtain ⟨z0, z1, z2, z3, zf⟩ := box_zero hrow
          have HM := Lib.hid (MadeD.set (a := a1) (n := xs.length) (cap := k1) (r := r) (q := n) hW hG hrow)
          have HK := hK
          have HAE := Lib.hid hAe
          have H11 := Lib.hid h11
          clear h h10 h11 hrow hK hW hG hV hAe
          go_simp
          refine HK.out _ _ ?_
          rw [HAE.out, invA_lit [none, none, none, none, none, none, none, some 11, none, none, none, none, none, none, none, none, none, none, none, none, none, none, none, none, some 0, some 1, some 2, some 3, some 4, some 5, some 6, some 7, some 8, some 9, some 10, none, none, none, none, none, none, none, none, none, none] (by kernel_rfl) rfl]
          simp only [List.zipWith_cons_cons, List.zipWith_nil_left]
          rw [H11.out]
          go_wp2_with fail
          go_meet
          exact HM.out
      case rest =>
        obtain ⟨G, rfl, hb6, hG, hat⟩ := hcut
        obtain ⟨w6, rfl⟩ : ∃ z, z = wc := ⟨_, rfl⟩
        have HB6 := Lib.hid (HB3.out.trans (hb6.mono HB3.out.size))
        have HZ6 := Lib.hid ((hb6.block _ (Array.getElem?_eq_some_iff.1 HZ3.out).1).trans HZ3.out)
        have HX6 := Lib.hid (HX1.out.below hb6)
        have HAT := Lib.hid hat
        cases o
        · have HF := Lib.hid (box_none (HROW.out (.inl rfl)) HZ6.out HB6.out)
          obtain ⟨z0, z1, z2, z3, zf⟩ := box_zero HZ6.out
          clear hb6 hat q2 q3
          go_wp2
          ((try simp only [Exit.inBlock, Exit.then]); refine bodyPost_ret (results_cell_tmp rfl _ _ w.heap.size _ _ (0, 0) _ rfl HF.out.2 Tryz.underlying41 rfl (by kernel_rfl)) rfl ?_)
          exact HF.out.1
        · have hT := deedTextS_any false _ xs r n w6 (HX6.out.toInts HIN.out)
          obtain ⟨y0, y1, y2, y3⟩ := deed_cells hat
          unfold TextOut strV at hT
          obtain ⟨T, hTT⟩ : ∃ T, T = textD ⟨false, xs, r, n⟩ := ⟨_, rfl⟩
          rw [← hTT] at HI hT
          clear hb6 hat q2 q3 hTT HX1 HZ3 HB3 HIN HROW HN2 HN3
          unfold dV at hT
          go_wp2_with fail
          refine hT.mono ?_
          rintro e w7 ⟨rfl, hb7⟩
          have HB7 := Lib.hid (HB6.out.trans (hb7.mono HB6.out.size))
          have HZ7 := Lib.hid ((hb7.block _ (Array.getElem?_eq_some_iff.1 HZ6.out).1).trans HZ6.out)
          have HX7 := Lib.hid (HX6.out.below hb7)
          obtain ⟨y0, y1, y2, y3⟩ := deed_cells ((hb7.block _ (Array.getElem?_eq_some_iff.1 HAT.out).1).trans HAT.out)
          obtain ⟨z0, z1, z2, z3, zf⟩ := box_zero HZ7.out
          clear hT hb7
          by_cases hTl : T = l
          · have hr := HI.out
            rw [if_pos hTl] at hr
            have HF := Lib.hid (box_out (d := ⟨false, xs, r, n⟩) (rd_some hr).1 (rd_some hr).2 HZ7.out HB7.out HX7.out)
            have hq : (T == l) = true := by simp [hTl]
            clear hTl hr
            go_wp2
            ((try simp only [Exit.inBlock, Exit.then]); refine bodyPost_ret (results_cell_tmp rfl _ _ w.heap.size _ _ (0, 0) _ rfl HF.out.2 Tryz.underlying41 rfl (by kernel_rfl)) rfl ?_)
            exact HF.out.1
          · have hr := HI.out
            rw [if_neg hTl] at hr
            have HF := Lib.hid (box_none hr HZ7.out HB7.out)
            have hq : (T == l) = false := by simpa using hTl
            clear hTl hr
            go_wp2
            ((try simp only [Exit.inBlock, Exit.then]); refine bodyPost_ret (results_cell_tmp rfl _ _ w.heap.size _ _ (0, 0) _ rfl HF.out.2 Tryz.underlying41 rfl (by kernel_rfl)) rfl ?_)
            exact HF.out.1
    · have h4' : ¬ ((us.length : Int) = 4) := by omega
      have HF := Lib.hid (box_none (l := l) (read_len HBK.out (by rw [HUS.out]; exact h4)) hz2 hb2')
      obtain ⟨z0, z1, z2, z3, zf⟩ := box_zero hz2
      clear hz2 hb2' h4 hcs
      go_wp2
      ((try simp only [Exit.inBlock, Exit.then]); refine bodyPost_ret (results_cell_tmp rfl _ _ w.heap.size _ _ (0, 0) _ rfl HF.out.2 Tryz.underlying41 rfl (by kernel_rfl)) rfl ?_)
      exact HF.out.1

end Go.Proofs.YtenlngclocfnlaaGreatDoor

/- The program's JournalText. -/
namespace Go.Proofs.YtenlngclocfnlaaGreatDoor
open Go.RowKit
set_option linter.unusedVariables false
set_option maxRecDepth 100000

theorem Bld.below {B b : Nat} {l : List UInt8} {w w' : World} (h : Bld B b l w) (hb : Below w.heap.size w w') : Bld B b l w' := by
  rcases h with ⟨hB, v, hk, ho, hn⟩ | ⟨hB, v, hk, ho, hn⟩
  · exact .inl ⟨hB, v, (hb.block _ (Array.getElem?_eq_some_iff.1 hk).1).trans hk, owns_keep ho (.of_below hb), hn⟩
  · exact .inr ⟨hB, v, (hb.block _ (Array.getElem?_eq_some_iff.1 hk).1).trans hk, owns_keep ho (.of_below hb), hn⟩

set_option maxHeartbeats 2000000 in
theorem journalTextI_any {B : Nat} (v : Value) (ds : List Dd) (w : World) (h : DL B w v ds) (hl : ds.length ≤ 2000000) :
    Calls Tryz.prog 17 #[v] w (TextOut (textJ ds) w) := by
  obtain ⟨a, cap, V, rfl, hcap, hmax, hcells, hV⟩ := h
  have HCE := Lib.hid hcells
  have HV := Lib.hid hV
  have HB0 := Lib.hid (Bld.new w)
  have HBW := Lib.hid (show Below w.heap.size w (w.alloc (.cells #[.pointer none, .slice none 0 0] 90)) from (Below.refl _ _).alloc (Nat.le_refl _) _)
  clear hcells hV
  go_enter Tryz.func17, Tryz.ntmps17
  go_wp2
  go_loopw [9] (fun i wr => ∃ k : Nat, k ≤ ds.length ∧ i = .int .i64 k ∧ Bld w.heap.size w.heap.size (linesJ (ds.take k)) wr ∧ allText (ds.take k) = true ∧ Below w.heap.size w wr) (fun i _ => ds.length - (intOf i).toNat)
  case atStart => exact ⟨0, Nat.zero_le _, rfl, HB0.out, rfl, HBW.out⟩
  case round =>
    obtain ⟨k, hk, rfl, hbl, hall, hw⟩ := hrel
    obtain ⟨wk, rfl⟩ : ∃ x, x = wr := ⟨_, rfl⟩
    have HW := Lib.hid hw
    clear HB0 HBW
    by_cases hlt : k < ds.length
    · obtain ⟨b, off, rfl, _, hcs⟩ := HCE.out (by omega)
      obtain ⟨c0, c1, c2, c3⟩ := hcs k hlt
      have q0 := (Above.of_below (B := 0) hw).cell (Nat.zero_le _) c0
      have q1 := (Above.of_below (B := 0) hw).cell (Nat.zero_le _) c1
      have q2 := (Above.of_below (B := 0) hw).cell (Nat.zero_le _) c2
      have q3 := (Above.of_below (B := 0) hw).cell (Nat.zero_le _) c3
      have hI := HV.out k hlt
      obtain ⟨av, cv, hvv, _⟩ := hI.opened
      have HNX := Lib.hid (linesJ_next hlt)
      have HAN := Lib.hid (allText_next hlt hall)
      have HNO := Lib.hid (textJ_none hlt)
      have hlen := linesJ_len (ds.take k)
      rw [List.length_take] at hlen
      have hlen2 := textD_len ds[k]
      obtain ⟨x, hx⟩ : ∃ x, x = ds[k] := ⟨_, rfl⟩
      rw [← hx] at q0 q2 q3 hI hvv HNX HAN HNO hlen2
      rw [hvv] at q1 hI
      obtain ⟨wq, hwq⟩ : ∃ z, z = wk.alloc (.cells #[.bool x.back, .slice av x.code.length cv, .int .i64 x.right, .int .i64 x.near] 41) := ⟨_, rfl⟩
      have hbq : Below wk.heap.size wk wq := by rw [hwq]; exact (Below.refl _ _).alloc (Nat.le_refl _) _
      have hD := deedTextI_any x.back (.slice av x.code.length cv) x.code x.right x.near wq ((hI.below hw).below hbq)
      unfold dV at hD
      obtain ⟨T, hT⟩ : ∃ T, T = textD x := ⟨_, rfl⟩
      have hTx : textD ⟨x.back, x.code, x.right, x.near⟩ = T := by rw [hT]
      rw [hTx] at hD
      rw [← hT] at HNX HAN HNO hlen2
      obtain ⟨L, hL⟩ : ∃ L, L = linesJ (ds.take k) := ⟨_, rfl⟩
      rw [← hL] at HNX hlen hbl
      have HBQ := Lib.hid (hbl.below hbq)
      have HWQ := Lib.hid (hw.trans (hbq.mono hw.size))
      have hi0 : (0 : Int) ≤ (k : Int) := by omega
      have hi1 : (k : Int) < (ds.length : Int) := by omega
      have hb1 : L.length ≤ 30000000 := by omega
      have hb13 : T.length ≤ 13 := hlen2
      clear hcs c0 c1 c2 c3 hvv hx hw hI hT hTx hL hlen hlen2 hall hbl hbq
      go_wp2_with fail
      rw [← hwq]
      clear hwq q0 q1 q2 q3
      refine hD.mono ?_
      rintro e w2 ⟨rfl, hb2⟩
      have HB2 := Lib.hid (HBQ.out.below hb2)
      have HW2 := Lib.hid (HWQ.out.trans (hb2.mono HWQ.out.size))
      clear hD hb2
      unfold strV
      cases T with
      | nil =>
        go_wp2
        go_ret
        exact ⟨by rw [HNO.out (by first | rfl | trivial)]; rfl, HW2.out⟩
      | cons t T =>
        have hS := writeString_any (t :: T) HB2.out (by omega) (by omega) HW2.out.size
        go_wp2_with fail
        refine hS.mono ?_
        rintro e w3 ⟨rfl, hb3, hw3⟩
        have HB3 := Lib.hid hb3
        have HW3 := Lib.hid (HW2.out.trans hw3)
        have hC := writeByte_any 10 hb3 (by rw [List.length_append]; omega) HW3.out.size
        rw [show ((10 : UInt8).toNat : Int) = 10 from rfl] at hC
        clear hS hb3 hw3
        go_wp2_with fail
        refine hC.mono ?_
        rintro e w4 ⟨rfl, hb4, hw4⟩
        have HB4 := Lib.hid hb4
        have HW4 := Lib.hid (HW3.out.trans hw4)
        clear hC hb4 hw4
        go_wp2
        go_roundw
        case rel => exact ⟨k + 1, by omega, by go_num, by rw [HNX.out]; exact HB4.out, HAN.out (by simp), HW4.out⟩
        case measure => simp [intOf]; omega
    · have e : ds.take k = ds := List.take_of_length_le (by omega)
      rw [e] at hall hbl
      have HR := Lib.hid (textJ_all hall)
      have hT := text_any hbl hw.size
      clear hall hw e hbl
      go_wp2_with fail
      refine hT.mono ?_
      rintro e w2 ⟨rfl, hw2⟩
      have HW2 := Lib.hid (HW.out.trans hw2)
      clear hT hw2
      go_wp2
      go_ret
      exact ⟨by rw [HR.out]; rfl, HW2.out⟩

end Go.Proofs.YtenlngclocfnlaaGreatDoor

/- The program's ReadJournal. -/
namespace Go.Proofs.YtenlngclocfnlaaGreatDoor
open Go.RowKit
set_option linter.unusedVariables false
set_option maxRecDepth 100000

theorem cut_any (l : List UInt8) (W : World) (hs : l.length ≤ 4000000) (hm : MaxIs W) :
    Calls Tryz.prog 43 #[.string ⟨l.toArray⟩, .string ⟨#[10]⟩] W fun e w' => e = .returned (.tuple #[.string ⟨(Lib.cut l [10]).1.toArray⟩, .string ⟨(Lib.cut l [10]).2.1.toArray⟩, .bool (Lib.cut l [10]).2.2]) ∧ Below W.heap.size W w' := by
  obtain ⟨m, hm⟩ := hm
  have hlen : (⟨l.toArray⟩ : ByteArray).size < 4294967281 := by simp only [ByteArray.size, List.size_toArray]; omega
  refine (Tryz.strings_Cut ⟨l.toArray⟩ ⟨#[10]⟩ m W hlen hm).mono ?_
  rintro e w' ⟨rfl, n, rfl⟩
  exact ⟨rfl, ⟨rfl, rfl, rfl, Nat.le_refl _, fun _ _ => rfl⟩⟩

/-- What a reading of a journal leaves. -/
def JOut (l : List UInt8) (w : World) (e : Ending) (w' : World) : Prop :=
  ∃ a cap, e = .returned (.tuple #[.slice a (readJ l).1.length cap, .int .i64 ((readJ l).2 : Nat)]) ∧ OwnD w.heap.size w' (.slice a (readJ l).1.length cap) (readJ l).1 ∧ Below w.heap.size w w'
/-- Between two lines. -/
def JAt (l : List UInt8) (w : World) (k : Nat) (ds : List Dd) (a : Option Addr) (cap : Nat) (wr : World) : Prop :=
  k ≤ l.length ∧ readJ l = (ds ++ (readJ (l.drop k)).1, k + (readJ (l.drop k)).2) ∧ OwnD w.heap.size wr (.slice a ds.length cap) ds ∧ ds.length ≤ k ∧ Below w.heap.size w wr
theorem JAt.below {l : List UInt8} {w wr wr' : World} {k : Nat} {ds : List Dd} {a : Option Addr} {cap : Nat} (h : JAt l w k ds a cap wr) (hb : Below wr.heap.size wr wr') : JAt l w k ds a cap wr' := by
  obtain ⟨h1, h2, h3, h4, h5⟩ := h
  exact ⟨h1, h2, h3.below hb, h4, h5.trans (hb.mono h5.size)⟩
theorem JAt.out {l : List UInt8} {w wr : World} {k : Nat} {ds : List Dd} {a : Option Addr} {cap : Nat} (h : JAt l w k ds a cap wr) (hr : readJ (l.drop k) = ([], 0)) : JOut l w (.returned (.tuple #[.slice a ds.length cap, .int .i64 k])) wr := by
  obtain ⟨h1, h2, h3, h4, h5⟩ := h
  rw [hr] at h2
  simp only [List.append_nil, Nat.add_zero] at h2
  refine ⟨a, cap, ?_, ?_, h5⟩
  · rw [h2]
  · rw [h2]; exact h3
theorem JAt.next {l u t : List UInt8} {w wr wr' : World} {k : Nat} {ds : List Dd} {a a' : Option Addr} {cap cap' : Nat} {d : Dd} (h : JAt l w k ds a cap wr) (hut : l.drop k = u ++ 10 :: t) (hno : ∀ b ∈ u, b ≠ 10) (hd : readD u = some d)
    (ho : OwnD w.heap.size wr' (.slice a' (ds.length + 1) cap') (ds ++ [d])) (hb : Below w.heap.size w wr') : JAt l w (k + (u.length + 1)) (ds ++ [d]) a' cap' wr' := by
  obtain ⟨h1, h2, h3, h4, h5⟩ := h
  have hl : (l.drop k).length = u.length + (t.length + 1) := by rw [hut]; simp
  rw [List.length_drop] at hl
  have ht : l.drop (k + (u.length + 1)) = t := by
    rw [← List.drop_drop, hut, show u ++ 10 :: t = (u ++ [10]) ++ t by simp, show u.length + 1 = (u ++ [10]).length by simp, List.drop_left]
  refine ⟨by omega, ?_, by simpa using ho, by simp; omega, hb⟩
  rw [h2, hut, readJ_yes hno hd, ht]
  simp; omega

set_option maxHeartbeats 4000000 in
theorem readJI_any (l : List UInt8) (w : World) (hl : l.length ≤ 4000000) (hm : MaxIs w) :
    Calls Tryz.prog 9 #[strV l] w (JOut l w) := by
  unfold strV
  have HM := Lib.hid hm
  have HS := Lib.hid (show JAt l w 0 [] none 0 w from ⟨Nat.zero_le _, by simp, OwnD.empty _ _, Nat.le_refl _, Below.refl _ _⟩)
  clear hm
  go_enter Tryz.func9, Tryz.ntmps9
  go_wp2
  go_loopw [4, 5] (fun s i wr => ∃ (k : Nat) (ds : List Dd) (a : Option Addr) (cap : Nat), i = .int .i64 k ∧ s = .slice a ds.length cap ∧ JAt l w k ds a cap wr) (fun _ i _ => l.length - (intOf i).toNat)
  case atStart => exact ⟨0, [], none, 0, rfl, rfl, HS.out⟩
  case round =>
    obtain ⟨k, ds, a, cap, rfl, rfl, hat⟩ := hrel
    obtain ⟨wk, rfl⟩ : ∃ x, x = wr := ⟨_, rfl⟩
    have hk := hat.1
    have HAT := Lib.hid hat
    have hk0 : (0 : Int) ≤ (k : Int) := by omega
    have hk1 : (k : Int) ≤ (l.length : Int) := by omega
    have HEX := Lib.hid (show (ByteArray.mk l.toArray).extract k l.length = ByteArray.mk (l.drop k).toArray by
      rw [ByteArray.extract_mk, List.take_of_length_le (by rw [List.length_drop]; omega)])
    have hdl : (l.drop k).length ≤ 4000000 := by rw [List.length_drop]; omega
    have hC := cut_any (l.drop k) wk hdl (HM.out.below hat.2.2.2.2)
    clear HS hat
    rcases line_cases (l.drop k) with hno | ⟨u, t, hut, hno⟩
    · rw [cut_no 10 _ hno] at hC
      have HEND := Lib.hid (readJ_end hno)
      have hR := fun W q => readDeedI_any (l.drop k) W hdl q
      have HR := Lib.hid hR
      clear hR
      go_wp2_with fail
      rw [HEX.out]
      refine hC.mono ?_
      rintro e w2 ⟨rfl, hb2⟩
      have HA2 := Lib.hid (HAT.out.below hb2)
      have hI := HR.out w2 (HM.out.below HA2.out.2.2.2.2)
      clear hC hb2
      unfold strV at hI
      go_wp2_with fail
      refine hI.mono ?_
      rintro e w3 ⟨a3, k3, rfl, ho3, hb3⟩
      have HA3 := Lib.hid ((HA2.out.below hb3).below (wr' := w3.alloc (.cells #[.bool (rdD (l.drop k)).back, .slice a3 (rdD (l.drop k)).code.length k3, .int .i64 (rdD (l.drop k)).right, .int .i64 (rdD (l.drop k)).near] 41)) ((Below.refl _ _).alloc (Nat.le_refl _) _))
      unfold dV
      clear hI ho3 hb3
      go_wp2
      go_ret2
      exact HA3.out.out HEND.out
    · rw [hut, cut_yes 10 u t hno] at hC
      have hul : u.length + (t.length + 1) = l.length - k := by
        have := congrArg List.length hut
        rw [List.length_drop] at this
        simpa using this.symm
      have HR := Lib.hid (fun W q => readDeedI_any u W (by omega) q)
      rw [hut] at HEX
      have HUT := Lib.hid hut
      have HNO := Lib.hid hno
      clear hut hno
      go_wp2_with fail
      rw [HEX.out]
      refine hC.mono ?_
      rintro e w2 ⟨rfl, hb2⟩
      have HA2 := Lib.hid (HAT.out.below hb2)
      have hI := HR.out w2 (HM.out.below HA2.out.2.2.2.2)
      clear hC hb2
      unfold strV at hI
      rcases hd : readD u with _ | d
      · obtain ⟨hd1, hd2⟩ := rd_none hd
        have HEND := Lib.hid (show readJ (l.drop k) = ([], 0) by rw [HUT.out, readJ_no HNO.out hd])
        unfold ReadOut at hI
        rw [hd1, hd2] at hI
        clear hd hd1 hd2
        go_wp2_with fail
        refine hI.mono ?_
        rintro e w3 ⟨a3, k3, rfl, ho3, hb3⟩
        have HA3 := Lib.hid ((HA2.out.below hb3).below (wr' := w3.alloc (.cells #[.bool false, .slice a3 0 k3, .int .i64 0, .int .i64 0] 41)) ((Below.refl _ _).alloc (Nat.le_refl _) _))
        unfold dV
        clear hI ho3 hb3
        go_wp2
        go_ret2
        exact HA3.out.out HEND.out
      · obtain ⟨hd1, hd2⟩ := rd_some hd
        have HD := Lib.hid hd
        unfold ReadOut at hI
        rw [hd1, hd2] at hI
        clear hd hd1 hd2
        go_wp2_with fail
        refine hI.mono ?_
        rintro e w3 ⟨a3, k3, rfl, ho3, hb3⟩
        obtain ⟨b, ys, r, n⟩ := d
        simp only at ho3
        unfold dV
        obtain ⟨w4, hw4⟩ : ∃ z, z = w3.alloc (.cells #[.bool b, .slice a3 ys.length k3, .int .i64 r, .int .i64 n] 41) := ⟨_, rfl⟩
        have hb34 : Below w3.heap.size w3 w4 := by rw [hw4]; exact (Below.refl _ _).alloc (Nat.le_refl _) _
        have hrow : w4.heap[w3.heap.size]? = some (.cells #[.bool b, .slice a3 ys.length k3, .int .i64 r, .int .i64 n] 41 (0, 0)) := by rw [hw4]; exact heap_alloc_new w3 _
        obtain ⟨x0, x1, x2, x3⟩ := deed_cells hrow
        have hb24 := hb3.trans (hb34.mono hb3.size)
        have HA4 := Lib.hid (HA2.out.below hb24)
        have hbG : Below w4.heap.size w4 (w4.alloc (.cells #[.bool b, .slice a3 ys.length k3, .int .i64 r, .int .i64 n] 41)) := (Below.refl _ _).alloc (Nat.le_refl _) _
        have hoG := owns_below (owns_below ho3 hb34) hbG
        have HOA := Lib.hid (HA4.out.2.2.1.below hbG)
        have HUA := Lib.hid (show OwnI w.heap.size _ _ _ from OwnI.mono hoG HA2.out.2.2.2.2.size)
        have HDI := Lib.hid (deed_oldA HA2.out.2.2.1 (above_step (.of_below hb24) hb24.size (.of_below hbG)) hoG)
        have HCC := Lib.hid (heap_alloc_new w4 (.cells #[.bool b, .slice a3 ys.length k3, .int .i64 r, .int .i64 n] 41))
        have HSZ := Lib.hid (show w.heap.size ≤ (w4.alloc (.cells #[.bool b, .slice a3 ys.length k3, .int .i64 r, .int .i64 n] 41)).heap.size by rw [World.size_alloc]; have := HA4.out.2.2.2.2.size; omega)
        clear hI ho3 hb3 hb34 hrow hb24 hbG hoG
        have hsum : (k : Int) + ((u.length : Int) + 1) ≤ 4000000 := by omega
        have hdk := HAT.out.2.2.2.1
        go_upto_region 5 with fail
        rw [← hw4]
        clear hw4
        go_wp2_with (at_builtin; refine wpList_push_d (w4.alloc (.cells #[.bool b, .slice a3 ys.length k3, .int .i64 r, .int .i64 n] 41)) rfl (.tmp 32) (.tmp 34) rfl w.heap.size (.slice a ds.length cap) ds rfl HOA.out w4.heap.size 1 (.slice a3 ys.length k3) ⟨b, ys, r, n⟩ rfl HCC.out HUA.out HDI.out (by omega) HSZ.out ?_; intro a7 c7 w7 ho7 hg7; have HB7 := Lib.hid (((HA4.out.2.2.2.2.alloc HA4.out.2.2.2.2.size _).grown hg7 (by have := HSZ.out; omega) (fun q hq => (OwnD.lt HOA.out q hq).1))); have HO7 := Lib.hid ho7; clear ho7 hg7)
        have HNX := Lib.hid (HAT.out.next HUT.out HNO.out HD.out HO7.out HB7.out)
        go_roundw
        case rel => exact ⟨k + (u.length + 1), ds ++ [⟨b, ys, r, n⟩], a7, c7, by go_num, by simp, HNX.out⟩
        case measure => simp [intOf]; omega

end Go.Proofs.YtenlngclocfnlaaGreatDoor

/- The reference's ReadJournal. -/
namespace Go.Proofs.YtenlngclocfnlaaGreatDoor
open Go.RowKit
set_option linter.unusedVariables false
set_option maxRecDepth 100000

set_option maxHeartbeats 4000000 in
theorem readJS_any (l : List UInt8) (w : World) (hl : l.length ≤ 4000000) :
    Calls Tryz.prog 10 #[strV l] w (JOut l w) := by
  unfold strV
  have HS := Lib.hid (show JAt l w 0 [] (some ⟨w.heap.size, 0, none⟩) 0 (w.alloc (.cells #[] 41)) from ⟨Nat.zero_le _, by simp, OwnD.lit w, Nat.le_refl _, (Below.refl _ _).alloc (Nat.le_refl _) _⟩)
  go_enter Tryz.func10, Tryz.ntmps10
  go_wp2
  go_loopw [4, 5, 6] (fun s f i wr => ∃ (j k : Nat) (ds : List Dd) (a : Option Addr) (cap : Nat), i = .int .i64 j ∧ f = .int .i64 k ∧ s = .slice a ds.length cap ∧ j ≤ l.length ∧ k ≤ j ∧ (∀ b ∈ (l.drop k).take (j - k), b ≠ 10) ∧ JAt l w k ds a cap wr) (fun _ _ i _ => l.length - (intOf i).toNat)
  case atStart => exact ⟨0, 0, [], _, 0, rfl, rfl, rfl, Nat.zero_le _, Nat.le_refl _, by simp, HS.out⟩
  case round =>
    obtain ⟨j, k, ds, a, cap, rfl, rfl, rfl, hj, hkj, hno, hat⟩ := hrel
    obtain ⟨wk, rfl⟩ : ∃ x, x = wr := ⟨_, rfl⟩
    have HAT := Lib.hid hat
    have HNO := Lib.hid hno
    clear HS hat hno
    by_cases hlt : j < l.length
    · have hj0 : (0 : Int) ≤ (j : Int) := by omega
      have hj1 : (j : Int) < (l.length : Int) := by omega
      have hj2 : (j : Int) ≤ (l.length : Int) := by omega
      have hk0 : (0 : Int) ≤ (k : Int) := by omega
      have hk1 : (k : Int) ≤ (j : Int) := by omega
      have hx := byte_at l j hlt
      by_cases hc : l[j] = 10
      · have hx' : ∀ W : World, (Instr.index 9 (.string ⟨l.toArray⟩) (.int .i64 j)).run Tryz.prog W = .ok (.int .u8 10) W := by
          intro W
          rw [hx W, hc]
          rfl
        have hut := piece_cut hkj hlt
        rw [hc] at hut
        obtain ⟨u, hu⟩ : ∃ u, u = (l.drop k).take (j - k) := ⟨_, rfl⟩
        have HEX := Lib.hid (show (ByteArray.mk l.toArray).extract k j = ByteArray.mk u.toArray by rw [hu]; exact ByteArray.extract_mk l k j)
        have hul : u.length = j - k := by rw [hu, List.length_take, List.length_drop]; omega
        rw [← hu] at hut HNO
        have HUT := Lib.hid hut
        have hI := readDeedS_any u wk (by omega)
        unfold strV at hI
        clear hx hc hut hu
        rcases hd : readD u with _ | d
        · obtain ⟨hd1, hd2⟩ := rd_none hd
          have HEND := Lib.hid (show readJ (l.drop k) = ([], 0) by rw [HUT.out, readJ_no HNO.out hd])
          unfold ReadOut at hI
          rw [hd1, hd2] at hI
          clear hd hd1 hd2
          go_wp2_with fail
          rw [HEX.out]
          refine hI.mono ?_
          rintro e w3 ⟨a3, k3, rfl, ho3, hb3⟩
          have HA3 := Lib.hid ((HAT.out.below hb3).below (wr' := w3.alloc (.cells #[.bool false, .slice a3 0 k3, .int .i64 0, .int .i64 0] 41)) ((Below.refl _ _).alloc (Nat.le_refl _) _))
          unfold dV
          clear hI ho3 hb3
          go_wp2
          go_ret2
          exact HA3.out.out HEND.out
        · obtain ⟨hd1, hd2⟩ := rd_some hd
          have HD := Lib.hid hd
          unfold ReadOut at hI
          rw [hd1, hd2] at hI
          clear hd hd1 hd2
          go_wp2_with fail
          rw [HEX.out]
          refine hI.mono ?_
          rintro e w3 ⟨a3, k3, rfl, ho3, hb3⟩
          obtain ⟨b, ys, r, n⟩ := d
          simp only at ho3
          unfold dV
          obtain ⟨w4, hw4⟩ : ∃ z, z = w3.alloc (.cells #[.bool b, .slice a3 ys.length k3, .int .i64 r, .int .i64 n] 41) := ⟨_, rfl⟩
          have hb34 : Below w3.heap.size w3 w4 := by rw [hw4]; exact (Below.refl _ _).alloc (Nat.le_refl _) _
          have hrow : w4.heap[w3.heap.size]? = some (.cells #[.bool b, .slice a3 ys.length k3, .int .i64 r, .int .i64 n] 41 (0, 0)) := by rw [hw4]; exact heap_alloc_new w3 _
          obtain ⟨x0, x1, x2, x3⟩ := deed_cells hrow
          have hb24 := hb3.trans (hb34.mono hb3.size)
          have HA4 := Lib.hid (HAT.out.below hb24)
          have hbG : Below w4.heap.size w4 (w4.alloc (.cells #[.bool b, .slice a3 ys.length k3, .int .i64 r, .int .i64 n] 41)) := (Below.refl _ _).alloc (Nat.le_refl _) _
          have hoG := owns_below (owns_below ho3 hb34) hbG
          have HOA := Lib.hid (HA4.out.2.2.1.below hbG)
          have HUA := Lib.hid (show OwnI w.heap.size _ _ _ from OwnI.mono hoG HAT.out.2.2.2.2.size)
          have HDI := Lib.hid (deed_oldA HAT.out.2.2.1 (above_step (.of_below hb24) hb24.size (.of_below hbG)) hoG)
          have HCC := Lib.hid (heap_alloc_new w4 (.cells #[.bool b, .slice a3 ys.length k3, .int .i64 r, .int .i64 n] 41))
          have HSZ := Lib.hid (show w.heap.size ≤ (w4.alloc (.cells #[.bool b, .slice a3 ys.length k3, .int .i64 r, .int .i64 n] 41)).heap.size by rw [World.size_alloc]; have := HA4.out.2.2.2.2.size; omega)
          have hdk := HAT.out.2.2.2.1
          clear hI ho3 hb3 hb34 hb24 hbG hoG hrow
          go_upto_region 8 with fail
          rw [← hw4]
          clear hw4
          go_wp2_with (at_builtin; refine wpList_push_d (w4.alloc (.cells #[.bool b, .slice a3 ys.length k3, .int .i64 r, .int .i64 n] 41)) rfl (.tmp 32) (.tmp 34) rfl w.heap.size (.slice a ds.length cap) ds rfl HOA.out w4.heap.size 1 (.slice a3 ys.length k3) ⟨b, ys, r, n⟩ rfl HCC.out HUA.out HDI.out (by omega) HSZ.out ?_; intro a7 c7 w7 ho7 hg7; have HB7 := Lib.hid (((HA4.out.2.2.2.2.alloc HA4.out.2.2.2.2.size _).grown hg7 (by have := HSZ.out; omega) (fun q hq => (OwnD.lt HOA.out q hq).1))); have HO7 := Lib.hid ho7; clear ho7 hg7)
          have HNX := Lib.hid (HAT.out.next HUT.out HNO.out HD.out HO7.out HB7.out)
          rw [show k + (u.length + 1) = j + 1 by omega] at HNX
          go_roundw
          case rel => exact ⟨j + 1, j + 1, ds ++ [⟨b, ys, r, n⟩], a7, c7, by go_num, by go_num, by simp, by omega, Nat.le_refl _, by simp, HNX.out⟩
          case measure => simp [intOf]; omega
      · have HN := Lib.hid (show ∀ b ∈ (l.drop k).take (j + 1 - k), b ≠ 10 from fun b hb => by
          rw [piece_next hkj hlt] at hb
          rcases List.mem_append.1 hb with q | q
          · exact HNO.out b q
          · rw [List.mem_singleton.1 q]; exact hc)
        have hne : ¬ ((l[j].toNat : Int) = 10) := fun e => hc (UInt8.toNat_inj.1 (by have : (10 : UInt8).toNat = 10 := rfl; omega))
        obtain ⟨x, hxx⟩ : ∃ x, x = l[j].toNat := ⟨_, rfl⟩
        rw [← hxx] at hx hne
        clear hc hxx HNO
        go_wp2
        go_roundw
        case rel => exact ⟨j + 1, k, ds, a, cap, by go_num, rfl, rfl, by omega, by omega, HN.out, HAT.out⟩
        case measure => simp [intOf]; omega
    · have hjl : j = l.length := by omega
      have HEND := Lib.hid (show readJ (l.drop k) = ([], 0) from readJ_end (fun b hb => HNO.out b (by rw [List.take_of_length_le (by rw [List.length_drop]; omega)]; exact hb)))
      clear HNO
      go_wp2
      go_ret2
      exact HAT.out.out HEND.out

end Go.Proofs.YtenlngclocfnlaaGreatDoor
