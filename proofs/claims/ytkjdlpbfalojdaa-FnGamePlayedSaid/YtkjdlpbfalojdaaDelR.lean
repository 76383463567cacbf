/- slices.IndexFunc and slices.DeleteFunc over rows of ints. -/
import Derived.Test.YtkjdlpbfalojdaaRowsR
import Derived.Test.YtkjdlpbfalojdaaFun
import Derived.Lib.SliceRun
namespace Go.Proofs.Ytkjdlpbfalojdaa
open Go.RowKit Go.Shelf
set_option linter.unusedVariables false
set_option maxRecDepth 100000

/-- A function value that tells q of each of the rows, and writes nothing that was there in w0. -/
def TellsR (g : Nat) (lb : Array Value) (q : List Int → Bool) (xss : List (List Int)) (w0 : World) : Prop :=
  (∀ args W, (callFunc g args).run Try.prog W = .ok (.enter g args) W) ∧
  ∀ W u x, Below w0.heap.size w0 W → OwnI 0 W u x → x ∈ xss → Calls Try.prog g (#[u] ++ lb) W fun e W' => e = .returned (.bool (q x)) ∧ Below W.heap.size W W'

def atR (xss : List (List Int)) (i : Nat) : List Int := xss.getD i []
theorem atR_get {xss : List (List Int)} {i : Nat} (h : i < xss.length) : atR xss i = xss[i] := by simp [atR, List.getD, List.getElem?_eq_getElem h]

set_option maxHeartbeats 1000000 in
theorem indexR_any {B : Nat} (v : Value) (xss : List (List Int)) (w0 w : World) (hb0 : Below w0.heap.size w0 w) (h : OwnR B w v xss) (g : Nat) (lb : Array Value) (q : List Int → Bool) (hf : TellsR g lb q xss w0) :
    Calls Try.prog 91 #[v, .func (.func g) #[] lb] w fun e w' => e = .returned (.int .i64 (idxN (fun i => q (atR xss i)) xss.length)) ∧ Below w.heap.size w w' := by
  obtain ⟨a, cap, rfl, hcap, hmax⟩ := h.shape
  obtain ⟨eg, hf⟩ := hf
  have HH := Lib.hid h
  have HB0 := Lib.hid hb0
  clear h hb0
  go_enter Try.func91, Try.ntmps91
  go_wp2
  go_loopw [8] (fun i wr => ∃ k : Nat, k ≤ xss.length ∧ i = .int .i64 k ∧ (∀ j, j < k → (fun i => q (atR xss i)) j = false) ∧ Below w.heap.size w wr) (fun i _ => xss.length - (intOf i).toNat)
  case atStart => exact ⟨0, Nat.zero_le _, rfl, by omega, Below.refl _ _⟩
  case round =>
    obtain ⟨k, hk, rfl, hn, hb⟩ := hrel
    have HN := Lib.hid hn
    have HB := Lib.hid hb
    by_cases hlt : k < xss.length
    · obtain ⟨b, u, rfl, _, hc, hou⟩ := (HH.out.below hb).at k hlt
      have hF := hf wr u xss[k] (HB0.out.trans (hb.mono HB0.out.size)) (hou.mono (Nat.zero_le _)) (List.getElem_mem hlt)
      have hq : (fun i => q (atR xss i)) k = q xss[k] := by simp only [atR_get hlt]
      obtain ⟨au, cu, hu, _⟩ := own_shape hou
      rw [hu] at hc hF
      obtain ⟨x, hx⟩ : ∃ x, x = xss[k] := ⟨_, rfl⟩
      rw [← hx] at hF hq hc
      have hi0 : (0 : Int) ≤ (k : Int) := by omega
      have hi1 : (k : Int) < (xss.length : Int) := by omega
      clear hf hn hb hou hu hx
      cases hp : q x
      · rw [hp] at hF hq
        have HP := Lib.hid hq
        clear hp hq
        go_wp2_with fail
        refine hF.mono ?_
        rintro e w2 ⟨rfl, hb2⟩
        have HB2 := Lib.hid hb2
        clear hb2
        go_wp2
        go_roundw
        case rel => exact ⟨k + 1, by omega, by go_num, upto_step HN.out HP.out, HB.out.trans (HB2.out.mono HB.out.size)⟩
        case measure => simp [intOf]; omega
      · rw [hp] at hF hq
        have HP := Lib.hid hq
        clear hp hq
        go_wp2_with fail
        refine hF.mono ?_
        rintro e w2 ⟨rfl, hb2⟩
        have HB2 := Lib.hid hb2
        clear hb2
        go_wp2
        go_ret
        exact ⟨ret_int (by rw [idxN_hit hlt HN.out HP.out]), HB.out.trans (HB2.out.mono HB.out.size)⟩
    · have e : k = xss.length := by omega
      have HE := Lib.hid e
      clear e hn hb hf
      go_wp2
      go_ret
      exact ⟨ret_int (by rw [idxN_none (by rw [← HE.out]; exact HN.out)]), HB.out⟩

/-! ### The state of a removal -/
def DelL (ps : List (List Int)) (kp : List Int → Bool) (i j : Nat) (L : List (List Int)) : Prop := L.length = ps.length ∧ i < j ∧ j ≤ ps.length ∧ L.take i = (ps.take j).filter kp ∧ L.drop j = ps.drop j
theorem DelL.start {ps : List (List Int)} {kp : List Int → Bool} {k : Nat} (hk : k < ps.length) (hn : ∀ j, j < k → kp (atR ps j) = true) (h : kp (atR ps k) = false) : DelL ps kp k (k + 1) ps := by
  refine ⟨rfl, by omega, hk, ?_, rfl⟩
  rw [List.take_succ_eq_append_getElem hk, List.filter_append]
  rw [atR_get hk] at h
  rw [List.filter_cons_of_neg (by simp [h]), List.filter_nil, List.append_nil]
  symm
  rw [List.filter_eq_self]
  intro x hx
  obtain ⟨i, hi, rfl⟩ := List.getElem_of_mem hx
  have hi' : i < k := by simp at hi; omega
  have := hn i hi'
  rw [atR_get (by omega)] at this
  rw [List.getElem_take]
  exact this
theorem DelL.get {ps : List (List Int)} {kp : List Int → Bool} {i j : Nat} {L : List (List Int)} (h : DelL ps kp i j L) (hj : j < ps.length) : ∃ h' : j < L.length, L[j] = ps[j] := by
  obtain ⟨h1, h2, h3, h4, h5⟩ := h
  refine ⟨by omega, ?_⟩
  have e1 : L.drop j = L[j] :: L.drop (j + 1) := List.drop_eq_getElem_cons (by omega)
  have e2 : ps.drop j = ps[j] :: ps.drop (j + 1) := List.drop_eq_getElem_cons hj
  rw [e1, e2] at h5
  injection h5
theorem DelL.keep {ps : List (List Int)} {kp : List Int → Bool} {i j : Nat} {L : List (List Int)} (h : DelL ps kp i j L) (hj : j < ps.length) (hk : kp ps[j] = true) : DelL ps kp (i + 1) (j + 1) (L.set i ps[j]) := by
  obtain ⟨h1, h2, h3, h4, h5⟩ := h
  refine ⟨by simp [h1], by omega, hj, ?_, ?_⟩
  · rw [List.take_succ_eq_append_getElem (by simp; omega), List.take_set_of_le (by omega), h4, List.getElem_set_self, List.take_succ_eq_append_getElem hj, List.filter_append]
    rw [List.filter_cons_of_pos hk, List.filter_nil]
  · rw [List.drop_set_of_lt (by omega), ← List.drop_drop, h5, List.drop_drop]
theorem DelL.skip {ps : List (List Int)} {kp : List Int → Bool} {i j : Nat} {L : List (List Int)} (h : DelL ps kp i j L) (hj : j < ps.length) (hk : kp ps[j] = false) : DelL ps kp i (j + 1) L := by
  obtain ⟨h1, h2, h3, h4, h5⟩ := h
  refine ⟨h1, by omega, hj, ?_, ?_⟩
  · rw [h4, List.take_succ_eq_append_getElem hj, List.filter_append, List.filter_cons_of_neg (by simp [hk]), List.filter_nil, List.append_nil]
  · rw [← List.drop_drop, h5, List.drop_drop]

theorem OwnR.thawed {B : Nat} {w : World} {g n cap : Nat} {xss : List (List Int)} (h : OwnR B w (.slice (some ⟨g, 0, none⟩) n cap) xss) (i : Nat) : w.frozen? ⟨g, i, none⟩ = false := by
  obtain ⟨vs, h1, _⟩ := h
  obtain ⟨a, cap', he, _⟩ := own_shape h1
  injection he with _ e2 _
  subst e2
  exact World.ownsRow.frozenAt h1 i
/-- A row of a row of rows is set. -/
theorem OwnR.set {B : Nat} {w : World} {g n cap : Nat} {xss : List (List Int)} (h : OwnR B w (.slice (some ⟨g, 0, none⟩) n cap) xss) (i : Nat) {u : Value} {x : List Int} (hu : OwnI B w u x) :
    OwnR B (w.setCell ⟨g, i, none⟩ u) (.slice (some ⟨g, 0, none⟩) n cap) (xss.set i x) ∧ w.grownBy (w.setCell ⟨g, i, none⟩ u) (some g) := by
  obtain ⟨vs, h1, h2, h3⟩ := h
  obtain ⟨a, cap', he, _⟩ := own_shape h1
  injection he with _ e2 _
  subst e2
  have hst := (World.ownsRow.stored h1 i u).1
  have hkeep : ∀ z ys, OwnI B w z ys → OwnI B (w.setCell ⟨g, i, none⟩ u) z ys := fun z ys hz => by
    refine World.ownsRow.kept hz (grownBy_setCell w ⟨g, i, none⟩ u) ?_
    have := own_apart hz h1 (by decide)
    simpa [Value.ownBlock] using this
  refine ⟨⟨vs.set i u, by rw [List.length_set]; exact hst, by simpa using h2, fun j hj hj' => ?_⟩, grownBy_setCell w ⟨g, i, none⟩ u⟩
  rw [List.getElem_set, List.getElem_set]
  split
  · exact hkeep _ _ hu
  · exact hkeep _ _ (h3 j (by simpa using hj) (by simpa using hj'))

theorem setCells_ownR {B : Nat} {g n cap : Nat} : ∀ (k : Nat) (o : Nat) (w : World) (xss : List (List Int)), OwnR B w (.slice (some ⟨g, 0, none⟩) n cap) xss →
    ∃ xss', xss'.take o = xss.take o ∧ OwnR B (w.setCells g o (List.replicate k (.slice none 0 0))) (.slice (some ⟨g, 0, none⟩) n cap) xss' ∧ w.grownBy (w.setCells g o (List.replicate k (.slice none 0 0))) (some g) ∧ xss'.length = xss.length
  | 0, o, w, xss, h => ⟨xss, rfl, h, World.grownBy.refl _ _, rfl⟩
  | k + 1, o, w, xss, h => by
    have h1 := h.set o (OwnI.empty B w)
    obtain ⟨xss', q1, q2, q3, q4⟩ := setCells_ownR k (o + 1) _ _ h1.1
    refine ⟨xss', ?_, q2, h1.2.andThen q3 (fun _ e => by cases e; exact .inr rfl), by rw [q4]; simp⟩
    have : (xss'.take (o + 1)).take o = ((xss.set o []).take (o + 1)).take o := by rw [q1]
    rw [List.take_take, List.take_take, show min o (o + 1) = o by omega] at this
    rw [this, List.take_set_of_le (Nat.le_refl _)]

theorem OwnR.cut {B : Nat} {w : World} {g n cap : Nat} {L : List (List Int)} (h : OwnR B w (.slice (some ⟨g, 0, none⟩) n cap) L) (i : Nat) (hi : i ≤ L.length) :
    OwnR B w (.slice (some ⟨g, 0, none⟩) i cap) (L.take i) := by
  obtain ⟨vs, h1, h2, h3⟩ := h
  refine ⟨vs.take i, ?_, by simp [h2], fun j hj hj' => ?_⟩
  · obtain ⟨q4, q5⟩ := h1
    have hl : (vs.take i).length = i := by rw [List.length_take]; omega
    rw [hl]
    refine ⟨by rw [List.length_take]; omega, ?_⟩
    rcases q5 with ⟨q6, _⟩ | ⟨g', cap', cur, q6, q7, q8, q9, q10, q11, q12⟩
    · simp at q6
    · injection q6 with e1 _ e3
      injection e1 with e1
      injection e1 with e1
      subst e1 e3
      refine .inr ⟨g, cap, cur, rfl, q7, q8, by omega, q10, q11, ?_⟩
      rw [← q12, List.take_take]
      congr 1
      omega
  · rw [List.getElem_take, List.getElem_take]
    exact h3 j (by simp at hj; omega) (by simp at hj'; omega)

/-- Rows are left, in memory that lies behind w0. -/
def DelOut (B : Nat) (xss : List (List Int)) (w0 : World) (e : Ending) (w' : World) : Prop :=
  ∃ a cap, e = .returned (.slice a xss.length cap) ∧ OwnR B w' (.slice a xss.length cap) xss ∧ Below w0.heap.size w0 w'

set_option maxHeartbeats 4000000 in
theorem deleteR_any (v : Value) (xss : List (List Int)) (w0 w : World) (hb0 : Below w0.heap.size w0 w) (h : OwnR w0.heap.size w v xss) (g : Nat) (lb : Array Value) (q : List Int → Bool) (hf : TellsR g lb q xss w0) :
    Calls Try.prog 64 #[v, .func (.func g) #[] lb] w (DelOut w0.heap.size (xss.filter fun x => !q x) w0) := by
  have hI := indexR_any v xss w0 w hb0 h g lb q hf
  have HB0 := Lib.hid hb0
  have hsz0 := hb0.size
  by_cases hno : ∀ j, j < xss.length → (fun i => q (atR xss i)) j = false
  · rw [idxN_none hno] at hI
    have HF := Lib.hid (show xss.filter (fun x => !q x) = xss from by
      rw [List.filter_eq_self]
      intro x hx
      obtain ⟨i, hi, rfl⟩ := List.getElem_of_mem hx
      have := hno i hi
      simp only [atR_get hi] at this
      rw [this]; rfl)
    have HO := Lib.hid h
    obtain ⟨a, cap, rfl, _⟩ := h.shape
    clear hno hf h hb0
    go_enter Try.func64, Try.ntmps64
    go_wp2_with fail
    refine hI.mono ?_
    rintro e w2 ⟨rfl, hb2⟩
    have HB2 := Lib.hid hb2
    clear hb2
    go_wp2
    go_ret
    refine ⟨a, cap, ?_, ?_, HB0.out.trans (HB2.out.mono hsz0)⟩
    · rw [HF.out]; rfl
    · rw [HF.out]; exact HO.out.below HB2.out
  · obtain ⟨k, hk, hqk, hmin⟩ : ∃ k, k < xss.length ∧ (fun i => q (atR xss i)) k = true ∧ ∀ j, j < k → (fun i => q (atR xss i)) j = false := by
      have hex : ∃ k, k < xss.length ∧ (fun i => q (atR xss i)) k = true := by
        apply Classical.byContradiction
        intro hc
        apply hno
        intro j hj
        cases hq : (fun i => q (atR xss i)) j
        · rfl
        · exact absurd ⟨j, hj, hq⟩ hc
      obtain ⟨k, hk⟩ := hex
      induction k using Nat.strongRecOn with
      | _ k ih =>
        by_cases hm : ∃ j, j < k ∧ (fun i => q (atR xss i)) j = true
        · obtain ⟨j, hj, hqj⟩ := hm
          exact ih j hj ⟨by omega, hqj⟩
        · refine ⟨k, hk.1, hk.2, fun j hj => ?_⟩
          cases hq : (fun i => q (atR xss i)) j
          · rfl
          · exact absurd ⟨j, hj, hq⟩ hm
    rw [idxN_hit hk hmin hqk] at hI
    obtain ⟨g0, _, e0, hBg, _, _⟩ : ∃ g u, v.ownBlock = some g ∧ w0.heap.size ≤ g ∧ OwnI w0.heap.size w u xss[k] ∧ True := by
      obtain ⟨a, cap, rfl, _⟩ := h.shape
      obtain ⟨g, u, rfl, hg, _, hu⟩ := h.at k hk
      exact ⟨g, u, rfl, hg, hu, trivial⟩
    obtain ⟨a, cap, rfl, hcap, hmax⟩ := h.shape
    obtain ⟨g1, u1, rfl, hg1, _, _⟩ := h.at k hk
    injection e0 with e0
    subst e0
    have hst : DelL xss (fun x => !q x) k (k + 1) xss := DelL.start hk (fun j hj => by have := hmin j hj; simp only at this; simp only [this]; rfl) (by simp only at hqk; simp only [hqk]; rfl)
    have HST := Lib.hid hst
    have HH := Lib.hid h
    obtain ⟨eg, hf⟩ := hf
    have HF := Lib.hid hf
    have hne : ((k : Int) == -1) = false := by rw [beq_eq_false_iff_ne]; omega
    clear hno hqk hmin hst h hf hb0
    go_enter Try.func64, Try.ntmps64
    go_wp2_with fail
    refine hI.mono ?_
    rintro e w2 ⟨rfl, hb2⟩
    have HB2 := Lib.hid hb2
    clear hb2 hI
    go_wp2
    go_loopw [5, 6] (fun s5 s6 wr => ∃ (i j : Nat) (L : List (List Int)), s5 = .int .i64 i ∧ s6 = .int .i64 j ∧ DelL xss (fun x => !q x) i j L ∧ OwnR w0.heap.size wr (.slice (some ⟨g1, 0, none⟩) xss.length cap) L ∧ Below w0.heap.size w0 wr) (fun _ j _ => xss.length - (intOf j).toNat)
    case atStart => exact ⟨k, k + 1, xss, rfl, by go_num, HST.out, HH.out.below HB2.out, HB0.out.trans (HB2.out.mono hsz0)⟩
    case round =>
      obtain ⟨i, j, L, rfl, rfl, hD, ho, hb⟩ := hrel
      obtain ⟨wk, rfl⟩ : ∃ x, x = wr := ⟨_, rfl⟩
      have HD := Lib.hid hD
      have HO := Lib.hid ho
      have HB := Lib.hid hb
      obtain ⟨hLl, hij, hjn, _, _⟩ := id hD
      by_cases hlt : j < xss.length
      · obtain ⟨hjL, eL⟩ := hD.get hlt
        obtain ⟨g2, u, eg2, _, hcu, hou⟩ := ho.at j hjL
        injection eg2 with eg2
        injection eg2 with eg2
        subst eg2
        rw [eL] at hou
        obtain ⟨au, cu, rfl, _⟩ := own_shape hou
        have HK := Lib.hid (hD.keep hlt)
        have HS := Lib.hid (hD.skip hlt)
        have hF := HF.out wk _ xss[j] hb (hou.mono (Nat.zero_le _)) (List.getElem_mem hlt)
        obtain ⟨x, hx⟩ : ∃ x, x = xss[j] := ⟨_, rfl⟩
        rw [← hx] at hou HK HS hF hcu
        have hi0 : (0 : Int) ≤ (j : Int) := by omega
        have hi1 : (j : Int) < (xss.length : Int) := by omega
        have hi2 : (0 : Int) ≤ (i : Int) := by omega
        have hi3 : (i : Int) < (xss.length : Int) := by omega
        have hi4 : (j : Int) < 9223372036854775807 := by omega
        have hi5 : (i : Int) < 9223372036854775807 := by omega
        have HOU := Lib.hid hou
        clear hx eL hjL hD ho hb hou
        cases hq : q x
        · rw [hq] at hF
          have HQ := Lib.hid (HK.out (by rw [hq]; rfl))
          clear hq HK HS
          go_wp2_with fail
          refine hF.mono ?_
          rintro e w3 ⟨rfl, hb3⟩
          have ho3 := HO.out.below hb3
          obtain ⟨g3, u3, eg3, _, hcu3, _⟩ := ho3.at i (by omega)
          injection eg3 with eg3
          injection eg3 with eg3
          subst eg3
          have hfz := ho3.thawed i
          have HP := Lib.hid (ho3.set i (owns_below HOU.out hb3))
          have HB3 := Lib.hid (HB.out.trans (hb3.mono HB.out.size))
          clear hF hb3 ho3
          go_wp2
          go_roundw
          case rel => exact ⟨i + 1, j + 1, _, by go_num, by go_num, HQ.out, HP.out.1, HB3.out.setCell (p := ⟨g1, i, none⟩) (by exact hg1) _⟩
          case measure => simp [intOf]; omega
        · rw [hq] at hF
          have HQ := Lib.hid (HS.out (by rw [hq]; rfl))
          clear hq HK HS
          go_wp2_with fail
          refine hF.mono ?_
          rintro e w3 ⟨rfl, hb3⟩
          have HO3 := Lib.hid (HO.out.below hb3)
          have HB3 := Lib.hid (HB.out.trans (hb3.mono HB.out.size))
          clear hF hb3
          go_wp2
          go_roundw
          case rel => exact ⟨i, j + 1, L, rfl, by go_num, HQ.out, HO3.out, HB3.out⟩
          case measure => simp [intOf]; omega
      · have e : j = xss.length := by omega
        subst e
        have hcl : ∀ ty, (Builtin.clear_ #[33] ty #[.slice (some ⟨g1, i, none⟩) (xss.length - i) (cap - i)]).run Try.prog wk = .ok (.tuple #[]) (wk.setCells g1 i (List.replicate (xss.length - i) (.slice none 0 0))) := fun ty => by
          refine Lib.run_clear_slice wk 33 38 ty (.slice none 0 0) Try.underlying33 (fun w => Try.zeroValue38 w) rfl rfl g1 i _ _ (by omega) (fun t ht => ?_) (fun t ht => ?_)
          · obtain ⟨g3, u3, eg3, _, hcu3, _⟩ := ho.at (i + t) (by omega)
            injection eg3 with eg3
            injection eg3 with eg3
            subst eg3
            rw [hcu3]; rfl
          · exact ho.thawed _
        obtain ⟨xss', q1, q2, q3, q4⟩ := setCells_ownR (xss.length - i) i wk L ho
        have hLi : L.take i = xss.filter (fun x => !q x) := by rw [HD.out.2.2.2.1, List.take_of_length_le (Nat.le_refl _)]
        have hcut := q2.cut i (by omega)
        rw [q1, hLi] at hcut
        have hil : (xss.filter (fun x => !q x)).length = i := by rw [← hLi, List.length_take]; omega
        have HC := Lib.hid hcut
        have HI := Lib.hid hil
        have HG := Lib.hid (hb.grown q3 hb.size (fun k hk => by cases hk; exact hg1))
        have hi2 : (0 : Int) ≤ (i : Int) := by omega
        have hi3 : (i : Int) < (xss.length : Int) := by omega
        have hi5 : (i : Int) ≤ (cap : Int) := by omega
        clear hLi hil hcut q1 q2 q3 q4 ho hb hD hLl HF
        go_wp2
        go_ret
        refine ⟨some ⟨g1, 0, none⟩, cap, ?_, ?_, HG.out⟩
        · rw [HI.out]; rfl
        · rw [HI.out]; exact HC.out

end Go.Proofs.Ytkjdlpbfalojdaa
