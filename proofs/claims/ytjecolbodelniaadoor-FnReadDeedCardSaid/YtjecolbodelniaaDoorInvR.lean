/- The law of Inv with any relation between worlds in the place of 'nothing below is changed' (the draws change the reader's block). No walk. -/
import Derived.Test.YtjecolbodelniaaDoorInv
namespace Go.Proofs.YtjecolbodelniaaDoor
open Go Go.RowKit
set_option linter.unusedVariables false

section
variable {P : Program} {l : List Oper} {Q : Exit → Act → World → Prop} {a0 : Act} {w0 : World} {dst : Nat → Nat} {Φ : Nat → Value → World → Prop}

/-- The state between two operations. -/
def InvR (Rel : World → World → Prop) (l : List Oper) (a0 : Act) (w0 : World) (dst : Nat → Nat) (Φ : Nat → Value → World → Prop) (c : Nat) (G : World → Prop) (done : Array Bool) (a : Act) (w : World) : Prop :=
  done.size = l.length ∧ Rel w0 w ∧ (done.getD c false = false → G w) ∧ ∃ vs, a = invA dst l.length a0 done vs ∧ ∀ k, k < l.length → done.getD k false = true → Φ k (vs k) w

theorem inv_anyR {Rel : World → World → Prop} {c : Nat} {G : World → Prop} (htr : ∀ a b c : World, Rel a b → Rel b c → Rel a c) (hdst : ∀ i (h : i < l.length), l[i].dst = some (dst i)) (hinj : ∀ i, i < l.length → invIdx dst l.length (dst i) = some i) (hsz : ∀ i, i < l.length → dst i < a0.tmps.size) (hdag : ∀ i (h : i < l.length), ∀ k ∈ invDeps l[i], k < i)
    (hmono : ∀ k v w w', Φ k v w → Rel w w' → Φ k v w')
    (hstep : ∀ i (h : i < l.length), ∀ (A : Act) (W : World), Rel w0 W → (i = c → G W) → (∀ t, invIdx dst l.length t = none → A.tmps.getD t undef = a0.tmps.getD t undef) → (∀ k ∈ invDeps l[i], Φ k (A.tmps.getD (dst k) undef) W) →
      ∀ K : Act → World → Prop, Hid (∀ v W', Rel W W' → (i ≠ c → G W → G W') → Φ i v W' → K (A.put (some (dst i)) v) W') → if Region.wanted l[i] (yielded l.toArray A.tmps) = true then Oper.wp P l[i] A W K Q else K (A.put l[i].dst undef) W)
    (hend : ∀ vs W, Rel w0 W → (∀ k, k < l.length → Φ k (vs k) W) → Q .normal (invA dst l.length a0 (Array.replicate l.length true) vs) W) :
    ∀ (n : Nat) (done : Array Bool) (a : Act) (w : World), InvR Rel l a0 w0 dst Φ c G done a w → invLeft done = n → wpAny P .any l.toArray Q n done a w := by
  have fin : ∀ (done : Array Bool) (a : Act) (w : World), InvR Rel l a0 w0 dst Φ c G done a w → (∀ i, i < l.length → done.getD i false = true) → Q .normal a w := by
    rintro done a w ⟨hs, hB, _, vs, rfl, hv⟩ h
    have e := inv_full hs h
    rw [e]
    exact hend vs w hB fun k hk => hv k hk (h k hk)
  intro n
  induction n with
  | zero =>
    intro done a w hI hz
    have hall := inv_zero hI.1 hz
    refine ⟨?_, fin done a w hI hall⟩
    rcases q : Region.ready .any l.toArray done with _ | ⟨j, r⟩
    · rfl
    · exfalso
      have hj : j ∈ Region.ready .any l.toArray done := by rw [q]; simp
      obtain ⟨h1, o, h2, _⟩ := mem_ready.1 hj
      have hlt : j < l.length := by simpa using (Array.getElem?_eq_some_iff.1 h2).1
      have h3 := hall j hlt
      have h4 : j < done.size := by have := hI.1; omega
      simp only [Array.getD_eq_getD_getElem?, Array.getElem?_eq_getElem h4, Option.getD_some] at h1 h3
      rw [h1] at h3
      cases h3
  | succ n ih =>
    intro done a w hI hn
    refine ⟨fun hr => fin done a w hI (inv_all hI.1 hdag hr), fun i hi => ?_⟩
    obtain ⟨h1, o, h2, h3⟩ := mem_ready.1 hi
    have hlt : i < l.length := by simpa using (Array.getElem?_eq_some_iff.1 h2).1
    have ho : o = l[i] := by simpa [hlt] using h2.symm
    subst ho
    obtain ⟨hs, hB, hG, vs, rfl, hv⟩ := hI
    have hls : i < done.size := by omega
    have hund : done.getD i false = false := by
      simp only [Array.getD_eq_getD_getElem?, Array.getElem?_eq_getElem hls, Option.getD_some] at h1 ⊢
      exact h1
    have hdep : ∀ k ∈ invDeps l[i], done.getD k false = true := by
      intro k hk
      obtain ⟨e, he, rfl⟩ := List.mem_map.1 hk
      obtain ⟨he1, he2⟩ := List.mem_filter.1 he
      exact h3 e (by simpa using he1) he2
    refine wpOp_step h2 fun K' hK' => ?_
    refine hstep i hlt _ w hB (fun e => hG (e ▸ hund)) (fun t ht => invA_other ht) (fun k hk => ?_) K' (Lib.hid fun v W' hb hGW hΦ => hK' _ _ ?_)
    · have hkl := hdag i hlt k hk
      have hd := hdep k hk
      rw [invA_done (hinj k (by omega)) (hsz k (by omega)) hd]
      exact hv k (by omega) hd
    · refine ih (done.setIfInBounds i true) _ W' ⟨by simpa using hs, htr _ _ _ hB hb, fun hc => ?_, fun k => if k = i then v else vs k, invA_put (hinj i hlt) hls hund v, fun k hk hd => ?_⟩ (by have := invLeft_set hls hund; omega)
      · by_cases e : i = c
        · subst e
          rw [show (done.setIfInBounds i true).getD i false = true by simp [hls]] at hc
          cases hc
        · rw [getD_set_ne false e] at hc
          exact hGW e (hG hc)
      by_cases e : k = i
      · subst e
        simp only [if_true]
        exact hΦ
      · rw [getD_set_ne false (Ne.symm e)] at hd
        simp only [if_neg e]
        exact hmono k _ _ _ (hv k hk hd) hb

/-- The region, each operation looked at once. -/
theorem wp_region_invR {Rel : World → World → Prop} {id : Nat} (c : Nat) (G : World → Prop) (htr : ∀ a b c : World, Rel a b → Rel b c → Rel a c) (hrd : ∀ w : World, Rel w w.drew) (hG : G w0.drew) (hm : P.follows .mixedOrders = true) (dst : Nat → Nat) (m : Nat) (Φ : Nat → Value → World → Prop) (hsz : a0.tmps.size = m) (hchk : invChk l dst m = true)
    (hmono : ∀ k v w w', Φ k v w → Rel w w' → Φ k v w')
    (hstep : ∀ i o, l[i]? = some o → ∀ (A : Act) (W : World), Rel w0 W → (i = c → G W) → (∀ t, invIdx dst l.length t = none → A.tmps.getD t undef = a0.tmps.getD t undef) → (∀ k, (invDeps o).contains k = true → Φ k (A.tmps.getD (dst k) undef) W) →
      ∀ K : Act → World → Prop, Hid (∀ v W', Rel W W' → (i ≠ c → G W → G W') → Φ i v W' → K (A.put (some (dst i)) v) W') → if Region.wanted o (yielded l.toArray A.tmps) = true then Oper.wp P o A W K Q else K (A.put o.dst undef) W)
    (hend : ∀ vs W, Rel w0 W → (∀ k, k < l.length → Φ k (vs k) W) → Q .normal (invA dst l.length a0 (Array.replicate l.length true) vs) W) : (Code.region id l.toArray true).wp P Q a0 w0 := by
  refine wp_region_any hm ?_
  have hnone : ∀ k, (Array.replicate l.toArray.size false).getD k false = false := fun k => by
    simp only [Array.getD_eq_getD_getElem?]
    rcases q : (Array.replicate l.toArray.size false)[k]? with _ | b
    · rfl
    · obtain ⟨_, q2⟩ := Array.getElem?_eq_some_iff.1 q
      simp at q2
      simp [← q2]
  refine inv_anyR (c := c) (G := G) (w0 := w0) (a0 := a0) htr (fun i h => (invChk_at hchk h).1) (fun i h => (invChk_at hchk h).2.1) (fun i h => by rw [hsz]; exact (invChk_at hchk h).2.2.1) (fun i h => (invChk_at hchk h).2.2.2) hmono
    (fun i h A W hB hg hA hD K hK => hstep i l[i] (List.getElem?_eq_getElem h) A W hB hg hA (fun k hk => hD k (by simpa using hk)) K hK) hend _ _ _ _ ⟨by simp, hrd w0, fun _ => hG, fun _ => undef, ?_, fun k _ hk => ?_⟩ (by simpa using invLeft_none l.length)
  · unfold invA
    rw [invL_none l.length _ _ hnone]
  · rw [hnone] at hk; cases hk
end
end Go.Proofs.YtjecolbodelniaaDoor
