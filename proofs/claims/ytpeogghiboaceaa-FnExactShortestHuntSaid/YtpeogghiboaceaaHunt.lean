/- Plain laws of shortest hunts: words of boxes, the shorter and the lesser ones first; what the search by queue and the table of least days find. No function of the program is walked here. -/
import Derived.Test.YtpeogghiboaceaaCatMath
namespace Go.Proofs.Ytpeogghiboaceaa
open Go.RowKit
set_option linter.unusedVariables false

def encC (c : Nat) (w : List Nat) : Nat := w.foldl (fun (c : Nat) (b : Nat) => 8 * c + b) c
/-- A word's number: shorter words come first, then the lesser at the first difference. -/
def enc (w : List Nat) : Nat := encC 1 w
def good (n : Nat) (w : List Nat) : Prop := ∀ b ∈ w, b < n
def runF (xss : List (List Int)) (S : Nat) (w : List Nat) : Nat := w.foldl (fun (S : Nat) (b : Nat) => afterN xss S (b : Int)) S
def run0 (xss : List (List Int)) (w : List Nat) : Nat := runF xss (2 ^ xss.length - 1) w

theorem enc_nil : enc [] = 1 := rfl
theorem enc_snoc (w : List Nat) (b : Nat) : enc (w ++ [b]) = 8 * enc w + b := by simp [enc, encC, List.foldl_append]
theorem runF_snoc (xss : List (List Int)) (S : Nat) (w : List Nat) (b : Nat) : runF xss S (w ++ [b]) = afterN xss (runF xss S w) (b : Int) := by simp [runF, List.foldl_append]
theorem runF_append (xss : List (List Int)) (S : Nat) (w u : List Nat) : runF xss S (w ++ u) = runF xss (runF xss S w) u := by simp [runF, List.foldl_append]
theorem runF_cons (xss : List (List Int)) (S : Nat) (b : Nat) (w : List Nat) : runF xss S (b :: w) = runF xss (afterN xss S (b : Int)) w := rfl
theorem run0_snoc (xss : List (List Int)) (w : List Nat) (b : Nat) : run0 xss (w ++ [b]) = afterN xss (run0 xss w) (b : Int) := runF_snoc _ _ _ _
theorem good_nil (n : Nat) : good n [] := fun b h => by simp at h
theorem good_snoc {n : Nat} {w : List Nat} {b : Nat} (h : good n w) (hb : b < n) : good n (w ++ [b]) := fun x hx => by
  rcases List.mem_append.1 hx with hx | hx
  · exact h x hx
  · simp at hx; omega
theorem good_cons {n : Nat} {w : List Nat} {b : Nat} : good n (b :: w) ↔ b < n ∧ good n w := by
  simp [good]
theorem good_take {n : Nat} {w : List Nat} (h : good n w) (t : Nat) : good n (w.take t) := fun x hx => h x (List.mem_of_mem_take hx)
theorem runF_lt {xss : List (List Int)} {S : Nat} (hS : S < 2 ^ xss.length) (w : List Nat) : runF xss S w < 2 ^ xss.length := by
  induction w generalizing S with
  | nil => exact hS
  | cons b w ih => rw [runF_cons]; exact ih (lotN_lt _ _)
theorem full_lt (xss : List (List Int)) : 2 ^ xss.length - 1 < 2 ^ xss.length := by
  have := Nat.pow_pos (n := xss.length) (show 0 < 2 by omega); omega

theorem encC_bounds {n : Nat} (hn : n ≤ 8) (w : List Nat) : ∀ c, good n w → c * 8 ^ w.length ≤ encC c w ∧ encC c w < (c + 1) * 8 ^ w.length := by
  induction w with
  | nil => intro c _; simp [encC]
  | cons b w ih =>
    intro c hg
    obtain ⟨hb, hg⟩ := good_cons.1 hg
    obtain ⟨h1, h2⟩ := ih (8 * c + b) hg
    have e : encC c (b :: w) = encC (8 * c + b) w := rfl
    rw [e, List.length_cons, Nat.pow_succ]
    refine ⟨Nat.le_trans ?_ h1, Nat.lt_of_lt_of_le h2 ?_⟩
    · rw [Nat.mul_comm (8 ^ w.length) 8, ← Nat.mul_assoc]
      exact Nat.mul_le_mul_right _ (by omega)
    · rw [Nat.mul_comm (8 ^ w.length) 8, ← Nat.mul_assoc]
      exact Nat.mul_le_mul_right _ (by omega)
theorem enc_len {n : Nat} (hn : n ≤ 8) {w u : List Nat} (hw : good n w) (hu : good n u) (h : w.length < u.length) : enc w < enc u := by
  have h1 := (encC_bounds hn w 1 hw).2
  have h2 := (encC_bounds hn u 1 hu).1
  have h3 : 8 ^ (w.length + 1) ≤ 8 ^ u.length := Nat.pow_le_pow_right (by omega) h
  rw [Nat.pow_succ] at h3
  have h4 : enc w = encC 1 w := rfl
  have h5 : enc u = encC 1 u := rfl
  omega
theorem encC_inj {n : Nat} (hn : n ≤ 8) (w : List Nat) : ∀ (u : List Nat) (c d : Nat), good n w → good n u → w.length = u.length → encC c w = encC d u → c = d ∧ w = u := by
  induction w with
  | nil =>
    intro u c d _ _ hl h
    have : u = [] := List.eq_nil_of_length_eq_zero hl.symm
    subst this
    exact ⟨h, rfl⟩
  | cons b w ih =>
    intro u c d hw hu hl h
    cases u with
    | nil => simp at hl
    | cons b' u =>
      obtain ⟨hb, hw⟩ := good_cons.1 hw
      obtain ⟨hb', hu⟩ := good_cons.1 hu
      obtain ⟨h1, h2⟩ := ih u (8 * c + b) (8 * d + b') hw hu (by simpa using hl) h
      refine ⟨by omega, ?_⟩
      rw [h2, show b = b' by omega]
theorem enc_inj {n : Nat} (hn : n ≤ 8) {w u : List Nat} (hw : good n w) (hu : good n u) (h : enc w = enc u) : w = u := by
  rcases Nat.lt_trichotomy w.length u.length with e | e | e
  · have := enc_len hn hw hu e; omega
  · exact (encC_inj hn w u 1 1 hw hu e h).2
  · have := enc_len hn hu hw e; omega
theorem enc_prefix {n : Nat} (hn : n ≤ 8) {w u : List Nat} (hu : good n u) : enc w ≤ enc (w ++ u) := by
  have e : enc (w ++ u) = encC (enc w) u := by simp [enc, encC, List.foldl_append]
  have h := (encC_bounds hn u (enc w) hu).1
  have h2 := Nat.pow_pos (n := u.length) (show 0 < 8 by omega)
  rw [e]
  exact Nat.le_trans (Nat.le_mul_of_pos_right _ h2) h
theorem enc_take {n : Nat} (hn : n ≤ 8) {u : List Nat} (hu : good n u) (t : Nat) : enc (u.take t) ≤ enc u := by
  have := enc_prefix hn (w := u.take t) (u := u.drop t) (fun x hx => hu x (List.mem_of_mem_drop hx))
  rwa [List.take_append_drop] at this

/-! ### What is looked for -/
/-- The first of all hunts. -/
def IsHunt (xss : List (List Int)) (w : List Nat) : Prop :=
  good xss.length w ∧ run0 xss w = 0 ∧ w.length ≤ 16 ∧ ∀ u, good xss.length u → run0 xss u = 0 → u.length ≤ 16 → enc w ≤ enc u
def toI (w : List Nat) : List Int := w.map fun b : Nat => (b : Int)
/-- What ShortestHunt gives. -/
def HuntIs (xss : List (List Int)) (l : List Int) (ok : Bool) : Prop :=
  (besideB xss = true ∧ ok = true ∧ ∃ w, IsHunt xss w ∧ l = toI w) ∨
  (ok = false ∧ l = [] ∧ (besideB xss = false ∨ ∀ u, good xss.length u → u.length ≤ 16 → run0 xss u ≠ 0))
theorem HuntIs.unique {xss : List (List Int)} {l l' : List Int} {ok ok' : Bool} (h : HuntIs xss l ok) (h' : HuntIs xss l' ok') : l = l' ∧ ok = ok' := by
  rcases h with ⟨hb, rfl, w, hw, rfl⟩ | ⟨rfl, rfl, hno⟩
  · rcases h' with ⟨_, rfl, w', hw', rfl⟩ | ⟨rfl, rfl, hno⟩
    · have hn := (besideB_spec hb).1
      have h1 := hw.2.2.2 w' hw'.1 hw'.2.1 hw'.2.2.1
      have h2 := hw'.2.2.2 w hw.1 hw.2.1 hw.2.2.1
      rw [enc_inj (by omega) hw.1 hw'.1 (by omega)]
      exact ⟨rfl, rfl⟩
    · rcases hno with hno | hno
      · rw [hb] at hno; cases hno
      · exact absurd hw.2.1 (hno w hw.1 hw.2.2.1)
  · rcases h' with ⟨hb, rfl, w', hw', rfl⟩ | ⟨rfl, rfl, _⟩
    · rcases hno with hno | hno
      · rw [hb] at hno; cases hno
      · exact absurd hw'.2.1 (hno w' hw'.1 hw'.2.2.1)
    · exact ⟨rfl, rfl⟩

/-! ### The search by queue: L: the words found so far, in order; i of them are done, of word i the boxes below b. -/
def nth (L : List (List Nat)) (t : Nat) : List Nat := L.getD t []
theorem nth_old {L : List (List Nat)} {x : List Nat} {t : Nat} (h : t < L.length) : nth (L ++ [x]) t = nth L t := by
  unfold nth; rw [getD_get (by simp; omega), getD_get h, List.getElem_append_left h]
theorem nth_new (L : List (List Nat)) (x : List Nat) : nth (L ++ [x]) L.length = x := by
  unfold nth; rw [getD_get (by simp)]; simp
def Bfs (xss : List (List Int)) (L : List (List Nat)) (i b : Nat) : Prop :=
  1 ≤ L.length ∧ nth L 0 = [] ∧
  (∀ t, t < L.length → good xss.length (nth L t) ∧ (nth L t).length ≤ 16 ∧ run0 xss (nth L t) ≠ 0) ∧
  (∀ t u, t < u → u < L.length → enc (nth L t) < enc (nth L u)) ∧
  (i < L.length → ∀ t, t < L.length → enc (nth L t) < 8 * enc (nth L i) + b) ∧
  (∀ t c, t < L.length → c < xss.length → (t < i ∨ (t = i ∧ c < b)) → ∃ u, u < L.length ∧ run0 xss (nth L u) = run0 xss (nth L t ++ [c]) ∧ enc (nth L u) ≤ enc (nth L t ++ [c]))
theorem bfs_start {xss : List (List Int)} (hn : 1 ≤ xss.length) : Bfs xss [[]] 0 0 := by
  have h0 : nth [[]] 0 = [] := rfl
  have h1 := Nat.pow_lt_pow_right (show 1 < 2 by omega) (show 0 < xss.length by omega)
  refine ⟨by simp, rfl, fun t ht => ?_, fun t u htu hu => ?_, fun _ t ht => ?_, fun t c ht hc hh => by omega⟩
  · have : t = 0 := by simpa using ht
    subst this
    rw [h0]
    refine ⟨good_nil _, by simp, ?_⟩
    show 2 ^ xss.length - 1 ≠ 0
    omega
  · simp at hu; omega
  · have : t = 0 := by simpa using ht
    subst this
    rw [h0, enc_nil]; omega
theorem bfs_seen {xss : List (List Int)} {L : List (List Nat)} {i b u : Nat} (h : Bfs xss L i b) (hi : i < L.length) (hu : u < L.length) (hr : run0 xss (nth L u) = run0 xss (nth L i ++ [b])) : Bfs xss L i (b + 1) := by
  obtain ⟨h1, h2, h3, h4, h5, h6⟩ := h
  refine ⟨h1, h2, h3, h4, fun hi t ht => by have := h5 hi t ht; omega, fun t c ht hc hh => ?_⟩
  by_cases e : t < i ∨ (t = i ∧ c < b)
  · exact h6 t c ht hc e
  · have e1 : t = i := by omega
    have e2 : c = b := by omega
    subst e1 e2
    exact ⟨u, hu, hr, by have := h5 hi u hu; rw [enc_snoc]; omega⟩
theorem bfs_new {xss : List (List Int)} {L : List (List Nat)} {i b : Nat} (h : Bfs xss L i b) (hi : i < L.length) (hb : b < xss.length) (hl : (nth L i).length < 16) (hr : run0 xss (nth L i ++ [b]) ≠ 0) : Bfs xss (L ++ [nth L i ++ [b]]) i (b + 1) := by
  obtain ⟨h1, h2, h3, h4, h5, h6⟩ := h
  have hlen : (L ++ [nth L i ++ [b]]).length = L.length + 1 := by simp
  have hlast : ∀ t, ¬ t < L.length → t < L.length + 1 → nth (L ++ [nth L i ++ [b]]) t = nth L i ++ [b] := fun t h1 h2 => by
    rw [show t = L.length by omega, nth_new]
  refine ⟨by omega, by rw [nth_old (by omega)]; exact h2, fun t ht => ?_, fun t u htu hu => ?_, fun _ t ht => ?_, fun t c ht hc hh => ?_⟩
  · by_cases e : t < L.length
    · rw [nth_old e]; exact h3 t e
    · rw [hlast t e (by omega)]
      exact ⟨good_snoc (h3 i hi).1 hb, by simp; omega, hr⟩
  · rw [nth_old (show t < L.length by omega)]
    by_cases e : u < L.length
    · rw [nth_old e]; exact h4 t u htu e
    · rw [hlast u e (by omega), enc_snoc]
      exact h5 hi t (by omega)
  · rw [nth_old hi]
    by_cases e : t < L.length
    · rw [nth_old e]; have := h5 hi t e; omega
    · rw [hlast t e (by omega), enc_snoc]; omega
  · have htL : t < L.length := by omega
    rw [nth_old htL]
    by_cases e : t < i ∨ (t = i ∧ c < b)
    · obtain ⟨u, hu, e1, e2⟩ := h6 t c htL hc e
      exact ⟨u, by omega, by rw [nth_old hu]; exact e1, by rw [nth_old hu]; exact e2⟩
    · have e1 : t = i := by omega
      have e2 : c = b := by omega
      subst e1 e2
      exact ⟨L.length, by omega, by rw [nth_new], by rw [nth_new]; exact Nat.le_refl _⟩
theorem bfs_next {xss : List (List Int)} {L : List (List Nat)} {i : Nat} (h : Bfs xss L i xss.length) (hn : xss.length ≤ 8) : Bfs xss L (i + 1) 0 := by
  obtain ⟨h1, h2, h3, h4, h5, h6⟩ := h
  refine ⟨h1, h2, h3, h4, fun hi t ht => ?_, fun t c ht hc hh => h6 t c ht hc (by omega)⟩
  have e1 := h5 (by omega) t ht
  have e2 := h4 i (i + 1) (by omega) hi
  omega
/-- What a word reaches has been found by a word that is no later, as long as those were done. -/
theorem bfs_reach {xss : List (List Int)} {L : List (List Nat)} {i b : Nat} (h : Bfs xss L i b) {u : List Nat} (hu : good xss.length u)
    (hd : ∀ t (ht : t < u.length) q, q < L.length → enc (nth L q) ≤ enc (u.take t) → q < i ∨ (q = i ∧ u[t] < b)) :
    ∀ t, t ≤ u.length → ∃ q, q < L.length ∧ run0 xss (nth L q) = run0 xss (u.take t) ∧ enc (nth L q) ≤ enc (u.take t) := by
  obtain ⟨h1, h2, h3, h4, h5, h6⟩ := h
  intro t
  induction t with
  | zero => intro _; exact ⟨0, h1, by rw [h2, List.take_zero], by rw [h2, List.take_zero]; exact Nat.le_refl _⟩
  | succ t ih =>
    intro ht
    obtain ⟨q, hq, e1, e2⟩ := ih (by omega)
    obtain ⟨r, hr, e3, e4⟩ := h6 q u[t] hq (hu _ (List.getElem_mem _)) (hd t (by omega) q hq e2)
    have e5 : u.take (t + 1) = u.take t ++ [u[t]] := List.take_succ_eq_append_getElem (by omega)
    refine ⟨r, hr, by rw [e3, e5, run0_snoc, run0_snoc, e1], Nat.le_trans e4 ?_⟩
    rw [e5, enc_snoc, enc_snoc]; omega
theorem bfs_found {xss : List (List Int)} {L : List (List Nat)} {i b : Nat} (h : Bfs xss L i b) (hn : xss.length ≤ 8) (hi : i < L.length) (hb : b < xss.length) (hl : (nth L i).length < 16) (hr : run0 xss (nth L i ++ [b]) = 0) :
    IsHunt xss (nth L i ++ [b]) := by
  have h3 := h.2.2.1
  have h4 := h.2.2.2.1
  refine ⟨good_snoc (h3 i hi).1 hb, hr, by simp; omega, fun u hu hru _ => Classical.byContradiction fun hlt => ?_⟩
  rw [enc_snoc] at hlt
  obtain ⟨q, hq, e1, _⟩ := bfs_reach h hu (fun t ht q hq he => by
    have e5 : u.take (t + 1) = u.take t ++ [u[t]] := List.take_succ_eq_append_getElem (by omega)
    have e6 := enc_take hn hu (t + 1)
    rw [e5, enc_snoc] at e6
    have hc := hu _ (List.getElem_mem ht)
    rcases Nat.lt_trichotomy q i with e | e | e
    · exact .inl e
    · subst e; exact .inr ⟨rfl, by omega⟩
    · have := h4 i q e hq; omega) u.length (Nat.le_refl _)
  rw [List.take_length] at e1
  exact (h3 q hq).2.2 (e1.trans hru)
theorem bfs_none {xss : List (List Int)} {L : List (List Nat)} {i b : Nat} (h : Bfs xss L i b) (hi : L.length ≤ i) : ∀ u, good xss.length u → u.length ≤ 16 → run0 xss u ≠ 0 := by
  intro u hu _ hru
  obtain ⟨q, hq, e1, _⟩ := bfs_reach h hu (fun t ht q hq he => .inl (by omega)) u.length (Nat.le_refl _)
  rw [List.take_length] at e1
  exact (h.2.2.1 q hq).2.2 (e1.trans hru)
theorem bfs_long {xss : List (List Int)} {L : List (List Nat)} {i b : Nat} (h : Bfs xss L i b) (hn : xss.length ≤ 8) (hi : i < L.length) (hl : (nth L i).length = 16) : ∀ u, good xss.length u → u.length ≤ 16 → run0 xss u ≠ 0 := by
  intro u hu hul hru
  have h3 := h.2.2.1
  have h4 := h.2.2.2.1
  obtain ⟨q, hq, e1, _⟩ := bfs_reach h hu (fun t ht q hq he => by
    have hlt := enc_len hn (good_take hu t) (h3 i hi).1 (by rw [List.length_take]; omega)
    rcases Nat.lt_trichotomy q i with e | e | e
    · exact .inl e
    · subst e; omega
    · have := h4 i q e hq; omega) u.length (Nat.le_refl _)
  rw [List.take_length] at e1
  exact (h3 q hq).2.2 (e1.trans hru)

/-! ### The table of least days -/
def DpLow (xss : List (List Int)) (T : List Int) : Prop :=
  T.length = 2 ^ xss.length ∧ ∀ s, s < 2 ^ xss.length → 0 ≤ T.getD s 0 ∧ T.getD s 0 ≤ 17 ∧ (T.getD s 0 ≤ 16 → ∃ w, good xss.length w ∧ (w.length : Int) = T.getD s 0 ∧ runF xss s w = 0)
def DpUp (xss : List (List Int)) (T : List Int) (d s : Nat) : Prop := ∀ w, good xss.length w → w.length ≤ d → runF xss s w = 0 → T.getD s 0 ≤ w.length
/-- In day d the sets below s are done, of set s the boxes below k. -/
def Dp (xss : List (List Int)) (T : List Int) (d s k : Nat) : Prop :=
  DpLow xss T ∧ (∀ s', s' < 2 ^ xss.length → DpUp xss T d s') ∧ (∀ s', s' < s → DpUp xss T (d + 1) s') ∧
  ∀ c w, c < k → good xss.length w → w.length ≤ d → runF xss (afterN xss s (c : Int)) w = 0 → T.getD s 0 ≤ (w.length : Int) + 1
theorem getD_set_ne {T : List Int} {s t : Nat} {x : Int} (h : s ≠ t) : (T.set s x).getD t 0 = T.getD t 0 := by
  simp [List.getD, List.getElem?_set_ne h]
theorem getD_set_self {T : List Int} {s : Nat} {x : Int} (h : s < T.length) : (T.set s x).getD s 0 = x := by
  simp [List.getD, List.getElem?_set_self h]
theorem dp_start {xss : List (List Int)} {T : List Int} (hl : T.length = 2 ^ xss.length) (h0 : T.getD 0 0 = 0) (h1 : ∀ s, 1 ≤ s → s < 2 ^ xss.length → T.getD s 0 = 17) : Dp xss T 0 1 0 := by
  have key : ∀ s, s < 2 ^ xss.length → DpUp xss T 0 s := fun s hs w hw hwl hr => by
    have : w = [] := List.eq_nil_of_length_eq_zero (by omega)
    subst this
    have hs0 : s = 0 := hr
    subst hs0
    rw [h0]; simp
  refine ⟨⟨hl, fun s hs => ?_⟩, key, fun s' hs' w hw hwl hr => ?_, fun c w hc => by omega⟩
  · by_cases e : s = 0
    · subst e
      rw [h0]
      exact ⟨by omega, by omega, fun _ => ⟨[], good_nil _, rfl, rfl⟩⟩
    · rw [h1 s (by omega) hs]
      exact ⟨by omega, by omega, fun h => by omega⟩
  · have e : s' = 0 := by omega
    subst e
    rw [h0]; omega
theorem dp_step {xss : List (List Int)} {T : List Int} {d s k : Nat} (h : Dp xss T d s k) (hs : s < 2 ^ xss.length) (hk : k < xss.length) :
    Dp xss (T.set s (min (T.getD s 0) (T.getD (afterN xss s (k : Int)) 0 + 1))) d s (k + 1) := by
  obtain ⟨⟨hl, hlow⟩, hup, hup2, hcur⟩ := h
  have ha : afterN xss s (k : Int) < 2 ^ xss.length := lotN_lt _ _
  obtain ⟨x, hx⟩ : ∃ x, x = min (T.getD s 0) (T.getD (afterN xss s (k : Int)) 0 + 1) := ⟨_, rfl⟩
  rw [← hx]
  have hval : ∀ t, t < 2 ^ xss.length → (T.set s x).getD t 0 ≤ T.getD t 0 := fun t ht => by
    by_cases e : s = t
    · subst e; rw [getD_set_self (by omega)]; omega
    · rw [getD_set_ne e]; exact Int.le_refl _
  have hself : (T.set s x).getD s 0 = x := getD_set_self (by omega)
  refine ⟨⟨by simpa using hl, fun t ht => ?_⟩, fun t ht w hw hwl hr => Int.le_trans (hval t ht) (hup t ht w hw hwl hr), fun t ht w hw hwl hr => Int.le_trans (hval t (by omega)) (hup2 t ht w hw hwl hr), fun c w hc hw hwl hr => ?_⟩
  · by_cases e : s = t
    · subst e
      rw [hself]
      have a1 := (hlow s hs).1
      have a2 := (hlow s hs).2.1
      have b1 := (hlow _ ha).1
      refine ⟨by omega, by omega, fun h16 => ?_⟩
      by_cases e2 : x = T.getD s 0
      · rw [e2] at h16 ⊢; exact (hlow s hs).2.2 h16
      · obtain ⟨w, hw1, hw2, hw3⟩ := (hlow _ ha).2.2 (by omega)
        exact ⟨k :: w, good_cons.2 ⟨hk, hw1⟩, by rw [List.length_cons]; omega, by rw [runF_cons]; exact hw3⟩
    · rw [getD_set_ne e]; exact hlow t ht
  · rw [hself]
    by_cases e : c < k
    · have := hcur c w e hw hwl hr; omega
    · have e2 : c = k := by omega
      subst e2
      have := hup _ ha w hw hwl hr
      omega
theorem dp_set {xss : List (List Int)} {T : List Int} {d s : Nat} (h : Dp xss T d s xss.length) (hs : s < 2 ^ xss.length) : Dp xss T d (s + 1) 0 := by
  obtain ⟨hlow, hup, hup2, hcur⟩ := h
  refine ⟨hlow, hup, fun t ht w hw hwl hr => ?_, fun c w hc => by omega⟩
  by_cases e : t < s
  · exact hup2 t e w hw hwl hr
  · have e2 : t = s := by omega
    subst e2
    cases w with
    | nil => exact hup t hs [] hw (by simp) hr
    | cons c w =>
      obtain ⟨hc, hw⟩ := good_cons.1 hw
      rw [List.length_cons] at hwl ⊢
      have := hcur c w hc hw (by omega) hr
      omega
theorem dp_day {xss : List (List Int)} {T : List Int} {d s : Nat} (h : Dp xss T d s 0) (hs : 2 ^ xss.length ≤ s) : Dp xss T (d + 1) 1 0 := by
  obtain ⟨hlow, hup, hup2, hcur⟩ := h
  have hp := Nat.pow_pos (n := xss.length) (show 0 < 2 by omega)
  refine ⟨hlow, fun t ht => hup2 t (by omega), fun t ht w hw hwl hr => ?_, fun c w hc => by omega⟩
  have e : t = 0 := by omega
  subst e
  have h2 : T.getD 0 0 ≤ (([] : List Nat).length : Int) := hup 0 hp [] (good_nil _) (by simp) rfl
  rw [List.length_nil] at h2
  omega
/-- The table as it is at last. -/
def DpEnd (xss : List (List Int)) (T : List Int) : Prop := DpLow xss T ∧ ∀ s, s < 2 ^ xss.length → DpUp xss T 16 s
theorem dp_end {xss : List (List Int)} {T : List Int} {s k : Nat} (h : Dp xss T 16 s k) : DpEnd xss T := ⟨h.1, h.2.1⟩
theorem DpEnd.zero {xss : List (List Int)} {T : List Int} (h : DpEnd xss T) : T.getD 0 0 = 0 := by
  have hp := Nat.pow_pos (n := xss.length) (show 0 < 2 by omega)
  have h1 := (h.1.2 0 hp).1
  have h2 : T.getD 0 0 ≤ (([] : List Nat).length : Int) := h.2 0 hp [] (good_nil _) (by simp) rfl
  rw [List.length_nil] at h2
  omega
theorem DpEnd.pos {xss : List (List Int)} {T : List Int} (h : DpEnd xss T) {s : Nat} (hs : s < 2 ^ xss.length) (h0 : 0 < s) : 0 < T.getD s 0 := by
  have a1 := (h.1.2 s hs).1
  apply Classical.byContradiction
  intro hno
  obtain ⟨w, _, hw, hr⟩ := (h.1.2 s hs).2.2 (by omega)
  have : w = [] := List.eq_nil_of_length_eq_zero (by omega)
  subst this
  have : s = 0 := hr
  omega
theorem DpEnd.none {xss : List (List Int)} {T : List Int} (h : DpEnd xss T) (hT : 16 < T.getD (2 ^ xss.length - 1) 0) : ∀ u, good xss.length u → u.length ≤ 16 → run0 xss u ≠ 0 := by
  intro u hu hul hr
  have := h.2 _ (full_lt xss) u hu hul hr
  omega

/-! ### The way down the table -/
/-- The word so far leads to the set; no hunt of least length has a lesser beginning. -/
def Way (xss : List (List Int)) (T : List Int) (out : List Nat) (set : Nat) : Prop :=
  good xss.length out ∧ run0 xss out = set ∧ (out.length : Int) + T.getD set 0 = T.getD (2 ^ xss.length - 1) 0 ∧ T.getD (2 ^ xss.length - 1) 0 ≤ 16 ∧
  ∀ u, good xss.length u → (u.length : Int) = T.getD (2 ^ xss.length - 1) 0 → run0 xss u = 0 → enc out ≤ enc (u.take out.length)
theorem way_start {xss : List (List Int)} {T : List Int} (h : T.getD (2 ^ xss.length - 1) 0 ≤ 16) : Way xss T [] (2 ^ xss.length - 1) :=
  ⟨good_nil _, rfl, by simp, h, fun u _ _ _ => by simp⟩
theorem way_set {xss : List (List Int)} {T : List Int} {out : List Nat} {set : Nat} (h : Way xss T out set) : set < 2 ^ xss.length := by
  rw [← h.2.1]; exact runF_lt (full_lt xss) _
theorem way_has {xss : List (List Int)} {T : List Int} {out : List Nat} {set : Nat} (hE : DpEnd xss T) (h : Way xss T out set) (h0 : 0 < set) : ∃ k, k < xss.length ∧ T.getD (afterN xss set (k : Int)) 0 + 1 = T.getD set 0 := by
  have hs := way_set h
  have hp := hE.pos hs h0
  obtain ⟨w, hw, hwl, hr⟩ := (hE.1.2 set hs).2.2 (by have := h.2.2.1; have := h.2.2.2.1; omega)
  cases w with
  | nil => rw [List.length_nil] at hwl; omega
  | cons c w =>
    obtain ⟨hc, hw⟩ := good_cons.1 hw
    rw [List.length_cons] at hwl
    refine ⟨c, hc, ?_⟩
    rw [runF_cons] at hr
    have ha : afterN xss set (c : Int) < 2 ^ xss.length := lotN_lt _ _
    have h16 := h.2.2.2.1
    have hsum := h.2.2.1
    have h1 := hE.2 _ ha w hw (by omega) hr
    obtain ⟨w2, hw2, hwl2, hr2⟩ := (hE.1.2 _ ha).2.2 (by omega)
    have h2 := hE.2 set hs (c :: w2) (good_cons.2 ⟨hc, hw2⟩) (by rw [List.length_cons]; omega) (by rw [runF_cons]; exact hr2)
    rw [List.length_cons] at h2
    omega
theorem way_step {xss : List (List Int)} {T : List Int} {out : List Nat} {set k : Nat} (hE : DpEnd xss T) (hn : xss.length ≤ 8) (h : Way xss T out set) (h0 : 0 < set) (hk : k < xss.length) (he : T.getD (afterN xss set (k : Int)) 0 + 1 = T.getD set 0)
    (hmin : ∀ c, c < k → T.getD (afterN xss set (c : Int)) 0 + 1 ≠ T.getD set 0) : Way xss T (out ++ [k]) (afterN xss set (k : Int)) := by
  have hs := way_set h
  have hpos := hE.pos hs h0
  obtain ⟨h1, h2, h3, h4, h5⟩ := h
  refine ⟨good_snoc h1 hk, by rw [run0_snoc, h2], by rw [List.length_append, List.length_singleton]; omega, h4, fun u hu hul hr => ?_⟩
  have h6 := h5 u hu hul hr
  have hlt : out.length < u.length := by omega
  rw [List.length_append, List.length_singleton, List.take_succ_eq_append_getElem hlt, enc_snoc, enc_snoc]
  have hc := hu _ (List.getElem_mem hlt)
  by_cases e : enc out < enc (u.take out.length)
  · omega
  · have e2 : out = u.take out.length := enc_inj hn h1 (good_take hu _) (by omega)
    have hsplit : u = out ++ u[out.length] :: u.drop (out.length + 1) := by
      have := (List.take_append_drop out.length u).symm
      rw [← e2, List.drop_eq_getElem_cons hlt] at this
      exact this
    have hr2 : runF xss (afterN xss set ((u[out.length] : Nat) : Int)) (u.drop (out.length + 1)) = 0 := by
      have : run0 xss u = runF xss (run0 xss out) (u[out.length] :: u.drop (out.length + 1)) := by
        have := congrArg (run0 xss) hsplit
        rw [this]; exact runF_append _ _ _ _
      rw [h2, runF_cons] at this
      rw [← this]; exact hr
    have hgd : good xss.length (u.drop (out.length + 1)) := fun x hx => hu x (List.mem_of_mem_drop hx)
    have hld : (u.drop (out.length + 1)).length = u.length - (out.length + 1) := List.length_drop
    have ha : afterN xss set ((u[out.length] : Nat) : Int) < 2 ^ xss.length := lotN_lt _ _
    have q1 := hE.2 _ ha _ hgd (by omega) hr2
    obtain ⟨w2, hw2, hwl2, hr3⟩ := (hE.1.2 _ ha).2.2 (by omega)
    have q2 := hE.2 set hs (u[out.length] :: w2) (good_cons.2 ⟨hc, hw2⟩) (by rw [List.length_cons]; omega) (by rw [runF_cons]; exact hr3)
    rw [List.length_cons] at q2
    have : ¬ u[out.length] < k := fun hh => hmin _ hh (by omega)
    rw [← e2]
    omega
theorem way_end {xss : List (List Int)} {T : List Int} {out : List Nat} (hE : DpEnd xss T) (hn : xss.length ≤ 8) (h : Way xss T out 0) : IsHunt xss out := by
  obtain ⟨h1, h2, h3, h4, h5⟩ := h
  rw [hE.zero] at h3
  refine ⟨h1, h2, by omega, fun u hu hr hul => ?_⟩
  have h6 := hE.2 _ (full_lt xss) u hu hul hr
  by_cases e : (u.length : Int) = T.getD (2 ^ xss.length - 1) 0
  · have := h5 u hu e hr
    rwa [show out.length = u.length by omega, List.take_length] at this
  · exact Nat.le_of_lt (enc_len hn h1 hu (by omega))

end Go.Proofs.Ytpeogghiboaceaa
