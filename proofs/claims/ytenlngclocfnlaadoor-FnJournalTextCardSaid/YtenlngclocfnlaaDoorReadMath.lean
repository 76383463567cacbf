/- What is read of a text of a deed. Plain: no program is walked here. -/
import Derived.Test.YtenlngclocfnlaaDoorSplit
namespace Go.Proofs.YtenlngclocfnlaaDoor
set_option linter.unusedVariables false

/-- Digits as numbers; none if one byte is no digit. -/
def rowX (l : List UInt8) : List Int := if l.all isD = true then l.map ud else []
def rowB (l : List UInt8) : Bool := l.all isD && decide (0 < l.length)
theorem row_bad {l : List UInt8} (h : ∃ b ∈ l, isD b = false) : rowX l = [] ∧ rowB l = false := by
  obtain ⟨b, hb, he⟩ := h
  have hn : ¬ (l.all isD = true) := fun q => by
    have := List.all_eq_true.1 q b hb
    rw [he] at this; cases this
  have hn' : l.all isD = false := by simpa using hn
  unfold rowX rowB
  rw [if_neg hn, hn']
  exact ⟨rfl, rfl⟩
theorem row_good {l : List UInt8} (h : l.all isD = true) : rowX l = l.map ud ∧ rowB l = decide (0 < l.length) := by
  unfold rowX rowB
  rw [if_pos h, h]
  exact ⟨rfl, by simp⟩
theorem isD_iff {b : UInt8} : isD b = true ↔ 48 ≤ b.toNat ∧ b.toNat ≤ 57 := by simp [isD]

/-- The number of a text of one to three digits without leading zeros; -1 for others. -/
def numL (l : List UInt8) : Int := if decide (1 ≤ l.length) && decide (l.length ≤ 3) && !(decide (1 < l.length) && l.head? == some 48) && l.all isD then l.foldl (fun n b => 10 * n + ud b) 0 else -1
theorem numL_one {b : UInt8} (h : isD b = true) : numL [b] = ud b := by
  unfold numL
  simp [h]
theorem rowX_map {xs : List Int} (h : xs.all (fun x => inB x 0 9) = true) (hl : 0 < xs.length) : rowX (xs.map dg) = xs ∧ rowB (xs.map dg) = true := by
  have hd := all_isD h
  unfold rowX rowB
  rw [if_pos hd, hd, map_ud_dg h]
  simp
  exact hl
theorem read_words {l : List UInt8} {d : Dd} (h : readD l = some d) (hb : l ≠ wordBack) : d.back = false ∧ words 32 l = [wordGuess, d.code.map dg, [dg d.right], [dg d.near]] ∧ textOk d.code d.right d.near = true := by
  obtain ⟨h1, h2⟩ := readD_iff.1 h
  have hne : textD d ≠ [] := by rw [h1]; exact h2
  rcases textD_cases hne with rfl | ⟨q1, q2, q3⟩
  · exact absurd h1.symm (by rw [textD_undo]; exact hb)
  · exact ⟨q1, by rw [← h1, q3]; exact words_text q2, q2⟩
theorem read_len {l : List UInt8} (hb : l ≠ wordBack) (h : (words 32 l).length ≠ 4) : readD l = none := by
  rcases e : readD l with _ | d
  · rfl
  · have := (read_words e hb).2.1
    rw [this] at h
    exact absurd rfl h
theorem read_word {l u0 u1 u2 u3 : List UInt8} (hb : l ≠ wordBack) (hw : words 32 l = [u0, u1, u2, u3]) (h : u0 ≠ wordGuess) : readD l = none := by
  rcases e : readD l with _ | d
  · rfl
  · have := (read_words e hb).2.1
    rw [hw] at this
    simp only [List.cons.injEq] at this
    exact absurd this.1 h
theorem read_parts {l u0 u1 u2 u3 : List UInt8} {d : Dd} (hb : l ≠ wordBack) (hw : words 32 l = [u0, u1, u2, u3]) (e : readD l = some d) :
    u0 = wordGuess ∧ u1 = d.code.map dg ∧ u2 = [dg d.right] ∧ u3 = [dg d.near] ∧ d.back = false ∧ textOk d.code d.right d.near = true := by
  obtain ⟨h1, h2, h3⟩ := read_words e hb
  rw [hw] at h2
  simp only [List.cons.injEq, and_true] at h2
  exact ⟨h2.1, h2.2.1, h2.2.2.1, h2.2.2.2, h1, h3⟩
theorem read_row {l u0 u1 u2 u3 : List UInt8} (hb : l ≠ wordBack) (hw : words 32 l = [u0, u1, u2, u3]) (h : rowB u1 = false ∨ rowB u2 = false ∨ rowB u3 = false) : readD l = none := by
  rcases e : readD l with _ | d
  · rfl
  · obtain ⟨_, h1, h2, h3, _, h4⟩ := read_parts hb hw e
    obtain ⟨q1, q2, q3, q4⟩ := textOk_iff.1 h4
    have r1 := (rowX_map q2 (by omega)).2
    have r2 := (rowX_map (xs := [d.right]) (by simp [q3]) (by simp)).2
    have r3 := (rowX_map (xs := [d.near]) (by simp [q4]) (by simp)).2
    simp only [List.map_cons, List.map_nil] at r2 r3
    rw [h1, h2, h3] at h
    rcases h with h | h | h
    · rw [r1] at h; cases h
    · rw [r2] at h; cases h
    · rw [r3] at h; cases h
/-- What is read, if the parts are right. -/
theorem read_made {l u0 u1 u2 u3 : List UInt8} {x : List Int} {r n : Int} (hb : l ≠ wordBack) (hw : words 32 l = [u0, u1, u2, u3])
    (hx : ∀ d, readD l = some d → x = d.code ∧ r = d.right ∧ n = d.near) : readD l = if textD ⟨false, x, r, n⟩ = l then some ⟨false, x, r, n⟩ else none := by
  by_cases h : textD ⟨false, x, r, n⟩ = l
  · rw [if_pos h]
    by_cases hl : l = []
    · subst hl
      simp [words] at hw
    · exact readD_iff.2 ⟨h, hl⟩
  · rw [if_neg h]
    rcases e : readD l with _ | d
    · rfl
    · exfalso
      obtain ⟨h1, h2, h3⟩ := hx d e
      have h4 := (read_words e hb).1
      apply h
      have : (⟨false, x, r, n⟩ : Dd) = d := by
        obtain ⟨a, b, c, f⟩ := d
        simp only at h1 h2 h3 h4
        subst h1 h2 h3 h4
        rfl
      rw [this]
      exact (readD_iff.1 e).1
theorem read_impl {l u0 u1 u2 u3 : List UInt8} {r n : Int} {t2 t3 : List Int} (hb : l ≠ wordBack) (hw : words 32 l = [u0, u1, u2, u3]) (h2 : rowX u2 = r :: t2) (h3 : rowX u3 = n :: t3) :
    readD l = if textD ⟨false, rowX u1, r, n⟩ = l then some ⟨false, rowX u1, r, n⟩ else none := by
  refine read_made hb hw fun d e => ?_
  obtain ⟨_, p1, p2, p3, _, p4⟩ := read_parts hb hw e
  obtain ⟨q1, q2, q3, q4⟩ := textOk_iff.1 p4
  have r1 := (rowX_map q2 (by omega)).1
  have r2 := (rowX_map (xs := [d.right]) (by simp [q3]) (by simp)).1
  have r3 := (rowX_map (xs := [d.near]) (by simp [q4]) (by simp)).1
  simp only [List.map_cons, List.map_nil] at r2 r3
  rw [p2, r2] at h2
  rw [p3, r3] at h3
  rw [p1, r1]
  simp only [List.cons.injEq] at h2 h3
  exact ⟨rfl, h2.1.symm, h3.1.symm⟩
theorem read_spec {l u0 u1 u2 u3 : List UInt8} (hb : l ≠ wordBack) (hw : words 32 l = [u0, u1, u2, u3]) :
    readD l = if textD ⟨false, rowX u1, numL u2, numL u3⟩ = l then some ⟨false, rowX u1, numL u2, numL u3⟩ else none := by
  refine read_made hb hw fun d e => ?_
  obtain ⟨_, p1, p2, p3, _, p4⟩ := read_parts hb hw e
  obtain ⟨q1, q2, q3, q4⟩ := textOk_iff.1 p4
  have r1 := (rowX_map q2 (by omega)).1
  rw [p1, p2, p3, r1, numL_one (isD_dg q3), numL_one (isD_dg q4), ud_dg q3, ud_dg q4]
  exact ⟨rfl, rfl, rfl⟩
theorem rowB_cons {u : List UInt8} (h : rowB u = true) : ∃ b t, rowX u = b :: t := by
  unfold rowB at h
  rw [Bool.and_eq_true, decide_eq_true_iff] at h
  unfold rowX
  rw [if_pos h.1]
  match u, h.2 with
  | b :: t, _ => exact ⟨ud b, t.map ud, rfl⟩

def rdD (l : List UInt8) : Dd := (readD l).getD ⟨false, [], 0, 0⟩
def rdB (l : List UInt8) : Bool := (readD l).isSome
theorem rd_none {l : List UInt8} (h : readD l = none) : rdD l = ⟨false, [], 0, 0⟩ ∧ rdB l = false := by unfold rdD rdB; rw [h]; exact ⟨rfl, rfl⟩
theorem rd_some {l : List UInt8} {d : Dd} (h : readD l = some d) : rdD l = d ∧ rdB l = true := by unfold rdD rdB; rw [h]; exact ⟨rfl, rfl⟩
theorem rd_back : rdD wordBack = Dd.undo ∧ rdB wordBack = true := rd_some rfl
theorem rd_code (l : List UInt8) : (rdD l).code.length ≤ 3 ∧ ∀ y ∈ (rdD l).code, 0 ≤ y ∧ y ≤ 9 := by
  rcases e : readD l with _ | d
  · rw [(rd_none e).1]; simp
  · rw [(rd_some e).1]
    obtain ⟨h1, h2⟩ := readD_iff.1 e
    rcases textD_cases (by rw [h1]; exact h2) with rfl | ⟨_, q2, _⟩
    · simp [Dd.undo]
    · obtain ⟨⟨_, r1⟩, r2, _⟩ := textOk_iff.1 q2
      exact ⟨r1, fun y hy => inB_iff.1 (List.all_eq_true.1 r2 y hy)⟩

end Go.Proofs.YtenlngclocfnlaaDoor
