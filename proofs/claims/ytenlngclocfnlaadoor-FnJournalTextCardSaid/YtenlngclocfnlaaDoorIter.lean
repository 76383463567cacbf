/- The program's rows: the iterator that writes one row over and over. -/
import Derived.Test.YtenlngclocfnlaaDoorRange
import Derived.Test.YtenlngclocfnlaaDoorBunA
import Derived.Test.YtenlngclocfnlaaDoorBunB
import Derived.Shelf.Abstract
import Derived.TacticsInMore
import Derived.LoopNIn
import Derived.LoopIn
import Derived.Deep.OwnRows
import Derived.Laws.EntriesVeiled
namespace Go.Proofs.YtenlngclocfnlaaDoor
open Go.RowKit Go.Shelf
set_option linter.unusedVariables false
set_option maxRecDepth 100000

def InfoR (a : Nat) (x : List Int) (W : World) : Prop := W.heap[a + 1]? = some (.cells (ints x).toArray 3 (0, 0)) ∧ a + 4 ≤ W.heap.size

def cappedV (bm bl a : Nat) : Array Value := #[.pointer (some ⟨bm, 0, none⟩), .pointer (some ⟨a, 0, none⟩), .pointer (some ⟨a + 1 + 1, 0, none⟩), .pointer (some ⟨bl, 0, none⟩), .pointer (some ⟨a + 1 + 1 + 1, 0, none⟩)]

theorem take_next {row : List Int} {i : Nat} {u : Int} (h : i < row.length) : (row.set i u).take (i + 1) = row.take i ++ [u] := by
  rw [List.take_succ_eq_append_getElem (by simpa using h), List.take_set_of_le (Nat.le_refl _)]
  simp
/-- What has come when the first k numbers have stood at a place. -/
def comeL (c : Nat) (p : List Int) (m k : Nat) : List (List Int) := (List.range k).flatMap fun (n : Nat) => fillL c (p ++ [(n : Int)]) m
theorem comeL_full (c : Nat) (p : List Int) (m : Nat) : comeL c p m c = fillL c p (m + 1) := rfl
theorem comeL_step (c : Nat) (p : List Int) (m k : Nat) : comeL c p m (k + 1) = comeL c p m k ++ fillL c (p ++ [(k : Int)]) m := by simp [comeL, List.range_succ]
theorem comeL_split (c : Nat) (p : List Int) (m : Nat) : ∀ d k, k + d = c → ∃ rest, fillL c p (m + 1) = comeL c p m k ++ rest
  | 0, k, h => ⟨[], by rw [← comeL_full, ← h]; simp⟩
  | d + 1, k, h => by
    obtain ⟨rest, hr⟩ := comeL_split c p m d (k + 1) (by omega)
    exact ⟨fillL c (p ++ [(k : Int)]) m ++ rest, by rw [hr, comeL_step, List.append_assoc]⟩

/-- The value that the iterator hands over. -/
def encR (K : Nat) (a : Nat) : Value := .slice (some ⟨a + 1, 0, none⟩) K K

end Go.Proofs.YtenlngclocfnlaaDoor
