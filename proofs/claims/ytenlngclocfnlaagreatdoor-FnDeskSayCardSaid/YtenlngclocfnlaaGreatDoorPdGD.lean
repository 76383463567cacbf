/- Shorthands of this claim's texts. -/
import Derived.Lib.Hide
import Derived.Below
namespace Go.Proofs.YtenlngclocfnlaaGreatDoor
theorem gDq {t : Array Go.Value} {i : Nat} {v : Go.Value} (h : t.getD i Go.undef = v) : (t[i]?).getD Go.undef = v := by rw [← Array.getD_eq_getD_getElem?]; exact h
theorem haoI (w : Go.World) (o : Go.Obj) (i : Nat) (h : i < w.heap.size) : (w.alloc o).heap[i]? = w.heap[i]? := Go.RowKit.Below.heap_alloc w o i h
theorem haoM (w : Go.World) (o : Go.Obj) {i : Nat} (h : i < w.heap.size) : (w.alloc o).heap[i]? = w.heap[i]? := Go.RowKit.Below.heap_alloc w o i h
theorem hdd {p : Prop} (h : p) : Go.RowKit.Hid p := Go.Lib.hid h
end Go.Proofs.YtenlngclocfnlaaGreatDoor
