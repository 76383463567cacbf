/- What stands of a window of memory. No walk. -/
import Derived.Test.YtenlngclocfnlaaDoorGsMark2
import Derived.Test.YtenlngclocfnlaaDoorDoS
namespace Go.Proofs.YtenlngclocfnlaaDoor
open Go.RowKit
set_option linter.unusedVariables false

/-- Of the blocks of wk from lo on, all stand in w. -/
def Kp (lo : Nat) (wk w : World) : Prop := wk.heap.size ≤ w.heap.size ∧ Above lo wk w
theorem Kp.refl (lo : Nat) (w : World) : Kp lo w w := ⟨Nat.le_refl _, Above.refl _ _⟩
theorem Kp.below {lo : Nat} {wk w w' : World} (h : Kp lo wk w) (hb : Below w.heap.size w w') : Kp lo wk w' :=
  ⟨Nat.le_trans h.1 hb.size, fun b h1 h2 => (hb.block b (by have := h.1; omega)).trans (h.2 b h1 h2)⟩
theorem Kp.drew {lo : Nat} {wk w : World} (h : Kp lo wk w) : Kp lo wk w.drew := h
theorem Kp.under {lo B : Nat} {wk w w' : World} (h : Kp lo wk w) (hb : Below B w w') (hB : wk.heap.size ≤ B) : Kp lo wk w' :=
  ⟨Nat.le_trans h.1 hb.size, fun b h1 h2 => (hb.block b (by omega)).trans (h.2 b h1 h2)⟩
theorem Kp.far {lo C : Nat} {wk w w' : World} (h : Kp lo wk w) (hf : ∀ b, C ≤ b → b < w.heap.size → w'.heap[b]? = w.heap[b]?) (hC : C ≤ lo) (hz : w.heap.size ≤ w'.heap.size) : Kp lo wk w' :=
  ⟨Nat.le_trans h.1 hz, fun b h1 h2 => (hf b (by omega) (by have := h.1; omega)).trans (h.2 b h1 h2)⟩

def At (w : World) (g : Nat) (o : Obj) : Prop := w.heap[g]? = some o
theorem At.new (w : World) (o : Obj) : At (w.alloc o) w.heap.size o := heap_alloc_new w o
theorem At.lt {w : World} {g : Nat} {o : Obj} (h : At w g o) : g < w.heap.size := (Array.getElem?_eq_some_iff.1 h).1
theorem At.below {w w' : World} {g : Nat} {o : Obj} (h : At w g o) (hb : Below w.heap.size w w') : At w' g o := (hb.block g h.lt).trans h
theorem Kp.at_ {lo g : Nat} {wk w : World} {o : Obj} (h : Kp lo wk w) (ha : At wk g o) (hg : lo ≤ g) : At w g o := (h.2 g hg ha.lt).trans ha
theorem At.three {w : World} {g : Nat} {a b c : Value} {t : TypeId} (h : At w g (.cells #[a, b, c] t)) : w.cell? ⟨g, 0, none⟩ = some a ∧ w.cell? ⟨g, 1, none⟩ = some b ∧ w.cell? ⟨g, 2, none⟩ = some c := by
  refine ⟨?_, ?_, ?_⟩ <;> rw [cell_of_row _ _ _ _ _ _ h] <;> simp
theorem At.four {w : World} {g : Nat} {a b c d : Value} {t : TypeId} (h : At w g (.cells #[a, b, c, d] t)) : w.cell? ⟨g, 0, none⟩ = some a ∧ w.cell? ⟨g, 1, none⟩ = some b ∧ w.cell? ⟨g, 2, none⟩ = some c ∧ w.cell? ⟨g, 3, none⟩ = some d := by
  refine ⟨?_, ?_, ?_, ?_⟩ <;> rw [cell_of_row _ _ _ _ _ _ h] <;> simp
theorem At.thaw {w : World} {g : Nat} {cs : Array Value} {t : TypeId} (h : At w g (.cells cs t)) : ∀ j, w.frozen? ⟨g, j, none⟩ = false := fun j => frozen_of_row _ _ j _ _ h
theorem At.drew {w : World} {g : Nat} {o : Obj} (h : At w g o) : At w.drew g o := h

/-- A desk in block g, and what it points to, made behind w. -/
def Made (w : World) (p c : Int) (gs : List Gs) (s6 : Value) (wx : World) : Prop :=
  ∃ g a cap, s6 = .pointer (some ⟨g, 0, none⟩) ∧ Below w.heap.size w wx ∧ w.heap.size ≤ g ∧ At wx g (.cells #[.int .i64 p, .int .i64 c, .slice a gs.length cap] 61) ∧ RG w.heap.size wx (.slice a gs.length cap) gs
theorem RG.other {B D j : Nat} {w : World} {v z : Value} {gs : List Gs} {cs : Array Value} {fr : Nat × Nat} (h : RG B w v gs) (hD : w.heap[D]? = some (.cells cs 61 fr)) : RG B (w.setCell ⟨D, j, none⟩ z) v gs := by
  obtain ⟨a, cap, cap2, h1, h2, h3, h4, h5⟩ := h
  exact ⟨a, cap, cap2, h1, h2, h3, h4.other hD, h5⟩
/-- The block was made behind the call. -/
theorem Made.late {w wC : World} {p c : Int} {gs : List Gs} {a : Option Addr} {cap : Nat} (hb : Below w.heap.size w wC) (hr : RG w.heap.size wC (.slice a gs.length cap) gs) :
    Made w p c gs (.pointer (some ⟨wC.heap.size, 0, none⟩)) (wC.alloc (.cells #[.int .i64 p, .int .i64 c, .slice a gs.length cap] 61)) :=
  ⟨_, a, cap, rfl, hb.alloc hb.size _, hb.size, At.new _ _, hr.below ((Below.refl _ _).alloc (Nat.le_refl _) _)⟩
/-- The block was made ahead of the call. -/
theorem Made.early {w wC : World} {p c : Int} {gs : List Gs} {a : Option Addr} {cap g : Nat} (hb : Below w.heap.size w wC) (hr : RG w.heap.size wC (.slice a gs.length cap) gs) (hg : w.heap.size ≤ g)
    (hz : At wC g (.cells #[.int .i64 0, .int .i64 0, .slice none 0 0] 61)) :
    Made w p c gs (.pointer (some ⟨g, 0, none⟩)) (((wC.setCell ⟨g, 0, none⟩ (.int .i64 p)).setCell ⟨g, 1, none⟩ (.int .i64 c)).setCell ⟨g, 2, none⟩ (.slice a gs.length cap)) := by
  have q1 := heap_setCell_same _ _ 0 _ _ (.int .i64 p) hz
  have q2 := heap_setCell_same _ _ 1 _ _ (.int .i64 c) q1
  have q3 := heap_setCell_same _ _ 2 _ _ (.slice a gs.length cap) q2
  exact ⟨g, a, cap, rfl, ((hb.setCell (p := ⟨g, 0, none⟩) hg _).setCell (p := ⟨g, 1, none⟩) hg _).setCell (p := ⟨g, 2, none⟩) hg _, hg, q3, ((hr.other hz).other q1).other q2⟩
theorem Kp.rg {lo : Nat} {wk w : World} {v : Value} {gs : List Gs} (h : Kp lo wk w) (hr : RG lo wk v gs) : RG lo w v gs := hr.keep h.2
theorem Kp.gl {lo : Nat} {wk w : World} {v : Value} {gs : List Gs} (h : Kp lo wk w) (hr : GL lo wk v gs) : GL lo w v gs := hr.keep h.2
theorem Kp.ints {lo : Nat} {wk w : World} {v : Value} {xs : List Int} (h : Kp lo wk w) (hr : Ints lo wk v xs) : Ints lo w v xs := hr.keep h.2
theorem Kp.owni {lo : Nat} {wk w : World} {v : Value} {xs : List Int} (h : Kp lo wk w) (hr : OwnI lo wk v xs) : OwnI lo w v xs := hr.keep h.2
theorem Kp.owng {lo : Nat} {wk w : World} {v : Value} {gs : List Gs} (h : Kp lo wk w) (hr : OwnG lo wk v gs) : OwnG lo w v gs := hr.keep h.2
theorem below_drw (w : World) : Below w.heap.size w w.drew := (Below.refl _ w).drew

theorem totG_app (a b : List Gs) : totG (a ++ b) = totG a + totG b := by
  have h1 := endK_tot (a ++ b) 0
  have h2 := endK_app a b 0
  rw [h2, endK_tot, endK_tot] at h1
  omega
/-- DeskDo's answer, whatever it is, is a desk of bounded size. -/
theorem DoRes.form (p c : Int) (gs : List Gs) (d : Dd) (h64 : In64G gs) (hx : ∀ y ∈ d.code, In64 y) :
    ∃ p' c' gs' ok, (∀ w e w', DoRes p c gs d w e w' → DoOut p' c' gs' ok w e w') ∧ In64G gs' ∧ totG gs' ≤ totG gs + d.code.length + 2 := by
  by_cases h : deskB p c gs = true
  · refine ⟨p, c, (doneG p c gs d).1, (doneG p c gs d).2, fun w e w' q => ?_, ?_, ?_⟩
    · unfold DoRes at q; rw [if_pos h] at q; exact q
    · unfold doneG
      split
      · split
        · exact fun g hg => h64 g (List.mem_of_mem_take hg)
        · exact h64
      · split
        · exact h64.snoc (x := d.gs) hx
        · exact h64
    · unfold doneG
      split
      · split
        · have := totG_take_le gs (gs.length - 1); simp only; omega
        · simp only; omega
      · split
        · rw [totG_app]; simp [totG, Dd.gs]; omega
        · simp only; omega
  · refine ⟨0, 0, [], false, fun w e w' q => ?_, (fun g hg => by cases hg), by simp [totG]⟩
    unfold DoRes at q; rw [if_neg h] at q; exact q

end Go.Proofs.YtenlngclocfnlaaDoor
