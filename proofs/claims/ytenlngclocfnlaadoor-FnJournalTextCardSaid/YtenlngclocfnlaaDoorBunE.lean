/- The program's worst. -/
import Derived.Test.YtenlngclocfnlaaDoorBunC
import Derived.Test.YtenlngclocfnlaaDoorBunK
import Derived.Carry
import Derived.IntWalk
/- The program's worst. -/
namespace Go.Proofs.YtenlngclocfnlaaDoor
open Go.RowKit
set_option linter.unusedVariables false
set_option maxRecDepth 100000

def cntA (ws : List (Int × Int)) (k : Nat) : Int × Int → Nat := fun a => (ws.take k).count a
theorem cntA_next {ws : List (Int × Int)} {k : Nat} (hk : k < ws.length) : (fun x => if x = ws[k] then cntA ws k ws[k] + 1 else cntA ws k x) = cntA ws (k + 1) := by
  funext x
  unfold cntA
  rw [List.take_succ_eq_append_getElem hk, List.count_append]
  by_cases e : x = ws[k]
  · rw [if_pos e, e]; simp
  · rw [if_neg e, List.count_singleton, if_neg (by simp; exact fun h => e h.symm)]; rfl
theorem goodK {n : Nat} {a : Int × Int} (h : GoodA n a) (hn : n ≤ 3) : GoodK a := ⟨WalkArith.wf_i64 (by obtain ⟨h1, h2, h3, h4⟩ := h; omega), WalkArith.wf_i64 (by obtain ⟨h1, h2, h3, h4⟩ := h; omega)⟩

end Go.Proofs.YtenlngclocfnlaaDoor

/- The program's WorstLot and NextGuess. -/
namespace Go.Proofs.YtenlngclocfnlaaDoor
open Go.RowKit
set_option linter.unusedVariables false
set_option maxRecDepth 100000

theorem bestK_pair (left : List (List Int)) (k : Nat) : bestK left k = ((bestK left k).1, (bestK left k).2) := rfl

end Go.Proofs.YtenlngclocfnlaaDoor

/- DeskOk and DeskNew, of the program and of the reference. -/
namespace Go.Proofs.YtenlngclocfnlaaDoor
open Go.RowKit
set_option linter.unusedVariables false
set_option maxRecDepth 100000

/-- A desk as a value. -/
def dkV (p c : Int) (v : Value) : Value := .agg #[.int .i64 p, .int .i64 c, v]
def deskB (p c : Int) (gs : List Gs) : Bool := decide (0 < (fitL p c gs).length)
theorem deskB_no {p c : Int} {gs : List Gs} (h : guessesB p c gs = false) : deskB p c gs = false := by unfold deskB fitL; rw [h]; rfl
theorem deskB_new (p c : Int) : deskB p c [] = codesB p c := by
  have hg : guessesB p c [] = codesB p c := by unfold guessesB; simp
  unfold deskB fitL
  rw [hg]
  cases h : codesB p c
  · rfl
  · have hp := codesB_iff.1 h
    obtain ⟨⟨h1, h2⟩, h3, h4⟩ := hp
    have e : ((allP p c).filter fun x => fitsB x []) = allP p c := by
      rw [List.filter_eq_self]; intro x _; rfl
    rw [if_pos rfl, e]
    apply decide_eq_true
    unfold allP
    rw [allL_length]
    exact Nat.pow_pos (by omega)

theorem deskOkS_any {B : Nat} (p c : Int) (v : Value) (gs : List Gs) (w : World) (h : GL B w v gs) :
    Calls Tryd.prog 64 #[dkV p c v] w fun e w' => e = .returned (.bool (deskB p c gs)) ∧ Below w.heap.size w w' := by
  have hsh : ∃ a cap, v = .slice a gs.length cap := by obtain ⟨a, cap, _, hv, _⟩ := h; exact ⟨a, cap, hv⟩
  obtain ⟨a, cap, rfl⟩ := hsh
  have hb1 : Below w.heap.size w (w.alloc (.cells #[.int .i64 p, .int .i64 c, .slice a gs.length cap] 61)) := (Below.refl _ _).alloc (Nat.le_refl _) _
  have hG := guessesS_any p c _ gs _ (h.below hb1)
  have hF := fitS_any p c _ gs _ (h.below hb1)
  have HB1 := Lib.hid hb1
  have HDN := Lib.hid (@deskB_no p c gs)
  unfold dkV
  clear hb1 h
  cases hg : guessesB p c gs
  · rw [hg] at hG
    have HR := Lib.hid (HDN.out hg)
    clear hF hg
    go_enter Tryd.func64, Tryd.ntmps64
    go_wp2_with fail
    refine hG.mono ?_
    rintro e w2 ⟨rfl, rfl⟩
    clear hG
    go_wp2
    go_ret
    exact ⟨ret_bool (by rw [HR.out]), HB1.out⟩
  · rw [hg] at hG
    clear hg
    unfold deskB
    obtain ⟨n, hn⟩ : ∃ n, n = (fitL p c gs).length := ⟨_, rfl⟩
    unfold FreshR at hF
    rw [← hn] at hF ⊢
    clear hn
    cases hd : decide (0 < n)
    · have HD := Lib.hid hd
      have hn0 : ¬ (0 < (n : Int)) := by have := of_decide_eq_false hd; omega
      clear hd
      go_enter Tryd.func64, Tryd.ntmps64
      go_wp2_with fail
      refine hG.mono ?_
      rintro e w2 ⟨rfl, rfl⟩
      clear hG
      go_wp2_with fail
      refine hF.mono ?_
      rintro e w2 ⟨b, d, rfl, _, hb2⟩
      have HB2 := Lib.hid (HB1.out.trans (hb2.mono HB1.out.size))
      clear hF hb2
      go_wp2
      go_ret
      exact ⟨ret_bool (by simpa using HD.out), HB2.out⟩
    · have HD := Lib.hid hd
      have hn0 : 0 < (n : Int) := by have := of_decide_eq_true hd; omega
      clear hd
      go_enter Tryd.func64, Tryd.ntmps64
      go_wp2_with fail
      refine hG.mono ?_
      rintro e w2 ⟨rfl, rfl⟩
      clear hG
      go_wp2_with fail
      refine hF.mono ?_
      rintro e w2 ⟨b, d, rfl, _, hb2⟩
      have HB2 := Lib.hid (HB1.out.trans (hb2.mono HB1.out.size))
      clear hF hb2
      go_wp2
      go_ret
      exact ⟨ret_bool (by simpa using HD.out), HB2.out⟩

theorem results_cell_tmp {P : Program} {fn : Func} {p q : Tmp} {ty : TypeId} (h : fn.results = #[.cell p ty, .tmp q]) (tmps : Array Value) (w : World) (g : Nat) (t : TypeId) (cs : Array Value) (fr : Nat × Nat) (d : TypeDesc)
    (hp : tmps.getD p undef = .pointer (some ⟨g, 0, none⟩)) (hg : w.heap[g]? = some (.cells cs t fr))
    (hu : P.underlying ty = some d) (hd : (match d with | .struct _ | .array _ _ => true | _ => false) = true) (hi : (P.info? ty).map (·.size) = some cs.size) :
    (results fn tmps).run P w = .ok (.tuple #[.agg cs, tmps.getD q undef]) w := by
  have hp' : tmps[p]?.getD undef = .pointer (some ⟨g, 0, none⟩) := by simpa using hp
  simp [results, h, hp', asAddr, run_loadVar_row w g t ty cs fr d hg hu hd hi]

/-- What DeskNew returns. -/
def newV (p c : Int) : Value := if codesB p c = true then .tuple #[dkV p c (.slice none 0 0), .bool true] else .tuple #[dkV 0 0 (.slice none 0 0), .bool false]

end Go.Proofs.YtenlngclocfnlaaDoor
