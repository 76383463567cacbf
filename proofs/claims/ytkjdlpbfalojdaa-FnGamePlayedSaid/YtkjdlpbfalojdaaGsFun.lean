/- slices.IndexFunc and slices.ContainsFunc over guesses; the program's GuessesOk and fits. -/
import Derived.Test.YtkjdlpbfalojdaaGs2
import Derived.Test.YtkjdlpbfalojdaaAnsI
namespace Go.Proofs.Ytkjdlpbfalojdaa
open Go.RowKit Go.Shelf
set_option linter.unusedVariables false
set_option maxRecDepth 100000

/-- A guess as a value. -/
def gsV (v : Value) (g : Gs) : Value := .agg #[v, .int .i64 g.right, .int .i64 g.near]

/-- A function value that tells q of each of the guesses, and writes nothing that was there. -/
def TellsG (g : Nat) (lb : Array Value) (q : Gs → Bool) (V : Nat → Value) (gs : List Gs) (w : World) : Prop :=
  (∀ args W, (callFunc g args).run Try.prog W = .ok (.enter g args) W) ∧
  ∀ W, Below w.heap.size w W → ∀ i (h : i < gs.length), Calls Try.prog g (#[gsV (V i) gs[i]] ++ lb) W fun e W' => e = .returned (.bool (q gs[i])) ∧ Below W.heap.size W W'

def atG (gs : List Gs) (i : Nat) : Gs := gs.getD i ⟨[], 0, 0⟩
theorem atG_get {gs : List Gs} {i : Nat} (h : i < gs.length) : atG gs i = gs[i] := by simp [atG, List.getD, List.getElem?_eq_getElem h]

set_option maxHeartbeats 1000000 in
theorem indexG_any {B : Nat} (a : Option Addr) (cap : Nat) (V : Nat → Value) (gs : List Gs) (w : World) (hcap : gs.length ≤ cap) (hmax : cap ≤ 9223372036854775807)
    (hcells : 0 < gs.length → ∃ b off, a = some ⟨b, off, none⟩ ∧ B ≤ b ∧ ∀ i (h : i < gs.length),
      w.cell? ⟨b, off + i * 3, none⟩ = some (V i) ∧ w.cell? ⟨b, off + i * 3 + 1, none⟩ = some (.int .i64 gs[i].right) ∧ w.cell? ⟨b, off + i * 3 + 2, none⟩ = some (.int .i64 gs[i].near))
    (g : Nat) (lb : Array Value) (q : Gs → Bool) (hf : TellsG g lb q V gs w) (hsh : ∀ i, i < gs.length → ∃ a n c, V i = .slice a n c) :
    Calls Try.prog 103 #[.slice a gs.length cap, .func (.func g) #[] lb] w fun e w' => e = .returned (.int .i64 (idxN (fun i => q (atG gs i)) gs.length)) ∧ Below w.heap.size w w' := by
  obtain ⟨eg, hf⟩ := hf
  go_enter Try.func103, Try.ntmps103
  go_wp2
  go_loopw [8] (fun i wr => ∃ k : Nat, k ≤ gs.length ∧ i = .int .i64 k ∧ (∀ j, j < k → (fun i => q (atG gs i)) j = false) ∧ Below w.heap.size w wr) (fun i _ => gs.length - (intOf i).toNat)
  case atStart => exact ⟨0, Nat.zero_le _, rfl, by omega, Below.refl _ _⟩
  case round =>
    obtain ⟨k, hk, rfl, hn, hb⟩ := hrel
    have HN := Lib.hid hn
    have HB := Lib.hid hb
    by_cases hlt : k < gs.length
    · obtain ⟨b, off, rfl, _, hc⟩ := hcells (by omega)
      obtain ⟨c1, c2, c3⟩ := hc k hlt
      have d1 := (Above.of_below (B := 0) hb).cell (Nat.zero_le _) c1
      have d2 := (Above.of_below (B := 0) hb).cell (Nat.zero_le _) c2
      have d3 := (Above.of_below (B := 0) hb).cell (Nat.zero_le _) c3
      have hF := hf wr hb k hlt
      have hq : (fun i => q (atG gs i)) k = q gs[k] := by simp only [atG_get hlt]
      obtain ⟨av, nv, cv, hv⟩ := hsh k hlt
      rw [hv] at d1 hF
      obtain ⟨u, hu⟩ : ∃ u, u = gs[k] := ⟨_, rfl⟩
      rw [← hu] at d2 d3 hF hq
      unfold gsV at hF
      have hi0 : (0 : Int) ≤ (k : Int) := by omega
      have hi1 : (k : Int) < (gs.length : Int) := by omega
      clear hc hcells hf hn hb hu c1 c2 c3 hsh hv
      cases hp : q u
      · rw [hp] at hF hq
        have HP := Lib.hid hq
        clear hp hq
        go_wp2_with fail
        refine hF.mono ?_
        rintro e w2 ⟨rfl, hb2⟩
        have HB2 := Lib.hid hb2
        clear hb2
        go_wp2
        go_roundw
        case rel => exact ⟨k + 1, by omega, by go_num, upto_step HN.out HP.out, HB.out.trans (HB2.out.mono HB.out.size)⟩
        case measure => simp [intOf]; omega
      · rw [hp] at hF hq
        have HP := Lib.hid hq
        clear hp hq
        go_wp2_with fail
        refine hF.mono ?_
        rintro e w2 ⟨rfl, hb2⟩
        have HB2 := Lib.hid hb2
        clear hb2
        go_wp2
        go_ret
        exact ⟨ret_int (by rw [idxN_hit hlt HN.out HP.out]), HB.out.trans (HB2.out.mono HB.out.size)⟩
    · have e : k = gs.length := by omega
      have HE := Lib.hid e
      clear e hn hb hf hcells hsh
      go_wp2
      go_ret
      exact ⟨ret_int (by rw [idxN_none (by rw [← HE.out]; exact HN.out)]), HB.out⟩

theorem containsG_any {B : Nat} (v : Value) (gs : List Gs) (w : World) (h : GL B w v gs) (g : Nat) (lb : Array Value) (q : Gs → Bool)
    (hf : ∀ V : Nat → Value, (∀ i (h : i < gs.length), Ints B w (V i) gs[i].code) → TellsG g lb q V gs w) :
    Calls Try.prog 90 #[v, .func (.func g) #[] lb] w fun e w' => e = .returned (.bool (gs.any q)) ∧ Below w.heap.size w w' := by
  obtain ⟨a, cap, V, rfl, hcap, hmax, hcells, hV⟩ := h
  have hI := indexG_any a cap V gs w hcap hmax hcells g lb q (hf V hV) (fun i hi => by obtain ⟨a, c, e, _⟩ := (hV i hi).opened; exact ⟨a, _, c, e⟩)
  have hE := Lib.hid (idxN_nonneg (fun i => q (atG gs i)) gs.length)
  have hA := Lib.hid (anyN_getD q gs ⟨[], 0, 0⟩)
  obtain ⟨z, hz⟩ : ∃ z, z = idxN (fun i => q (atG gs i)) gs.length := ⟨_, rfl⟩
  rw [← hz] at hI
  have HZ := Lib.hid hz
  clear hf hcells hV hz
  go_enter Try.func90, Try.ntmps90
  go_wp2_with fail
  refine hI.mono ?_
  rintro e w2 ⟨rfl, hb2⟩
  have HB2 := Lib.hid hb2
  clear hb2
  go_wp2
  go_ret
  exact ⟨ret_bool (by rw [← hA.out, HZ.out]; exact hE.out), HB2.out⟩

/-- 'wrong': a guess is no right one. -/
theorem wrong_tells {B : Nat} (p c : Int) (bm bl : Nat) (V : Nat → Value) (gs : List Gs) (w : World) (hV : ∀ i (h : i < gs.length), Ints B w (V i) gs[i].code) (hm : w.cell? ⟨bm, 0, none⟩ = some (.int .i64 p)) (hl : w.cell? ⟨bl, 0, none⟩ = some (.int .i64 c)) :
    TellsG 89 #[.pointer (some ⟨bm, 0, none⟩), .pointer (some ⟨bl, 0, none⟩)] (fun g => !guessOkB p c g) V gs w := by
  refine ⟨enters_of Try.func89 (by kernel_rfl) rfl, fun W hB i hi => ?_⟩
  have hv := (hV i hi).below hB
  obtain ⟨g, hg⟩ : ∃ g, g = gs[i] := ⟨_, rfl⟩
  rw [← hg] at hv ⊢
  obtain ⟨u, hu⟩ : ∃ u, u = V i := ⟨_, rfl⟩
  rw [← hu] at hv ⊢
  obtain ⟨a, cap, rfl, _⟩ := hv.opened
  have hb1 : Below W.heap.size W (W.alloc (.cells #[.slice a g.code.length cap, .int .i64 g.right, .int .i64 g.near] 69)) := (Below.refl _ _).alloc (Nat.le_refl _) _
  have c1 := (Above.of_below (B := 0) hb1).cell (Nat.zero_le _) ((Above.of_below (B := 0) hB).cell (Nat.zero_le _) hm)
  have c2 := (Above.of_below (B := 0) hb1).cell (Nat.zero_le _) ((Above.of_below (B := 0) hB).cell (Nat.zero_le _) hl)
  have hO := codeOkI_any p c _ g.code _ (hv.below hb1)
  have HB1 := Lib.hid hb1
  have HY := Lib.hid (@guessOk_yes p c g)
  have HN1 := Lib.hid (@guessOk_code p c g)
  have HN2 := Lib.hid (@guessOk_right p c g)
  have HN3 := Lib.hid (@guessOk_near p c g)
  clear hg hu hV hm hl hB hv hb1
  show Calls _ _ #[gsV (.slice a g.code.length cap) g, .pointer (some ⟨bm, 0, none⟩), .pointer (some ⟨bl, 0, none⟩)] _ _
  unfold gsV
  have fin : ∀ (b : Bool) (W' : World), guessOkB p c g = !b → Below W.heap.size W W' → Ending.returned (.bool b) = .returned (.bool (!guessOkB p c g)) ∧ Below W.heap.size W W' := fun b W' e hb => ⟨by rw [e, Bool.not_not], hb⟩
  have FIN := Lib.hid fin
  clear fin
  cases ho : codeOkB p c g.code
  · rw [ho] at hO
    have HR := Lib.hid (HN1.out ho)
    clear ho
    go_enter Try.func89, Try.ntmps89
    go_wp2_with fail
    refine hO.mono ?_
    rintro e w2 ⟨rfl, hb2⟩
    have HB2 := Lib.hid (HB1.out.trans (hb2.mono HB1.out.size))
    clear hO hb2
    go_wp2
    go_ret
    exact FIN.out true _ HR.out HB2.out
  · rw [ho] at hO
    have hz : (W.alloc (.cells #[.slice a g.code.length cap, .int .i64 g.right, .int .i64 g.near] 69)).heap[W.heap.size]? = some (.cells #[.slice a g.code.length cap, .int .i64 g.right, .int .i64 g.near] 69 (0, 0)) := heap_alloc_new W _
    have HZ := Lib.hid hz
    clear hz
    by_cases hr : g.right < 0
    · have HR := Lib.hid (HN2.out hr)
      clear ho
      go_enter Try.func89, Try.ntmps89
      go_wp2_with fail
      refine hO.mono ?_
      rintro e w2 ⟨rfl, hb2⟩
      have k1 := cell_of_row _ _ 1 _ _ (0, 0) ((hb2.block W.heap.size (by simp)).trans HZ.out)
      simp only [List.getElem?_toArray, List.getElem?_cons_zero, List.getElem?_cons_succ] at k1
      have HB2 := Lib.hid (HB1.out.trans (hb2.mono HB1.out.size))
      clear hO hb2
      go_wp2
      go_ret
      exact FIN.out true _ HR.out HB2.out
    · by_cases hn : g.near < 0
      · have HR := Lib.hid (HN3.out hn)
        clear ho
        go_enter Try.func89, Try.ntmps89
        go_wp2_with fail
        refine hO.mono ?_
        rintro e w2 ⟨rfl, hb2⟩
        have k1 := cell_of_row _ _ 1 _ _ (0, 0) ((hb2.block W.heap.size (by simp)).trans HZ.out)
        have k2 := cell_of_row _ _ 2 _ _ (0, 0) ((hb2.block W.heap.size (by simp)).trans HZ.out)
        simp only [List.getElem?_toArray, List.getElem?_cons_zero, List.getElem?_cons_succ] at k1 k2
        have HB2 := Lib.hid (HB1.out.trans (hb2.mono HB1.out.size))
        clear hO hb2
        go_wp2
        go_ret
        exact FIN.out true _ HR.out HB2.out
      · have HR := Lib.hid (HY.out ho hr hn)
        have hr2 : decide (g.right < 0) = false := decide_eq_false hr
        have hn2 : decide (g.near < 0) = false := decide_eq_false hn
        clear ho
        go_enter Try.func89, Try.ntmps89
        go_wp2_with fail
        refine hO.mono ?_
        rintro e w2 ⟨rfl, hb2⟩
        have k1 := cell_of_row _ _ 1 _ _ (0, 0) ((hb2.block W.heap.size (by simp)).trans HZ.out)
        have k2 := cell_of_row _ _ 2 _ _ (0, 0) ((hb2.block W.heap.size (by simp)).trans HZ.out)
        simp only [List.getElem?_toArray, List.getElem?_cons_zero, List.getElem?_cons_succ] at k1 k2
        have HB2 := Lib.hid (HB1.out.trans (hb2.mono HB1.out.size))
        clear hO hb2
        go_wp2
        go_ret
        exact FIN.out false _ HR.out HB2.out

theorem any_wrong (p c : Int) (gs : List Gs) : (!gs.any fun g => !guessOkB p c g) = gs.all (guessOkB p c) := by
  rw [List.not_any_eq_all_not]
  simp

set_option maxHeartbeats 1000000 in
theorem guessesI_any {B : Nat} (p c : Int) (v : Value) (gs : List Gs) (w : World) (h : GL B w v gs) :
    Calls Try.prog 63 #[.int .i64 p, .int .i64 c, v] w fun e w' => e = .returned (.bool (guessesB p c gs)) ∧ Below w.heap.size w w' := by
  obtain ⟨W2, hW2⟩ : ∃ W2, W2 = (w.alloc (.cells #[.int .i64 p] 3)).alloc (.cells #[.int .i64 c] 3) := ⟨_, rfl⟩
  have hb2 : Below w.heap.size w W2 := by rw [hW2]; exact ((Below.refl _ _).alloc (Nat.le_refl _) _).alloc (by simp) _
  have hC := codesI_any p c W2
  have hsh : ∃ a cap, v = .slice a gs.length cap ∧ gs.length ≤ cap ∧ cap ≤ 9223372036854775807 := by obtain ⟨a, cap, _, hv, h1, h2, _⟩ := h; exact ⟨a, cap, hv, h1, h2⟩
  have c1 : W2.cell? ⟨w.heap.size, 0, none⟩ = some (.int .i64 p) := by rw [hW2]; exact cell_of_one ((heap_alloc_old _ _ (by simp)).trans (heap_alloc_new w _))
  have c2 : W2.cell? ⟨w.heap.size + 1, 0, none⟩ = some (.int .i64 c) := by rw [hW2]; have q := @Go.heap_alloc_new (w.alloc (.cells #[.int .i64 p] 3)) (.cells #[.int .i64 c] 3); rw [World.size_alloc] at q; exact cell_of_one q
  have hT := containsG_any v gs W2 (h.below hb2) 89 #[.pointer (some ⟨w.heap.size, 0, none⟩), .pointer (some ⟨w.heap.size + 1, 0, none⟩)] (fun g => !guessOkB p c g) (fun V hV => wrong_tells p c _ _ V gs W2 hV c1 c2)
  obtain ⟨a, cap, rfl, hcap, hmax⟩ := hsh
  have HB2 := Lib.hid hb2
  have HAN := Lib.hid (any_wrong p c gs)
  rw [hW2] at hC hT
  have HW := Lib.hid hW2
  clear hb2 h c1 c2 hW2
  cases hc : codesB p c
  · rw [hc] at hC
    have HR := Lib.hid (show guessesB p c gs = false from by unfold guessesB; rw [hc]; rfl)
    clear hc hT
    go_enter Try.func63, Try.ntmps63
    go_wp2_with fail
    refine hC.mono ?_
    rintro e w2 ⟨rfl, rfl⟩
    clear hC
    go_wp2
    go_ret
    exact ⟨ret_bool (by rw [HR.out]), by have := HB2.out; rw [HW.out] at this; exact this⟩
  · rw [hc] at hC
    by_cases hl : gs.length ≤ 9
    · have HR := Lib.hid (show guessesB p c gs = gs.all (guessOkB p c) from by unfold guessesB; rw [hc, decide_eq_true hl]; rfl)
      have hl2 : decide ((gs.length : Int) ≤ 9) = true := decide_eq_true (by omega)
      obtain ⟨r, hr⟩ : ∃ r, r = gs.any fun g => !guessOkB p c g := ⟨_, rfl⟩
      rw [← hr] at hT HAN
      clear hc hr hl
      go_enter Try.func63, Try.ntmps63
      go_wp2_with fail
      refine hC.mono ?_
      rintro e w2 ⟨rfl, rfl⟩
      clear hC
      go_wp2_with fail
      refine hT.mono ?_
      rintro e w3 ⟨rfl, hb3⟩
      have HB3 := Lib.hid hb3
      clear hT hb3
      go_wp2
      go_ret
      exact ⟨ret_bool (by rw [HR.out, ← HAN.out]), by have h1 := HB3.out; rw [← HW.out] at h1; exact HB2.out.trans (h1.mono HB2.out.size)⟩
    · have HR := Lib.hid (show guessesB p c gs = false from by unfold guessesB; rw [decide_eq_false hl]; simp)
      have hl2 : decide ((gs.length : Int) ≤ 9) = false := decide_eq_false (by omega)
      clear hc hT
      go_enter Try.func63, Try.ntmps63
      go_wp2_with fail
      refine hC.mono ?_
      rintro e w2 ⟨rfl, rfl⟩
      clear hC
      go_wp2
      go_ret
      exact ⟨ret_bool (by rw [HR.out]), by have := HB2.out; rw [HW.out] at this; exact this⟩

end Go.Proofs.Ytkjdlpbfalojdaa
