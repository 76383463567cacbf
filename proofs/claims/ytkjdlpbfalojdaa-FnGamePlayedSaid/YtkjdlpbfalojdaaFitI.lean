/- The program's fits. -/
import Derived.Test.YtkjdlpbfalojdaaGsFun
import Derived.Test.YtkjdlpbfalojdaaDelR
import Derived.Test.YtkjdlpbfalojdaaAllI
import Derived.Test.YtkjdlpbfalojdaaFitS
import Derived.Laws.StructEq
import Derived.BigQuiet
import Derived.Deep.QuietTactic
namespace Go.Proofs.Ytkjdlpbfalojdaa
open Go.RowKit Go.Shelf
set_option linter.unusedVariables false
set_option maxRecDepth 100000

/-- A world that has grown out of w. -/
structure GrownC (w : World) where
  val : World
  ok : Below w.heap.size w val
instance (w : World) : Nonempty (GrownC w) := ⟨⟨w, Below.refl _ _⟩⟩
theorem wp_region_grownC {id : Nat} {Q : Exit → Act → World → Prop} {a : Act} {w : World} {l : List Oper} (hm : Try.prog.follows .mixedOrders = true) (hB : Region.lexB .any l.toArray = true)
    (h : wpQuiet Try.prog l.toArray (fun w' => ∃ z : GrownC w, w' = z.val) (fun a' => ∀ w', (∃ z : GrownC w, w' = z.val) → Q .normal a' w') l a) : (Code.region id l.toArray true).wp Try.prog Q a w :=
  wp_region_quiet (C := fun w' => ∃ z : GrownC w, w' = z.val) hm hB ⟨⟨w.drewN 1, (show Drawn w (w.drewN 1) from ⟨1, rfl⟩).below⟩, rfl⟩ (by simpa using h)

theorem neAns (a b c d : Int) (w : World) : (binOp .neq 100 (.agg #[.int .i64 a, .int .i64 b]) (.agg #[.int .i64 c, .int .i64 d])).run Try.prog w = .ok (.bool (!decide (a = c ∧ b = d))) w := by
  have u3 := Try.underlying3
  have a3 := Try.isAgg3
  have z3 := Try.sizeOf3
  have hS : Try.prog.underlying 100 = some (.struct (Try.prog.fieldsOf 100)) := by kernel_rfl
  have hp : Try.prog.stoodInHeld 100 = false := by kernel_rfl
  rw [run_neq_struct, show (10000 : Nat) = 9999 + 1 from rfl, run_equalIn_agg w 9999 100 _ _ hS hp]
  simp only [Program.fieldsOf, Try.underlying100]
  go_simp
  by_cases h1 : a = c <;> by_cases h2 : b = d <;> simp [h1, h2]
theorem gdAns (op : BinOp) (x y : Operand) (a b c d : Int) (w : World) : (eqGuard op 100 x y (.agg #[.int .i64 a, .int .i64 b]) (.agg #[.int .i64 c, .int .i64 d])).run Try.prog w = .ok () w := run_eqGuard_agg w op _ x y _ _ (by kernel_rfl)

set_option maxHeartbeats 2000000 in
theorem misfit_tells {B C : Nat} (p c : Int) (bm : Nat) (u : Value) (x : List Int) (V : Nat → Value) (gs : List Gs) (w : World) (hV : ∀ i (h : i < gs.length), Ints B w (V i) gs[i].code) (hx : Ints C w u x) (hm : w.cell? ⟨bm, 0, none⟩ = some u)
    (hcx : CodeP p c x) (hcg : ∀ i (h : i < gs.length), CodeP p c gs[i].code) :
    TellsG 94 #[.pointer (some ⟨bm, 0, none⟩)] (fun g => !decide (rightZ x g.code = g.right ∧ nearZ x g.code = g.near)) V gs w := by
  refine ⟨enters_of Try.func94 (by kernel_rfl) rfl, fun W hB i hi => ?_⟩
  have hv := (hV i hi).below hB
  have hxw := hx.below hB
  have hcgi := hcg i hi
  obtain ⟨g, hg⟩ : ∃ g, g = gs[i] := ⟨_, rfl⟩
  rw [← hg] at hv hcgi ⊢
  obtain ⟨z, hz⟩ : ∃ z, z = V i := ⟨_, rfl⟩
  rw [← hz] at hv ⊢
  obtain ⟨a, cap, rfl, _⟩ := hv.opened
  obtain ⟨au, cu, rfl, _⟩ := hxw.opened
  obtain ⟨W1, hW1⟩ : ∃ W1, W1 = W.alloc (.cells #[.slice a g.code.length cap, .int .i64 g.right, .int .i64 g.near] 69) := ⟨_, rfl⟩
  have hb1 : Below W.heap.size W W1 := by rw [hW1]; exact (Below.refl _ _).alloc (Nat.le_refl _) _
  have hgr : W1.heap[W.heap.size]? = some (.cells #[.slice a g.code.length cap, .int .i64 g.right, .int .i64 g.near] 69 (0, 0)) := by rw [hW1]; exact heap_alloc_new W _
  have c1 := (Above.of_below (B := 0) hb1).cell (Nat.zero_le _) ((Above.of_below (B := 0) hB).cell (Nat.zero_le _) hm)
  have k0 := cell_of_row _ _ 0 _ _ (0, 0) hgr
  have k1 := cell_of_row _ _ 1 _ _ (0, 0) hgr
  have k2 := cell_of_row _ _ 2 _ _ (0, 0) hgr
  simp only [List.getElem?_toArray, List.getElem?_cons_zero, List.getElem?_cons_succ] at k0 k1 k2
  have HB1 := Lib.hid hb1
  have hlen : x.length = g.code.length := by have h1 := hcx.2.1; have h2 := hcgi.2.1; omega
  have h5x : ∀ y ∈ x, 0 ≤ y ∧ y < 5 := fun y hy => by have h1 := hcx.2.2 y hy; have h2 := hcx.1.2.2; omega
  have h5g : ∀ y ∈ g.code, 0 ≤ y ∧ y < 5 := fun y hy => by have h1 := hcgi.2.2 y hy; have h2 := hcgi.1.2.2; omega
  have hC : ∀ z : GrownC W1, Calls Try.prog 81 #[.slice au x.length cu, .slice a g.code.length cap] z.val (fun e w'' => e = .returned (.agg #[.int .i64 (rightZ x g.code), .int .i64 (nearZ x g.code)]) ∧ ∃ z' : GrownC W1, w'' = z'.val) := fun z =>
    (answerI_any _ _ x g.code z.val ((hxw.below hb1).below z.ok) ((hv.below hb1).below z.ok) hlen (by have := hcx.2.1; have := hcx.1.1; omega) h5x h5g).mono (fun e w'' ⟨he, hb⟩ => ⟨he, ⟨w'', z.ok.trans (hb.mono z.ok.size)⟩, rfl⟩)
  have C1 : ∀ z : GrownC W1, z.val.cell? ⟨bm, 0, none⟩ = some (.slice au x.length cu) := fun z => (Above.of_below (B := 0) z.ok).cell (Nat.zero_le _) c1
  have K0 : ∀ z : GrownC W1, z.val.cell? ⟨W.heap.size, 0, none⟩ = some (.slice a g.code.length cap) := fun z => (Above.of_below (B := 0) z.ok).cell (Nat.zero_le _) k0
  have K1 : ∀ z : GrownC W1, z.val.cell? ⟨W.heap.size, 1, none⟩ = some (.int .i64 g.right) := fun z => (Above.of_below (B := 0) z.ok).cell (Nat.zero_le _) k1
  have K2 : ∀ z : GrownC W1, z.val.cell? ⟨W.heap.size, 2, none⟩ = some (.int .i64 g.near) := fun z => (Above.of_below (B := 0) z.ok).cell (Nat.zero_le _) k2
  show Calls _ _ #[gsV (.slice a g.code.length cap) g, .pointer (some ⟨bm, 0, none⟩)] W fun e W' => e = .returned (.bool (!decide (rightZ x g.code = g.right ∧ nearZ x g.code = g.near))) ∧ Below W.heap.size W W'
  obtain ⟨r, hr⟩ : ∃ r, r = rightZ x g.code := ⟨_, rfl⟩
  obtain ⟨n, hn⟩ : ∃ n, n = nearZ x g.code := ⟨_, rfl⟩
  rw [← hr, ← hn] at hC ⊢
  have hne := fun W => neAns r n g.right g.near W
  have hgd := fun op x y W => gdAns op x y r n g.right g.near W
  obtain ⟨b, hb⟩ : ∃ b, b = (!decide (r = g.right ∧ n = g.near)) := ⟨_, rfl⟩
  rw [← hb] at hne ⊢
  clear hr hn hb hg hz hV hm hB hv hxw hx hcx hcg hcgi c1 k0 k1 k2 hgr hb1 hlen h5x h5g
  unfold gsV
  go_enter Try.func94, Try.ntmps94
  go_wp2
  rw [← hW1]
  clear hW1
  refine wp_region_grownC (by kernel_rfl) (by kernel_rfl) ?_
  repeat (first | go_big_quiet_skip | (go_big_quiet_want; go_big_quiet_op; first | go_big_quiet_on | go_big_quiet_call ((go_at_call 81; exact hC _))))
  refine wpQuiet_nil ?_
  intro w8 hw8
  obtain ⟨z8, hz8⟩ := hw8
  have HB8 := Lib.hid (HB1.out.trans (z8.ok.mono HB1.out.size))
  rw [← hz8] at HB8
  clear hz8
  go_wp2
  go_ret
  exact ⟨rfl, HB8.out⟩

theorem any_misfit (x : List Int) (gs : List Gs) : (!gs.any fun g => !decide (rightZ x g.code = g.right ∧ nearZ x g.code = g.near)) = fitsB x gs := by
  unfold fitsB
  rw [List.not_any_eq_all_not]
  congr 1
  funext g
  simp only [Bool.not_not]

theorem fitsI_any {B C : Nat} (p c : Int) (u v : Value) (x : List Int) (gs : List Gs) (w : World) (hx : Ints C w u x) (h : GL B w v gs) (hcx : CodeP p c x) (hg : guessesB p c gs = true) :
    Calls Try.prog 67 #[u, v] w fun e w' => e = .returned (.bool (fitsB x gs)) ∧ Below w.heap.size w w' := by
  obtain ⟨W2, hW2⟩ : ∃ W2, W2 = w.alloc (.cells #[u] 38) := ⟨_, rfl⟩
  have hb2 : Below w.heap.size w W2 := by rw [hW2]; exact (Below.refl _ _).alloc (Nat.le_refl _) _
  have c1 : W2.cell? ⟨w.heap.size, 0, none⟩ = some u := by rw [hW2]; exact cell_of_one (heap_alloc_new w _)
  have hT := containsG_any v gs W2 (h.below hb2) 94 #[.pointer (some ⟨w.heap.size, 0, none⟩)] (fun g => !decide (rightZ x g.code = g.right ∧ nearZ x g.code = g.near)) (fun V hV => misfit_tells p c _ u x V gs W2 hV (hx.below hb2) c1 hcx (fun i hi => guess_code hg hi))
  obtain ⟨au, cu, rfl, _⟩ := hx.opened
  have hsh : ∃ a cap, v = .slice a gs.length cap := by obtain ⟨a, cap, _, hv, _⟩ := h; exact ⟨a, cap, hv⟩
  obtain ⟨a, cap, rfl⟩ := hsh
  have HB2 := Lib.hid hb2
  have HAN := Lib.hid (any_misfit x gs)
  rw [hW2] at hT
  have HW := Lib.hid hW2
  obtain ⟨r, hr⟩ : ∃ r, r = gs.any fun g => !decide (rightZ x g.code = g.right ∧ nearZ x g.code = g.near) := ⟨_, rfl⟩
  rw [← hr] at hT HAN
  clear hb2 h hx c1 hW2 hr hcx hg
  go_enter Try.func67, Try.ntmps67
  go_wp2_with fail
  refine hT.mono ?_
  rintro e w3 ⟨rfl, hb3⟩
  have HB3 := Lib.hid hb3
  clear hT hb3
  go_wp2
  go_ret
  exact ⟨ret_bool (by rw [← HAN.out]), by have h1 := HB3.out; rw [← HW.out] at h1; exact HB2.out.trans (h1.mono HB2.out.size)⟩

theorem keep_tells {B : Nat} (p c : Int) (bm : Nat) (v : Value) (gs : List Gs) (xss : List (List Int)) (w0 : World) (h : GL B w0 v gs) (hm : w0.cell? ⟨bm, 0, none⟩ = some v) (hx : ∀ x ∈ xss, CodeP p c x) (hg : guessesB p c gs = true) :
    TellsR 66 #[.pointer (some ⟨bm, 0, none⟩)] (fun x => !fitsB x gs) xss w0 := by
  refine ⟨enters_of Try.func66 (by kernel_rfl) rfl, fun W u x hB hu hxm => ?_⟩
  have hcx := hx x hxm
  have hF := fitsI_any p c u v x gs W (hu.toInts (code_in64 hcx)) (h.below hB) hcx hg
  have hm' := (Above.of_below (B := 0) hB).cell (Nat.zero_le _) hm
  obtain ⟨au, cu, rfl, _⟩ := own_shape hu
  have hsh : ∃ a cap, v = .slice a gs.length cap := by obtain ⟨a, cap, _, hv, _⟩ := h; exact ⟨a, cap, hv⟩
  obtain ⟨a, cap, rfl⟩ := hsh
  show Calls _ _ #[.slice au x.length cu, .pointer (some ⟨bm, 0, none⟩)] W fun e W' => e = .returned (.bool (!fitsB x gs)) ∧ Below W.heap.size W W'
  obtain ⟨r, hr⟩ : ∃ r, r = fitsB x gs := ⟨_, rfl⟩
  rw [← hr] at hF ⊢
  clear hr hu hxm hcx hm h hx hg hB
  go_enter Try.func66, Try.ntmps66
  go_wp2_with fail
  refine hF.mono ?_
  rintro e w3 ⟨rfl, hb3⟩
  have HB3 := Lib.hid hb3
  clear hF hb3
  go_wp2
  go_ret
  exact ⟨rfl, HB3.out⟩

set_option maxHeartbeats 1000000 in
theorem fitI_any {B : Nat} (p c : Int) (v : Value) (gs : List Gs) (w : World) (h : GL B w v gs) :
    Calls Try.prog 22 #[.int .i64 p, .int .i64 c, v] w (FreshR (fitL p c gs) w) := by
  obtain ⟨W1, hW1⟩ : ∃ W1, W1 = w.alloc (.cells #[v] 25) := ⟨_, rfl⟩
  have hb1 : Below w.heap.size w W1 := by rw [hW1]; exact (Below.refl _ _).alloc (Nat.le_refl _) _
  have c1 : W1.cell? ⟨w.heap.size, 0, none⟩ = some v := by rw [hW1]; exact cell_of_one (heap_alloc_new w _)
  have hG := guessesI_any p c v gs W1 (h.below hb1)
  have h1 := h.below hb1
  have hsh : ∃ a cap, v = .slice a gs.length cap := by obtain ⟨a, cap, _, hv, _⟩ := h; exact ⟨a, cap, hv⟩
  obtain ⟨a, cap, rfl⟩ := hsh
  have HB1 := Lib.hid hb1
  have HW1 := Lib.hid hW1
  have HC1 := Lib.hid c1
  rw [hW1] at hG c1
  clear h hb1 hW1
  cases hg : guessesB p c gs
  · rw [hg] at hG
    have HR := Lib.hid (show fitL p c gs = [] from by unfold fitL; rw [hg]; rfl)
    clear hg
    go_enter Try.func22, Try.ntmps22
    go_wp2_with fail
    refine hG.mono ?_
    rintro e w2 ⟨rfl, hb2⟩
    rw [← HW1.out] at hb2
    have HB2 := Lib.hid (HB1.out.trans (hb2.mono HB1.out.size))
    clear hG hb2
    go_wp2
    go_ret
    exact ⟨none, 0, by rw [HR.out]; rfl, by rw [HR.out]; exact OwnR.empty _ _, HB2.out⟩
  · rw [hg] at hG
    obtain ⟨n, m, rfl, rfl, hn3, hm5⟩ := own_nat (guesses_codes hg)
    have hcd := guesses_codes hg
    have HR := Lib.hid (show fitL n m gs = (allL m n).filter (fun x => !!fitsB x gs) from by unfold fitL; rw [hg]; simp [allP])
    have HA := Lib.hid (fun W => allRows_any n m W (by unfold codesP at hcd; omega) hn3 hm5)
    have HT := Lib.hid (fun (W : World) (hb : Below W1.heap.size W1 W) => keep_tells n m w.heap.size (.slice a gs.length cap) gs (allL m n) W (h1.below hb) ((Above.of_below (B := 0) hb).cell (Nat.zero_le _) HC1.out) (fun x hx => (allP_mem hcd (x := x)).1 (by simpa [allP] using hx)) hg)
    clear hg hcd h1
    go_enter Try.func22, Try.ntmps22
    go_wp2_with fail
    refine hG.mono ?_
    rintro e w2 ⟨rfl, hb2⟩
    rw [← HW1.out] at hb2
    have hA := HA.out w2
    have hT := HT.out w2 hb2
    have HB2 := Lib.hid (HB1.out.trans (hb2.mono HB1.out.size))
    have HB12 := Lib.hid hb2
    clear hG hb2
    go_wp2_with fail
    refine hA.mono ?_
    rintro e w3 ⟨a3, c3, rfl, ho3, hb3⟩
    have hD := deleteR_any _ _ w2 w3 hb3 ho3.toR _ _ _ hT
    have HZ := Lib.hid HB2.out.size
    clear hA ho3 hb3
    go_wp2_with fail
    refine hD.mono ?_
    rintro e w4 ⟨a4, c4, rfl, ho4, hb4⟩
    rw [← HR.out] at ho4 ⊢
    have HO4 := Lib.hid (ho4.mono HZ.out)
    have HB4 := Lib.hid (HB2.out.trans (hb4.mono HZ.out))
    clear hD ho4 hb4
    go_wp2
    go_ret
    exact ⟨a4, c4, rfl, HO4.out, HB4.out⟩

end Go.Proofs.Ytkjdlpbfalojdaa
