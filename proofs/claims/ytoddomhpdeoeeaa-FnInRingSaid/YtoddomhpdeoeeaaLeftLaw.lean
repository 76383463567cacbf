/- The walk of FnLeftAfter. -/
import Derived.Test.YtoddomhpdeoeeaaSurelyLaw
import Derived.BigQuiet
import Derived.Deep.Cut
namespace Go.Proofs.Ytoddomhpdeoeeaa
open Go.RowKit
set_option linter.unusedVariables false

/-- 'append(row, ys...)'. -/
theorem wpList_push_ints (w : World) {ops : Array Oper} {rest : List Oper} {o : Oper} {a : Act} {Q : Exit → Act → World → Prop}
    (hg : o.guard = none) (s x : Operand) (hop : o.op = Op.call { callee := Callee.builtin Builtin.append, args := #[s, x], argTypes := #[23, 23] })
    (B : Nat) (v : Value) (xs : List Int) (hs : a.eval s = v) (hown : OwnI B w v xs) (ad : Addr) (c : Nat) (ys : List Int) (hx : a.eval x = .slice (some ad) ys.length c) (hc : ∀ i (h : i < ys.length), w.cell? (ad.add i) = some (.int .i64 ys[i]))
    (hlen : xs.length + ys.length ≤ 1099511627776) (hB : B ≤ w.heap.size)
    (hK : ∀ a' cap' w', OwnI B w' (.slice a' (xs.length + ys.length) cap') (xs ++ ys) → w.grownBy w' v.ownBlock → wpList Try.prog ops Q rest (a.put o.dst (.slice a' (xs.length + ys.length) cap')) w') :
    wpList Try.prog ops Q (o :: rest) a w := by
  obtain ⟨i0, hi, hz0, hz1, hz2⟩ := info_parts infoInt
  refine wpList_append_own w hg s x 23 hop B 3 i0 (.int .i64 0) 1 8 Try.underlying23 hi hz0 hz1 hz2 rfl (by decide) v xs.length (ints xs) hs hown ad ys.length c (ints ys) hx (by simp) ?_ (by intro u hu; obtain ⟨y, _, rfl⟩ := List.mem_map.1 hu; simp [Value.oneCell']) (by unfold maxLen; omega) (by omega) hB ?_
  · intro j u hj
    have hlt : j < ys.length := by
      have := (List.getElem?_eq_some_iff.1 hj).1
      simpa using this
    have : (ints ys)[j]? = some (.int .i64 ys[j]) := by rw [List.getElem?_eq_getElem (by simpa using hlt)]; simp
    rw [this] at hj
    injection hj with hj
    subst hj
    exact hc j hlt
  · intro v' w' h1 h2 _
    obtain ⟨a', cap', rfl, _⟩ := own_shape h1
    refine hK a' cap' w' ?_ h2
    unfold OwnI
    rw [ints_append]
    simpa [ints] using h1

/-- A world that has grown out of w. -/
structure Grown (w : World) where
  val : World
  ok : Below w.heap.size w val
instance (w : World) : Nonempty (Grown w) := ⟨⟨w, Below.refl _ _⟩⟩
/-- A region that draws its order, whose callees at most make memory: one walk serves every order. -/
theorem wp_region_grown {id : Nat} {Q : Exit → Act → World → Prop} {a : Act} {w : World} {l : List Oper} (hm : Try.prog.follows .mixedOrders = true) (hB : Region.lexB .any l.toArray = true)
    (h : wpQuiet Try.prog l.toArray (fun w' => ∃ z : Grown w, w' = z.val) (fun a' => ∀ w', (∃ z : Grown w, w' = z.val) → Q .normal a' w') l a) : (Code.region id l.toArray true).wp Try.prog Q a w :=
  wp_region_quiet (C := fun w' => ∃ z : Grown w, w' = z.val) hm hB ⟨⟨w.drewN 1, (show Drawn w (w.drewN 1) from ⟨1, rfl⟩).below⟩, rfl⟩ (by simpa using h)

theorem leftR_pos {xss : List (List Int)} {ys : List Int} (h : ¬ leftR xss ys < 0) : daysB xss ys = true ∧ leftR xss ys = (leftN xss ys ys.length : Nat) := by
  unfold leftR at h ⊢
  split at h
  · rename_i hd; exact ⟨hd, if_pos hd⟩
  · omega
theorem leftR_neg {xss : List (List Int)} {ys : List Int} (h : leftR xss ys < 0) : leftR xss ys = -1 := by
  unfold leftR at h ⊢
  split at h
  · exfalso; omega
  · rename_i hd; rw [if_neg hd]

set_option maxHeartbeats 2000000 in
theorem FnLeftAfter_walk (v : Value) (bs : List Int) (w : World) (h : Bytes 0 w v bs) :
    Calls Try.prog 6 #[v] w fun e w' => e = .returned (.bool true) ∧ Below w.heap.size w w' := by
  obtain ⟨a0, cap0, rfl, hc1, hc2, hc3⟩ := id h.1
  rw [List.length_map] at h ⊢
  clear hc1 hc2 hc3
  by_cases hs : 1048576 < bs.length
  · go_enter Try.func6, Try.ntmps6
    go_wp2
    go_ret
    exact ⟨rfl, Below.refl _ _⟩
  · go_enter Try.func6, Try.ntmps6
    go_wp2_with fail
    refine (drawLeftAfter_any _ _ _ h).mono ?_
    rintro e w1 ⟨xss, a1, c1, ys, a2, c2, rfl, hx1, hl6, hy1, hyl, hb1⟩
    clear h
    go_wp2_with fail
    refine (implLeftAfter_any _ _ _ _ _ hx1 hy1).mono ?_
    rintro e w2 ⟨rfl, hb2⟩
    have hx2 := hx1.below hb2
    have hy2 := hy1.below hb2
    have hbb2 := hb1.trans (hb2.mono hb1.size)
    clear hx1 hy1 hb1 hb2
    go_wp2_with fail
    refine (specLeftAfter_any _ _ _ _ _ hx2 hy2).mono ?_
    rintro e w3 ⟨rfl, hq3⟩
    have hD3 : Drawn w2 w3 := hq3
    have hx3 := hx2.below hD3.below
    have hy3 := hy2.below hD3.below
    have hbb3 := hbb2.trans (hD3.below.mono hbb2.size)
    clear hq3 hx2 hy2 hbb2 hD3
    by_cases hn : leftR xss ys < 0
    · have he := leftR_neg hn
      have hself : ((-1 : Int) != -1) = false := rfl
      rw [he]
      clear hn he hx3 hy3
      go_wp2_with fail
      refine (alive_any _).mono ?_
      rintro e w7 ⟨rfl, rfl⟩
      go_wp2
      go_ret
      exact ⟨rfl, hbb3⟩
    · obtain ⟨hd, he⟩ := leftR_pos hn
      obtain ⟨hbe, _, _⟩ := daysB_spec hd
      have hn1 := (besideB_spec hbe).1.1
      obtain ⟨N, hN⟩ : ∃ N, N = leftN xss ys ys.length := ⟨_, rfl⟩
      rw [he, ← hN]
      have hself : ((N : Int) != (N : Int)) = false := by simp
      have hNpos : ¬ ((N : Int) < 0) := by omega
      have HN := Lib.hid hN
      have HD := Lib.hid hd
      have HBE := Lib.hid hbe
      clear hn he hN hd hbe
      by_cases h16 : ys.length = 16
      · have h16' : ((ys.length : Int) == 16) = true := by rw [beq_iff_eq]; omega
        clear hx3 hy3 h16
        go_wp2
        go_ret
        exact ⟨rfl, hbb3⟩
      · have h16' : ((ys.length : Int) == 16) = false := by rw [beq_eq_false_iff_ne]; omega
        have hlt : ys.length < 16 := by have := (daysB_spec HD.out).2.1; omega
        have hin0 : inB 0 0 ((xss.length : Int) - 1) = true := by simp [inB]; omega
        have HNext := Lib.hid (left_append HD.out hlt hin0)
        have hyin := hy3.2
        obtain ⟨a2', c2', he2, _, _, hyc⟩ := hy3.opened
        injection he2 with e1 _ e3
        subst e1 e3
        have HX := Lib.hid hx3
        have HB3 := Lib.hid hbb3
        clear h16 hin0 hx3 hy3 hbb3
        have hlit := OwnI.lit w3
        have hst := left_start (n := xss.length) (by omega)
        obtain ⟨N2, hN2⟩ : ∃ N2, N2 = afterN xss (leftN xss ys ys.length) 0 := ⟨_, rfl⟩
        rw [← hN2] at HNext
        have HN2 := Lib.hid (show N = 0 → N2 = 0 from fun h0 => by rw [hN2, ← HN.out, h0, after_none])
        have HNil := Lib.hid (left_nil HBE.out)
        obtain ⟨P, hP⟩ : ∃ P, P = 2 ^ xss.length - 1 := ⟨_, rfl⟩
        rw [← hP] at hst HNil
        have hin5 : ∀ y ∈ ys ++ [0], In64 y := fun y hy => by
          rcases List.mem_append.1 hy with h | h
          · exact hyin y h
          · simp at h; rw [h]; unfold In64; omega
        have HIN5 := Lib.hid hin5
        have HST := Lib.hid hst
        clear hN2 hP hin5 hyin hst
        go_upto_region 11 with fail
        go_cut [6] from 7 (fun s6 wx => s6 = .int .i64 (N2 : Int) ∧ Below w3.heap.size w3 wx)
        case first =>
          cases a2 with
          | none =>
            have hy0 : ys.length = 0 := by
              apply Classical.byContradiction
              intro hne
              obtain ⟨b, off, hh, _⟩ := hyc (by omega)
              cases hh
            have hys : ys = [] := List.eq_nil_of_length_eq_zero hy0
            subst hys
            clear hyc hy0
            have hown : OwnI w3.heap.size ((w3.alloc (.cells #[] 3)).alloc (.cells #[.int .i64 0] 3)) (.slice (some ⟨w3.heap.size, 0, none⟩) 0 0) [] := World.ownsRow.alloc hlit _
            go_wp2_with (at_builtin; refine wpList_push_int _ rfl (.tmp 36) (.tmp 37) rfl w3.heap.size (.slice (some ⟨w3.heap.size, 0, none⟩) 0 0) [] rfl hown ⟨w3.heap.size + 1, 0, none⟩ 1 0 rfl ?_ ?_ ?_ ?_)
            · exact cell_new (w3.alloc (.cells #[] 3)) _ _ _ (by simp)
            · simp
            · simp; omega
            · intro a5 c5 w5 ho5 hg5
              have hb5 : Below w3.heap.size w3 w5 := (((Below.refl w3.heap.size w3).alloc (Nat.le_refl _) _).alloc (by simp) _).grown hg5 (by simp; omega) (fun j hj => by cases hj; exact Nat.le_refl _)
              have hy5 : Ints w3.heap.size w5 (.slice a5 1 c5) [0] := OwnI.toInts (xs := [0]) ho5 HIN5.out
              clear ho5 hg5 hown hlit
              have hx5 := HX.out.below hb5
              go_wp2_with fail
              refine (implLeftAfter_any _ _ _ _ _ hx5 hy5).mono ?_
              rintro e w6 ⟨rfl, hb6⟩
              rw [show leftR xss [0] = (N2 : Nat) from HNext.out]
              have HB6 := Lib.hid (hb5.trans (hb6.mono hb5.size))
              clear hx5 hy5 hb5 hb6
              go_wp2
              go_meet
              case rel => exact ⟨rfl, HB6.out⟩
          | some ad =>
            have hcells : ∀ i (h : i < ys.length), (w3.alloc (.cells #[] 3)).cell? (ad.add i) = some (.int .i64 ys[i]) := fun i hi => by
              obtain ⟨b, off, hh, _, hc⟩ := hyc (by omega)
              injection hh with hh
              subst hh
              have hci := hc i hi
              have e : (⟨b, off, none⟩ : Addr).add i = ⟨b, off + i, none⟩ := by
                by_cases h0 : i = 0
                · subst h0; simp [Addr.add]
                · simp [Addr.add, h0]
              rw [e, World.cell?_of_block (w := w3) (Below.heap_alloc w3 _ b (World.block_lt_of_cell? w3 _ hci))]
              exact hci
            clear hyc
            go_wp2_with (first
              | (at_builtin; refine wpList_push_ints _ rfl (.tmp 34) (.tmp 35) rfl w3.heap.size (.slice (some ⟨w3.heap.size, 0, none⟩) 0 0) [] rfl hlit ad c2 ys rfl hcells (by simp; omega) (by simp) ?_; intro a4 c4 w4 ho4 hg4; rw [List.nil_append] at ho4; (try rw [List.length_nil, Nat.zero_add] at ho4); (try rw [List.length_nil, Nat.zero_add]); have HO4 := Lib.hid ho4; have HG4 := Lib.hid hg4; have hz4 := hg4.size; clear ho4 hg4)
              | (at_builtin; refine wpList_push_int _ rfl (.tmp 36) (.tmp 37) rfl w3.heap.size (.slice a4 ys.length c4) ys rfl (World.ownsRow.alloc HO4.out _) ⟨w4.heap.size, 0, none⟩ 1 0 rfl ?_ ?_ ?_ ?_))
            · exact cell_of_one (heap_alloc_new w4 _)
            · omega
            · simp at hz4 ⊢; omega
            · intro a5 c5 w5 ho5 hg5
              have hb4 : Below w3.heap.size w3 w4 := ((Below.refl w3.heap.size w3).alloc (Nat.le_refl _) _).grown HG4.out (by simp <;> omega) (fun j hj => by cases hj; exact Nat.le_refl _)
              have hb5 : Below w3.heap.size w3 w5 := (hb4.alloc hb4.size _).grown hg5 (by have := hb4.size; simp <;> omega) (fun j hj => (World.ownsRow.lt HO4.out j hj).1)
              have hy5 : Ints w3.heap.size w5 (.slice a5 (ys.length + 1) c5) (ys ++ [0]) := by have h9 := OwnI.toInts ho5 HIN5.out; exact h9
              clear ho5 hg5 hlit hb4
              have hx5 := HX.out.below hb5
              go_wp2_with fail
              refine (implLeftAfter_any _ _ _ _ _ hx5 hy5).mono ?_
              rintro e w6 ⟨rfl, hb6⟩
              rw [HNext.out]
              have HB6 := Lib.hid (hb5.trans (hb6.mono hb5.size))
              clear hx5 hy5 hb5 hb6
              go_wp2
              go_meet
              case rel => exact ⟨rfl, HB6.out⟩
        case rest =>
          obtain ⟨rfl, hb6⟩ := hcut
          have hC : ∀ z : Grown wc, Calls Try.prog 28 #[.slice a1 xss.length c1, .slice none 0 0] z.val (fun e w'' => e = .returned (.int .i64 (P : Int)) ∧ ∃ z' : Grown wc, w'' = z'.val) := fun z =>
            (implLeftAfter_any (.slice a1 xss.length c1) (.slice none 0 0) xss [] z.val (HX.out.below (hb6.trans (z.ok.mono hb6.size))) (Ints.nil 0 z.val)).mono (fun e w'' ⟨he, hb⟩ => ⟨by rw [he, HNil.out], ⟨w'', z.ok.trans (hb.mono z.ok.size)⟩, rfl⟩)
          have HB6 := Lib.hid (HB3.out.trans (hb6.mono HB3.out.size))
          have hst1 : IntKind.i64.wrap (IntKind.i64.wrap (2 ^ xss.length) - 1) = (P : Int) := by
            have h9 := HST.out
            unfold wrap64 at h9
            rw [IntKind.wrap_i64, IntKind.wrap_i64]
            exact h9
          have hPQ : ((P : Int) == wrap64 (wrap64 ((2 : Int) ^ min xss.length 64) - 1)) = true := by
            rw [show min xss.length 64 = xss.length by omega, HST.out]; simp
          obtain ⟨z, hz⟩ : ∃ z : Int, z = (N : Int) := ⟨_, rfl⟩
          obtain ⟨z2, hz2⟩ : ∃ z2 : Int, z2 = (N2 : Int) := ⟨_, rfl⟩
          rw [← hz, ← hz2]
          have hcase : (z = 0 ∧ z2 = 0) ∨ (0 < z ∧ 0 ≤ z2) := by
            by_cases hN0 : N = 0
            · have := HN2.out hN0; omega
            · omega
          clear hz hz2 hself hNpos hlit hyc hb6 HNil HST HIN5 HN HN2 HNext HX HB3 HD HBE
          have HHI := Lib.hid (And.intro hl6 (And.intro hyl (And.intro h16' hlt)))
          clear hl6 hyl h16' hlt
          rcases hcase with ⟨rfl, rfl⟩ | ⟨hz, hz2⟩
          · go_wp2
            refine wp_region_grown (by kernel_rfl) (by kernel_rfl) ?_
            repeat (first | go_big_quiet_skip | (go_big_quiet_want; go_big_quiet_op; first | go_big_quiet_on | go_big_quiet_call ((go_at_call 28; exact hC _))))
            refine wpQuiet_nil ?_
            intro w8 hw8
            obtain ⟨z8, hz8⟩ := hw8
            have HB8 := Lib.hid (HB6.out.trans (z8.ok.mono HB6.out.size))
            rw [← hz8] at HB8
            clear hz8
            go_wp2
            go_ret
            exact ⟨rfl, HB8.out⟩
          · have hz3 : ¬ (z < 0) := by omega
            go_wp2
            refine wp_region_grown (by kernel_rfl) (by kernel_rfl) ?_
            repeat (first | go_big_quiet_skip | (go_big_quiet_want; go_big_quiet_op; first | go_big_quiet_on | go_big_quiet_call ((go_at_call 28; exact hC _))))
            refine wpQuiet_nil ?_
            intro w8 hw8
            obtain ⟨z8, hz8⟩ := hw8
            have HB8 := Lib.hid (HB6.out.trans (z8.ok.mono HB6.out.size))
            rw [← hz8] at HB8
            clear hz8
            go_wp2
            go_ret
            exact ⟨rfl, HB8.out⟩

end Go.Proofs.Ytoddomhpdeoeeaa
