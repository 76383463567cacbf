/- The walk of FnGamePlayed. -/
import Derived.Test.YtkjdlpbfalojdaaSolve
import Derived.Test.YtkjdlpbfalojdaaHasRow
import Derived.Test.YtkjdlpbfalojdaaGameI
import Derived.Test.YtkjdlpbfalojdaaAlive
namespace Go.Proofs.Ytkjdlpbfalojdaa
open Go.RowKit Go.Shelf
set_option linter.unusedVariables false
set_option maxRecDepth 100000

theorem gameK_inv' {p c : Int} {x : List Int} (hx : CodeP p c x) : ∀ (f : Nat) (out : List Gs), GameInv p c x out → out.length + f ≤ 9 → GameInv p c x (gameK p c x f out)
  | 0, out, h, hl => h
  | f + 1, out, h, hl => by
    have hs := h.step hx (by omega)
    rw [gameK]
    split
    · exact hs
    · exact gameK_inv' hx f _ hs (by simp; omega)

theorem drawGame_any {B : Nat} (v : Value) (bs : List Int) (w : World) (h : Bytes B w v bs) :
    Calls Try.prog 50 #[v] w fun e w' => ∃ (n m : Nat) (ys : List Int) (a' : Option Addr) (c' : Nat), e = .returned (.tuple #[.int .i64 n, .int .i64 m, .slice a' ys.length c']) ∧ n ≤ 3 ∧ m ≤ 4 ∧ Ints w.heap.size w' (.slice a' ys.length c') ys ∧ Below w.heap.size w w' := by
  obtain ⟨a0, cap0, rfl, _⟩ := id h.1
  rw [List.length_map] at h ⊢
  have hO := open_any _ bs w h
  clear h
  go_enter Try.func50, Try.ntmps50
  go_wp2_with fail
  refine hO.mono ?_
  rintro e w1 ⟨a, cap, bs1, rfl, hR1, hb1⟩
  have HB1 := Lib.hid hb1
  have hz1 := hb1.size
  have hG := size_any w1 _ a cap bs1 0 hR1 (by omega)
  clear hO hb1 hR1
  go_wp2_with fail
  refine hG.mono ?_
  rintro e w2 ⟨n, m, rfl, hn1, hn3, hm1, hm4, ⟨p2, hR2, hp2⟩, hg2⟩
  have hz2 := hg2.size
  have hC := code_any n m 12 m w2 _ a cap bs1 p2 hR2 (by omega) (by omega) (by omega) (by omega) (by omega) (by omega) (by omega) (.inr (by omega)) (by omega)
  have HB2 := Lib.hid (HB1.out.grown hg2 hz1 (fun j hj => by cases hj; exact Nat.le_refl _))
  clear hG hg2 hR2
  go_wp2_with fail
  refine hC.mono ?_
  rintro e w3 ⟨ys, a3, c3, rfl, hu3, _, hyi, _, _, hg3⟩
  have HU := Lib.hid ((hu3.toInts hyi).mono (Nat.le_trans hz1 hz2))
  have HB3 := Lib.hid (HB2.out.grown hg3 HB2.out.size (fun j hj => by cases hj; exact Nat.le_refl _))
  clear hC hu3 hyi hg3
  go_wp2
  go_ret3
  exact ⟨n, m, ys, a3, c3, rfl, hn3, hm4, HU.out, HB3.out⟩

set_option maxHeartbeats 2000000 in
theorem FnGamePlayed_walk (v : Value) (bs : List Int) (w : World) (h : Bytes 0 w v bs) :
    Calls Try.prog 12 #[v] w fun e w' => e = .returned (.bool true) ∧ Below w.heap.size w w' := by
  obtain ⟨a0, cap0, rfl, hc1, hc2, hc3⟩ := id h.1
  rw [List.length_map] at h ⊢
  clear hc1 hc2 hc3
  have hDr := drawGame_any _ bs w h
  clear h
  by_cases hs : 1048576 < bs.length
  · go_enter Try.func12, Try.ntmps12
    go_wp2
    go_ret
    exact ⟨rfl, Below.refl _ _⟩
  · go_enter Try.func12, Try.ntmps12
    go_wp2_with fail
    refine hDr.mono ?_
    rintro e w1 ⟨n, m, x, a1, c1, rfl, hn3, hm4, hu1, hb1⟩
    have HB1 := Lib.hid hb1
    have HU1 := Lib.hid hu1
    have HI := Lib.hid (gameI_any n m _ x w1 hu1)
    have HS := Lib.hid (fun W (h : Ints w.heap.size W (.slice a1 x.length c1) x) => gameS_any n m _ x W h)
    have HC := Lib.hid (fun W (h : Ints w.heap.size W (.slice a1 x.length c1) x) => codeOkS_any n m _ x W h)
    have HFI := Lib.hid (fun (B : Nat) (W : World) (u : Value) (h : GL B W u (gameL n m x)) => fitI_any n m u (gameL n m x) W h)
    have h64 : In64G (gameL n m x) := by
      unfold gameL
      split
      · rename_i hk
        exact game_in64 (gameK_inv' (codeOkB_iff.1 hk) 9 [] (GameInv.start _ _ _) (by simp))
      · exact fun g hg => by simp at hg
    have HEF := Lib.hid (fun (hk : codeOkB n m x = true) => ends_facts (codeOkB_iff.1 hk) (game_ends (codeOkB_iff.1 hk) hn3 hm4))
    have HNO := Lib.hid (fun (hk : codeOkB n m x = false) => show (gameL n m x).length = 0 by unfold gameL; rw [hk]; rfl)
    unfold PlayedG at HI HS
    unfold FreshR at HFI
    obtain ⟨L, hL⟩ : ∃ L, L = gameL n m x := ⟨_, rfl⟩
    rw [← hL] at HI HS HFI HEF HNO h64
    have H64 := Lib.hid h64
    obtain ⟨b, hb⟩ : ∃ b, b = codeOkB n m x := ⟨_, rfl⟩
    rw [← hb] at HC HEF HNO
    clear hDr hb1 hu1 hL hb h64
    go_wp2_with fail
    refine HI.out.mono ?_
    rintro e w2 ⟨a2, c2, rfl, ho2, hb2⟩
    have HB2 := Lib.hid (HB1.out.trans (hb2.mono HB1.out.size))
    have HU2 := Lib.hid (HU1.out.below hb2)
    have HO2 := Lib.hid (ho2.toGL H64.out)
    clear HI HU1 ho2 hb2
    go_wp2_with fail
    refine (HS.out w2 HU2.out).mono ?_
    rintro e w3 ⟨a3, c3, rfl, ho3, hb3⟩
    have HB3 := Lib.hid (HB2.out.trans (hb3.mono HB2.out.size))
    have HU3 := Lib.hid (HU2.out.below hb3)
    have HO3 := Lib.hid (HO2.out.below hb3)
    have HT3 := Lib.hid (ho3.toGL H64.out)
    clear HS HU2 HO2 ho3 hb3
    go_wp2_with fail
    refine (sameGuesses_self _ _ L w3 HO3.out HT3.out).mono ?_
    rintro e w4 ⟨rfl, hb4⟩
    have HB4 := Lib.hid (HB3.out.trans (hb4.mono HB3.out.size))
    have HU4 := Lib.hid (HU3.out.below hb4)
    have HO4 := Lib.hid (HO3.out.below hb4)
    clear HU3 HO3 HT3 hb4
    go_wp2_with fail
    refine (HC.out w4 HU4.out).mono ?_
    rintro e w5 ⟨rfl, rfl⟩
    clear HC
    cases b
    · have hz := HNO.out rfl
      go_wp2_with fail
      refine (alive_any _).mono ?_
      rintro e w6 ⟨rfl, rfl⟩
      go_wp2
      go_ret
      exact ⟨rfl, HB4.out⟩
    · obtain ⟨hp, hl9, hlast, hfit, hdis, hcod⟩ := HEF.out rfl
      have HLA := Lib.hid hlast
      have HFT := Lib.hid hfit
      have HDS := Lib.hid hdis
      obtain ⟨a9, cap9, V, he9, hcap, hmax, hcells, hV⟩ := HO4.out
      injection he9 with he9 _ he10
      subst he9 he10
      obtain ⟨b9, off9, rfl, _, hc9⟩ := hcells hp
      have HCE := Lib.hid hc9
      have HV := Lib.hid hV
      clear hlast hfit hdis hcod hcells hc9 hV HEF HNO
      go_wp2
      go_loopw [7] (fun kv wr => ∃ k : Nat, k ≤ L.length ∧ kv = .int .i64 k ∧ Below w4.heap.size w4 wr) (fun kv _ => L.length - (intOf kv).toNat)
      case atStart => exact ⟨0, Nat.zero_le _, rfl, Below.refl _ _⟩
      case round =>
        obtain ⟨k, hk, rfl, hb⟩ := hrel
        obtain ⟨wk, rfl⟩ : ∃ z, z = wr := ⟨_, rfl⟩
        by_cases hlt : k < L.length
        · have HB := Lib.hid hb
          have hki : (k : Int) < (L.length : Int) := by omega
          have hk0 : (0 : Int) ≤ (k : Int) := by omega
          clear hb
          go_wp2
          go_loopw [8] (fun jv wr => ∃ j : Nat, j ≤ k ∧ jv = .int .i64 j ∧ Below w4.heap.size w4 wr) (fun jv _ => k - (intOf jv).toNat)
          case atStart => exact ⟨0, Nat.zero_le _, rfl, HB.out⟩
          case round =>
            obtain ⟨j, hj, rfl, hb⟩ := hrel
            obtain ⟨wj, rfl⟩ : ∃ z, z = wr := ⟨_, rfl⟩
            by_cases hjk : j < k
            · have c1 := (HCE.out j (by omega)).1
              have e1 := (HCE.out k hlt).1
              have hVj := HV.out j (by omega)
              have hVk := HV.out k hlt
              obtain ⟨av, cv, hvv, _⟩ := hVj.opened
              obtain ⟨av', cv', hvv', _⟩ := hVk.opened
              have hne := HDS.out j k hjk hlt
              obtain ⟨y, hy⟩ : ∃ y, y = L[j].code := ⟨_, rfl⟩
              obtain ⟨z, hz⟩ : ∃ z, z = L[k].code := ⟨_, rfl⟩
              rw [← hy] at hVj hvv hne
              rw [← hz] at hVk hvv' hne
              rw [hvv] at c1 hVj
              rw [hvv'] at e1 hVk
              have K1 : ∀ q : GrownC wj, q.val.cell? ⟨b9, off9 + j * 3, none⟩ = some (.slice av y.length cv) := fun q => (Above.of_below (B := 0) (hb.trans (q.ok.mono hb.size))).cell (Nat.zero_le _) c1
              have L1 : ∀ q : GrownC wj, q.val.cell? ⟨b9, off9 + k * 3, none⟩ = some (.slice av' z.length cv') := fun q => (Above.of_below (B := 0) (hb.trans (q.ok.mono hb.size))).cell (Nat.zero_le _) e1
              have hC : ∀ q : GrownC wj, Calls Try.prog 42 #[.slice av y.length cv, .slice av' z.length cv'] q.val (fun e w'' => e = .returned (.bool false) ∧ ∃ q' : GrownC wj, w'' = q'.val) := fun q =>
                (sameI_any _ _ y z q.val (hVj.below (hb.trans (q.ok.mono hb.size))) (hVk.below (hb.trans (q.ok.mono hb.size)))).mono (fun e w'' ⟨he, hq⟩ => ⟨by rw [he, decide_eq_false hne], ⟨w'', q.ok.trans ((show Drawn q.val w'' from hq).below.mono q.ok.size)⟩, rfl⟩)
              have HBj := Lib.hid hb
              have hj0 : (0 : Int) ≤ (j : Int) := by omega
              have hj1 : (j : Int) < (k : Int) := by omega
              have hj2 : (j : Int) < (L.length : Int) := by omega
              clear hvv hvv' hVj hVk hy hz hb c1 e1 hne
              go_wp2
              refine wp_region_grownC (by kernel_rfl) (by kernel_rfl) ?_
              repeat (first | go_big_quiet_skip | (go_big_quiet_want; go_big_quiet_op; first | go_big_quiet_on | go_big_quiet_call ((go_at_call 42; exact hC _))))
              refine wpQuiet_nil ?_
              intro w8 hw8
              obtain ⟨z8, hz8⟩ := hw8
              have HB8 := Lib.hid (HBj.out.trans (z8.ok.mono HBj.out.size))
              rw [← hz8] at HB8
              clear hz8
              go_wp2
              go_roundw
              case rel => exact ⟨j + 1, by omega, by go_num, HB8.out⟩
              case measure => simp [intOf]; omega
            · have HBj := Lib.hid hb
              clear hb
              go_wp2
              go_roundw
              case rel => exact ⟨k + 1, by omega, by go_num, HBj.out⟩
              case measure => simp [intOf]; omega
        · have e1 := (Above.of_below (B := 0) hb).cell (Nat.zero_le _) (HCE.out (L.length - 1) (by omega)).1
          have hVl := HV.out (L.length - 1) (by omega)
          rw [HLA.out] at hVl
          obtain ⟨av, cv, hvv, _⟩ := hVl.opened
          rw [hvv] at e1 hVl
          have hS := sameI_any _ _ x x wk (hVl.below hb) (HU4.out.below hb)
          rw [decide_eq_true rfl] at hS
          obtain ⟨l1, hl1⟩ : ∃ l1, L.length = l1 + 1 := ⟨L.length - 1, by omega⟩
          have hlm : (L.length : Int) - 1 = (l1 : Int) := by omega
          have hlz : (0 : Int) < (L.length : Int) := by omega
          have hla : (0 : Int) ≤ (l1 : Int) := by omega
          have hlb : (l1 : Int) < (L.length : Int) := by omega
          rw [show L.length - 1 = l1 by omega] at e1
          have HB := Lib.hid (HB4.out.trans (hb.mono HB4.out.size))
          have HUk := Lib.hid (HU4.out.below hb)
          have HOk := Lib.hid (HO4.out.below hb)
          clear hvv hVl hb hl1
          go_wp2_with fail
          refine hS.mono ?_
          rintro e w6 ⟨rfl, hq⟩
          have hD : Drawn wk w6 := hq
          have HB6 := Lib.hid (HB.out.trans (hD.below.mono HB.out.size))
          have HU6 := Lib.hid (HUk.out.below hD.below)
          have hF := HFI.out _ w6 _ (HOk.out.below hD.below)
          clear hS hq hD
          go_wp2_with fail
          refine hF.mono ?_
          rintro e w7 ⟨a7, c7, rfl, ho7, hb7⟩
          have HB7 := Lib.hid (HB6.out.trans (hb7.mono HB6.out.size))
          have hH := hasRow_in _ _ _ x w7 (fit_rows ho7) (HU6.out.below hb7) HFT.out
          clear hF ho7 hb7
          go_wp2_with fail
          refine hH.mono ?_
          rintro e w8 ⟨rfl, hb8⟩
          have HB8 := Lib.hid (HB7.out.trans (hb8.mono HB7.out.size))
          clear hH hb8
          go_wp2
          go_ret
          exact ⟨rfl, HB8.out⟩

end Go.Proofs.Ytkjdlpbfalojdaa
