/- The walk of FnNextGuess. -/
import Derived.Test.YtkjdlpbfalojdaaHasRow
import Derived.Test.YtkjdlpbfalojdaaAlive
namespace Go.Proofs.Ytkjdlpbfalojdaa
open Go.RowKit Go.Shelf
set_option linter.unusedVariables false
set_option maxRecDepth 100000

theorem next_small' (p c : Int) (gs : List Gs) : ∀ y ∈ nextL (fitL p c gs), In64 y := by
  by_cases h : 0 < (fitL p c gs).length
  · exact code_in64 (fit_codes _ (nextL_mem h))
  · have e : fitL p c gs = [] := List.length_eq_zero_iff.1 (by omega)
    rw [e]
    simp [nextL, bestK]

set_option maxHeartbeats 1000000 in
theorem FnNextGuess_walk (v : Value) (bs : List Int) (w : World) (h : Bytes 0 w v bs) :
    Calls Try.prog 9 #[v] w fun e w' => e = .returned (.bool true) ∧ Below w.heap.size w w' := by
  obtain ⟨a0, cap0, rfl, hc1, hc2, hc3⟩ := id h.1
  rw [List.length_map] at h ⊢
  clear hc1 hc2 hc3
  have hDr := drawNextGuess_any _ bs w h
  clear h
  by_cases hs : 1048576 < bs.length
  · go_enter Try.func9, Try.ntmps9
    go_wp2
    go_ret
    exact ⟨rfl, Below.refl _ _⟩
  · go_enter Try.func9, Try.ntmps9
    go_wp2_with fail
    refine hDr.mono ?_
    rintro e w1 ⟨p, c, gs, a1, c1, rfl, hg1, hb1⟩
    have HB1 := Lib.hid hb1
    have HG1 := Lib.hid hg1
    have HI := Lib.hid (nextI_any p c _ gs w1 hg1)
    have HS := Lib.hid (fun W (h : GL w.heap.size W (.slice a1 gs.length c1) gs) => nextS_any p c _ gs W h)
    have HWL := Lib.hid (fun (B : Nat) (W : World) (u : Value) (y : List Int) (h : GL w.heap.size W (.slice a1 gs.length c1) gs) (hu : Ints B W u y) => worstLotI_any p c _ u gs y W h hu)
    have HFI := Lib.hid (fun W (h : GL w.heap.size W (.slice a1 gs.length c1) gs) => fitI_any p c _ gs W h)
    have HIN := Lib.hid (next_small' p c gs)
    have HLS := Lib.hid (fun (i : Nat) (hi : i < (fitL p c gs).length) => next_least (p := p) (c := c) (gs := gs) hi)
    have HMM := Lib.hid (fun (hh : 0 < (fitL p c gs).length) => nextL_mem hh)
    have HRW := Lib.hid (fun (B : Nat) (W : World) (v : Value) (h : OwnR B W v (fitL p c gs)) => fit_rows h)
    have hnn : (fitL p c gs).length = 0 → (nextL (fitL p c gs)).length = 0 := fun e => by rw [List.length_eq_zero_iff.1 e]; rfl
    unfold NextOut at HI HS
    unfold FreshR at HFI
    obtain ⟨L, hL⟩ : ∃ L, L = fitL p c gs := ⟨_, rfl⟩
    rw [← hL] at HI HS HFI HIN HLS HMM HRW hnn
    obtain ⟨l, hl⟩ : ∃ l, l = nextL L := ⟨_, rfl⟩
    rw [← hl] at HI HS HIN HLS HMM hnn
    obtain ⟨ok, hok⟩ : ∃ ok, ok = decide (0 < L.length) := ⟨_, rfl⟩
    rw [← hok] at HI HS
    have HOK := Lib.hid hok
    have HNN := Lib.hid hnn
    clear hDr hb1 hg1 hL hl hok hnn
    go_wp2_with fail
    refine HI.out.mono ?_
    rintro e w2 ⟨a2, c2, rfl, ho2, hb2⟩
    have HB2 := Lib.hid (HB1.out.trans (hb2.mono HB1.out.size))
    have HG2 := Lib.hid (HG1.out.below hb2)
    have HQ2 := Lib.hid (ho2.toInts HIN.out)
    clear HI ho2 hb2 HG1
    go_wp2_with fail
    refine (HS.out _ HG2.out).mono ?_
    rintro e w3 ⟨a3, c3, rfl, ho3, hb3⟩
    have HB3 := Lib.hid (HB2.out.trans (hb3.mono HB2.out.size))
    have HG3 := Lib.hid (HG2.out.below hb3)
    have HQ3 := Lib.hid (HQ2.out.below hb3)
    have HT3 := Lib.hid (ho3.toInts HIN.out)
    clear HS ho3 hb3 HG2 HQ2
    have hoo : (ok != ok) = false := by simp
    go_wp2_with fail
    refine (sameI_any _ _ l l _ HQ3.out HT3.out).mono ?_
    rintro e w4 ⟨rfl, hq⟩
    have hD : Drawn w3 w4 := hq
    rw [decide_eq_true rfl]
    have HB4 := Lib.hid (HB3.out.trans (hD.below.mono HB3.out.size))
    have HG4 := Lib.hid (HG3.out.below hD.below)
    have HQ4 := Lib.hid (HQ3.out.below hD.below)
    clear hq hD HG3 HQ3 HT3
    go_wp2_with fail
    refine (HFI.out _ HG4.out).mono ?_
    rintro e w5 ⟨a5, c5, rfl, ho5, hb5⟩
    have HB5 := Lib.hid (HB4.out.trans (hb5.mono HB4.out.size))
    have HG5 := Lib.hid (HG4.out.below hb5)
    have HQ5 := Lib.hid (HQ4.out.below hb5)
    have HR5 := Lib.hid (HRW.out _ _ _ ho5)
    clear HFI ho5 hb5 HG4 HQ4
    cases ok
    · have hz : L.length = 0 := by have := HOK.out; simp at this; simp [this]
      have hlz := HNN.out hz
      go_wp2_with fail
      refine (alive_any _).mono ?_
      rintro e w6 ⟨rfl, rfl⟩
      go_wp2
      go_ret
      exact ⟨rfl, HB5.out⟩
    · have hpos : 0 < L.length := of_decide_eq_true HOK.out.symm
      go_wp2_with fail
      refine (HWL.out _ _ _ _ HG5.out HQ5.out).mono ?_
      rintro e w6 ⟨rfl, hb6⟩
      have HB6 := Lib.hid (HB5.out.trans (hb6.mono HB5.out.size))
      have HG6 := Lib.hid (HG5.out.below hb6)
      have HQ6 := Lib.hid (HQ5.out.below hb6)
      have HR6 := Lib.hid (HR5.out.below hb6)
      clear hb6 HG5 HQ5 HR5
      obtain ⟨n, hn⟩ : ∃ n, n = worstLotZ p c gs l := ⟨_, rfl⟩
      rw [← hn]
      rw [← hn] at HLS
      obtain ⟨a9, cap9, he9, hcap, hmax, V, hcells, hV⟩ := HR6.out.opened
      injection he9 with he9 _ he10
      subst he9 he10
      clear hn
      go_wp2
      go_loopw [12] (fun i wr => ∃ k : Nat, k ≤ L.length ∧ i = .int .i64 k ∧ Below w6.heap.size w6 wr) (fun i _ => L.length - (intOf i).toNat)
      case atStart => exact ⟨0, Nat.zero_le _, rfl, Below.refl _ _⟩
      case round =>
        obtain ⟨k, hk, rfl, hb⟩ := hrel
        obtain ⟨wk, rfl⟩ : ∃ x, x = wr := ⟨_, rfl⟩
        by_cases hlt : k < L.length
        · obtain ⟨b, off, rfl, _, hc⟩ := hcells (by omega)
          have hck := (Above.of_below (B := 0) hb).cell (Nat.zero_le _) (hc k hlt)
          have hW := HWL.out _ wk (V k) L[k] (HG6.out.below hb) ((hV k hlt).below hb)
          have hls := HLS.out k hlt
          obtain ⟨av, cv, hvv, _⟩ := (hV k hlt).opened
          rw [hvv] at hck hW
          obtain ⟨x, hx⟩ : ∃ x, x = worstLotZ p c gs L[k] := ⟨_, rfl⟩
          rw [← hx] at hW hls
          have hnlt : ¬ x < n := by omega
          have HB := Lib.hid hb
          clear hc hcells hV hvv hx hls hb
          go_wp2_with fail
          refine hW.mono ?_
          rintro e w7 ⟨rfl, hb7⟩
          have HB7 := Lib.hid (HB.out.trans (hb7.mono HB.out.size))
          clear hW hb7
          go_wp2
          go_roundw
          case rel => exact ⟨k + 1, by omega, by go_num, HB7.out⟩
          case measure => simp [intOf]; omega
        · have hH := hasRow_in _ _ L l wk (HR6.out.below hb) (HQ6.out.below hb) (HMM.out hpos)
          have HB := Lib.hid (HB6.out.trans (hb.mono HB6.out.size))
          clear hcells hV hb
          go_wp2_with fail
          refine hH.mono ?_
          rintro e w7 ⟨rfl, hb7⟩
          have HB7 := Lib.hid (HB.out.trans (hb7.mono HB.out.size))
          clear hH hb7
          go_wp2
          go_ret
          exact ⟨rfl, HB7.out⟩

end Go.Proofs.Ytkjdlpbfalojdaa
