/- The drawn rows of boxes with opened ones. -/
import Derived.Test.YtoddomhpdeoeeaaDrawAfter
import Derived.Test.YtoddomhpdeoeeaaShort
namespace Go.Proofs.Ytoddomhpdeoeeaa
open Go.RowKit
set_option linter.unusedVariables false

theorem hunt_small {xss : List (List Int)} {l : List Int} {ok : Bool} (h : HuntIs xss l ok) : l.length ≤ 16 ∧ ∀ y ∈ l, In64 y := by
  rcases h with ⟨hb, rfl, w, hw, rfl⟩ | ⟨rfl, rfl, _⟩
  · have hn := (besideB_spec hb).1
    refine ⟨by rw [toI_length]; exact hw.2.2.1, fun y hy => ?_⟩
    obtain ⟨b, hb, rfl⟩ := List.mem_map.1 hy
    have := hw.1 b hb
    unfold In64; omega
  · exact ⟨by simp, by simp⟩

/-- The opened boxes so far, m of them, lie in memory that is younger than world w2; the reader stands at q at most. -/
def OpW (w w2 : World) (K : Nat) (a : Option Addr) (cap : Nat) (bs : List Int) (q : Int) (ao : Option Addr) (m co : Nat) (wi : World) : Prop :=
  ∃ ys, ys.length = m ∧ (∀ y ∈ ys, In64 y) ∧ OwnI w2.heap.size wi (.slice ao m co) ys ∧ Above w.heap.size w2 wi ∧ (∃ p', Rd wi K a cap bs p' ∧ p' ≤ q) ∧ w.grownBy wi (some K) ∧ w2.heap.size ≤ wi.heap.size

theorem Above.trans' {B : Nat} {w2 wi w5 : World} (h : Above B w2 wi) (hz : w2.heap.size ≤ wi.heap.size) (h' : Above B wi w5) : Above B w2 w5 := fun b h1 h2 => (h' b h1 (by omega)).trans (h b h1 h2)
theorem OpW.pick {w w2 wi : World} {K : Nat} {a : Option Addr} {cap : Nat} {bs : List Int} {q n : Int} {ao : Option Addr} {m co : Nat} (hz : w.heap.size ≤ w2.heap.size) (h : OpW w w2 K a cap bs q ao m co wi) (hK : K < w.heap.size) (hq : q ≤ 1000000) (hn : In64 n) :
    Calls Try.prog 60 #[.pointer (some ⟨K, 0, none⟩), .int .i64 n] wi fun e w' => ∃ r, e = .returned (.int .i64 r) ∧ 0 ≤ r ∧ (1 ≤ n → r < n) ∧ OpW w w2 K a cap bs (q + 1) ao m co w' := by
  obtain ⟨ys, h1, h2, h3, h4, ⟨p, h5, h6⟩, h7, h8⟩ := h
  refine (pick_any n _ K a cap bs p h5 (by omega) hn).mono ?_
  rintro e w' ⟨r, rfl, hr0, hr1, ⟨p', hR, hp⟩, hg⟩
  exact ⟨r, rfl, hr0, hr1, ys, h1, h2, h3.keep (Above.of_grown hg (by omega)), h4.trans' h8 (Above.of_grown hg hK), ⟨p', hR, by omega⟩, grown_trans h7 hg, by have := hg.size; omega⟩
theorem OpW.odd {w w2 wi : World} {K : Nat} {a : Option Addr} {cap : Nat} {bs : List Int} {q n : Int} {ao : Option Addr} {m co : Nat} (hz : w.heap.size ≤ w2.heap.size) (h : OpW w w2 K a cap bs q ao m co wi) (hK : K < w.heap.size) (hq : q ≤ 1000000) (hn : In64 n) :
    Calls Try.prog 64 #[.pointer (some ⟨K, 0, none⟩), .int .i64 n] wi fun e w' => ∃ b, e = .returned (.bool b) ∧ OpW w w2 K a cap bs (q + 1) ao m co w' := by
  obtain ⟨ys, h1, h2, h3, h4, ⟨p, h5, h6⟩, h7, h8⟩ := h
  refine (odd_any n _ K a cap bs p h5 (by omega) hn).mono ?_
  rintro e w' ⟨b, rfl, ⟨p', hR, hp⟩, hg⟩
  exact ⟨b, rfl, ys, h1, h2, h3.keep (Above.of_grown hg (by omega)), h4.trans' h8 (Above.of_grown hg hK), ⟨p', hR, by omega⟩, grown_trans h7 hg, by have := hg.size; omega⟩
theorem OpW.lit {w w2 wi : World} {K : Nat} {a : Option Addr} {cap : Nat} {bs : List Int} {q : Int} {ao : Option Addr} {m co : Nat} (h : OpW w w2 K a cap bs q ao m co wi) :
    OpW w w2 K a cap bs q (some ⟨wi.heap.size, 0, none⟩) 0 0 (wi.alloc (.cells #[] 3)) := by
  obtain ⟨ys, h1, h2, h3, h4, ⟨p, h5, h6⟩, h7, h8⟩ := h
  refine ⟨[], rfl, by simp, (OwnI.lit wi).mono h8, fun b h9 h10 => (Below.heap_alloc wi _ b (by omega)).trans (h4 b h9 h10), ⟨p, h5.below ((Below.refl _ _).alloc (Nat.le_refl _) _), h6⟩, h7.andThen (World.grownBy_alloc wi _ none) (fun _ e => by cases e), by simp; omega⟩
theorem OpW.own {w w2 wi : World} {K : Nat} {a : Option Addr} {cap : Nat} {bs : List Int} {q : Int} {ao : Option Addr} {m co : Nat} (h : OpW w w2 K a cap bs q ao m co wi) :
    ∃ ys, ys.length = m ∧ OwnI w2.heap.size wi (.slice ao m co) ys ∧ w2.heap.size ≤ wi.heap.size ∧
      ∀ (o : Obj) (x : Int) (w7 : World) (a' : Option Addr) (c' : Nat), In64 x → K < w.heap.size → w.heap.size ≤ w2.heap.size → OwnI w2.heap.size w7 (.slice a' (m + 1) c') (ys ++ [x]) → (wi.alloc o).grownBy w7 (Value.slice ao m co).ownBlock → OpW w w2 K a cap bs q a' (m + 1) c' w7 := by
  obtain ⟨ys, h1, h2, h3, h4, ⟨p, h5, h6⟩, h7, h8⟩ := h
  refine ⟨ys, h1, h3, h8, fun o x w7 a' c' hx hK hz ho hg => ?_⟩
  have hblk : ∀ j, (Value.slice ao m co).ownBlock = some j → w2.heap.size ≤ j := fun j hj => (World.ownsRow.lt h3 j hj).1
  have hsz := hg.size
  have hsa : (wi.alloc o).heap.size = wi.heap.size + 1 := by simp
  refine ⟨ys ++ [x], by simp [h1], fun y hy => ?_, ho, fun b h9 h10 => ?_, ⟨p, ?_, h6⟩, (h7.andThen (World.grownBy_alloc wi o none) (fun _ e => by cases e)).andThen hg (fun j hj => .inl (by have := hblk j hj; omega)), by omega⟩
  · rcases List.mem_append.1 hy with h | h
    · exact h2 y h
    · simp at h; rw [h]; exact hx
  · rw [hg.block b (by omega) (fun e => by have := hblk b e.symm; omega), Below.heap_alloc wi o b (by omega)]
    exact h4 b h9 h10
  · exact (h5.below ((Below.refl _ _).alloc (Nat.le_refl _) o)).grown hg (fun j hj => by have := hblk j hj; omega)

theorem OpW.later {w w2 wi : World} {K : Nat} {a : Option Addr} {cap : Nat} {bs : List Int} {q q' : Int} {ao : Option Addr} {m co : Nat} (h : OpW w w2 K a cap bs q ao m co wi) (hq : q ≤ q') : OpW w w2 K a cap bs q' ao m co wi := by
  obtain ⟨ys, h1, h2, h3, h4, ⟨p', h5, h6⟩, h7, h8⟩ := h
  exact ⟨ys, h1, h2, h3, h4, ⟨p', h5, by omega⟩, h7, h8⟩

/-- What a drawing of rows of boxes and opened ones leaves. -/
def OpenedDrawn (K : Nat) (a : Option Addr) (cap : Nat) (bs : List Int) (p n : Int) (w : World) (e : Ending) (w' : World) : Prop :=
  ∃ xss a' cap' ys a2 c2, e = .returned (.tuple #[.slice a' xss.length cap', .slice a2 ys.length c2]) ∧ Rows2 w.heap.size w' (.slice a' xss.length cap') xss ∧ xss.length ≤ 6 ∧ Ints w.heap.size w' (.slice a2 ys.length c2) ys ∧ ys.length ≤ 32 ∧ Drew K a cap bs p n w w'
theorem OpW.drawn {w w2 wi : World} {K : Nat} {a : Option Addr} {cap : Nat} {bs : List Int} {p q : Int} {ao a' : Option Addr} {m co cap' : Nat} {xss : List (List Int)} (h : OpW w w2 K a cap bs q ao m co wi) (hz : w.heap.size ≤ w2.heap.size) (hx : Rows2 w.heap.size w2 (.slice a' xss.length cap') xss) (hl : xss.length ≤ 6)
    (hm : m ≤ 32) (hq : q ≤ p + 200) : OpenedDrawn K a cap bs p 200 w (.returned (.tuple #[.slice a' xss.length cap', .slice ao m co])) wi := by
  obtain ⟨ys, h1, h2, h3, h4, ⟨p', h5, h6⟩, h7, h8⟩ := h
  subst h1
  exact ⟨xss, a', cap', ys, ao, co, rfl, hx.keep h4, hl, (h3.toInts h2).mono hz, hm, ⟨p', h5, by omega⟩, h7⟩

set_option maxRecDepth 100000 in
set_option maxHeartbeats 4000000 in
theorem opened_any (w : World) (K : Nat) (a : Option Addr) (cap : Nat) (bs : List Int) (p : Int) (h : Rd w K a cap bs p) (hp : p ≤ 100000) :
    Calls Try.prog 63 #[.pointer (some ⟨K, 0, none⟩)] w (OpenedDrawn K a cap bs p 200 w) := by
  have hKw := h.lt
  have hp0 := h.p0
  go_enter Try.func63, Try.ntmps63
  go_wp2_with fail
  refine (beside_any 16 _ _ _ _ _ _ h (by omega) (by unfold In64; omega)).mono ?_
  rintro e w2 ⟨xss, a', cap', rfl, hx2, hl, hl2, ⟨p2, hR2, hp2⟩, hg2⟩
  have hz2 := hg2.size
  clear h hl2
  go_wp2_with fail
  refine (specShortestHunt_any _ _ _ hx2).mono ?_
  rintro e w3 ⟨l, ok, al, cl, rfl, hh, hol, hb3⟩
  obtain ⟨hl16, hlin⟩ := hunt_small hh
  have hW : OpW w w2 K a cap bs (p + 100) al l.length cl w3 := ⟨l, rfl, hlin, hol, Above.of_below hb3, ⟨p2, hR2.below hb3, by omega⟩, grown_trans hg2 (grown_of_below hb3), hb3.size⟩
  obtain ⟨m, hm⟩ : ∃ m, m = l.length := ⟨_, rfl⟩
  rw [← hm] at hW hl16 ⊢
  have HX := Lib.hid hx2
  have HL := Lib.hid hl
  have hl6 : (xss.length : Int) ≤ 6 := by omega
  clear hx2 hg2 hR2 hh hlin hol hb3 hm hl
  go_upto_region 3 with fail
  go_cut [21] from 8 (fun o wx => (∃ b : Bool, o = .bool b) ∧ OpW w w2 K a cap bs (p + 101) al m cl wx)
  case first =>
    cases ok
    · have HW := Lib.hid hW
      clear hW
      go_wp2
      go_meet
      case rel =>
        obtain ⟨ys, h1, h2, h3, h4, ⟨p', h5, h6⟩, h7, h8⟩ := HW.out
        exact ⟨⟨true, rfl⟩, ys, h1, h2, h3, h4, ⟨p', h5, by omega⟩, h7, h8⟩
    · go_wp2_with fail
      refine (hW.pick hz2 hKw (by omega) (by unfold In64; omega)).mono ?_
      rintro e w4 ⟨r, rfl, _, _, hW4⟩
      have HW := Lib.hid hW4
      clear hW hW4
      go_wp2
      go_meet
      case rel =>
        obtain ⟨ys, h1, h2, h3, h4, ⟨p', h5, h6⟩, h7, h8⟩ := HW.out
        exact ⟨⟨_, rfl⟩, ys, h1, h2, h3, h4, ⟨p', h5, by omega⟩, h7, h8⟩
  case rest =>
    obtain ⟨⟨b, rfl⟩, hW1⟩ := hcut
    clear hW
    go_upto_if 21 with fail
    go_cut [5] from 8 (fun o wx => ∃ ao m co, o = .slice ao m co ∧ m ≤ 24 ∧ OpW w w2 K a cap bs (p + 120) ao m co wx)
    case first =>
      cases b
      · have HW := Lib.hid hW1
        clear hW1
        go_wp2
        go_meet
        case rel => exact ⟨al, m, cl, rfl, by omega, HW.out.later (by omega)⟩
      · go_wp2_with fail
        refine (hW1.lit.pick hz2 hKw (by omega) (by unfold In64; omega)).mono ?_
        rintro e w5 ⟨r, rfl, hr0, hr1, hW5⟩
        have hr1 := hr1 (by omega)
        obtain ⟨r, rfl⟩ := Int.eq_ofNat_of_zero_le hr0
        clear hW1
        obtain ⟨gl, hgl⟩ : ∃ gl, gl = wc.heap.size := ⟨_, rfl⟩
        rw [← hgl] at hW5 ⊢
        clear hgl
        go_wp2
        go_loopw [5, 7] (fun ov cv wi => ∃ (k m' : Nat) (ao : Option Addr) (co : Nat), k ≤ r ∧ cv = .int .i64 k ∧ ov = .slice ao m' co ∧ m' + k ≤ r ∧ OpW w w2 K a cap bs (p + 119 - k) ao m' co wi) (fun _ cv _ => (intOf cv).toNat)
        case atStart => exact ⟨r, 0, _, 0, by omega, rfl, rfl, by omega, hW5.later (by omega)⟩
        case round =>
          obtain ⟨k, m', ao, co, hk, rfl, rfl, hmk, hWk⟩ := hrel
          clear hW5
          by_cases hk0 : (0 : Int) < (k : Int)
          · have hk0n : 0 < k := by omega
            by_cases hx1' : (1 : Int) ≤ (xss.length : Int)
            · have hx2' : ¬ (xss.length : Int) < 1 := by omega
              go_wp2_with fail
              refine (hWk.pick hz2 hKw (by omega) (by unfold In64; omega)).mono ?_
              rintro e w6 ⟨x, rfl, hx0, hx1, hW6⟩
              have hx1 := hx1 (by omega)
              obtain ⟨ys, hyl, hown0, hz6, hput⟩ := hW6.own
              have hown : OwnI w2.heap.size (w6.alloc (.cells #[.int .i64 x] 3)) (.slice ao m' co) ys := World.ownsRow.alloc hown0 _
              have HYL := Lib.hid hyl
              have HPut := Lib.hid hput
              clear hWk hW6 hown0 hyl hput
              go_wp2_with (at_builtin; refine wpList_push_int _ rfl (.tmp 29) (.tmp 35) rfl w2.heap.size (.slice ao m' co) ys rfl hown ⟨w6.heap.size, 0, none⟩ 1 x rfl ?_ ?_ ?_ ?_)
              · exact cell_of_one (heap_alloc_new w6 _)
              · have := HYL.out; omega
              · simp; omega
              · intro a7 c7 w7 ho7 hg7
                rw [HYL.out] at ho7 ⊢
                have HW7 := Lib.hid (HPut.out _ x w7 a7 c7 (by unfold In64; omega) hKw hz2 ho7 hg7)
                clear ho7 hg7 hown
                go_wp2
                go_roundw
                case rel => exact ⟨k - 1, m' + 1, a7, c7, by omega, by first | rfl | (congr 1; omega), rfl, by omega, HW7.out.later (by omega)⟩
                case measure => simp [intOf]; omega
            · have hx2' : (xss.length : Int) < 1 := by omega
              have hx3' : (xss.length : Int) ≤ 1 := by omega
              go_wp2_with fail
              refine (hWk.pick hz2 hKw (by omega) (by unfold In64; omega)).mono ?_
              rintro e w6 ⟨x, rfl, hx0, hx1, hW6⟩
              have hx1 := hx1 (by omega)
              obtain ⟨ys, hyl, hown0, hz6, hput⟩ := hW6.own
              have hown : OwnI w2.heap.size (w6.alloc (.cells #[.int .i64 x] 3)) (.slice ao m' co) ys := World.ownsRow.alloc hown0 _
              have HYL := Lib.hid hyl
              have HPut := Lib.hid hput
              clear hWk hW6 hown0 hyl hput
              go_wp2_with (at_builtin; refine wpList_push_int _ rfl (.tmp 29) (.tmp 35) rfl w2.heap.size (.slice ao m' co) ys rfl hown ⟨w6.heap.size, 0, none⟩ 1 x rfl ?_ ?_ ?_ ?_)
              · exact cell_of_one (heap_alloc_new w6 _)
              · have := HYL.out; omega
              · simp; omega
              · intro a7 c7 w7 ho7 hg7
                rw [HYL.out] at ho7 ⊢
                have HW7 := Lib.hid (HPut.out _ x w7 a7 c7 (by unfold In64; omega) hKw hz2 ho7 hg7)
                clear ho7 hg7 hown
                go_wp2
                go_roundw
                case rel => exact ⟨k - 1, m' + 1, a7, c7, by omega, by first | rfl | (congr 1; omega), rfl, by omega, HW7.out.later (by omega)⟩
                case measure => simp [intOf]; omega
          · have HW := Lib.hid hWk
            clear hWk
            go_wp2
            go_meet
            case rel => exact ⟨ao, m', co, rfl, by omega, HW.out.later (by omega)⟩
    case rest =>
      obtain ⟨ao, m', co, rfl, hm24, hW6⟩ := hcut
      clear hW1
      go_wp2_with fail
      refine (hW6.odd hz2 hKw (by omega) (by unfold In64; omega)).mono ?_
      rintro e w7 ⟨b2, rfl, hW7⟩
      clear hW6
      cases b2
      · have HD := Lib.hid (hW7.drawn (p := p) hz2 HX.out HL.out (by omega) (by omega))
        clear hW7
        go_wp2
        go_ret2
        exact HD.out
      · obtain ⟨ys, hyl, hown0, hz6, hput⟩ := hW7.own
        have hown : OwnI w2.heap.size (w7.alloc (.cells #[.int .i64 (xss.length : Int)] 3)) (.slice ao m' co) ys := World.ownsRow.alloc hown0 _
        have HYL := Lib.hid hyl
        have HPut := Lib.hid hput
        clear hW7 hown0 hyl hput
        go_wp2_with (at_builtin; refine wpList_push_int _ rfl (.tmp 40) (.tmp 43) rfl w2.heap.size (.slice ao m' co) ys rfl hown ⟨w7.heap.size, 0, none⟩ 1 (xss.length : Int) rfl ?_ ?_ ?_ ?_)
        · exact cell_of_one (heap_alloc_new w7 _)
        · have := HYL.out; omega
        · simp; omega
        · intro a8 c8 w8 ho8 hg8
          rw [HYL.out] at ho8 ⊢
          have hW8 := HPut.out _ _ w8 a8 c8 (by unfold In64; omega) hKw hz2 ho8 hg8
          have HD := Lib.hid (hW8.drawn (p := p) hz2 HX.out HL.out (by omega) (by omega))
          clear ho8 hg8 hown hW8
          go_wp2
          go_ret2
          exact HD.out

end Go.Proofs.Ytoddomhpdeoeeaa
