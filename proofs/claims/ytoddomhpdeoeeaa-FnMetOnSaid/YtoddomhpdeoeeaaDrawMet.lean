/- The drawn rows of boxes with opened ones and those of the cat. -/
import Derived.Test.YtoddomhpdeoeeaaSurelyLaw
import Derived.Deep.CutRange
import Derived.Deep.Cut
import Derived.Deep.CutBlock
namespace Go.Proofs.Ytoddomhpdeoeeaa
open Go.RowKit
set_option linter.unusedVariables false

/-- What DrawMetOn gives. -/
def MetOut (w : World) (e : Ending) (w' : World) : Prop :=
  ∃ xss a cap ys a2 c2 zs a3 c3, e = .returned (.tuple #[.slice a xss.length cap, .slice a2 ys.length c2, .slice a3 zs.length c3]) ∧ Rows2 w.heap.size w' (.slice a xss.length cap) xss ∧ xss.length ≤ 6 ∧
    Ints w.heap.size w' (.slice a2 ys.length c2) ys ∧ ys.length ≤ 32 ∧ Ints w.heap.size w' (.slice a3 zs.length c3) zs ∧ zs.length ≤ 64 ∧ Below w.heap.size w w'

/-- The walk of the cat so far, m boxes of at most n, in memory younger than world w2. -/
def CatW (w w2 : World) (K : Nat) (a : Option Addr) (cap : Nat) (bs : List Int) (n : Nat) (q : Int) (ao : Option Addr) (m co : Nat) (wi : World) : Prop :=
  ∃ ys, ys.length = m ∧ (∀ y ∈ ys, 0 ≤ y ∧ y < (n : Int)) ∧ OwnI w2.heap.size wi (.slice ao m co) ys ∧ Above w.heap.size w2 wi ∧ (∃ p', Rd wi K a cap bs p' ∧ p' ≤ q) ∧ w.grownBy wi (some K) ∧ w2.heap.size ≤ wi.heap.size
theorem CatW.pick {w w2 wi : World} {K : Nat} {a : Option Addr} {cap : Nat} {bs : List Int} {N : Nat} {q n : Int} {ao : Option Addr} {m co : Nat} (hz : w.heap.size ≤ w2.heap.size) (h : CatW w w2 K a cap bs N q ao m co wi) (hK : K < w.heap.size) (hq : q ≤ 1000000) (hn : In64 n) :
    Calls Try.prog 60 #[.pointer (some ⟨K, 0, none⟩), .int .i64 n] wi fun e w' => ∃ r, e = .returned (.int .i64 r) ∧ 0 ≤ r ∧ (1 ≤ n → r < n) ∧ wi.grownBy w' (some K) ∧ CatW w w2 K a cap bs N (q + 1) ao m co w' := by
  obtain ⟨ys, h1, h2, h3, h4, ⟨p, h5, h6⟩, h7, h8⟩ := h
  refine (pick_any n _ K a cap bs p h5 (by omega) hn).mono ?_
  rintro e w' ⟨r, rfl, hr0, hr1, ⟨p', hR, hp⟩, hg⟩
  exact ⟨r, rfl, hr0, hr1, hg, ys, h1, h2, h3.keep (Above.of_grown hg (by omega)), h4.trans' h8 (Above.of_grown hg hK), ⟨p', hR, by omega⟩, grown_trans h7 hg, by have := hg.size; omega⟩
theorem CatW.odd {w w2 wi : World} {K : Nat} {a : Option Addr} {cap : Nat} {bs : List Int} {N : Nat} {q n : Int} {ao : Option Addr} {m co : Nat} (hz : w.heap.size ≤ w2.heap.size) (h : CatW w w2 K a cap bs N q ao m co wi) (hK : K < w.heap.size) (hq : q ≤ 1000000) (hn : In64 n) :
    Calls Try.prog 64 #[.pointer (some ⟨K, 0, none⟩), .int .i64 n] wi fun e w' => ∃ b, e = .returned (.bool b) ∧ CatW w w2 K a cap bs N (q + 1) ao m co w' := by
  obtain ⟨ys, h1, h2, h3, h4, ⟨p, h5, h6⟩, h7, h8⟩ := h
  refine (odd_any n _ K a cap bs p h5 (by omega) hn).mono ?_
  rintro e w' ⟨b, rfl, ⟨p', hR, hp⟩, hg⟩
  exact ⟨b, rfl, ys, h1, h2, h3.keep (Above.of_grown hg (by omega)), h4.trans' h8 (Above.of_grown hg hK), ⟨p', hR, by omega⟩, grown_trans h7 hg, by have := hg.size; omega⟩
theorem CatW.below {w w2 wi w5 : World} {K : Nat} {a : Option Addr} {cap : Nat} {bs : List Int} {N : Nat} {q : Int} {ao : Option Addr} {m co : Nat} (h : CatW w w2 K a cap bs N q ao m co wi) (hb : Below wi.heap.size wi w5) : CatW w w2 K a cap bs N q ao m co w5 := by
  obtain ⟨ys, h1, h2, h3, h4, ⟨p, h5, h6⟩, h7, h8⟩ := h
  exact ⟨ys, h1, h2, h3.keep (.of_below hb), h4.trans' h8 (.of_below hb), ⟨p, h5.below hb, h6⟩, grown_trans h7 (grown_of_below hb), by have := hb.size; omega⟩
theorem CatW.later {w w2 wi : World} {K : Nat} {a : Option Addr} {cap : Nat} {bs : List Int} {N N' : Nat} {q q' : Int} {ao : Option Addr} {m co : Nat} (h : CatW w w2 K a cap bs N q ao m co wi) (hq : q ≤ q') (hN : N ≤ N') : CatW w w2 K a cap bs N' q' ao m co wi := by
  obtain ⟨ys, h1, h2, h3, h4, ⟨p', h5, h6⟩, h7, h8⟩ := h
  exact ⟨ys, h1, fun y hy => by have := h2 y hy; omega, h3, h4, ⟨p', h5, by omega⟩, h7, h8⟩
theorem CatW.own {w w2 wi : World} {K : Nat} {a : Option Addr} {cap : Nat} {bs : List Int} {N : Nat} {q : Int} {ao : Option Addr} {m co : Nat} (h : CatW w w2 K a cap bs N q ao m co wi) :
    ∃ ys, ys.length = m ∧ (∀ y ∈ ys, 0 ≤ y ∧ y < (N : Int)) ∧ OwnI w2.heap.size wi (.slice ao m co) ys ∧ w2.heap.size ≤ wi.heap.size ∧
      ∀ (o : Obj) (x : Int) (N' : Nat) (w7 : World) (a' : Option Addr) (c' : Nat), 0 ≤ x → x < (N' : Int) → N ≤ N' → K < w.heap.size → w.heap.size ≤ w2.heap.size → OwnI w2.heap.size w7 (.slice a' (m + 1) c') (ys ++ [x]) → (wi.alloc o).grownBy w7 (Value.slice ao m co).ownBlock → CatW w w2 K a cap bs N' q a' (m + 1) c' w7 := by
  obtain ⟨ys, h1, h2, h3, h4, ⟨p, h5, h6⟩, h7, h8⟩ := h
  refine ⟨ys, h1, h2, h3, h8, fun o x N' w7 a' c' hx0 hx1 hNN hK hz ho hg => ?_⟩
  have hblk : ∀ j, (Value.slice ao m co).ownBlock = some j → w2.heap.size ≤ j := fun j hj => (World.ownsRow.lt h3 j hj).1
  have hsz := hg.size
  have hsa : (wi.alloc o).heap.size = wi.heap.size + 1 := by simp
  refine ⟨ys ++ [x], by simp [h1], fun y hy => ?_, ho, fun b h9 h10 => ?_, ⟨p, ?_, h6⟩, (h7.andThen (World.grownBy_alloc wi o none) (fun _ e => by cases e)).andThen hg (fun j hj => .inl (by have := hblk j hj; omega)), by omega⟩
  · rcases List.mem_append.1 hy with h | h
    · have := h2 y h; omega
    · simp at h; rw [h]; exact ⟨hx0, hx1⟩
  · rw [hg.block b (by omega) (fun e => by have := hblk b e.symm; omega), Below.heap_alloc wi o b (by omega)]
    exact h4 b h9 h10
  · exact (h5.below ((Below.refl _ _).alloc (Nat.le_refl _) o)).grown hg (fun j hj => by have := hblk j hj; omega)

/-- The boxes beside one: j are looked at. -/
def ListW (wb : World) (n : Nat) (al : Option Addr) (ml cl : Nat) (wi : World) : Prop :=
  ∃ ls, ls.length = ml ∧ (∀ y ∈ ls, 0 ≤ y ∧ y < (n : Int)) ∧ OwnI wb.heap.size wi (.slice al ml cl) ls ∧ Below wb.heap.size wb wi

set_option maxRecDepth 100000 in
set_option maxHeartbeats 4000000 in
theorem drawMetOn_any {B : Nat} (v : Value) (bs : List Int) (w : World) (h : Bytes B w v bs) :
    Calls Try.prog 34 #[v] w (MetOut w) := by
  go_enter Try.func34, Try.ntmps34
  go_wp2_with fail
  refine (open_any _ _ _ h).mono ?_
  rintro e w1 ⟨a, cap, cs, rfl, hR, hb⟩
  have hK1 := hR.lt
  have hb1 := hb.size
  go_wp2_with fail
  refine (opened_any _ _ _ _ _ _ hR (by omega)).mono ?_
  rintro e w2 ⟨xss, a', cap', ys, a2, c2, rfl, hx2, hl, hy2, hyl, ⟨p2, hR2, hp2⟩, hg2⟩
  have hz2 := hg2.size
  obtain ⟨K, hKeq⟩ : ∃ K, K = w.heap.size := ⟨_, rfl⟩
  rw [← hKeq] at hR2 hg2 hK1 ⊢
  have hlit : CatW w1 w2 K a cap cs xss.length 200 (some ⟨w2.heap.size, 0, none⟩) 0 0 (w2.alloc (.cells #[] 3)) :=
    ⟨[], rfl, by simp, OwnI.lit w2, Above.of_below ((Below.refl _ _).alloc (Nat.le_refl _) _), ⟨p2, hR2.below ((Below.refl _ _).alloc (Nat.le_refl _) _), by omega⟩, hg2.andThen (World.grownBy_alloc w2 _ none) (fun _ e => by cases e), by simp⟩
  have hT := specBesideOk_any (.slice a' xss.length cap') xss (w2.alloc (.cells #[] 3)) (hx2.below ((Below.refl _ _).alloc (Nat.le_refl _) _))
  have HX := Lib.hid hx2
  have HY := Lib.hid hy2
  have HB := Lib.hid hb
  have HKE := Lib.hid hKeq
  have hl6 : (xss.length : Int) ≤ 6 := by omega
  clear h hR hx2 hy2 hg2 hR2 hb hKeq
  go_wp2_with fail
  refine hT.mono ?_
  rintro e w3 ⟨rfl, hq3⟩
  have hD3 : Drawn (w2.alloc (.cells #[] 3)) w3 := hq3
  have hC3 := hlit.below hD3.below
  clear hlit hq3 hD3 hT
  obtain ⟨g3, hg3⟩ : ∃ g3, g3 = w2.heap.size := ⟨_, rfl⟩
  rw [← hg3] at hC3 ⊢
  clear hg3
  have hl60 : xss.length ≤ 6 := hl
  have HL := Lib.hid hl
  clear hl
  go_upto_if 22 with fail
  go_cut [8] from 13 (fun o wx => ∃ ao m co, o = .slice ao m co ∧ m ≤ 1 ∧ (0 < m → besideB xss = true) ∧ CatW w1 w2 K a cap cs xss.length 201 ao m co wx)
  case first =>
    cases hbe : besideB xss
    · have HC := Lib.hid hC3
      clear hC3
      go_wp2
      go_meet
      case rel => exact ⟨_, 0, 0, rfl, by omega, by omega, HC.out.later (by omega) (Nat.le_refl _)⟩
    · have hn1 := (besideB_spec hbe).1.1
      have HBE := Lib.hid hbe
      clear hbe
      go_wp2_with fail
      refine (hC3.pick (n := (xss.length : Int)) hz2 hK1 (by omega) (by unfold In64; omega)).mono ?_
      rintro e w4 ⟨x, rfl, hx0, hx1, _, hC4⟩
      have hx1 := hx1 (by omega)
      obtain ⟨zs, hzl, hzr, hown0, hz4, hput⟩ := hC4.own
      have hown : OwnI w2.heap.size (w4.alloc (.cells #[.int .i64 x] 3)) (.slice (some ⟨g3, 0, none⟩) 0 0) zs := World.ownsRow.alloc hown0 _
      have HZL := Lib.hid hzl
      have HPut := Lib.hid hput
      clear hC3 hC4 hown0 hzl hput hzr
      go_wp2_with (at_builtin; refine wpList_push_int _ rfl (.tmp 23) (.tmp 28) rfl w2.heap.size (.slice (some ⟨g3, 0, none⟩) 0 0) zs rfl hown ⟨w4.heap.size, 0, none⟩ 1 x rfl ?_ ?_ ?_ ?_)
      · exact cell_of_one (heap_alloc_new w4 _)
      · have := HZL.out; omega
      · simp; omega
      · intro a7 c7 w7 ho7 hg7
        rw [HZL.out] at ho7 ⊢
        have HW7 := Lib.hid (HPut.out _ x xss.length w7 a7 c7 hx0 hx1 (Nat.le_refl _) hK1 hz2 ho7 hg7)
        clear ho7 hg7 hown
        go_wp2
        go_meet
        case rel => exact ⟨a7, 1, c7, rfl, by omega, fun _ => HBE.out, HW7.out.later (by omega) (Nat.le_refl _)⟩
  case rest =>
    obtain ⟨ao, m, co, rfl, hm1, hmb, hC4⟩ := hcut
    clear hC3
    go_upto_block 0 with fail
    go_cut [8] from 13 (fun o wx => ∃ ao m co, o = .slice ao m co ∧ m ≤ 40 ∧ CatW w1 w2 K a cap cs xss.length 300 ao m co wx)
    case first =>
      go_wp2
      go_loopw [8, 9] (fun cv kv wi => ∃ (k m : Nat) (ao : Option Addr) (co : Nat), k ≤ ys.length ∧ kv = .int .i64 k ∧ cv = .slice ao m co ∧ m ≤ k + 1 ∧ (0 < m → besideB xss = true) ∧ CatW w1 w2 K a cap cs xss.length (201 + k) ao m co wi) (fun _ kv _ => ys.length - (intOf kv).toNat)
      case atStart => exact ⟨0, m, ao, co, by omega, rfl, rfl, by omega, hmb, hC4.later (by omega) (Nat.le_refl _)⟩
      case round =>
        obtain ⟨k, m, ao, co, hk, rfl, rfl, hmk, hmb, hCk⟩ := hrel
        clear hC4
        by_cases hk1 : (k : Int) < (ys.length : Int)
        · by_cases hm0 : 0 < m
          · have hbe := hmb hm0
            obtain ⟨⟨hn1, hn6⟩, hrow⟩ := besideB_spec hbe
            have HROW := Lib.hid hrow
            have HBE := Lib.hid hbe
            obtain ⟨zs, hzl, hzr, hown0, hz4, _⟩ := hCk.own
            obtain ⟨gc, capc, hec, _⟩ := own_head hown0 (by omega)
            injection hec with he1 he2 he3
            clear he2
            subst he1 he3
            have hcz := (hown0.cellD (m - 1) (by omega)).1
            obtain ⟨t, ht, htn⟩ : ∃ t : Nat, zs.getD (m - 1) 0 = (t : Int) ∧ t < xss.length := by
              have h9 := hzr (zs[m - 1]'(by omega)) (List.getElem_mem _)
              rw [getD_get (show m - 1 < zs.length by omega)]
              exact ⟨(zs[m - 1]'(by omega)).toNat, by omega, by omega⟩
            rw [ht] at hcz
            have hAb : Above w1.heap.size w2 wr := by obtain ⟨_, _, _, _, h9, _⟩ := hCk; exact h9
            have HXr := Lib.hid (HX.out.keep hAb)
            have HCk := Lib.hid hCk
            have hm1' : (1 : Int) ≤ (m : Int) := by omega
            have hm2' : (m : Int) - 1 < (m : Int) := by omega
            have hzw : w1.heap.size ≤ wr.heap.size := by omega
            have hlist : ListW wr xss.length (some ⟨wr.heap.size, 0, none⟩) 0 0 (wr.alloc (.cells #[] 3)) := ⟨[], rfl, by simp, OwnI.lit wr, (Below.refl _ _).alloc (Nat.le_refl _) _⟩
            clear hmb hbe hrow hzl hzr hown0 ht hAb hCk hz4
            go_wp2
            obtain ⟨wu, hwu⟩ : ∃ wu : World, wu = wr.alloc (.cells #[] 3) := ⟨_, rfl⟩
            rw [← hwu] at hlist ⊢
            clear hwu
            obtain ⟨wb, hwb⟩ : ∃ wb : World, wb = wr := ⟨_, rfl⟩
            rw [← hwb] at hlist HXr HCk hcz hzw ⊢
            clear hwb
            go_loopw [11, 12] (fun lv jv wi => ∃ (j ml : Nat) (al : Option Addr) (cl : Nat), j ≤ xss.length ∧ jv = .int .i64 j ∧ lv = .slice al ml cl ∧ ml ≤ j ∧ ListW wb xss.length al ml cl wi) (fun _ jv _ => xss.length - (intOf jv).toNat)
            case atStart => exact ⟨0, 0, _, 0, by omega, rfl, rfl, by omega, hlist⟩
            case round =>
              obtain ⟨j, ml, al, cl, hj, rfl, rfl, hmj, hL⟩ := hrel
              clear hlist
              obtain ⟨ls, hll, hlr, hlo, hlb⟩ := hL
              have HLL := Lib.hid hll
              have HLR := Lib.hid hlr
              have HLO := Lib.hid hlo
              have HLB := Lib.hid hlb
              have hzl := hlb.size
              clear hll hlr hlo hlb
              by_cases hjn : (j : Int) < (xss.length : Int)
              · obtain ⟨ad', cap2, hed, _, _, V', hvc, hV'⟩ := (HXr.out.below HLB.out).opened
                injection hed with f1 _ f3
                subst f1 f3
                obtain ⟨b2, off2, rfl, _, hr⟩ := hvc (by omega)
                have hrow := hr t htn
                obtain ⟨a3, c3, hv3, _, _, h3c⟩ := (hV' t htn).opened
                have hlen : xss[t].length = xss.length := (HROW.out t htn).1
                obtain ⟨b3, off3, rfl, _, hx⟩ := h3c (by omega)
                rw [hv3, hlen] at hrow
                have hxq := hx j (by omega)
                obtain ⟨x, hxe⟩ : ∃ x, x = (xss[t]'htn)[j]'(by omega) := ⟨_, rfl⟩
                rw [← hxe] at hxq
                have hi4 : (t : Int) < (xss.length : Int) := by omega
                clear hxe hx h3c hv3 hr hV' hvc hlen
                by_cases hx1 : x = 1
                · have hxb : (x == 1) = true := by simpa using hx1
                  have hown : OwnI wb.heap.size (wr.alloc (.cells #[.int .i64 (j : Int)] 3)) (.slice al ml cl) ls := World.ownsRow.alloc HLO.out _
                  clear hx1
                  go_wp2_with (at_builtin; refine wpList_push_int _ rfl (.tmp 62) (.tmp 64) rfl wb.heap.size (.slice al ml cl) ls rfl hown ⟨wr.heap.size, 0, none⟩ 1 (j : Int) rfl (by simp) ?_ ?_ ?_)
                  · have := HLL.out; omega
                  · first | omega | (simp; omega)
                  · intro a7 c7 w7 ho7 hg7
                    rw [HLL.out] at ho7 ⊢
                    have HL7 := Lib.hid (show ListW wb xss.length a7 (ml + 1) c7 w7 from ⟨ls ++ [(j : Int)], by simp [HLL.out], fun y hy => by
                      rcases List.mem_append.1 hy with h | h
                      · exact HLR.out y h
                      · simp at h; rw [h]; omega, ho7, (HLB.out.alloc hzl _).grown hg7 (by simp; omega) (fun i hi => (World.ownsRow.lt HLO.out i hi).1)⟩)
                    clear ho7 hg7 hown
                    go_wp2
                    go_roundw
                    case rel => exact ⟨j + 1, ml + 1, a7, c7, by omega, by go_num, rfl, by omega, HL7.out⟩
                    case measure => simp [intOf]; omega
                · have hxb : (x == 1) = false := by simpa using hx1
                  have HL7 := Lib.hid (show ListW wb xss.length al ml cl wr from ⟨ls, HLL.out, HLR.out, HLO.out, HLB.out⟩)
                  clear hx1
                  go_wp2
                  go_roundw
                  case rel => exact ⟨j + 1, ml, al, cl, by omega, by go_num, rfl, by omega, HL7.out⟩
                  case measure => simp [intOf]; omega
              · by_cases hml : ml = 0
                · have hmlb : ((ml : Int) == 0) = true := by rw [beq_iff_eq]; omega
                  have HCf := Lib.hid (HCk.out.below HLB.out)
                  have HML := Lib.hid hml
                  clear hml
                  go_wp2
                  go_meet
                  case rel => exact ⟨_, m, co, rfl, by omega, HCf.out.later (by omega) (Nat.le_refl _)⟩
                · have hmlb : ((ml : Int) == 0) = false := by rw [beq_eq_false_iff_ne]; omega
                  have hml1 : (1 : Int) ≤ (ml : Int) := by omega
                  have hCw := HCk.out.below HLB.out
                  obtain ⟨gl, capl, hel, hglB, _⟩ := own_head HLO.out (by have := HLL.out; omega)
                  injection hel with he1 he2 he3
                  clear he2
                  subst he1 he3
                  clear hml
                  go_wp2_with fail
                  refine (hCw.pick (n := (ml : Int)) hz2 hK1 (by omega) (by unfold In64; omega)).mono ?_
                  rintro e w9 ⟨r, rfl, hr0, hr1, hg9, hC9⟩
                  have hr1 := hr1 (by omega)
                  obtain ⟨r, rfl⟩ := Int.eq_ofNat_of_zero_le hr0
                  have hlo9 := HLO.out.keep (Above.of_grown hg9 (by omega))
                  have hcy := (hlo9.cellD r (by have := HLL.out; omega)).1
                  have hyr := HLR.out (ls.getD r 0) (by rw [getD_get (show r < ls.length by have := HLL.out; omega)]; exact List.getElem_mem _)
                  obtain ⟨y, hye⟩ : ∃ y, y = ls.getD r 0 := ⟨_, rfl⟩
                  rw [← hye] at hcy hyr
                  obtain ⟨zs, hzl9, hzr9, hown9, hz9, hput9⟩ := hC9.own
                  have hown : OwnI w2.heap.size (w9.alloc (.cells #[.int .i64 y] 3)) (.slice (some ⟨gc, 0, none⟩) m co) zs := World.ownsRow.alloc hown9 _
                  have HZL := Lib.hid hzl9
                  have HPut := Lib.hid hput9
                  clear hCw hg9 hC9 hlo9 hye hzl9 hzr9 hown9 hput9
                  go_wp2_with (at_builtin; refine wpList_push_int _ rfl (.tmp 69) (.tmp 77) rfl w2.heap.size (.slice (some ⟨gc, 0, none⟩) m co) zs rfl hown ⟨w9.heap.size, 0, none⟩ 1 y rfl ?_ ?_ ?_ ?_)
                  · exact cell_of_one (heap_alloc_new w9 _)
                  · have := HZL.out; omega
                  · simp; omega
                  · intro a7 c7 w7 ho7 hg7
                    rw [HZL.out] at ho7 ⊢
                    have HW7 := Lib.hid (HPut.out _ y xss.length w7 a7 c7 hyr.1 hyr.2 (Nat.le_refl _) hK1 hz2 ho7 hg7)
                    clear ho7 hg7 hown
                    go_wp2
                    go_roundw
                    case rel => exact ⟨k + 1, m + 1, a7, c7, by omega, by go_num, rfl, by omega, fun _ => HBE.out, HW7.out.later (by omega) (Nat.le_refl _)⟩
                    case measure => simp [intOf]; omega
          · have hm0i : ¬ (0 : Int) < (m : Int) := by omega
            have HC := Lib.hid hCk
            clear hCk hmb
            go_wp2
            go_meet
            case rel => exact ⟨ao, m, co, rfl, by omega, HC.out.later (by omega) (Nat.le_refl _)⟩
        · have HC := Lib.hid hCk
          clear hCk hmb
          go_wp2
          go_meet
          case rel => exact ⟨ao, m, co, rfl, by omega, HC.out.later (by omega) (Nat.le_refl _)⟩
    case rest =>
      obtain ⟨ao, m, co, rfl, hm40, hC6⟩ := hcut
      clear hC4
      go_wp2_with fail
      refine (hC6.odd hz2 hK1 (by omega) (by unfold In64; omega)).mono ?_
      rintro e w7 ⟨b2, rfl, hC7⟩
      clear hC6
      cases b2
      · obtain ⟨zs, hzl, hzr, hown, hA, _, hgr, hzz⟩ := hC7
        have HF := Lib.hid (show MetOut w (.returned (.tuple #[.slice a' xss.length cap', .slice a2 ys.length c2, .slice ao m co])) w7 from ⟨xss, a', cap', ys, a2, c2, zs, ao, co, by rw [hzl], (HX.out.keep hA).mono hb1, HL.out, (HY.out.keep hA).mono hb1, hyl, by rw [hzl]; exact (hown.toInts (fun y hy => by have := hzr y hy; unfold In64; omega)).mono (by omega), by omega, by rw [HKE.out] at hgr; exact below_of_grown HB.out hgr (Nat.le_refl _)⟩)
        clear hzl hzr hown hA hgr
        go_wp2
        go_ret3
        exact HF.out
      · obtain ⟨zs, hzl, hzr, hown0, hz7, hput⟩ := hC7.own
        have hown : OwnI w2.heap.size (w7.alloc (.cells #[.int .i64 9] 3)) (.slice ao m co) zs := World.ownsRow.alloc hown0 _
        have HZL := Lib.hid hzl
        have HPut := Lib.hid hput
        clear hC7 hown0 hzl hput hzr
        go_wp2_with (at_builtin; refine wpList_push_int _ rfl (.tmp 81) (.tmp 82) rfl w2.heap.size (.slice ao m co) zs rfl hown ⟨w7.heap.size, 0, none⟩ 1 9 rfl ?_ ?_ ?_ ?_)
        · exact cell_of_one (heap_alloc_new w7 _)
        · have := HZL.out; omega
        · simp; omega
        · intro a8 c8 w8 ho8 hg8
          rw [HZL.out] at ho8 ⊢
          have hC8 := HPut.out _ 9 10 w8 a8 c8 (by omega) (by omega) (by omega) hK1 hz2 ho8 hg8
          obtain ⟨zs8, hzl8, hzr8, hown8, hA, _, hgr, hzz⟩ := hC8
          have HF := Lib.hid (show MetOut w (.returned (.tuple #[.slice a' xss.length cap', .slice a2 ys.length c2, .slice a8 (m + 1) c8])) w8 from ⟨xss, a', cap', ys, a2, c2, zs8, a8, c8, by rw [hzl8], (HX.out.keep hA).mono hb1, HL.out, (HY.out.keep hA).mono hb1, hyl, by rw [hzl8]; exact (hown8.toInts (fun y hy => by have := hzr8 y hy; unfold In64; omega)).mono (by omega), by omega, by rw [HKE.out] at hgr; exact below_of_grown HB.out hgr (Nat.le_refl _)⟩)
          clear ho8 hg8 hown hzl8 hzr8 hown8 hA hgr
          go_wp2
          go_ret3
          exact HF.out

end Go.Proofs.Ytoddomhpdeoeeaa
