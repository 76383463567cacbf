/- The reader of a code (spec.l20Rd): opening, pick, odd. Which number is drawn is never asked: only its range. -/
import Derived.Test.YtenlngclocfnlaaGreatDoorBunA
import Derived.Test.YtenlngclocfnlaaGreatDoorBunB
import Derived.WideKeyEntry
import Derived.Test.YtenlngclocfnlaaGreatDoorBunC
import Derived.Test.YtenlngclocfnlaaGreatDoorBunE
import Derived.Deep.AppendLies
import Derived.Deep.RegionLaw
/- The reader of a code (spec.l20Rd): opening, pick, odd. Which number is drawn is never asked: only its range. -/
namespace Go.Proofs.YtenlngclocfnlaaGreatDoor
open Go.RowKit
set_option linter.unusedVariables false

/-- The slice value v reads in w as the bytes bs. -/
def Bytes (B : Nat) (w : World) (v : Value) (bs : List Int) : Prop := SL B w v (bs.map (Value.int .u8)) ∧ ∀ x ∈ bs, 0 ≤ x ∧ x ≤ 255
theorem Bytes.keep {B : Nat} {w w' : World} {v : Value} {bs : List Int} (h : Bytes B w v bs) (hs : Above B w w') : Bytes B w' v bs := ⟨h.1.keep hs, h.2⟩
theorem Bytes.below {B : Nat} {w w' : World} {v : Value} {bs : List Int} (h : Bytes B w v bs) (hb : Below w.heap.size w w') : Bytes B w' v bs := ⟨h.1.below hb, h.2⟩

/-- A reader lies in block K: a slice of at most 2000 bytes, in blocks below K, and a place p. -/
structure Rd (w : World) (K : Nat) (a : Option Addr) (cap : Nat) (bs : List Int) (p : Int) : Prop where
  block : w.heap[K]? = some (.cells #[.slice a bs.length cap, .int .i64 p] 110 (0, 0))
  len : bs.length ≤ 2000
  p0 : 0 ≤ p
  rng : ∀ x ∈ bs, 0 ≤ x ∧ x ≤ 255
  cells : 0 < bs.length → ∃ b off, a = some ⟨b, off, none⟩ ∧ b < K ∧ ∀ i (h : i < bs.length), w.cell? ⟨b, off + i, none⟩ = some (.int .u8 bs[i])

theorem Rd.lt {w : World} {K : Nat} {a : Option Addr} {cap : Nat} {bs : List Int} {p : Int} (h : Rd w K a cap bs p) : K < w.heap.size := (Array.getElem?_eq_some_iff.1 h.block).1

/-- The reader stays while others are written. -/
theorem Rd.keep {w w' : World} {K : Nat} {a : Option Addr} {cap : Nat} {bs : List Int} {p : Int} (h : Rd w K a cap bs p) (hk : ∀ b, b ≤ K → w'.heap[b]? = w.heap[b]?) : Rd w' K a cap bs p := by
  refine ⟨by rw [hk K (Nat.le_refl _)]; exact h.block, h.len, h.p0, h.rng, fun hp => ?_⟩
  obtain ⟨b, off, h1, h2, h3⟩ := h.cells hp
  exact ⟨b, off, h1, h2, fun i hi => by rw [World.cell?_of_block (w := w) (hk b (by omega))]; exact h3 i hi⟩
theorem Rd.below {w w' : World} {K : Nat} {a : Option Addr} {cap : Nat} {bs : List Int} {p : Int} (h : Rd w K a cap bs p) (hb : Below w.heap.size w w') : Rd w' K a cap bs p :=
  h.keep fun b hbk => hb.block b (by have := h.lt; omega)

/-- What a draw leaves: the reader some places on; nothing else that was there is turned. -/
def Drew (K : Nat) (a : Option Addr) (cap : Nat) (bs : List Int) (p : Int) (n : Int) (w w' : World) : Prop := (∃ p', Rd w' K a cap bs p' ∧ p' ≤ p + n) ∧ w.grownBy w' (some K)

theorem Rd.drewN {w : World} {K : Nat} {a : Option Addr} {cap : Nat} {bs : List Int} {p : Int} (h : Rd w K a cap bs p) (n : Nat) : Rd (w.drewN n) K a cap bs p := h.keep fun _ _ => rfl
theorem Drew.drewN {K : Nat} {a : Option Addr} {cap : Nat} {bs : List Int} {p n : Int} {w w' : World} (h : Drew K a cap bs p n w w') (q : Nat) : Drew K a cap bs p n w (w'.drewN q) := by
  obtain ⟨⟨p', h1, h2⟩, h3⟩ := h
  exact ⟨⟨p', h1.drewN q, h2⟩, ⟨h3.os, h3.tape, h3.output, h3.size, h3.block⟩⟩

theorem step_reader {w : World} {K : Nat} {a : Option Addr} {cap : Nat} {bs : List Int} {p : Int} (h : Rd w K a cap bs p) (hp : p ≤ 9000000000000000) :
    Rd (w.setCell ⟨K, 1, none⟩ (.int .i64 (p + 1))) K a cap bs (p + 1) := by
  have hlt := h.lt
  have hb : (w.setCell ⟨K, 1, none⟩ (.int .i64 (p + 1))).heap[K]? = some (.cells #[.slice a bs.length cap, .int .i64 (p + 1)] 110 (0, 0)) := by
    have := h.block
    simp only [World.setCell, Array.getElem?_modify, if_true, this]
    rfl
  refine ⟨hb, h.len, by have := h.p0; omega, h.rng, fun hq => ?_⟩
  obtain ⟨b, off, h1, h2, h3⟩ := h.cells hq
  refine ⟨b, off, h1, h2, fun i hi => ?_⟩
  rw [World.cell?_of_block (w := w) (Below.heap_setCell w ⟨K, 1, none⟩ _ b (by simp; omega))]
  exact h3 i hi

theorem xor_mod {E n : Int} (h0 : 0 ≤ E) (h1 : E < 4611686018427387904) (hn : 1 ≤ n) : 0 ≤ (bits .xor .i64 E (E / 64)).tmod n ∧ (bits .xor .i64 E (E / 64)).tmod n < n := by
  obtain ⟨X, rfl⟩ := Int.eq_ofNat_of_zero_le h0
  have e : (X : Int) / 64 = ((X / 64 : Nat) : Int) := by simp
  rw [e, i64_xor_nat _ _ (by omega) (by omega), Int.tmod_eq_emod_of_nonneg (Int.natCast_nonneg _)]
  exact ⟨Int.emod_nonneg _ (by omega), Int.emod_lt_of_pos _ (by omega)⟩

/-- pick's result: a number of its range. -/
def Picked (n : Int) (K : Nat) (a : Option Addr) (cap : Nat) (bs : List Int) (p : Int) (w : World) (e : Ending) (w' : World) : Prop :=
  ∃ r : Int, e = .returned (.int .i64 r) ∧ 0 ≤ r ∧ (1 ≤ n → r < n) ∧ Drew K a cap bs p 1 w w'

set_option maxHeartbeats 1000000 in
theorem pick_any (n : Int) (w : World) (K : Nat) (a : Option Addr) (cap : Nat) (bs : List Int) (p : Int) (h : Rd w K a cap bs p) (hp : p ≤ 1000000000000) (hn : In64 n) :
    Calls Tryz.prog 41 #[.pointer (some ⟨K, 0, none⟩), .int .i64 n] w (Picked n K a cap bs p w) := by
  have hc0 : w.cell? ⟨K, 0, none⟩ = some (.slice a bs.length cap) := by simp [World.cell?, h.block]
  have hc1 : w.cell? ⟨K, 1, none⟩ = some (.int .i64 p) := by simp [World.cell?, h.block]
  have hf1 : w.frozen? ⟨K, 1, none⟩ = false := by simp [World.frozen?, h.block]
  have hp0 := h.p0
  have HD := Lib.hid (show Drew K a cap bs p 1 w (w.setCell ⟨K, 1, none⟩ (.int .i64 (p + 1))) from ⟨⟨p + 1, step_reader h (by omega), by omega⟩, grownBy_setCell w ⟨K, 1, none⟩ _⟩)
  by_cases hz : n < 1
  · go_enter Tryz.func41, Tryz.ntmps41
    go_wp2
    go_ret
    exact ⟨0, rfl, by omega, by omega, HD.out⟩
  by_cases hl : bs.length = 0
  · have hl1 : ((bs.length : Int) == 0) = true := by rw [beq_iff_eq]; omega
    have hn1 : 1 ≤ n := by omega
    clear hl hz
    go_enter Tryz.func41, Tryz.ntmps41
    go_wp2
    go_ret
    exact ⟨0, rfl, by omega, by omega, HD.out⟩
  have hl1 : ((bs.length : Int) == 0) = false := by rw [beq_eq_false_iff_ne]; omega
  have hn1 : 1 ≤ n := by omega
  obtain ⟨P, rfl⟩ := Int.eq_ofNat_of_zero_le hp0
  obtain ⟨b, off, rfl, hbK, hx⟩ := h.cells (by omega)
  have hx' : ∀ i (hi : i < bs.length), (w.setCell ⟨K, 1, none⟩ (.int .i64 ((P : Int) + 1))).cell? ⟨b, off + i, none⟩ = some (.int .u8 bs[i]) := fun i hi => by
    rw [World.cell?_of_block (w := w) (Below.heap_setCell w ⟨K, 1, none⟩ _ b (by simp; omega))]
    exact hx i hi
  have hlen2 := h.len
  have hrng := h.rng
  have hn2 : n ≤ 9223372036854775807 := hn.2
  by_cases hlt : P < bs.length
  · have hxk := hx' P hlt
    have hr := hrng _ (List.getElem_mem hlt)
    obtain ⟨x, hx1⟩ : ∃ x, x = bs[P] := ⟨_, rfl⟩
    rw [← hx1] at hxk hr
    obtain ⟨hr0, hr1⟩ := hr
    clear hx hx' hrng hx1 hz hl h hn
    go_enter Tryz.func41, Tryz.ntmps41
    go_wp2
    go_ret
    exact ⟨_, rfl, Int.emod_nonneg _ (by omega), fun _ => Int.emod_lt_of_pos _ (by omega), HD.out⟩
  · have hm1 : P % bs.length < bs.length := Nat.mod_lt _ (by omega)
    have hm2 : (P * 7 + 3) % bs.length < bs.length := Nat.mod_lt _ (by omega)
    have hxk := hx' _ hm1
    have hyk := hx' _ hm2
    have hr := hrng _ (List.getElem_mem hm1)
    have hs := hrng _ (List.getElem_mem hm2)
    obtain ⟨x, hx1⟩ : ∃ x, x = bs[P % bs.length] := ⟨_, rfl⟩
    obtain ⟨y, hy1⟩ : ∃ y, y = bs[(P * 7 + 3) % bs.length] := ⟨_, rfl⟩
    rw [← hx1] at hxk hr
    rw [← hy1] at hyk hs
    obtain ⟨hr0, hr1⟩ := hr
    obtain ⟨hs0, hs1⟩ := hs
    have hge : bs.length ≤ P := by omega
    have hmi0 : (0 : Int) ≤ (P : Int) % (bs.length : Int) := Int.emod_nonneg _ (by omega)
    have hmi1 : (P : Int) % (bs.length : Int) < (bs.length : Int) := Int.emod_lt_of_pos _ (by omega)
    have hmj0 : (0 : Int) ≤ ((P : Int) * 7 + 3) % (bs.length : Int) := Int.emod_nonneg _ (by omega)
    have hmj1 : ((P : Int) * 7 + 3) % (bs.length : Int) < (bs.length : Int) := Int.emod_lt_of_pos _ (by omega)
    have hqq0 : (0 : Int) ≤ (P : Int) / (bs.length : Int) := Int.ediv_nonneg (by omega) (by omega)
    have hqq1 : (P : Int) / (bs.length : Int) ≤ (P : Int) := Int.ediv_le_self _ (by omega)
    have e1 : ((P : Int) % (bs.length : Int)).toNat = P % bs.length := by
      have : (P : Int) % (bs.length : Int) = ((P % bs.length : Nat) : Int) := by simp
      rw [this, Int.toNat_natCast]
    have e2 : (((P : Int) * 7 + 3) % (bs.length : Int)).toNat = (P * 7 + 3) % bs.length := by
      have : ((P : Int) * 7 + 3) % (bs.length : Int) = (((P * 7 + 3) % bs.length : Nat) : Int) := by simp
      rw [this, Int.toNat_natCast]
    have hne : ¬ ((bs.length : Int) = 0) := by omega
    have hne1 : (1 : Int) ≤ (bs.length : Int) := by omega
    have hne2 : ¬ bs.length = 0 := by omega
    clear hx hx' hrng hx1 hy1 hz hl h hn hlt
    go_enter Tryz.func41, Tryz.ntmps41
    go_wp2
    go_quiet (fail)
    go_wp2
    go_ret
    have hE0 : 0 ≤ x * 131 + y * 1117 + (P : Int) * 29 + (P : Int) / (bs.length : Int) * 53 := by omega
    have hE1 : x * 131 + y * 1117 + (P : Int) * 29 + (P : Int) / (bs.length : Int) * 53 < 4611686018427387904 := by omega
    exact ⟨_, rfl, (xor_mod hE0 hE1 hn1).1, fun _ => (xor_mod hE0 hE1 hn1).2, HD.out.drewN nq⟩

theorem grown_trans {a b c : World} {K : Nat} (h : a.grownBy b (some K)) (h' : b.grownBy c (some K)) : a.grownBy c (some K) :=
  h.andThen h' fun _ e => by cases e; exact .inr rfl
theorem grown_of_below {a b : World} {K : Nat} (h : Below a.heap.size a b) : a.grownBy b (some K) := ⟨h.os, h.tape, h.output, h.size, fun k hk _ => h.block k hk⟩

/-- odd's result: some truth. -/
def Odd (K : Nat) (a : Option Addr) (cap : Nat) (bs : List Int) (p : Int) (w : World) (e : Ending) (w' : World) : Prop :=
  ∃ b : Bool, e = .returned (.bool b) ∧ Drew K a cap bs p 1 w w'

theorem odd_any (n : Int) (w : World) (K : Nat) (a : Option Addr) (cap : Nat) (bs : List Int) (p : Int) (h : Rd w K a cap bs p) (hp : p ≤ 1000000000000) (hn : In64 n) :
    Calls Tryz.prog 48 #[.pointer (some ⟨K, 0, none⟩), .int .i64 n] w (Odd K a cap bs p w) := by
  have hP := pick_any n w K a cap bs p h hp hn
  have hn2 := hn.2
  have hn3 := hn.1
  by_cases hz : 0 < n
  · clear hn
    go_enter Tryz.func48, Tryz.ntmps48
    go_wp2_with fail
    refine hP.mono ?_
    rintro e w2 ⟨r, rfl, _, _, hD⟩
    have HD := Lib.hid hD
    clear hD
    go_wp2
    go_ret
    exact ⟨_, rfl, HD.out⟩
  · clear hn hP
    have HD := Lib.hid (show Drew K a cap bs p 1 w w from ⟨⟨p, h, by omega⟩, World.grownBy.refl _ _⟩)
    clear h
    go_enter Tryz.func48, Tryz.ntmps48
    go_wp2
    go_ret
    exact ⟨_, rfl, HD.out⟩

/-- The opening of a code: a new reader. -/
def Opened (w : World) (e : Ending) (w' : World) : Prop :=
  ∃ a cap bs, e = .returned (.pointer (some ⟨w.heap.size, 0, none⟩)) ∧ Rd w' w.heap.size a cap bs 0 ∧ Below w.heap.size w w'

theorem open_any {B : Nat} (v : Value) (bs : List Int) (w : World) (h : Bytes B w v bs) :
    Calls Tryz.prog 38 #[v] w (Opened w) := by
  obtain ⟨⟨a, cap, rfl, h1, h2, h3⟩, hr⟩ := h
  simp only [List.length_map] at h1 h3
  have key : ∀ n, n ≤ bs.length → n ≤ 2000 → Rd (w.alloc (.cells #[.slice a n cap, .int .i64 0] 110)) w.heap.size a cap (bs.take n) 0 := by
    intro n hn hn2
    have hl : (bs.take n).length = n := by rw [List.length_take]; omega
    refine ⟨by rw [hl]; exact heap_alloc_new w _, by omega, by omega, fun x hx => hr x (List.mem_of_mem_take hx), fun hp => ?_⟩
    obtain ⟨b, off, h4, h5, h6⟩ := h3 (by omega)
    have hb := World.block_lt_of_cell? w _ (h6 0 (by omega))
    refine ⟨b, off, h4, hb, fun i hi => ?_⟩
    have := h6 i (by omega)
    rw [List.getElem_take, World.cell?_of_block (w := w) (Below.heap_alloc w _ b hb), this, List.getElem_map]
  by_cases hl : bs.length ≤ 2000
  · have HK := Lib.hid (key bs.length (Nat.le_refl _) hl)
    have hlm : (bs.map (Value.int .u8)).length = bs.length := List.length_map _
    rw [hlm]
    clear key h3 hr hlm
    go_enter Tryz.func38, Tryz.ntmps38
    go_wp2
    go_ret
    refine ⟨_, _, _, rfl, HK.out, (Below.refl _ _).alloc (Nat.le_refl _) _⟩
  · have HK := Lib.hid (key 2000 (by omega) (by omega))
    have hlm : (bs.map (Value.int .u8)).length = bs.length := List.length_map _
    rw [hlm]
    have hc : 2000 ≤ cap := by omega
    clear key h3 hr hlm
    go_enter Tryz.func38, Tryz.ntmps38
    go_wp2
    go_ret
    refine ⟨_, _, _, rfl, HK.out, (Below.refl _ _).alloc (Nat.le_refl _) _⟩

end Go.Proofs.YtenlngclocfnlaaGreatDoor

/- Drawn numbers for desks. -/
namespace Go.Proofs.YtenlngclocfnlaaGreatDoor
open Go.RowKit
set_option linter.unusedVariables false
set_option maxRecDepth 100000

end Go.Proofs.YtenlngclocfnlaaGreatDoor

/- Drawn codes. -/
namespace Go.Proofs.YtenlngclocfnlaaGreatDoor
open Go.RowKit
set_option linter.unusedVariables false
set_option maxRecDepth 100000

theorem odd_zero (w : World) (K : Nat) :
    Calls Tryz.prog 48 #[.pointer (some ⟨K, 0, none⟩), .int .i64 0] w fun e w' => e = .returned (.bool false) ∧ w = w' := by
  go_enter Tryz.func48, Tryz.ntmps48
  go_wp2
  go_ret
  exact ⟨rfl, rfl⟩

theorem rd_grown {w w' : World} {K : Nat} {a : Option Addr} {cap : Nat} {bs : List Int} {p : Int} {k : Option Nat} (h : Rd w K a cap bs p) (hg : w.grownBy w' k) (hk : ∀ j, k = some j → K < j) : Rd w' K a cap bs p := by
  have hK := h.lt
  exact h.keep fun b hb => hg.block b (by omega) (fun e => by have := hk b e.symm; omega)
/-- A code so far, m pegs below M. -/
def CodW (w : World) (K : Nat) (a : Option Addr) (cap : Nat) (bs : List Int) (M : Int) (q : Int) (ao : Option Addr) (m co : Nat) (wi : World) : Prop :=
  ∃ ys, ys.length = m ∧ (∀ y ∈ ys, 0 ≤ y ∧ y < M) ∧ OwnI w.heap.size wi (.slice ao m co) ys ∧ (∃ p', Rd wi K a cap bs p' ∧ p' ≤ q) ∧ w.grownBy wi (some K)
theorem CodW.pick {w wi : World} {K : Nat} {a : Option Addr} {cap : Nat} {bs : List Int} {M q n : Int} {ao : Option Addr} {m co : Nat} (h : CodW w K a cap bs M q ao m co wi) (hK : K < w.heap.size) (hq : q ≤ 100000000000) (hn : In64 n) :
    Calls Tryz.prog 41 #[.pointer (some ⟨K, 0, none⟩), .int .i64 n] wi fun e w' => ∃ r, e = .returned (.int .i64 r) ∧ 0 ≤ r ∧ (1 ≤ n → r < n) ∧ CodW w K a cap bs M (q + 1) ao m co w' := by
  obtain ⟨ys, h1, h2, h3, ⟨p, h5, h6⟩, h7⟩ := h
  refine (pick_any n _ K a cap bs p h5 (by omega) hn).mono ?_
  rintro e w' ⟨r, rfl, hr0, hr1, ⟨p', hR, hp⟩, hg⟩
  exact ⟨r, rfl, hr0, hr1, ys, h1, h2, h3.keep (Above.of_grown hg (by omega)), ⟨p', hR, by omega⟩, grown_trans h7 hg⟩
theorem CodW.odd {w wi : World} {K : Nat} {a : Option Addr} {cap : Nat} {bs : List Int} {M q n : Int} {ao : Option Addr} {m co : Nat} (h : CodW w K a cap bs M q ao m co wi) (hK : K < w.heap.size) (hq : q ≤ 100000000000) (hn : In64 n) :
    Calls Tryz.prog 48 #[.pointer (some ⟨K, 0, none⟩), .int .i64 n] wi fun e w' => ∃ b, e = .returned (.bool b) ∧ CodW w K a cap bs M (q + 1) ao m co w' := by
  obtain ⟨ys, h1, h2, h3, ⟨p, h5, h6⟩, h7⟩ := h
  refine (odd_any n _ K a cap bs p h5 (by omega) hn).mono ?_
  rintro e w' ⟨b, rfl, ⟨p', hR, hp⟩, hg⟩
  exact ⟨b, rfl, ys, h1, h2, h3.keep (Above.of_grown hg (by omega)), ⟨p', hR, by omega⟩, grown_trans h7 hg⟩
theorem CodW.own {w wi : World} {K : Nat} {a : Option Addr} {cap : Nat} {bs : List Int} {M q : Int} {ao : Option Addr} {m co : Nat} (h : CodW w K a cap bs M q ao m co wi) :
    ∃ ys, ys.length = m ∧ OwnI w.heap.size wi (.slice ao m co) ys ∧ w.heap.size ≤ wi.heap.size ∧
      ∀ (o : Obj) (x : Int) (w7 : World) (a' : Option Addr) (c' : Nat), 0 ≤ x → x < M → K < w.heap.size → OwnI w.heap.size w7 (.slice a' (m + 1) c') (ys ++ [x]) → (wi.alloc o).grownBy w7 (Value.slice ao m co).ownBlock → CodW w K a cap bs M q a' (m + 1) c' w7 := by
  obtain ⟨ys, h1, h2, h3, ⟨p, h5, h6⟩, h7⟩ := h
  refine ⟨ys, h1, h3, h7.size, fun o x w7 a' c' hx0 hx1 hK ho hg => ?_⟩
  have hblk : ∀ j, (Value.slice ao m co).ownBlock = some j → w.heap.size ≤ j := fun j hj => (World.ownsRow.lt h3 j hj).1
  refine ⟨ys ++ [x], by simp [h1], fun y hy => ?_, ho, ⟨p, ?_, h6⟩, (h7.andThen (World.grownBy_alloc wi o none) (fun _ e => by cases e)).andThen hg (fun j hj => .inl (by have := hblk j hj; omega))⟩
  · rcases List.mem_append.1 hy with h | h
    · exact h2 y h
    · simp at h; rw [h]; exact ⟨hx0, hx1⟩
  · exact rd_grown (h5.below ((Below.refl _ _).alloc (Nat.le_refl _) o)) hg (fun j hj => by have := hblk j hj; omega)

/-- A drawn code. -/
def CodeDrawn (K : Nat) (a : Option Addr) (cap : Nat) (bs : List Int) (p : Int) (pg M n : Int) (w : World) (e : Ending) (w' : World) : Prop :=
  ∃ ys a' c', e = .returned (.slice a' ys.length c') ∧ OwnI w.heap.size w' (.slice a' ys.length c') ys ∧ (n = 0 → (ys.length : Int) = pg ∧ ∀ y ∈ ys, 0 ≤ y ∧ y < M) ∧ (∀ y ∈ ys, In64 y) ∧ ys.length ≤ 10 ∧ Drew K a cap bs p 12 w w'

set_option maxHeartbeats 4000000 in
theorem code_any (pg c n M : Int) (w : World) (K : Nat) (a : Option Addr) (cap : Nat) (bs : List Int) (p : Int) (h : Rd w K a cap bs p) (hp : p ≤ 10000000000) (hg0 : 0 ≤ pg) (hg4 : pg ≤ 4) (hc0 : 0 ≤ c) (hc1 : c ≤ 10) (hn0 : 0 ≤ n) (hn1 : n ≤ 100) (hok : n = 0 ∨ 1 ≤ pg) (hM : max c 1 = M) :
    Calls Tryz.prog 124 #[.pointer (some ⟨K, 0, none⟩), .int .i64 pg, .int .i64 c, .int .i64 n] w (CodeDrawn K a cap bs p pg M n w) := by
  have hKw := h.lt
  obtain ⟨N, rfl⟩ : ∃ N : Nat, pg = (N : Int) := ⟨pg.toNat, by omega⟩
  have hM1 : 1 ≤ M ∧ M ≤ 10 := by omega
  have hMI : In64 M := by unfold In64; omega
  have hlit : CodW w K a cap bs M p (some ⟨w.heap.size, 0, none⟩) 0 0 (w.alloc (.cells #[] 3)) :=
    ⟨[], rfl, by simp, OwnI.lit w, ⟨p, h.below ((Below.refl _ _).alloc (Nat.le_refl _) _), by omega⟩, World.grownBy_alloc w _ (some K)⟩
  have HC1 := Lib.hid hc1
  clear h
  go_enter Tryz.func124, Tryz.ntmps124
  go_wp2
  go_loopw [9, 10] (fun cv kv wi => ∃ (k : Nat) (ao : Option Addr) (co : Nat), k ≤ N ∧ kv = .int .i64 k ∧ cv = .slice ao k co ∧ CodW w K a cap bs M (p + k) ao k co wi) (fun _ kv _ => N - (intOf kv).toNat)
  case atStart => exact ⟨0, _, _, Nat.zero_le _, rfl, rfl, by simpa using hlit⟩
  case round =>
    obtain ⟨k, ao, co, hk, rfl, rfl, hW⟩ := hrel
    obtain ⟨wk, rfl⟩ : ∃ x, x = wr := ⟨_, rfl⟩
    clear hlit
    by_cases hlt : (k : Int) < (N : Int)
    · have hP := hW.pick (n := M) hKw (by omega) hMI
      clear hW
      have hMc : (c < 1 ∧ M = 1) ∨ (¬ c < 1 ∧ M = c) := by omega
      rcases hMc with ⟨hcl, hMc⟩ | ⟨hcl, hMc⟩
      all_goals
       clear hM
       subst hMc
       go_wp2_with fail
       refine hP.mono ?_
       rintro e w4 ⟨x, rfl, hx0, hx1, hW4⟩
       have hx1 := hx1 hM1.1
       obtain ⟨ys, hyl, hown, hz4, hput⟩ := hW4.own
       have HOW := Lib.hid (show OwnI w.heap.size (w4.alloc (.cells #[.int .i64 x] 3)) (.slice ao k co) ys from World.ownsRow.alloc hown _)
       have HYL := Lib.hid hyl
       have HPUT := Lib.hid hput
       have HX := Lib.hid (And.intro hx0 hx1)
       clear hP hW4 hown hyl hput hx0 hx1
       go_wp2_with (at_builtin; refine wpList_push_int _ rfl (.tmp 17) (.tmp 22) rfl w.heap.size (.slice ao k co) ys rfl HOW.out ⟨w4.heap.size, 0, none⟩ 1 x rfl (cell_of_one (heap_alloc_new w4 _)) (by have := HYL.out; omega) (by simp; omega) ?_; intro a7 c7 w7 ho7 hg7; rw [HYL.out] at ho7 ⊢; have HW7 := Lib.hid (HPUT.out _ x w7 a7 c7 HX.out.1 HX.out.2 hKw ho7 hg7); clear ho7 hg7)
       go_roundw
       case rel => exact ⟨k + 1, a7, c7, by omega, by go_num, rfl, by have := HW7.out; rwa [show p + ((k + 1 : Nat) : Int) = p + k + 1 by omega]⟩
       case measure => simp [intOf]; omega
    · have hkN : k = N := by omega
      subst hkN
      rcases hok with rfl | hpg1
      · obtain ⟨ys, h1, h2, h3, ⟨p', h5, h6⟩, h7⟩ := hW
        have HF := Lib.hid (show CodeDrawn K a cap bs p k M 0 w (.returned (.slice ao k co)) wk from by
          subst h1
          exact ⟨ys, ao, co, rfl, h3, fun _ => ⟨rfl, h2⟩, fun y hy => by have := h2 y hy; unfold In64; omega, by omega, ⟨p', h5, by omega⟩, h7⟩)
        clear h1 h2 h3 h5 h6 h7
        go_wp2_with fail
        refine (odd_zero wk K).mono ?_
        rintro e w5 ⟨rfl, rfl⟩
        go_wp2
        go_ret
        exact HF.out
      · by_cases hnz : n = 0
        · subst hnz
          obtain ⟨ys, h1, h2, h3, ⟨p', h5, h6⟩, h7⟩ := hW
          have HF := Lib.hid (show CodeDrawn K a cap bs p k M 0 w (.returned (.slice ao k co)) wk from by
            subst h1
            exact ⟨ys, ao, co, rfl, h3, fun _ => ⟨rfl, h2⟩, fun y hy => by have := h2 y hy; unfold In64; omega, by omega, ⟨p', h5, by omega⟩, h7⟩)
          clear h1 h2 h3 h5 h6 h7
          go_wp2_with fail
          refine (odd_zero wk K).mono ?_
          rintro e w5 ⟨rfl, rfl⟩
          go_wp2
          go_ret
          exact HF.out
        · have hO := hW.odd (n := n) hKw (by omega) (by unfold In64; omega)
          have HNZ := Lib.hid hnz
          clear hW hnz
          go_wp2_with fail
          refine hO.mono ?_
          rintro e w5 ⟨b, rfl, hW5⟩
          clear hO
          cases b
          · obtain ⟨ys, h1, h2, h3, ⟨p', h5, h6⟩, h7⟩ := hW5
            have HF := Lib.hid (show CodeDrawn K a cap bs p k M n w (.returned (.slice ao k co)) w5 from by
              subst h1
              exact ⟨ys, ao, co, rfl, h3, fun e => absurd e HNZ.out, fun y hy => by have := h2 y hy; unfold In64; omega, by omega, ⟨p', h5, by omega⟩, h7⟩)
            clear h1 h2 h3 h5 h6 h7
            go_wp2
            go_ret
            exact HF.out
          · have hP := hW5.pick (n := 2) hKw (by omega) (by unfold In64; omega)
            clear hW5
            go_wp2_with fail
            refine hP.mono ?_
            rintro e w6 ⟨r, rfl, hr0, hr1, hW6⟩
            clear hP
            by_cases hr : r = 0
            · subst hr
              obtain ⟨ys, hyl, hown, hz4, hput⟩ := hW6.own
              have HOW := Lib.hid (show OwnI w.heap.size (w6.alloc (.cells #[.int .i64 0] 3)) (.slice ao k co) ys from World.ownsRow.alloc hown _)
              have HYL := Lib.hid hyl
              have HPUT := Lib.hid hput
              clear hW6 hown hyl hput hr0 hr1
              go_wp2_with (at_builtin; refine wpList_push_int _ rfl (.tmp 30) (.tmp 31) rfl w.heap.size (.slice ao k co) ys rfl HOW.out ⟨w6.heap.size, 0, none⟩ 1 0 rfl (cell_of_one (heap_alloc_new w6 _)) (by have := HYL.out; omega) (by simp; omega) ?_; intro a7 c7 w7 ho7 hg7; rw [HYL.out] at ho7 ⊢; have HW7 := Lib.hid (HPUT.out _ 0 w7 a7 c7 (by omega) (by omega) hKw ho7 hg7); clear ho7 hg7)
              go_ret
              obtain ⟨zs, h1, h2, h3, ⟨p', h5, h6⟩, h7⟩ := HW7.out
              refine ⟨zs, a7, c7, by rw [h1]; rfl, by rw [h1]; exact h3, fun e => absurd e HNZ.out, fun y hy => by have := h2 y hy; unfold In64; omega, by omega, ⟨p', h5, by omega⟩, h7⟩
            · obtain ⟨ys, h1, h2, h3, ⟨p', h5, h6⟩, h7⟩ := hW6
              have hrb : (r == 0) = false := by simpa using hr
              obtain ⟨g, capg, he, hBg, hgs, _⟩ := own_head h3 (by omega)
              injection he with he1 he2 he3
              clear he2
              subst he1 he3
              obtain ⟨⟨u0, hc1⟩, hf1⟩ := h3.at 0 (by omega)
              have hset := h3.set 0 c
              have hgrw := grownBy_setCell w6 ⟨g, 0, none⟩ (.int .i64 c)
              have HF := Lib.hid (show CodeDrawn K a cap bs p k M n w (.returned (.slice (some ⟨g, 0, none⟩) k co)) (w6.setCell ⟨g, 0, none⟩ (.int .i64 c)) from by
                subst h1
                refine ⟨ys.set 0 c, _, co, by rw [List.length_set], by rw [List.length_set]; exact hset, fun e => absurd e HNZ.out, fun y hy => ?_, by rw [List.length_set]; omega, ⟨p', rd_grown h5 hgrw (fun j hj => by cases hj; exact Nat.lt_of_lt_of_le hKw hBg), by omega⟩, h7.andThen hgrw (fun j hj => .inl (by cases hj; exact hBg))⟩
                rcases List.mem_or_eq_of_mem_set hy with hy | rfl
                · have := h2 y hy; unfold In64; omega
                · have := HC1.out; unfold In64; omega)
              clear h1 h2 h3 h5 h6 h7 hset hgrw hr
              go_wp2
              go_ret
              exact HF.out

end Go.Proofs.YtenlngclocfnlaaGreatDoor

/- Owned lists of guesses. No walk. -/
namespace Go.Proofs.YtenlngclocfnlaaGreatDoor
open Go.RowKit
set_option linter.unusedVariables false
set_option maxRecDepth 100000

/-- The three cells of an element. -/
def tC (t : Value × Int × Int) : List Value := [t.1, .int .i64 t.2.1, .int .i64 t.2.2]
def cellsT (ts : List (Value × Int × Int)) : List Value := ts.flatMap tC
theorem cellsT_cons (t : Value × Int × Int) (ts : List (Value × Int × Int)) : cellsT (t :: ts) = tC t ++ cellsT ts := rfl
theorem cellsT_append (ts us : List (Value × Int × Int)) : cellsT (ts ++ us) = cellsT ts ++ cellsT us := by simp [cellsT]
theorem cellsT_length : ∀ ts : List (Value × Int × Int), (cellsT ts).length = ts.length * 3
  | [] => rfl
  | t :: ts => by rw [cellsT_cons, List.length_append, cellsT_length ts]; simp [tC]; omega
theorem cellsT_get : ∀ (ts : List (Value × Int × Int)) (k : Nat) (hk : k < ts.length), (cellsT ts)[k * 3]? = some ts[k].1 ∧ (cellsT ts)[k * 3 + 1]? = some (.int .i64 ts[k].2.1) ∧ (cellsT ts)[k * 3 + 2]? = some (.int .i64 ts[k].2.2)
  | [], k, hk => by simp at hk
  | t :: ts, 0, _ => by simp [cellsT_cons, tC]
  | t :: ts, k + 1, hk => by
    have h := cellsT_get ts k (by simpa using hk)
    rw [cellsT_cons]
    have e : (tC t).length = 3 := rfl
    rw [List.getElem?_append_right (by rw [e]; omega), List.getElem?_append_right (by rw [e]; omega), List.getElem?_append_right (by rw [e]; omega), e,
      show (k + 1) * 3 - 3 = k * 3 by omega, show (k + 1) * 3 + 1 - 3 = k * 3 + 1 by omega, show (k + 1) * 3 + 2 - 3 = k * 3 + 2 by omega]
    exact h
theorem setT : ∀ (ts : List (Value × Int × Int)) (k : Nat) (hk : k < ts.length) (t : Value × Int × Int), (((cellsT ts).set (k * 3) t.1).set (k * 3 + 1) (.int .i64 t.2.1)).set (k * 3 + 2) (.int .i64 t.2.2) = cellsT (ts.set k t)
  | [], k, hk, _ => by simp at hk
  | a :: ts, 0, _, t => by simp [cellsT_cons, tC]
  | a :: ts, k + 1, hk, t => by
    have h := setT ts k (by simpa using hk) t
    have e : (tC a).length = 3 := rfl
    rw [List.set_cons_succ, cellsT_cons, cellsT_cons, ← h]
    rw [List.set_append_right _ _ (by rw [e]; omega), List.set_append_right _ _ (by rw [e]; omega), List.set_append_right _ _ (by rw [e]; omega), e,
      show (k + 1) * 3 - 3 = k * 3 by omega, show (k + 1) * 3 + 1 - 3 = k * 3 + 1 by omega, show (k + 1) * 3 + 2 - 3 = k * 3 + 2 by omega]

def OwnT (B : Nat) (w : World) (v : Value) (ts : List (Value × Int × Int)) : Prop := w.ownsRow B 39 3 v ts.length (cellsT ts)
theorem OwnT.opened {B : Nat} {w : World} {v : Value} {ts : List (Value × Int × Int)} (h : OwnT B w v ts) :
    ∃ a cap, v = .slice a ts.length cap ∧ ts.length ≤ cap ∧ cap ≤ 9223372036854775807 ∧
      (0 < ts.length → ∃ g, a = some ⟨g, 0, none⟩ ∧ B ≤ g ∧ g < w.heap.size ∧ (∀ k (h : k < ts.length), w.cell? ⟨g, k * 3, none⟩ = some ts[k].1 ∧ w.cell? ⟨g, k * 3 + 1, none⟩ = some (.int .i64 ts[k].2.1) ∧ w.cell? ⟨g, k * 3 + 2, none⟩ = some (.int .i64 ts[k].2.2)) ∧ ∀ j, w.frozen? ⟨g, j, none⟩ = false) := by
  have hfull := h
  obtain ⟨h0, h⟩ := h
  rcases h with ⟨rfl, h1⟩ | ⟨g, cap, cur, rfl, hb, hg, h1, h2, h3, h4⟩
  · exact ⟨none, 0, by rw [h1], by omega, by omega, by omega⟩
  · refine ⟨_, cap, rfl, h1, h2, fun _ => ⟨g, rfl, hb, (Array.getElem?_eq_some_iff.1 hg).1, fun k hk => ?_, fun j => World.ownsRow.frozenAt hfull j⟩⟩
    have hc : ∀ j, j < ts.length * 3 → cur[j]? = (cellsT ts)[j]? := fun j hj => by
      rw [← h4, List.getElem?_take, if_pos hj, Array.getElem?_toList]
    obtain ⟨q1, q2, q3⟩ := cellsT_get ts k hk
    rw [cell_of_row _ _ _ _ _ _ hg, cell_of_row _ _ _ _ _ _ hg, cell_of_row _ _ _ _ _ _ hg, hc _ (by omega), hc _ (by omega), hc _ (by omega)]
    exact ⟨q1, q2, q3⟩
theorem OwnT.put {B : Nat} {w : World} {g n cap : Nat} {ts : List (Value × Int × Int)} (h : OwnT B w (.slice (some ⟨g, 0, none⟩) n cap) ts) (k : Nat) (hk : k < ts.length) (t : Value × Int × Int) :
    OwnT B (((w.setCell ⟨g, k * 3, none⟩ t.1).setCell ⟨g, k * 3 + 1, none⟩ (.int .i64 t.2.1)).setCell ⟨g, k * 3 + 2, none⟩ (.int .i64 t.2.2)) (.slice (some ⟨g, 0, none⟩) n cap) (ts.set k t) ∧
    w.grownBy (((w.setCell ⟨g, k * 3, none⟩ t.1).setCell ⟨g, k * 3 + 1, none⟩ (.int .i64 t.2.1)).setCell ⟨g, k * 3 + 2, none⟩ (.int .i64 t.2.2)) (some g) := by
  obtain ⟨_, _, he, _⟩ := h.opened
  injection he with _ e2 _
  unfold OwnT at h ⊢
  rw [← e2] at h
  have h1 := World.ownsRow.stored h (k * 3) t.1
  have h2 := World.ownsRow.stored h1.1 (k * 3 + 1) (.int .i64 t.2.1)
  have h3 := World.ownsRow.stored h2.1 (k * 3 + 2) (.int .i64 t.2.2)
  rw [setT ts k hk t] at h3
  refine ⟨?_, (h1.2.andThen h2.2 (fun _ e => by cases e; exact .inr rfl)).andThen h3.2 (fun _ e => by cases e; exact .inr rfl)⟩
  rw [List.length_set, ← e2]
  exact h3.1

/-- Owned guesses: each with a code in a block of its own. -/
def OwnG (B : Nat) (w : World) (v : Value) (gs : List Gs) : Prop :=
  ∃ ts, OwnT B w v ts ∧ ts.length = gs.length ∧ (∀ i (h : i < ts.length) (h' : i < gs.length), OwnI B w ts[i].1 gs[i].code ∧ ts[i].2.1 = gs[i].right ∧ ts[i].2.2 = gs[i].near) ∧
    ∀ i j (hi : i < ts.length) (hj : j < ts.length), i ≠ j → ts[i].1.ownBlock = none ∨ ts[i].1.ownBlock ≠ ts[j].1.ownBlock

theorem OwnG.empty (B : Nat) (w : World) : OwnG B w (.slice none 0 0) [] := ⟨[], World.ownsRow_nil w B _ 3, rfl, by simp, by simp⟩
theorem OwnG.lit (w : World) : OwnG w.heap.size (w.alloc (.cells #[] 39)) (.slice (some ⟨w.heap.size, 0, none⟩) 0 0) [] :=
  ⟨[], World.ownsRow_made w #[] 0 (Nat.le_refl _) (by simp [maxLen]) rfl, rfl, by simp, by simp⟩
theorem OwnG.keep {B : Nat} {w w' : World} {v : Value} {gs : List Gs} (h : OwnG B w v gs) (hs : Above B w w') : OwnG B w' v gs := by
  obtain ⟨ts, h1, h2, h3, h4⟩ := h
  exact ⟨ts, owns_keep h1 hs, h2, fun i hi hi' => ⟨owns_keep (h3 i hi hi').1 hs, (h3 i hi hi').2⟩, h4⟩
theorem OwnG.below {B : Nat} {w w' : World} {v : Value} {gs : List Gs} (h : OwnG B w v gs) (hb : Below w.heap.size w w') : OwnG B w' v gs := h.keep (.of_below hb)
theorem OwnG.mono {B B' : Nat} {w : World} {v : Value} {gs : List Gs} (h : OwnG B w v gs) (hB : B' ≤ B) : OwnG B' w v gs := by
  obtain ⟨ts, h1, h2, h3, h4⟩ := h
  exact ⟨ts, owns_mono h1 hB, h2, fun i hi hi' => ⟨owns_mono (h3 i hi hi').1 hB, (h3 i hi hi').2⟩, h4⟩
theorem OwnG.alloc {B : Nat} {w : World} {v : Value} {gs : List Gs} (h : OwnG B w v gs) (o : Obj) : OwnG B (w.alloc o) v gs := h.below ((Below.refl _ _).alloc (Nat.le_refl _) _)
theorem OwnG.shape {B : Nat} {w : World} {v : Value} {gs : List Gs} (h : OwnG B w v gs) : ∃ a cap, v = .slice a gs.length cap ∧ gs.length ≤ cap ∧ cap ≤ 9223372036854775807 := by
  obtain ⟨ts, h1, h2, _⟩ := h
  obtain ⟨a, cap, e, h3, h4, _⟩ := h1.opened
  exact ⟨a, cap, by rw [e, h2], by omega, h4⟩
theorem OwnG.lt {B : Nat} {w : World} {v : Value} {gs : List Gs} (h : OwnG B w v gs) (k : Nat) (hk : v.ownBlock = some k) : B ≤ k ∧ k < w.heap.size := by
  obtain ⟨ts, h1, _⟩ := h
  exact World.ownsRow.lt h1 k hk

def In64G (gs : List Gs) : Prop := ∀ g ∈ gs, ∀ y ∈ g.code, In64 y
theorem OwnG.toGL {B : Nat} {w : World} {v : Value} {gs : List Gs} (h : OwnG B w v gs) (hr : In64G gs) : GL B w v gs := by
  obtain ⟨ts, h1, h2, h3, _⟩ := h
  obtain ⟨a, cap, e, h4, h5, h6⟩ := h1.opened
  refine ⟨a, cap, fun i => (ts.getD i (undef, 0, 0)).1, by rw [e, h2], by omega, h5, fun hp => ?_, fun i hi => ?_⟩
  · obtain ⟨g, rfl, hB, _, hc, _⟩ := h6 (by omega)
    refine ⟨g, 0, rfl, hB, fun i hi => ?_⟩
    obtain ⟨c1, c2, c3⟩ := hc i (by omega)
    obtain ⟨_, e1, e2⟩ := h3 i (by omega) hi
    rw [Nat.zero_add, c1, c2, c3, e1, e2]
    simp [List.getD, List.getElem?_eq_getElem (show i < ts.length by omega)]
  · have := (h3 i (by omega) hi).1
    simp only [List.getD, List.getElem?_eq_getElem (show i < ts.length by omega), Option.getD_some]
    exact this.toInts (hr _ (List.getElem_mem hi))

/-- What the walk reads of owned guesses. -/
theorem OwnG.opened {B : Nat} {w : World} {v : Value} {gs : List Gs} (h : OwnG B w v gs) (hp : 0 < gs.length) :
    ∃ g cap, v = .slice (some ⟨g, 0, none⟩) gs.length cap ∧ B ≤ g ∧ g < w.heap.size ∧ gs.length ≤ cap ∧ cap ≤ 9223372036854775807 ∧ (∀ j, w.frozen? ⟨g, j, none⟩ = false) ∧
      ∀ k (h : k < gs.length), ∃ u, w.cell? ⟨g, k * 3, none⟩ = some u ∧ OwnI B w u gs[k].code ∧ w.cell? ⟨g, k * 3 + 1, none⟩ = some (.int .i64 gs[k].right) ∧ w.cell? ⟨g, k * 3 + 2, none⟩ = some (.int .i64 gs[k].near) := by
  obtain ⟨ts, h1, h2, h3, _⟩ := h
  obtain ⟨a, cap, e, h4, h5, h6⟩ := h1.opened
  obtain ⟨g, rfl, hB, hlt, hc, hf⟩ := h6 (by omega)
  refine ⟨g, cap, by rw [e, h2], hB, hlt, by omega, h5, hf, fun k hk => ?_⟩
  obtain ⟨c1, c2, c3⟩ := hc k (by omega)
  obtain ⟨q, e1, e2⟩ := h3 k (by omega) hk
  exact ⟨ts[k].1, c1, q, by rw [c2, e1], by rw [c3, e2]⟩

/-- A guess is put at place k: its code lies in a block of its own, which none of the others is. -/
theorem OwnG.put {B : Nat} {w : World} {g n cap : Nat} {gs : List Gs} (h : OwnG B w (.slice (some ⟨g, 0, none⟩) n cap) gs) (k : Nat) (hk : k < gs.length) {u : Value} {x : Gs} (hu : OwnI B w u x.code)
    (hd : ∀ i z, i < gs.length → i ≠ k → w.cell? ⟨g, i * 3, none⟩ = some z → z.ownBlock = none ∨ u.ownBlock = none ∨ z.ownBlock ≠ u.ownBlock) :
    OwnG B (((w.setCell ⟨g, k * 3, none⟩ u).setCell ⟨g, k * 3 + 1, none⟩ (.int .i64 x.right)).setCell ⟨g, k * 3 + 2, none⟩ (.int .i64 x.near)) (.slice (some ⟨g, 0, none⟩) n cap) (gs.set k x) ∧
    w.grownBy (((w.setCell ⟨g, k * 3, none⟩ u).setCell ⟨g, k * 3 + 1, none⟩ (.int .i64 x.right)).setCell ⟨g, k * 3 + 2, none⟩ (.int .i64 x.near)) (some g) := by
  obtain ⟨ts, h1, h2, h3, h4⟩ := h
  have hput := h1.put k (by omega) (u, x.right, x.near)
  obtain ⟨a, cap', e, _, _, h6⟩ := h1.opened
  obtain ⟨g', e', _, _, hc, _⟩ := h6 (by omega)
  injection e with e1 _ _
  rw [e'] at e1
  injection e1 with e1
  injection e1 with e1 _
  subst e1
  have hkeep : ∀ z ys, OwnI B w z ys → OwnI B (((w.setCell ⟨g, k * 3, none⟩ u).setCell ⟨g, k * 3 + 1, none⟩ (.int .i64 x.right)).setCell ⟨g, k * 3 + 2, none⟩ (.int .i64 x.near)) z ys := fun z ys hz => by
    refine World.ownsRow.kept hz hput.2 ?_
    have := own_apart hz h1 (by decide)
    simpa [Value.ownBlock] using this
  refine ⟨⟨ts.set k (u, x.right, x.near), hput.1, by simpa using h2, fun i hi hi' => ?_, fun i j hi hj hij => ?_⟩, hput.2⟩
  · rw [List.getElem_set, List.getElem_set]
    split
    · exact ⟨hkeep _ _ hu, rfl, rfl⟩
    · have := h3 i (by simpa using hi) (by simpa using hi')
      exact ⟨hkeep _ _ this.1, this.2⟩
  · simp only [List.length_set] at hi hj
    rw [List.getElem_set, List.getElem_set]
    split
    · split
      · omega
      · have := hd j _ (by omega) (by omega) (hc j hj).1
        rcases this with h | h | h
        · by_cases e : u.ownBlock = none
          · exact .inl e
          · right; simp only; rw [h]; exact e
        · exact .inl h
        · exact .inr (fun e => h e.symm)
    · split
      · have := hd i _ (by omega) (by omega) (hc i hi).1
        rcases this with h | h | h
        · exact .inl h
        · by_cases e : ts[i].1.ownBlock = none
          · exact .inl e
          · right; simp only; rw [h]; exact e
        · exact .inr h
      · exact h4 i j hi hj hij

/-- The code at place k turns in its own block. -/
theorem OwnG.turn {B : Nat} {w w' : World} {g n cap : Nat} {gs : List Gs} (h : OwnG B w (.slice (some ⟨g, 0, none⟩) n cap) gs) (k : Nat) (hk : k < gs.length) {u : Value} {ys : List Int} (hc : w.cell? ⟨g, k * 3, none⟩ = some u)
    (hg : w.grownBy w' u.ownBlock) (hu : OwnI B w' u ys) : OwnG B w' (.slice (some ⟨g, 0, none⟩) n cap) (gs.set k ⟨ys, gs[k].right, gs[k].near⟩) := by
  obtain ⟨ts, h1, h2, h3, h4⟩ := h
  obtain ⟨a, cap', e, _, _, h6⟩ := h1.opened
  obtain ⟨g', e', _, _, hcs, _⟩ := h6 (by omega)
  injection e with e1 _ _
  rw [e'] at e1
  injection e1 with e1
  injection e1 with e1 _
  subst e1
  have hkt : k < ts.length := by omega
  have huk : u = ts[k].1 := by
    have := (hcs k hkt).1
    rw [hc] at this
    exact Option.some.inj this
  subst huk
  refine ⟨ts, World.ownsRow.kept h1 hg (own_apart h1 (h3 k hkt hk).1 (by decide)), by simpa using h2, fun i hi hi' => ?_, h4⟩
  rw [List.getElem_set]
  split
  · rename_i e; subst e
    exact ⟨hu, (h3 k hkt hk).2⟩
  · rename_i e
    have := h3 i hi (by simpa using hi')
    exact ⟨World.ownsRow.kept this.1 hg (h4 i k hi hkt (fun e' => e e'.symm)), this.2⟩

/-- Right and near at place k are set. -/
theorem OwnG.tail {B : Nat} {w : World} {g n cap : Nat} {gs : List Gs} (h : OwnG B w (.slice (some ⟨g, 0, none⟩) n cap) gs) (k : Nat) (hk : k < gs.length) (r m : Int) :
    OwnG B ((w.setCell ⟨g, k * 3 + 1, none⟩ (.int .i64 r)).setCell ⟨g, k * 3 + 2, none⟩ (.int .i64 m)) (.slice (some ⟨g, 0, none⟩) n cap) (gs.set k ⟨gs[k].code, r, m⟩) ∧
    w.grownBy ((w.setCell ⟨g, k * 3 + 1, none⟩ (.int .i64 r)).setCell ⟨g, k * 3 + 2, none⟩ (.int .i64 m)) (some g) := by
  obtain ⟨ts, h1, h2, h3, h4⟩ := h
  have hkt : k < ts.length := by omega
  obtain ⟨a, cap', e, _⟩ := h1.opened
  injection e with _ e2 _
  unfold OwnT at h1
  rw [← e2] at h1
  have q1 := World.ownsRow.stored h1 (k * 3 + 1) (.int .i64 r)
  have q2 := World.ownsRow.stored q1.1 (k * 3 + 2) (.int .i64 m)
  have hs : ((cellsT ts).set (k * 3 + 1) (.int .i64 r)).set (k * 3 + 2) (.int .i64 m) = cellsT (ts.set k (ts[k].1, r, m)) := by
    rw [← setT ts k hkt (ts[k].1, r, m)]
    congr 2
    have := (cellsT_get ts k hkt).1
    exact (WideElems.set_self _ _ _ this).symm
  rw [hs] at q2
  have hg := q1.2.andThen q2.2 (fun _ e => by cases e; exact .inr rfl)
  have hkeep : ∀ z ys, OwnI B w z ys → OwnI B ((w.setCell ⟨g, k * 3 + 1, none⟩ (.int .i64 r)).setCell ⟨g, k * 3 + 2, none⟩ (.int .i64 m)) z ys := fun z ys hz => by
    refine World.ownsRow.kept hz hg ?_
    have := own_apart hz h1 (by decide)
    simpa [Value.ownBlock] using this
  refine ⟨⟨ts.set k (ts[k].1, r, m), ?_, by simpa using h2, fun i hi hi' => ?_, fun i j hi hj hij => ?_⟩, hg⟩
  · unfold OwnT
    rw [List.length_set, ← e2]
    exact q2.1
  · rw [List.getElem_set, List.getElem_set]
    split
    · rename_i e; subst e
      exact ⟨hkeep _ _ (h3 k hkt hk).1, rfl, rfl⟩
    · have := h3 i (by simpa using hi) (by simpa using hi')
      exact ⟨hkeep _ _ this.1, this.2⟩
  · simp only [List.length_set] at hi hj
    have e : ∀ i (hi : i < ts.length), ((ts.set k (ts[k].1, r, m))[i]'(by simpa using hi)).1 = ts[i].1 := fun i hi => by
      rw [List.getElem_set]
      split
      · rename_i e; subst e; rfl
      · rfl
    rw [e i hi, e j hj]
    exact h4 i j hi hj hij

theorem infoGuess : (Tryz.prog.info? 39).map (fun i => (i.zero, i.size, i.bytes)) = some (some (.agg #[.slice none 0 0, .int .i64 0, .int .i64 0]), 3, 40) := by kernel_rfl

/-- 'append(out, Guess{..})', its code in a block that is none of out's. -/
theorem wpList_push_g (w : World) {ops : Array Oper} {rest : List Oper} {o : Oper} {a : Act} {Q : Exit → Act → World → Prop}
    (hg : o.guard = none) (s x : Operand) (hop : o.op = Op.call { callee := Callee.builtin Builtin.append, args := #[s, x], argTypes := #[28, 28] })
    (B : Nat) (v : Value) (gs : List Gs) (hs : a.eval s = v) (hown : OwnG B w v gs) (N : Nat) (c : Nat) (u : Value) (y : Gs) (hx : a.eval x = .slice (some ⟨N, 0, none⟩) 1 c)
    (hc : w.cell? ⟨N, 0, none⟩ = some u ∧ w.cell? ⟨N, 1, none⟩ = some (.int .i64 y.right) ∧ w.cell? ⟨N, 2, none⟩ = some (.int .i64 y.near)) (hu : OwnI B w u y.code)
    (hd : ∀ ts : List (Value × Int × Int), OwnT B w v ts → ∀ i (h : i < ts.length), u.ownBlock = none ∨ ts[i].1.ownBlock = none ∨ ts[i].1.ownBlock ≠ u.ownBlock)
    (hlen : gs.length ≤ 1000000) (hB : B ≤ w.heap.size)
    (hK : ∀ a' cap' w', OwnG B w' (.slice a' (gs.length + 1) cap') (gs ++ [y]) → w.grownBy w' v.ownBlock → wpList Tryz.prog ops Q rest (a.put o.dst (.slice a' (gs.length + 1) cap')) w') :
    wpList Tryz.prog ops Q (o :: rest) a w := by
  obtain ⟨i0, hi, hz0, hz1, hz2⟩ := info_parts infoGuess
  obtain ⟨ts, h1, h2, h3, h4⟩ := hown
  have hone : u.oneCell' = true := by
    obtain ⟨_, _, rfl, _⟩ := own_shape hu
    rfl
  refine wpList_append_own w hg s x 28 hop B 39 i0 (.agg #[.slice none 0 0, .int .i64 0, .int .i64 0]) 3 40 Tryz.underlying28 hi hz0 hz1 hz2 rfl (by decide) v ts.length (cellsT ts) hs h1 ⟨N, 0, none⟩ 1 c [u, .int .i64 y.right, .int .i64 y.near] hx rfl ?_ ?_ (by unfold maxLen; omega) (by omega) hB ?_
  · intro j z hj
    match j, hj with
    | 0, hj => simp at hj; subst hj; simpa [Addr.add] using hc.1
    | 1, hj => simp at hj; subst hj; simpa [Addr.add] using hc.2.1
    | 2, hj => simp at hj; subst hj; simpa [Addr.add] using hc.2.2
  · intro z hz
    simp only [List.mem_cons, List.mem_nil_iff, or_false] at hz
    rcases hz with rfl | rfl | rfl
    · exact hone
    · rfl
    · rfl
  · intro v' w' h5 h6 _
    have hap : ∀ z ys, OwnI B w z ys → OwnI B w' z ys := fun z ys hz => World.ownsRow.kept hz h6 (own_apart hz h1 (by decide))
    obtain ⟨a', cap', rfl, _⟩ := own_shape h5
    rw [h2] at h5 ⊢
    refine hK a' cap' w' ⟨ts ++ [(u, y.right, y.near)], ?_, by simp [h2], fun i hi' hi'' => ?_, fun i j hi' hj' hij => ?_⟩ h6
    · unfold OwnT
      rw [cellsT_append]
      simpa [h2, cellsT, tC] using h5
    · by_cases hlt : i < ts.length
      · rw [List.getElem_append_left hlt, List.getElem_append_left (by omega)]
        have := h3 i hlt (by omega)
        exact ⟨hap _ _ this.1, this.2⟩
      · have e : i = ts.length := by simp at hi'; omega
        subst e
        have := hap _ _ hu
        simp only [List.getElem_append_right (Nat.le_refl _), Nat.sub_self, List.getElem_cons_zero]
        have e2 : (gs ++ [y])[ts.length]'hi'' = y := by simp [h2]
        rw [e2]
        exact ⟨this, rfl, rfl⟩
    · simp only [List.length_append, List.length_cons, List.length_nil] at hi' hj'
      by_cases h7 : i < ts.length
      · rw [List.getElem_append_left h7]
        by_cases h8 : j < ts.length
        · rw [List.getElem_append_left h8]; exact h4 i j h7 h8 hij
        · have e : j = ts.length := by omega
          subst e
          rw [List.getElem_append_right (Nat.le_refl _)]
          simp only [Nat.sub_self, List.getElem_cons_zero]
          rcases hd ts h1 i h7 with h | h | h
          · rw [h]; by_cases e : ts[i].1.ownBlock = none
            · exact .inl e
            · exact .inr e
          · exact .inl h
          · exact .inr h
      · have e : i = ts.length := by omega
        subst e
        rw [List.getElem_append_right (Nat.le_refl _), List.getElem_append_left (show j < ts.length by omega)]
        simp only [Nat.sub_self, List.getElem_cons_zero]
        rcases hd ts h1 j (by omega) with h | h | h
        · exact .inl h
        · rw [h]; by_cases e : u.ownBlock = none
          · exact .inl e
          · exact .inr e
        · exact .inr (fun e => h e.symm)

/-- Codes of an older world lie in older blocks. -/
theorem guess_old {B : Nat} {w w2 : World} {v : Value} {gs : List Gs} (h : OwnG B w v gs) (hb : Below w.heap.size w w2) {u : Value} {x : List Int} (hu : OwnI w.heap.size w2 u x) :
    ∀ ts : List (Value × Int × Int), OwnT B w2 v ts → ∀ i (h : i < ts.length), u.ownBlock = none ∨ ts[i].1.ownBlock = none ∨ ts[i].1.ownBlock ≠ u.ownBlock := by
  intro ts hts i hi
  obtain ⟨ts', h1, h2, h3, _⟩ := h
  have e : ts[i].1 = (ts'.getD i (undef, 0, 0)).1 ∧ i < ts'.length := by
    have h1' : OwnT B w2 v ts' := owns_below h1 hb
    obtain ⟨a, cap, e1, _, _, q1⟩ := hts.opened
    obtain ⟨a', cap', e1', _, _, q2⟩ := h1'.opened
    rw [e1] at e1'
    injection e1' with f1 f2 f3
    have hi' : i < ts'.length := by omega
    obtain ⟨g, rfl, _, _, c1, _⟩ := q1 (by omega)
    obtain ⟨g', f4, _, _, c2, _⟩ := q2 (by omega)
    rw [f4] at f1
    injection f1 with f1
    injection f1 with f1 _
    subst f1
    have a1 := (c1 i hi).1
    have a2 := (c2 i hi').1
    rw [a1] at a2
    exact ⟨by rw [Option.some.inj a2]; simp [List.getD, List.getElem?_eq_getElem hi'], hi'⟩
  obtain ⟨e, hi'⟩ := e
  have e' : (ts'.getD i (undef, 0, 0)).1 = ts'[i].1 := by simp [List.getD, List.getElem?_eq_getElem hi']
  rw [e, e']
  by_cases hn : u.ownBlock = none
  · exact .inl hn
  obtain ⟨m, hm⟩ := Option.ne_none_iff_exists'.1 hn
  by_cases hn' : ts'[i].1.ownBlock = none
  · exact .inr (.inl hn')
  obtain ⟨m', hm'⟩ := Option.ne_none_iff_exists'.1 hn'
  have h4 := (World.ownsRow.lt hu m hm).1
  have h5 := (World.ownsRow.lt (h3 i hi' (by omega)).1 m' hm').2
  exact .inr (.inr (by rw [hm, hm']; simp; omega))

end Go.Proofs.YtenlngclocfnlaaGreatDoor

/- The reference's GamePlayed. -/
namespace Go.Proofs.YtenlngclocfnlaaGreatDoor
open Go.RowKit
set_option linter.unusedVariables false
set_option maxRecDepth 100000

theorem gameK_step {p c : Int} {x : List Int} {out : List Gs} (h : out.length < 9) :
    gameK p c x (9 - out.length) out = if (stepG p c x out).right = p then out ++ [stepG p c x out] else gameK p c x (9 - (out ++ [stepG p c x out]).length) (out ++ [stepG p c x out]) := by
  obtain ⟨k, hk⟩ : ∃ k, 9 - out.length = k + 1 := ⟨8 - out.length, by omega⟩
  have e : 9 - (out ++ [stepG p c x out]).length = k := by simp; omega
  rw [hk, gameK, e]
def lenV : Value → Nat
  | .slice _ n _ => n
  | _ => 0
theorem game_in64 {p c : Int} {x : List Int} {out : List Gs} (h : GameInv p c x out) : In64G out := fun g hg => by
  have := h.1 g hg
  unfold guessOkB at this
  rw [Bool.and_eq_true] at this
  exact code_in64 (codeOkB_iff.1 this.1)
theorem row3_cells {w : World} {g : Nat} {a b c : Value} {t : TypeId} (h : w.heap[g]? = some (.cells #[a, b, c] t (0, 0))) : w.cell? ⟨g, 0, none⟩ = some a ∧ w.cell? ⟨g, 1, none⟩ = some b ∧ w.cell? ⟨g, 2, none⟩ = some c := by
  refine ⟨?_, ?_, ?_⟩ <;> rw [cell_of_row _ _ _ _ _ _ h] <;> simp
/-- What GamePlayed returns. -/
def PlayedG (p c : Int) (x : List Int) (w : World) (e : Ending) (w' : World) : Prop :=
  ∃ a cap, e = .returned (.slice a (gameL p c x).length cap) ∧ OwnG w.heap.size w' (.slice a (gameL p c x).length cap) (gameL p c x) ∧ Below w.heap.size w w'

end Go.Proofs.YtenlngclocfnlaaGreatDoor

/- Drawn guesses. -/
namespace Go.Proofs.YtenlngclocfnlaaGreatDoor
open Go.RowKit
set_option linter.unusedVariables false
set_option maxRecDepth 100000

/-- A drawn size. -/
def SizeDrawn (K : Nat) (a : Option Addr) (cap : Nat) (bs : List Int) (p : Int) (w : World) (e : Ending) (w' : World) : Prop :=
  ∃ n m : Nat, e = .returned (.tuple #[.int .i64 n, .int .i64 m]) ∧ 1 ≤ n ∧ n ≤ 3 ∧ 1 ≤ m ∧ m ≤ 4 ∧ Drew K a cap bs p 2 w w'
theorem size_any (w : World) (K : Nat) (a : Option Addr) (cap : Nat) (bs : List Int) (p : Int) (h : Rd w K a cap bs p) (hp : p ≤ 10000000000) :
    Calls Tryz.prog 123 #[.pointer (some ⟨K, 0, none⟩)] w (SizeDrawn K a cap bs p w) := by
  have hP := pick_any 3 w K a cap bs p h (by omega) (by unfold In64; omega)
  clear h
  go_enter Tryz.func123, Tryz.ntmps123
  go_wp2_with fail
  refine hP.mono ?_
  rintro e w1 ⟨x, rfl, hx0, hx1, ⟨p1, hR1, hp1⟩, hg1⟩
  have hx1 := hx1 (by omega)
  have hP2 := pick_any 4 w1 K a cap bs p1 hR1 (by omega) (by unfold In64; omega)
  have HG1 := Lib.hid hg1
  clear hP hR1 hg1
  go_wp2_with fail
  refine hP2.mono ?_
  rintro e w2 ⟨y, rfl, hy0, hy1, ⟨p2, hR2, hp2⟩, hg2⟩
  have hy1 := hy1 (by omega)
  obtain ⟨X, rfl⟩ : ∃ X : Nat, x = (X : Int) := ⟨x.toNat, by omega⟩
  obtain ⟨Y, rfl⟩ : ∃ Y : Nat, y = (Y : Int) := ⟨y.toNat, by omega⟩
  have HG2 := Lib.hid (grown_trans HG1.out hg2)
  have HR2 := Lib.hid hR2
  clear hP2 hR2 hg2
  go_wp2
  go_ret2
  exact ⟨1 + X, 1 + Y, by simp, by omega, by omega, by omega, by omega, ⟨p2, HR2.out, by omega⟩, HG2.out⟩

/-- What a drawing of guesses leaves. -/
def GsDrawn (K : Nat) (a : Option Addr) (cap : Nat) (bs : List Int) (p : Int) (n : Int) (w : World) (e : Ending) (w' : World) : Prop :=
  ∃ (x c : Int) (gs : List Gs) (a' : Option Addr) (c' : Nat), e = .returned (.tuple #[.int .i64 x, .int .i64 c, .slice a' gs.length c']) ∧ OwnG w.heap.size w' (.slice a' gs.length c') gs ∧ In64G gs ∧ gs.length ≤ 4 ∧
    1 ≤ x ∧ x ≤ 4 ∧ 0 ≤ c ∧ c ≤ 4 ∧ (n = 0 → x ≤ 3 ∧ 1 ≤ c) ∧ (∀ g ∈ gs, g.code.length ≤ 10) ∧ Drew K a cap bs p 100 w w'

theorem guess_oldA {B : Nat} {w w2 : World} {v : Value} {gs : List Gs} (h : OwnG B w v gs) (hb : Above B w w2) {u : Value} {x : List Int} (hu : OwnI w.heap.size w2 u x) :
    ∀ ts : List (Value × Int × Int), OwnT B w2 v ts → ∀ i (h : i < ts.length), u.ownBlock = none ∨ ts[i].1.ownBlock = none ∨ ts[i].1.ownBlock ≠ u.ownBlock := by
  intro ts hts i hi
  obtain ⟨ts', h1, h2, h3, _⟩ := h
  have e : ts[i].1 = (ts'.getD i (undef, 0, 0)).1 ∧ i < ts'.length := by
    have h1' : OwnT B w2 v ts' := owns_keep h1 hb
    obtain ⟨a, cap, e1, _, _, q1⟩ := hts.opened
    obtain ⟨a', cap', e1', _, _, q2⟩ := h1'.opened
    rw [e1] at e1'
    injection e1' with f1 f2 f3
    have hi' : i < ts'.length := by omega
    obtain ⟨g, rfl, _, _, c1, _⟩ := q1 (by omega)
    obtain ⟨g', f4, _, _, c2, _⟩ := q2 (by omega)
    rw [f4] at f1
    injection f1 with f1
    injection f1 with f1 _
    subst f1
    have a1 := (c1 i hi).1
    have a2 := (c2 i hi').1
    rw [a1] at a2
    exact ⟨by rw [Option.some.inj a2]; simp [List.getD, List.getElem?_eq_getElem hi'], hi'⟩
  obtain ⟨e, hi'⟩ := e
  have e' : (ts'.getD i (undef, 0, 0)).1 = ts'[i].1 := by simp [List.getD, List.getElem?_eq_getElem hi']
  rw [e, e']
  by_cases hn : u.ownBlock = none
  · exact .inl hn
  obtain ⟨m, hm⟩ := Option.ne_none_iff_exists'.1 hn
  by_cases hn' : ts'[i].1.ownBlock = none
  · exact .inr (.inl hn')
  obtain ⟨m', hm'⟩ := Option.ne_none_iff_exists'.1 hn'
  have h4 := (World.ownsRow.lt hu m hm).1
  have h5 := (World.ownsRow.lt (h3 i hi' (by omega)).1 m' hm').2
  exact .inr (.inr (by rw [hm, hm']; simp; omega))

/-- The guesses so far, in memory younger than world w2. -/
def GsW (w w2 : World) (K : Nat) (a : Option Addr) (cap : Nat) (bs : List Int) (q : Int) (ao : Option Addr) (k co : Nat) (wi : World) : Prop :=
  ∃ gs : List Gs, gs.length = k ∧ OwnG w2.heap.size wi (.slice ao k co) gs ∧ In64G gs ∧ (∀ g ∈ gs, g.code.length ≤ 10) ∧ (∃ p', Rd wi K a cap bs p' ∧ p' ≤ q) ∧ w.grownBy wi (some K) ∧ Above w.heap.size w2 wi ∧ w2.heap.size ≤ wi.heap.size
theorem above_step {B : Nat} {w2 wi w5 : World} (h : Above B w2 wi) (hz : w2.heap.size ≤ wi.heap.size) (h' : Above B wi w5) : Above B w2 w5 := fun b h1 h2 => (h' b h1 (by omega)).trans (h b h1 h2)
theorem GsW.pick {w w2 wi : World} {K : Nat} {a : Option Addr} {cap : Nat} {bs : List Int} {q n : Int} {ao : Option Addr} {m co : Nat} (h : GsW w w2 K a cap bs q ao m co wi) (hz : w.heap.size ≤ w2.heap.size) (hK : K < w.heap.size) (hq : q ≤ 100000000000) (hn : In64 n) :
    Calls Tryz.prog 41 #[.pointer (some ⟨K, 0, none⟩), .int .i64 n] wi fun e w' => ∃ r, e = .returned (.int .i64 r) ∧ 0 ≤ r ∧ (1 ≤ n → r < n) ∧ GsW w w2 K a cap bs (q + 1) ao m co w' := by
  obtain ⟨gs, h1, h2, h3, h3', ⟨p, h5, h6⟩, h7, h8, h9⟩ := h
  refine (pick_any n _ K a cap bs p h5 (by omega) hn).mono ?_
  rintro e w' ⟨r, rfl, hr0, hr1, ⟨p', hR, hp⟩, hg⟩
  exact ⟨r, rfl, hr0, hr1, gs, h1, h2.keep (Above.of_grown hg (by omega)), h3, h3', ⟨p', hR, by omega⟩, grown_trans h7 hg, above_step h8 h9 (Above.of_grown hg hK), by have := hg.size; omega⟩
theorem GsW.odd {w w2 wi : World} {K : Nat} {a : Option Addr} {cap : Nat} {bs : List Int} {q n : Int} {ao : Option Addr} {m co : Nat} (h : GsW w w2 K a cap bs q ao m co wi) (hz : w.heap.size ≤ w2.heap.size) (hK : K < w.heap.size) (hq : q ≤ 100000000000) (hn : In64 n) :
    Calls Tryz.prog 48 #[.pointer (some ⟨K, 0, none⟩), .int .i64 n] wi fun e w' => ∃ b, e = .returned (.bool b) ∧ (n = 0 → b = false) ∧ GsW w w2 K a cap bs (q + 1) ao m co w' := by
  by_cases hzn : n = 0
  · subst hzn
    refine (odd_zero wi K).mono ?_
    rintro e w' ⟨rfl, rfl⟩
    obtain ⟨gs, h1, h2, h3, h3', ⟨p, h5, h6⟩, h7, h8, h9⟩ := h
    exact ⟨false, rfl, fun _ => rfl, gs, h1, h2, h3, h3', ⟨p, h5, by omega⟩, h7, h8, h9⟩
  · obtain ⟨gs, h1, h2, h3, h3', ⟨p, h5, h6⟩, h7, h8, h9⟩ := h
    refine (odd_any n _ K a cap bs p h5 (by omega) hn).mono ?_
    rintro e w' ⟨b, rfl, ⟨p', hR, hp⟩, hg⟩
    exact ⟨b, rfl, fun e => absurd e hzn, gs, h1, h2.keep (Above.of_grown hg (by omega)), h3, h3', ⟨p', hR, by omega⟩, grown_trans h7 hg, above_step h8 h9 (Above.of_grown hg hK), by have := hg.size; omega⟩
/-- A guess is put behind. -/
theorem GsW.push {w w2 wi : World} {K : Nat} {a : Option Addr} {cap : Nat} {bs : List Int} {q' : Int} {ao : Option Addr} {k co : Nat} (hz : w.heap.size ≤ w2.heap.size) (hK : K < w.heap.size) {w7 : World} {p' : Int} {y : Gs} {o : Obj} {a7 : Option Addr} {c7 : Nat} {gs : List Gs}
    (hgs : gs.length = k) (hin : In64G gs) (h10 : ∀ g ∈ gs, g.code.length ≤ 10) (hown : OwnG w2.heap.size wi (.slice ao k co) gs)
    (hR : Rd wi K a cap bs p') (hp : p' ≤ q') (h7 : w.grownBy wi (some K)) (h8 : Above w.heap.size w2 wi) (h9 : w2.heap.size ≤ wi.heap.size) (hy : ∀ z ∈ y.code, In64 z) (hy10 : y.code.length ≤ 10)
    (ho : OwnG w2.heap.size w7 (.slice a7 (k + 1) c7) (gs ++ [y])) (hg7 : (wi.alloc o).grownBy w7 (Value.slice ao k co).ownBlock) : GsW w w2 K a cap bs q' a7 (k + 1) c7 w7 := by
  have hblk : ∀ j, (Value.slice ao k co).ownBlock = some j → w2.heap.size ≤ j := fun j hj => (hown.lt j hj).1
  have hsz := hg7.size
  have hsa : (wi.alloc o).heap.size = wi.heap.size + 1 := by simp
  refine ⟨gs ++ [y], by simp [hgs], ho, ?_, ?_, ⟨p', rd_grown (hR.below ((Below.refl _ _).alloc (Nat.le_refl _) o)) hg7 (fun j hj => by have := hblk j hj; omega), hp⟩,
    (h7.andThen (World.grownBy_alloc wi o none) (fun _ e => by cases e)).andThen hg7 (fun j hj => .inl (by have := hblk j hj; omega)), fun b q1 q2 => ?_, by omega⟩
  · intro g hg
    rcases List.mem_append.1 hg with hg | hg
    · exact hin g hg
    · simp only [List.mem_singleton] at hg; subst hg; exact hy
  · intro g hg
    rcases List.mem_append.1 hg with hg | hg
    · exact h10 g hg
    · simp only [List.mem_singleton] at hg; subst hg; exact hy10
  · rw [hg7.block b (by omega) (fun e => by have := hblk b e.symm; omega), Below.heap_alloc wi o b (by omega)]
    exact h8 b q1 q2

end Go.Proofs.YtenlngclocfnlaaGreatDoor

/- The drawing of guesses. -/
namespace Go.Proofs.YtenlngclocfnlaaGreatDoor
open Go.RowKit
set_option linter.unusedVariables false
set_option maxRecDepth 100000

theorem gs_done {w w2 wi : World} {K : Nat} {a : Option Addr} {cap : Nat} {bs : List Int} {p q : Int} {ao : Option Addr} {k co : Nat} {n x c : Int} (h : GsW w w2 K a cap bs q ao k co wi) (hz : w.heap.size ≤ w2.heap.size) (hk : k ≤ 4) (hq : q ≤ p + 100)
    (h1 : 1 ≤ x) (h2 : x ≤ 4) (h3 : 0 ≤ c) (h4 : c ≤ 4) (h5 : n = 0 → x ≤ 3 ∧ 1 ≤ c) : GsDrawn K a cap bs p n w (.returned (.tuple #[.int .i64 x, .int .i64 c, .slice ao k co])) wi := by
  obtain ⟨gs, rfl, ho, h64, h10, ⟨p', hR, hp⟩, hg, _, _⟩ := h
  exact ⟨x, c, gs, ao, co, rfl, ho.mono hz, h64, hk, h1, h2, h3, h4, h5, h10, ⟨p', hR, by omega⟩, hg⟩

set_option maxHeartbeats 1000000 in
theorem guessing_any (n : Int) (w : World) (K : Nat) (a : Option Addr) (cap : Nat) (bs : List Int) (p : Int) (h : Rd w K a cap bs p) (hp : p ≤ 1000000000) (hn0 : 0 ≤ n) (hn1 : n ≤ 100) :
    Calls Tryz.prog 85 #[.pointer (some ⟨K, 0, none⟩), .int .i64 n] w (GsDrawn K a cap bs p n w) := by
  have hKw := h.lt
  have hS := size_any w K a cap bs p h (by omega)
  clear h
  go_enter Tryz.func85, Tryz.ntmps85
  go_wp2_with fail
  refine hS.mono ?_
  rintro e w1 ⟨N, m, rfl, hN1, hN3, hm1, hm4, ⟨p1, hR1, hp1⟩, hg1⟩
  have hz1 := hg1.size
  have hC := code_any N m 0 m w1 K a cap bs p1 hR1 (by omega) (by omega) (by omega) (by omega) (by omega) (by omega) (by omega) (.inl rfl) (by omega)
  have HG1 := Lib.hid hg1
  clear hS hR1 hg1
  go_wp2_with fail
  refine hC.mono ?_
  rintro e w2 ⟨ys, a2, c2, rfl, hy2, hyp, _, _, ⟨p2, hR2, hp2⟩, hg2⟩
  have hyp := hyp rfl
  have hz2 := hg2.size
  have HCP := Lib.hid (show CodeP N m ys from ⟨⟨⟨by omega, by omega⟩, by omega, by omega⟩, hyp.1, fun y hy => by have := hyp.2 y hy; omega⟩)
  have HY := Lib.hid (hy2.mono hz1)
  have hW0 : GsW w w2 K a cap bs p2 (some ⟨w2.heap.size, 0, none⟩) 0 0 (w2.alloc (.cells #[] 39)) :=
    ⟨[], rfl, OwnG.lit w2, fun g hg => by simp at hg, fun g hg => by simp at hg, ⟨p2, hR2.below ((Below.refl _ _).alloc (Nat.le_refl _) _), by omega⟩, (grown_trans HG1.out hg2).andThen (World.grownBy_alloc w2 _ none) (fun _ e => by cases e), Above.of_below ((Below.refl _ _).alloc (Nat.le_refl _) _), by simp⟩
  have hz02 : w.heap.size ≤ w2.heap.size := by omega
  have hP := hW0.pick (n := 4) hz02 hKw (by omega) (by unfold In64; omega)
  clear hC hR2 hg2 hy2 hyp HG1 hW0
  go_wp2_with fail
  refine hP.mono ?_
  rintro e w3 ⟨kk, rfl, hk0, hk1, hW3⟩
  have hk1 := hk1 (by omega)
  have HW3 := Lib.hid hW3
  clear hP hW3
  go_wp2
  go_loopw [10, 11] (fun lv kv wi => ∃ (k : Nat) (ao : Option Addr) (co : Nat), k ≤ 3 ∧ (k : Int) ≤ kk ∧ kv = .int .i64 (kk - k) ∧ lv = .slice ao k co ∧ GsW w w2 K a cap bs (p + 20 + 20 * k) ao k co wi) (fun _ kv _ => (intOf kv).toNat)
  case atStart =>
    obtain ⟨gs, q1, q2, q3, q4, ⟨p', q5, q6⟩, q7, q8, q9⟩ := HW3.out
    exact ⟨0, _, 0, by omega, by omega, by simp, rfl, gs, q1, q2, q3, q4, ⟨p', q5, by omega⟩, q7, q8, q9⟩
  case round =>
    obtain ⟨k, ao, co, hk3, hkk, rfl, rfl, hW⟩ := hrel
    obtain ⟨wk, rfl⟩ : ∃ x, x = wr := ⟨_, rfl⟩
    clear HW3
    by_cases hlt : 0 < kk - (k : Int)
    · obtain ⟨gs, hl, ho, h64, h10, ⟨p', hR, hp'⟩, hg, hA, hzz⟩ := hW
      have hC := code_any N m 0 m wk K a cap bs p' hR (by omega) (by omega) (by omega) (by omega) (by omega) (by omega) (by omega) (.inl rfl) (by omega)
      have HL := Lib.hid hl
      have HO := Lib.hid ho
      have H64 := Lib.hid h64
      have H10 := Lib.hid h10
      have HG := Lib.hid hg
      have HA := Lib.hid hA
      clear hl ho h64 h10 hR hg hA
      go_wp2_with fail
      refine hC.mono ?_
      rintro e w4 ⟨zs, a4, c4, rfl, hu4, hzp, hzi, hz10, ⟨p4, hR4, hp4⟩, hg4⟩
      have hzp := hzp rfl
      have hz4 := hg4.size
      have HCZ := Lib.hid (show CodeP N m zs from ⟨⟨⟨by omega, by omega⟩, by omega, by omega⟩, hzp.1, fun y hy => by have := hzp.2 y hy; omega⟩)
      have hA4 : Above w.heap.size w2 w4 := above_step HA.out hzz (Above.of_grown hg4 hKw)
      have hAn := answerS_ok N m _ _ ys zs w4 ((HY.out.keep hA4).toInts (code_in64 HCP.out)) (hu4.toInts (code_in64 HCZ.out)) HCP.out HCZ.out
      have hbd := ans_bounds HCP.out HCZ.out
      have HU4 := Lib.hid hu4
      have HR4 := Lib.hid hR4
      have HG4 := Lib.hid hg4
      have HA4 := Lib.hid hA4
      have HZI := Lib.hid hzi
      have HZ10 := Lib.hid hz10
      clear hC hu4 hzp hR4 hg4 hA4 hzi hz10
      obtain ⟨r, hr⟩ : ∃ r, r = rightZ ys zs := ⟨_, rfl⟩
      obtain ⟨nr, hnr⟩ : ∃ nr, nr = nearZ ys zs := ⟨_, rfl⟩
      rw [← hr, ← hnr] at hAn hbd
      obtain ⟨hbd1, hbd2, hbd3, hbd4⟩ := hbd
      clear hr hnr
      go_wp2_with fail
      refine hAn.mono ?_
      rintro e w5 ⟨rfl, hq⟩
      have hD : Drawn w4 w5 := hq
      have hz5 := hD.below.size
      have hP := pick_any 20 w5 K a cap bs p4 (HR4.out.below hD.below) (by omega) (by unfold In64; omega)
      have HU5 := Lib.hid (HU4.out.below hD.below)
      have HG5 := Lib.hid (grown_trans HG4.out (grown_of_below hD.below))
      have HA5 := Lib.hid (above_step HA4.out (by omega) (.of_below hD.below))
      clear hAn hq hD
      go_wp2_with fail
      refine hP.mono ?_
      rintro e w6 ⟨z, rfl, hz0, hz1', ⟨p6, hR6, hp6⟩, hg6⟩
      have hz1' := hz1' (by omega)
      have hz6 := hg6.size
      have hyq : z.tdiv 19 = z / 19 := Int.tdiv_eq_ediv_of_nonneg hz0
      have HU6 := Lib.hid (HU5.out.keep (Above.of_grown hg6 (by omega)))
      have HG6 := Lib.hid (grown_trans HG5.out hg6)
      have HA6 := Lib.hid (above_step HA5.out (by omega) (Above.of_grown hg6 hKw))
      have HR6 := Lib.hid hR6
      clear hP hR6 hg6
      obtain ⟨T, hT⟩ : ∃ T, T = r + z / 19 := ⟨_, rfl⟩
      have HT := Lib.hid hT
      have HK := Lib.hid (show Above w2.heap.size wk w6 from Above.of_grown HG6.out (by omega))
      have HO6 := Lib.hid (HO.out.keep HK.out)
      have hbG : Below w6.heap.size w6 (w6.alloc (.cells #[.slice a4 zs.length c4, .int .i64 (r + z / 19), .int .i64 nr] 39)) := (Below.refl _ _).alloc (Nat.le_refl _) _
      have HOA := Lib.hid (HO6.out.below hbG)
      have HUA := Lib.hid ((HU6.out.below hbG).mono hzz)
      have HDI := Lib.hid (guess_oldA HO.out (above_step HK.out (by omega) (.of_below hbG)) (HU6.out.below hbG))
      have HCC := Lib.hid (row3_cells (heap_alloc_new w6 (.cells #[.slice a4 zs.length c4, .int .i64 (r + z / 19), .int .i64 nr] 39)))
      have HSZ := Lib.hid (show w2.heap.size ≤ (w6.alloc (.cells #[.slice a4 zs.length c4, .int .i64 (r + z / 19), .int .i64 nr] 39)).heap.size by rw [World.size_alloc]; omega)
      clear hbG hT
      go_wp2_with (at_builtin; refine wpList_push_g (w6.alloc (.cells #[.slice a4 zs.length c4, .int .i64 (r + z / 19), .int .i64 nr] 39)) rfl (.tmp 43) (.tmp 52) rfl w2.heap.size (.slice ao k co) gs rfl HOA.out w6.heap.size 1 (.slice a4 zs.length c4) ⟨zs, r + z / 19, nr⟩ rfl HCC.out HUA.out HDI.out (by have := HL.out; omega) HSZ.out ?_; intro a7 c7 w7 ho7 hg7; rw [HL.out] at ho7 ⊢; have HW7 := Lib.hid (GsW.push (q' := p + 20 + 20 * ((k + 1 : Nat) : Int)) hz02 hKw HL.out H64.out H10.out HO6.out HR6.out (by omega) (grown_trans HG.out HG6.out) HA6.out (by omega) HZI.out HZ10.out ho7 hg7); clear ho7 hg7)
      go_roundw
      case rel => exact ⟨k + 1, a7, c7, by omega, by omega, by go_num, rfl, HW7.out⟩
      case measure => simp [intOf]; omega
    · have hkz : (k : Int) = kk := by omega
      have hO := hW.odd (n := n) hz02 hKw (by omega) (by unfold In64; omega)
      clear hW
      go_wp2_with fail
      refine hO.mono ?_
      rintro e w5 ⟨b, rfl, hb0, hW5⟩
      have HB0 := Lib.hid hb0
      clear hO hb0
      cases b
      · have HF := Lib.hid (gs_done (p := p) (n := n) (x := (N : Int)) (c := (m : Int)) hW5 hz02 (by omega) (by omega) (by omega) (by omega) (by omega) (by omega) (fun _ => ⟨by omega, by omega⟩))
        clear hW5
        go_wp2
        go_ret3
        exact HF.out
      · have hnz : n ≠ 0 := fun e => by have := HB0.out e; cases this
        have hP := hW5.pick (n := 3) hz02 hKw (by omega) (by unfold In64; omega)
        clear hW5
        go_wp2_with fail
        refine hP.mono ?_
        rintro e w6 ⟨r, rfl, hr0, hr1, hW6⟩
        clear hP
        have HNZ := Lib.hid hnz
        clear hnz
        by_cases hr : r = 0
        · subst hr
          have HF := Lib.hid (gs_done (p := p) (n := n) (x := 4) (c := (m : Int)) hW6 hz02 (by omega) (by omega) (by omega) (by omega) (by omega) (by omega) (fun e => absurd e HNZ.out))
          clear hW6
          go_wp2
          go_ret3
          exact HF.out
        · by_cases hr' : r = 1
          · subst hr'
            have HF := Lib.hid (gs_done (p := p) (n := n) (x := (N : Int)) (c := 0) hW6 hz02 (by omega) (by omega) (by omega) (by omega) (by omega) (by omega) (fun e => absurd e HNZ.out))
            clear hW6
            go_wp2
            go_ret3
            exact HF.out
          · have hb1 : (r == 0) = false := by simpa using hr
            have hb2 : (r == 1) = false := by simpa using hr'
            obtain ⟨gs, hl, ho, h64, h10, ⟨p', hR, hp'⟩, hg, hA, hzz⟩ := hW6
            have hbG : Below w6.heap.size w6 (w6.alloc (.cells #[.slice none 0 0, .int .i64 (-1), .int .i64 0] 39)) := (Below.refl _ _).alloc (Nat.le_refl _) _
            have HL := Lib.hid hl
            have HO := Lib.hid ho
            have H64 := Lib.hid h64
            have H10 := Lib.hid h10
            have HG := Lib.hid hg
            have HA := Lib.hid hA
            have HR := Lib.hid hR
            have HOA := Lib.hid (ho.below hbG)
            have HUA := Lib.hid (OwnI.empty w2.heap.size (w6.alloc (.cells #[.slice none 0 0, .int .i64 (-1), .int .i64 0] 39)))
            have HCC := Lib.hid (row3_cells (heap_alloc_new w6 (.cells #[.slice none 0 0, .int .i64 (-1), .int .i64 0] 39)))
            have HSZ := Lib.hid (show w2.heap.size ≤ (w6.alloc (.cells #[.slice none 0 0, .int .i64 (-1), .int .i64 0] 39)).heap.size by rw [World.size_alloc]; omega)
            clear hl ho h64 h10 hR hg hA hr hr' hbG
            go_wp2_with (at_builtin; refine wpList_push_g (w6.alloc (.cells #[.slice none 0 0, .int .i64 (-1), .int .i64 0] 39)) rfl (.tmp 61) (.tmp 63) rfl w2.heap.size (.slice ao k co) gs rfl HOA.out w6.heap.size 1 (.slice none 0 0) ⟨[], -1, 0⟩ rfl HCC.out HUA.out (fun ts _ i _ => .inl rfl) (by have := HL.out; omega) HSZ.out ?_; intro a7 c7 w7 ho7 hg7; rw [HL.out] at ho7 ⊢; have HW7 := Lib.hid (GsW.push (q' := p + 100) hz02 hKw HL.out H64.out H10.out HO.out HR.out (by omega) HG.out HA.out hzz (by simp) (by simp) ho7 hg7); clear ho7 hg7)
            have HF := Lib.hid (gs_done (p := p) (n := n) (x := (N : Int)) (c := (m : Int)) HW7.out hz02 (by omega) (by omega) (by omega) (by omega) (by omega) (by omega) (fun e => absurd e HNZ.out))
            go_ret3
            exact HF.out

end Go.Proofs.YtenlngclocfnlaaGreatDoor

/- Desks that are drawn: what is needed. -/
namespace Go.Proofs.YtenlngclocfnlaaGreatDoor
open Go.RowKit
set_option linter.unusedVariables false
set_option maxRecDepth 100000

theorem OwnG.pushed {B : Nat} {w : World} {v : Value} {gs : List Gs} (h : OwnG B w v gs) {u : Value} {y : Gs} (hu : OwnI B w u y.code)
    (hd : ∀ ts : List (Value × Int × Int), OwnT B w v ts → ∀ i (h : i < ts.length), u.ownBlock = none ∨ ts[i].1.ownBlock = none ∨ ts[i].1.ownBlock ≠ u.ownBlock) :
    ∃ ts : List (Value × Int × Int), w.ownsRow B 39 3 v gs.length (cellsT ts) ∧ ts.length = gs.length ∧
      ∀ w' v', w'.ownsRow B 39 3 v' (gs.length + 1) (cellsT ts ++ [u, .int .i64 y.right, .int .i64 y.near]) → w.grownBy w' v.ownBlock → OwnG B w' v' (gs ++ [y]) := by
  obtain ⟨ts, h1, h2, h3, h4⟩ := h
  refine ⟨ts, by rw [← h2]; exact h1, h2, fun w' v' h5 h6 => ?_⟩
  have hap : ∀ z ys, OwnI B w z ys → OwnI B w' z ys := fun z ys hz => World.ownsRow.kept hz h6 (own_apart hz h1 (by decide))
  refine ⟨ts ++ [(u, y.right, y.near)], ?_, by simp [h2], fun i hi' hi'' => ?_, fun i j hi' hj' hij => ?_⟩
  · unfold OwnT
    rw [cellsT_append]
    simpa [h2, cellsT, tC] using h5
  · by_cases hlt : i < ts.length
    · rw [List.getElem_append_left hlt, List.getElem_append_left (by omega)]
      have := h3 i hlt (by omega)
      exact ⟨hap _ _ this.1, this.2⟩
    · have e : i = ts.length := by simp at hi'; omega
      subst e
      have := hap _ _ hu
      simp only [List.getElem_append_right (Nat.le_refl _), Nat.sub_self, List.getElem_cons_zero]
      have e2 : (gs ++ [y])[ts.length]'hi'' = y := by simp [h2]
      rw [e2]
      exact ⟨this, rfl, rfl⟩
  · simp only [List.length_append, List.length_cons, List.length_nil] at hi' hj'
    by_cases h7 : i < ts.length
    · rw [List.getElem_append_left h7]
      by_cases h8 : j < ts.length
      · rw [List.getElem_append_left h8]; exact h4 i j h7 h8 hij
      · have e : j = ts.length := by omega
        subst e
        rw [List.getElem_append_right (Nat.le_refl _)]
        simp only [Nat.sub_self, List.getElem_cons_zero]
        rcases hd ts h1 i h7 with h | h | h
        · rw [h]; by_cases e : ts[i].1.ownBlock = none
          · exact .inl e
          · exact .inr e
        · exact .inl h
        · exact .inr h
    · have e : i = ts.length := by omega
      subst e
      rw [List.getElem_append_right (Nat.le_refl _), List.getElem_append_left (show j < ts.length by omega)]
      simp only [Nat.sub_self, List.getElem_cons_zero]
      rcases hd ts h1 j (by omega) with h | h | h
      · exact .inl h
      · rw [h]; by_cases e : u.ownBlock = none
        · exact .inl e
        · exact .inr e
      · exact .inr (fun e => h e.symm)


theorem OwnG.take {B : Nat} {w : World} {g n cap : Nat} {gs : List Gs} (h : OwnG B w (.slice (some ⟨g, 0, none⟩) n cap) gs) (k : Nat) (hk : k ≤ gs.length) : OwnG B w (.slice (some ⟨g, 0, none⟩) k cap) (gs.take k) := by
  obtain ⟨ts, ⟨h1, h1'⟩, h2, h3, h4⟩ := h
  have hct : ∀ (ts : List (Value × Int × Int)) k, (cellsT ts).take (k * 3) = cellsT (ts.take k) := by
    intro ts
    induction ts with
    | nil => intro k; simp [cellsT]
    | cons t ts ih =>
      intro k
      cases k with
      | zero => simp [cellsT]
      | succ k =>
        rw [cellsT_cons, List.take_succ_cons, cellsT_cons, ← ih k, Nat.succ_mul, Nat.add_comm]
        have e : (tC t).length = 3 := rfl
        rw [← e, List.take_length_add_append]
  refine ⟨ts.take k, ⟨by rw [cellsT_length], ?_⟩, by simp [h2], fun i hi hi' => ?_, fun i j hi hj hij => ?_⟩
  · rcases h1' with ⟨e, _⟩ | ⟨g', cap', cur, e, hb, hg, q1, q2, q3, q4⟩
    · cases e
    · injection e with e1 e2 e3
      injection e1 with e1
      injection e1 with e1 _ _
      subst e1 e3
      refine .inr ⟨g, cap, cur, ?_, hb, hg, ?_, q2, q3, ?_⟩
      · congr 1; simp <;> omega
      · simp <;> omega
      · rw [← hct, ← q4, List.take_take]
        congr 1
        simp <;> omega
  · simp only [List.getElem_take]
    exact h3 i (by simp at hi; omega) (by simp at hi'; omega)
  · simp only [List.getElem_take]
    exact h4 i j (by simp at hi; omega) (by simp at hj; omega) hij

end Go.Proofs.YtenlngclocfnlaaGreatDoor

/- Appends in regions that draw their order: one step each (for go_region_law). -/
namespace Go.Proofs.YtenlngclocfnlaaGreatDoor
open Go.RowKit
set_option linter.unusedVariables false
set_option maxRecDepth 100000

theorem run_push_any {B C : Nat} (w : World) (ty : TypeId) (v : Value) (xs : List Int) (hown : OwnI B w v xs) (u : Value) (ys : List Int) (hu : Ints C w u ys) (hlen : xs.length + ys.length ≤ 1099511627776) (hB : B ≤ w.heap.size) :
    ∃ a' cap' w', (Builtin.append_ #[37, 37] ty #[v, u]).run Tryz.prog w = .ok (.slice a' (xs.length + ys.length) cap') w' ∧ OwnI B w' (.slice a' (xs.length + ys.length) cap') (xs ++ ys) ∧ w.grownBy w' v.ownBlock := by
  obtain ⟨a, cap, rfl, hcap, hmax, hcells⟩ := hu.opened
  obtain ⟨i0, hi, hz0, hz1, hz2⟩ := info_parts infoInt
  cases a with
  | none =>
    have hz : ys = [] := by
      cases ys with
      | nil => rfl
      | cons y t =>
        obtain ⟨b, off, e, _⟩ := hcells (by simp)
        cases e
    subst hz
    obtain ⟨av, cv, hv, _⟩ := own_shape hown
    have := run_append_ints_nil w ty hown cap
    refine ⟨av, cv, w, ?_, ?_, World.grownBy.refl w _⟩
    · simp only [List.length_nil, Nat.add_zero]
      rw [this, hv]
    · rw [List.append_nil]
      simp only [List.length_nil, Nat.add_zero]
      rw [← hv]; exact hown
  | some ad =>
    have hnews : ∀ j u, (ints ys)[j]? = some u → w.cell? (ad.add j) = some u := fun j u hj => by
      have hlt : j < ys.length := by
        have := (List.getElem?_eq_some_iff.1 hj).1
        simpa using this
      have : (ints ys)[j]? = some (.int .i64 ys[j]) := by rw [List.getElem?_eq_getElem (by simpa using hlt)]; simp
      rw [this] at hj
      obtain rfl := Option.some.inj hj
      obtain ⟨b, off, e, _, hc⟩ := hcells (by omega)
      injection e with e
      subst e
      have hq := hc j hlt
      by_cases h0 : j = 0
      · subst h0; simpa [Addr.add] using hq
      · simpa [Addr.add, h0] using hq
    obtain ⟨v', w', hrun, h5, h6, _, _⟩ := run_append_own_at (P := Tryz.prog) w B 37 ty 3 i0 (.int .i64 0) 1 8 Tryz.underlying37 hi hz0 hz1 hz2 rfl (by decide) v xs.length (ints xs) hown ad ys.length cap (ints ys) (by simp) hnews (by intro u hu; obtain ⟨y, _, rfl⟩ := List.mem_map.1 hu; simp [Value.oneCell']) (by unfold maxLen; omega) (by omega) hB
    obtain ⟨a', cap', rfl, _⟩ := own_shape h5
    refine ⟨a', cap', w', hrun, ?_, h6⟩
    unfold OwnI
    rw [ints_append]
    simpa [ints] using h5

theorem step_push_any {ops : Array Oper} {o : Oper} {a : Act} {K : Act → World → Prop} {Q : Exit → Act → World → Prop} {E : Prop} {B C : Nat} (w : World) (hgd : o.guard = none) (s x : Operand)
    (hop : o.op = Op.call { callee := Callee.builtin Builtin.append, args := #[s, x], argTypes := #[37, 37] }) (v : Value) (xs : List Int) (hs : a.eval s = v) (hown : OwnI B w v xs) (u : Value) (ys : List Int) (hx : a.eval x = u) (hu : Ints C w u ys)
    (hlen : xs.length + ys.length ≤ 1099511627776) (hB : B ≤ w.heap.size)
    (h : ∀ a' cap' w', OwnI B w' (.slice a' (xs.length + ys.length) cap') (xs ++ ys) → w.grownBy w' v.ownBlock → K (a.put o.dst (.slice a' (xs.length + ys.length) cap')) w') :
    if Region.wanted o (yielded ops a.tmps) = true then Oper.wp Tryz.prog o a w K Q else E := by
  have hw : Region.wanted o (yielded ops a.tmps) = true := by simp [Region.wanted, hgd]
  rw [if_pos hw]
  obtain ⟨a', cap', w', hrun, h1, h2⟩ := run_push_any w o.type v xs hown u ys hu hlen hB
  unfold Oper.wp
  simp [execOp, hop, resolve, invoke, builtin, hs, hx, hrun, Result.andThen]
  exact h a' cap' w' h1 h2

theorem step_push_g {ops : Array Oper} {o : Oper} {a : Act} {K : Act → World → Prop} {Q : Exit → Act → World → Prop} {E : Prop} {B : Nat} (w : World) (hgd : o.guard = none) (s x : Operand)
    (hop : o.op = Op.call { callee := Callee.builtin Builtin.append, args := #[s, x], argTypes := #[28, 28] }) (v : Value) (gs : List Gs) (hs : a.eval s = v) (hown : OwnG B w v gs) (N c : Nat) (u : Value) (y : Gs) (hx : a.eval x = .slice (some ⟨N, 0, none⟩) 1 c)
    (hc : w.heap[N]? = some (.cells #[u, .int .i64 y.right, .int .i64 y.near] 39 (0, 0))) (hu : OwnI B w u y.code)
    (hd : ∀ ts : List (Value × Int × Int), OwnT B w v ts → ∀ i (h : i < ts.length), u.ownBlock = none ∨ ts[i].1.ownBlock = none ∨ ts[i].1.ownBlock ≠ u.ownBlock)
    (hlen : gs.length ≤ 1000000) (hB : B ≤ w.heap.size)
    (h : ∀ a' cap' w', OwnG B w' (.slice a' (gs.length + 1) cap') (gs ++ [y]) → w.grownBy w' v.ownBlock → K (a.put o.dst (.slice a' (gs.length + 1) cap')) w') :
    if Region.wanted o (yielded ops a.tmps) = true then Oper.wp Tryz.prog o a w K Q else E := by
  obtain ⟨i0, hi, hz0, hz1, hz2⟩ := info_parts infoGuess
  obtain ⟨ts, t1, t2, t3⟩ := hown.pushed hu hd
  have hone : u.oneCell' = true := by
    obtain ⟨_, _, rfl, _⟩ := own_shape hu
    rfl
  refine step_append_lies w hgd s x 28 hop B 39 i0 (.agg #[.slice none 0 0, .int .i64 0, .int .i64 0]) 3 40 Tryz.underlying28 hi hz0 hz1 hz2 rfl (by decide) v gs.length (cellsT ts) hs t1 ⟨N, 0, none⟩ 1 c [u, .int .i64 y.right, .int .i64 y.near] hx rfl (fun j z hj => World.news_of_block hc j z (by simpa using hj)) ?_ (by omega) (by unfold maxLen; omega) (by omega) hB _ rfl ?_
  · intro z hz
    simp only [List.mem_cons, List.mem_nil_iff, or_false] at hz
    rcases hz with rfl | rfl | rfl
    · exact hone
    · rfl
    · rfl
  · intro g cap' w' h1 h2 _ _
    exact h _ cap' w' (t3 w' _ h1 h2) h2

end Go.Proofs.YtenlngclocfnlaaGreatDoor
