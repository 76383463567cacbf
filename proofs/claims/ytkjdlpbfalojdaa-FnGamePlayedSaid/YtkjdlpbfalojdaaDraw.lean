/- The reader of a code (spec.l20Rd): opening, pick, odd. Which number is drawn is never asked: only its range. -/
import Derived.Test.YtkjdlpbfalojdaaLeaf2
import Derived.Test.YtkjdlpbfalojdaaBits
namespace Go.Proofs.Ytkjdlpbfalojdaa
open Go.RowKit
set_option linter.unusedVariables false

/-- The slice value v reads in w as the bytes bs. -/
def Bytes (B : Nat) (w : World) (v : Value) (bs : List Int) : Prop := SL B w v (bs.map (Value.int .u8)) ∧ ∀ x ∈ bs, 0 ≤ x ∧ x ≤ 255
theorem Bytes.keep {B : Nat} {w w' : World} {v : Value} {bs : List Int} (h : Bytes B w v bs) (hs : Above B w w') : Bytes B w' v bs := ⟨h.1.keep hs, h.2⟩
theorem Bytes.below {B : Nat} {w w' : World} {v : Value} {bs : List Int} (h : Bytes B w v bs) (hb : Below w.heap.size w w') : Bytes B w' v bs := ⟨h.1.below hb, h.2⟩

/-- A reader lies in block K: a slice of at most 2000 bytes, in blocks below K, and a place p. -/
structure Rd (w : World) (K : Nat) (a : Option Addr) (cap : Nat) (bs : List Int) (p : Int) : Prop where
  block : w.heap[K]? = some (.cells #[.slice a bs.length cap, .int .i64 p] 109 (0, 0))
  len : bs.length ≤ 2000
  p0 : 0 ≤ p
  rng : ∀ x ∈ bs, 0 ≤ x ∧ x ≤ 255
  cells : 0 < bs.length → ∃ b off, a = some ⟨b, off, none⟩ ∧ b < K ∧ ∀ i (h : i < bs.length), w.cell? ⟨b, off + i, none⟩ = some (.int .u8 bs[i])

theorem Rd.lt {w : World} {K : Nat} {a : Option Addr} {cap : Nat} {bs : List Int} {p : Int} (h : Rd w K a cap bs p) : K < w.heap.size := (Array.getElem?_eq_some_iff.1 h.block).1

/-- The reader stays while others are written. -/
theorem Rd.keep {w w' : World} {K : Nat} {a : Option Addr} {cap : Nat} {bs : List Int} {p : Int} (h : Rd w K a cap bs p) (hk : ∀ b, b ≤ K → w'.heap[b]? = w.heap[b]?) : Rd w' K a cap bs p := by
  refine ⟨by rw [hk K (Nat.le_refl _)]; exact h.block, h.len, h.p0, h.rng, fun hp => ?_⟩
  obtain ⟨b, off, h1, h2, h3⟩ := h.cells hp
  exact ⟨b, off, h1, h2, fun i hi => by rw [World.cell?_of_block (w := w) (hk b (by omega))]; exact h3 i hi⟩
theorem Rd.below {w w' : World} {K : Nat} {a : Option Addr} {cap : Nat} {bs : List Int} {p : Int} (h : Rd w K a cap bs p) (hb : Below w.heap.size w w') : Rd w' K a cap bs p :=
  h.keep fun b hbk => hb.block b (by have := h.lt; omega)

/-- What a draw leaves: the reader some places on; nothing else that was there is turned. -/
def Drew (K : Nat) (a : Option Addr) (cap : Nat) (bs : List Int) (p : Int) (n : Int) (w w' : World) : Prop := (∃ p', Rd w' K a cap bs p' ∧ p' ≤ p + n) ∧ w.grownBy w' (some K)

theorem Rd.drewN {w : World} {K : Nat} {a : Option Addr} {cap : Nat} {bs : List Int} {p : Int} (h : Rd w K a cap bs p) (n : Nat) : Rd (w.drewN n) K a cap bs p := h.keep fun _ _ => rfl
theorem Drew.drewN {K : Nat} {a : Option Addr} {cap : Nat} {bs : List Int} {p n : Int} {w w' : World} (h : Drew K a cap bs p n w w') (q : Nat) : Drew K a cap bs p n w (w'.drewN q) := by
  obtain ⟨⟨p', h1, h2⟩, h3⟩ := h
  exact ⟨⟨p', h1.drewN q, h2⟩, ⟨h3.os, h3.tape, h3.output, h3.size, h3.block⟩⟩

theorem step_reader {w : World} {K : Nat} {a : Option Addr} {cap : Nat} {bs : List Int} {p : Int} (h : Rd w K a cap bs p) (hp : p ≤ 9000000000000000) :
    Rd (w.setCell ⟨K, 1, none⟩ (.int .i64 (p + 1))) K a cap bs (p + 1) := by
  have hlt := h.lt
  have hb : (w.setCell ⟨K, 1, none⟩ (.int .i64 (p + 1))).heap[K]? = some (.cells #[.slice a bs.length cap, .int .i64 (p + 1)] 109 (0, 0)) := by
    have := h.block
    simp only [World.setCell, Array.getElem?_modify, if_true, this]
    rfl
  refine ⟨hb, h.len, by have := h.p0; omega, h.rng, fun hq => ?_⟩
  obtain ⟨b, off, h1, h2, h3⟩ := h.cells hq
  refine ⟨b, off, h1, h2, fun i hi => ?_⟩
  rw [World.cell?_of_block (w := w) (Below.heap_setCell w ⟨K, 1, none⟩ _ b (by simp; omega))]
  exact h3 i hi

theorem xor_mod {E n : Int} (h0 : 0 ≤ E) (h1 : E < 4611686018427387904) (hn : 1 ≤ n) : 0 ≤ (bits .xor .i64 E (E / 64)).tmod n ∧ (bits .xor .i64 E (E / 64)).tmod n < n := by
  obtain ⟨X, rfl⟩ := Int.eq_ofNat_of_zero_le h0
  have e : (X : Int) / 64 = ((X / 64 : Nat) : Int) := by simp
  rw [e, i64_xor_nat _ _ (by omega) (by omega), Int.tmod_eq_emod_of_nonneg (Int.natCast_nonneg _)]
  exact ⟨Int.emod_nonneg _ (by omega), Int.emod_lt_of_pos _ (by omega)⟩

/-- pick's result: a number of its range. -/
def Picked (n : Int) (K : Nat) (a : Option Addr) (cap : Nat) (bs : List Int) (p : Int) (w : World) (e : Ending) (w' : World) : Prop :=
  ∃ r : Int, e = .returned (.int .i64 r) ∧ 0 ≤ r ∧ (1 ≤ n → r < n) ∧ Drew K a cap bs p 1 w w'

set_option maxHeartbeats 1000000 in
theorem pick_any (n : Int) (w : World) (K : Nat) (a : Option Addr) (cap : Nat) (bs : List Int) (p : Int) (h : Rd w K a cap bs p) (hp : p ≤ 1000000000000) (hn : In64 n) :
    Calls Try.prog 61 #[.pointer (some ⟨K, 0, none⟩), .int .i64 n] w (Picked n K a cap bs p w) := by
  have hc0 : w.cell? ⟨K, 0, none⟩ = some (.slice a bs.length cap) := by simp [World.cell?, h.block]
  have hc1 : w.cell? ⟨K, 1, none⟩ = some (.int .i64 p) := by simp [World.cell?, h.block]
  have hf1 : w.frozen? ⟨K, 1, none⟩ = false := by simp [World.frozen?, h.block]
  have hp0 := h.p0
  have HD := Lib.hid (show Drew K a cap bs p 1 w (w.setCell ⟨K, 1, none⟩ (.int .i64 (p + 1))) from ⟨⟨p + 1, step_reader h (by omega), by omega⟩, grownBy_setCell w ⟨K, 1, none⟩ _⟩)
  by_cases hz : n < 1
  · go_enter Try.func61, Try.ntmps61
    go_wp2
    go_ret
    exact ⟨0, rfl, by omega, by omega, HD.out⟩
  by_cases hl : bs.length = 0
  · have hl1 : ((bs.length : Int) == 0) = true := by rw [beq_iff_eq]; omega
    have hn1 : 1 ≤ n := by omega
    clear hl hz
    go_enter Try.func61, Try.ntmps61
    go_wp2
    go_ret
    exact ⟨0, rfl, by omega, by omega, HD.out⟩
  have hl1 : ((bs.length : Int) == 0) = false := by rw [beq_eq_false_iff_ne]; omega
  have hn1 : 1 ≤ n := by omega
  obtain ⟨P, rfl⟩ := Int.eq_ofNat_of_zero_le hp0
  obtain ⟨b, off, rfl, hbK, hx⟩ := h.cells (by omega)
  have hx' : ∀ i (hi : i < bs.length), (w.setCell ⟨K, 1, none⟩ (.int .i64 ((P : Int) + 1))).cell? ⟨b, off + i, none⟩ = some (.int .u8 bs[i]) := fun i hi => by
    rw [World.cell?_of_block (w := w) (Below.heap_setCell w ⟨K, 1, none⟩ _ b (by simp; omega))]
    exact hx i hi
  have hlen2 := h.len
  have hrng := h.rng
  have hn2 : n ≤ 9223372036854775807 := hn.2
  by_cases hlt : P < bs.length
  · have hxk := hx' P hlt
    have hr := hrng _ (List.getElem_mem hlt)
    obtain ⟨x, hx1⟩ : ∃ x, x = bs[P] := ⟨_, rfl⟩
    rw [← hx1] at hxk hr
    obtain ⟨hr0, hr1⟩ := hr
    clear hx hx' hrng hx1 hz hl h hn
    go_enter Try.func61, Try.ntmps61
    go_wp2
    go_ret
    exact ⟨_, rfl, Int.emod_nonneg _ (by omega), fun _ => Int.emod_lt_of_pos _ (by omega), HD.out⟩
  · have hm1 : P % bs.length < bs.length := Nat.mod_lt _ (by omega)
    have hm2 : (P * 7 + 3) % bs.length < bs.length := Nat.mod_lt _ (by omega)
    have hxk := hx' _ hm1
    have hyk := hx' _ hm2
    have hr := hrng _ (List.getElem_mem hm1)
    have hs := hrng _ (List.getElem_mem hm2)
    obtain ⟨x, hx1⟩ : ∃ x, x = bs[P % bs.length] := ⟨_, rfl⟩
    obtain ⟨y, hy1⟩ : ∃ y, y = bs[(P * 7 + 3) % bs.length] := ⟨_, rfl⟩
    rw [← hx1] at hxk hr
    rw [← hy1] at hyk hs
    obtain ⟨hr0, hr1⟩ := hr
    obtain ⟨hs0, hs1⟩ := hs
    have hge : bs.length ≤ P := by omega
    have hmi0 : (0 : Int) ≤ (P : Int) % (bs.length : Int) := Int.emod_nonneg _ (by omega)
    have hmi1 : (P : Int) % (bs.length : Int) < (bs.length : Int) := Int.emod_lt_of_pos _ (by omega)
    have hmj0 : (0 : Int) ≤ ((P : Int) * 7 + 3) % (bs.length : Int) := Int.emod_nonneg _ (by omega)
    have hmj1 : ((P : Int) * 7 + 3) % (bs.length : Int) < (bs.length : Int) := Int.emod_lt_of_pos _ (by omega)
    have hqq0 : (0 : Int) ≤ (P : Int) / (bs.length : Int) := Int.ediv_nonneg (by omega) (by omega)
    have hqq1 : (P : Int) / (bs.length : Int) ≤ (P : Int) := Int.ediv_le_self _ (by omega)
    have e1 : ((P : Int) % (bs.length : Int)).toNat = P % bs.length := by
      have : (P : Int) % (bs.length : Int) = ((P % bs.length : Nat) : Int) := by simp
      rw [this, Int.toNat_natCast]
    have e2 : (((P : Int) * 7 + 3) % (bs.length : Int)).toNat = (P * 7 + 3) % bs.length := by
      have : ((P : Int) * 7 + 3) % (bs.length : Int) = (((P * 7 + 3) % bs.length : Nat) : Int) := by simp
      rw [this, Int.toNat_natCast]
    have hne : ¬ ((bs.length : Int) = 0) := by omega
    have hne1 : (1 : Int) ≤ (bs.length : Int) := by omega
    have hne2 : ¬ bs.length = 0 := by omega
    clear hx hx' hrng hx1 hy1 hz hl h hn hlt
    go_enter Try.func61, Try.ntmps61
    go_wp2
    go_quiet (fail)
    go_wp2
    go_ret
    have hE0 : 0 ≤ x * 131 + y * 1117 + (P : Int) * 29 + (P : Int) / (bs.length : Int) * 53 := by omega
    have hE1 : x * 131 + y * 1117 + (P : Int) * 29 + (P : Int) / (bs.length : Int) * 53 < 4611686018427387904 := by omega
    exact ⟨_, rfl, (xor_mod hE0 hE1 hn1).1, fun _ => (xor_mod hE0 hE1 hn1).2, HD.out.drewN nq⟩

theorem grown_trans {a b c : World} {K : Nat} (h : a.grownBy b (some K)) (h' : b.grownBy c (some K)) : a.grownBy c (some K) :=
  h.andThen h' fun _ e => by cases e; exact .inr rfl
theorem grown_of_below {a b : World} {K : Nat} (h : Below a.heap.size a b) : a.grownBy b (some K) := ⟨h.os, h.tape, h.output, h.size, fun k hk _ => h.block k hk⟩

/-- odd's result: some truth. -/
def Odd (K : Nat) (a : Option Addr) (cap : Nat) (bs : List Int) (p : Int) (w : World) (e : Ending) (w' : World) : Prop :=
  ∃ b : Bool, e = .returned (.bool b) ∧ Drew K a cap bs p 1 w w'

theorem odd_any (n : Int) (w : World) (K : Nat) (a : Option Addr) (cap : Nat) (bs : List Int) (p : Int) (h : Rd w K a cap bs p) (hp : p ≤ 1000000000000) (hn : In64 n) :
    Calls Try.prog 95 #[.pointer (some ⟨K, 0, none⟩), .int .i64 n] w (Odd K a cap bs p w) := by
  have hP := pick_any n w K a cap bs p h hp hn
  have hn2 := hn.2
  have hn3 := hn.1
  by_cases hz : 0 < n
  · clear hn
    go_enter Try.func95, Try.ntmps95
    go_wp2_with fail
    refine hP.mono ?_
    rintro e w2 ⟨r, rfl, _, _, hD⟩
    have HD := Lib.hid hD
    clear hD
    go_wp2
    go_ret
    exact ⟨_, rfl, HD.out⟩
  · clear hn hP
    have HD := Lib.hid (show Drew K a cap bs p 1 w w from ⟨⟨p, h, by omega⟩, World.grownBy.refl _ _⟩)
    clear h
    go_enter Try.func95, Try.ntmps95
    go_wp2
    go_ret
    exact ⟨_, rfl, HD.out⟩

/-- The opening of a code: a new reader. -/
def Opened (w : World) (e : Ending) (w' : World) : Prop :=
  ∃ a cap bs, e = .returned (.pointer (some ⟨w.heap.size, 0, none⟩)) ∧ Rd w' w.heap.size a cap bs 0 ∧ Below w.heap.size w w'

theorem open_any {B : Nat} (v : Value) (bs : List Int) (w : World) (h : Bytes B w v bs) :
    Calls Try.prog 60 #[v] w (Opened w) := by
  obtain ⟨⟨a, cap, rfl, h1, h2, h3⟩, hr⟩ := h
  simp only [List.length_map] at h1 h3
  have key : ∀ n, n ≤ bs.length → n ≤ 2000 → Rd (w.alloc (.cells #[.slice a n cap, .int .i64 0] 109)) w.heap.size a cap (bs.take n) 0 := by
    intro n hn hn2
    have hl : (bs.take n).length = n := by rw [List.length_take]; omega
    refine ⟨by rw [hl]; exact heap_alloc_new w _, by omega, by omega, fun x hx => hr x (List.mem_of_mem_take hx), fun hp => ?_⟩
    obtain ⟨b, off, h4, h5, h6⟩ := h3 (by omega)
    have hb := World.block_lt_of_cell? w _ (h6 0 (by omega))
    refine ⟨b, off, h4, hb, fun i hi => ?_⟩
    have := h6 i (by omega)
    rw [List.getElem_take, World.cell?_of_block (w := w) (Below.heap_alloc w _ b hb), this, List.getElem_map]
  by_cases hl : bs.length ≤ 2000
  · have HK := Lib.hid (key bs.length (Nat.le_refl _) hl)
    have hlm : (bs.map (Value.int .u8)).length = bs.length := List.length_map _
    rw [hlm]
    clear key h3 hr hlm
    go_enter Try.func60, Try.ntmps60
    go_wp2
    go_ret
    refine ⟨_, _, _, rfl, HK.out, (Below.refl _ _).alloc (Nat.le_refl _) _⟩
  · have HK := Lib.hid (key 2000 (by omega) (by omega))
    have hlm : (bs.map (Value.int .u8)).length = bs.length := List.length_map _
    rw [hlm]
    have hc : 2000 ≤ cap := by omega
    clear key h3 hr hlm
    go_enter Try.func60, Try.ntmps60
    go_wp2
    go_ret
    refine ⟨_, _, _, rfl, HK.out, (Below.refl _ _).alloc (Nat.le_refl _) _⟩

end Go.Proofs.Ytkjdlpbfalojdaa
