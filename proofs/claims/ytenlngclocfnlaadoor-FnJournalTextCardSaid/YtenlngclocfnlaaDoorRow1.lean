/- Digits of a word as numbers: the reference's l15Row and the program's digitsOf; the reference's l1Digits. -/
import Derived.Test.YtenlngclocfnlaaDoorDigits
import Derived.Test.YtenlngclocfnlaaDoorReadMath
import Derived.Test.YtenlngclocfnlaaDoorBunA
import Derived.Laws.IdiomStrings
namespace Go.Proofs.YtenlngclocfnlaaDoor
open Go.RowKit
set_option linter.unusedVariables false
set_option maxRecDepth 100000

/-- What a reading of digits leaves. -/
def RowOut (l : List UInt8) (w : World) (e : Ending) (w' : World) : Prop :=
  ∃ a cap, e = .returned (.tuple #[.slice a (rowX l).length cap, .bool (rowB l)]) ∧ OwnI w.heap.size w' (.slice a (rowX l).length cap) (rowX l) ∧ Below w.heap.size w w'
theorem rowX_in (l : List UInt8) : ∀ y ∈ rowX l, In64 y := by
  intro y hy
  unfold rowX at hy
  split at hy
  · obtain ⟨b, hb, rfl⟩ := List.mem_map.1 hy
    have := b.toNat_lt
    unfold ud In64; omega
  · cases hy
/-- A byte of a text. -/
theorem byte_at (l : List UInt8) (k : Nat) (h : k < l.length) (W : World) : (Instr.index 9 (.string ⟨l.toArray⟩) (.int .i64 k)).run Tryd.prog W = .ok (.int .u8 (l[k].toNat : Int)) W := by
  rw [run_index_string W 9 _ _ _ Tryd.underlying9]
  rw [dif_pos ⟨by omega, by simp only [ByteArray.size, List.size_toArray]; omega⟩]
  rfl
theorem take_all {l : List UInt8} {k : Nat} (h : k < l.length) (ha : (l.take k).all isD = true) (hb : isD l[k] = true) : (l.take (k + 1)).all isD = true ∧ (l.take (k + 1)).map ud = (l.take k).map ud ++ [ud l[k]] := by
  rw [List.take_succ_eq_append_getElem h, List.all_append, ha, List.map_append]
  simp [hb]

set_option maxHeartbeats 1000000 in
theorem l15Row_any (l : List UInt8) (w : World) (hl : l.length ≤ 4000000) :
    Calls Tryd.prog 29 #[strV l] w (RowOut l w) := by
  have HB0 := Lib.hid (show Below w.heap.size w (w.alloc (.cells #[] 3)) from (Below.refl _ _).alloc (Nat.le_refl _) _)
  have HO0 := Lib.hid (OwnI.lit w)
  unfold strV
  go_enter Tryd.func29, Tryd.ntmps29
  go_wp2
  go_loopw [4, 5] (fun s i wr => ∃ (k : Nat) (a : Option Addr) (cap : Nat), k ≤ l.length ∧ i = .int .i64 k ∧ s = .slice a k cap ∧ (l.take k).all isD = true ∧ OwnI w.heap.size wr (.slice a k cap) ((l.take k).map ud) ∧ Below w.heap.size w wr) (fun _ i _ => l.length - (intOf i).toNat)
  case atStart => exact ⟨0, _, _, Nat.zero_le _, rfl, rfl, rfl, HO0.out, HB0.out⟩
  case round =>
    obtain ⟨k, a, cap, hk, rfl, rfl, hall, ho, hw⟩ := hrel
    obtain ⟨wk, rfl⟩ : ∃ x, x = wr := ⟨_, rfl⟩
    clear HB0 HO0
    by_cases hlt : k < l.length
    · have hi0 : (0 : Int) ≤ (k : Int) := by omega
      have hi1 : (k : Int) < (l.length : Int) := by omega
      have hx := byte_at l k hlt
      have HW := Lib.hid hw
      rcases hin : isD l[k] with _ | _
      · have HR := Lib.hid (row_bad ⟨l[k], List.getElem_mem hlt, hin⟩)
        have hc : ¬ (48 ≤ l[k].toNat ∧ l[k].toNat ≤ 57) := fun q => by rw [isD_iff.2 q] at hin; cases hin
        obtain ⟨c, hcc⟩ : ∃ c, c = l[k].toNat := ⟨_, rfl⟩
        rw [← hcc] at hx hc
        clear hin hcc hw ho
        by_cases h48 : (c : Int) < 48
        · clear hc
          go_wp2
          go_ret2
          exact ⟨some ⟨wk.heap.size, 0, none⟩, 0, by rw [HR.out.1, HR.out.2]; rfl, by rw [HR.out.1]; exact (OwnI.lit wk).mono HW.out.size, HW.out.alloc HW.out.size _⟩
        · have h57 : (57 : Int) < (c : Int) := by omega
          clear hc
          go_wp2
          go_ret2
          exact ⟨some ⟨wk.heap.size, 0, none⟩, 0, by rw [HR.out.1, HR.out.2]; rfl, by rw [HR.out.1]; exact (OwnI.lit wk).mono HW.out.size, HW.out.alloc HW.out.size _⟩
      · have HN := Lib.hid (take_all hlt hall hin)
        have hc := isD_iff.1 hin
        have hud : ud l[k] = (l[k].toNat : Int) - 48 := rfl
        obtain ⟨c, hcc⟩ : ∃ c, c = l[k].toNat := ⟨_, rfl⟩
        rw [← hcc] at hx hc hud
        rw [hud] at HN
        have h48 : ¬ ((c : Int) < 48) := by omega
        have h57 : ¬ ((57 : Int) < (c : Int)) := by omega
        have HO := Lib.hid ho
        have HLEN := Lib.hid (show ((l.take k).map ud).length = k by simp; omega)
        clear hin hcc hw ho hud
        go_wp2_with (at_builtin; refine wpList_push_int _ rfl (.tmp 24) (.tmp 30) rfl w.heap.size (.slice a k cap) ((l.take k).map ud) rfl (World.ownsRow.alloc HO.out _) ⟨wk.heap.size, 0, none⟩ 1 ((c : Int) - 48) rfl (by simp) (by rw [HLEN.out]; omega) (by have := HW.out.size; simp; omega) ?_; intro a7 c7 w7 ho7 hg7; rw [HLEN.out] at ho7 ⊢; have HB7 := Lib.hid ((HW.out.alloc HW.out.size _).grown hg7 (by have := HW.out.size; simp; omega) (fun q hq => (World.ownsRow.lt HO.out q hq).1)); have HO7 := Lib.hid ho7; clear ho7 hg7)
        go_roundw
        case rel => exact ⟨k + 1, a7, c7, by omega, by go_num, rfl, HN.out.1, by rw [HN.out.2]; exact HO7.out, HB7.out⟩
        case measure => simp [intOf]; omega
    · have e : l.take k = l := List.take_of_length_le (by omega)
      have hkl : k = l.length := by omega
      rw [e] at hall ho
      have HR := Lib.hid (row_good hall)
      have HO := Lib.hid ho
      have HW := Lib.hid hw
      subst hkl
      clear e hall ho hw
      go_wp2
      go_ret2
      refine ⟨a, cap, ?_, ?_, HW.out⟩
      · rw [HR.out.1, HR.out.2, List.length_map]
        first | rfl | simp
      · rw [HR.out.1, List.length_map]; exact HO.out

/-- What '[]byte(s)' lays, read. -/
theorem bytes_made (l : List UInt8) (w : World) : ∃ cap w1, (convert 9 37 (.string ⟨l.toArray⟩)).run Tryd.prog w = .ok (.slice (some ⟨w.heap.size, 0, none⟩) l.length cap) w1 ∧ Below w.heap.size w w1 ∧ w1.heap.size = w.heap.size + 1 ∧
    ∀ k (h : k < l.length), w1.cell? ⟨w.heap.size, k, none⟩ = some (.int .u8 (l[k].toNat : Int)) := by
  have h := run_bytes_of_string (P := Tryd.prog) w 9 37 5 ⟨l.toArray⟩ Tryd.underlying9 Tryd.underlying37 Tryd.underlying5
  have hs : (⟨l.toArray⟩ : ByteArray).size = l.length := by simp [ByteArray.size]
  rw [hs] at h
  refine ⟨_, _, h, (Below.refl _ w).drew.alloc (Nat.le_refl _) _, by simp, fun k hk => ?_⟩
  have hh := heap_alloc_new w.drew (.cells (bytesRow ⟨l.toArray⟩ (grownCap w l.length 0 5)) 5 ((bytesRow ⟨l.toArray⟩ (grownCap w l.length 0 5)).size, (bytesRow ⟨l.toArray⟩ (grownCap w l.length 0 5)).size + 1))
  have hc := cell_of_row _ _ k _ _ _ hh
  refine hc.trans ?_
  unfold bytesRow
  rw [Array.getElem?_append_left (by simpa using hk)]
  simp [hk]

set_option maxHeartbeats 1000000 in
theorem digitsOf_any (l : List UInt8) (w : World) (hl : l.length ≤ 4000000) :
    Calls Tryd.prog 32 #[strV l] w (RowOut l w) := by
  obtain ⟨cp, w1, hcv, hb1, hs1, hcells⟩ := bytes_made l w
  have HCE := Lib.hid hcells
  have HB1 := Lib.hid hb1
  clear hcells hb1
  unfold strV
  go_enter Tryd.func32, Tryd.ntmps32
  go_wp2
  clear hcv
  go_loopw [4, 10] (fun s i wr => ∃ (k : Nat) (a : Option Addr) (cap : Nat), k ≤ l.length ∧ i = .int .i64 k ∧ s = .slice a k cap ∧ (l.take k).all isD = true ∧ OwnI w1.heap.size wr (.slice a k cap) ((l.take k).map ud) ∧ Below w1.heap.size w1 wr) (fun _ i _ => l.length - (intOf i).toNat)
  case atStart => exact ⟨0, none, 0, Nat.zero_le _, rfl, rfl, rfl, OwnI.empty _ _, Below.refl _ _⟩
  case round =>
    obtain ⟨k, a, cap, hk, rfl, rfl, hall, ho, hw⟩ := hrel
    obtain ⟨wk, rfl⟩ : ∃ x, x = wr := ⟨_, rfl⟩
    have HW := Lib.hid hw
    by_cases hlt : k < l.length
    · have hi0 : (0 : Int) ≤ (k : Int) := by omega
      have hi1 : (k : Int) < (l.length : Int) := by omega
      have hx := (hw.cell (p := ⟨w.heap.size, k, none⟩) (by simp; omega)).trans (HCE.out k hlt)
      rcases hin : isD l[k] with _ | _
      · have HR := Lib.hid (row_bad ⟨l[k], List.getElem_mem hlt, hin⟩)
        have hc : ¬ (48 ≤ l[k].toNat ∧ l[k].toNat ≤ 57) := fun q => by rw [isD_iff.2 q] at hin; cases hin
        obtain ⟨c, hcc⟩ : ∃ c, c = l[k].toNat := ⟨_, rfl⟩
        rw [← hcc] at hx hc
        clear hin hcc hw ho
        by_cases h48 : (c : Int) < 48
        · clear hc
          go_wp2
          go_ret2
          exact ⟨none, 0, by rw [HR.out.1, HR.out.2]; rfl, by rw [HR.out.1]; exact OwnI.empty _ _, HB1.out.trans (HW.out.mono HB1.out.size)⟩
        · have h57 : (57 : Int) < (c : Int) := by omega
          clear hc
          go_wp2
          go_ret2
          exact ⟨none, 0, by rw [HR.out.1, HR.out.2]; rfl, by rw [HR.out.1]; exact OwnI.empty _ _, HB1.out.trans (HW.out.mono HB1.out.size)⟩
      · have HN := Lib.hid (take_all hlt hall hin)
        have hc := isD_iff.1 hin
        have hud : ud l[k] = (l[k].toNat : Int) - 48 := rfl
        obtain ⟨c, hcc⟩ : ∃ c, c = l[k].toNat := ⟨_, rfl⟩
        rw [← hcc] at hx hc hud
        rw [hud] at HN
        have h48 : ¬ ((c : Int) < 48) := by omega
        have h57 : ¬ ((57 : Int) < (c : Int)) := by omega
        have HO := Lib.hid ho
        have HLEN := Lib.hid (show ((l.take k).map ud).length = k by simp; omega)
        clear hin hcc hw ho hud
        go_wp2_with (at_builtin; refine wpList_push_int _ rfl (.tmp 20) (.tmp 24) rfl w1.heap.size (.slice a k cap) ((l.take k).map ud) rfl (World.ownsRow.alloc HO.out _) ⟨wk.heap.size, 0, none⟩ 1 ((c : Int) - 48) rfl (by simp) (by rw [HLEN.out]; omega) (by have := HW.out.size; simp; omega) ?_; intro a7 c7 w7 ho7 hg7; rw [HLEN.out] at ho7 ⊢; have HB7 := Lib.hid ((HW.out.alloc HW.out.size _).grown hg7 (by have := HW.out.size; simp; omega) (fun q hq => (World.ownsRow.lt HO.out q hq).1)); have HO7 := Lib.hid ho7; clear ho7 hg7)
        go_roundw
        case rel => exact ⟨k + 1, a7, c7, by omega, by go_num, rfl, HN.out.1, by rw [HN.out.2]; exact HO7.out, HB7.out⟩
        case measure => simp [intOf]; omega
    · have e : l.take k = l := List.take_of_length_le (by omega)
      have hkl : k = l.length := by omega
      rw [e] at hall ho
      have HR := Lib.hid (row_good hall)
      have HO := Lib.hid ho
      subst hkl
      clear e hall ho hw
      go_wp2
      go_ret2
      refine ⟨a, cap, ?_, ?_, HB1.out.trans (HW.out.mono HB1.out.size)⟩
      · rw [HR.out.1, HR.out.2, List.length_map]
        first | rfl | simp
      · rw [HR.out.1, List.length_map]; exact HO.out.mono (by omega)

/-- The numbers of a word, digit by digit. -/
theorem numL_small {l : List UInt8} (h : l.all isD = true) (hl : l.length ≤ 3) : 0 ≤ l.foldl (fun n b => 10 * n + ud b) 0 ∧ l.foldl (fun n b => 10 * n + ud b) 0 ≤ 999 := by
  match l, hl with
  | [], _ => simp
  | [a], _ =>
    simp only [List.all_cons, List.all_nil, Bool.and_true] at h
    have := isD_iff.1 h
    simp [ud]; omega
  | [a, b], _ =>
    simp only [List.all_cons, List.all_nil, Bool.and_true, Bool.and_eq_true] at h
    have := isD_iff.1 h.1
    have := isD_iff.1 h.2
    simp [ud]; omega
  | [a, b, c], _ =>
    simp only [List.all_cons, List.all_nil, Bool.and_true, Bool.and_eq_true] at h
    have := isD_iff.1 h.1
    have := isD_iff.1 h.2.1
    have := isD_iff.1 h.2.2
    simp [ud]; omega
  | _ :: _ :: _ :: _ :: _, hl => simp at hl
theorem numL_bad1 {l : List UInt8} (h : ¬ (1 ≤ l.length ∧ l.length ≤ 3)) : numL l = -1 := by
  unfold numL
  rw [if_neg]
  simp only [Bool.and_eq_true, decide_eq_true_eq]
  intro q
  exact h ⟨q.1.1.1, q.1.1.2⟩
theorem numL_bad2 {l : List UInt8} (h : 1 < l.length) (h0 : l.head? = some 48) : numL l = -1 := by
  unfold numL
  rw [if_neg]
  simp [h, h0]
theorem numL_bad3 {l : List UInt8} (h : ∃ b ∈ l, isD b = false) : numL l = -1 := by
  obtain ⟨b, hb, he⟩ := h
  have hn : l.all isD = false := by
    rcases q : l.all isD with _ | _
    · rfl
    · have := List.all_eq_true.1 q b hb
      rw [he] at this; cases this
  unfold numL
  rw [hn]
  simp
theorem numL_good {l : List UInt8} (h : 1 ≤ l.length ∧ l.length ≤ 3) (h0 : ¬ (1 < l.length ∧ l.head? = some 48)) (hd : l.all isD = true) : numL l = l.foldl (fun n b => 10 * n + ud b) 0 := by
  unfold numL
  rw [if_pos]
  simp only [Bool.and_eq_true, decide_eq_true_eq, Bool.not_eq_true', Bool.and_eq_false_iff, decide_eq_false_iff_not, beq_eq_false_iff_ne]
  refine ⟨⟨⟨h.1, h.2⟩, ?_⟩, hd⟩
  by_cases q : 1 < l.length
  · exact .inr (fun e => h0 ⟨q, e⟩)
  · exact .inl q
theorem fold_next {l : List UInt8} {k : Nat} (h : k < l.length) : (l.take (k + 1)).foldl (fun n b => 10 * n + ud b) 0 = 10 * (l.take k).foldl (fun n b => 10 * n + ud b) 0 + ud l[k] := by
  rw [List.take_succ_eq_append_getElem h, List.foldl_append]; rfl

set_option maxHeartbeats 1000000 in
theorem l1Digits_any (l : List UInt8) (w : World) (hl : l.length ≤ 4000000) :
    Calls Tryd.prog 30 #[strV l] w fun e w' => e = .returned (.int .i64 (numL l)) ∧ w = w' := by
  unfold strV
  have hI := l1In_any (l.length : Int) 1 3 w
  by_cases h13 : 1 ≤ l.length ∧ l.length ≤ 3
  · have h0 : 0 < l.length := h13.1
    have hx0 : ∀ W : World, (Instr.index 9 (.string ⟨l.toArray⟩) (.int .i64 0)).run Tryd.prog W = .ok (.int .u8 (l[0].toNat : Int)) W := byte_at l 0 h0
    have hin : inB (l.length : Int) 1 3 = true := inB_iff.2 ⟨by omega, by omega⟩
    rw [hin] at hI
    have hhd : l.head? = some l[0] := by rw [List.head?_eq_getElem?, List.getElem?_eq_getElem h0]
    clear hin
    by_cases hz : 1 < l.length ∧ l[0] = 48
    · have HR := Lib.hid (numL_bad2 hz.1 (by rw [hhd, hz.2]))
      have h1 : (1 : Int) < (l.length : Int) := by omega
      rw [hz.2, show ((48 : UInt8).toNat : Int) = 48 from rfl] at hx0
      clear hz hhd
      go_enter Tryd.func30, Tryd.ntmps30
      go_wp2_with fail
      refine hI.mono ?_
      rintro e w2 ⟨rfl, rfl⟩
      clear hI
      go_wp2
      go_ret
      exact ⟨by rw [HR.out]; rfl, rfl⟩
    · have HG := Lib.hid (show l.all isD = true → numL l = l.foldl (fun n b => 10 * n + ud b) 0 from fun hd => numL_good h13 (fun q => hz ⟨q.1, by rw [hhd] at q; exact Option.some.inj q.2⟩) hd)
      have hloop : ¬ (1 < (l.length : Int)) ∨ ((1 < (l.length : Int)) ∧ ¬ ((l[0].toNat : Int) = 48)) := by
        by_cases q : 1 < l.length
        · exact .inr ⟨by omega, fun e => hz ⟨q, by apply UInt8.toNat_inj.1; have : (48 : UInt8).toNat = 48 := rfl; omega⟩⟩
        · exact .inl (by omega)
      obtain ⟨c0, hc0⟩ : ∃ c, c = l[0].toNat := ⟨_, rfl⟩
      rw [← hc0] at hx0 hloop
      clear hz hhd hc0
      have tail : True := trivial
      go_enter Tryd.func30, Tryd.ntmps30
      go_wp2_with fail
      refine hI.mono ?_
      rintro e w2 ⟨rfl, rfl⟩
      clear hI
      rcases hloop with hq | ⟨hq, hq2⟩
      all_goals
        go_wp2
        clear hx0 hq
        go_loop [3, 4] (fun s i => ∃ k : Nat, k ≤ l.length ∧ i = .int .i64 k ∧ s = .int .i64 ((l.take k).foldl (fun n b => 10 * n + ud b) 0) ∧ (l.take k).all isD = true) (fun _ i => l.length - (intOf i).toNat)
        case atStart => exact ⟨0, Nat.zero_le _, rfl, rfl, rfl⟩
        case round =>
          obtain ⟨k, hk, rfl, rfl, hall⟩ := hrel
          by_cases hlt : k < l.length
          · have hi0 : (0 : Int) ≤ (k : Int) := by omega
            have hi1 : (k : Int) < (l.length : Int) := by omega
            have hx := byte_at l k hlt
            rcases hin : isD l[k] with _ | _
            · have HR := Lib.hid (numL_bad3 ⟨l[k], List.getElem_mem hlt, hin⟩)
              have hc : ¬ (48 ≤ l[k].toNat ∧ l[k].toNat ≤ 57) := fun q => by rw [isD_iff.2 q] at hin; cases hin
              obtain ⟨c, hcc⟩ : ∃ c, c = l[k].toNat := ⟨_, rfl⟩
              rw [← hcc] at hx hc
              clear hin hcc
              by_cases h48 : (c : Int) < 48
              · clear hc
                go_wp2
                go_ret
                exact ⟨by rw [HR.out]; rfl, rfl⟩
              · have h57 : (57 : Int) < (c : Int) := by omega
                clear hc
                go_wp2
                go_ret
                exact ⟨by rw [HR.out]; rfl, rfl⟩
            · have HN := Lib.hid (take_all hlt hall hin)
              have HF := Lib.hid (fold_next hlt)
              have hsm := numL_small (l := l.take k) hall (by rw [List.length_take]; omega)
              have hc := isD_iff.1 hin
              have hud : ud l[k] = (l[k].toNat : Int) - 48 := rfl
              obtain ⟨c, hcc⟩ : ∃ c, c = l[k].toNat := ⟨_, rfl⟩
              rw [← hcc] at hx hc hud
              rw [hud] at HF
              obtain ⟨s, hs⟩ : ∃ s, s = (l.take k).foldl (fun n b => 10 * n + ud b) 0 := ⟨_, rfl⟩
              rw [← hs] at HF hsm ⊢
              have h48 : ¬ ((c : Int) < 48) := by omega
              have h57 : ¬ ((57 : Int) < (c : Int)) := by omega
              clear hin hcc hud hs
              go_wp2
              go_round
              case rel => exact ⟨k + 1, by omega, by go_num, by rw [HF.out], HN.out.1⟩
              case measure => simp [intOf]; omega
          · have e : l.take k = l := List.take_of_length_le (by omega)
            rw [e] at hall ⊢
            have HR := Lib.hid (HG.out hall)
            clear e hall
            go_wp2
            go_ret
            exact ⟨by rw [HR.out]; rfl, rfl⟩
  · have hin : inB (l.length : Int) 1 3 = false := by
      rcases q : inB (l.length : Int) 1 3 with _ | _
      · rfl
      · have := inB_iff.1 q; omega
    rw [hin] at hI
    have HR := Lib.hid (numL_bad1 h13)
    clear hin h13
    go_enter Tryd.func30, Tryd.ntmps30
    go_wp2_with fail
    refine hI.mono ?_
    rintro e w2 ⟨rfl, rfl⟩
    clear hI
    go_wp2
    go_ret
    exact ⟨by rw [HR.out]; rfl, rfl⟩

end Go.Proofs.YtenlngclocfnlaaDoor
