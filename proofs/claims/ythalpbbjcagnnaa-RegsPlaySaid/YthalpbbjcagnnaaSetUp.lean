/- Walk: Set of a great letter. (Written by gen_set.py.) -/
import Derived.Test.YthalpbbjcagnnaaGet
set_option linter.unusedSimpArgs false
set_option linter.unusedVariables false
namespace Go.Proofs.Ythalpbbjcagnnaa
open Go.RowKit
set_option maxRecDepth 100000 in
set_option maxHeartbeats 2000000 in
theorem set_up (w : World) (N M : Nat → Prop) (r i : Nat) (hi : i < 26) (R : RegsT) (k : Int) (y : Value) (Y : Txt) (h : RegsIn w N r R) (hMr : ¬ M r) (hy : TxtAt w M y Y) (hk0 : 0 ≤ k) (hk2 : k ≤ 2) (hY : 0 < Y.length) (hL0 : Y.length ≤ 400) (hX : (R i).2.length ≤ 400)
    (hY1 : 0 < (joinL (R i).1 (R i).2 k Y).length) (hS : sizeL (joinL (R i).1 (R i).2 k Y) ≤ 4096) (hL : (joinL (R i).1 (R i).2 k Y).length ≤ 400) (hrow : ∀ l ∈ joinL (R i).1 (R i).2 k Y, l.length ≤ 100000) :
    Calls Try.prog 9 #[.pointer (some ⟨r, 0, none⟩), .int .i64 (65 + i), .agg #[.int .i64 k, y]] w fun e w' => e = .returned (.int .i64 0) ∧ RegsIn w' (fun b => N b ∨ w.heap.size ≤ b) r (putR (putR R i (k, joinL (R i).1 (R i).2 k Y)) 26 (k, joinL (R i).1 (R i).2 k Y)) ∧ KeepR r w w' := by
  obtain ⟨a, c, rfl, g1, g2, -⟩ := id hy
  have H := Lib.hid h.lt
  obtain ⟨m, hm⟩ : ∃ m, Y.length = m := ⟨_, rfl⟩
  rw [hm] at hY hL0 g1 ⊢
  have hrl : r < w.heap.size := by obtain ⟨⟨cs, h1, _⟩, _⟩ := h; exact lt_of_heap h1
  obtain ⟨ax, cx, x0, x1, htx, gx1, gx2⟩ := h.cells i (by omega)
  have HYN := Lib.hid (show TxtAt w (fun b => ((N b ∧ b ≠ r) ∨ M b) ∧ b < w.heap.size) (.slice a m c) Y by rw [← hm]; exact hy.keep fun b hb hl => ⟨⟨.inr hb, hl⟩, rfl⟩)
  have HXN := Lib.hid (show TxtAt w (fun b => ((N b ∧ b ≠ r) ∨ M b) ∧ b < w.heap.size) (.slice ax (R i).2.length cx) (R i).2 from htx.keep fun b hb hl => ⟨⟨.inl hb, hl⟩, rfl⟩)
  obtain ⟨Z, hZ⟩ : ∃ Z, joinL (R i).1 (R i).2 k Y = Z := ⟨_, rfl⟩
  have HJ := Lib.hid (fun w' (hb : Below w.heap.size w w') => joined_calls w' _ (R i).1 k _ _ (R i).2 Y (by rw [hm]; exact hY) (by omega) (by rw [hm]; omega) (HXN.out.below hb) (HYN.out.below hb))
  rw [hZ] at HJ hY1 hS hL hrow ⊢
  generalize (R i).1 = kx at *
  generalize (R i).2.length = mx at *
  have HW := Lib.hid (show ∀ w, Calls Try.prog 24 #[.int .i64 (65 + i)] w fun e w' => e = .returned (.tuple #[.int .i64 i, .bool true, .bool true]) ∧ w = w' from fun w => by
    have := which_calls (65 + i) w
    rw [if_neg (by omega), if_pos (by omega), show (65 + (i : Int) - 65) = i by omega] at this; exact this)
  have hd : decide (0 < m) = true := by simpa using hY
  have HH := Lib.hid (show ∀ w, Calls Try.prog 25 #[.agg #[.int .i64 k, .slice a m c]] w fun e w' => e = .returned (.bool true) ∧ w' = w.alloc (.cells #[.int .i64 k, .slice a m c] 30) from fun w => by
    have := has_calls k a m c w (Nat.le_trans g1 g2)
    rw [hd] at this; exact this)
  have HB2 := Lib.hid (G2_below w (.cells #[.int .i64 k, .slice a m c] 30) (.cells #[.int .i64 k, .slice a m c] 30))
  have HF2 := Lib.hid (G2_first w (.cells #[.int .i64 k, .slice a m c] 30) (.cells #[.int .i64 k, .slice a m c] 30))
  have d0 := ((G2_below w (.cells #[.int .i64 k, .slice a m c] 30) (.cells #[.int .i64 k, .slice a m c] 30)).cell (p := ⟨r, i * 2, none⟩) hrl).trans x0
  have d1 := ((G2_below w (.cells #[.int .i64 k, .slice a m c] 30) (.cells #[.int .i64 k, .slice a m c] 30)).cell (p := ⟨r, i * 2 + 1, none⟩) hrl).trans x1
  have hi26 : ((i : Int) < 26) = True := eq_true (by omega)
  have HRW := Lib.hid hrow
  have HS := Lib.hid hS
  unfold maxLen at g2
  clear h hy hm hd hrow hZ htx x0 x1 hS
  go_enter Try.func9, Try.ntmps9
  go_wp2_with (first | (go_at_call 24; refine (HW.out _).mono ?_; rintro e w' ⟨rfl, rfl⟩) | (go_at_call 25; refine (HH.out _).mono ?_; rintro e w' ⟨rfl, rfl⟩))
  go_region_law (go_simp; go_at_call 26; refine (HJ.out _ (below_drewN HB2.out 1)).mono ?_; rintro e w5 ⟨⟨v5, rfl, ht5⟩, hb5⟩; have hf5 := (hb5.block w.heap.size (by show w.heap.size < (G2 w _ _).heap.size; rw [G2_size]; omega)).trans HF2.out; have q0 := (cell_row hf5 0).trans (show (#[Value.int .i64 k, .slice a m c] : Array Value)[0]? = some (.int .i64 k) from rfl); have q1 := (cell_row hf5 1).trans (show (#[Value.int .i64 k, .slice a m c] : Array Value)[1]? = some (.slice a m c) from rfl); have q2 := frozen_row hf5 0; have q3 := frozen_row hf5 1; have HF5 := Lib.hid hf5; have HT5 := Lib.hid ht5; have HB5 := Lib.hid hb5; obtain ⟨va, vc, rfl, z1, z2, -⟩ := ht5; clear hf5 hb5)
  all_goals
    have hs5 : w.heap.size + 2 ≤ w5.heap.size := by have := HB5.out.size; have h2 := G2_size w (.cells #[.int .i64 k, .slice a m c] 30) (.cells #[.int .i64 k, .slice a m c] 30); have h3 : (G2 w (.cells #[.int .i64 k, .slice a m c] 30) (.cells #[.int .i64 k, .slice a m c] 30)).heap.size ≤ w5.heap.size := this; omega
    have hb6 := (((below_drewN HB2.out 1).trans (HB5.out.mono (by show w.heap.size ≤ (G2 w _ _).heap.size; rw [G2_size]; omega))).setCell (p := ⟨w.heap.size, 0, none⟩) (Nat.le_refl _) (.int .i64 k)).setCell (p := ⟨w.heap.size, 1, none⟩) (Nat.le_refl _) (.slice va Z.length vc)
    have hf6 := heap_set_row (.slice va Z.length vc) (j := 1) (heap_set_row (.int .i64 k) (j := 0) HF5.out)
    have ht6 := HT5.out.keep (w' := (w5.setCell ⟨w.heap.size, 0, none⟩ (.int .i64 k)).setCell ⟨w.heap.size, 1, none⟩ (.slice va Z.length vc)) (N' := fun b => ((((N b ∧ b ≠ r) ∨ M b) ∧ b < w.heap.size) ∨ w.heap.size + 2 ≤ b)) fun b hb hl => by
      have h2 : (((N b ∧ b ≠ r) ∨ M b) ∧ b < w.heap.size) ∨ w.heap.size + 2 ≤ b := by
        rcases hb with h | h
        · exact .inl h
        · exact .inr (by have h3 : (G2 w (.cells #[.int .i64 k, .slice a m c] 30) (.cells #[.int .i64 k, .slice a m c] 30)).heap.size ≤ b := h; rw [G2_size] at h3; exact h3)
      exact ⟨h2, by rw [Below.heap_setCell _ _ _ _ (by show b ≠ w.heap.size; rcases h2 with h | h <;> omega), Below.heap_setCell _ _ _ _ (by show b ≠ w.heap.size; rcases h2 with h | h <;> omega)]⟩
    have hs6 : w.heap.size + 2 ≤ ((w5.setCell ⟨w.heap.size, 0, none⟩ (.int .i64 k)).setCell ⟨w.heap.size, 1, none⟩ (.slice va Z.length vc)).heap.size := by simp [World.setCell]; exact hs5
    generalize h6 : (w5.setCell ⟨w.heap.size, 0, none⟩ (.int .i64 k)).setCell ⟨w.heap.size, 1, none⟩ (.slice va Z.length vc) = w6 at hb6 hf6 ht6 hs6 ⊢
    have hf6 : w6.heap[w.heap.size]? = some (.cells #[.int .i64 k, .slice va Z.length vc] 30 (0, 0)) := hf6
    have u0 : w6.cell? ⟨w.heap.size, 0, none⟩ = some (.int .i64 k) := (cell_row hf6 0).trans rfl
    have u1 : w6.cell? ⟨w.heap.size, 1, none⟩ = some (.slice va Z.length vc) := (cell_row hf6 1).trans rfl
    have HS6 := Lib.hid (Size_calls w6 _ k _ Z (by have := HS.out; omega) ht6)
    have hSz := HS.out
    have HF6 := Lib.hid hf6
    have HT6 := Lib.hid ht6
    have HB6 := Lib.hid hb6
    obtain ⟨z, hz⟩ : ∃ z, sizeL Z = z := ⟨_, rfl⟩
    rw [hz] at HS6 hSz
    unfold maxLen at z2
    clear hb6 hf6 ht6 hz d0 d1 q0 q1 q2 q3
    go_wp2_with fail
    refine HS6.out.mono ?_
    rintro e w7 ⟨rfl, hw7⟩
    have hb67 : Below w6.heap.size w6 w7 := by rw [hw7]; exact (Below.refl _ _).alloc (Nat.le_refl _) _
    have HS7 := Lib.hid (show w.heap.size + 2 ≤ w7.heap.size from Nat.le_trans hs6 hb67.size)
    have HB7 := Lib.hid (HB6.out.trans (hb67.mono (show w.heap.size ≤ w6.heap.size by omega)))
    have hf7 : w7.heap[w.heap.size]? = some (.cells #[.int .i64 k, .slice va Z.length vc] 30 (0, 0)) := (hb67.block _ (by omega)).trans HF6.out
    have HF7 := Lib.hid hf7
    have HT7 := Lib.hid (HT6.out.below hb67)
    have t0 : w7.cell? ⟨w.heap.size, 0, none⟩ = some (.int .i64 k) := (cell_row hf7 0).trans rfl
    have t1 : w7.cell? ⟨w.heap.size, 1, none⟩ = some (.slice va Z.length vc) := (cell_row hf7 1).trans rfl
    have HC := Lib.hid (fun w' (hb : Below w7.heap.size w7 w') => clone_calls w' _ k _ Z (show Z.length ≤ 100000 by omega) HRW.out (HT7.out.below hb))
    clear hw7 hb67 hf7 u0 u1 HS6 h6
    go_wp2_with fail
    go_region_law (go_simp; go_at_call 27; refine (HC.out _ (below_drewN (Below.refl _ _) 1)).mono ?_; rintro e w8 ⟨⟨v8, rfl, ht8⟩, hb8⟩; have hR8 := (H.out.below (below_drewN HB7.out 1)).below hb8; obtain ⟨a8, c8, q0, q1, -, -, -⟩ := hR8.cells i (by omega); have q2 := hR8.frozen (i * 2); have q3 := hR8.frozen (i * 2 + 1); have HR8 := Lib.hid hR8; have HT8 := Lib.hid ht8; have HB8 := Lib.hid hb8; obtain ⟨vb, vd, rfl, -⟩ := ht8; clear hR8 hb8)
    all_goals
      have hp := (HR8.out.keep (N' := fun b => N b ∨ w.heap.size ≤ b) fun b hb _ => ⟨.inl hb.1, rfl⟩).put i (by omega) k _ Z (HT8.out.keep fun b hb _ => ⟨⟨.inr (by have h5 : w7.heap.size ≤ b := hb; have := HS7.out; omega), by have h5 : w7.heap.size ≤ b := hb; have := HS7.out; omega⟩, rfl⟩)
      have hb8 : Below w7.heap.size w7 w8 := (below_drewN (Below.refl _ _) 1).trans HB8.out
      have hk9 := ((KeepR.of (r := r) hb8).setCell (i * 2) (.int .i64 k)).setCell (i * 2 + 1) (.slice vb Z.length vd)
      have hk8 := ((KeepR.of (r := r) (HB7.out.trans (hb8.mono (by have := HS7.out; omega)))).setCell (i * 2) (.int .i64 k)).setCell (i * 2 + 1) (.slice vb Z.length vd)
      generalize h9 : (w8.setCell ⟨r, i * 2, none⟩ (.int .i64 k)).setCell ⟨r, i * 2 + 1, none⟩ (.slice vb Z.length vd) = w9 at hp hk9 hk8 ⊢
      have hf9 : w9.heap[w.heap.size]? = some (.cells #[.int .i64 k, .slice va Z.length vc] 30 (0, 0)) := (hk9.block _ (by have := HS7.out; omega) (by omega)).trans HF7.out
      have y0 : w9.cell? ⟨w.heap.size, 0, none⟩ = some (.int .i64 k) := (cell_row hf9 0).trans rfl
      have y1 : w9.cell? ⟨w.heap.size, 1, none⟩ = some (.slice va Z.length vc) := (cell_row hf9 1).trans rfl
      have ht9 := HT7.out.keep (w' := w9) (N' := fun b => ((((N b ∧ b ≠ r) ∨ M b) ∧ b < w.heap.size) ∨ w.heap.size + 2 ≤ b)) fun b hb hl => ⟨hb, hk9.block b hl (fun e => by
        rcases hb with ⟨(h | h), _⟩ | h
        · exact h.2 e
        · exact hMr (e ▸ h)
        · omega)⟩
      have HC9 := Lib.hid (clone_calls w9 _ k (.slice va Z.length vc) Z (show Z.length ≤ 100000 by omega) HRW.out ht9)
      have HP9 := Lib.hid hp
      have HK9 := Lib.hid hk8
      clear hp hk9 hk8 hf9 ht9 q0 q1 q2 q3 t0 t1 hb8
      go_wp2_with fail
      refine HC9.out.mono ?_
      rintro e w10 ⟨⟨v10, rfl, ht10⟩, hb10⟩
      have hR10 := HP9.out.below hb10
      have hf0 := hR10.frozen 52
      have hf1 := hR10.frozen 53
      obtain ⟨a10, c10, e0, e1, -, -, -⟩ := hR10.cells 26 (by decide)
      have e0 : w10.cell? ⟨r, 52, none⟩ = some (.int .i64 ((fun j => if j = i then (k, Z) else R j) 26).1) := e0
      have e1 : w10.cell? ⟨r, 53, none⟩ = some (.slice a10 ((fun j => if j = i then (k, Z) else R j) 26).2.length c10) := e1
      generalize ((fun j => if j = i then (k, Z) else R j) 26).1 = b1 at e0
      generalize ((fun j => if j = i then (k, Z) else R j) 26).2.length = b2 at e1
      have HR10 := Lib.hid hR10
      have HT10 := Lib.hid ht10
      have HK10 := Lib.hid (HK9.out.below hb10)
      obtain ⟨vf, vh, rfl, -⟩ := ht10
      clear hR10 hb10 y0 y1
      go_wp2_with fail
      go_ret
      refine ⟨rfl, ?_, (HK10.out.setCell 52 _).setCell 53 _⟩
      have hp := HR10.out.put 26 (by decide) k _ Z (HT10.out.keep fun b hb _ => ⟨⟨.inr (by have := HK9.out.size; omega), by have := HK9.out.size; omega⟩, rfl⟩)
      exact hp
end Go.Proofs.Ythalpbbjcagnnaa
