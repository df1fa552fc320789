/- Walk: Set, where it is refused. -/
import Derived.Test.YthalpbbjcagnnaaEarly
set_option linter.unusedSimpArgs false
set_option linter.unusedVariables false
namespace Go.Proofs.Ythalpbbjcagnnaa
open Go.RowKit
set_option maxRecDepth 100000 in
set_option maxHeartbeats 1000000 in
theorem set_arg (w : World) (M : Nat → Prop) (r : Nat) (x k : Int) (y : Value) (Y : Txt) (i : Int) (g ok : Bool) (hw : ∀ w, Calls Try.prog 24 #[.int .i64 x] w fun e w' => e = .returned (.tuple #[.int .i64 i, .bool g, .bool ok]) ∧ w = w')
    (hy : TxtAt w M y Y) (hbad : (ok = false ∧ x ≠ 0) ∨ k < 0 ∨ 2 < k ∨ Y.length = 0) :
    Calls Try.prog 9 #[.pointer (some ⟨r, 0, none⟩), .int .i64 x, .agg #[.int .i64 k, y]] w fun e w' => e = .returned (.int .i64 1) ∧ Below w.heap.size w w' := by
  obtain ⟨a, c, rfl, g1, g2, -⟩ := hy
  generalize Y.length = m at *
  have HW := Lib.hid hw
  have HB1 := Lib.hid (show Below w.heap.size w (w.alloc (.cells #[.int .i64 k, .slice a m c] 30)) from (Below.refl _ _).alloc (Nat.le_refl _) _)
  have HB2 := Lib.hid (G2_below w (.cells #[.int .i64 k, .slice a m c] 30) (.cells #[.int .i64 k, .slice a m c] 30))
  have HH := Lib.hid (show ∀ w, Calls Try.prog 25 #[.agg #[.int .i64 k, .slice a m c]] w fun e w' => e = .returned (.bool (decide (0 < m))) ∧ w' = w.alloc (.cells #[.int .i64 k, .slice a m c] 30) from fun w => has_calls k a m c w (Nat.le_trans g1 g2))
  clear hw
  by_cases h1 : ok = false ∧ x ≠ 0
  · obtain ⟨rfl, h1⟩ := h1
    have hxb : (x == 0) = false := by simpa using h1
    have hxc : (x != 0) = true := by simpa using h1
    clear hbad h1
    go_enter Try.func9, Try.ntmps9
    go_wp2_with (go_at_call 24; refine (HW.out _).mono ?_; rintro e w' ⟨rfl, rfl⟩)
    go_ret
    exact ⟨rfl, HB1.out⟩
  · have hbad' : k < 0 ∨ 2 < k ∨ m = 0 := hbad.resolve_left h1
    clear hbad
    have hcases : ok = true ∨ (ok = false ∧ x = 0) := by
      cases ok
      · exact .inr ⟨rfl, by simpa using h1⟩
      · exact .inl rfl
    clear h1
    by_cases hk0 : k < 0
    · clear hbad'
      rcases hcases with rfl | ⟨rfl, rfl⟩
      · go_enter Try.func9, Try.ntmps9
        go_wp2_with (go_at_call 24; refine (HW.out _).mono ?_; rintro e w' ⟨rfl, rfl⟩)
        go_ret
        exact ⟨rfl, HB1.out⟩
      · go_enter Try.func9, Try.ntmps9
        go_wp2_with (go_at_call 24; refine (HW.out _).mono ?_; rintro e w' ⟨rfl, rfl⟩)
        go_ret
        exact ⟨rfl, HB1.out⟩
    · by_cases hk2 : 2 < k
      · clear hbad'
        rcases hcases with rfl | ⟨rfl, rfl⟩
        · go_enter Try.func9, Try.ntmps9
          go_wp2_with (go_at_call 24; refine (HW.out _).mono ?_; rintro e w' ⟨rfl, rfl⟩)
          go_ret
          exact ⟨rfl, HB1.out⟩
        · go_enter Try.func9, Try.ntmps9
          go_wp2_with (go_at_call 24; refine (HW.out _).mono ?_; rintro e w' ⟨rfl, rfl⟩)
          go_ret
          exact ⟨rfl, HB1.out⟩
      · obtain rfl : m = 0 := by omega
        clear hbad'
        have hd : decide (0 < 0) = false := by decide
        rw [hd] at HH
        rcases hcases with rfl | ⟨rfl, rfl⟩
        · go_enter Try.func9, Try.ntmps9
          go_wp2_with (first | (go_at_call 24; refine (HW.out _).mono ?_; rintro e w' ⟨rfl, rfl⟩) | (go_at_call 25; refine (HH.out _).mono ?_; rintro e w' ⟨rfl, rfl⟩))
          go_ret
          exact ⟨rfl, HB2.out⟩
        · go_enter Try.func9, Try.ntmps9
          go_wp2_with (first | (go_at_call 24; refine (HW.out _).mono ?_; rintro e w' ⟨rfl, rfl⟩) | (go_at_call 25; refine (HH.out _).mono ?_; rintro e w' ⟨rfl, rfl⟩))
          go_ret
          exact ⟨rfl, HB2.out⟩
set_option maxRecDepth 100000 in
set_option maxHeartbeats 1000000 in
theorem set_full (w : World) (M : Nat → Prop) (r : Nat) (x k : Int) (y : Value) (Y : Txt) (i : Int) (ok : Bool) (hw : ∀ w, Calls Try.prog 24 #[.int .i64 x] w fun e w' => e = .returned (.tuple #[.int .i64 i, .bool false, .bool ok]) ∧ w = w')
    (hy : TxtAt w M y Y) (hx : ok = true ∨ (ok = false ∧ x = 0)) (hk0 : 0 ≤ k) (hk2 : k ≤ 2) (hY : 0 < Y.length) (hS : 4096 < sizeL Y) (hS2 : sizeL Y ≤ 1000000) :
    Calls Try.prog 9 #[.pointer (some ⟨r, 0, none⟩), .int .i64 x, .agg #[.int .i64 k, y]] w fun e w' => e = .returned (.int .i64 6) ∧ Below w.heap.size w w' := by
  obtain ⟨a, c, rfl, g1, g2, -⟩ := id hy
  have HW := Lib.hid hw
  have HY := Lib.hid hy
  obtain ⟨m, hm⟩ : ∃ m, Y.length = m := ⟨_, rfl⟩
  rw [hm] at hY g1 ⊢
  have hd : decide (0 < m) = true := by simpa using hY
  have HH := Lib.hid (show ∀ w, Calls Try.prog 25 #[.agg #[.int .i64 k, .slice a m c]] w fun e w' => e = .returned (.bool true) ∧ w' = w.alloc (.cells #[.int .i64 k, .slice a m c] 30) from fun w => by
    have := has_calls k a m c w (Nat.le_trans g1 g2)
    rw [hd] at this; exact this)
  have HYW := Lib.hid (show ∀ w', Below w.heap.size w w' → TxtAt w' M (.slice a m c) Y from fun w' hb => by have := hy.below hb; rw [hm] at this; exact this)
  have HB3 := Lib.hid (W3_below w (.cells #[.int .i64 k, .slice a m c] 30))
  have HS := Lib.hid (show Calls Try.prog 21 #[.agg #[.int .i64 k, .slice a m c]] ((w.alloc (.cells #[.int .i64 k, .slice a m c] 30)).alloc (.cells #[.int .i64 k, .slice a m c] 30)) fun e w' => e = .returned (.int .i64 (sizeL Y)) ∧ w' = W3 w (.cells #[.int .i64 k, .slice a m c] 30) from Size_calls _ M k _ Y hS2 (HYW.out _ (((Below.refl _ _).alloc (Nat.le_refl _) _).alloc (by simp) _)))
  obtain ⟨z, hz⟩ : ∃ z, sizeL Y = z := ⟨_, rfl⟩
  rw [hz] at HS hS hS2
  clear hw hy hm hd hz
  rcases hx with rfl | ⟨rfl, rfl⟩
  · go_enter Try.func9, Try.ntmps9
    go_wp2_with (first | (go_at_call 24; refine (HW.out _).mono ?_; rintro e w' ⟨rfl, rfl⟩) | (go_at_call 25; refine (HH.out _).mono ?_; rintro e w' ⟨rfl, rfl⟩) | (go_at_call 21; refine HS.out.mono ?_; rintro e w' ⟨rfl, rfl⟩))
    go_ret
    exact ⟨rfl, HB3.out⟩
  · go_enter Try.func9, Try.ntmps9
    go_wp2_with (first | (go_at_call 24; refine (HW.out _).mono ?_; rintro e w' ⟨rfl, rfl⟩) | (go_at_call 25; refine (HH.out _).mono ?_; rintro e w' ⟨rfl, rfl⟩) | (go_at_call 21; refine HS.out.mono ?_; rintro e w' ⟨rfl, rfl⟩))
    go_ret
    exact ⟨rfl, HB3.out⟩
set_option maxRecDepth 100000 in
set_option maxHeartbeats 2000000 in
theorem set_full_up (w : World) (N M : Nat → Prop) (r i : Nat) (hi : i < 26) (R : RegsT) (k : Int) (y : Value) (Y : Txt) (h : RegsIn w N r R) (hMr : ¬ M r) (hy : TxtAt w M y Y) (hk0 : 0 ≤ k) (hk2 : k ≤ 2) (hY : 0 < Y.length) (hL0 : Y.length ≤ 400) (hX : (R i).2.length ≤ 400)
    (hY1 : 0 < (joinL (R i).1 (R i).2 k Y).length) (hS : 4096 < sizeL (joinL (R i).1 (R i).2 k Y) ∨ 400 < (joinL (R i).1 (R i).2 k Y).length) (hS2 : sizeL (joinL (R i).1 (R i).2 k Y) ≤ 1000000) :
    Calls Try.prog 9 #[.pointer (some ⟨r, 0, none⟩), .int .i64 (65 + i), .agg #[.int .i64 k, y]] w fun e w' => e = .returned (.int .i64 6) ∧ Below w.heap.size w w' := by
  obtain ⟨a, c, rfl, g1, g2, -⟩ := id hy
  have H := Lib.hid h.lt
  obtain ⟨m, hm⟩ : ∃ m, Y.length = m := ⟨_, rfl⟩
  rw [hm] at hY hL0 g1 ⊢
  have hrl : r < w.heap.size := by obtain ⟨⟨cs, h1, _⟩, _⟩ := h; exact lt_of_heap h1
  obtain ⟨ax, cx, x0, x1, htx, gx1, gx2⟩ := h.cells i (by omega)
  have HYN := Lib.hid (show TxtAt w (fun b => ((N b ∧ b ≠ r) ∨ M b) ∧ b < w.heap.size) (.slice a m c) Y by rw [← hm]; exact hy.keep fun b hb hl => ⟨⟨.inr hb, hl⟩, rfl⟩)
  have HXN := Lib.hid (show TxtAt w (fun b => ((N b ∧ b ≠ r) ∨ M b) ∧ b < w.heap.size) (.slice ax (R i).2.length cx) (R i).2 from htx.keep fun b hb hl => ⟨⟨.inl hb, hl⟩, rfl⟩)
  obtain ⟨Z, hZ⟩ : ∃ Z, joinL (R i).1 (R i).2 k Y = Z := ⟨_, rfl⟩
  have HJ := Lib.hid (fun w' (hb : Below w.heap.size w w') => joined_calls w' _ (R i).1 k _ _ (R i).2 Y (by rw [hm]; exact hY) (by omega) (by rw [hm]; omega) (HXN.out.below hb) (HYN.out.below hb))
  rw [hZ] at HJ hY1 hS hS2
  generalize (R i).1 = kx at *
  generalize (R i).2.length = mx at *
  have HW := Lib.hid (show ∀ w, Calls Try.prog 24 #[.int .i64 (65 + i)] w fun e w' => e = .returned (.tuple #[.int .i64 i, .bool true, .bool true]) ∧ w = w' from fun w => by
    have := which_calls (65 + i) w
    rw [if_neg (by omega), if_pos (by omega), show (65 + (i : Int) - 65) = i by omega] at this; exact this)
  have hd : decide (0 < m) = true := by simpa using hY
  have HH := Lib.hid (show ∀ w, Calls Try.prog 25 #[.agg #[.int .i64 k, .slice a m c]] w fun e w' => e = .returned (.bool true) ∧ w' = w.alloc (.cells #[.int .i64 k, .slice a m c] 30) from fun w => by
    have := has_calls k a m c w (Nat.le_trans g1 g2)
    rw [hd] at this; exact this)
  have HB2 := Lib.hid (G2_below w (.cells #[.int .i64 k, .slice a m c] 30) (.cells #[.int .i64 k, .slice a m c] 30))
  have HF2 := Lib.hid (G2_first w (.cells #[.int .i64 k, .slice a m c] 30) (.cells #[.int .i64 k, .slice a m c] 30))
  have d0 := ((G2_below w (.cells #[.int .i64 k, .slice a m c] 30) (.cells #[.int .i64 k, .slice a m c] 30)).cell (p := ⟨r, i * 2, none⟩) hrl).trans x0
  have d1 := ((G2_below w (.cells #[.int .i64 k, .slice a m c] 30) (.cells #[.int .i64 k, .slice a m c] 30)).cell (p := ⟨r, i * 2 + 1, none⟩) hrl).trans x1
  have hi26 : ((i : Int) < 26) = True := eq_true (by omega)
  have HS := Lib.hid hS
  have HS2 := Lib.hid hS2
  unfold maxLen at g2
  clear h hy hm hd hZ htx x0 x1 hS hS2
  go_enter Try.func9, Try.ntmps9
  go_wp2_with (first | (go_at_call 24; refine (HW.out _).mono ?_; rintro e w' ⟨rfl, rfl⟩) | (go_at_call 25; refine (HH.out _).mono ?_; rintro e w' ⟨rfl, rfl⟩))
  go_region_law (go_simp; go_at_call 26; refine (HJ.out _ (below_drewN HB2.out 1)).mono ?_; rintro e w5 ⟨⟨v5, rfl, ht5⟩, hb5⟩; have hf5 := (hb5.block w.heap.size (by show w.heap.size < (G2 w _ _).heap.size; rw [G2_size]; omega)).trans HF2.out; have q0 := (cell_row hf5 0).trans (show (#[Value.int .i64 k, .slice a m c] : Array Value)[0]? = some (.int .i64 k) from rfl); have q1 := (cell_row hf5 1).trans (show (#[Value.int .i64 k, .slice a m c] : Array Value)[1]? = some (.slice a m c) from rfl); have q2 := frozen_row hf5 0; have q3 := frozen_row hf5 1; have HF5 := Lib.hid hf5; have HT5 := Lib.hid ht5; have HB5 := Lib.hid hb5; obtain ⟨va, vc, rfl, z1, z2, -⟩ := ht5; clear hf5 hb5)
  all_goals
    have hs5 : w.heap.size + 2 ≤ w5.heap.size := by have := HB5.out.size; have h2 := G2_size w (.cells #[.int .i64 k, .slice a m c] 30) (.cells #[.int .i64 k, .slice a m c] 30); have h3 : (G2 w (.cells #[.int .i64 k, .slice a m c] 30) (.cells #[.int .i64 k, .slice a m c] 30)).heap.size ≤ w5.heap.size := this; omega
    have hb6 := (((below_drewN HB2.out 1).trans (HB5.out.mono (by show w.heap.size ≤ (G2 w _ _).heap.size; rw [G2_size]; omega))).setCell (p := ⟨w.heap.size, 0, none⟩) (Nat.le_refl _) (.int .i64 k)).setCell (p := ⟨w.heap.size, 1, none⟩) (Nat.le_refl _) (.slice va Z.length vc)
    have hf6 := heap_set_row (.slice va Z.length vc) (j := 1) (heap_set_row (.int .i64 k) (j := 0) HF5.out)
    have ht6 := HT5.out.keep (w' := (w5.setCell ⟨w.heap.size, 0, none⟩ (.int .i64 k)).setCell ⟨w.heap.size, 1, none⟩ (.slice va Z.length vc)) (N' := fun b => ((((N b ∧ b ≠ r) ∨ M b) ∧ b < w.heap.size) ∨ w.heap.size + 2 ≤ b)) fun b hb hl => by
      have h2 : (((N b ∧ b ≠ r) ∨ M b) ∧ b < w.heap.size) ∨ w.heap.size + 2 ≤ b := by
        rcases hb with h | h
        · exact .inl h
        · exact .inr (by have h3 : (G2 w (.cells #[.int .i64 k, .slice a m c] 30) (.cells #[.int .i64 k, .slice a m c] 30)).heap.size ≤ b := h; rw [G2_size] at h3; exact h3)
      exact ⟨h2, by rw [Below.heap_setCell _ _ _ _ (by show b ≠ w.heap.size; rcases h2 with h | h <;> omega), Below.heap_setCell _ _ _ _ (by show b ≠ w.heap.size; rcases h2 with h | h <;> omega)]⟩
    have hs6 : w.heap.size + 2 ≤ ((w5.setCell ⟨w.heap.size, 0, none⟩ (.int .i64 k)).setCell ⟨w.heap.size, 1, none⟩ (.slice va Z.length vc)).heap.size := by simp [World.setCell]; exact hs5
    generalize h6 : (w5.setCell ⟨w.heap.size, 0, none⟩ (.int .i64 k)).setCell ⟨w.heap.size, 1, none⟩ (.slice va Z.length vc) = w6 at hb6 hf6 ht6 hs6 ⊢
    have hf6 : w6.heap[w.heap.size]? = some (.cells #[.int .i64 k, .slice va Z.length vc] 30 (0, 0)) := hf6
    have u0 : w6.cell? ⟨w.heap.size, 0, none⟩ = some (.int .i64 k) := (cell_row hf6 0).trans rfl
    have u1 : w6.cell? ⟨w.heap.size, 1, none⟩ = some (.slice va Z.length vc) := (cell_row hf6 1).trans rfl
    have HS6 := Lib.hid (Size_calls w6 _ k _ Z HS2.out ht6)
    have hSz := HS.out
    have hSz2 := HS2.out
    have HF6 := Lib.hid hf6
    have HT6 := Lib.hid ht6
    have HB6 := Lib.hid hb6
    obtain ⟨z, hz⟩ : ∃ z, sizeL Z = z := ⟨_, rfl⟩
    rw [hz] at HS6 hSz hSz2
    unfold maxLen at z2
    have HB6' := Lib.hid (show Below w.heap.size w (w6.alloc (.cells #[.int .i64 k, .slice va Z.length vc] 30)) from HB6.out.alloc HB6.out.size _)
    clear hb6 hf6 ht6 hz d0 d1 q0 q1 q2 q3
    by_cases hz4 : 4096 < z
    · clear hSz
      go_wp2_with (go_at_call 21; refine HS6.out.mono ?_; rintro e w' ⟨rfl, rfl⟩)
      go_ret
      exact ⟨rfl, HB6'.out⟩
    · have hl4 := hSz.resolve_left hz4
      clear hSz
      have v0 : (w6.alloc (.cells #[.int .i64 k, .slice va Z.length vc] 30)).cell? ⟨w.heap.size, 1, none⟩ = some (.slice va Z.length vc) := (World.cell?_alloc_old w6 _ _ (Nat.ne_of_lt (World.block_lt_of_cell? _ _ u1))).trans u1
      go_wp2_with (go_at_call 21; refine HS6.out.mono ?_; rintro e w' ⟨rfl, rfl⟩)
      go_ret
      exact ⟨rfl, HB6'.out⟩
end Go.Proofs.Ythalpbbjcagnnaa
