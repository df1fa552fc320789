/- Walks: the document's Get and All. -/
import Derived.Test.YthalpbbjcagnnaaRef
set_option linter.unusedSimpArgs false
set_option linter.unusedVariables false
namespace Go.Proofs.Ythalpbbjcagnnaa
open Go.RowKit
set_option maxRecDepth 100000 in
set_option maxHeartbeats 1000000 in
theorem refGet_last (w : World) (N : Nat → Prop) (r : Nat) (R : RegsT) (h : RefIn w N r R) :
    Calls Try.prog 31 #[.pointer (some ⟨r, 0, none⟩), .int .i64 0] w fun e w' => (∃ v', e = .returned (.tuple #[.agg #[.int .i64 (R 26).1, v'], .bool (decide (0 < (R 26).2.length))]) ∧ TxtAt w' (fun b => N b ∧ b ≠ r) v' (R 26).2) ∧ Below w.heap.size w w' := by
  obtain ⟨a, c, c0, c1, ht, g1, g2⟩ := h.cells 26 (by decide)
  have c0 : w.cell? ⟨r, 52, none⟩ = some (.int .i64 (R 26).1) := c0
  have c1 : w.cell? ⟨r, 53, none⟩ = some (.slice a (R 26).2.length c) := c1
  have HT := Lib.hid ht
  have HW := Lib.hid (show ∀ w, Calls Try.prog 38 #[.int .i64 0] w fun e w' => e = .returned (.int .i64 (-1)) ∧ w = w' from fun w => Letter_calls 0 w)
  generalize (R 26).1 = k at *
  generalize (R 26).2 = L at *
  obtain ⟨m, hm⟩ : ∃ m, L.length = m := ⟨_, rfl⟩
  rw [hm] at c1 HT ⊢
  have d0 : (w.alloc (.cells #[.int .i64 0, .slice none 0 0] 24)).cell? ⟨r, 52, none⟩ = some (.int .i64 k) := (World.cell?_alloc_old w _ _ (Nat.ne_of_lt (World.block_lt_of_cell? _ _ c0))).trans c0
  have d1 : (w.alloc (.cells #[.int .i64 0, .slice none 0 0] 24)).cell? ⟨r, 53, none⟩ = some (.slice a m c) := (World.cell?_alloc_old w _ _ (Nat.ne_of_lt (World.block_lt_of_cell? _ _ c1))).trans c1
  have HB2 := Lib.hid (G2_below w (.cells #[.int .i64 0, .slice none 0 0] 24) (.cells #[.int .i64 k, .slice a m c] 24))
  have HA := Lib.hid (G2_first w (.cells #[.int .i64 0, .slice none 0 0] 24) (.cells #[.int .i64 k, .slice a m c] 24))
  have HZ := Lib.hid (G2_second w (.cells #[.int .i64 0, .slice none 0 0] 24) (.cells #[.int .i64 k, .slice a m c] 24))
  have HM := Lib.hid hm
  clear h ht c0 c1 hm g1
  go_enter Try.func31, Try.ntmps31
  go_wp2_with (go_at_call 38; refine (HW.out _).mono ?_; rintro e w' ⟨rfl, rfl⟩)
  clear d0 d1
  have hb2 := HB2.out
  have hz := HA.out
  have f0 := cell_row HA.out 0
  have f1 := cell_row HA.out 1
  have f2 := cell_row HZ.out 0
  have f3 := cell_row HZ.out 1
  have f4 := frozen_row HA.out 0
  have f5 := frozen_row HA.out 1
  simp only [List.getElem?_toArray, List.getElem?_cons_zero, List.getElem?_cons_succ] at f0 f1 f2 f3
  change _ = _ at f0
  generalize hw2 : G2 w (.cells #[.int .i64 0, .slice none 0 0] 24) (.cells #[.int .i64 k, .slice a m c] 24) = w2 at *
  go_region
  all_goals
    go_wp2
    refine bodyPost_ret (results_row_tmp rfl _ _ w.heap.size 24 #[.int .i64 k, .slice a m c] (0, 0) _ rfl (show _ = _ from st_same (.int .i64 k) (.slice a m c) HA.out) Try.underlying24 rfl (by kernel_rfl)) rfl ?_
    have hb := st_below (.int .i64 k) (.slice a m c) HB2.out (Nat.le_refl _)
    exact ⟨⟨_, rfl, HT.out.below hb.drew⟩, hb.drew⟩
set_option maxRecDepth 100000 in
set_option maxHeartbeats 1000000 in
theorem refGet_letter (x : Int) (i : Nat) (hi : i < 26) (hx0 : x ≠ 0) (hw : letR x = i) (w : World) (N : Nat → Prop) (r : Nat) (R : RegsT) (h : RefIn w N r R) :
    Calls Try.prog 31 #[.pointer (some ⟨r, 0, none⟩), .int .i64 x] w fun e w' => (∃ v', e = .returned (.tuple #[.agg #[.int .i64 (R i).1, v'], .bool (decide (0 < (R i).2.length))]) ∧ TxtAt w' (fun b => N b ∧ b ≠ r) v' (R i).2) ∧ Below w.heap.size w w' := by
  obtain ⟨al, cl, l0, l1, -, -, -⟩ := h.cells 26 (by decide)
  have l0 : w.cell? ⟨r, 52, none⟩ = some (.int .i64 (R 26).1) := l0
  have l1 : w.cell? ⟨r, 53, none⟩ = some (.slice al (R 26).2.length cl) := l1
  obtain ⟨a, c, c0, c1, ht, g1, g2⟩ := h.cells i (by omega)
  have HT := Lib.hid ht
  have HW := Lib.hid (show ∀ w, Calls Try.prog 38 #[.int .i64 x] w fun e w' => e = .returned (.int .i64 i) ∧ w = w' from fun w => by have := Letter_calls x w; rw [hw] at this; exact this)
  generalize (R 26).1 = kl at l0
  generalize (R 26).2.length = ml at l1
  generalize (R i).1 = k at *
  generalize (R i).2 = L at *
  obtain ⟨m, hm⟩ : ∃ m, L.length = m := ⟨_, rfl⟩
  rw [hm] at c1 HT ⊢
  have hxb : (x == 0) = false := by simpa using hx0
  have hi26 : ((i : Int) < 26) = True := eq_true (by omega)
  have hrl : r < w.heap.size := World.block_lt_of_cell? _ _ c0
  have e0 : (w.alloc (.cells #[.int .i64 0, .slice none 0 0] 24)).cell? ⟨r, 52, none⟩ = some (.int .i64 kl) := (World.cell?_alloc_old w _ _ (Nat.ne_of_lt (World.block_lt_of_cell? _ _ l0))).trans l0
  have e1 : (w.alloc (.cells #[.int .i64 0, .slice none 0 0] 24)).cell? ⟨r, 53, none⟩ = some (.slice al ml cl) := (World.cell?_alloc_old w _ _ (Nat.ne_of_lt (World.block_lt_of_cell? _ _ l1))).trans l1
  have HG0 := Lib.hid (show ∀ j, (G2 w (.cells #[.int .i64 0, .slice none 0 0] 24) (.cells #[.int .i64 kl, .slice al ml cl] 24)).cell? ⟨r, j, none⟩ = w.cell? ⟨r, j, none⟩ from fun j => (G2_below w _ _).cell (p := ⟨r, j, none⟩) hrl)
  have d0 := (HG0.out (i * 2)).trans c0
  have d1 := (HG0.out (i * 2 + 1)).trans c1
  have HB2 := Lib.hid (G2_below w (.cells #[.int .i64 0, .slice none 0 0] 24) (.cells #[.int .i64 k, .slice a m c] 24))
  have HA := Lib.hid (G2_first w (.cells #[.int .i64 0, .slice none 0 0] 24) (.cells #[.int .i64 k, .slice a m c] 24))
  have HZ := Lib.hid (G2_second w (.cells #[.int .i64 0, .slice none 0 0] 24) (.cells #[.int .i64 k, .slice a m c] 24))
  have HM := Lib.hid hm
  clear h ht c0 c1 hm g1 l0 l1 hw hx0
  go_enter Try.func31, Try.ntmps31
  go_wp2_with (go_at_call 38; refine (HW.out _).mono ?_; rintro e w' ⟨rfl, rfl⟩)
  clear d0 d1 e0 e1
  have hb2 := HB2.out
  have hz := HA.out
  have f0 := cell_row HA.out 0
  have f1 := cell_row HA.out 1
  have f2 := cell_row HZ.out 0
  have f3 := cell_row HZ.out 1
  have f4 := frozen_row HA.out 0
  have f5 := frozen_row HA.out 1
  simp only [List.getElem?_toArray, List.getElem?_cons_zero, List.getElem?_cons_succ] at f0 f1 f2 f3
  change _ = _ at f0
  generalize hw2 : G2 w (.cells #[.int .i64 0, .slice none 0 0] 24) (.cells #[.int .i64 k, .slice a m c] 24) = w2 at *
  go_region
  all_goals
    go_wp2
    refine bodyPost_ret (results_row_tmp rfl _ _ w.heap.size 24 #[.int .i64 k, .slice a m c] (0, 0) _ rfl (show _ = _ from st_same (.int .i64 k) (.slice a m c) HA.out) Try.underlying24 rfl (by kernel_rfl)) rfl ?_
    have hb := st_below (.int .i64 k) (.slice a m c) HB2.out (Nat.le_refl _)
    exact ⟨⟨_, rfl, HT.out.below hb.drew⟩, hb.drew⟩
set_option maxRecDepth 100000 in
set_option maxHeartbeats 1000000 in
theorem refGet_none (x : Int) (hx0 : x ≠ 0) (hw : letR x = -1) (w : World) (N : Nat → Prop) (r : Nat) (R : RegsT) (h : RefIn w N r R) :
    Calls Try.prog 31 #[.pointer (some ⟨r, 0, none⟩), .int .i64 x] w fun e w' => e = .returned (.tuple #[.agg #[.int .i64 0, .slice none 0 0], .bool false]) ∧ Below w.heap.size w w' := by
  obtain ⟨al, cl, l0, l1, -, -, -⟩ := h.cells 26 (by decide)
  have l0 : w.cell? ⟨r, 52, none⟩ = some (.int .i64 (R 26).1) := l0
  have l1 : w.cell? ⟨r, 53, none⟩ = some (.slice al (R 26).2.length cl) := l1
  have HW := Lib.hid (show ∀ w, Calls Try.prog 38 #[.int .i64 x] w fun e w' => e = .returned (.int .i64 (-1)) ∧ w = w' from fun w => by have := Letter_calls x w; rw [hw] at this; exact this)
  generalize (R 26).1 = kl at l0
  generalize (R 26).2.length = ml at l1
  have hxb : (x == 0) = false := by simpa using hx0
  have e0 : (w.alloc (.cells #[.int .i64 0, .slice none 0 0] 24)).cell? ⟨r, 52, none⟩ = some (.int .i64 kl) := (World.cell?_alloc_old w _ _ (Nat.ne_of_lt (World.block_lt_of_cell? _ _ l0))).trans l0
  have e1 : (w.alloc (.cells #[.int .i64 0, .slice none 0 0] 24)).cell? ⟨r, 53, none⟩ = some (.slice al ml cl) := (World.cell?_alloc_old w _ _ (Nat.ne_of_lt (World.block_lt_of_cell? _ _ l1))).trans l1
  have HB2 := Lib.hid (G2_below w (.cells #[.int .i64 0, .slice none 0 0] 24) (.cells #[.int .i64 kl, .slice al ml cl] 24))
  have HA := Lib.hid (G2_first w (.cells #[.int .i64 0, .slice none 0 0] 24) (.cells #[.int .i64 kl, .slice al ml cl] 24))
  have hg0 := (cell_row HA.out 0).trans (show (#[Value.int .i64 0, .slice none 0 0] : Array Value)[0]? = some (.int .i64 0) from rfl)
  have hg1 := (cell_row HA.out 1).trans (show (#[Value.int .i64 0, .slice none 0 0] : Array Value)[1]? = some (.slice none 0 0) from rfl)
  have hg2 := frozen_row HA.out 0
  have hg3 := frozen_row HA.out 1
  clear h l0 l1 hw
  go_enter Try.func31, Try.ntmps31
  go_wp2_with (go_at_call 38; refine (HW.out _).mono ?_; rintro e w' ⟨rfl, rfl⟩)
  refine bodyPost_ret (results_row_tmp rfl _ _ w.heap.size 24 #[.int .i64 0, .slice none 0 0] (0, 0) _ rfl HA.out Try.underlying24 rfl (by kernel_rfl)) rfl ?_
  exact ⟨rfl, HB2.out⟩
theorem refGet_calls (w : World) (N : Nat → Prop) (r : Nat) (R : RegsT) (x : Int) (h : RefIn w N r R) :
    Calls Try.prog 31 #[.pointer (some ⟨r, 0, none⟩), .int .i64 x] w fun e w' => (∃ v', e = .returned (.tuple #[.agg #[.int .i64 (getR R x).1, v'], .bool (decide (0 < (getR R x).2.length))]) ∧ TxtAt w' (fun b => N b ∧ b ≠ r) v' (getR R x).2) ∧ Below w.heap.size w w' := by
  unfold getR
  by_cases hx : x = 0
  · subst hx
    rw [if_pos rfl]
    exact refGet_last w N r R h
  · rw [if_neg hx]
    rcases letR_idx x with ⟨hi, hl⟩ | ⟨i, g, hi26, hi, hl, -, -⟩
    · rw [hi]
      exact (refGet_none x hx hl w N r R h).mono fun e w' he => ⟨⟨_, he.1, txt_nil _ _⟩, he.2⟩
    · rw [hi]
      exact refGet_letter x i hi26 hx hl w N r R h
end Go.Proofs.Ythalpbbjcagnnaa
