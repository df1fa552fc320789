/- Walk: joined. -/
import Derived.Test.YthalpbbjcagnnaaConcat
set_option linter.unusedSimpArgs false
set_option linter.unusedVariables false
namespace Go.Proofs.Ythalpbbjcagnnaa
open Go.RowKit
/-- What one has, and another one's rows behind, if they may be. -/
def joinL (k : Int) (X : Txt) (k' : Int) (Y : Txt) : Txt := if X = [] ∨ k ≠ k' ∨ k = 2 then Y else X ++ Y
abbrev W5 (w : World) (A B C D E : Obj) : World := (((((w.alloc A).alloc B).alloc C).alloc D).alloc E).drew
theorem W5_below (w : World) (A B C D E : Obj) : Below w.heap.size w (W5 w A B C D E) := ((((((Below.refl _ _).alloc (Nat.le_refl _) _).alloc (by simp) _).alloc (by simp; omega) _).alloc (by simp; omega) _).alloc (by simp; omega) _).drew
theorem W5_size (w : World) (A B C D E : Obj) : (W5 w A B C D E).heap.size = w.heap.size + 5 := by simp [World.drew]
theorem W5_first (w : World) (A B C D E : Obj) : (W5 w A B C D E).heap[w.heap.size]? = some A := by
  show (((((w.alloc A).alloc B).alloc C).alloc D).alloc E).heap[w.heap.size]? = some A
  rw [Below.heap_alloc _ _ _ (by simp; omega), Below.heap_alloc _ _ _ (by simp; omega), Below.heap_alloc _ _ _ (by simp; omega), Below.heap_alloc _ _ _ (by simp)]
  exact heap_new w A
theorem W5_third (w : World) (A B C D E : Obj) : (W5 w A B C D E).heap[w.heap.size + 1 + 1]? = some C := by
  show (((((w.alloc A).alloc B).alloc C).alloc D).alloc E).heap[w.heap.size + 1 + 1]? = some C
  rw [Below.heap_alloc _ _ _ (by simp), Below.heap_alloc _ _ _ (by simp)]
  have := heap_new ((w.alloc A).alloc B) C
  simpa only [World.size_alloc] using this
theorem W5_fifth (w : World) (A B C D E : Obj) : (W5 w A B C D E).heap[w.heap.size + 1 + 1 + 1 + 1]? = some E := by
  show (((((w.alloc A).alloc B).alloc C).alloc D).alloc E).heap[w.heap.size + 1 + 1 + 1 + 1]? = some E
  have := heap_new ((((w.alloc A).alloc B).alloc C).alloc D) E
  simpa only [World.size_alloc] using this
theorem alloc_third (w : World) (A B C D : Obj) : ((((w.alloc A).alloc B).alloc C).alloc D).heap[w.heap.size + 1 + 1]? = some C := by
  rw [Below.heap_alloc _ _ _ (by simp)]
  have := heap_new ((w.alloc A).alloc B) C
  simpa only [World.size_alloc] using this
theorem below_alloc4 (w : World) (A B C D : Obj) : Below w.heap.size w ((((w.alloc A).alloc B).alloc C).alloc D) :=
  ((((Below.refl _ _).alloc (Nat.le_refl _) _).alloc (by simp) _).alloc (by simp; omega) _).alloc (by simp; omega) _
set_option maxRecDepth 100000 in
set_option maxHeartbeats 1000000 in
theorem joined_calls (w : World) (N : Nat → Prop) (k k' : Int) (x y : Value) (X Y : Txt) (hY : 0 < Y.length) (hX2 : X.length ≤ 10000) (hY2 : Y.length ≤ 10000) (hx : TxtAt w N x X) (hy : TxtAt w N y Y) :
    Calls Try.prog 26 #[.agg #[.int .i64 k, x], .agg #[.int .i64 k', y]] w fun e w' => (∃ v', e = .returned (.agg #[.int .i64 k', v']) ∧ TxtAt w' (fun b => N b ∨ w.heap.size ≤ b) v' (joinL k X k' Y)) ∧ Below w.heap.size w w' := by
  have HX := Lib.hid hx
  have HY := Lib.hid hy
  obtain ⟨a, c, rfl, g1, g2, -⟩ := hx
  obtain ⟨a', c', rfl, g1', g2', -⟩ := hy
  obtain ⟨n, hn⟩ : ∃ n, X.length = n := ⟨_, rfl⟩
  obtain ⟨m, hm⟩ : ∃ m, Y.length = m := ⟨_, rfl⟩
  have HN := Lib.hid hn
  have HM := Lib.hid hm
  rw [hn] at hX2 g1 ⊢
  rw [hm] at hY hY2 g1' ⊢
  clear hn hm
  have HH := Lib.hid (fun w => has_calls k a n c w (Nat.le_trans g1 g2))
  by_cases h0 : n = 0
  · subst h0
    have HJ := Lib.hid (show joinL k X k' Y = Y by rw [joinL, if_pos (.inl (List.eq_nil_of_length_eq_zero HN.out))])
    go_enter Try.func26, Try.ntmps26
    go_wp2_with (go_at_call 25; refine (HH.out _).mono ?_; rintro e w' ⟨rfl, rfl⟩)
    refine bodyPost_ret (results_cell_row rfl _ _ (w.heap.size + 1 + 1) 30 #[.int .i64 k', .slice a' m c'] (0, 0) _ rfl (alloc_third _ _ _ _ _) Try.underlying30 rfl (by kernel_rfl)) rfl ?_
    refine ⟨⟨_, rfl, ?_⟩, below_alloc4 _ _ _ _ _⟩
    rw [HJ.out]
    have h := HY.out.below (below_alloc4 w (.cells #[.int .i64 k, .slice a 0 c] 30) (.cells #[.int .i64 k', .slice a' m c'] 30) (.cells #[.int .i64 k', .slice a' m c'] 30) (.cells #[.int .i64 k, .slice a 0 c] 30))
    rw [HM.out] at h
    exact h.keep fun b hb _ => ⟨.inl hb, rfl⟩
  · have h0b : decide (0 < n) = true := by simp; omega
    have HNE := Lib.hid (show X ≠ [] from fun e => h0 (by rw [← HN.out, e]; rfl))
    have HH := Lib.hid (show ∀ w, Calls Try.prog 25 #[.agg #[.int .i64 k, .slice a n c]] w fun e w' => e = .returned (.bool true) ∧ w' = w.alloc (.cells #[.int .i64 k, .slice a n c] 30) from fun w => by have := HH.out w; rw [h0b] at this; exact this)
    clear h0b
    by_cases hkk : k = k'
    · subst hkk
      by_cases h2 : k = 2
      · subst h2
        have HJ := Lib.hid (show joinL 2 X 2 Y = Y by rw [joinL, if_pos (.inr (.inr rfl))])
        go_enter Try.func26, Try.ntmps26
        go_wp2_with (go_at_call 25; refine (HH.out _).mono ?_; rintro e w' ⟨rfl, rfl⟩)
        refine bodyPost_ret (results_cell_row rfl _ _ (w.heap.size + 1 + 1) 30 #[.int .i64 2, .slice a' m c'] (0, 0) _ rfl (alloc_third _ _ _ _ _) Try.underlying30 rfl (by kernel_rfl)) rfl ?_
        refine ⟨⟨_, rfl, ?_⟩, below_alloc4 _ _ _ _ _⟩
        rw [HJ.out]
        have h := HY.out.below (below_alloc4 w (.cells #[.int .i64 2, .slice a n c] 30) (.cells #[.int .i64 2, .slice a' m c'] 30) (.cells #[.int .i64 2, .slice a' m c'] 30) (.cells #[.int .i64 2, .slice a n c] 30))
        rw [HM.out] at h
        exact h.keep fun b hb _ => ⟨.inl hb, rfl⟩
      · have HJ := Lib.hid (show joinL k X k Y = X ++ Y by rw [joinL, if_neg (by rintro (h | h | h); exact HNE.out h; exact h rfl; exact h2 h)])
        have h2b : (k == 2) = false := by simpa using h2
        obtain ⟨xa, xc, xs, e1, vx, -⟩ := (HX.out.keep (N' := fun b => N b ∧ b < w.heap.size) fun b hb hl => ⟨⟨hb, hl⟩, rfl⟩).rows (by rw [HN.out]; omega)
        obtain ⟨ya, yc, ys, e2, vy, -⟩ := (HY.out.keep (N' := fun b => N b ∧ b < w.heap.size) fun b hb hl => ⟨⟨hb, hl⟩, rfl⟩).rows (by rw [HM.out]; exact hY)
        obtain ⟨rfl, rfl⟩ : a = some xa ∧ c = xc := by simpa using e1
        obtain ⟨rfl, rfl⟩ : a' = some ya ∧ c' = yc := by simpa using e2
        have hC := Concat_calls (W5 w (.cells #[.int .i64 k, .slice (some xa) n c] 30) (.cells #[.int .i64 k, .slice (some ya) m c'] 30) (.cells #[.int .i64 0, .slice none 0 0] 30) (.cells #[.int .i64 k, .slice (some xa) n c] 30) (.cells #[.slice (some xa) n c, .slice (some ya) m c'] 22)) (fun b => N b ∧ b < w.heap.size) (w.heap.size + 1 + 1 + 1 + 1) 2 xa ya c c' xs ys X Y (Nat.le_refl _) (by decide) (by rw [HN.out]; omega) (by rw [HM.out]; omega) (by rw [HN.out]; omega) (by rw [HM.out]; omega)
          (by rw [HN.out]; exact (cell_row (W5_fifth _ _ _ _ _ _) 0).trans rfl) (by rw [HM.out]; exact (cell_row (W5_fifth _ _ _ _ _ _) 1).trans rfl) (vx.below (W5_below _ _ _ _ _ _)) (vy.below (W5_below _ _ _ _ _ _))
        have HC := Lib.hid hC
        clear hC e1 e2 vx vy
        go_enter Try.func26, Try.ntmps26
        go_wp2_with (go_at_call 25; refine (HH.out _).mono ?_; rintro e w' ⟨rfl, rfl⟩)
        go_region_law (go_simp; go_at_call 36; refine HC.out.mono ?_; rintro e w6 ⟨⟨v6, rfl, ht6⟩, hb6⟩; have f1 := (hb6.block w.heap.size (by rw [W5_size]; omega)).trans (W5_first _ _ _ _ _ _); have f3 := (hb6.block (w.heap.size + 1 + 1) (by rw [W5_size]; omega)).trans (W5_third _ _ _ _ _ _); have d0 : w6.cell? ⟨w.heap.size, 0, none⟩ = some (.int .i64 k) := (cell_row f1 0).trans rfl; have d1 : w6.cell? ⟨w.heap.size + 1 + 1, 0, none⟩ = some (.int .i64 0) := (cell_row f3 0).trans rfl; have d2 : w6.cell? ⟨w.heap.size + 1 + 1, 1, none⟩ = some (.slice none 0 0) := (cell_row f3 1).trans rfl; have d3 := frozen_row f3 0; have d4 := frozen_row f3 1; have HF := Lib.hid f3; have HT6 := Lib.hid ht6; have HB6 := Lib.hid hb6; obtain ⟨ta, tc, rfl, -⟩ := ht6; clear f1 f3 hb6)
        all_goals
          go_wp2
          have hf : ((w6.setCell ⟨w.heap.size + 1 + 1, 0, none⟩ (.int .i64 k)).setCell ⟨w.heap.size + 1 + 1, 1, none⟩ (.slice ta (X.length + Y.length) tc)).heap[w.heap.size + 1 + 1]? = some (.cells #[.int .i64 k, .slice ta (X.length + Y.length) tc] 30 (0, 0)) :=
            (heap_set_row _ (heap_set_row _ HF.out)).trans rfl
          refine bodyPost_ret (results_cell_row rfl _ _ (w.heap.size + 1 + 1) 30 #[.int .i64 k, .slice ta (X.length + Y.length) tc] (0, 0) _ rfl hf Try.underlying30 rfl (by kernel_rfl)) rfl ?_
          refine ⟨⟨_, rfl, ?_⟩, ?_⟩
          · rw [HJ.out]
            have h := HT6.out
            rw [List.length_append] at h
            refine h.keep fun b hb hl => ?_
            rw [W5_size] at hb
            have hne : b ≠ w.heap.size + 1 + 1 := by rcases hb with h | h <;> omega
            exact ⟨by rcases hb with h | h; exact .inl h.1; exact .inr (by omega), by rw [Below.heap_setCell _ _ _ _ hne, Below.heap_setCell _ _ _ _ hne]⟩
          · exact (((W5_below w _ _ _ _ _).trans (HB6.out.mono (by rw [W5_size]; omega))).setCell (p := ⟨w.heap.size + 1 + 1, 0, none⟩) (by show w.heap.size ≤ w.heap.size + 1 + 1; omega) _).setCell (p := ⟨w.heap.size + 1 + 1, 1, none⟩) (by show w.heap.size ≤ w.heap.size + 1 + 1; omega) _
    · have HJ := Lib.hid (show joinL k X k' Y = Y by rw [joinL, if_pos (.inr (.inl hkk))])
      have hkb : (k == k') = false := by simpa using hkk
      go_enter Try.func26, Try.ntmps26
      go_wp2_with (go_at_call 25; refine (HH.out _).mono ?_; rintro e w' ⟨rfl, rfl⟩)
      refine bodyPost_ret (results_cell_row rfl _ _ (w.heap.size + 1 + 1) 30 #[.int .i64 k', .slice a' m c'] (0, 0) _ rfl (alloc_third _ _ _ _ _) Try.underlying30 rfl (by kernel_rfl)) rfl ?_
      refine ⟨⟨_, rfl, ?_⟩, below_alloc4 _ _ _ _ _⟩
      rw [HJ.out]
      have h := HY.out.below (below_alloc4 w (.cells #[.int .i64 k, .slice a n c] 30) (.cells #[.int .i64 k', .slice a' m c'] 30) (.cells #[.int .i64 k', .slice a' m c'] 30) (.cells #[.int .i64 k, .slice a n c] 30))
      rw [HM.out] at h
      exact h.keep fun b hb _ => ⟨.inl hb, rfl⟩
end Go.Proofs.Ythalpbbjcagnnaa
