/- Walk: Set. (Written by gen_set.py.) -/
import Derived.Test.YthalpbbjcagnnaaState
set_option linter.unusedSimpArgs false
set_option linter.unusedVariables false
namespace Go.Proofs.Ythalpbbjcagnnaa
open Go.RowKit
/-- Blocks other than r, of those that there were, are as they were. -/
structure KeepR (r : Nat) (w w' : World) : Prop where
  os : w'.os = w.os
  tape : w'.tape = w.tape
  output : w'.output = w.output
  size : w.heap.size ≤ w'.heap.size
  block : ∀ k, k < w.heap.size → k ≠ r → w'.heap[k]? = w.heap[k]?
theorem KeepR.of {r : Nat} {w w' : World} (h : Below w.heap.size w w') : KeepR r w w' := ⟨h.os, h.tape, h.output, h.size, fun k hk _ => h.block k hk⟩
theorem KeepR.trans {r : Nat} {a b c : World} (h : KeepR r a b) (k : KeepR r b c) : KeepR r a c :=
  ⟨k.os.trans h.os, k.tape.trans h.tape, k.output.trans h.output, Nat.le_trans h.size k.size, fun i hi hn => (k.block i (Nat.lt_of_lt_of_le hi h.size) hn).trans (h.block i hi hn)⟩
theorem KeepR.below {r : Nat} {w w' w2 : World} (h : KeepR r w w') (hb : Below w'.heap.size w' w2) : KeepR r w w2 := h.trans (.of hb)
theorem KeepR.setCell {r : Nat} {w w' : World} (h : KeepR r w w') (j : Nat) (u : Value) : KeepR r w (w'.setCell ⟨r, j, none⟩ u) :=
  h.trans ⟨rfl, rfl, rfl, by simp [World.setCell], fun k _ hk => Below.heap_setCell _ _ _ _ hk⟩
theorem KeepR.toBelow {r B : Nat} {w w' : World} (h : KeepR r w w') (hr : B ≤ r) (hB : B ≤ w.heap.size) : Below B w w' := ⟨h.os, h.tape, h.output, h.size, fun k hk => h.block k (by omega) (by omega)⟩
/-- Which register a name is, and whether it is a great one. -/
def idxOf (x : Int) : Option (Nat × Bool) := if 97 ≤ x ∧ x ≤ 122 then some ((x - 97).toNat, false) else if 65 ≤ x ∧ x ≤ 90 then some ((x - 65).toNat, true) else none
def newTxt (R : RegsT) (x k : Int) (Y : Txt) : Txt := match idxOf x with
  | some (i, true) => joinL (R i).1 (R i).2 k Y
  | _ => Y
def putR (R : RegsT) (i : Nat) (x : Int × Txt) : RegsT := fun j => if j = i then x else R j
def setR (R : RegsT) (x k : Int) (Y : Txt) : Int × RegsT :=
  if (idxOf x = none ∧ x ≠ 0) ∨ k < 0 ∨ 2 < k ∨ Y = [] then (1, R)
  else if 4096 < sizeL (newTxt R x k Y) ∨ 400 < (newTxt R x k Y).length then (6, R)
  else (0, putR (match idxOf x with | some (i, _) => putR R i (k, newTxt R x k Y) | none => R) 26 (k, newTxt R x k Y))
set_option maxRecDepth 100000 in
set_option maxHeartbeats 1000000 in
theorem set_last (w : World) (N M : Nat → Prop) (r : Nat) (R : RegsT) (k : Int) (y : Value) (Y : Txt) (h : RegsIn w N r R) (hy : TxtAt w M y Y) (hk0 : 0 ≤ k) (hk2 : k ≤ 2) (hY : 0 < Y.length) (hS : sizeL Y ≤ 4096) (hL : Y.length ≤ 400) (hrow : ∀ l ∈ Y, l.length ≤ 100000) :
    Calls Try.prog 9 #[.pointer (some ⟨r, 0, none⟩), .int .i64 0, .agg #[.int .i64 k, y]] w fun e w' => e = .returned (.int .i64 0) ∧ RegsIn w' (fun b => N b ∨ w.heap.size ≤ b) r (putR R 26 (k, Y)) ∧ KeepR r w w' := by
  obtain ⟨a, c, rfl, g1, g2, -⟩ := id hy
  have H := Lib.hid h.lt
  have HY := Lib.hid hy
  obtain ⟨m, hm⟩ : ∃ m, Y.length = m := ⟨_, rfl⟩
  have HM := Lib.hid hm
  rw [hm] at hY hL g1 ⊢
  have hrl : r < w.heap.size := by obtain ⟨⟨cs, h1, _⟩, _⟩ := h; exact lt_of_heap h1
  have HW := Lib.hid (show ∀ w, Calls Try.prog 24 #[.int .i64 0] w fun e w' => e = .returned (.tuple #[.int .i64 0, .bool false, .bool false]) ∧ w = w' from fun w => by
    have := which_calls 0 w
    rw [if_neg (by decide), if_neg (by decide)] at this; exact this)
  have hd : decide (0 < m) = true := by simpa using hY
  have HH := Lib.hid (show ∀ w, Calls Try.prog 25 #[.agg #[.int .i64 k, .slice a m c]] w fun e w' => e = .returned (.bool true) ∧ w' = w.alloc (.cells #[.int .i64 k, .slice a m c] 30) from fun w => by
    have := has_calls k a m c w (Nat.le_trans g1 g2)
    rw [hd] at this; exact this)
  let W2 : World := (w.alloc (.cells #[.int .i64 k, .slice a m c] 30)).alloc (.cells #[.int .i64 k, .slice a m c] 30)
  have hb2 : Below w.heap.size w W2 := ((Below.refl _ _).alloc (Nat.le_refl _) _).alloc (by simp) _
  have hb3 : Below w.heap.size w (W2.alloc (.cells #[.int .i64 k, .slice a m c] 30)) := hb2.alloc hb2.size _
  have HS := Lib.hid (show Calls Try.prog 21 #[.agg #[.int .i64 k, .slice a m c]] W2 fun e w' => e = .returned (.int .i64 (sizeL Y)) ∧ w' = W2.alloc (.cells #[.int .i64 k, .slice a m c] 30) from Size_calls W2 M k _ Y (by omega) (by have := hy.below hb2; rw [hm] at this; exact this))
  have HC := Lib.hid (clone_calls (W2.alloc (.cells #[.int .i64 k, .slice a m c] 30)) M k (.slice a m c) Y (by rw [hm]; omega) hrow (by have := hy.below hb3; rw [hm] at this; exact this))
  have HB3 := Lib.hid hb3
  have HN3 := Lib.hid (show (W2.alloc (.cells #[.int .i64 k, .slice a m c] 30)).heap.size = w.heap.size + 3 by simp [W2])
  obtain ⟨z, hz⟩ : ∃ z, sizeL Y = z := ⟨_, rfl⟩
  rw [hz] at HS hS
  unfold maxLen at g2
  clear h hy hm hd hz hrow hb2 hb3
  simp only [W2] at HS HC HB3 HN3
  clear W2
  go_enter Try.func9, Try.ntmps9
  go_wp2_with (first | (go_at_call 24; refine (HW.out _).mono ?_; rintro e w' ⟨rfl, rfl⟩) | (go_at_call 25; refine (HH.out _).mono ?_; rintro e w' ⟨rfl, rfl⟩) | (go_at_call 21; refine HS.out.mono ?_; rintro e w' ⟨rfl, rfl⟩))
  refine HC.out.mono ?_
  rintro e w5 ⟨⟨v5, rfl, ht5⟩, hb5⟩
  have hR5 := (H.out.below HB3.out).below hb5
  have hf0 := hR5.frozen 52
  have hf1 := hR5.frozen 53
  obtain ⟨a5, c5, e0, e1, -, -, -⟩ := hR5.cells 26 (by decide)
  have e0 : w5.cell? ⟨r, 52, none⟩ = some (.int .i64 (R 26).1) := e0
  have e1 : w5.cell? ⟨r, 53, none⟩ = some (.slice a5 (R 26).2.length c5) := e1
  have HR5 := Lib.hid hR5
  have HT5 := Lib.hid ht5
  have HK5 := Lib.hid (KeepR.of (r := r) (HB3.out.trans (hb5.mono HB3.out.size)))
  obtain ⟨va, vc, rfl, -⟩ := ht5
  clear hR5 hb5
  go_wp2_with fail
  go_ret
  refine ⟨rfl, ?_, (HK5.out.setCell 52 _).setCell 53 _⟩
  have hp := (HR5.out.keep (N' := fun b => N b ∨ w.heap.size ≤ b) fun b hb _ => ⟨.inl hb.1, rfl⟩).put 26 (by decide) k _ Y (HT5.out.keep fun b hb _ => ⟨⟨.inr (by rw [HN3.out] at hb; omega), by rw [HN3.out] at hb; omega⟩, rfl⟩)
  exact hp
abbrev W3 (w : World) (A : Obj) : World := ((w.alloc A).alloc A).alloc A
theorem W3_below (w : World) (A : Obj) : Below w.heap.size w (W3 w A) := (((Below.refl _ _).alloc (Nat.le_refl _) _).alloc (by simp) _).alloc (by simp; omega) _
theorem W3_size (w : World) (A : Obj) : (W3 w A).heap.size = w.heap.size + 3 := by simp
theorem W3_first (w : World) (A : Obj) : (W3 w A).heap[w.heap.size]? = some A := by
  rw [Below.heap_alloc _ _ _ (by simp; omega), Below.heap_alloc _ _ _ (by simp)]
  exact heap_new w A
set_option maxRecDepth 100000 in
set_option maxHeartbeats 1000000 in
theorem set_low (w : World) (N M : Nat → Prop) (r i : Nat) (hi : i < 26) (R : RegsT) (k : Int) (y : Value) (Y : Txt) (h : RegsIn w N r R) (hMr : ¬ M r) (hy : TxtAt w M y Y) (hk0 : 0 ≤ k) (hk2 : k ≤ 2) (hY : 0 < Y.length) (hS : sizeL Y ≤ 4096) (hL : Y.length ≤ 400) (hrow : ∀ l ∈ Y, l.length ≤ 100000) :
    Calls Try.prog 9 #[.pointer (some ⟨r, 0, none⟩), .int .i64 (97 + i), .agg #[.int .i64 k, y]] w fun e w' => e = .returned (.int .i64 0) ∧ RegsIn w' (fun b => N b ∨ w.heap.size ≤ b) r (putR (putR R i (k, Y)) 26 (k, Y)) ∧ KeepR r w w' := by
  obtain ⟨a, c, rfl, g1, g2, -⟩ := id hy
  have H := Lib.hid h.lt
  have HY := Lib.hid hy
  obtain ⟨m, hm⟩ : ∃ m, Y.length = m := ⟨_, rfl⟩
  have HM := Lib.hid hm
  rw [hm] at hY hL g1 ⊢
  have hrl : r < w.heap.size := by obtain ⟨⟨cs, h1, _⟩, _⟩ := h; exact lt_of_heap h1
  have HW := Lib.hid (show ∀ w, Calls Try.prog 24 #[.int .i64 (97 + i)] w fun e w' => e = .returned (.tuple #[.int .i64 i, .bool false, .bool true]) ∧ w = w' from fun w => by
    have := which_calls (97 + i) w
    rw [if_pos (by omega), show (97 + (i : Int) - 97) = i by omega] at this; exact this)
  have hd : decide (0 < m) = true := by simpa using hY
  have HH := Lib.hid (show ∀ w, Calls Try.prog 25 #[.agg #[.int .i64 k, .slice a m c]] w fun e w' => e = .returned (.bool true) ∧ w' = w.alloc (.cells #[.int .i64 k, .slice a m c] 30) from fun w => by
    have := has_calls k a m c w (Nat.le_trans g1 g2)
    rw [hd] at this; exact this)
  have HYW := Lib.hid (show ∀ w', Below w.heap.size w w' → TxtAt w' M (.slice a m c) Y from fun w' hb => by have := hy.below hb; rw [hm] at this; exact this)
  have HB3 := Lib.hid (W3_below w (.cells #[.int .i64 k, .slice a m c] 30))
  have HS := Lib.hid (show Calls Try.prog 21 #[.agg #[.int .i64 k, .slice a m c]] ((w.alloc (.cells #[.int .i64 k, .slice a m c] 30)).alloc (.cells #[.int .i64 k, .slice a m c] 30)) fun e w' => e = .returned (.int .i64 (sizeL Y)) ∧ w' = W3 w (.cells #[.int .i64 k, .slice a m c] 30) from Size_calls _ M k _ Y (by omega) (HYW.out _ (((Below.refl _ _).alloc (Nat.le_refl _) _).alloc (by simp) _)))
  have HC := Lib.hid (fun w' hb => clone_calls w' M k (.slice a m c) Y (by rw [hm]; omega) hrow (HYW.out w' hb))
  have HL := Lib.hid (show Y.length ≤ 100000 by rw [hm]; omega)
  have HRW := Lib.hid hrow
  have hi26 : ((i : Int) < 26) = True := eq_true (by omega)
  obtain ⟨z, hz⟩ : ∃ z, sizeL Y = z := ⟨_, rfl⟩
  rw [hz] at HS hS
  unfold maxLen at g2
  clear h hy hm hd hz hrow
  go_enter Try.func9, Try.ntmps9
  go_wp2_with (first | (go_at_call 24; refine (HW.out _).mono ?_; rintro e w' ⟨rfl, rfl⟩) | (go_at_call 25; refine (HH.out _).mono ?_; rintro e w' ⟨rfl, rfl⟩) | (go_at_call 21; refine HS.out.mono ?_; rintro e w' ⟨rfl, rfl⟩))
  go_region_law (go_simp; go_at_call 27; refine (HC.out _ (below_drewN HB3.out 1)).mono ?_; rintro e w5 ⟨⟨v5, rfl, ht5⟩, hb5⟩; have hR5 := (H.out.below (below_drewN HB3.out 1)).below hb5; obtain ⟨a5, c5, q0, q1, -, -, -⟩ := hR5.cells i (by omega); have q2 := hR5.frozen (i * 2); have q3 := hR5.frozen (i * 2 + 1); have HR5 := Lib.hid hR5; have HT5 := Lib.hid ht5; have HB5 := Lib.hid hb5; obtain ⟨va, vc, rfl, -⟩ := ht5; clear hR5 hb5)
  all_goals
    have hp := (HR5.out.keep (N' := fun b => N b ∨ w.heap.size ≤ b) fun b hb _ => ⟨.inl hb.1, rfl⟩).put i (by omega) k _ Y (HT5.out.keep fun b hb _ => ⟨⟨.inr (by have h5 : (W3 w (.cells #[.int .i64 k, .slice a m c] 30)).heap.size ≤ b := hb; rw [W3_size] at h5; omega), by have h5 : (W3 w (.cells #[.int .i64 k, .slice a m c] 30)).heap.size ≤ b := hb; rw [W3_size] at h5; omega⟩, rfl⟩)
    have hk6 := ((KeepR.of (r := r) ((below_drewN HB3.out 1).trans (HB5.out.mono (by show w.heap.size ≤ (W3 w _).heap.size; rw [W3_size]; omega)))).setCell (i * 2) (.int .i64 k)).setCell (i * 2 + 1) (.slice va Y.length vc)
    have hf := (HB5.out.block w.heap.size (by show w.heap.size < (W3 w _).heap.size; rw [W3_size]; omega)).trans (W3_first w (.cells #[.int .i64 k, .slice a m c] 30))
    generalize h6 : (w5.setCell ⟨r, i * 2, none⟩ (.int .i64 k)).setCell ⟨r, i * 2 + 1, none⟩ (.slice va Y.length vc) = w6 at hp hk6 ⊢
    have hf6 : w6.heap[w.heap.size]? = some (.cells #[.int .i64 k, .slice a m c] 30 (0, 0)) := by
      rw [← h6, Below.heap_setCell _ _ _ _ (by show w.heap.size ≠ r; omega), Below.heap_setCell _ _ _ _ (by show w.heap.size ≠ r; omega)]; exact hf
    have d0 : w6.cell? ⟨w.heap.size, 0, none⟩ = some (.int .i64 k) := (cell_row hf6 0).trans rfl
    have d1 : w6.cell? ⟨w.heap.size, 1, none⟩ = some (.slice a m c) := (cell_row hf6 1).trans rfl
    have hy6 : TxtAt w6 M (.slice a m c) Y := by
      have := HY.out.keep (w' := w6) (N' := M) fun b hb hl => ⟨hb, hk6.block b hl (fun e => hMr (e ▸ hb))⟩
      rw [HM.out] at this; exact this
    have HC6 := Lib.hid (clone_calls w6 M k (.slice a m c) Y HL.out HRW.out hy6)
    have HP6 := Lib.hid hp
    have HK6 := Lib.hid hk6
    clear hp hk6 hf hf6 hy6 q0 q1 q2 q3
    go_wp2_with fail
    refine HC6.out.mono ?_
    rintro e w7 ⟨⟨v7, rfl, ht7⟩, hb7⟩
    have hR7 := HP6.out.below hb7
    have hf0 := hR7.frozen 52
    have hf1 := hR7.frozen 53
    obtain ⟨a7, c7, e0, e1, -, -, -⟩ := hR7.cells 26 (by decide)
    have e0 : w7.cell? ⟨r, 52, none⟩ = some (.int .i64 ((fun j => if j = i then (k, Y) else R j) 26).1) := e0
    have e1 : w7.cell? ⟨r, 53, none⟩ = some (.slice a7 ((fun j => if j = i then (k, Y) else R j) 26).2.length c7) := e1
    generalize ((fun j => if j = i then (k, Y) else R j) 26).1 = u1 at e0
    generalize ((fun j => if j = i then (k, Y) else R j) 26).2.length = u2 at e1
    have HR7 := Lib.hid hR7
    have HT7 := Lib.hid ht7
    have HK7 := Lib.hid (HK6.out.below hb7)
    obtain ⟨vb, vd, rfl, -⟩ := ht7
    clear hR7 hb7 d0 d1
    go_wp2_with fail
    go_ret
    refine ⟨rfl, ?_, (HK7.out.setCell 52 _).setCell 53 _⟩
    have hp := HR7.out.put 26 (by decide) k _ Y (HT7.out.keep fun b hb _ => ⟨⟨.inr (by have := HK6.out.size; omega), by have := HK6.out.size; omega⟩, rfl⟩)
    exact hp
end Go.Proofs.Ythalpbbjcagnnaa
