/- Walk: the document's Set. (Written by gen_refset.py.) -/
import Derived.Test.YthalpbbjcagnnaaRefArg
set_option linter.unusedSimpArgs false
set_option linter.unusedVariables false
namespace Go.Proofs.Ythalpbbjcagnnaa
open Go.RowKit
set_option maxRecDepth 100000 in
set_option maxHeartbeats 2000000 in
theorem refSet_last_full (w : World) (N : Nat → Prop) (r : Nat) (R : RegsT) (k : Int) (y : Value) (Y : Txt) (h : RefIn w N r R) (hy : TxtAt w (fun b => N b ∧ b ≠ r) y Y) (hk0 : 0 ≤ k) (hk2 : k ≤ 2) (hY : 0 < Y.length) (hz4 : 4096 < sizeL Y) (hS2 : sizeL Y ≤ 1000000) :
    Calls Try.prog 29 #[.pointer (some ⟨r, 0, none⟩), .int .i64 0, .agg #[.int .i64 k, y]] w fun e w' => e = .returned (.int .i64 6) ∧ Below w.heap.size w w' := by
  have H := Lib.hid h
  have hrl : r < w.heap.size := by obtain ⟨⟨cs, h1, _⟩, _⟩ := h; exact lt_of_heap h1
  obtain ⟨az, cz, rfl, -⟩ := id hy
  obtain ⟨Z, hZ⟩ : ∃ Z, Y = Z := ⟨_, rfl⟩
  rw [hZ] at hy hY hz4 hS2 ⊢
  have HS2 := Lib.hid hS2
  have HT := Lib.hid hy
  obtain ⟨lz, hlz⟩ : ∃ lz, Z.length = lz := ⟨_, rfl⟩
  rw [hlz] at hY HT ⊢
  obtain ⟨z, hz⟩ : ∃ z, sizeL Z = z := ⟨_, rfl⟩
  have HZZ := Lib.hid hz
  rw [hz] at hz4
  have hlz0 : ((lz : Int) == 0) = false := by simp; omega
  have hk0b : decide (k < 0) = false := by simp; omega
  have hk2c : decide (2 < k) = false := by simp; omega
  have HW := Lib.hid (fun w => Letter_calls 0 w)
  have HB1 := Lib.hid (show Below w.heap.size w (w.alloc (.cells #[.int .i64 k, .slice az lz cz] 24)) from (Below.refl _ _).alloc (Nat.le_refl _) _)
  have HN1 := Lib.hid (heap_new w (.cells #[.int .i64 k, .slice az lz cz] 24))
  rw [show letR 0 = -1 from rfl] at HW
  have x0 : True := trivial
  have x1 : True := trivial
  clear h hy hz hS2 hZ hlz
  go_enter Try.func29, Try.ntmps29
  go_wp2_with (go_at_call 38; refine (HW.out _).mono ?_; rintro e w' ⟨rfl, rfl⟩)
  go_quiet (fail)
  have HQB := Lib.hid (below_drewN HB1.out nq)
  have HBOX := Lib.hid (show Two w.heap.size k (.slice az lz cz) ((w.alloc (.cells #[.int .i64 k, .slice az lz cz] 24)).drewN nq) from (Two.of HN1.out).to rfl)
  have HTZ := Lib.hid (show TxtAt ((w.alloc (.cells #[.int .i64 k, .slice az lz cz] 24)).drewN nq) (fun b => (N b ∨ w.heap.size ≤ b) ∧ b ≠ r) (.slice az lz cz) Z from (HT.out.below HQB.out).keep fun b hb _ => ⟨⟨.inl hb.1, hb.2⟩, rfl⟩)
  generalize (w.alloc (.cells #[.int .i64 k, .slice az lz cz] 24)).drewN nq = wq at *
  have HSZ := Lib.hid (SizeR_calls wq _ k _ Z HS2.out HTZ.out)
  rw [HZZ.out] at HSZ
  have y0 := HBOX.out.one
  have y1 := HBOX.out.two
  go_wp2_with fail
  refine HSZ.out.mono ?_
  rintro e w3 ⟨rfl, hw3⟩
  have hb3 : Below wq.heap.size wq w3 := by rw [hw3]; exact (Below.refl _ _).alloc (Nat.le_refl _) _
  have HB3 := Lib.hid (HQB.out.trans (hb3.mono HQB.out.size))
  have HY3 := Lib.hid (HBOX.out.below hb3 HBOX.out.lt)
  have HT3 := Lib.hid (HTZ.out.below hb3)
  have y0 := HY3.out.one
  have y1 := HY3.out.two
  clear hw3 hb3 HSZ HTZ HBOX HQB x0 x1
  go_wp2_with fail
  go_ret
  exact ⟨rfl, HB3.out⟩
set_option maxRecDepth 100000 in
set_option maxHeartbeats 2000000 in
theorem refSet_low_full (w : World) (N : Nat → Prop) (r : Nat) (x : Int) (i : Nat) (hi : i < 26) (hx : letR x = i) (R : RegsT) (k : Int) (y : Value) (Y : Txt) (h : RefIn w N r R) (hy : TxtAt w (fun b => N b ∧ b ≠ r) y Y) (hk0 : 0 ≤ k) (hk2 : k ≤ 2) (hY : 0 < Y.length) (hz4 : 4096 < sizeL Y) (hS2 : sizeL Y ≤ 1000000) (hg : 97 ≤ x) :
    Calls Try.prog 29 #[.pointer (some ⟨r, 0, none⟩), .int .i64 x, .agg #[.int .i64 k, y]] w fun e w' => e = .returned (.int .i64 6) ∧ Below w.heap.size w w' := by
  have H := Lib.hid h
  have hrl : r < w.heap.size := by obtain ⟨⟨cs, h1, _⟩, _⟩ := h; exact lt_of_heap h1
  obtain ⟨az, cz, rfl, -⟩ := id hy
  obtain ⟨Z, hZ⟩ : ∃ Z, Y = Z := ⟨_, rfl⟩
  rw [hZ] at hy hY hz4 hS2 ⊢
  have HS2 := Lib.hid hS2
  have HT := Lib.hid hy
  obtain ⟨lz, hlz⟩ : ∃ lz, Z.length = lz := ⟨_, rfl⟩
  rw [hlz] at hY HT ⊢
  obtain ⟨z, hz⟩ : ∃ z, sizeL Z = z := ⟨_, rfl⟩
  have HZZ := Lib.hid hz
  rw [hz] at hz4
  have hlz0 : ((lz : Int) == 0) = false := by simp; omega
  have hk0b : decide (k < 0) = false := by simp; omega
  have hk2c : decide (2 < k) = false := by simp; omega
  have HW := Lib.hid (fun w => Letter_calls x w)
  have HB1 := Lib.hid (show Below w.heap.size w (w.alloc (.cells #[.int .i64 k, .slice az lz cz] 24)) from (Below.refl _ _).alloc (Nat.le_refl _) _)
  have HN1 := Lib.hid (heap_new w (.cells #[.int .i64 k, .slice az lz cz] 24))
  rw [hx] at HW
  obtain ⟨ax, cx, x0, x1, -, -, -⟩ := h.cells i (by omega)
  have x0 := (World.cell?_alloc_old w (.cells #[.int .i64 k, .slice az lz cz] 24) _ (Nat.ne_of_lt (World.block_lt_of_cell? _ _ x0))).trans x0
  have x1 := (World.cell?_alloc_old w (.cells #[.int .i64 k, .slice az lz cz] 24) _ (Nat.ne_of_lt (World.block_lt_of_cell? _ _ x1))).trans x1
  have hi26 : ((i : Int) < 26) = True := eq_true (by omega)
  have hgb : decide (x < 97) = false := by simpa using hg
  clear hx
  clear h hy hz hS2 hZ hlz
  go_enter Try.func29, Try.ntmps29
  go_wp2_with (go_at_call 38; refine (HW.out _).mono ?_; rintro e w' ⟨rfl, rfl⟩)
  go_quiet (fail)
  have HQB := Lib.hid (below_drewN HB1.out nq)
  have HBOX := Lib.hid (show Two w.heap.size k (.slice az lz cz) ((w.alloc (.cells #[.int .i64 k, .slice az lz cz] 24)).drewN nq) from (Two.of HN1.out).to rfl)
  have HTZ := Lib.hid (show TxtAt ((w.alloc (.cells #[.int .i64 k, .slice az lz cz] 24)).drewN nq) (fun b => (N b ∨ w.heap.size ≤ b) ∧ b ≠ r) (.slice az lz cz) Z from (HT.out.below HQB.out).keep fun b hb _ => ⟨⟨.inl hb.1, hb.2⟩, rfl⟩)
  generalize (w.alloc (.cells #[.int .i64 k, .slice az lz cz] 24)).drewN nq = wq at *
  have HSZ := Lib.hid (SizeR_calls wq _ k _ Z HS2.out HTZ.out)
  rw [HZZ.out] at HSZ
  have y0 := HBOX.out.one
  have y1 := HBOX.out.two
  go_wp2_with fail
  refine HSZ.out.mono ?_
  rintro e w3 ⟨rfl, hw3⟩
  have hb3 : Below wq.heap.size wq w3 := by rw [hw3]; exact (Below.refl _ _).alloc (Nat.le_refl _) _
  have HB3 := Lib.hid (HQB.out.trans (hb3.mono HQB.out.size))
  have HY3 := Lib.hid (HBOX.out.below hb3 HBOX.out.lt)
  have HT3 := Lib.hid (HTZ.out.below hb3)
  have y0 := HY3.out.one
  have y1 := HY3.out.two
  clear hw3 hb3 HSZ HTZ HBOX HQB x0 x1
  go_wp2_with fail
  go_ret
  exact ⟨rfl, HB3.out⟩
set_option maxRecDepth 100000 in
set_option maxHeartbeats 2000000 in
theorem refSet_kind_full (w : World) (N : Nat → Prop) (r : Nat) (x : Int) (i : Nat) (hi : i < 26) (hx : letR x = i) (R : RegsT) (k : Int) (y : Value) (Y : Txt) (h : RefIn w N r R) (hy : TxtAt w (fun b => N b ∧ b ≠ r) y Y) (hk0 : 0 ≤ k) (hk2 : k ≤ 2) (hY : 0 < Y.length) (hz4 : 4096 < sizeL Y) (hS2 : sizeL Y ≤ 1000000) (hg : x < 97) (hkk : (R i).1 ≠ k) :
    Calls Try.prog 29 #[.pointer (some ⟨r, 0, none⟩), .int .i64 x, .agg #[.int .i64 k, y]] w fun e w' => e = .returned (.int .i64 6) ∧ Below w.heap.size w w' := by
  have H := Lib.hid h
  have hrl : r < w.heap.size := by obtain ⟨⟨cs, h1, _⟩, _⟩ := h; exact lt_of_heap h1
  obtain ⟨az, cz, rfl, -⟩ := id hy
  obtain ⟨Z, hZ⟩ : ∃ Z, Y = Z := ⟨_, rfl⟩
  rw [hZ] at hy hY hz4 hS2 ⊢
  have HS2 := Lib.hid hS2
  have HT := Lib.hid hy
  obtain ⟨lz, hlz⟩ : ∃ lz, Z.length = lz := ⟨_, rfl⟩
  rw [hlz] at hY HT ⊢
  obtain ⟨z, hz⟩ : ∃ z, sizeL Z = z := ⟨_, rfl⟩
  have HZZ := Lib.hid hz
  rw [hz] at hz4
  have hlz0 : ((lz : Int) == 0) = false := by simp; omega
  have hk0b : decide (k < 0) = false := by simp; omega
  have hk2c : decide (2 < k) = false := by simp; omega
  have HW := Lib.hid (fun w => Letter_calls x w)
  have HB1 := Lib.hid (show Below w.heap.size w (w.alloc (.cells #[.int .i64 k, .slice az lz cz] 24)) from (Below.refl _ _).alloc (Nat.le_refl _) _)
  have HN1 := Lib.hid (heap_new w (.cells #[.int .i64 k, .slice az lz cz] 24))
  rw [hx] at HW
  obtain ⟨ax, cx, x0, x1, -, -, -⟩ := h.cells i (by omega)
  have x0 := (World.cell?_alloc_old w (.cells #[.int .i64 k, .slice az lz cz] 24) _ (Nat.ne_of_lt (World.block_lt_of_cell? _ _ x0))).trans x0
  have x1 := (World.cell?_alloc_old w (.cells #[.int .i64 k, .slice az lz cz] 24) _ (Nat.ne_of_lt (World.block_lt_of_cell? _ _ x1))).trans x1
  have hi26 : ((i : Int) < 26) = True := eq_true (by omega)
  have hkb : ((R i).1 == k) = false := by simpa using hkk
  clear hkk
  clear hx
  clear h hy hz hS2 hZ hlz
  go_enter Try.func29, Try.ntmps29
  go_wp2_with (go_at_call 38; refine (HW.out _).mono ?_; rintro e w' ⟨rfl, rfl⟩)
  go_quiet (fail)
  have HQB := Lib.hid (below_drewN HB1.out nq)
  have HBOX := Lib.hid (show Two w.heap.size k (.slice az lz cz) ((w.alloc (.cells #[.int .i64 k, .slice az lz cz] 24)).drewN nq) from (Two.of HN1.out).to rfl)
  have HTZ := Lib.hid (show TxtAt ((w.alloc (.cells #[.int .i64 k, .slice az lz cz] 24)).drewN nq) (fun b => (N b ∨ w.heap.size ≤ b) ∧ b ≠ r) (.slice az lz cz) Z from (HT.out.below HQB.out).keep fun b hb _ => ⟨⟨.inl hb.1, hb.2⟩, rfl⟩)
  generalize (w.alloc (.cells #[.int .i64 k, .slice az lz cz] 24)).drewN nq = wq at *
  have HSZ := Lib.hid (SizeR_calls wq _ k _ Z HS2.out HTZ.out)
  rw [HZZ.out] at HSZ
  have y0 := HBOX.out.one
  have y1 := HBOX.out.two
  go_wp2_with fail
  refine HSZ.out.mono ?_
  rintro e w3 ⟨rfl, hw3⟩
  have hb3 : Below wq.heap.size wq w3 := by rw [hw3]; exact (Below.refl _ _).alloc (Nat.le_refl _) _
  have HB3 := Lib.hid (HQB.out.trans (hb3.mono HQB.out.size))
  have HY3 := Lib.hid (HBOX.out.below hb3 HBOX.out.lt)
  have HT3 := Lib.hid (HTZ.out.below hb3)
  have y0 := HY3.out.one
  have y1 := HY3.out.two
  clear hw3 hb3 HSZ HTZ HBOX HQB x0 x1
  go_wp2_with fail
  go_ret
  exact ⟨rfl, HB3.out⟩
set_option maxRecDepth 100000 in
set_option maxHeartbeats 2000000 in
theorem refSet_cols_full (w : World) (N : Nat → Prop) (r : Nat) (x : Int) (i : Nat) (hi : i < 26) (hx : letR x = i) (R : RegsT) (k : Int) (y : Value) (Y : Txt) (h : RefIn w N r R) (hy : TxtAt w (fun b => N b ∧ b ≠ r) y Y) (hk0 : 0 ≤ k) (hk2 : k ≤ 2) (hY : 0 < Y.length) (hz4 : 4096 < sizeL Y) (hS2 : sizeL Y ≤ 1000000) (hg : x < 97) (hkk : (R i).1 = k) (hk2b : k = 2) :
    Calls Try.prog 29 #[.pointer (some ⟨r, 0, none⟩), .int .i64 x, .agg #[.int .i64 k, y]] w fun e w' => e = .returned (.int .i64 6) ∧ Below w.heap.size w w' := by
  have H := Lib.hid h
  have hrl : r < w.heap.size := by obtain ⟨⟨cs, h1, _⟩, _⟩ := h; exact lt_of_heap h1
  obtain ⟨az, cz, rfl, -⟩ := id hy
  obtain ⟨Z, hZ⟩ : ∃ Z, Y = Z := ⟨_, rfl⟩
  rw [hZ] at hy hY hz4 hS2 ⊢
  have HS2 := Lib.hid hS2
  have HT := Lib.hid hy
  obtain ⟨lz, hlz⟩ : ∃ lz, Z.length = lz := ⟨_, rfl⟩
  rw [hlz] at hY HT ⊢
  obtain ⟨z, hz⟩ : ∃ z, sizeL Z = z := ⟨_, rfl⟩
  have HZZ := Lib.hid hz
  rw [hz] at hz4
  have hlz0 : ((lz : Int) == 0) = false := by simp; omega
  have hk0b : decide (k < 0) = false := by simp; omega
  have hk2c : decide (2 < k) = false := by simp; omega
  have HW := Lib.hid (fun w => Letter_calls x w)
  have HB1 := Lib.hid (show Below w.heap.size w (w.alloc (.cells #[.int .i64 k, .slice az lz cz] 24)) from (Below.refl _ _).alloc (Nat.le_refl _) _)
  have HN1 := Lib.hid (heap_new w (.cells #[.int .i64 k, .slice az lz cz] 24))
  rw [hx] at HW
  obtain ⟨ax, cx, x0, x1, -, -, -⟩ := h.cells i (by omega)
  have x0 := (World.cell?_alloc_old w (.cells #[.int .i64 k, .slice az lz cz] 24) _ (Nat.ne_of_lt (World.block_lt_of_cell? _ _ x0))).trans x0
  have x1 := (World.cell?_alloc_old w (.cells #[.int .i64 k, .slice az lz cz] 24) _ (Nat.ne_of_lt (World.block_lt_of_cell? _ _ x1))).trans x1
  have hi26 : ((i : Int) < 26) = True := eq_true (by omega)
  have hk2d : decide (k < 2) = false := by simp; omega
  have hkke : (k == k) = true := by simp
  have hgb : decide (x < 97) = true := by simpa using hg
  rw [hkk] at x0
  clear hkk hk2b
  clear hx
  clear h hy hz hS2 hZ hlz
  go_enter Try.func29, Try.ntmps29
  go_wp2_with (go_at_call 38; refine (HW.out _).mono ?_; rintro e w' ⟨rfl, rfl⟩)
  go_quiet (fail)
  have HQB := Lib.hid (below_drewN HB1.out nq)
  have HBOX := Lib.hid (show Two w.heap.size k (.slice az lz cz) ((w.alloc (.cells #[.int .i64 k, .slice az lz cz] 24)).drewN nq) from (Two.of HN1.out).to rfl)
  have HTZ := Lib.hid (show TxtAt ((w.alloc (.cells #[.int .i64 k, .slice az lz cz] 24)).drewN nq) (fun b => (N b ∨ w.heap.size ≤ b) ∧ b ≠ r) (.slice az lz cz) Z from (HT.out.below HQB.out).keep fun b hb _ => ⟨⟨.inl hb.1, hb.2⟩, rfl⟩)
  generalize (w.alloc (.cells #[.int .i64 k, .slice az lz cz] 24)).drewN nq = wq at *
  have HSZ := Lib.hid (SizeR_calls wq _ k _ Z HS2.out HTZ.out)
  rw [HZZ.out] at HSZ
  have y0 := HBOX.out.one
  have y1 := HBOX.out.two
  go_wp2_with fail
  refine HSZ.out.mono ?_
  rintro e w3 ⟨rfl, hw3⟩
  have hb3 : Below wq.heap.size wq w3 := by rw [hw3]; exact (Below.refl _ _).alloc (Nat.le_refl _) _
  have HB3 := Lib.hid (HQB.out.trans (hb3.mono HQB.out.size))
  have HY3 := Lib.hid (HBOX.out.below hb3 HBOX.out.lt)
  have HT3 := Lib.hid (HTZ.out.below hb3)
  have y0 := HY3.out.one
  have y1 := HY3.out.two
  clear hw3 hb3 HSZ HTZ HBOX HQB x0 x1
  go_wp2_with fail
  go_ret
  exact ⟨rfl, HB3.out⟩
set_option maxRecDepth 100000 in
set_option maxHeartbeats 2000000 in
theorem refSet_last_ok (w : World) (N : Nat → Prop) (r : Nat) (R : RegsT) (k : Int) (y : Value) (Y : Txt) (h : RefIn w N r R) (hy : TxtAt w (fun b => N b ∧ b ≠ r) y Y) (hk0 : 0 ≤ k) (hk2 : k ≤ 2) (hY : 0 < Y.length) (hz4 : sizeL Y ≤ 4096) (hL : Y.length ≤ 400) (hS2 : sizeL Y ≤ 1000000) :
    Calls Try.prog 29 #[.pointer (some ⟨r, 0, none⟩), .int .i64 0, .agg #[.int .i64 k, y]] w fun e w' => e = .returned (.int .i64 0) ∧ RefIn w' (fun b => N b ∨ w.heap.size ≤ b) r (putR R 26 (k, Y)) ∧ KeepR r w w' := by
  have H := Lib.hid h
  have hrl : r < w.heap.size := by obtain ⟨⟨cs, h1, _⟩, _⟩ := h; exact lt_of_heap h1
  obtain ⟨az, cz, rfl, -⟩ := id hy
  obtain ⟨Z, hZ⟩ : ∃ Z, Y = Z := ⟨_, rfl⟩
  rw [hZ] at hy hY hz4 hS2 hL ⊢
  have HS2 := Lib.hid hS2
  have HT := Lib.hid hy
  obtain ⟨lz, hlz⟩ : ∃ lz, Z.length = lz := ⟨_, rfl⟩
  rw [hlz] at hY HT hL ⊢
  obtain ⟨z, hz⟩ : ∃ z, sizeL Z = z := ⟨_, rfl⟩
  have HZZ := Lib.hid hz
  rw [hz] at hz4
  have hlz0 : ((lz : Int) == 0) = false := by simp; omega
  have hk0b : decide (k < 0) = false := by simp; omega
  have hk2c : decide (2 < k) = false := by simp; omega
  have HW := Lib.hid (fun w => Letter_calls 0 w)
  have HB1 := Lib.hid (show Below w.heap.size w (w.alloc (.cells #[.int .i64 k, .slice az lz cz] 24)) from (Below.refl _ _).alloc (Nat.le_refl _) _)
  have HN1 := Lib.hid (heap_new w (.cells #[.int .i64 k, .slice az lz cz] 24))
  rw [show letR 0 = -1 from rfl] at HW
  have x0 : True := trivial
  have x1 : True := trivial
  clear h hy hz hS2 hZ hlz
  go_enter Try.func29, Try.ntmps29
  go_wp2_with (go_at_call 38; refine (HW.out _).mono ?_; rintro e w' ⟨rfl, rfl⟩)
  go_quiet (fail)
  have HQB := Lib.hid (below_drewN HB1.out nq)
  have HBOX := Lib.hid (show Two w.heap.size k (.slice az lz cz) ((w.alloc (.cells #[.int .i64 k, .slice az lz cz] 24)).drewN nq) from (Two.of HN1.out).to rfl)
  have HTZ := Lib.hid (show TxtAt ((w.alloc (.cells #[.int .i64 k, .slice az lz cz] 24)).drewN nq) (fun b => (N b ∨ w.heap.size ≤ b) ∧ b ≠ r) (.slice az lz cz) Z from (HT.out.below HQB.out).keep fun b hb _ => ⟨⟨.inl hb.1, hb.2⟩, rfl⟩)
  generalize (w.alloc (.cells #[.int .i64 k, .slice az lz cz] 24)).drewN nq = wq at *
  have HSZ := Lib.hid (SizeR_calls wq _ k _ Z HS2.out HTZ.out)
  rw [HZZ.out] at HSZ
  have y0 := HBOX.out.one
  have y1 := HBOX.out.two
  go_wp2_with fail
  refine HSZ.out.mono ?_
  rintro e w3 ⟨rfl, hw3⟩
  have hb3 : Below wq.heap.size wq w3 := by rw [hw3]; exact (Below.refl _ _).alloc (Nat.le_refl _) _
  have HB3 := Lib.hid (HQB.out.trans (hb3.mono HQB.out.size))
  have HY3 := Lib.hid (HBOX.out.below hb3 HBOX.out.lt)
  have HT3 := Lib.hid (HTZ.out.below hb3)
  have y0 := HY3.out.one
  have y1 := HY3.out.two
  clear hw3 hb3 HSZ HTZ HBOX HQB x0 x1
  have hR3 := (H.out.below HB3.out).keep (N' := fun b => N b ∨ w.heap.size ≤ b) fun b hb _ => ⟨.inl hb, rfl⟩
  obtain ⟨a3, c3, q0, q1, -, -, -⟩ := hR3.cells 26 (by omega)
  have q0 : w3.cell? ⟨r, 52, none⟩ = some (.int .i64 (R 26).1) := q0
  have q1 : w3.cell? ⟨r, 53, none⟩ = some (.slice a3 (R 26).2.length c3) := q1
  have q2 := hR3.frozen 52
  have q3 := hR3.frozen 53
  have HR3 := Lib.hid hR3
  clear hR3
  go_wp2_with fail
  go_ret
  have hp := HR3.out.put 26 (by decide) k _ Z HT3.out
  exact ⟨rfl, hp, ((KeepR.of HB3.out).setCell 52 _).setCell 53 _⟩
set_option maxRecDepth 100000 in
set_option maxHeartbeats 2000000 in
theorem refSet_low_ok (w : World) (N : Nat → Prop) (r : Nat) (x : Int) (i : Nat) (hi : i < 26) (hx : letR x = i) (R : RegsT) (k : Int) (y : Value) (Y : Txt) (h : RefIn w N r R) (hy : TxtAt w (fun b => N b ∧ b ≠ r) y Y) (hk0 : 0 ≤ k) (hk2 : k ≤ 2) (hY : 0 < Y.length) (hz4 : sizeL Y ≤ 4096) (hL : Y.length ≤ 400) (hS2 : sizeL Y ≤ 1000000) (hg : 97 ≤ x) :
    Calls Try.prog 29 #[.pointer (some ⟨r, 0, none⟩), .int .i64 x, .agg #[.int .i64 k, y]] w fun e w' => e = .returned (.int .i64 0) ∧ RefIn w' (fun b => N b ∨ w.heap.size ≤ b) r (putR (putR R i (k, Y)) 26 (k, Y)) ∧ KeepR r w w' := by
  have H := Lib.hid h
  have hrl : r < w.heap.size := by obtain ⟨⟨cs, h1, _⟩, _⟩ := h; exact lt_of_heap h1
  obtain ⟨az, cz, rfl, -⟩ := id hy
  obtain ⟨Z, hZ⟩ : ∃ Z, Y = Z := ⟨_, rfl⟩
  rw [hZ] at hy hY hz4 hS2 hL ⊢
  have HS2 := Lib.hid hS2
  have HT := Lib.hid hy
  obtain ⟨lz, hlz⟩ : ∃ lz, Z.length = lz := ⟨_, rfl⟩
  rw [hlz] at hY HT hL ⊢
  obtain ⟨z, hz⟩ : ∃ z, sizeL Z = z := ⟨_, rfl⟩
  have HZZ := Lib.hid hz
  rw [hz] at hz4
  have hlz0 : ((lz : Int) == 0) = false := by simp; omega
  have hk0b : decide (k < 0) = false := by simp; omega
  have hk2c : decide (2 < k) = false := by simp; omega
  have HW := Lib.hid (fun w => Letter_calls x w)
  have HB1 := Lib.hid (show Below w.heap.size w (w.alloc (.cells #[.int .i64 k, .slice az lz cz] 24)) from (Below.refl _ _).alloc (Nat.le_refl _) _)
  have HN1 := Lib.hid (heap_new w (.cells #[.int .i64 k, .slice az lz cz] 24))
  rw [hx] at HW
  obtain ⟨ax, cx, x0, x1, -, -, -⟩ := h.cells i (by omega)
  have x0 := (World.cell?_alloc_old w (.cells #[.int .i64 k, .slice az lz cz] 24) _ (Nat.ne_of_lt (World.block_lt_of_cell? _ _ x0))).trans x0
  have x1 := (World.cell?_alloc_old w (.cells #[.int .i64 k, .slice az lz cz] 24) _ (Nat.ne_of_lt (World.block_lt_of_cell? _ _ x1))).trans x1
  have hi26 : ((i : Int) < 26) = True := eq_true (by omega)
  have hgb : decide (x < 97) = false := by simpa using hg
  clear hx
  clear h hy hz hS2 hZ hlz
  go_enter Try.func29, Try.ntmps29
  go_wp2_with (go_at_call 38; refine (HW.out _).mono ?_; rintro e w' ⟨rfl, rfl⟩)
  go_quiet (fail)
  have HQB := Lib.hid (below_drewN HB1.out nq)
  have HBOX := Lib.hid (show Two w.heap.size k (.slice az lz cz) ((w.alloc (.cells #[.int .i64 k, .slice az lz cz] 24)).drewN nq) from (Two.of HN1.out).to rfl)
  have HTZ := Lib.hid (show TxtAt ((w.alloc (.cells #[.int .i64 k, .slice az lz cz] 24)).drewN nq) (fun b => (N b ∨ w.heap.size ≤ b) ∧ b ≠ r) (.slice az lz cz) Z from (HT.out.below HQB.out).keep fun b hb _ => ⟨⟨.inl hb.1, hb.2⟩, rfl⟩)
  generalize (w.alloc (.cells #[.int .i64 k, .slice az lz cz] 24)).drewN nq = wq at *
  have HSZ := Lib.hid (SizeR_calls wq _ k _ Z HS2.out HTZ.out)
  rw [HZZ.out] at HSZ
  have y0 := HBOX.out.one
  have y1 := HBOX.out.two
  go_wp2_with fail
  refine HSZ.out.mono ?_
  rintro e w3 ⟨rfl, hw3⟩
  have hb3 : Below wq.heap.size wq w3 := by rw [hw3]; exact (Below.refl _ _).alloc (Nat.le_refl _) _
  have HB3 := Lib.hid (HQB.out.trans (hb3.mono HQB.out.size))
  have HY3 := Lib.hid (HBOX.out.below hb3 HBOX.out.lt)
  have HT3 := Lib.hid (HTZ.out.below hb3)
  have y0 := HY3.out.one
  have y1 := HY3.out.two
  clear hw3 hb3 HSZ HTZ HBOX HQB x0 x1
  have hR3 := (H.out.below HB3.out).keep (N' := fun b => N b ∨ w.heap.size ≤ b) fun b hb _ => ⟨.inl hb, rfl⟩
  obtain ⟨a3, c3, q0, q1, -, -, -⟩ := hR3.cells i (by omega)
  have q2 := hR3.frozen (i * 2)
  have q3 := hR3.frozen (i * 2 + 1)
  have HR3 := Lib.hid hR3
  clear hR3
  go_wp2_with fail
  go_region
  all_goals
    have hp := (HR3.out.put i (by omega) k _ Z HT3.out).keep (w' := World.drew ((w3.setCell ⟨r, i * 2, none⟩ (.int .i64 k)).setCell ⟨r, i * 2 + 1, none⟩ (.slice az lz cz))) (N' := fun b => N b ∨ w.heap.size ≤ b) fun b hb _ => ⟨hb, rfl⟩
    have hk4 : KeepR r w (World.drew ((w3.setCell ⟨r, i * 2, none⟩ (.int .i64 k)).setCell ⟨r, i * 2 + 1, none⟩ (.slice az lz cz))) := (((KeepR.of HB3.out).setCell (i * 2) _).setCell (i * 2 + 1) _).trans (KeepR.of (Below.refl _ _).drew)
    have hk34 : KeepR r w3 (World.drew ((w3.setCell ⟨r, i * 2, none⟩ (.int .i64 k)).setCell ⟨r, i * 2 + 1, none⟩ (.slice az lz cz))) := (((KeepR.of (Below.refl _ _)).setCell (i * 2) _).setCell (i * 2 + 1) _).trans (KeepR.of (Below.refl _ _).drew)
    have HY4 := Lib.hid (HY3.out.to (hk34.block _ HY3.out.lt (by omega)))
    have HT4 := Lib.hid (HT3.out.keep fun b hb hl => ⟨hb, hk34.block b hl hb.2⟩)
    have HR4 := Lib.hid hp
    have HK4 := Lib.hid hk4
    clear hp hk4 hk34 q0 q1 q2 q3 y0 y1
    generalize World.drew ((w3.setCell ⟨r, i * 2, none⟩ (.int .i64 k)).setCell ⟨r, i * 2 + 1, none⟩ (.slice az lz cz)) = w4 at *
    have y0 := HY4.out.one
    have y1 := HY4.out.two
    obtain ⟨a4, c4, e0, e1, -, -, -⟩ := HR4.out.cells 26 (by decide)
    have e2 := HR4.out.frozen 52
    have e3 := HR4.out.frozen 53
    have e0 : w4.cell? ⟨r, 52, none⟩ = some (.int .i64 ((fun j => if j = i then (k, Z) else R j) 26).1) := e0
    have e1 : w4.cell? ⟨r, 53, none⟩ = some (.slice a4 ((fun j => if j = i then (k, Z) else R j) 26).2.length c4) := e1
    generalize ((fun j => if j = i then (k, Z) else R j) 26).1 = u1 at e0
    generalize ((fun j => if j = i then (k, Z) else R j) 26).2.length = u2 at e1
    go_wp2_with fail
    go_ret
    have hp := HR4.out.put 26 (by decide) k _ Z HT4.out
    exact ⟨rfl, hp, (HK4.out.setCell 52 _).setCell 53 _⟩
set_option maxRecDepth 100000 in
set_option maxHeartbeats 2000000 in
theorem refSet_kind_ok (w : World) (N : Nat → Prop) (r : Nat) (x : Int) (i : Nat) (hi : i < 26) (hx : letR x = i) (R : RegsT) (k : Int) (y : Value) (Y : Txt) (h : RefIn w N r R) (hy : TxtAt w (fun b => N b ∧ b ≠ r) y Y) (hk0 : 0 ≤ k) (hk2 : k ≤ 2) (hY : 0 < Y.length) (hz4 : sizeL Y ≤ 4096) (hL : Y.length ≤ 400) (hS2 : sizeL Y ≤ 1000000) (hg : x < 97) (hkk : (R i).1 ≠ k) :
    Calls Try.prog 29 #[.pointer (some ⟨r, 0, none⟩), .int .i64 x, .agg #[.int .i64 k, y]] w fun e w' => e = .returned (.int .i64 0) ∧ RefIn w' (fun b => N b ∨ w.heap.size ≤ b) r (putR (putR R i (k, Y)) 26 (k, Y)) ∧ KeepR r w w' := by
  have H := Lib.hid h
  have hrl : r < w.heap.size := by obtain ⟨⟨cs, h1, _⟩, _⟩ := h; exact lt_of_heap h1
  obtain ⟨az, cz, rfl, -⟩ := id hy
  obtain ⟨Z, hZ⟩ : ∃ Z, Y = Z := ⟨_, rfl⟩
  rw [hZ] at hy hY hz4 hS2 hL ⊢
  have HS2 := Lib.hid hS2
  have HT := Lib.hid hy
  obtain ⟨lz, hlz⟩ : ∃ lz, Z.length = lz := ⟨_, rfl⟩
  rw [hlz] at hY HT hL ⊢
  obtain ⟨z, hz⟩ : ∃ z, sizeL Z = z := ⟨_, rfl⟩
  have HZZ := Lib.hid hz
  rw [hz] at hz4
  have hlz0 : ((lz : Int) == 0) = false := by simp; omega
  have hk0b : decide (k < 0) = false := by simp; omega
  have hk2c : decide (2 < k) = false := by simp; omega
  have HW := Lib.hid (fun w => Letter_calls x w)
  have HB1 := Lib.hid (show Below w.heap.size w (w.alloc (.cells #[.int .i64 k, .slice az lz cz] 24)) from (Below.refl _ _).alloc (Nat.le_refl _) _)
  have HN1 := Lib.hid (heap_new w (.cells #[.int .i64 k, .slice az lz cz] 24))
  rw [hx] at HW
  obtain ⟨ax, cx, x0, x1, -, -, -⟩ := h.cells i (by omega)
  have x0 := (World.cell?_alloc_old w (.cells #[.int .i64 k, .slice az lz cz] 24) _ (Nat.ne_of_lt (World.block_lt_of_cell? _ _ x0))).trans x0
  have x1 := (World.cell?_alloc_old w (.cells #[.int .i64 k, .slice az lz cz] 24) _ (Nat.ne_of_lt (World.block_lt_of_cell? _ _ x1))).trans x1
  have hi26 : ((i : Int) < 26) = True := eq_true (by omega)
  have hkb : ((R i).1 == k) = false := by simpa using hkk
  clear hkk
  clear hx
  clear h hy hz hS2 hZ hlz
  go_enter Try.func29, Try.ntmps29
  go_wp2_with (go_at_call 38; refine (HW.out _).mono ?_; rintro e w' ⟨rfl, rfl⟩)
  go_quiet (fail)
  have HQB := Lib.hid (below_drewN HB1.out nq)
  have HBOX := Lib.hid (show Two w.heap.size k (.slice az lz cz) ((w.alloc (.cells #[.int .i64 k, .slice az lz cz] 24)).drewN nq) from (Two.of HN1.out).to rfl)
  have HTZ := Lib.hid (show TxtAt ((w.alloc (.cells #[.int .i64 k, .slice az lz cz] 24)).drewN nq) (fun b => (N b ∨ w.heap.size ≤ b) ∧ b ≠ r) (.slice az lz cz) Z from (HT.out.below HQB.out).keep fun b hb _ => ⟨⟨.inl hb.1, hb.2⟩, rfl⟩)
  generalize (w.alloc (.cells #[.int .i64 k, .slice az lz cz] 24)).drewN nq = wq at *
  have HSZ := Lib.hid (SizeR_calls wq _ k _ Z HS2.out HTZ.out)
  rw [HZZ.out] at HSZ
  have y0 := HBOX.out.one
  have y1 := HBOX.out.two
  go_wp2_with fail
  refine HSZ.out.mono ?_
  rintro e w3 ⟨rfl, hw3⟩
  have hb3 : Below wq.heap.size wq w3 := by rw [hw3]; exact (Below.refl _ _).alloc (Nat.le_refl _) _
  have HB3 := Lib.hid (HQB.out.trans (hb3.mono HQB.out.size))
  have HY3 := Lib.hid (HBOX.out.below hb3 HBOX.out.lt)
  have HT3 := Lib.hid (HTZ.out.below hb3)
  have y0 := HY3.out.one
  have y1 := HY3.out.two
  clear hw3 hb3 HSZ HTZ HBOX HQB x0 x1
  have hR3 := (H.out.below HB3.out).keep (N' := fun b => N b ∨ w.heap.size ≤ b) fun b hb _ => ⟨.inl hb, rfl⟩
  obtain ⟨a3, c3, q0, q1, -, -, -⟩ := hR3.cells i (by omega)
  have q2 := hR3.frozen (i * 2)
  have q3 := hR3.frozen (i * 2 + 1)
  have HR3 := Lib.hid hR3
  clear hR3
  go_wp2_with fail
  go_region
  all_goals
    have hp := (HR3.out.put i (by omega) k _ Z HT3.out).keep (w' := World.drew ((w3.setCell ⟨r, i * 2, none⟩ (.int .i64 k)).setCell ⟨r, i * 2 + 1, none⟩ (.slice az lz cz))) (N' := fun b => N b ∨ w.heap.size ≤ b) fun b hb _ => ⟨hb, rfl⟩
    have hk4 : KeepR r w (World.drew ((w3.setCell ⟨r, i * 2, none⟩ (.int .i64 k)).setCell ⟨r, i * 2 + 1, none⟩ (.slice az lz cz))) := (((KeepR.of HB3.out).setCell (i * 2) _).setCell (i * 2 + 1) _).trans (KeepR.of (Below.refl _ _).drew)
    have hk34 : KeepR r w3 (World.drew ((w3.setCell ⟨r, i * 2, none⟩ (.int .i64 k)).setCell ⟨r, i * 2 + 1, none⟩ (.slice az lz cz))) := (((KeepR.of (Below.refl _ _)).setCell (i * 2) _).setCell (i * 2 + 1) _).trans (KeepR.of (Below.refl _ _).drew)
    have HY4 := Lib.hid (HY3.out.to (hk34.block _ HY3.out.lt (by omega)))
    have HT4 := Lib.hid (HT3.out.keep fun b hb hl => ⟨hb, hk34.block b hl hb.2⟩)
    have HR4 := Lib.hid hp
    have HK4 := Lib.hid hk4
    clear hp hk4 hk34 q0 q1 q2 q3 y0 y1
    generalize World.drew ((w3.setCell ⟨r, i * 2, none⟩ (.int .i64 k)).setCell ⟨r, i * 2 + 1, none⟩ (.slice az lz cz)) = w4 at *
    have y0 := HY4.out.one
    have y1 := HY4.out.two
    obtain ⟨a4, c4, e0, e1, -, -, -⟩ := HR4.out.cells 26 (by decide)
    have e2 := HR4.out.frozen 52
    have e3 := HR4.out.frozen 53
    have e0 : w4.cell? ⟨r, 52, none⟩ = some (.int .i64 ((fun j => if j = i then (k, Z) else R j) 26).1) := e0
    have e1 : w4.cell? ⟨r, 53, none⟩ = some (.slice a4 ((fun j => if j = i then (k, Z) else R j) 26).2.length c4) := e1
    generalize ((fun j => if j = i then (k, Z) else R j) 26).1 = u1 at e0
    generalize ((fun j => if j = i then (k, Z) else R j) 26).2.length = u2 at e1
    go_wp2_with fail
    go_ret
    have hp := HR4.out.put 26 (by decide) k _ Z HT4.out
    exact ⟨rfl, hp, (HK4.out.setCell 52 _).setCell 53 _⟩
set_option maxRecDepth 100000 in
set_option maxHeartbeats 2000000 in
theorem refSet_cols_ok (w : World) (N : Nat → Prop) (r : Nat) (x : Int) (i : Nat) (hi : i < 26) (hx : letR x = i) (R : RegsT) (k : Int) (y : Value) (Y : Txt) (h : RefIn w N r R) (hy : TxtAt w (fun b => N b ∧ b ≠ r) y Y) (hk0 : 0 ≤ k) (hk2 : k ≤ 2) (hY : 0 < Y.length) (hz4 : sizeL Y ≤ 4096) (hL : Y.length ≤ 400) (hS2 : sizeL Y ≤ 1000000) (hg : x < 97) (hkk : (R i).1 = k) (hk2b : k = 2) :
    Calls Try.prog 29 #[.pointer (some ⟨r, 0, none⟩), .int .i64 x, .agg #[.int .i64 k, y]] w fun e w' => e = .returned (.int .i64 0) ∧ RefIn w' (fun b => N b ∨ w.heap.size ≤ b) r (putR (putR R i (k, Y)) 26 (k, Y)) ∧ KeepR r w w' := by
  have H := Lib.hid h
  have hrl : r < w.heap.size := by obtain ⟨⟨cs, h1, _⟩, _⟩ := h; exact lt_of_heap h1
  obtain ⟨az, cz, rfl, -⟩ := id hy
  obtain ⟨Z, hZ⟩ : ∃ Z, Y = Z := ⟨_, rfl⟩
  rw [hZ] at hy hY hz4 hS2 hL ⊢
  have HS2 := Lib.hid hS2
  have HT := Lib.hid hy
  obtain ⟨lz, hlz⟩ : ∃ lz, Z.length = lz := ⟨_, rfl⟩
  rw [hlz] at hY HT hL ⊢
  obtain ⟨z, hz⟩ : ∃ z, sizeL Z = z := ⟨_, rfl⟩
  have HZZ := Lib.hid hz
  rw [hz] at hz4
  have hlz0 : ((lz : Int) == 0) = false := by simp; omega
  have hk0b : decide (k < 0) = false := by simp; omega
  have hk2c : decide (2 < k) = false := by simp; omega
  have HW := Lib.hid (fun w => Letter_calls x w)
  have HB1 := Lib.hid (show Below w.heap.size w (w.alloc (.cells #[.int .i64 k, .slice az lz cz] 24)) from (Below.refl _ _).alloc (Nat.le_refl _) _)
  have HN1 := Lib.hid (heap_new w (.cells #[.int .i64 k, .slice az lz cz] 24))
  rw [hx] at HW
  obtain ⟨ax, cx, x0, x1, -, -, -⟩ := h.cells i (by omega)
  have x0 := (World.cell?_alloc_old w (.cells #[.int .i64 k, .slice az lz cz] 24) _ (Nat.ne_of_lt (World.block_lt_of_cell? _ _ x0))).trans x0
  have x1 := (World.cell?_alloc_old w (.cells #[.int .i64 k, .slice az lz cz] 24) _ (Nat.ne_of_lt (World.block_lt_of_cell? _ _ x1))).trans x1
  have hi26 : ((i : Int) < 26) = True := eq_true (by omega)
  have hk2d : decide (k < 2) = false := by simp; omega
  have hkke : (k == k) = true := by simp
  have hgb : decide (x < 97) = true := by simpa using hg
  rw [hkk] at x0
  clear hkk hk2b
  clear hx
  clear h hy hz hS2 hZ hlz
  go_enter Try.func29, Try.ntmps29
  go_wp2_with (go_at_call 38; refine (HW.out _).mono ?_; rintro e w' ⟨rfl, rfl⟩)
  go_quiet (fail)
  have HQB := Lib.hid (below_drewN HB1.out nq)
  have HBOX := Lib.hid (show Two w.heap.size k (.slice az lz cz) ((w.alloc (.cells #[.int .i64 k, .slice az lz cz] 24)).drewN nq) from (Two.of HN1.out).to rfl)
  have HTZ := Lib.hid (show TxtAt ((w.alloc (.cells #[.int .i64 k, .slice az lz cz] 24)).drewN nq) (fun b => (N b ∨ w.heap.size ≤ b) ∧ b ≠ r) (.slice az lz cz) Z from (HT.out.below HQB.out).keep fun b hb _ => ⟨⟨.inl hb.1, hb.2⟩, rfl⟩)
  generalize (w.alloc (.cells #[.int .i64 k, .slice az lz cz] 24)).drewN nq = wq at *
  have HSZ := Lib.hid (SizeR_calls wq _ k _ Z HS2.out HTZ.out)
  rw [HZZ.out] at HSZ
  have y0 := HBOX.out.one
  have y1 := HBOX.out.two
  go_wp2_with fail
  refine HSZ.out.mono ?_
  rintro e w3 ⟨rfl, hw3⟩
  have hb3 : Below wq.heap.size wq w3 := by rw [hw3]; exact (Below.refl _ _).alloc (Nat.le_refl _) _
  have HB3 := Lib.hid (HQB.out.trans (hb3.mono HQB.out.size))
  have HY3 := Lib.hid (HBOX.out.below hb3 HBOX.out.lt)
  have HT3 := Lib.hid (HTZ.out.below hb3)
  have y0 := HY3.out.one
  have y1 := HY3.out.two
  clear hw3 hb3 HSZ HTZ HBOX HQB x0 x1
  have hR3 := (H.out.below HB3.out).keep (N' := fun b => N b ∨ w.heap.size ≤ b) fun b hb _ => ⟨.inl hb, rfl⟩
  obtain ⟨a3, c3, q0, q1, -, -, -⟩ := hR3.cells i (by omega)
  have q2 := hR3.frozen (i * 2)
  have q3 := hR3.frozen (i * 2 + 1)
  have HR3 := Lib.hid hR3
  clear hR3
  go_wp2_with fail
  go_region
  all_goals
    have hp := (HR3.out.put i (by omega) k _ Z HT3.out).keep (w' := World.drew ((w3.setCell ⟨r, i * 2, none⟩ (.int .i64 k)).setCell ⟨r, i * 2 + 1, none⟩ (.slice az lz cz))) (N' := fun b => N b ∨ w.heap.size ≤ b) fun b hb _ => ⟨hb, rfl⟩
    have hk4 : KeepR r w (World.drew ((w3.setCell ⟨r, i * 2, none⟩ (.int .i64 k)).setCell ⟨r, i * 2 + 1, none⟩ (.slice az lz cz))) := (((KeepR.of HB3.out).setCell (i * 2) _).setCell (i * 2 + 1) _).trans (KeepR.of (Below.refl _ _).drew)
    have hk34 : KeepR r w3 (World.drew ((w3.setCell ⟨r, i * 2, none⟩ (.int .i64 k)).setCell ⟨r, i * 2 + 1, none⟩ (.slice az lz cz))) := (((KeepR.of (Below.refl _ _)).setCell (i * 2) _).setCell (i * 2 + 1) _).trans (KeepR.of (Below.refl _ _).drew)
    have HY4 := Lib.hid (HY3.out.to (hk34.block _ HY3.out.lt (by omega)))
    have HT4 := Lib.hid (HT3.out.keep fun b hb hl => ⟨hb, hk34.block b hl hb.2⟩)
    have HR4 := Lib.hid hp
    have HK4 := Lib.hid hk4
    clear hp hk4 hk34 q0 q1 q2 q3 y0 y1
    generalize World.drew ((w3.setCell ⟨r, i * 2, none⟩ (.int .i64 k)).setCell ⟨r, i * 2 + 1, none⟩ (.slice az lz cz)) = w4 at *
    have y0 := HY4.out.one
    have y1 := HY4.out.two
    obtain ⟨a4, c4, e0, e1, -, -, -⟩ := HR4.out.cells 26 (by decide)
    have e2 := HR4.out.frozen 52
    have e3 := HR4.out.frozen 53
    have e0 : w4.cell? ⟨r, 52, none⟩ = some (.int .i64 ((fun j => if j = i then (k, Z) else R j) 26).1) := e0
    have e1 : w4.cell? ⟨r, 53, none⟩ = some (.slice a4 ((fun j => if j = i then (k, Z) else R j) 26).2.length c4) := e1
    generalize ((fun j => if j = i then (k, Z) else R j) 26).1 = u1 at e0
    generalize ((fun j => if j = i then (k, Z) else R j) 26).2.length = u2 at e1
    go_wp2_with fail
    go_ret
    have hp := HR4.out.put 26 (by decide) k _ Z HT4.out
    exact ⟨rfl, hp, (HK4.out.setCell 52 _).setCell 53 _⟩
end Go.Proofs.Ythalpbbjcagnnaa
