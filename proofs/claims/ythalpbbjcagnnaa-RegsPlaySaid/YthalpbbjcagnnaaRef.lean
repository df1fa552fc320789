/- The document's registers in memory; its Letter, Get, Drop, All; the program's Drop. -/
import Derived.Test.YthalpbbjcagnnaaOwn
set_option linter.unusedSimpArgs false
set_option linter.unusedVariables false
namespace Go.Proofs.Ythalpbbjcagnnaa
open Go.RowKit
/-- The document's registers: a block of 27. -/
structure RefIn (w : World) (N : Nat → Prop) (r : Nat) (R : RegsT) : Prop where
  ex : ∃ cs : Array Value, w.heap[r]? = some (.cells cs 44 (0, 0)) ∧ cs.size = 54 ∧ ∀ i, i < 27 → SlotAt w N r cs i (R i)
  nr : N r
theorem RefIn.keep {w w' : World} {N N' : Nat → Prop} {r : Nat} {R : RegsT} (h : RefIn w N r R) (hb : ∀ k, N k → k < w.heap.size → N' k ∧ w'.heap[k]? = w.heap[k]?) : RefIn w' N' r R := by
  obtain ⟨⟨cs, h1, h2, h3⟩, hn⟩ := h
  obtain ⟨q1, q2⟩ := hb r hn (lt_of_heap h1)
  refine ⟨⟨cs, q2.trans h1, h2, fun i hi => ?_⟩, q1⟩
  obtain ⟨v, e1, e2, ht⟩ := h3 i hi
  exact ⟨v, e1, e2, ht.keep fun k hk hl => ⟨⟨(hb k hk.1 hl).1, hk.2⟩, (hb k hk.1 hl).2⟩⟩
theorem RefIn.below {w w' : World} {N : Nat → Prop} {r : Nat} {R : RegsT} (h : RefIn w N r R) (hb : Below w.heap.size w w') : RefIn w' N r R := h.keep fun k hk hl => ⟨hk, hb.block k hl⟩
theorem RefIn.lt {w : World} {N : Nat → Prop} {r : Nat} {R : RegsT} (h : RefIn w N r R) : RefIn w (fun k => N k ∧ k < w.heap.size) r R := h.keep fun k hk hl => ⟨⟨hk, hl⟩, rfl⟩
/-- The cells of register i. -/
theorem RefIn.cells {w : World} {N : Nat → Prop} {r : Nat} {R : RegsT} (h : RefIn w N r R) (i : Nat) (hi : i < 27) : ∃ a c, w.cell? ⟨r, i * 2, none⟩ = some (.int .i64 (R i).1) ∧ w.cell? ⟨r, i * 2 + 1, none⟩ = some (.slice a (R i).2.length c) ∧ TxtAt w (fun b => N b ∧ b ≠ r) (.slice a (R i).2.length c) (R i).2 ∧ (R i).2.length ≤ c ∧ c ≤ maxLen := by
  obtain ⟨⟨cs, h1, h2, h3⟩, hn⟩ := h
  obtain ⟨v, e1, e2, ht⟩ := h3 i hi
  have ht' := ht
  obtain ⟨a, c, rfl, g1, g2, -⟩ := ht'
  exact ⟨a, c, (cell_row h1 _).trans e1, (cell_row h1 _).trans e2, ht, g1, g2⟩
theorem RefIn.frozen {w : World} {N : Nat → Prop} {r : Nat} {R : RegsT} (h : RefIn w N r R) (j : Nat) : w.frozen? ⟨r, j, none⟩ = false := by
  obtain ⟨⟨cs, h1, h2, h3⟩, hn⟩ := h
  exact frozen_row h1 j
/-- Register i is stored. -/
theorem RefIn.put {w : World} {N : Nat → Prop} {r : Nat} {R : RegsT} (h : RefIn w N r R) (i : Nat) (hi : i < 27) (k : Int) (v : Value) (L : Txt) (hv : TxtAt w (fun b => N b ∧ b ≠ r) v L) :
    RefIn ((w.setCell ⟨r, i * 2, none⟩ (.int .i64 k)).setCell ⟨r, i * 2 + 1, none⟩ v) N r (fun j => if j = i then (k, L) else R j) := by
  obtain ⟨⟨cs, h1, h2, h3⟩, hn⟩ := h
  have hb := heap_set_row v (j := i * 2 + 1) (heap_set_row (.int .i64 k) (j := i * 2) h1)
  have hk : ∀ b, (N b ∧ b ≠ r) → b < w.heap.size → (N b ∧ b ≠ r) ∧ ((w.setCell ⟨r, i * 2, none⟩ (.int .i64 k)).setCell ⟨r, i * 2 + 1, none⟩ v).heap[b]? = w.heap[b]? :=
    fun b hb _ => ⟨hb, by rw [Below.heap_setCell _ _ _ _ hb.2, Below.heap_setCell _ _ _ _ hb.2]⟩
  refine ⟨⟨_, hb, by simp [h2], fun j hj => ?_⟩, hn⟩
  by_cases hji : j = i
  · subst hji
    rw [if_pos rfl]
    refine ⟨v, ?_, ?_, hv.keep hk⟩
    · rw [Array.getElem?_setIfInBounds, if_neg (by omega), Array.getElem?_setIfInBounds, if_pos rfl, if_pos (by omega)]
    · rw [Array.getElem?_setIfInBounds, if_pos rfl, if_pos (by rw [Array.size_setIfInBounds]; omega)]
  · rw [if_neg hji]
    obtain ⟨u, e1, e2, ht⟩ := h3 j hj
    refine ⟨u, ?_, ?_, ht.keep hk⟩
    · rw [Array.getElem?_setIfInBounds, if_neg (by omega), Array.getElem?_setIfInBounds, if_neg (by omega)]; exact e1
    · rw [Array.getElem?_setIfInBounds, if_neg (by omega), Array.getElem?_setIfInBounds, if_neg (by omega)]; exact e2
def letR (x : Int) : Int := if 97 ≤ x ∧ x ≤ 122 then x - 97 else if 65 ≤ x ∧ x ≤ 90 then x - 65 else -1
theorem Letter_calls (x : Int) (w : World) : Calls Try.prog 38 #[.int .i64 x] w fun e w' => e = .returned (.int .i64 (letR x)) ∧ w = w' := by
  unfold letR
  by_cases h1 : 97 ≤ x
  · by_cases h2 : x ≤ 122
    · rw [if_pos ⟨h1, h2⟩]
      go_enter Try.func38, Try.ntmps38
      go_wp2
      go_ret
      exact ⟨by go_num, rfl⟩
    · rw [if_neg (by omega), if_neg (by omega)]
      go_enter Try.func38, Try.ntmps38
      go_wp2
      go_ret
      exact ⟨by go_num, rfl⟩
  · rw [if_neg (by omega)]
    by_cases h3 : 65 ≤ x
    · by_cases h4 : x ≤ 90
      · rw [if_pos ⟨h3, h4⟩]
        go_enter Try.func38, Try.ntmps38
        go_wp2
        go_ret
        exact ⟨by go_num, rfl⟩
      · rw [if_neg (by omega)]
        go_enter Try.func38, Try.ntmps38
        go_wp2
        go_ret
        exact ⟨by go_num, rfl⟩
    · rw [if_neg (by omega)]
      go_enter Try.func38, Try.ntmps38
      go_wp2
      go_ret
      exact ⟨by go_num, rfl⟩
theorem letR_idx (x : Int) : (idxOf x = none ∧ letR x = -1) ∨ ∃ (i : Nat) (g : Bool), i < 26 ∧ idxOf x = some (i, g) ∧ letR x = i ∧ x ≠ 0 ∧ (g = true ↔ x < 97) := by
  unfold idxOf letR
  by_cases h1 : 97 ≤ x ∧ x ≤ 122
  · rw [if_pos h1, if_pos h1]
    exact .inr ⟨(x - 97).toNat, false, by omega, rfl, by omega, by omega, by simp; omega⟩
  · rw [if_neg h1, if_neg h1]
    by_cases h2 : 65 ≤ x ∧ x ≤ 90
    · rw [if_pos h2, if_pos h2]
      exact .inr ⟨(x - 65).toNat, true, by omega, rfl, by omega, by omega, by simp; omega⟩
    · rw [if_neg h2, if_neg h2]
      exact .inl ⟨rfl, rfl⟩
def dropR (R : RegsT) (x : Int) : Bool × RegsT := match idxOf x with
  | some (i, _) => if 0 < (R i).2.length then (true, putR R i (0, [])) else (false, R)
  | none => (false, R)
theorem dropR_ok {R : RegsT} (h : RegsOk R) (x : Int) : RegsOk (dropR R x).2 := by
  unfold dropR
  split
  · split
    · exact putR_ok h _ (by simp [sizeL]) (by simp) (fun l hl => by simp at hl)
    · exact h
  · exact h
theorem txt_nil (w : World) (N : Nat → Prop) : TxtAt w N (.slice none 0 0) [] := ⟨none, 0, rfl, Nat.le_refl _, by decide, fun i hi => by simp at hi⟩
set_option maxRecDepth 100000 in
set_option maxHeartbeats 1000000 in
theorem drop_calls (w : World) (N : Nat → Prop) (r : Nat) (R : RegsT) (x : Int) (h : RegsIn w N r R) :
    Calls Try.prog 18 #[.pointer (some ⟨r, 0, none⟩), .int .i64 x] w fun e w' => e = .returned (.bool (dropR R x).1) ∧ RegsIn w' N r (dropR R x).2 ∧ KeepR r w w' := by
  have hall : ∀ x, (idxOf x = none ∧ ∀ w, Calls Try.prog 24 #[.int .i64 x] w fun e w' => e = .returned (.tuple #[.int .i64 0, .bool false, .bool false]) ∧ w = w') ∨ ∃ (i : Nat) (g : Bool), i < 26 ∧ idxOf x = some (i, g) ∧ ∀ w, Calls Try.prog 24 #[.int .i64 x] w fun e w' => e = .returned (.tuple #[.int .i64 i, .bool g, .bool true]) ∧ w = w' := by
    intro x
    by_cases h1 : 97 ≤ x ∧ x ≤ 122
    · obtain ⟨i, rfl⟩ : ∃ i : Nat, x = 97 + i := ⟨(x - 97).toNat, by omega⟩
      exact .inr ⟨i, false, by omega, by rw [idxOf_low h1]; simp; omega, which_low i (by omega)⟩
    · by_cases h2 : 65 ≤ x ∧ x ≤ 90
      · obtain ⟨i, rfl⟩ : ∃ i : Nat, x = 65 + i := ⟨(x - 65).toNat, by omega⟩
        exact .inr ⟨i, true, by omega, by rw [idxOf_up h1 h2]; simp; omega, which_up i (by omega)⟩
      · exact .inl ⟨idxOf_none h1 h2, which_none h1 h2⟩
  have H := Lib.hid h
  rcases hall x with ⟨hi, hw⟩ | ⟨i, g, hi26, hi, hw⟩
  · have HW := Lib.hid hw
    unfold dropR
    rw [hi]
    clear hall hi hw h
    go_enter Try.func18, Try.ntmps18
    go_wp2_with (go_at_call 24; refine (HW.out _).mono ?_; rintro e w' ⟨rfl, rfl⟩)
    go_ret
    exact ⟨rfl, H.out, KeepR.of (Below.refl _ _)⟩
  · have HW := Lib.hid hw
    unfold dropR
    rw [hi]
    obtain ⟨a, c, c0, c1, ht, g1, g2⟩ := h.cells i (by omega)
    have HC := Lib.hid (has_calls (R i).1 a (R i).2.length c w (Nat.le_trans g1 g2))
    have hi26' : ((i : Int) < 26) = True := eq_true (by omega)
    clear hall hi hw ht
    by_cases hp : 0 < (R i).2.length
    · have hd : decide (0 < (R i).2.length) = true := by simpa using hp
      rw [hd] at HC
      simp only [if_pos hp]
      have HRA := Lib.hid (h.below ((Below.refl w.heap.size w).alloc (Nat.le_refl _) (.cells #[.int .i64 (R i).1, .slice a (R i).2.length c] 30)))
      have HBA := Lib.hid (show Below w.heap.size w (w.alloc (.cells #[.int .i64 (R i).1, .slice a (R i).2.length c] 30)) from (Below.refl _ _).alloc (Nat.le_refl _) _)
      obtain ⟨a2, c2, q0, q1, -, -, -⟩ := HRA.out.cells i (by omega)
      have q2 := HRA.out.frozen (i * 2)
      have q3 := HRA.out.frozen (i * 2 + 1)
      have hput := Lib.hid (HRA.out.put i (by omega) 0 _ [] (txt_nil _ _))
      generalize (R i).1 = kk at *
      generalize (R i).2.length = m at *
      clear hp hd h
      go_enter Try.func18, Try.ntmps18
      go_wp2_with (first | (go_at_call 24; refine (HW.out _).mono ?_; rintro e w' ⟨rfl, rfl⟩) | (go_at_call 25; refine HC.out.mono ?_; rintro e w' ⟨rfl, rfl⟩))
      go_ret
      exact ⟨rfl, hput.out, ((KeepR.of HBA.out).setCell (i * 2) _).setCell (i * 2 + 1) _⟩
    · have hd : decide (0 < (R i).2.length) = false := by simpa using hp
      rw [hd] at HC
      simp only [if_neg hp]
      have HRA := Lib.hid (h.below ((Below.refl w.heap.size w).alloc (Nat.le_refl _) (.cells #[.int .i64 (R i).1, .slice a (R i).2.length c] 30)))
      have HBA := Lib.hid (show Below w.heap.size w (w.alloc (.cells #[.int .i64 (R i).1, .slice a (R i).2.length c] 30)) from (Below.refl _ _).alloc (Nat.le_refl _) _)
      generalize (R i).1 = kk at *
      generalize (R i).2.length = m at *
      clear hp hd h
      go_enter Try.func18, Try.ntmps18
      go_wp2_with (first | (go_at_call 24; refine (HW.out _).mono ?_; rintro e w' ⟨rfl, rfl⟩) | (go_at_call 25; refine HC.out.mono ?_; rintro e w' ⟨rfl, rfl⟩))
      go_ret
      exact ⟨rfl, HRA.out, KeepR.of HBA.out⟩
set_option maxRecDepth 100000 in
set_option maxHeartbeats 1000000 in
theorem refDrop_calls (w : World) (N : Nat → Prop) (r : Nat) (R : RegsT) (x : Int) (h : RefIn w N r R) :
    Calls Try.prog 30 #[.pointer (some ⟨r, 0, none⟩), .int .i64 x] w fun e w' => e = .returned (.bool (dropR R x).1) ∧ RefIn w' N r (dropR R x).2 ∧ KeepR r w w' := by
  have H := Lib.hid h
  have HW := Lib.hid (fun w => Letter_calls x w)
  rcases letR_idx x with ⟨hi, hl⟩ | ⟨i, g, hi26, hi, hl, -, -⟩
  · unfold dropR
    rw [hi]
    rw [hl] at HW
    clear hi hl h
    go_enter Try.func30, Try.ntmps30
    go_wp2_with (go_at_call 38; refine (HW.out _).mono ?_; rintro e w' ⟨rfl, rfl⟩)
    go_ret
    exact ⟨rfl, H.out, KeepR.of (Below.refl _ _)⟩
  · unfold dropR
    rw [hi]
    rw [hl] at HW
    obtain ⟨a, c, c0, c1, ht, g1, g2⟩ := h.cells i (by omega)
    have hi26' : ((i : Int) < 26) = True := eq_true (by omega)
    have q2 := h.frozen (i * 2)
    have q3 := h.frozen (i * 2 + 1)
    have hput := Lib.hid (h.put i (by omega) 0 _ [] (txt_nil _ _))
    clear hi hl ht
    by_cases hp : 0 < (R i).2.length
    · simp only [if_pos hp]
      generalize (R i).1 = kk at *
      generalize (R i).2.length = m at *
      have hm0 : ((m : Int) == 0) = false := by simp; omega
      clear hp
      clear h
      go_enter Try.func30, Try.ntmps30
      go_wp2_with (go_at_call 38; refine (HW.out _).mono ?_; rintro e w' ⟨rfl, rfl⟩)
      go_ret
      exact ⟨rfl, hput.out, ((KeepR.of (Below.refl _ _)).setCell (i * 2) _).setCell (i * 2 + 1) _⟩
    · simp only [if_neg hp]
      generalize (R i).1 = kk at *
      generalize (R i).2.length = m at *
      obtain rfl : m = 0 := by omega
      clear h
      go_enter Try.func30, Try.ntmps30
      go_wp2_with (go_at_call 38; refine (HW.out _).mono ?_; rintro e w' ⟨rfl, rfl⟩)
      go_ret
      exact ⟨rfl, H.out, KeepR.of (Below.refl _ _)⟩
end Go.Proofs.Ythalpbbjcagnnaa
