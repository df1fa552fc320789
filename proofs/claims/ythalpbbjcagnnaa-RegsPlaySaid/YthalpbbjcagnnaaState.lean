/- Registers in memory: a block of 27 of them (the letters', the last one); New; Size of all letters'. -/
import Derived.Test.YthalpbbjcagnnaaSize
set_option linter.unusedSimpArgs false
set_option linter.unusedVariables false
namespace Go.Proofs.Ythalpbbjcagnnaa
open Go.RowKit
abbrev RegsT := Nat → Int × Txt
/-- Register i of a block of 27. -/
def SlotAt (w : World) (N : Nat → Prop) (r : Nat) (cs : Array Value) (i : Nat) (x : Int × Txt) : Prop := ∃ v, cs[i * 2]? = some (.int .i64 x.1) ∧ cs[i * 2 + 1]? = some v ∧ TxtAt w (fun b => N b ∧ b ≠ r) v x.2
structure RegsIn (w : World) (N : Nat → Prop) (r : Nat) (R : RegsT) : Prop where
  ex : ∃ cs : Array Value, w.heap[r]? = some (.cells cs 59 (0, 0)) ∧ cs.size = 54 ∧ ∀ i, i < 27 → SlotAt w N r cs i (R i)
  nr : N r
theorem RegsIn.keep {w w' : World} {N N' : Nat → Prop} {r : Nat} {R : RegsT} (h : RegsIn w N r R) (hb : ∀ k, N k → k < w.heap.size → N' k ∧ w'.heap[k]? = w.heap[k]?) : RegsIn w' N' r R := by
  obtain ⟨⟨cs, h1, h2, h3⟩, hn⟩ := h
  obtain ⟨q1, q2⟩ := hb r hn (lt_of_heap h1)
  refine ⟨⟨cs, q2.trans h1, h2, fun i hi => ?_⟩, q1⟩
  obtain ⟨v, e1, e2, ht⟩ := h3 i hi
  exact ⟨v, e1, e2, ht.keep fun k hk hl => ⟨⟨(hb k hk.1 hl).1, hk.2⟩, (hb k hk.1 hl).2⟩⟩
theorem RegsIn.below {w w' : World} {N : Nat → Prop} {r : Nat} {R : RegsT} (h : RegsIn w N r R) (hb : Below w.heap.size w w') : RegsIn w' N r R := h.keep fun k hk hl => ⟨hk, hb.block k hl⟩
theorem RegsIn.lt {w : World} {N : Nat → Prop} {r : Nat} {R : RegsT} (h : RegsIn w N r R) : RegsIn w (fun k => N k ∧ k < w.heap.size) r R := h.keep fun k hk hl => ⟨⟨hk, hl⟩, rfl⟩
/-- The cells of register i. -/
theorem RegsIn.cells {w : World} {N : Nat → Prop} {r : Nat} {R : RegsT} (h : RegsIn w N r R) (i : Nat) (hi : i < 27) : ∃ a c, w.cell? ⟨r, i * 2, none⟩ = some (.int .i64 (R i).1) ∧ w.cell? ⟨r, i * 2 + 1, none⟩ = some (.slice a (R i).2.length c) ∧ TxtAt w (fun b => N b ∧ b ≠ r) (.slice a (R i).2.length c) (R i).2 ∧ (R i).2.length ≤ c ∧ c ≤ maxLen := by
  obtain ⟨⟨cs, h1, h2, h3⟩, hn⟩ := h
  obtain ⟨v, e1, e2, ht⟩ := h3 i hi
  have ht' := ht
  obtain ⟨a, c, rfl, g1, g2, -⟩ := ht'
  exact ⟨a, c, (cell_row h1 _).trans e1, (cell_row h1 _).trans e2, ht, g1, g2⟩
theorem RegsIn.frozen {w : World} {N : Nat → Prop} {r : Nat} {R : RegsT} (h : RegsIn w N r R) (j : Nat) : w.frozen? ⟨r, j, none⟩ = false := by
  obtain ⟨⟨cs, h1, h2, h3⟩, hn⟩ := h
  exact frozen_row h1 j
/-- Register i is stored. -/
theorem RegsIn.put {w : World} {N : Nat → Prop} {r : Nat} {R : RegsT} (h : RegsIn w N r R) (i : Nat) (hi : i < 27) (k : Int) (v : Value) (L : Txt) (hv : TxtAt w (fun b => N b ∧ b ≠ r) v L) :
    RegsIn ((w.setCell ⟨r, i * 2, none⟩ (.int .i64 k)).setCell ⟨r, i * 2 + 1, none⟩ v) N r (fun j => if j = i then (k, L) else R j) := by
  obtain ⟨⟨cs, h1, h2, h3⟩, hn⟩ := h
  have hb := heap_set_row v (j := i * 2 + 1) (heap_set_row (.int .i64 k) (j := i * 2) h1)
  have hk : ∀ b, (N b ∧ b ≠ r) → b < w.heap.size → (N b ∧ b ≠ r) ∧ ((w.setCell ⟨r, i * 2, none⟩ (.int .i64 k)).setCell ⟨r, i * 2 + 1, none⟩ v).heap[b]? = w.heap[b]? :=
    fun b hb _ => ⟨hb, by rw [Below.heap_setCell _ _ _ _ hb.2, Below.heap_setCell _ _ _ _ hb.2]⟩
  refine ⟨⟨_, hb, by simp [h2], fun j hj => ?_⟩, hn⟩
  by_cases hji : j = i
  · subst hji
    rw [if_pos rfl]
    refine ⟨v, ?_, ?_, hv.keep hk⟩
    · rw [Array.getElem?_setIfInBounds, if_neg (by omega), Array.getElem?_setIfInBounds, if_pos rfl, if_pos (by omega)]
    · rw [Array.getElem?_setIfInBounds, if_pos rfl, if_pos (by rw [Array.size_setIfInBounds]; omega)]
  · rw [if_neg hji]
    obtain ⟨u, e1, e2, ht⟩ := h3 j hj
    refine ⟨u, ?_, ?_, ht.keep hk⟩
    · rw [Array.getElem?_setIfInBounds, if_neg (by omega), Array.getElem?_setIfInBounds, if_neg (by omega)]; exact e1
    · rw [Array.getElem?_setIfInBounds, if_neg (by omega), Array.getElem?_setIfInBounds, if_neg (by omega)]; exact e2
def zeroRegs : RegsT := fun _ => (0, [])
theorem New_calls (w : World) : Calls Try.prog 8 #[] w fun e w' => (e = .returned (.pointer (some ⟨w.heap.size, 0, none⟩)) ∧ RegsIn w' (fun b => w.heap.size ≤ b) w.heap.size zeroRegs) ∧ Below w.heap.size w w' := by
  go_enter Try.func8, Try.ntmps8
  go_wp2_with fail
  go_ret
  refine ⟨⟨rfl, ⟨_, heap_new _ _, rfl, fun i hi => ?_⟩, Nat.le_refl _⟩, (Below.refl _ _).alloc (Nat.le_refl _) _⟩
  refine ⟨.slice none 0 0, ?_, ?_, none, 0, rfl, Nat.le_refl _, by decide, fun i hi => by simp [zeroRegs] at hi⟩
  · match i, hi with
    | 0, _ => rfl
    | 1, _ => rfl
    | 2, _ => rfl
    | 3, _ => rfl
    | 4, _ => rfl
    | 5, _ => rfl
    | 6, _ => rfl
    | 7, _ => rfl
    | 8, _ => rfl
    | 9, _ => rfl
    | 10, _ => rfl
    | 11, _ => rfl
    | 12, _ => rfl
    | 13, _ => rfl
    | 14, _ => rfl
    | 15, _ => rfl
    | 16, _ => rfl
    | 17, _ => rfl
    | 18, _ => rfl
    | 19, _ => rfl
    | 20, _ => rfl
    | 21, _ => rfl
    | 22, _ => rfl
    | 23, _ => rfl
    | 24, _ => rfl
    | 25, _ => rfl
    | 26, _ => rfl
    | n + 27, h => exact absurd h (by omega)
  · match i, hi with
    | 0, _ => rfl
    | 1, _ => rfl
    | 2, _ => rfl
    | 3, _ => rfl
    | 4, _ => rfl
    | 5, _ => rfl
    | 6, _ => rfl
    | 7, _ => rfl
    | 8, _ => rfl
    | 9, _ => rfl
    | 10, _ => rfl
    | 11, _ => rfl
    | 12, _ => rfl
    | 13, _ => rfl
    | 14, _ => rfl
    | 15, _ => rfl
    | 16, _ => rfl
    | 17, _ => rfl
    | 18, _ => rfl
    | 19, _ => rfl
    | 20, _ => rfl
    | 21, _ => rfl
    | 22, _ => rfl
    | 23, _ => rfl
    | 24, _ => rfl
    | 25, _ => rfl
    | 26, _ => rfl
    | n + 27, h => exact absurd h (by omega)
def allSize (R : RegsT) : Nat → Nat
  | 0 => 0
  | k + 1 => allSize R k + sizeL (R k).2
def AllRel (w : World) (R : RegsT) (nv iv : Value) (wr : World) : Prop := ∃ j : Nat, iv = .int .i64 j ∧ j ≤ 26 ∧ nv = .int .i64 (allSize R j) ∧ Below w.heap.size w wr
theorem allSize_le (R : RegsT) (hR : ∀ i, i < 26 → sizeL (R i).2 ≤ 10000) : ∀ j, j ≤ 26 → allSize R j ≤ 10000 * j
  | 0, _ => Nat.le_refl _
  | j + 1, h => by
    have h1 := allSize_le R hR j (by omega)
    have h2 := hR j (by omega)
    simp only [allSize]; omega
set_option maxRecDepth 100000 in
theorem All_calls (w : World) (N : Nat → Prop) (r : Nat) (R : RegsT) (h : RegsIn w N r R) (hR : ∀ i, i < 26 → sizeL (R i).2 ≤ 10000) :
    Calls Try.prog 19 #[.pointer (some ⟨r, 0, none⟩)] w fun e w' => e = .returned (.int .i64 (allSize R 26)) ∧ Below w.heap.size w w' := by
  have H := Lib.hid h
  have HR := Lib.hid hR
  have HS := Lib.hid (allSize_le R hR)
  have H0 := Lib.hid (show AllRel w R (.int .i64 0) (.int .i64 0) w from ⟨0, rfl, Nat.zero_le _, rfl, Below.refl _ _⟩)
  clear h hR
  go_enter Try.func19, Try.ntmps19
  go_wp2_with fail
  go_loopw [3, 7] (fun s i wr => AllRel w R s i wr) (fun _ i _ => 26 - (intOf i).toNat)
  case atStart => exact H0.out
  case round =>
    obtain ⟨j, rfl, hj, rfl, hbel⟩ := hrel
    have HB := Lib.hid hbel
    by_cases hjn : j < 26
    · obtain ⟨a, c, c0, c1, ht, g1, g2⟩ := (H.out.below hbel).cells j (by omega)
      have HC := Lib.hid (Size_calls wr _ (R j).1 _ (R j).2 (by have := HR.out j hjn; omega) ht)
      have hs := HS.out j hj
      have hs2 := HR.out j hjn
      have HE := Lib.hid (show allSize R (j + 1) = allSize R j + sizeL (R j).2 from rfl)
      generalize allSize R j = s at *
      generalize sizeL (R j).2 = q at *
      generalize (R j).1 = kk at *
      generalize (R j).2.length = m at *
      clear hbel ht
      go_wp2_with fail
      refine HC.out.mono ?_
      rintro e w2 ⟨rfl, rfl⟩
      go_wp2_with fail
      go_roundw
      · exact ⟨j + 1, by go_num, by omega, by rw [HE.out]; go_num, HB.out.alloc HB.out.size _⟩
      · simp [intOf]; omega
    · obtain rfl : j = 26 := by omega
      clear hbel
      go_wp2_with fail
      go_ret
      exact ⟨rfl, HB.out⟩
end Go.Proofs.Ythalpbbjcagnnaa
