/- Walk: Set, whatever is set: as setR says. -/
import Derived.Test.YthalpbbjcagnnaaRefuse
set_option linter.unusedSimpArgs false
set_option linter.unusedVariables false
namespace Go.Proofs.Ythalpbbjcagnnaa
open Go.RowKit
/-- No register is great. -/
def RegsOk (R : RegsT) : Prop := ∀ i, sizeL (R i).2 ≤ 4096 ∧ (R i).2.length ≤ 400 ∧ ∀ l ∈ (R i).2, l.length ≤ 45
theorem zeroRegs_ok : RegsOk zeroRegs := fun i => by simp [zeroRegs, sizeL]
theorem putR_ok {R : RegsT} (h : RegsOk R) (i : Nat) {x : Int × Txt} (h1 : sizeL x.2 ≤ 4096) (h2 : x.2.length ≤ 400) (h3 : ∀ l ∈ x.2, l.length ≤ 45) : RegsOk (putR R i x) := fun j => by
  unfold putR
  split
  · exact ⟨h1, h2, h3⟩
  · exact h j
theorem idxOf_low {x : Int} (h : 97 ≤ x ∧ x ≤ 122) : idxOf x = some ((x - 97).toNat, false) := by unfold idxOf; rw [if_pos h]
theorem idxOf_up {x : Int} (h1 : ¬ (97 ≤ x ∧ x ≤ 122)) (h : 65 ≤ x ∧ x ≤ 90) : idxOf x = some ((x - 65).toNat, true) := by unfold idxOf; rw [if_neg h1, if_pos h]
theorem idxOf_none {x : Int} (h1 : ¬ (97 ≤ x ∧ x ≤ 122)) (h : ¬ (65 ≤ x ∧ x ≤ 90)) : idxOf x = none := by unfold idxOf; rw [if_neg h1, if_neg h]
theorem which_low (i : Nat) (hi : i < 26) (w : World) : Calls Try.prog 24 #[.int .i64 (97 + i)] w fun e w' => e = .returned (.tuple #[.int .i64 i, .bool false, .bool true]) ∧ w = w' := by
  have := which_calls (97 + i) w
  rw [if_pos (by omega), show (97 + (i : Int) - 97) = i by omega] at this; exact this
theorem which_up (i : Nat) (hi : i < 26) (w : World) : Calls Try.prog 24 #[.int .i64 (65 + i)] w fun e w' => e = .returned (.tuple #[.int .i64 i, .bool true, .bool true]) ∧ w = w' := by
  have := which_calls (65 + i) w
  rw [if_neg (by omega), if_pos (by omega), show (65 + (i : Int) - 65) = i by omega] at this; exact this
theorem which_none {x : Int} (h1 : ¬ (97 ≤ x ∧ x ≤ 122)) (h : ¬ (65 ≤ x ∧ x ≤ 90)) (w : World) : Calls Try.prog 24 #[.int .i64 x] w fun e w' => e = .returned (.tuple #[.int .i64 0, .bool false, .bool false]) ∧ w = w' := by
  have := which_calls x w
  rw [if_neg h1, if_neg h] at this; exact this
theorem sizeL_append (X Y : Txt) : sizeL (X ++ Y) = sizeL X + sizeL Y := by simp [sizeL]
theorem joinL_bound {k k' : Int} {X Y : Txt} (hX : sizeL X ≤ 4096) (hX2 : X.length ≤ 400) (hX3 : ∀ l ∈ X, l.length ≤ 45) (hY : Small Y) :
    sizeL (joinL k X k' Y) ≤ 20000 ∧ (∀ l ∈ joinL k X k' Y, l.length ≤ 45) ∧ (0 < Y.length → 0 < (joinL k X k' Y).length) := by
  have h1 := hY.size
  have h3 : ∀ l ∈ Y, l.length ≤ 45 := fun l hl => (hY.row l hl).1
  unfold joinL
  split
  · exact ⟨by omega, h3, fun h => h⟩
  · refine ⟨by rw [sizeL_append]; omega, fun l hl => ?_, fun h => by simp; omega⟩
    rcases List.mem_append.1 hl with h | h
    · exact hX3 l h
    · exact h3 l h
theorem set_calls (w : World) (N M : Nat → Prop) (r : Nat) (R : RegsT) (x k : Int) (y : Value) (Y : Txt) (h : RegsIn w N r R) (hok : RegsOk R) (hMr : ¬ M r) (hy : TxtAt w M y Y) (hs : Small Y) :
    Calls Try.prog 9 #[.pointer (some ⟨r, 0, none⟩), .int .i64 x, .agg #[.int .i64 k, y]] w fun e w' => e = .returned (.int .i64 (setR R x k Y).1) ∧ RegsIn w' (fun b => N b ∨ w.heap.size ≤ b) r (setR R x k Y).2 ∧ KeepR r w w' := by
  have hbel : ∀ {w' : World}, Below w.heap.size w w' → RegsIn w' (fun b => N b ∨ w.heap.size ≤ b) r R ∧ KeepR r w w' := fun hb =>
    ⟨(h.below hb).keep fun b hb _ => ⟨.inl hb, rfl⟩, KeepR.of hb⟩
  have hnil : Y.length = 0 ↔ Y = [] := by simp
  have hsz := hs.size
  have hlen := hs.len
  by_cases h1 : 97 ≤ x ∧ x ≤ 122
  · obtain ⟨i, rfl⟩ : ∃ i : Nat, x = 97 + i := ⟨(x - 97).toNat, by omega⟩
    have hi : i < 26 := by omega
    have hidx : idxOf (97 + (i : Int)) = some (i, false) := by rw [idxOf_low h1]; simp; omega
    have hnew : newTxt R (97 + i) k Y = Y := by simp only [newTxt, hidx]
    unfold setR
    rw [hnew, hidx]
    by_cases hb : k < 0 ∨ 2 < k ∨ Y = []
    · rw [if_pos (.inr hb)]
      refine (set_arg w M r (97 + i) k y Y i false true (which_low i hi) hy (.inr (by rw [hnil]; exact hb))).mono fun e w' he => ⟨he.1, hbel he.2⟩
    · rw [if_neg (fun h => h.elim (fun h => by simp at h) hb)]
      have hY : 0 < Y.length := Nat.pos_of_ne_zero fun h => hb (.inr (.inr (hnil.1 h)))
      by_cases hf : 4096 < sizeL Y
      · rw [if_pos (.inl hf)]
        exact (set_full w M r (97 + i) k y Y i true (which_low i hi) hy (.inl rfl) (by omega) (by omega) hY hf (by omega)).mono fun e w' he => ⟨he.1, hbel he.2⟩
      · rw [if_neg (by omega)]
        exact set_low w N M r i hi R k y Y h hMr hy (by omega) (by omega) hY (by omega) (by omega) hs.rows
  · by_cases h2 : 65 ≤ x ∧ x ≤ 90
    · obtain ⟨i, rfl⟩ : ∃ i : Nat, x = 65 + i := ⟨(x - 65).toNat, by omega⟩
      have hi : i < 26 := by omega
      have hidx : idxOf (65 + (i : Int)) = some (i, true) := by rw [idxOf_up h1 h2]; simp; omega
      have hnew : newTxt R (65 + i) k Y = joinL (R i).1 (R i).2 k Y := by simp only [newTxt, hidx]
      obtain ⟨j1, j2, j3⟩ := joinL_bound (k := (R i).1) (k' := k) (hok i).1 (hok i).2.1 (hok i).2.2 hs
      unfold setR
      rw [hnew, hidx]
      by_cases hb : k < 0 ∨ 2 < k ∨ Y = []
      · rw [if_pos (.inr hb)]
        refine (set_arg w M r (65 + i) k y Y i true true (which_up i hi) hy (.inr (by rw [hnil]; exact hb))).mono fun e w' he => ⟨he.1, hbel he.2⟩
      · rw [if_neg (fun h => h.elim (fun h => by simp at h) hb)]
        have hY : 0 < Y.length := Nat.pos_of_ne_zero fun h => hb (.inr (.inr (hnil.1 h)))
        by_cases hf : 4096 < sizeL (joinL (R i).1 (R i).2 k Y) ∨ 400 < (joinL (R i).1 (R i).2 k Y).length
        · rw [if_pos hf]
          exact (set_full_up w N M r i hi R k y Y h hMr hy (by omega) (by omega) hY (by omega) (hok i).2.1 (j3 hY) hf (by omega)).mono fun e w' he => ⟨he.1, hbel he.2⟩
        · rw [if_neg hf]
          exact set_up w N M r i hi R k y Y h hMr hy (by omega) (by omega) hY (by omega) (hok i).2.1 (j3 hY) (by omega) (by omega) (fun l hl => by have := j2 l hl; omega)
    · have hidx : idxOf x = none := idxOf_none h1 h2
      have hnew : newTxt R x k Y = Y := by simp only [newTxt, hidx]
      unfold setR
      rw [hnew, hidx]
      by_cases hb : ((none : Option (Nat × Bool)) = none ∧ x ≠ 0) ∨ k < 0 ∨ 2 < k ∨ Y = []
      · rw [if_pos hb]
        refine (set_arg w M r x k y Y 0 false false (which_none h1 h2) hy (by rw [hnil]; exact hb.imp (fun h => ⟨rfl, h.2⟩) id)).mono fun e w' he => ⟨he.1, hbel he.2⟩
      · rw [if_neg hb]
        have hx0 : x = 0 := Decidable.byContradiction fun h => hb (.inl ⟨rfl, h⟩)
        subst hx0
        have hY : 0 < Y.length := Nat.pos_of_ne_zero fun h => hb (.inr (.inr (.inr (hnil.1 h))))
        have hk0 : 0 ≤ k := Int.not_lt.1 fun h => hb (.inr (.inl h))
        have hk2 : k ≤ 2 := Int.not_lt.1 fun h => hb (.inr (.inr (.inl h)))
        by_cases hf : 4096 < sizeL Y
        · rw [if_pos (.inl hf)]
          exact (set_full w M r 0 k y Y 0 false (which_none h1 h2) hy (.inr ⟨rfl, rfl⟩) hk0 hk2 hY hf (by omega)).mono fun e w' he => ⟨he.1, hbel he.2⟩
        · rw [if_neg (by omega)]
          exact set_last w N M r R k y Y h hy hk0 hk2 hY (by omega) (by omega) hs.rows
theorem setR_ok {R : RegsT} (h : RegsOk R) (x k : Int) {Y : Txt} (hs : Small Y) : RegsOk (setR R x k Y).2 := by
  unfold setR
  split
  · exact h
  · split
    · exact h
    · rename_i h1 h2
      have h3 : ∀ l ∈ newTxt R x k Y, l.length ≤ 45 := by
        unfold newTxt
        split
        · exact (joinL_bound (h _).1 (h _).2.1 (h _).2.2 hs).2.1
        · exact fun l hl => (hs.row l hl).1
      refine putR_ok ?_ _ (by show sizeL (newTxt R x k Y) ≤ 4096; omega) (by show (newTxt R x k Y).length ≤ 400; omega) h3
      split
      · exact putR_ok h _ (by show sizeL (newTxt R x k Y) ≤ 4096; omega) (by show (newTxt R x k Y).length ≤ 400; omega) h3
      · exact h
end Go.Proofs.Ythalpbbjcagnnaa
