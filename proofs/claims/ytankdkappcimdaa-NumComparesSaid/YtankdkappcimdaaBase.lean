/- What the chapter on numbers says, in plain Lean, over a text as a list of its bytes (0..255). -/
import Derived.Test.YtankdkappcimdaaProg
import Derived.WalkKit
import Derived.Outline
import Derived.WalkSpells
import Derived.LoopTactic
import Derived.Deep.LoopGhost
import Derived.Lib.Hide
import Derived.BigQuiet
set_option linter.unusedSimpArgs false
set_option linter.unusedVariables false
namespace Go.Proofs.Ytankdkappcimdaa
open Go.RowKit
/-- A text's bytes. -/
def BytesOk (l : List Int) : Prop := ∀ x ∈ l, 0 ≤ x ∧ x ≤ 255
def isDig (c : Int) : Bool := decide (48 ≤ c) && decide (c ≤ 57)
def digs (l : List Int) : Bool := l.all isDig
def val (l : List Int) : Int := l.foldl (fun n c => n * 10 + (c - 48)) 0
def signOf : List Int → Bool × List Int
  | [] => (false, [])
  | c :: r => if c = 45 then (true, r) else if c = 43 then (false, r) else (false, c :: r)
def magOf (l : List Int) : Int × Bool := if l ≠ [] ∧ digs l = true ∧ val l ≤ 9223372036854775808 then (val l, true) else (0, false)
def parseOf (l : List Int) : Int × Bool :=
  if (magOf (signOf l).2).2 = false ∨ ((signOf l).1 = false ∧ (magOf (signOf l).2).1 = 9223372036854775808) then (0, false)
  else if (signOf l).1 = true then (-(magOf (signOf l).2).1, true) else ((magOf (signOf l).2).1, true)
theorem isDig_iff (c : Int) : isDig c = true ↔ 48 ≤ c ∧ c ≤ 57 := by simp [isDig]
theorem val_snoc (l : List Int) (c : Int) : val (l ++ [c]) = val l * 10 + (c - 48) := by simp [val]
theorem digs_snoc (l : List Int) (c : Int) : digs (l ++ [c]) = (digs l && isDig c) := by simp [digs]
theorem digs_append (l m : List Int) : digs (l ++ m) = (digs l && digs m) := by simp [digs]
theorem take_snoc (l : List Int) (i : Nat) (h : i < l.length) : l.take (i + 1) = l.take i ++ [l.getD i 0] := by
  rw [List.take_succ_eq_append_getElem h]; simp [List.getD_eq_getElem?_getD, List.getElem?_eq_getElem h]
theorem getD_mem (l : List Int) (i : Nat) (h : i < l.length) : l.getD i 0 ∈ l := by
  simp [List.getD_eq_getElem?_getD, List.getElem?_eq_getElem h]
theorem val_fold_ge (l : List Int) : ∀ n, 0 ≤ n → digs l = true → n ≤ l.foldl (fun n c => n * 10 + (c - 48)) n := by
  induction l with
  | nil => intro n h _; exact Int.le_refl _
  | cons c r ih =>
    intro n h hd
    simp only [digs, List.all_cons, Bool.and_eq_true, isDig_iff] at hd
    have := ih (n * 10 + (c - 48)) (by omega) hd.2
    simp only [List.foldl_cons]; omega
theorem val_nonneg (l : List Int) (h : digs l = true) : 0 ≤ val l := val_fold_ge l 0 (Int.le_refl _) h
theorem digs_take (l : List Int) (i : Nat) (h : digs l = true) : digs (l.take i) = true := by
  have := digs_append (l.take i) (l.drop i); rw [List.take_append_drop, h] at this
  simp only [Bool.true_eq, Bool.and_eq_true] at this; exact this.1
theorem digs_drop (l : List Int) (i : Nat) (h : digs l = true) : digs (l.drop i) = true := by
  have := digs_append (l.take i) (l.drop i); rw [List.take_append_drop, h] at this
  simp only [Bool.true_eq, Bool.and_eq_true] at this; exact this.2
theorem val_take_le (l : List Int) (i : Nat) (h : digs l = true) : val (l.take i) ≤ val l := by
  have h1 : val l = (l.drop i).foldl (fun n c => n * 10 + (c - 48)) (val (l.take i)) := by
    unfold val; rw [← List.foldl_append, List.take_append_drop]
  rw [h1]; exact val_fold_ge _ _ (val_nonneg _ (digs_take l i h)) (digs_drop l i h)
theorem magOf_not (l : List Int) (i : Nat) (h : i < l.length) (hd : isDig (l.getD i 0) = false) : magOf l = (0, false) := by
  unfold magOf
  rw [if_neg]
  rintro ⟨_, hd', _⟩
  have := List.all_eq_true.mp hd' _ (getD_mem l i h)
  rw [hd] at this; cases this
theorem magOf_over (l : List Int) (i : Nat) (h : 9223372036854775808 < val (l.take i)) : magOf l = (0, false) := by
  unfold magOf
  rw [if_neg]
  rintro ⟨_, hd', hv⟩
  have := val_take_le l i hd'; omega
/-- A text in memory. -/
def BytesAt (w : World) (v : Value) (l : List Int) : Prop := ∃ a c, v = .slice a l.length c ∧ l.length ≤ c ∧ c ≤ maxLen ∧ ∀ i, i < l.length → ∃ b off, a = some ⟨b, off, none⟩ ∧ w.cell? ⟨b, off + i, none⟩ = some (.int .u8 (l.getD i 0))
theorem BytesAt.keep {w w' : World} {v : Value} {l : List Int} (h : BytesAt w v l) (hb : ∀ k, k < w.heap.size → w'.heap[k]? = w.heap[k]?) : BytesAt w' v l := by
  obtain ⟨a, c, rfl, h1, h2, h⟩ := h
  refine ⟨a, c, rfl, h1, h2, fun i hi => ?_⟩
  obtain ⟨b, off, rfl, hc⟩ := h i hi
  have hlt := World.block_lt_of_cell? _ _ hc
  refine ⟨b, off, rfl, ?_⟩
  rw [← hc]; unfold World.cell?; rw [hb b hlt]
theorem BytesAt.drewN {w : World} {v : Value} {l : List Int} (h : BytesAt w v l) (n : Nat) : BytesAt (w.drewN n) v l := h.keep fun _ _ => rfl
theorem BytesAt.below {w w' : World} {v : Value} {l : List Int} (h : BytesAt w v l) (hb : Below w.heap.size w w') : BytesAt w' v l := h.keep hb.block
end Go.Proofs.Ytankdkappcimdaa
