/- Both registers in memory; a call's block. -/
import Derived.Test.YthalpbbjcagnnaaRefSetAll
set_option linter.unusedSimpArgs false
set_option linter.unusedVariables false
namespace Go.Proofs.Ythalpbbjcagnnaa
open Go.RowKit
/-- The program's registers r and the document's q have the same. -/
structure Pair (w : World) (r q : Nat) (R : RegsT) : Prop where
  regs : RegsIn w (fun b => b ≠ q) r R
  refs : RefIn w (fun b => b ≠ r) q R
theorem Pair.ne {w : World} {r q : Nat} {R : RegsT} (h : Pair w r q R) : r ≠ q := h.regs.nr
theorem Pair.ltr {w : World} {r q : Nat} {R : RegsT} (h : Pair w r q R) : r < w.heap.size := by obtain ⟨⟨cs, h1, _⟩, _⟩ := h.regs; exact lt_of_heap h1
theorem Pair.ltq {w : World} {r q : Nat} {R : RegsT} (h : Pair w r q R) : q < w.heap.size := by obtain ⟨⟨cs, h1, _⟩, _⟩ := h.refs; exact lt_of_heap h1
theorem Pair.below {w w' : World} {r q : Nat} {R : RegsT} (h : Pair w r q R) (hb : Below w.heap.size w w') : Pair w' r q R := ⟨h.regs.below hb, h.refs.below hb⟩
/-- Other blocks than r and q, of those that there were, are as they were. -/
structure K2 (r q : Nat) (w w' : World) : Prop where
  os : w'.os = w.os
  tape : w'.tape = w.tape
  output : w'.output = w.output
  size : w.heap.size ≤ w'.heap.size
  block : ∀ k, k < w.heap.size → k ≠ r → k ≠ q → w'.heap[k]? = w.heap[k]?
theorem K2.of {r q : Nat} {w w' : World} (h : Below w.heap.size w w') : K2 r q w w' := ⟨h.os, h.tape, h.output, h.size, fun k hk _ _ => h.block k hk⟩
theorem K2.ofR {r q : Nat} {w w' : World} (h : KeepR r w w') : K2 r q w w' := ⟨h.os, h.tape, h.output, h.size, fun k hk h1 _ => h.block k hk h1⟩
theorem K2.ofQ {r q : Nat} {w w' : World} (h : KeepR q w w') : K2 r q w w' := ⟨h.os, h.tape, h.output, h.size, fun k hk _ h1 => h.block k hk h1⟩
theorem K2.trans {r q : Nat} {a b c : World} (h : K2 r q a b) (k : K2 r q b c) : K2 r q a c :=
  ⟨k.os.trans h.os, k.tape.trans h.tape, k.output.trans h.output, Nat.le_trans h.size k.size, fun i hi h1 h2 => (k.block i (Nat.lt_of_lt_of_le hi h.size) h1 h2).trans (h.block i hi h1 h2)⟩
theorem K2.toBelow {r q B : Nat} {w w' : World} (h : K2 r q w w') (hr : B ≤ r) (hq : B ≤ q) (hB : B ≤ w.heap.size) : Below B w w' := ⟨h.os, h.tape, h.output, h.size, fun k hk => h.block k (by omega) (by omega) (by omega)⟩
/-- Block b: a call. -/
structure Four (b : Nat) (kd nm k : Int) (u : Value) (w : World) : Prop where
  c0 : w.cell? ⟨b, 0, none⟩ = some (.int .i64 kd)
  c1 : w.cell? ⟨b, 1, none⟩ = some (.int .i64 nm)
  c2 : w.cell? ⟨b, 2, none⟩ = some (.int .i64 k)
  c3 : w.cell? ⟨b, 3, none⟩ = some u
theorem cell_to {b o : Nat} {x : Value} {w w' : World} (h : w.cell? ⟨b, o, none⟩ = some x) (hb : w'.heap[b]? = w.heap[b]?) : w'.cell? ⟨b, o, none⟩ = some x := by
  simp only [World.cell?] at h ⊢; rw [hb]; exact h
theorem Four.to {b : Nat} {kd nm k : Int} {u : Value} {w w' : World} (h : Four b kd nm k u w) (hb : w'.heap[b]? = w.heap[b]?) : Four b kd nm k u w' := ⟨cell_to h.c0 hb, cell_to h.c1 hb, cell_to h.c2 hb, cell_to h.c3 hb⟩
theorem Four.lt {b : Nat} {kd nm k : Int} {u : Value} {w : World} (h : Four b kd nm k u w) : b < w.heap.size := World.block_lt_of_cell? _ _ h.c0
theorem Four.below {b B : Nat} {kd nm k : Int} {u : Value} {w w' : World} (h : Four b kd nm k u w) (hb : Below B w w') (hB : b < B) : Four b kd nm k u w' := h.to (hb.block b hB)
theorem Four.of {b e : Nat} {kd nm k : Int} {u : Value} {w : World} {fz : Nat × Nat} (h : w.heap[b]? = some (.cells #[.int .i64 kd, .int .i64 nm, .int .i64 k, u] e fz)) : Four b kd nm k u w :=
  ⟨by simp [World.cell?, h], by simp [World.cell?, h], by simp [World.cell?, h], by simp [World.cell?, h]⟩
/-- Set of both. -/
theorem Pair.set {w : World} {r q : Nat} {R : RegsT} (h : Pair w r q R) (hok : RegsOk R) (x k : Int) {u : Value} {L : Txt} {B : Nat} (hr : r < B) (hq : q < B) (ht : TxtAt w (fun b => B ≤ b) u L) (hs : Small L) :
    Calls Try.prog 9 #[.pointer (some ⟨r, 0, none⟩), .int .i64 x, .agg #[.int .i64 k, u]] w fun e w1 => (e = .returned (.int .i64 (setR R x k L).1) ∧ KeepR r w w1) ∧
      ∀ w2, Below w1.heap.size w1 w2 → Calls Try.prog 29 #[.pointer (some ⟨q, 0, none⟩), .int .i64 x, .agg #[.int .i64 k, u]] w2 fun e w3 => (e = .returned (.int .i64 (setR R x k L).1) ∧ KeepR q w2 w3) ∧ Pair w3 r q (setR R x k L).2 := by
  refine (set_calls w _ _ r R x k u L h.regs hok (by show ¬ B ≤ r; omega) ht hs).mono fun e w1 ⟨h1, h2, h3⟩ => ⟨⟨h1, h3⟩, fun w2 hb => ?_⟩
  have hq1 : q < w1.heap.size := Nat.lt_of_lt_of_le h.ltq h3.size
  have hregs : RegsIn w2 (fun b => b ≠ q) r (setR R x k L).2 := (h2.keep (N' := fun b => b ≠ q) fun b hb _ => ⟨by have := h.ltq; rcases hb with h | h <;> omega, rfl⟩).below hb
  have hrefs : RefIn w2 (fun b => b ≠ r) q R := (h.refs.keep fun b hb hl => ⟨hb, h3.block b hl hb⟩).below hb
  have ht2 : TxtAt w2 (fun b => b ≠ r ∧ b ≠ q) u L := (ht.keep fun b hb hl => ⟨⟨by omega, by omega⟩, h3.block b hl (by omega)⟩).below hb
  refine (refSet_calls w2 _ q R x k u L hrefs hok ht2 hs).mono fun e w3 ⟨g1, g2, g3⟩ => ⟨⟨g1, g3⟩, ?_, ?_⟩
  · exact hregs.keep fun b hb hl => ⟨hb, g3.block b hl hb⟩
  · have hr2 : r < w2.heap.size := Nat.lt_of_lt_of_le h.ltr (Nat.le_trans h3.size hb.size)
    exact g2.keep fun b hb _ => ⟨by rcases hb with h | h <;> omega, rfl⟩
/-- Drop of both. -/
theorem Pair.drop {w : World} {r q : Nat} {R : RegsT} (h : Pair w r q R) (x : Int) :
    Calls Try.prog 18 #[.pointer (some ⟨r, 0, none⟩), .int .i64 x] w fun e w1 => (e = .returned (.bool (dropR R x).1) ∧ KeepR r w w1) ∧
      ∀ w2, Below w1.heap.size w1 w2 → Calls Try.prog 30 #[.pointer (some ⟨q, 0, none⟩), .int .i64 x] w2 fun e w3 => (e = .returned (.bool (dropR R x).1) ∧ KeepR q w2 w3) ∧ Pair w3 r q (dropR R x).2 := by
  refine (drop_calls w _ r R x h.regs).mono fun e w1 ⟨h1, h2, h3⟩ => ⟨⟨h1, h3⟩, fun w2 hb => ?_⟩
  have hregs := h2.below hb
  have hrefs : RefIn w2 (fun b => b ≠ r) q R := (h.refs.keep fun b hb hl => ⟨hb, h3.block b hl hb⟩).below hb
  refine (refDrop_calls w2 _ q R x hrefs).mono fun e w3 ⟨g1, g2, g3⟩ => ⟨⟨g1, g3⟩, ?_, g2⟩
  exact hregs.keep fun b hb hl => ⟨hb, g3.block b hl hb⟩
end Go.Proofs.Ythalpbbjcagnnaa
