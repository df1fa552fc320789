/- What the law RegsOwn keeps on the way; its plain facts. -/
import Derived.Test.YthalpbbjcagnnaaOurs
set_option linter.unusedSimpArgs false
set_option linter.unusedVariables false
namespace Go.Proofs.Ythalpbbjcagnnaa
open Go.RowKit Go.Deep
/-- Behind what is wanted: the box, what came in (cut), what is wanted. -/
structure OwnPre (w : World) (s2 g : Nat) (k : Int) (v u1 u2 : Value) (L : Txt) (wr : World) : Prop where
  bel : Below w.heap.size w wr
  box : Two w.heap.size k v wr
  want : Two g k u2 wr
  own : TxtAt wr (fun b => w.heap.size ≤ b ∧ b < s2 ∧ Soft wr b) u1 L
  txt : TxtAt wr (fun b => s2 ≤ b) u2 L
  sg : s2 ≤ g
  s0 : w.heap.size < s2
/-- In the loop: what is wanted, the registers; other texts may stand in what came in. -/
structure OwnAt (w : World) (s2 s5 s7 g r : Nat) (k : Int) (u1 u2 : Value) (L : Txt) (R : RegsT) (wr : World) : Prop where
  bel : Below w.heap.size w wr
  regs : RegsIn wr (fun b => s5 ≤ b ∧ b < s7) r R
  want : Two g k u2 wr
  own : ∃ L', TxtAt wr (fun b => w.heap.size ≤ b ∧ b < s2 ∧ Soft wr b) u1 L'
  txt : TxtAt wr (fun b => s2 ≤ b ∧ b < s5) u2 L
  s0 : w.heap.size ≤ s2
  sg : s2 ≤ g
  gs : g < s5
  s25 : s2 ≤ s5
  s57 : s5 ≤ s7
  s7 : s7 ≤ wr.heap.size
theorem OwnAt.below {w : World} {s2 s5 s7 g r : Nat} {k : Int} {u1 u2 : Value} {L : Txt} {R : RegsT} {wr w' : World} (h : OwnAt w s2 s5 s7 g r k u1 u2 L R wr) (hb : Below wr.heap.size wr w') : OwnAt w s2 s5 s7 g r k u1 u2 L R w' :=
  { bel := h.bel.trans (hb.mono h.bel.size)
    regs := h.regs.below hb
    want := h.want.below hb h.want.lt
    own := by obtain ⟨L', ht⟩ := h.own; exact ⟨L', ht.keep fun b hb' hl => ⟨⟨hb'.1, hb'.2.1, hb'.2.2.to (hb.block b hl)⟩, hb.block b hl⟩⟩
    txt := h.txt.below hb
    s0 := h.s0, sg := h.sg, gs := h.gs, s25 := h.s25, s57 := h.s57, s7 := Nat.le_trans h.s7 hb.size }
theorem OwnAt.spoil {w : World} {s2 s5 s7 g r : Nat} {k : Int} {u1 u2 : Value} {L : Txt} {R : RegsT} {wr w' : World} {N : Nat → Prop} (h : OwnAt w s2 s5 s7 g r k u1 u2 L R wr) (hs : Spoilt N wr w') (hN : ∀ b, N b → (w.heap.size ≤ b ∧ b < s2) ∨ s7 ≤ b) : OwnAt w s2 s5 s7 g r k u1 u2 L R w' := by
  have h0 := h.s0
  have h1 := h.sg
  have h2 := h.gs
  have h3 := h.s25
  have h4 := h.s57
  have hk : ∀ b, (s2 ≤ b ∧ b < s7) → w'.heap[b]? = wr.heap[b]? := fun b hb => hs.block b fun hn => by have := hN b hn; omega
  exact
  { bel := ⟨hs.os.trans h.bel.os, hs.tape.trans h.bel.tape, hs.output.trans h.bel.output, by rw [hs.size]; exact h.bel.size, fun b hb => (hs.block b fun hn => by have := hN b hn; omega).trans (h.bel.block b hb)⟩
    regs := h.regs.keep fun b hb _ => ⟨hb, hk b ⟨by omega, hb.2⟩⟩
    want := h.want.to (hk g ⟨h1, by omega⟩)
    own := by
      obtain ⟨L', ht⟩ := h.own
      obtain ⟨L2, -, ht2⟩ := hs.txt ht
      exact ⟨L2, ht2.keep fun b hb _ => ⟨⟨hb.1, hb.2.1, hs.soft b hb.2.2⟩, rfl⟩⟩
    txt := h.txt.keep fun b hb _ => ⟨hb, hk b ⟨hb.1, by omega⟩⟩
    s0 := h0, sg := h1, gs := h2, s25 := h3, s57 := h4, s7 := by rw [hs.size]; exact h.s7 }
theorem OwnPre.below {w : World} {s2 g : Nat} {k : Int} {v u1 u2 : Value} {L : Txt} {wr w' : World} (h : OwnPre w s2 g k v u1 u2 L wr) (hb : Below wr.heap.size wr w') : OwnPre w s2 g k v u1 u2 L w' :=
  ⟨h.bel.trans (hb.mono h.bel.size), h.box.below hb h.box.lt, h.want.below hb h.want.lt, h.own.keep fun b hb' hl => ⟨⟨hb'.1, hb'.2.1, hb'.2.2.to (hb.block b hl)⟩, hb.block b hl⟩, h.txt.below hb, h.sg, h.s0⟩
theorem OwnPre.at {w : World} {s2 g r : Nat} {k : Int} {v u1 u2 : Value} {L : Txt} {w5 w7 : World} {R : RegsT} (h : OwnPre w s2 g k v u1 u2 L w5) (hb : Below w5.heap.size w5 w7) (hr : RegsIn w7 (fun b => w5.heap.size ≤ b) r R) :
    OwnAt w s2 w5.heap.size w7.heap.size g r k u1 u2 L R w7 := by
  have h7 := h.below hb
  have hg := h.want.lt
  have h0 := h.s0
  have h1 := h.sg
  exact
  { bel := h7.bel
    regs := hr.lt
    want := h7.want
    own := ⟨L, h7.own⟩
    txt := h.txt.keep fun b hb' hl => ⟨⟨hb', hl⟩, hb.block b hl⟩
    s0 := by omega, sg := h1, gs := hg, s25 := by omega, s57 := hb.size, s7 := Nat.le_refl _ }
theorem zero_new (x k : Int) (Y : Txt) : newTxt zeroRegs x k Y = Y := by
  unfold newTxt
  split
  · simp [joinL, zeroRegs]
  · rfl
/-- What is set is got. -/
theorem setR_zero (x k : Int) (Y : Txt) : ((setR zeroRegs x k Y).1 ≠ 0 ∧ ((setR zeroRegs x k Y).1 = 1 ∨ (setR zeroRegs x k Y).1 = 6) ∧ (setR zeroRegs x k Y).2 = zeroRegs) ∨
    ((setR zeroRegs x k Y).1 = 0 ∧ 0 < Y.length ∧ getR (setR zeroRegs x k Y).2 x = (k, Y) ∧ getR (setR zeroRegs x k Y).2 0 = (k, Y)) := by
  unfold setR
  rw [zero_new]
  split
  · exact .inl ⟨by simp, .inl rfl, rfl⟩
  · rename_i h1
    split
    · exact .inl ⟨by simp, .inr rfl, rfl⟩
    · refine .inr ⟨rfl, ?_, ?_, ?_⟩
      · rcases Nat.eq_zero_or_pos Y.length with h | h
        · exact absurd (.inr (.inr (.inr (by simpa using h)))) h1
        · exact h
      · unfold getR
        by_cases hx : x = 0
        · rw [if_pos hx]; simp [putR]
        · rw [if_neg hx]
          cases hi : idxOf x with
          | none => exact absurd (.inl ⟨hi, hx⟩) h1
          | some p =>
            have h26 : p.1 ≠ 26 := by
              unfold idxOf at hi
              split at hi
              · cases hi; show (x - 97).toNat ≠ 26; omega
              · split at hi
                · cases hi; show (x - 65).toNat ≠ 26; omega
                · cases hi
            obtain ⟨i, g⟩ := p
            have h26 : i ≠ 26 := h26
            simp [putR, h26]
      · simp [getR, putR]
theorem names_zero : ∀ k, namesOf zeroRegs k = []
  | 0 => rfl
  | k + 1 => by rw [namesOf, names_zero k, if_neg (by simp [zeroRegs])]; rfl
end Go.Proofs.Ythalpbbjcagnnaa
