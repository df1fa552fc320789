/- Both feeds side by side in one memory, each at a state: the contracts of all methods over that. -/
import Derived.Test.YthfdoififonflaaRef5
set_option linter.unusedSimpArgs false
set_option linter.unusedVariables false
namespace Go.Proofs.Ythfdoififonflaa
open Go.RowKit
structure BothIn (w0 w : World) (Nf Nr : Nat → Prop) (f r : Nat) (s t : St) (X : Nat → Option Obj) : Prop where
  bel : Below w0.heap.size w0 w
  feed : FeedAt w Nf f s
  ref : RefAt w w0.heap.size Nr r t
  fB : ∀ k, Nf k → w0.heap.size ≤ k ∧ k < w.heap.size
  rB : ∀ k, Nr k → w0.heap.size ≤ k ∧ k < w.heap.size ∧ ¬ Nf k
  sok : s.ok
  tok : t.ok
  xs : ∀ k o, X k = some o → w.heap[k]? = some o ∧ ¬ Nf k ∧ ¬ Nr k
  few : s.typed.length ≤ 1000 ∧ s.room ≤ 1000 ∧ t.typed.length ≤ 1000 ∧ t.room ≤ 1000
def BothAt (w0 w : World) (f r : Nat) (s t : St) (X : Nat → Option Obj) : Prop := ∃ Nf Nr, BothIn w0 w Nf Nr f r s t X
def boxX (D : Nat) (o : Obj) : Nat → Option Obj := fun k => if k = D then some o else none
theorem RefAt.lt {w : World} {B : Nat} {N : Nat → Prop} {r : Nat} {st : St} (h : RefAt w B N r st) : RefAt w B (fun k => N k ∧ k < w.heap.size) r st := by
  obtain ⟨tv, pv, ys, h⟩ := h
  exact ⟨tv, pv, ys, h.to (fun k hk hl => ⟨hk, hl⟩) (fun k hk => h.nB k hk.1)⟩
section
variable {w0 w : World} {Nf Nr : Nat → Prop} {f r : Nat} {s t : St} {X : Nat → Option Obj}
theorem BothIn.fstep (h : BothIn w0 w Nf Nr f r s t X) {w' : World} {s' : St} (hf : FeedAt w' (fun k => Nf k ∨ w.heap.size ≤ k) f s') (hk : Keep Nf w w') (hs : s'.ok) (hl : s'.typed.length ≤ 1000 ∧ s'.room ≤ 1000) : BothAt w0 w' f r s' t X :=
  ⟨_, Nr, {
    bel := h.bel.trans (hk.below (fun k hk => (h.fB k hk).1) h.bel.size)
    feed := hf.lt
    ref := h.ref.keep fun k hk hlt => hk.elim (fun hN => (‹Keep Nf w w'›).block k hlt (h.rB k hN).2.2) (fun hB => (‹Keep Nf w w'›).block k hlt (fun e => by have := (h.fB k e).1; omega))
    fB := by
      rintro k ⟨e | e, hlt⟩
      · exact ⟨(h.fB k e).1, hlt⟩
      · have := h.bel.size; exact ⟨by omega, hlt⟩
    rB := fun k e => ⟨(h.rB k e).1, Nat.lt_of_lt_of_le (h.rB k e).2.1 hk.size, by
      rintro ⟨e2 | e2, -⟩
      · exact (h.rB k e).2.2 e2
      · have := (h.rB k e).2.1; omega⟩
    xs := fun k o e => by
      obtain ⟨h1, h2, h3⟩ := h.xs k o e
      have := lt_of_heap h1
      exact ⟨(hk.block k this h2).trans h1, by rintro ⟨e2 | e2, -⟩; exact h2 e2; omega, h3⟩
    sok := hs
    tok := h.tok
    few := ⟨hl.1, hl.2, h.few.2.2⟩ }⟩
theorem BothIn.rstep (h : BothIn w0 w Nf Nr f r s t X) {w' : World} {t' : St} (hr : RefAt w' w0.heap.size (fun k => Nr k ∨ w.heap.size ≤ k) r t') (hk : Keep Nr w w') (ht : t'.ok) (hl : t'.typed.length ≤ 1000 ∧ t'.room ≤ 1000) : BothAt w0 w' f r s t' X :=
  ⟨Nf, _, {
    bel := h.bel.trans (hk.below (fun k hk => (h.rB k hk).1) h.bel.size)
    feed := h.feed.keep fun k hN hlt => hk.block k hlt (fun e => (h.rB k e).2.2 hN)
    ref := hr.lt
    fB := fun k e => ⟨(h.fB k e).1, Nat.lt_of_lt_of_le (h.fB k e).2 hk.size⟩
    rB := by
      rintro k ⟨e | e, hlt⟩
      · exact ⟨(h.rB k e).1, hlt, (h.rB k e).2.2⟩
      · have := h.bel.size; exact ⟨by omega, hlt, fun e2 => by have := (h.fB k e2).2; omega⟩
    xs := fun k o e => by
      obtain ⟨h1, h2, h3⟩ := h.xs k o e
      have := lt_of_heap h1
      exact ⟨(hk.block k this h3).trans h1, h2, by rintro ⟨e2 | e2, -⟩; exact h3 e2; omega⟩
    sok := h.sok
    tok := ht
    few := ⟨h.few.1, h.few.2.1, hl⟩ }⟩
theorem BothIn.grow (h : BothIn w0 w Nf Nr f r s t X) {w' : World} (hk : Keep (fun _ => False) w w') : BothIn w0 w' Nf Nr f r s t X :=
  { h with
    bel := h.bel.trans (hk.below (fun _ e => e.elim) h.bel.size)
    feed := h.feed.keep fun k _ hlt => hk.block k hlt id
    ref := h.ref.keep fun k _ hlt => hk.block k hlt id
    fB := fun k e => ⟨(h.fB k e).1, Nat.lt_of_lt_of_le (h.fB k e).2 hk.size⟩
    rB := fun k e => ⟨(h.rB k e).1, Nat.lt_of_lt_of_le (h.rB k e).2.1 hk.size, (h.rB k e).2.2⟩
    xs := fun k o e => by obtain ⟨h1, h2, h3⟩ := h.xs k o e; exact ⟨(hk.block k (lt_of_heap h1) id).trans h1, h2, h3⟩ }
end
theorem type_len (s : St) (k : Int) (h : s.typed.length ≤ 1000) (hr : s.room ≤ 1000) : (s.type k).2.typed.length ≤ 1000 ∧ (s.type k).2.room ≤ 1000 := by
  unfold St.type; split
  · exact ⟨by simp; omega, hr⟩
  · exact ⟨h, hr⟩
theorem push_same (s : St) (l : List Int) : (s.push l).2.typed = s.typed ∧ (s.push l).2.room = s.room := by
  unfold St.push; split
  · exact ⟨rfl, rfl⟩
  · split
    · exact ⟨rfl, rfl⟩
    · split <;> exact ⟨rfl, rfl⟩
theorem next_len (s : St) : s.next.2.typed.length ≤ s.typed.length ∧ s.next.2.room = s.room := by
  rcases s.next_typed with ⟨k, l, e, ht⟩ | ⟨-, e⟩
  · rw [e, ht]; exact ⟨by simp, rfl⟩
  · refine ⟨by rw [e]; exact Nat.le_refl _, ?_⟩
    rcases hp : s.packs.getLast? with _ | top
    · rcases ht : s.typed with _ | ⟨k, l⟩ <;> simp only [St.next, hp, ht]
    · by_cases hu : 200 ≤ s.used
      · simp only [St.next, hp]; rw [if_pos hu]
      · simp only [St.next, hp]; rw [if_neg hu]
section
variable {w0 w : World} {f r : Nat} {s t : St} {X : Nat → Option Obj}
theorem BothAt.size (h : BothAt w0 w f r s t X) : w0.heap.size ≤ w.heap.size := by obtain ⟨Nf, Nr, h⟩ := h; exact h.bel.size
theorem BothAt.below (h : BothAt w0 w f r s t X) : Below w0.heap.size w0 w := by obtain ⟨Nf, Nr, h⟩ := h; exact h.bel
theorem BothAt.grow (h : BothAt w0 w f r s t X) {w' : World} (hk : Keep (fun _ => False) w w') : BothAt w0 w' f r s t X := by obtain ⟨Nf, Nr, h⟩ := h; exact ⟨Nf, Nr, h.grow hk⟩
theorem BothAt.box (h : BothAt w0 w f r s t X) (o : Obj) : BothAt w0 (w.alloc o) f r s t (boxX w.heap.size o) := by
  obtain ⟨Nf, Nr, h⟩ := h
  have h2 := h.grow (Keep.alloc w o)
  refine ⟨Nf, Nr, { h2 with xs := fun k o' e => ?_ }⟩
  unfold boxX at e
  by_cases hk : k = w.heap.size
  · rw [if_pos hk] at e
    cases e
    rw [hk]
    exact ⟨heap_alloc_new w o, fun e => by have := (h.fB _ e).2; omega, fun e => by have := (h.rB _ e).2.1; omega⟩
  · rw [if_neg hk] at e; cases e
theorem BothAt.drop (h : BothAt w0 w f r s t X) : BothAt w0 w f r s t (fun _ => none) := by
  obtain ⟨Nf, Nr, h⟩ := h
  exact ⟨Nf, Nr, { h with xs := fun k o e => by cases e }⟩
theorem BothAt.at (h : BothAt w0 w f r s t X) {k : Nat} {o : Obj} (e : X k = some o) : w.heap[k]? = some o := by
  obtain ⟨Nf, Nr, h⟩ := h
  exact (h.xs k o e).1
theorem BothAt.cell {D : Nat} {cs : Array Value} {e : TypeId} (h : BothAt w0 w f r s t (boxX D (.cells cs e (0, 0)))) (j : Nat) : w.cell? ⟨D, j, none⟩ = cs[j]? :=
  cell_of_row w D j cs e (0, 0) (h.at (by unfold boxX; rw [if_pos rfl]))
theorem BothAt.frozen {D : Nat} {cs : Array Value} {e : TypeId} (h : BothAt w0 w f r s t (boxX D (.cells cs e (0, 0)))) (j : Nat) : w.frozen? ⟨D, j, none⟩ = false :=
  frozen_row (h.at (by unfold boxX; rw [if_pos rfl])) j
theorem BothAt.ftype (h : BothAt w0 w f r s t X) (k : Int) : Calls Try.prog 8 #[fp f, .int .i64 k] w fun e w' => e = .returned (.bool (s.type k).1) ∧ BothAt w0 w' f r (s.type k).2 t X := by
  obtain ⟨Nf, Nr, h⟩ := h
  refine (type_calls h.feed k).mono ?_
  rintro e w' ⟨rfl, hf, hk⟩
  exact ⟨rfl, h.fstep (hf.mono fun k hk => .inl hk) hk (St.type_ok h.sok k) (type_len s k h.few.1 h.few.2.1)⟩
theorem BothAt.rtype (h : BothAt w0 w f r s t X) (k : Int) : Calls Try.prog 22 #[fp r, .int .i64 k] w fun e w' => e = .returned (.bool (t.type k).1) ∧ BothAt w0 w' f r s (t.type k).2 X := by
  obtain ⟨Nf, Nr, h⟩ := h
  refine (rtype_calls h.ref h.bel.size k h.few.2.2.1 h.few.2.2.2).mono ?_
  rintro e w' ⟨rfl, hf, hk⟩
  exact ⟨rfl, h.rstep hf hk (St.type_ok h.tok k) (type_len t k h.few.2.2.1 h.few.2.2.2)⟩
theorem BothAt.fpush (h : BothAt w0 w f r s t X) {x : Value} {l : List Int} (hx : IntsB w w0.heap.size x l) : Calls Try.prog 10 #[fp f, x] w fun e w' => e = .returned (.int .i64 (s.push l).1) ∧ BothAt w0 w' f r (s.push l).2 t X ∧ IntsB w' w0.heap.size x l := by
  obtain ⟨Nf, Nr, h⟩ := h
  refine (push_calls h.feed hx.at).mono ?_
  rintro e w' ⟨rfl, hf, hk⟩
  have hp := push_same s l
  exact ⟨rfl, h.fstep hf hk (St.push_ok h.sok l) (by rw [hp.1, hp.2]; exact ⟨h.few.1, h.few.2.1⟩), hx.keep fun k hB hlt => hk.block k hlt (fun e => by have := (h.fB k e).1; omega)⟩
theorem BothAt.rpush (h : BothAt w0 w f r s t X) {x : Value} {l : List Int} (hx : IntsB w w0.heap.size x l) : Calls Try.prog 23 #[fp r, x] w fun e w' => e = .returned (.int .i64 (t.push l).1) ∧ BothAt w0 w' f r s (t.push l).2 X ∧ IntsB w' w0.heap.size x l := by
  obtain ⟨Nf, Nr, h⟩ := h
  refine (rpush_calls h.ref h.bel.size h.tok hx).mono ?_
  rintro e w' ⟨rfl, hf, hk⟩
  have hp := push_same t l
  exact ⟨rfl, h.rstep hf hk (St.push_ok h.tok l) (by rw [hp.1, hp.2]; exact h.few.2.2), hx.keep fun k hB hlt => hk.block k hlt (fun e => by have := (h.rB k e).1; omega)⟩
theorem BothAt.fnext (h : BothAt w0 w f r s t X) : Calls Try.prog 9 #[fp f] w fun e w' => e = .returned (tup s.next.1) ∧ BothAt w0 w' f r s.next.2 t X := by
  obtain ⟨Nf, Nr, h⟩ := h
  refine (next_calls h.feed h.sok).mono ?_
  rintro e w' ⟨rfl, hf, hk⟩
  have hp := next_len s
  have := h.few
  exact ⟨rfl, h.fstep (hf.mono fun k hk => .inl hk) hk (St.next_ok h.sok) ⟨by omega, by rw [hp.2]; omega⟩⟩
theorem BothAt.rnext (h : BothAt w0 w f r s t X) : Calls Try.prog 24 #[fp r] w fun e w' => e = .returned (tup t.next.1) ∧ BothAt w0 w' f r s t.next.2 X := by
  obtain ⟨Nf, Nr, h⟩ := h
  refine (rnext_calls h.ref h.bel.size h.tok).mono ?_
  rintro e w' ⟨rfl, hf, hk⟩
  have hp := next_len t
  have := h.few
  exact ⟨rfl, h.rstep hf hk (St.next_ok h.tok) ⟨by omega, by rw [hp.2]; omega⟩⟩
theorem BothAt.fdrop (h : BothAt w0 w f r s t X) : Calls Try.prog 19 #[fp f] w fun e w' => e = .returned (.int .i64 s.total) ∧ BothAt w0 w' f r { s with packs := [] } t X := by
  obtain ⟨Nf, Nr, h⟩ := h
  refine (drop_calls h.feed h.sok).mono ?_
  rintro e w' ⟨rfl, hf, hk⟩
  exact ⟨rfl, h.fstep (hf.mono fun k hk => .inl hk) hk (St.drop_ok h.sok) ⟨h.few.1, h.few.2.1⟩⟩
theorem BothAt.rdrop (h : BothAt w0 w f r s t X) : Calls Try.prog 25 #[fp r] w fun e w' => e = .returned (.int .i64 t.total) ∧ BothAt w0 w' f r s { t with packs := [] } X := by
  obtain ⟨Nf, Nr, h⟩ := h
  refine (rdrop_calls h.ref h.tok).mono ?_
  rintro e w' ⟨rfl, ⟨tv, pv, ys, hr⟩, hk⟩
  refine ⟨rfl, h.rstep ⟨tv, pv, ys, hr.to (fun k hk _ => .inl hk) ?_⟩ hk (St.drop_ok h.tok) h.few.2.2⟩
  rintro k (e | e)
  · exact (h.rB k e).1
  · have := h.bel.size; omega
end
end Go.Proofs.Ythfdoififonflaa
