/- A feed in memory as a state (room, typed keys, packs, fuel used), and the contracts of all its methods over that. -/
import Derived.Test.YthfdoififonflaaWalk5
set_option linter.unusedSimpArgs false
set_option linter.unusedVariables false
namespace Go.Proofs.Ythfdoififonflaa
open Go.RowKit Go.Conc Go.Proofs.Ythfdoififonflaa.Ch
structure St where
  room : Nat
  typed : List Int
  packs : List (List Int)
  used : Nat
/-- Blocks outside N, of those that there were, are as they were. -/
structure Keep (N : Nat → Prop) (w w' : World) : Prop where
  os : w'.os = w.os
  tape : w'.tape = w.tape
  output : w'.output = w.output
  size : w.heap.size ≤ w'.heap.size
  block : ∀ k, k < w.heap.size → ¬ N k → w'.heap[k]? = w.heap[k]?
theorem Keep.refl (N : Nat → Prop) (w : World) : Keep N w w := ⟨rfl, rfl, rfl, Nat.le_refl _, fun _ _ _ => rfl⟩
theorem Keep.trans {N : Nat → Prop} {a b c : World} (h : Keep N a b) (k : Keep (fun x => N x ∨ a.heap.size ≤ x) b c) : Keep N a c :=
  ⟨k.os.trans h.os, k.tape.trans h.tape, k.output.trans h.output, Nat.le_trans h.size k.size, fun i hi hn => (k.block i (Nat.lt_of_lt_of_le hi h.size) (by rintro (h' | h'); exact hn h'; omega)).trans (h.block i hi hn)⟩
theorem Keep.mono {N N' : Nat → Prop} {a b : World} (h : Keep N a b) (hn : ∀ k, N k → N' k) : Keep N' a b := ⟨h.os, h.tape, h.output, h.size, fun i hi h' => h.block i hi fun e => h' (hn i e)⟩
theorem Keep.setChan {N : Nat → Prop} (w : World) {c : Nat} (hc : N c) (cap : Nat) (buf : Array Value) (cl : Bool) (s r : Nat) : Keep N w (w.setChan c cap buf cl s r false) :=
  ⟨rfl, rfl, rfl, Nat.le_of_eq (size_setChan ..).symm, fun k _ hk => setChan_heap_ne _ _ _ _ _ _ _ _ (fun e => hk (e ▸ hc))⟩
theorem size_setCell (w : World) (a : Addr) (u : Value) : (w.setCell a u).heap.size = w.heap.size := by simp [World.setCell]
theorem Keep.setCell {N : Nat → Prop} (w : World) {a : Addr} (ha : N a.block) (u : Value) : Keep N w (w.setCell a u) :=
  ⟨rfl, rfl, rfl, Nat.le_of_eq (size_setCell ..).symm, fun k _ hk => Below.heap_setCell _ _ _ _ (fun e => hk (e ▸ ha))⟩
theorem Keep.below {N : Nat → Prop} {w w' : World} {B : Nat} (h : Keep N w w') (hN : ∀ k, N k → B ≤ k) (hB : B ≤ w.heap.size) : Below B w w' :=
  ⟨h.os, h.tape, h.output, h.size, fun k hk => h.block k (by omega) (fun e => by have := hN k e; omega)⟩
theorem setCell_ne (w : World) (f j : Nat) (u : Value) (k : Nat) (h : k ≠ f) : (w.setCell ⟨f, j, none⟩ u).heap[k]? = w.heap[k]? := Below.heap_setCell _ _ _ _ h
def ChanAt (w : World) (c : Nat) (l : List Int) (cl : Bool) (cap : Nat) : Prop := ∃ s r, w.heap[c]? = some (chanOf cap l cl s r)
theorem ChanAt.of {w w' : World} {c cap : Nat} {l : List Int} {cl : Bool} (h : ChanAt w c l cl cap) (e : w'.heap[c]? = w.heap[c]?) : ChanAt w' c l cl cap := by
  obtain ⟨s, r, h⟩ := h; exact ⟨s, r, e.trans h⟩
structure FeedIn (w : World) (N : Nat → Prop) (f T : Nat) (v : Value) (cs : List Nat) (st : St) : Prop where
  cell : w.heap[f]? = some (.cells #[.chan (some T), v, .int .i64 st.used] 49 (0, 0))
  typed : ChanAt w T st.typed false st.room
  row : w.ownsRow 0 50 1 v cs.length (cs.map fun c => .chan (some c))
  len : cs.length = st.packs.length
  packs : ∀ i, i < cs.length → ∃ cap, ChanAt w (cs.getD i 0) (st.packs.getD i []) true cap
  nodup : ∀ i j, i < cs.length → j < cs.length → i ≠ j → cs.getD i 0 ≠ cs.getD j 0
  nf : N f
  nT : N T
  nv : ∀ k, v.ownBlock = some k → N k ∧ k ≠ f
  ncs : ∀ i, i < cs.length → N (cs.getD i 0)
def FeedAt (w : World) (N : Nat → Prop) (f : Nat) (st : St) : Prop := ∃ T v cs, FeedIn w N f T v cs st
/-- What the packs are: few, short, none empty. -/
structure St.ok (st : St) : Prop where
  few : st.packs.length ≤ 8
  short : ∀ l ∈ st.packs, l.length ≤ 100 ∧ l ≠ []
  used : st.used ≤ 200
theorem ownsRow_of {w w' : World} {e : TypeId} {v : Value} {n : Nat} {xs : List Value} (h : w.ownsRow 0 e 1 v n xs) (hk : ∀ k, v.ownBlock = some k → w'.heap[k]? = w.heap[k]?) : w'.ownsRow 0 e 1 v n xs := by
  refine ⟨h.1, ?_⟩
  rcases h.2 with hn | ⟨g, cap, cur, rfl, hb, hgg, rest⟩
  · exact .inl hn
  · exact .inr ⟨g, cap, cur, rfl, hb, (hk g rfl).trans hgg, rest⟩
theorem FeedIn.mono {w : World} {N N' : Nat → Prop} {f T : Nat} {v : Value} {cs : List Nat} {st : St} (h : FeedIn w N f T v cs st) (hn : ∀ k, N k → N' k) : FeedIn w N' f T v cs st :=
  { h with nf := hn _ h.nf, nT := hn _ h.nT, nv := fun k hk => ⟨hn _ (h.nv k hk).1, (h.nv k hk).2⟩, ncs := fun i hi => hn _ (h.ncs i hi) }
theorem FeedAt.mono {w : World} {N N' : Nat → Prop} {f : Nat} {st : St} (h : FeedAt w N f st) (hn : ∀ k, N k → N' k) : FeedAt w N' f st := by
  obtain ⟨T, v, cs, h⟩ := h; exact ⟨T, v, cs, h.mono hn⟩
theorem lt_of_heap {w : World} {k : Nat} {o : Obj} (h : w.heap[k]? = some o) : k < w.heap.size := by
  rcases Nat.lt_or_ge k w.heap.size with h' | h'
  · exact h'
  · rw [Array.getElem?_eq_none h'] at h; cases h
theorem FeedIn.lt {w : World} {N : Nat → Prop} {f T : Nat} {v : Value} {cs : List Nat} {st : St} (h : FeedIn w N f T v cs st) : FeedIn w (fun k => N k ∧ k < w.heap.size) f T v cs st :=
  { h with
    nf := ⟨h.nf, lt_of_heap h.cell⟩
    nT := ⟨h.nT, by obtain ⟨s, r, e⟩ := h.typed; exact lt_of_heap e⟩
    nv := fun k hk => ⟨⟨(h.nv k hk).1, (h.row.lt k hk).2⟩, (h.nv k hk).2⟩
    ncs := fun i hi => ⟨h.ncs i hi, by obtain ⟨cap, s, r, e⟩ := h.packs i hi; exact lt_of_heap e⟩ }
theorem FeedAt.lt {w : World} {N : Nat → Prop} {f : Nat} {st : St} (h : FeedAt w N f st) : FeedAt w (fun k => N k ∧ k < w.heap.size) f st := by
  obtain ⟨T, v, cs, h⟩ := h; exact ⟨T, v, cs, h.lt⟩
/-- What is done elsewhere leaves a feed as it is. -/
theorem FeedIn.keep {w w' : World} {N : Nat → Prop} {f T : Nat} {v : Value} {cs : List Nat} {st : St} (h : FeedIn w N f T v cs st) (e : ∀ k, N k → k < w.heap.size → w'.heap[k]? = w.heap[k]?) : FeedIn w' N f T v cs st :=
  { h with
    cell := (e _ h.nf (lt_of_heap h.cell)).trans h.cell
    typed := h.typed.of (e _ h.nT (by obtain ⟨s, r, e⟩ := h.typed; exact lt_of_heap e))
    row := ownsRow_of h.row fun k hk => e _ (h.nv k hk).1 (h.row.lt k hk).2
    packs := fun i hi => by obtain ⟨cap, hc⟩ := h.packs i hi; exact ⟨cap, hc.of (e _ (h.ncs i hi) (by obtain ⟨s, r, e⟩ := hc; exact lt_of_heap e))⟩ }
theorem FeedAt.keep {w w' : World} {N : Nat → Prop} {f : Nat} {st : St} (h : FeedAt w N f st) (e : ∀ k, N k → k < w.heap.size → w'.heap[k]? = w.heap[k]?) : FeedAt w' N f st := by
  obtain ⟨T, v, cs, h⟩ := h; exact ⟨T, v, cs, h.keep e⟩
section
variable {w : World} {N : Nat → Prop} {f T : Nat} {v : Value} {cs : List Nat} {st : St}
theorem FeedIn.c0 (h : FeedIn w N f T v cs st) : w.cell? ⟨f, 0, none⟩ = some (.chan (some T)) := (cell_of_row w f 0 _ _ _ h.cell).trans rfl
theorem FeedIn.c1 (h : FeedIn w N f T v cs st) : w.cell? ⟨f, 1, none⟩ = some v := (cell_of_row w f 1 _ _ _ h.cell).trans rfl
theorem FeedIn.c2 (h : FeedIn w N f T v cs st) : w.cell? ⟨f, 2, none⟩ = some (.int .i64 st.used) := (cell_of_row w f 2 _ _ _ h.cell).trans rfl
theorem frozen_row {w : World} {g : Nat} {cur : Array Value} {e : TypeId} (h : w.heap[g]? = some (.cells cur e (0, 0))) (j : Nat) : w.frozen? ⟨g, j, none⟩ = false := by simp [World.frozen?, h]
theorem FeedIn.z (h : FeedIn w N f T v cs st) (j : Nat) : w.frozen? ⟨f, j, none⟩ = false := frozen_row h.cell j
theorem FeedIn.slice (h : FeedIn w N f T v cs st) : ∃ a p, v = .slice a cs.length p := by
  rcases h.row.2 with ⟨rfl, h0⟩ | ⟨g, cap, cur, rfl, _⟩
  · exact ⟨none, 0, by rw [h0]⟩
  · exact ⟨_, _, rfl⟩
end
/-! ### stores into the feed's own block, and its channels -/
theorem heap_setCell_row {w : World} {g j : Nat} {cur : Array Value} {e : TypeId} (u : Value) (h : w.heap[g]? = some (.cells cur e (0, 0))) : (w.setCell ⟨g, j, none⟩ u).heap[g]? = some (.cells (cur.setIfInBounds j u) e (0, 0)) := by
  simp [World.setCell, Array.getElem?_modify, h]
end Go.Proofs.Ythfdoififonflaa
