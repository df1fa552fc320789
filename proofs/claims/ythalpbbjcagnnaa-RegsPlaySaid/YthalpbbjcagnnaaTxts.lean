/- Rows of texts in memory; a text cut; the texts that the statement takes (Few). -/
import Derived.Test.YthalpbbjcagnnaaProg
import Derived.WalkKit
import Derived.Outline
import Derived.WalkSpells
import Derived.LoopTactic
import Derived.Deep.LoopGhost
import Derived.Lib.Hide
import Derived.BigQuiet
import Derived.Deep.AppendLies
import Derived.Deep.RegionLaw
import Derived.ArgAppend
import Derived.WalkMore
set_option linter.unusedSimpArgs false
set_option linter.unusedVariables false
namespace Go.Proofs.Ythalpbbjcagnnaa
open Go.RowKit
abbrev Txt := List (List ByteArray)
/-- A row of texts lies in the blocks N. -/
def RowAt (w : World) (N : Nat → Prop) (v : Value) (l : List ByteArray) : Prop := ∃ a c, v = .slice a l.length c ∧ l.length ≤ c ∧ c ≤ maxLen ∧ ∀ i, i < l.length → ∃ b off, a = some ⟨b, off, none⟩ ∧ N b ∧ w.cell? ⟨b, off + i, none⟩ = some (.string (l.getD i ByteArray.empty))
def TxtAt (w : World) (N : Nat → Prop) (v : Value) (L : Txt) : Prop := ∃ a c, v = .slice a L.length c ∧ L.length ≤ c ∧ c ≤ maxLen ∧ ∀ i, i < L.length → ∃ b off x, a = some ⟨b, off, none⟩ ∧ N b ∧ w.cell? ⟨b, off + i, none⟩ = some x ∧ RowAt w N x (L.getD i [])
theorem RowAt.keep {w w' : World} {N N' : Nat → Prop} {v : Value} {l : List ByteArray} (h : RowAt w N v l) (hb : ∀ k, N k → k < w.heap.size → N' k ∧ w'.heap[k]? = w.heap[k]?) : RowAt w' N' v l := by
  obtain ⟨a, c, rfl, h1, h2, h⟩ := h
  refine ⟨a, c, rfl, h1, h2, fun i hi => ?_⟩
  obtain ⟨b, off, rfl, hn, hc⟩ := h i hi
  have hlt := World.block_lt_of_cell? _ _ hc
  obtain ⟨q1, q2⟩ := hb b hn hlt
  refine ⟨b, off, rfl, q1, ?_⟩
  rw [← hc]; unfold World.cell?; rw [q2]
theorem TxtAt.keep {w w' : World} {N N' : Nat → Prop} {v : Value} {L : Txt} (h : TxtAt w N v L) (hb : ∀ k, N k → k < w.heap.size → N' k ∧ w'.heap[k]? = w.heap[k]?) : TxtAt w' N' v L := by
  obtain ⟨a, c, rfl, h1, h2, h⟩ := h
  refine ⟨a, c, rfl, h1, h2, fun i hi => ?_⟩
  obtain ⟨b, off, x, rfl, hn, hc, hr⟩ := h i hi
  have hlt := World.block_lt_of_cell? _ _ hc
  obtain ⟨q1, q2⟩ := hb b hn hlt
  refine ⟨b, off, x, rfl, q1, ?_, hr.keep hb⟩
  rw [← hc]; unfold World.cell?; rw [q2]
theorem TxtAt.below {w w' : World} {N : Nat → Prop} {v : Value} {L : Txt} (h : TxtAt w N v L) (hb : Below w.heap.size w w') : TxtAt w' N v L := h.keep fun k hk hl => ⟨hk, hb.block k hl⟩
theorem RowAt.below {w w' : World} {N : Nat → Prop} {v : Value} {l : List ByteArray} (h : RowAt w N v l) (hb : Below w.heap.size w w') : RowAt w' N v l := h.keep fun k hk hl => ⟨hk, hb.block k hl⟩
def sv (l : List ByteArray) : List Value := l.map Value.string
theorem info9 : (Try.prog.info? 9).map (fun i => (i.zero, i.size, i.bytes)) = some (some (.string ByteArray.empty), 1, 16) := by kernel_rfl
theorem info55 : (Try.prog.info? 55).map (fun i => (i.zero, i.size, i.bytes)) = some (some (.slice none 0 0), 1, 24) := by kernel_rfl
/-- A block of cells that is not frozen. -/
def Soft (w : World) (k : Nat) : Prop := ∃ (cs : Array Value) (e : Nat), w.heap[k]? = some (.cells cs e (0, 0))
theorem Soft.to {w w' : World} {k : Nat} (h : Soft w k) (hb : w'.heap[k]? = w.heap[k]?) : Soft w' k := by obtain ⟨cs, e, h⟩ := h; exact ⟨cs, e, hb.trans h⟩
theorem rowAt_own {w : World} {B n : Nat} {v : Value} {l : List ByteArray} (hn : l.length = n) (h : w.ownsRow B 9 1 v n (sv l)) : RowAt w (fun k => (B ≤ k ∧ v.ownBlock = some k) ∧ Soft w k) v l := by
  subst hn
  obtain ⟨_, ⟨rfl, h0⟩ | ⟨g, cap, cur, rfl, hb, hg, hc1, hc2, hsz, hcur⟩⟩ := h
  · exact ⟨none, 0, by rw [h0], by rw [h0]; exact Nat.le_refl _, by decide, fun i hi => by omega⟩
  · refine ⟨_, _, rfl, hc1, hc2, fun i hi => ⟨g, 0, rfl, ⟨⟨hb, rfl⟩, _, _, hg⟩, ?_⟩⟩
    have h5 : (cur.toList.take (l.length * 1))[i]? = some (.string (l.getD i ByteArray.empty)) := by
      rw [hcur]; simp [sv, List.getD_eq_getElem?_getD, List.getElem?_eq_getElem hi]
    rw [List.getElem?_take, if_pos (by omega)] at h5
    simp only [World.cell?, hg, Nat.zero_add]
    simpa using h5
/-- Rows that are put together: the row of rows is its own, each row lies elsewhere. -/
def OutAt (w : World) (B : Nat) (v : Value) (L : Txt) : Prop := ∃ ys : List Value, w.ownsRow B 55 1 v L.length ys ∧ ∀ i, i < L.length → RowAt w (fun k => B ≤ k ∧ v.ownBlock ≠ some k ∧ Soft w k) (ys.getD i undef) (L.getD i [])
theorem OutAt.nil (w : World) (B : Nat) : OutAt w B (.slice none 0 0) [] := ⟨[], ⟨rfl, .inl ⟨rfl, rfl⟩⟩, fun i hi => by simp at hi⟩
theorem OutAt.txt {w : World} {B : Nat} {v : Value} {L : Txt} (h : OutAt w B v L) : TxtAt w (fun k => B ≤ k ∧ Soft w k) v L := by
  obtain ⟨ys, ⟨hl, h0⟩, hr⟩ := h
  rcases h0 with ⟨rfl, h0⟩ | ⟨g, cap, cur, rfl, hb, hg, hc1, hc2, hsz, hcur⟩
  · exact ⟨none, 0, by rw [h0], by rw [h0]; exact Nat.le_refl _, by decide, fun i hi => by omega⟩
  · refine ⟨_, _, rfl, hc1, hc2, fun i hi => ⟨g, 0, ys.getD i undef, rfl, ⟨hb, _, _, hg⟩, ?_, (hr i hi).keep fun k hk _ => ⟨⟨hk.1, hk.2.2⟩, rfl⟩⟩⟩
    have h5 : (cur.toList.take (L.length * 1))[i]? = some (ys.getD i undef) := by
      rw [hcur]; simp [List.getD_eq_getElem?_getD, List.getElem?_eq_getElem (show i < ys.length by omega)]
    rw [List.getElem?_take, if_pos (by omega)] at h5
    simp only [World.cell?, hg, Nat.zero_add]
    simpa using h5
theorem OutAt.keep {w w' : World} {B : Nat} {v : Value} {L : Txt} (h : OutAt w B v L) (hb : ∀ k, k < w.heap.size → w'.heap[k]? = w.heap[k]?) : OutAt w' B v L := by
  obtain ⟨ys, h1, hr⟩ := h
  refine ⟨ys, ⟨h1.1, ?_⟩, fun i hi => (hr i hi).keep fun k hk hl => ⟨⟨hk.1, hk.2.1, hk.2.2.to (hb k hl)⟩, hb k hl⟩⟩
  rcases h1.2 with h0 | ⟨g, cap, cur, e, hB, hg, rest⟩
  · exact .inl h0
  · refine .inr ⟨g, cap, cur, e, hB, ?_, rest⟩
    rw [hb g (by rcases Nat.lt_or_ge g w.heap.size with h' | h'; exact h'; rw [Array.getElem?_eq_none h'] at hg; cases hg)]; exact hg
/-- A row is put behind. -/
theorem OutAt.push {w w' : World} {B g cap : Nat} {v x : Value} {L : Txt} {l : List ByteArray} {ys : List Value} (hys : ∀ i, i < L.length → RowAt w (fun k => B ≤ k ∧ v.ownBlock ≠ some k ∧ Soft w k) (ys.getD i undef) (L.getD i [])) (hyl : ys.length = L.length)
    (hx : RowAt w (fun k => B ≤ k ∧ v.ownBlock ≠ some k ∧ Soft w k) x l)
    (hown : w'.ownsRow B 55 1 (.slice (some ⟨g, 0, none⟩) (L.length + 1) cap) (L.length + 1) (ys ++ [x])) (hgrow : w.grownBy w' v.ownBlock) (hat : v.ownBlock = some g ∨ w.heap.size ≤ g) : OutAt w' B (.slice (some ⟨g, 0, none⟩) (L.length + 1) cap) (L ++ [l]) := by
  have hk : ∀ k, (B ≤ k ∧ v.ownBlock ≠ some k ∧ Soft w k) → k < w.heap.size → (B ≤ k ∧ (Value.slice (some ⟨g, 0, none⟩) (L.length + 1) cap).ownBlock ≠ some k ∧ Soft w' k) ∧ w'.heap[k]? = w.heap[k]? := by
    intro k hk hl
    refine ⟨⟨hk.1, ?_, hk.2.2.to (hgrow.block k hl (fun e => hk.2.1 e.symm))⟩, hgrow.block k hl (fun e => hk.2.1 e.symm)⟩
    intro e
    have e : g = k := by simpa [Value.ownBlock] using e
    rcases hat with h | h
    · exact hk.2.1 (by rw [h, e])
    · omega
  refine ⟨ys ++ [x], by simpa using hown, fun i hi => ?_⟩
  simp at hi
  by_cases h : i < L.length
  · have := (hys i h).keep hk
    simpa [List.getD_eq_getElem?_getD, List.getElem?_append, h, hyl] using this
  · obtain rfl : i = L.length := by omega
    have := hx.keep hk
    simpa [List.getD_eq_getElem?_getD, List.getElem?_append, hyl] using this
def cutT (s : ByteArray) (n : Nat) : ByteArray := if s.size ≤ n then s else s.extract 0 n
theorem Cut_calls (s : ByteArray) (n : Nat) (w : World) (hn : n ≤ 100000) : Calls Try.prog 23 #[.string s, .int .i64 n] w fun e w' => e = .returned (.string (cutT s n)) ∧ w = w' := by
  by_cases h : s.size ≤ n
  · have HC := Lib.hid (show cutT s n = s by rw [cutT, if_pos h])
    go_enter Try.func23, Try.ntmps23
    go_wp2_with fail
    go_ret
    exact ⟨by rw [HC.out]; rfl, rfl⟩
  · have HC := Lib.hid (show cutT s n = s.extract 0 n by rw [cutT, if_neg h])
    go_enter Try.func23, Try.ntmps23
    go_wp2_with fail
    go_ret
    exact ⟨by rw [HC.out]; rfl, rfl⟩
theorem cutT_size (s : ByteArray) (n : Nat) : (cutT s n).size ≤ n := by
  unfold cutT; split
  · assumption
  · simp; omega
theorem cutT_same {s : ByteArray} {n : Nat} (h : s.size ≤ n) : cutT s n = s := by rw [cutT, if_pos h]
end Go.Proofs.Ythalpbbjcagnnaa
