/- The document's feed (lists) in memory: its typed keys as a queue in a row of its own, its packs as a row of slices of what came in; an append law for the queue. -/
import Derived.Test.YthfdoififonflaaOpen
import Derived.ArgAppend
import Derived.Deep.QuietTactic
import Derived.BigQuiet
import Derived.Deep.RegionLaw
import Derived.Deep.AppendLies
set_option linter.unusedSimpArgs false
set_option linter.unusedVariables false
namespace Go.Proofs.Ythfdoififonflaa
open Go.RowKit
/-- A row of whole numbers that may begin inside its block. -/
def OwnQ (w : World) (v : Value) (l : List Int) : Prop :=
  (v = .slice none 0 0 ∧ l = []) ∨ ∃ g off cap cur, v = .slice (some ⟨g, off, none⟩) l.length cap ∧ w.heap[g]? = some (.cells cur 3 (0, 0)) ∧ l.length ≤ cap ∧ off + cap ≤ cur.size ∧ ∀ i, i < l.length → cur[off + i]? = some (.int .i64 (l.getD i 0))
theorem OwnQ.of {w w' : World} {v : Value} {l : List Int} (h : OwnQ w v l) (e : ∀ k, v.ownBlock = some k → w'.heap[k]? = w.heap[k]?) : OwnQ w' v l := by
  rcases h with ⟨rfl, rfl⟩ | ⟨g, off, cap, cur, rfl, hg, h1, h2, h3⟩
  · exact .inl ⟨rfl, rfl⟩
  · exact .inr ⟨g, off, cap, cur, rfl, (e g rfl).trans hg, h1, h2, h3⟩
theorem OwnQ.lt {w : World} {v : Value} {l : List Int} (h : OwnQ w v l) : ∀ k, v.ownBlock = some k → k < w.heap.size := by
  intro k hk
  rcases h with ⟨rfl, rfl⟩ | ⟨g, off, cap, cur, rfl, hg, h1, h2, h3⟩
  · simp [Value.ownBlock] at hk
  · obtain rfl : g = k := by simpa [Value.ownBlock] using hk
    exact lt_of_heap hg
theorem OwnQ.len {w : World} {v : Value} {l : List Int} (h : OwnQ w v l) : ∃ a cap, v = .slice a l.length cap := by
  rcases h with ⟨rfl, rfl⟩ | ⟨g, off, cap, cur, rfl, hg, h1, h2, h3⟩
  · exact ⟨none, 0, rfl⟩
  · exact ⟨_, cap, rfl⟩
theorem ownQ_of_row {w : World} {B n : Nat} {v : Value} {l : List Int} (h : w.ownsRow B 3 1 v n (iv l)) (hn : l.length = n) : OwnQ w v l := by
  subst hn
  rcases h.2 with ⟨rfl, h0⟩ | ⟨g, cap, cur, rfl, hb, hg, h1, h2, h3, h4⟩
  · exact .inl ⟨by rw [← h0], List.eq_nil_of_length_eq_zero h0⟩
  · refine .inr ⟨g, 0, cap, cur, rfl, hg, h1, by omega, fun i hi => ?_⟩
    have : (iv l)[i]? = some (.int .i64 (l.getD i 0)) := by simp [iv, List.getD_eq_getElem?_getD, List.getElem?_eq_getElem hi]
    rw [← h4, List.getElem?_take, if_pos (by omega)] at this
    rw [Nat.zero_add]; simpa using this
/-- What an append to such a row leaves. -/
structure AppQ (w : World) (v : Value) (l : List Int) (v' : Value) (w' : World) : Prop where
  row : OwnQ w' v' l
  grow : w.grownBy w' v.ownBlock
  lies : ∀ g, v'.ownBlock = some g → v.ownBlock = some g ∨ w.heap.size ≤ g
theorem wpList_append_q {P : Program} (w : World) {ops : Array Oper} {rest : List Oper} {o : Oper} {a : Act} {Q : Exit → Act → World → Prop}
    (hg : o.guard = none) (s x : Operand) (t : TypeId) (hop : o.op = Op.call { callee := Callee.builtin Builtin.append, args := #[s, x], argTypes := #[t, t] })
    (i : TypeInfo) (h1 : P.underlying t = some (.slice 3)) (h2 : P.info? 3 = some i) (h3 : i.zero = some (.int .i64 0)) (h4 : i.size = 1) (h5 : i.bytes = 8)
    (v : Value) (l : List Int) (k : Int) (hs : a.eval s = v) (hq : OwnQ w v l) (hl : l.length ≤ 100000)
    (ad : Addr) (c : Nat) (hx : a.eval x = .slice (some ad) 1 c) (hc : ∀ j u, [Value.int .i64 k][j]? = some u → w.cell? (ad.add j) = some u)
    (h : ∀ v' w', AppQ w v (l ++ [k]) v' w' → wpList P ops Q rest (a.put o.dst v') w') : wpList P ops Q (o :: rest) a w := by
  have hlen : (iv l).length = l.length * 1 := by simp [iv]
  have hmax : l.length + 1 ≤ maxLen := by unfold maxLen; omega
  have hgrow : ∀ v' w', w'.ownsRow w.heap.size 3 1 v' (l.length + 1) (iv l ++ [.int .i64 k]) → w.grownBy w' none → AppQ w v (l ++ [k]) v' w' := by
    intro v' w' r1 r2
    rw [← iv_snoc] at r1
    exact ⟨ownQ_of_row r1 (by simp), ⟨r2.os, r2.tape, r2.output, r2.size, fun x hx _ => r2.block x hx (by simp)⟩, fun g hg => .inr (r1.lt g hg).1⟩
  rcases hq with ⟨rfl, rfl⟩ | ⟨g, off, cap, cur, rfl, hg', hlc, hoc, hcur⟩
  · exact wpList_append_grows w hg s x t hop 3 i (.int .i64 0) 1 8 h1 h2 h3 h4 h5 rfl (by decide) none 0 0 [] hs (fun _ => ⟨rfl, rfl⟩) rfl (fun b hb => by cases hb) ad 1 c [.int .i64 k] hx rfl hc (by simp [Value.oneCell']) (by decide) hmax (by simp) (fun v' w' r1 r2 => h v' w' (hgrow v' w' r1 r2))
  · have hcell : ∀ j, w.cell? ⟨g, j, none⟩ = cur[j]? := fun j => cell_of_row w g j cur 3 (0, 0) hg'
    refine wpList_append_arg w hg s x t hop 3 i (.int .i64 0) 1 8 h1 h2 h3 h4 h5 rfl (by decide) g off l.length cap (iv l) hs hlen (fun j u hu => ?_) ad 1 c [.int .i64 k] hx rfl hc (by simp [Value.oneCell']) (fun hr j hj => ?_) hmax (by omega) (fun hr => ?_) (fun hr v' w' r1 r2 => h v' w' (hgrow v' w' r1 r2))
    · rw [hcell]
      have hj : j < l.length := by rcases Nat.lt_or_ge j l.length with h' | h'; exact h'; rw [List.getElem?_eq_none (by simp [iv]; omega)] at hu; cases hu
      rw [hcur j hj, ← hu]; simp [iv, List.getD_eq_getElem?_getD, List.getElem?_eq_getElem hj]
    · simp at hj; subst hj
      refine ⟨?_, frozen_row hg' _⟩
      rw [hcell, Array.getElem?_eq_getElem (by omega)]; rfl
    · refine h _ _ ⟨?_, ?_, fun x hx => .inl hx⟩
      · refine .inr ⟨g, off, cap, cur.setIfInBounds (off + l.length * 1) (.int .i64 k), by simp, ?_, by simp; omega, by simp; omega, fun i hi => ?_⟩
        · show (World.setCell w ⟨g, off + l.length * 1, none⟩ (.int .i64 k)).heap[g]? = _
          exact heap_setCell_row _ hg'
        · rw [Array.getElem?_setIfInBounds]
          by_cases hil : i < l.length
          · rw [if_neg (by omega), hcur i hil]; simp [List.getD_eq_getElem?_getD, List.getElem?_append_left hil]
          · obtain rfl : i = l.length := by simp at hi; omega
            rw [if_pos (by omega), if_pos (by omega)]; simp [List.getD_eq_getElem?_getD]
      · show w.grownBy (World.setCell w ⟨g, off + l.length * 1, none⟩ (.int .i64 k)) _
        exact ⟨rfl, rfl, rfl, by simp [World.setCell], fun x hx hne => setCell_ne _ _ _ _ _ (fun e => hne (by rw [e]; rfl))⟩
end Go.Proofs.Ythfdoififonflaa
