/- A slice of calls (structs of three whole numbers and a slice of whole numbers) that came in, as it reads. -/
import Derived.Test.YthfdoififonflaaOrder
import Derived.Test.YthfdoififonflaaRows1
import Derived.Deep.Slices
import Derived.OpenShut
import Derived.KernelRfl
set_option linter.unusedSimpArgs false
set_option linter.unusedVariables false
namespace Go.Proofs.Ythfdoififonflaa
open Go.RowKit Go.Deep Go.ChangeShapes Go.WideShapes
section
variable {H : Type} {enc : TypeId × Value → H} {W : World}
theorem ints_of_trod {fuel : Nat} {a : Option Addr} {n c : Nat} {x : DataW H × List MemPlace} (h : DataW.trod enc Try.prog W 0 (fun _ => true) true fuel 22 [.slice a n c] = some x) : ∃ l, IntsAt W (.slice a n c) l := by
  rcases open_ints Try.underlying22 Try.underlying3 (by kernel_rfl) h with ⟨hcs, _⟩ | ⟨x, l, c', zs, hcs, _, hl, hm, hz, _, hcell, hwz⟩
  · simp at hcs
    obtain ⟨rfl, rfl, rfl⟩ := hcs
    exact ⟨[], intsAt_nil W 0⟩
  · simp at hcs
    obtain ⟨rfl, rfl, rfl⟩ := hcs
    exact ⟨_, intsAt_row hl (by simpa using hz) hcell⟩
theorem cellsOf35 : Try.prog.cellsOf 35 = 4 := by kernel_rfl
theorem cellsOf3 : Try.prog.cellsOf 3 = 1 := by kernel_rfl
theorem cellsOf22 : Try.prog.cellsOf 22 = 1 := by kernel_rfl
theorem wf_range {n : Int} (h : (Lit.int .i64 n).wf = true) : -9223372036854775808 ≤ n ∧ n ≤ 9223372036854775807 := by
  simpa [Lit.wf, IntKind.min, IntKind.max, IntKind.signed, IntKind.bits] using h
theorem op_of_trod {fuel : Nat} {cs : List Value} {x : DataW H × List MemPlace} (h : DataW.trod enc Try.prog W 0 (fun _ => true) true fuel 35 cs = some x) :
    ∃ (o : OpL) (y : Value), cs = [.int .i64 o.kind, .int .i64 o.k, .int .i64 o.n, y] ∧ IntsAt W y o.l ∧ (-9223372036854775808 ≤ o.kind ∧ o.kind ≤ 9223372036854775807) ∧ (-9223372036854775808 ≤ o.k ∧ o.k ≤ 9223372036854775807) ∧ (-9223372036854775808 ≤ o.n ∧ o.n ≤ 9223372036854775807) := by
  obtain ⟨xs, n, rfl, rfl, hlen, hxs, hf⟩ := DataW.trod_struct Try.underlying35 h
  rw [cellsOf35] at hlen
  obtain ⟨c0, c1, c2, c3, rfl⟩ : ∃ c0 c1 c2 c3, cs = [c0, c1, c2, c3] := by
    match cs, hlen with
    | [c0, c1, c2, c3], _ => exact ⟨c0, c1, c2, c3, rfl⟩
  simp only [List.size_toArray, List.length_cons, List.length_nil, Nat.reduceAdd] at hxs
  obtain ⟨x0, x1, x2, x3, rfl⟩ : ∃ x0 x1 x2 x3, xs = [x0, x1, x2, x3] := by
    match xs, hxs with
    | [x0, x1, x2, x3], _ => exact ⟨x0, x1, x2, x3, rfl⟩
  have f0 : DataW.trod enc Try.prog W 0 (fun _ => true) true n 3 (([c0, c1, c2, c3].drop 0).take (Try.prog.cellsOf 3)) = some x0 := hf 0 _ rfl
  have f1 : DataW.trod enc Try.prog W 0 (fun _ => true) true n 3 (([c0, c1, c2, c3].drop 1).take (Try.prog.cellsOf 3)) = some x1 := hf 1 _ rfl
  have f2 : DataW.trod enc Try.prog W 0 (fun _ => true) true n 3 (([c0, c1, c2, c3].drop 2).take (Try.prog.cellsOf 3)) = some x2 := hf 2 _ rfl
  have f3 : DataW.trod enc Try.prog W 0 (fun _ => true) true n 22 (([c0, c1, c2, c3].drop 3).take (Try.prog.cellsOf 22)) = some x3 := hf 3 _ rfl
  rw [cellsOf3] at f0 f1 f2
  rw [cellsOf22] at f3
  simp only [List.drop_zero, List.drop_succ_cons, List.take_succ_cons, List.take_zero] at f0 f1 f2 f3
  obtain ⟨k0, e0, -, w0⟩ := DataW.trod_int Try.underlying3 f0
  obtain ⟨k1, e1, -, w1⟩ := DataW.trod_int Try.underlying3 f1
  obtain ⟨k2, e2, -, w2⟩ := DataW.trod_int Try.underlying3 f2
  obtain rfl : c0 = .int .i64 k0 := by simpa using e0
  obtain rfl : c1 = .int .i64 k1 := by simpa using e1
  obtain rfl : c2 = .int .i64 k2 := by simpa using e2
  obtain ⟨a, l, c, rfl⟩ : ∃ a l c, c3 = .slice a l c := by
    rcases open_ints Try.underlying22 Try.underlying3 (by kernel_rfl) f3 with ⟨hcs, _⟩ | ⟨x, l, c', zs, hcs, _⟩
    · simp at hcs; exact ⟨_, _, _, hcs⟩
    · simp at hcs; exact ⟨_, _, _, hcs⟩
  obtain ⟨li, hli⟩ := ints_of_trod f3
  exact ⟨⟨k0, k1, k2, li⟩, _, rfl, hli, wf_range w0, wf_range w1, wf_range w2⟩
theorem ops_of_trod {a : Option Addr} {n c : Nat} {d : DataW H} {p : List MemPlace} (h : DataW.Trod enc Try.prog W 0 (fun _ => true) true 33 (.slice a n c) d p) : ∃ l, OpsAt W (.slice a n c) l := by
  obtain ⟨fuel, h⟩ := h
  rcases open_slice Try.underlying33 h with ⟨hcs, _⟩ | ⟨x, len, cap, m, n', D, Pl, hcs, hb, hl, hm, hmm, _, hx⟩
  · simp [Value.cells] at hcs
    obtain ⟨rfl, rfl, rfl⟩ := hcs
    exact ⟨[], none, 0, rfl, by unfold maxLen; omega, Nat.le_refl _, fun i hi => by simp at hi⟩
  · simp [Value.cells] at hcs
    obtain ⟨rfl, rfl, rfl⟩ := hcs
    simp only [if_true] at hmm
    subst hmm
    have key : ∀ i, i < n → ∃ o : OpL, ∃ b off, x = ⟨b, off, none⟩ ∧ OpAt W b (off + i * 4) o := by
      intro i hi
      obtain ⟨cs', h1, h2⟩ := hx i (by omega)
      rw [cellsOf35] at h1
      obtain ⟨o, y, rfl, hy, r0, r1, r2⟩ := op_of_trod h2
      obtain ⟨_, _, hc⟩ := World.cells?_some h1
      obtain ⟨b, off, spot⟩ := x
      have g0 := hc 0 (by omega)
      have g1 := hc 1 (by omega)
      have g2 := hc 2 (by omega)
      have g3 := hc 3 (by omega)
      rw [add_add] at g0 g1 g2 g3
      have hsp : spot = none := by
        obtain ⟨cs0, q1, q2⟩ := hx 0 (by omega)
        rw [cellsOf35] at q1
        obtain ⟨o', y', rfl, _⟩ := op_of_trod q2
        obtain ⟨_, _, hc0⟩ := World.cells?_some q1
        have := hc0 0 (by omega)
        rw [add_add] at this
        simp [Addr.add] at this
        exact World.cell?_spot this
      subst hsp
      simp only [add_plain] at g0 g1 g2 g3
      exact ⟨o, b, off, rfl, ⟨by simpa using g0, by simpa [Nat.add_assoc] using g1, by simpa [Nat.add_assoc] using g2, ⟨y, by simpa [Nat.add_assoc] using g3, hy⟩, r0, r1, r2⟩⟩
    obtain ⟨F, hF⟩ := choose_lt key
    refine ⟨(List.range n).map F, some x, m, by simp, hm, by simpa using hl, fun i hi => ?_⟩
    simp at hi
    obtain ⟨b, off, rfl, ho⟩ := hF i hi
    exact ⟨b, off, rfl, by simpa [List.getD_eq_getElem?_getD, hi] using ho⟩
end
end Go.Proofs.Ythfdoififonflaa
