/- Rows of texts, and a register, that came in, as they read. -/
import Derived.Test.YthalpbbjcagnnaaRegsNil
import Derived.Deep.Slices
set_option linter.unusedSimpArgs false
set_option linter.unusedVariables false
namespace Go.Proofs.Ythalpbbjcagnnaa
open Go.RowKit Go.Deep Go.ChangeShapes Go.WideShapes
section
variable {H : Type} {enc : TypeId × Value → H} {W : World}
theorem cellsOf9 : Try.prog.cellsOf 9 = 1 := by kernel_rfl
theorem cellsOf55 : Try.prog.cellsOf 55 = 1 := by kernel_rfl
theorem cellsOf22 : Try.prog.cellsOf 22 = 1 := by kernel_rfl
theorem cellsOf3 : Try.prog.cellsOf 3 = 1 := by kernel_rfl
theorem cellsOf24 : Try.prog.cellsOf 24 = 2 := by kernel_rfl
theorem spot_of {x : Addr} {v : Value} (h : W.cell? (x.add 0) = some v) : x.spot = none := by
  have h' := World.cell?_spot h
  obtain ⟨b, off, spot⟩ := x
  unfold Addr.add at h'
  split at h' <;> simp_all
theorem row_of_trod {fuel : Nat} {v : Value} {x : DataW H × List MemPlace} (h : DataW.trod enc Try.prog W 0 (fun _ => true) true fuel 55 [v] = some x) : ∃ l, RowAt W (fun _ => True) v l := by
  rcases open_slice1 Try.underlying55 cellsOf9 h with ⟨hcs, _⟩ | ⟨a, len, cap, m, n', V, D, Pl, hcs, hb, hl, hm, hmm, _, hx⟩
  · simp at hcs
    subst hcs
    exact ⟨[], none, 0, rfl, Nat.le_refl _, by decide, fun i hi => by simp at hi⟩
  · simp at hcs
    subst hcs
    simp only [if_true] at hmm
    subst hmm
    have key : ∀ i, i < len → ∃ s : ByteArray, W.cell? (a.add i) = some (.string s) := by
      intro i hi
      obtain ⟨h1, h2⟩ := hx i (by omega)
      obtain ⟨s, e, -⟩ := DataW.trod_string Try.underlying9 h2
      simp at e
      exact ⟨s, by rw [h1, e]⟩
    obtain ⟨F, hF⟩ := choose_lt key
    refine ⟨(List.range len).map F, some a, m, by simp, by simpa using hl, hm, fun i hi => ?_⟩
    simp at hi
    have hsp := spot_of (hF 0 (by omega))
    obtain ⟨b, off, spot⟩ := a
    obtain rfl : spot = none := hsp
    refine ⟨b, off, rfl, trivial, ?_⟩
    have := hF i hi
    rw [add_plain] at this
    simpa [List.getD_eq_getElem?_getD, hi] using this
theorem txt_of_trod {fuel : Nat} {v : Value} {x : DataW H × List MemPlace} (h : DataW.trod enc Try.prog W 0 (fun _ => true) true fuel 22 [v] = some x) : ∃ L, TxtAt W (fun _ => True) v L := by
  rcases open_slice1 Try.underlying22 cellsOf55 h with ⟨hcs, _⟩ | ⟨a, len, cap, m, n', V, D, Pl, hcs, hb, hl, hm, hmm, _, hx⟩
  · simp at hcs
    subst hcs
    exact ⟨[], none, 0, rfl, Nat.le_refl _, by decide, fun i hi => by simp at hi⟩
  · simp at hcs
    subst hcs
    simp only [if_true] at hmm
    subst hmm
    have key : ∀ i, i < len → ∃ l : List ByteArray, ∃ u, W.cell? (a.add i) = some u ∧ RowAt W (fun _ => True) u l := by
      intro i hi
      obtain ⟨h1, h2⟩ := hx i (by omega)
      obtain ⟨l, hr⟩ := row_of_trod h2
      exact ⟨l, V i, h1, hr⟩
    obtain ⟨F, hF⟩ := choose_lt key
    refine ⟨(List.range len).map F, some a, m, by simp, by simpa using hl, hm, fun i hi => ?_⟩
    simp at hi
    obtain ⟨u0, hu0, -⟩ := hF 0 (by omega)
    have hsp := spot_of hu0
    obtain ⟨b, off, spot⟩ := a
    obtain rfl : spot = none := hsp
    obtain ⟨u, hu, hr⟩ := hF i hi
    rw [add_plain] at hu
    exact ⟨b, off, u, rfl, trivial, hu, by simpa [List.getD_eq_getElem?_getD, hi] using hr⟩
theorem reg_of_trod {cs : Array Value} {d : DataW H} {p : List MemPlace} (h : DataW.Trod enc Try.prog W 0 (fun _ => true) true 24 (.agg cs) d p) : ∃ (k : Int) (v : Value) (L : Txt), cs = #[.int .i64 k, v] ∧ TxtAt W (fun _ => True) v L ∧ (Lit.int .i64 k).wf = true := by
  obtain ⟨fuel, h⟩ := h
  obtain ⟨xs, n, e1, e2, hlen, hxs, hf⟩ := DataW.trod_struct Try.underlying24 h
  rw [cellsOf24] at hlen
  simp only [Value.cells] at hlen h hf
  obtain ⟨l, rfl⟩ : ∃ l : List Value, cs = l.toArray := ⟨cs.toList, by simp⟩
  simp only [List.size_toArray, Array.length_toList] at hlen
  obtain ⟨c0, c1, rfl⟩ : ∃ c0 c1, l = [c0, c1] := by
    match l, hlen with
    | [c0, c1], _ => exact ⟨c0, c1, rfl⟩
  simp only [List.size_toArray, List.length_cons, List.length_nil, Nat.reduceAdd] at hxs
  obtain ⟨x0, x1, rfl⟩ : ∃ x0 x1, xs = [x0, x1] := by
    match xs, hxs with
    | [x0, x1], _ => exact ⟨x0, x1, rfl⟩
  have f0 : DataW.trod enc Try.prog W 0 (fun _ => true) true n 3 (([c0, c1].drop 0).take (Try.prog.cellsOf 3)) = some x0 := hf 0 _ rfl
  have f1 : DataW.trod enc Try.prog W 0 (fun _ => true) true n 22 (([c0, c1].drop 1).take (Try.prog.cellsOf 22)) = some x1 := hf 1 _ rfl
  rw [cellsOf3] at f0
  rw [cellsOf22] at f1
  simp only [List.drop_zero, List.drop_succ_cons, List.take_succ_cons, List.take_zero] at f0 f1
  obtain ⟨k0, e0, -, w0⟩ := DataW.trod_int Try.underlying3 f0
  obtain rfl : c0 = .int .i64 k0 := by simpa using e0
  obtain ⟨L, hL⟩ := txt_of_trod f1
  exact ⟨k0, c1, L, rfl, hL, w0⟩
end
end Go.Proofs.Ythalpbbjcagnnaa
