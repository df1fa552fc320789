/- A slice of calls of registers that came in, as it reads. -/
import Derived.Test.YthalpbbjcagnnaaLike
import Derived.Deep.Slices
import Derived.OpenShut
import Derived.KernelRfl
set_option linter.unusedSimpArgs false
set_option linter.unusedVariables false
namespace Go.Proofs.Ythalpbbjcagnnaa
open Go.RowKit Go.Deep Go.ChangeShapes Go.WideShapes
structure OpR where
  kind : Int
  name : Int
  k : Int
  l : Txt
instance : Inhabited OpR := ⟨⟨0, 0, 0, []⟩⟩
structure OpB (w : World) (b off : Nat) (o : OpR) : Prop where
  c0 : w.cell? ⟨b, off, none⟩ = some (.int .i64 o.kind)
  c1 : w.cell? ⟨b, off + 1, none⟩ = some (.int .i64 o.name)
  c2 : w.cell? ⟨b, off + 2, none⟩ = some (.int .i64 o.k)
  c3 : ∃ y, w.cell? ⟨b, off + 3, none⟩ = some y ∧ TxtAt w (fun _ => True) y o.l
def OpsB (w : World) (x : Value) (l : List OpR) : Prop := ∃ a c, x = .slice a l.length c ∧ c ≤ maxLen ∧ l.length ≤ c ∧ ∀ i, i < l.length → ∃ b off, a = some ⟨b, off, none⟩ ∧ OpB w b (off + i * 4) (l.getD i default)
section
variable {H : Type} {enc : TypeId × Value → H} {W : World}
theorem cellsOf46 : Try.prog.cellsOf 46 = 4 := by kernel_rfl
theorem reg_of_cells {fuel : Nat} {cs : List Value} {x : DataW H × List MemPlace} (h : DataW.trod enc Try.prog W 0 (fun _ => true) true fuel 24 cs = some x) : ∃ (k : Int) (v : Value) (L : Txt), cs = [.int .i64 k, v] ∧ TxtAt W (fun _ => True) v L := by
  obtain ⟨xs, n, rfl, rfl, hlen, hxs, hf⟩ := DataW.trod_struct Try.underlying24 h
  rw [cellsOf24] at hlen
  obtain ⟨c0, c1, rfl⟩ : ∃ c0 c1, cs = [c0, c1] := by
    match cs, hlen with
    | [c0, c1], _ => exact ⟨c0, c1, rfl⟩
  simp only [List.size_toArray, List.length_cons, List.length_nil, Nat.reduceAdd] at hxs
  obtain ⟨x0, x1, rfl⟩ : ∃ x0 x1, xs = [x0, x1] := by
    match xs, hxs with
    | [x0, x1], _ => exact ⟨x0, x1, rfl⟩
  have f0 : DataW.trod enc Try.prog W 0 (fun _ => true) true n 3 (([c0, c1].drop 0).take (Try.prog.cellsOf 3)) = some x0 := hf 0 _ rfl
  have f1 : DataW.trod enc Try.prog W 0 (fun _ => true) true n 22 (([c0, c1].drop 1).take (Try.prog.cellsOf 22)) = some x1 := hf 1 _ rfl
  rw [cellsOf3] at f0
  rw [cellsOf22] at f1
  simp only [List.drop_zero, List.drop_succ_cons, List.take_succ_cons, List.take_zero] at f0 f1
  obtain ⟨k0, e0, -, w0⟩ := DataW.trod_int Try.underlying3 f0
  obtain rfl : c0 = .int .i64 k0 := by simpa using e0
  obtain ⟨L, hL⟩ := txt_of_trod f1
  exact ⟨k0, c1, L, rfl, hL⟩
theorem opB_of_trod {fuel : Nat} {cs : List Value} {x : DataW H × List MemPlace} (h : DataW.trod enc Try.prog W 0 (fun _ => true) true fuel 46 cs = some x) :
    ∃ (o : OpR) (y : Value), cs = [.int .i64 o.kind, .int .i64 o.name, .int .i64 o.k, y] ∧ TxtAt W (fun _ => True) y o.l := by
  obtain ⟨xs, n, rfl, rfl, hlen, hxs, hf⟩ := DataW.trod_struct Try.underlying46 h
  rw [cellsOf46] at hlen
  obtain ⟨c0, c1, c2, c3, rfl⟩ : ∃ c0 c1 c2 c3, cs = [c0, c1, c2, c3] := by
    match cs, hlen with
    | [c0, c1, c2, c3], _ => exact ⟨c0, c1, c2, c3, rfl⟩
  simp only [List.size_toArray, List.length_cons, List.length_nil, Nat.reduceAdd] at hxs
  obtain ⟨x0, x1, x2, rfl⟩ : ∃ x0 x1 x2, xs = [x0, x1, x2] := by
    match xs, hxs with
    | [x0, x1, x2], _ => exact ⟨x0, x1, x2, rfl⟩
  have f0 : DataW.trod enc Try.prog W 0 (fun _ => true) true n 3 (([c0, c1, c2, c3].drop 0).take (Try.prog.cellsOf 3)) = some x0 := hf 0 _ rfl
  have f1 : DataW.trod enc Try.prog W 0 (fun _ => true) true n 3 (([c0, c1, c2, c3].drop 1).take (Try.prog.cellsOf 3)) = some x1 := hf 1 _ rfl
  have f2 : DataW.trod enc Try.prog W 0 (fun _ => true) true n 24 (([c0, c1, c2, c3].drop 2).take (Try.prog.cellsOf 24)) = some x2 := hf 2 _ rfl
  rw [cellsOf3] at f0 f1
  rw [cellsOf24] at f2
  simp only [List.drop_zero, List.drop_succ_cons, List.take_succ_cons, List.take_zero] at f0 f1 f2
  obtain ⟨k0, e0, -, w0⟩ := DataW.trod_int Try.underlying3 f0
  obtain ⟨k1, e1, -, w1⟩ := DataW.trod_int Try.underlying3 f1
  obtain rfl : c0 = .int .i64 k0 := by simpa using e0
  obtain rfl : c1 = .int .i64 k1 := by simpa using e1
  obtain ⟨k2, v, L, e2, hL⟩ := reg_of_cells f2
  simp only [List.cons.injEq, and_true] at e2
  obtain ⟨rfl, rfl⟩ := e2
  exact ⟨⟨k0, k1, k2, L⟩, _, rfl, hL⟩
theorem opsB_of_trod {a : Option Addr} {n c : Nat} {d : DataW H} {p : List MemPlace} (h : DataW.Trod enc Try.prog W 0 (fun _ => true) true 40 (.slice a n c) d p) : ∃ l, OpsB W (.slice a n c) l := by
  obtain ⟨fuel, h⟩ := h
  rcases open_slice Try.underlying40 h with ⟨hcs, _⟩ | ⟨x, len, cap, m, n', D, Pl, hcs, hb, hl, hm, hmm, _, hx⟩
  · simp [Value.cells] at hcs
    obtain ⟨rfl, rfl, rfl⟩ := hcs
    exact ⟨[], none, 0, rfl, by unfold maxLen; omega, Nat.le_refl _, fun i hi => by simp at hi⟩
  · simp [Value.cells] at hcs
    obtain ⟨rfl, rfl, rfl⟩ := hcs
    simp only [if_true] at hmm
    subst hmm
    have key : ∀ i, i < n → ∃ o : OpR, ∃ b off, x = ⟨b, off, none⟩ ∧ OpB W b (off + i * 4) o := by
      intro i hi
      obtain ⟨cs', h1, h2⟩ := hx i (by omega)
      rw [cellsOf46] at h1
      obtain ⟨o, y, rfl, hy⟩ := opB_of_trod h2
      obtain ⟨_, _, hc⟩ := World.cells?_some h1
      obtain ⟨b, off, spot⟩ := x
      have g0 := hc 0 (by omega)
      have g1 := hc 1 (by omega)
      have g2 := hc 2 (by omega)
      have g3 := hc 3 (by omega)
      rw [add_add] at g0 g1 g2 g3
      have hsp : spot = none := by
        obtain ⟨cs0, q1, q2⟩ := hx 0 (by omega)
        rw [cellsOf46] at q1
        obtain ⟨o', y', rfl, _⟩ := opB_of_trod q2
        obtain ⟨_, _, hc0⟩ := World.cells?_some q1
        have := hc0 0 (by omega)
        rw [add_add] at this
        simp [Addr.add] at this
        exact World.cell?_spot this
      subst hsp
      simp only [add_plain] at g0 g1 g2 g3
      exact ⟨o, b, off, rfl, ⟨by simpa using g0, by simpa [Nat.add_assoc] using g1, by simpa [Nat.add_assoc] using g2, ⟨y, by simpa [Nat.add_assoc] using g3, hy⟩⟩⟩
    obtain ⟨F, hF⟩ := choose_lt key
    refine ⟨(List.range n).map F, some x, m, by simp, hm, by simpa using hl, fun i hi => ?_⟩
    simp at hi
    obtain ⟨b, off, rfl, ho⟩ := hF i hi
    exact ⟨b, off, rfl, by simpa [List.getD_eq_getElem?_getD, hi] using ho⟩
end
end Go.Proofs.Ythalpbbjcagnnaa
