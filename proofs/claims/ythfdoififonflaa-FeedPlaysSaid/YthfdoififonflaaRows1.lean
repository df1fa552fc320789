/- A slice of whole numbers that came in, as it reads. -/
import Derived.Test.YthfdoififonflaaAwake
import Derived.OpenShut
set_option linter.unusedSimpArgs false
set_option linter.unusedVariables false
namespace Go.Proofs.Ythfdoififonflaa
open Go.RowKit
theorem intsAt_row {w : World} {x : Addr} {len cap c : Nat} {zs : List Int} (hl : len ≤ cap) (hz : zs.length = cap) (hc : ∀ i, i < zs.length → w.cell? (x.add i) = some (.int .i64 (zs.getD i 0))) : IntsAt w (.slice (some x) len c) (zs.take len) := by
  refine ⟨some x, c, by rw [List.length_take]; congr 1; omega, fun i hi => ?_⟩
  rw [List.length_take] at hi
  obtain ⟨b, off, rfl, h⟩ := ints_at hc (by omega)
  refine ⟨b, off, rfl, ?_⟩
  rw [h i (by omega)]
  simp [List.getD_eq_getElem?_getD, List.getElem?_take, show i < len by omega]
theorem intsAt_nil (w : World) (c : Nat) : IntsAt w (.slice none 0 c) [] := ⟨none, c, rfl, fun i hi => by simp at hi⟩
end Go.Proofs.Ythfdoififonflaa
