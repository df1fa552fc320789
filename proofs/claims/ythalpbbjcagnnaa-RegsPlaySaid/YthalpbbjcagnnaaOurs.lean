/- Walk: Ours. -/
import Derived.Test.YthalpbbjcagnnaaSpoil
set_option linter.unusedSimpArgs false
set_option linter.unusedVariables false
namespace Go.Proofs.Ythalpbbjcagnnaa
open Go.RowKit Go.Deep
theorem Ours_calls (k : Int) (a : Option Addr) (n c : Nat) (w : World) : Calls Try.prog 15 #[.agg #[.int .i64 k, .slice a n c]] w fun e w' => e = .returned (.agg #[.int .i64 k, .slice a n c]) ∧ Below w.heap.size w w' := by
  go_enter Try.func15, Try.ntmps15
  go_wp2_with fail
  refine bodyPost_ret (results_cell_row rfl _ _ (w.heap.size + 1) 24 #[.int .i64 k, .slice a n c] (0, 0) _ rfl (G2_second w _ _) Try.underlying24 rfl (by kernel_rfl)) rfl ?_
  exact ⟨rfl, G2_below w _ _⟩
end Go.Proofs.Ythalpbbjcagnnaa
