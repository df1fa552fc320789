/- No registers have nothing, and stay so: the law's walk; the opening of a register that came in. -/
import Derived.Test.YthalpbbjcagnnaaAwake
import Derived.OpenShut
import Derived.KernelRfl
set_option linter.unusedSimpArgs false
set_option linter.unusedVariables false
namespace Go.Proofs.Ythalpbbjcagnnaa
open Go.RowKit
set_option maxRecDepth 100000 in
set_option maxHeartbeats 1000000 in
theorem regsNil_walk (x k : Int) (v : Value) (L : Txt) (N : Nat → Prop) (w : World) (h : TxtAt w N v L) : Calls Try.prog 5 #[.int .i64 x, .agg #[.int .i64 k, v]] w fun e w' => e = .returned (.bool true) ∧ Below w.heap.size w w' := by
  have hy := h
  obtain ⟨a, c, rfl, g1, g2, -⟩ := h
  obtain ⟨m, hm⟩ : ∃ m, L.length = m := ⟨_, rfl⟩
  rw [hm] at hy g1 ⊢
  have hb1 : Below w.heap.size w (w.alloc (.cells #[.int .i64 k, .slice a m c] 24)) := (Below.refl _ _).alloc (Nat.le_refl _) _
  have HB1 := Lib.hid hb1
  have HF := Lib.hid (Few_calls (w.alloc (.cells #[.int .i64 k, .slice a m c] 24)).drew N _ L (hy.below hb1.drew))
  clear hy hm hb1 g1 g2
  go_enter Try.func5, Try.ntmps5
  go_wp2_with fail
  go_region_law (go_simp; first
    | (go_at_call 7; refine HF.out.mono ?_; rintro e w2 ⟨⟨v2, L2, rfl, ht2, -⟩, hb2⟩; have HB2 := Lib.hid (HB1.out.drew.trans (hb2.mono HB1.out.size)); have h0 := (hb2.block w.heap.size (by simp [World.drew])).trans (show (w.alloc (.cells #[.int .i64 k, .slice a m c] 24)).drew.heap[w.heap.size]? = _ from heap_new w _); have h1 : w2.cell? ⟨w.heap.size, 0, none⟩ = some (.int .i64 k) := (cell_row h0 0).trans rfl; obtain ⟨va, vc, rfl, -⟩ := ht2; clear h0 hb2)
    | (go_at_call 9; refine (set_nil _ _ _ _).mono ?_; rintro e w3 ⟨rfl, hb3⟩; have HB3 := Lib.hid (HB2.out.trans (hb3.mono HB2.out.size)); clear hb3))
  all_goals
    go_wp2_with (first | (go_at_call 10; refine (get_nil _ _).mono ?_; rintro e w4 ⟨rfl, hb4⟩; have HB4 := Lib.hid (HB3.out.trans (hb4.mono HB3.out.size)); clear hb4) | (go_at_call 18; refine (drop_nil _ _).mono ?_; rintro e w' ⟨rfl, rfl⟩) | (go_at_call 11; refine (names_nil _).mono ?_; rintro e w' ⟨rfl, rfl⟩) | (go_at_call 19; refine (size_nil _).mono ?_; rintro e w' ⟨rfl, rfl⟩) | (go_at_call 12; refine (awake_calls _).mono ?_; rintro e w5 ⟨rfl, hb5⟩))
    go_ret
    exact ⟨rfl, (HB4.out.alloc HB4.out.size _).trans (hb5.mono (by have := HB4.out.size; simp; omega))⟩
end Go.Proofs.Ythalpbbjcagnnaa
