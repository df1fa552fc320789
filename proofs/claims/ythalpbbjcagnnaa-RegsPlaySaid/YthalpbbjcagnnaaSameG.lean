/- Walks: regs.Same and the document's Same of two registers. -/
import Derived.Test.YthalpbbjcagnnaaSameR
set_option linter.unusedSimpArgs false
set_option linter.unusedVariables false
namespace Go.Proofs.Ythalpbbjcagnnaa
open Go.RowKit
theorem SameG_calls (w : World) (N M : Nat → Prop) (k k' : Int) (u v : Value) (X Y : Txt) (hr : ∀ l ∈ X, l.length ≤ 100000) (hu : TxtAt w N u X) (hv : TxtAt w M v Y) :
    Calls Try.prog 20 #[.agg #[.int .i64 k, u], .agg #[.int .i64 k', v]] w fun e w' => e = .returned (.bool (decide (k = k') && decide (X = Y))) ∧ Below w.heap.size w w' := by
  have hb : ∀ A B : Obj, Below w.heap.size w ((w.alloc A).alloc B) := fun A B => ((Below.refl _ _).alloc (Nat.le_refl _) A).alloc (by simp) B
  have HE := Lib.hid (fun A B => EqualFunc_calls ((w.alloc A).alloc B) N M u v X Y hr (hu.below (hb A B)) (hv.below (hb A B)))
  have HB := Lib.hid hb
  obtain ⟨a, c, rfl, -⟩ := hu
  obtain ⟨a', c', rfl, -⟩ := hv
  generalize decide (X = Y) = z at *
  clear hb
  by_cases hk : k = k'
  · subst hk
    go_enter Try.func20, Try.ntmps20
    go_wp2_with (go_at_call 33; refine (HE.out _ _).mono ?_; rintro e w' ⟨rfl, n, rfl⟩)
    go_ret
    exact ⟨by simp, below_drewN (HB.out _ _) n⟩
  · have hkb : (k == k') = false := by simpa using hk
    go_enter Try.func20, Try.ntmps20
    go_wp2_with fail
    go_ret
    exact ⟨by simp [hk], HB.out _ _⟩
theorem SameD_calls (w : World) (N M : Nat → Prop) (k k' : Int) (u v : Value) (X Y : Txt) (hr : ∀ l ∈ X, l.length ≤ 100000) (hu : TxtAt w N u X) (hv : TxtAt w M v Y) :
    Calls Try.prog 14 #[.agg #[.int .i64 k, u], .agg #[.int .i64 k', v]] w fun e w' => e = .returned (.bool (decide (k = k') && decide (X = Y))) ∧ Below w.heap.size w w' := by
  have hb : ∀ A B : Obj, Below w.heap.size w ((w.alloc A).alloc B) := fun A B => ((Below.refl _ _).alloc (Nat.le_refl _) A).alloc (by simp) B
  have HE := Lib.hid (fun A B => SameR_calls ((w.alloc A).alloc B) N M u v X Y (hu.below (hb A B)) (hv.below (hb A B)))
  have HB := Lib.hid hb
  obtain ⟨a, c, rfl, -⟩ := hu
  obtain ⟨a', c', rfl, -⟩ := hv
  generalize decide (X = Y) = z at *
  clear hb
  by_cases hk : k = k'
  · subst hk
    go_enter Try.func14, Try.ntmps14
    go_wp2_with (go_at_call 28; refine (HE.out _ _).mono ?_; rintro e w' ⟨rfl, n, rfl⟩)
    go_ret
    exact ⟨by simp, below_drewN (HB.out _ _) n⟩
  · have hkb : (k == k') = false := by simpa using hk
    go_enter Try.func14, Try.ntmps14
    go_wp2_with fail
    go_ret
    exact ⟨by simp [hk], HB.out _ _⟩
end Go.Proofs.Ythalpbbjcagnnaa
