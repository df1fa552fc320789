/- Texts stand in a row: the law's walk. -/
import Derived.Test.YtankdkappcimdaaOrder
set_option linter.unusedSimpArgs false
set_option linter.unusedVariables false
namespace Go.Proofs.Ytankdkappcimdaa
open Go.RowKit
set_option maxRecDepth 100000 in
set_option maxHeartbeats 1000000 in
theorem numRow_walk (a b c : ByteArray) (w : World) :
    Calls Try.prog 5 #[.string a, .string b, .string c] w fun e w' => e = .returned (.bool true) ∧ Below w.heap.size w w' := by
  have sx := cutS_size a 60
  have sy := cutS_size b 60
  have sz := cutS_size c 60
  have T1 := Lib.hid (show ∀ w, Calls Try.prog 8 #[.string a, .int .i64 60] w fun e w' => e = .returned (.string (cutS a 60)) ∧ w = w' from fun w => cut_calls a 60 w (by decide))
  have T2 := Lib.hid (show ∀ w, Calls Try.prog 8 #[.string b, .int .i64 60] w fun e w' => e = .returned (.string (cutS b 60)) ∧ w = w' from fun w => cut_calls b 60 w (by decide))
  have T3 := Lib.hid (show ∀ w, Calls Try.prog 8 #[.string c, .int .i64 60] w fun e w' => e = .returned (.string (cutS c 60)) ∧ w = w' from fun w => cut_calls c 60 w (by decide))
  generalize cutS a 60 = t1 at *
  generalize cutS b 60 = t2 at *
  generalize cutS c 60 = t3 at *
  obtain ⟨x, W1, k1, x1, b1⟩ := conv w t1 (by omega)
  obtain ⟨y, W2, k2, y2, b2⟩ := conv W1 t2 (by omega)
  obtain ⟨z, W3, k3, z3, b3⟩ := conv W2 t3 (by omega)
  have x3 := (x1.to b2).to b3
  have y3 := y2.to b3
  have XY := Lib.hid (Compare_drewN W3 x y _ _ (bsOf_ok _) (bsOf_ok _) x3 y3)
  have YX := Lib.hid (Compare_drewN W3 y x _ _ (bsOf_ok _) (bsOf_ok _) y3 x3)
  have XX := Lib.hid (Compare_drewN W3 x x _ _ (bsOf_ok _) (bsOf_ok _) x3 x3)
  have YZ := Lib.hid (Compare_drewN W3 y z _ _ (bsOf_ok _) (bsOf_ok _) y3 z3)
  have XZ := Lib.hid (Compare_drewN W3 x z _ _ (bsOf_ok _) (bsOf_ok _) x3 z3)
  have HB := Lib.hid ((b1.trans (b2.mono b1.size)).trans (b3.mono (Nat.le_trans b1.size b2.size)))
  have hanti := cmpOf_anti (bsOf t1) (bsOf t2)
  have hself := cmpOf_self (bsOf t1)
  have htr := cmpOf_trans (bsOf t1) (bsOf t2) (bsOf t3)
  have r1 := cmpOf_range (bsOf t1) (bsOf t2)
  have r2 := cmpOf_range (bsOf t2) (bsOf t3)
  rw [hself] at XX
  generalize cmpOf (bsOf t1) (bsOf t2) = xy at *
  generalize cmpOf (bsOf t2) (bsOf t1) = yx at *
  generalize cmpOf (bsOf t2) (bsOf t3) = yz at *
  generalize cmpOf (bsOf t1) (bsOf t3) = xz at *
  obtain rfl : yx = -xy := by omega
  have q1 := r1.1
  have q2 := r1.2
  have q3 := r2.1
  have q4 := r2.2
  clear x1 y2 z3 x3 y3 b1 b2 b3 hself hanti sx sy sz r1 r2
  have XY0 := Lib.hid (show Calls Try.prog 16 #[x, y] W3 _ from XY.out 0)
  by_cases h1 : xy ≤ 0
  · by_cases h2 : yz ≤ 0
    · have h3 := (htr h1 h2).1
      have h4 := (htr h1 h2).2
      have h5 : (xz == 0) = (xy + yz == 0) := by rw [Bool.eq_iff_iff]; simpa using h4
      have h6 : ¬ xz > 0 := by omega
      clear htr h4
      go_enter Try.func5, Try.ntmps5
      go_wp2_with (first | (go_at_call 8; with_reducible refine (T1.out _).mono ?_; rintro e w' ⟨rfl, rfl⟩) | (go_at_call 8; with_reducible refine (T2.out _).mono ?_; rintro e w' ⟨rfl, rfl⟩) | (go_at_call 8; with_reducible refine (T3.out _).mono ?_; rintro e w' ⟨rfl, rfl⟩) | (go_at_call 16; with_reducible refine XY0.out.mono ?_; rintro e w' ⟨rfl, n, rfl⟩) | (go_at_call 16; with_reducible refine (XX.out _).mono ?_; rintro e w' ⟨rfl, n, rfl⟩) | (go_at_call 16; with_reducible refine (XY.out _).mono ?_; rintro e w' ⟨rfl, n, rfl⟩) | (go_at_call 16; with_reducible refine (YX.out _).mono ?_; rintro e w' ⟨rfl, n, rfl⟩) | (go_at_call 16; with_reducible refine (YZ.out _).mono ?_; rintro e w' ⟨rfl, n, rfl⟩) | (go_at_call 16; with_reducible refine (XZ.out _).mono ?_; rintro e w' ⟨rfl, n, rfl⟩) | (go_at_call 13; refine (awake_calls _).mono ?_; rintro e w' ⟨rfl, hb⟩))
      go_ret
      exact ⟨rfl, (below_drewN HB.out _).trans (hb.mono HB.out.size)⟩
    · clear htr
      go_enter Try.func5, Try.ntmps5
      go_wp2_with (first | (go_at_call 8; with_reducible refine (T1.out _).mono ?_; rintro e w' ⟨rfl, rfl⟩) | (go_at_call 8; with_reducible refine (T2.out _).mono ?_; rintro e w' ⟨rfl, rfl⟩) | (go_at_call 8; with_reducible refine (T3.out _).mono ?_; rintro e w' ⟨rfl, rfl⟩) | (go_at_call 16; with_reducible refine XY0.out.mono ?_; rintro e w' ⟨rfl, n, rfl⟩) | (go_at_call 16; with_reducible refine (XX.out _).mono ?_; rintro e w' ⟨rfl, n, rfl⟩) | (go_at_call 16; with_reducible refine (XY.out _).mono ?_; rintro e w' ⟨rfl, n, rfl⟩) | (go_at_call 16; with_reducible refine (YX.out _).mono ?_; rintro e w' ⟨rfl, n, rfl⟩) | (go_at_call 16; with_reducible refine (YZ.out _).mono ?_; rintro e w' ⟨rfl, n, rfl⟩) | (go_at_call 16; with_reducible refine (XZ.out _).mono ?_; rintro e w' ⟨rfl, n, rfl⟩) | (go_at_call 13; refine (awake_calls _).mono ?_; rintro e w' ⟨rfl, hb⟩))
      go_ret
      exact ⟨rfl, (below_drewN HB.out _).trans (hb.mono HB.out.size)⟩
  · clear htr
    go_enter Try.func5, Try.ntmps5
    go_wp2_with (first | (go_at_call 8; with_reducible refine (T1.out _).mono ?_; rintro e w' ⟨rfl, rfl⟩) | (go_at_call 8; with_reducible refine (T2.out _).mono ?_; rintro e w' ⟨rfl, rfl⟩) | (go_at_call 8; with_reducible refine (T3.out _).mono ?_; rintro e w' ⟨rfl, rfl⟩) | (go_at_call 16; with_reducible refine XY0.out.mono ?_; rintro e w' ⟨rfl, n, rfl⟩) | (go_at_call 16; with_reducible refine (XX.out _).mono ?_; rintro e w' ⟨rfl, n, rfl⟩) | (go_at_call 16; with_reducible refine (XY.out _).mono ?_; rintro e w' ⟨rfl, n, rfl⟩) | (go_at_call 16; with_reducible refine (YX.out _).mono ?_; rintro e w' ⟨rfl, n, rfl⟩) | (go_at_call 16; with_reducible refine (YZ.out _).mono ?_; rintro e w' ⟨rfl, n, rfl⟩) | (go_at_call 16; with_reducible refine (XZ.out _).mono ?_; rintro e w' ⟨rfl, n, rfl⟩) | (go_at_call 13; refine (awake_calls _).mono ?_; rintro e w' ⟨rfl, hb⟩))
    go_ret
    exact ⟨rfl, (below_drewN HB.out _).trans (hb.mono HB.out.size)⟩
end Go.Proofs.Ytankdkappcimdaa
