/- The number with which a text begins, and how many digits it has: the law's walk. -/
import Derived.Test.YtankdkappcimdaaW6
set_option linter.unusedSimpArgs false
set_option linter.unusedVariables false
namespace Go.Proofs.Ytankdkappcimdaa
open Go.RowKit
theorem numDigits_walk (s : ByteArray) (most : Int) (w : World) (h0 : -9223372036854775808 ≤ most) (h1 : most ≤ 9223372036854775807) :
    Calls Try.prog 4 #[.string s, .int .i64 most] w fun e w' => e = .returned (.bool true) ∧ Below w.heap.size w w' := by
  have C1 := Lib.hid (cut_calls s 100 w (by decide))
  obtain ⟨t, ht⟩ : ∃ t, cutS s 100 = t := ⟨_, rfl⟩
  have hs := cutS_size s 100
  rw [ht] at C1 hs
  obtain ⟨a, ha⟩ : ∃ a, (digRun (clamp most) (bsOf t) 0 0).1 = a := ⟨_, rfl⟩
  obtain ⟨b, hb⟩ : ∃ a, (digRun (clamp most) (bsOf t) 0 0).2 = a := ⟨_, rfl⟩
  have C2 := Lib.hid (Digits_calls t most w (by omega) h0 h1)
  have C3 := Lib.hid (DigitsR_calls t most w (by omega) h0 h1)
  rw [ha, hb] at C2 C3
  clear ht ha hb
  go_enter Try.func4, Try.ntmps4
  go_wp2_with (first | (go_at_call 8; refine C1.out.mono ?_; rintro e w' ⟨rfl, rfl⟩) | (go_at_call 14; refine C2.out.mono ?_; rintro e w' ⟨rfl, rfl⟩) | (go_at_call 15; refine C3.out.mono ?_; rintro e w' ⟨rfl, rfl⟩) | (go_at_call 13; refine (awake_calls _).mono ?_; rintro e w' ⟨rfl, hb⟩))
  go_ret
  exact ⟨rfl, hb⟩
end Go.Proofs.Ytankdkappcimdaa
