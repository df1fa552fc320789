/- Any bytes' number, and any number's text: the law's walk. -/
import Derived.Test.YtankdkappcimdaaTextR
import Derived.Test.YtankdkappcimdaaNumBack
set_option linter.unusedSimpArgs false
set_option linter.unusedVariables false
namespace Go.Proofs.Ytankdkappcimdaa
open Go.RowKit
set_option maxRecDepth 100000 in
set_option maxHeartbeats 1000000 in
theorem numParses_walk (s : ByteArray) (n : Int) (w : World) (h0 : -9223372036854775808 ≤ n) (h1 : n ≤ 9223372036854775807) :
    Calls Try.prog 3 #[.string s, .int .i64 n] w fun e w' => e = .returned (.bool true) ∧ Below w.heap.size w w' := by
  have T1 := Lib.hid (cut_calls s 100 w (by decide))
  have sx := cutS_size s 100
  generalize cutS s 100 = t at *
  obtain ⟨v1, W1, k1, y1, c1⟩ := conv w t (by omega)
  obtain ⟨p, hp⟩ : ∃ p, parseOf (bsOf t) = p := ⟨_, rfl⟩
  have P1 := Lib.hid (show Calls Try.prog 9 #[v1] W1 _ from Parse_drewN W1 v1 _ (bsOf_ok t) y1 p hp 0)
  have P2 := Lib.hid (fun w => ParseR_calls t w (by omega))
  rw [hp] at P2
  obtain ⟨a, b⟩ := p
  obtain ⟨x, hx⟩ : ∃ x, strOfNums (texOf n) = x := ⟨_, rfl⟩
  have X1 := Lib.hid (fun w => Text_calls n w h0 h1)
  have X2 := Lib.hid (fun w => TextR_calls n w h0 h1)
  rw [hx] at X1 X2
  clear hx hp y1 sx
  have B1 := Lib.hid c1
  clear c1
  go_enter Try.func3, Try.ntmps3
  go_wp2_with (go_at_call 8; refine T1.out.mono ?_; rintro e w' ⟨rfl, rfl⟩)
  refine P1.out.mono ?_
  rintro e w2 ⟨rfl, n2, rfl⟩
  have B2 := Lib.hid (below_drewN B1.out n2)
  generalize W1.drewN n2 = w2 at *
  clear k1 B1 P1 T1
  go_wp2_with fail
  refine (P2.out _).mono ?_
  rintro e w3 ⟨rfl, rfl⟩
  go_wp2_with fail
  refine (X1.out _).mono ?_
  rintro e w4 ⟨rfl, b4⟩
  have B4 := Lib.hid (B2.out.trans (b4.mono B2.out.size))
  clear b4
  go_wp2_with fail
  refine (X2.out _).mono ?_
  rintro e w5 ⟨rfl, b5⟩
  have B5 := Lib.hid (B4.out.trans (b5.mono B4.out.size))
  clear b5
  go_wp2_with (go_at_call 13; refine (awake_calls _).mono ?_; rintro e w' ⟨rfl, hb⟩)
  go_ret
  exact ⟨rfl, B5.out.trans (hb.mono B5.out.size)⟩
end Go.Proofs.Ytankdkappcimdaa
