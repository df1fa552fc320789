/- Two rows of whole numbers that are the same are told as the same. -/
import Derived.Test.YthfdoififonflaaAwake
import Derived.LoopTactic
import Derived.Deep.LoopGhost
import Derived.Deep.QuietTactic
import Derived.Deep.Draws
set_option linter.unusedSimpArgs false
set_option linter.unusedVariables false
namespace Go.Proofs.Ythfdoififonflaa
open Go.RowKit Go.Conc Go.Proofs.Ythfdoififonflaa.Ch
def SameRel (w : World) (n : Nat) (c : Value) (wr : World) : Prop := ∃ i k : Nat, i ≤ n ∧ c = .int .i64 i ∧ wr = w.drewN k
set_option maxRecDepth 100000 in
theorem same_eq (x y : Value) (l : List Int) (w : World) (hx : IntsAt w x l) (hy : IntsAt w y l) (hl : l.length ≤ 1000) :
    Calls Try.prog 14 #[x, y] w fun e w' => e = .returned (.bool true) ∧ ∃ k, w' = w.drewN k := by
  obtain ⟨a, c, rfl, hx⟩ := hx
  obtain ⟨b, d, rfl, hy⟩ := hy
  have HX := Lib.hid hx
  have HY := Lib.hid hy
  obtain ⟨n, hn⟩ : ∃ n, l.length = n := ⟨_, rfl⟩
  rw [hn] at hl HX HY ⊢
  have HN := Lib.hid hn
  clear hx hy hn
  have hne : ((n : Int) != (n : Int)) = false := by simp
  go_enter Try.func14, Try.ntmps14
  go_wp2
  go_loopw [13] (fun c wr => SameRel w n c wr) (fun c _ => n - (intOf c).toNat)
  case atStart => exact ⟨0, 0, Nat.zero_le _, rfl, rfl⟩
  case round =>
    obtain ⟨i, k, hi, rfl, rfl⟩ := hrel
    by_cases hlt : i < n
    · obtain ⟨b1, o1, rfl, h1⟩ := HX.out i hlt
      obtain ⟨b2, o2, rfl, h2⟩ := HY.out i hlt
      have H1 := Lib.hid h1
      have hi0 : (0 : Int) ≤ (i : Int) := by omega
      have hil : (i : Int) < (n : Int) := by omega
      go_wp2
      go_quiet (fail)
      go_wp2
      go_roundw
      case rel => exact ⟨i + 1, _, by omega, by go_num, rfl⟩
      case measure => simp [intOf]; omega
    · have : i = n := by omega
      subst this
      go_wp2
      go_ret
      exact ⟨rfl, _, rfl⟩
end Go.Proofs.Ythfdoififonflaa
