/- Walks of the functions of package feed that take keys from packs, and of those that ask alone: what each does to the world, exactly. -/
import Derived.Test.YthfdoififonflaaWalk1
import Derived.Conc.LoneSelectN
set_option linter.unusedSimpArgs false
set_option linter.unusedVariables false
namespace Go.Proofs.Ythfdoififonflaa
open Go.RowKit Go.Conc Go.Proofs.Ythfdoififonflaa.Ch
theorem mkChanI (z : Int) (h0 : 0 ≤ z) (h1 : z ≤ 1000) (w : World) :
    (Instr.makeChan 46 (.int .i64 z)).run Try.prog w = .ok (.chan (some w.heap.size)) (w.alloc (chanOf z.toNat [] false 0 0)) := by
  obtain ⟨n, rfl⟩ := Int.eq_ofNat_of_zero_le h0
  exact mkChan 46 _ Try.underlying46 n (by omega) w
theorem new_walk (n : Int) (w : World) : Calls Try.prog 7 #[.int .i64 n] w fun e w' => e = .returned (.pointer (some ⟨w.heap.size + 1, 0, none⟩)) ∧ w' = (w.alloc (chanOf (min (max n 1) 1000).toNat [] false 0 0)).alloc (.cells #[.chan (some w.heap.size), .slice none 0 0, .int .i64 0] 49) := by
  by_cases hlo : n < 1
  · have mk := mkChanI 1 (by omega) (by omega)
    have HM := Lib.hid (show (min (max n 1) 1000).toNat = Int.toNat 1 by omega)
    go_enter Try.func7, Try.ntmps7
    go_wp2
    go_ret
    exact ⟨rfl, by rw [HM.out]; rfl⟩
  · by_cases hhi : 1000 < n
    · have mk := mkChanI 1000 (by omega) (by omega)
      have HM := Lib.hid (show (min (max n 1) 1000).toNat = Int.toNat 1000 by omega)
      go_enter Try.func7, Try.ntmps7
      go_wp2
      go_ret
      exact ⟨rfl, by rw [HM.out]; rfl⟩
    · have mk := mkChanI n (by omega) (by omega)
      have HM := Lib.hid (show (min (max n 1) 1000).toNat = n.toNat by omega)
      go_enter Try.func7, Try.ntmps7
      go_wp2
      go_ret
      exact ⟨rfl, by rw [HM.out]⟩
theorem packs_nil (w : World) : Calls Try.prog 11 #[.pointer none] w fun e w' => e = .returned (.int .i64 0) ∧ w = w' := by
  go_enter Try.func11, Try.ntmps11
  go_wp2
  go_ret
  exact ⟨rfl, rfl⟩
theorem packs_walk (f n p : Nat) (a : Option Addr) (w : World) (h1 : w.cell? ⟨f, 1, none⟩ = some (.slice a n p)) : Calls Try.prog 11 #[.pointer (some ⟨f, 0, none⟩)] w fun e w' => e = .returned (.int .i64 n) ∧ w = w' := by
  go_enter Try.func11, Try.ntmps11
  go_wp2
  go_ret
  exact ⟨rfl, rfl⟩
theorem waits_nil (w : World) : Calls Try.prog 15 #[.pointer none] w fun e w' => e = .returned (.int .i64 0) ∧ w = w' := by
  go_enter Try.func15, Try.ntmps15
  go_wp2
  go_ret
  exact ⟨rfl, rfl⟩
theorem waits_walk (f T cap s r : Nat) (l : List Int) (w : World) (h0 : w.cell? ⟨f, 0, none⟩ = some (.chan (some T))) (hc : w.heap[T]? = some (chanOf cap l false s r)) : Calls Try.prog 15 #[.pointer (some ⟨f, 0, none⟩)] w fun e w' => e = .returned (.int .i64 l.length) ∧ w = w' := by
  have hl := fun ty => run_len_chan (P := Try.prog) 46 ty Try.underlying46 hc
  rw [kv_size] at hl
  go_enter Try.func15, Try.ntmps15
  go_wp2
  go_ret
  exact ⟨rfl, rfl⟩
theorem fuel_nil (w : World) : Calls Try.prog 18 #[.pointer none] w fun e w' => e = .returned (.int .i64 0) ∧ w = w' := by
  go_enter Try.func18, Try.ntmps18
  go_wp2
  go_ret
  exact ⟨rfl, rfl⟩
theorem fuel_walk (f u : Nat) (w : World) (h2 : w.cell? ⟨f, 2, none⟩ = some (.int .i64 u)) (hu : u ≤ 200) : Calls Try.prog 18 #[.pointer (some ⟨f, 0, none⟩)] w fun e w' => e = .returned (.int .i64 (200 - (u : Int))) ∧ w = w' := by
  go_enter Try.func18, Try.ntmps18
  go_wp2
  go_ret
  exact ⟨rfl, rfl⟩
theorem drop_nil (w : World) : Calls Try.prog 19 #[.pointer none] w fun e w' => e = .returned (.int .i64 0) ∧ w = w' := by
  go_enter Try.func19, Try.ntmps19
  go_wp2
  go_ret
  exact ⟨rfl, rfl⟩
theorem push_nil (v : Value) (w : World) : Calls Try.prog 10 #[.pointer none, v] w fun e w' => e = .returned (.int .i64 2) ∧ w = w' := by
  go_enter Try.func10, Try.ntmps10
  go_wp2
  go_ret
  exact ⟨rfl, rfl⟩
end Go.Proofs.Ythfdoififonflaa
