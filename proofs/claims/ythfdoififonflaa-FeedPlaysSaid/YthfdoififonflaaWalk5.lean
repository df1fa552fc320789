/- Walks of Push: what it does to the world. -/
import Derived.Test.YthfdoififonflaaWalk4
import Derived.Deep.AppendLies
import Derived.Deep.RegionLaw
import Derived.ChangeAlike
set_option linter.unusedSimpArgs false
set_option linter.unusedVariables false
namespace Go.Proofs.Ythfdoififonflaa
open Go.RowKit Go.Conc Go.Proofs.Ythfdoififonflaa.Ch
theorem infoPack : (Try.prog.info? 50).map (fun i => (i.zero, i.size, i.bytes)) = some (some (.chan none), 1, 8) := by kernel_rfl
set_option maxRecDepth 100000 in
theorem push_long (f n c : Nat) (a : Option Addr) (w : World) (hn : 100 < n) : Calls Try.prog 10 #[.pointer (some ⟨f, 0, none⟩), .slice a n c] w fun e w' => e = .returned (.int .i64 7) ∧ w = w' := by
  go_enter Try.func10, Try.ntmps10
  go_wp2
  go_ret
  exact ⟨rfl, rfl⟩
set_option maxRecDepth 100000 in
theorem push_none (f c : Nat) (a : Option Addr) (w : World) : Calls Try.prog 10 #[.pointer (some ⟨f, 0, none⟩), .slice a 0 c] w fun e w' => e = .returned (.int .i64 0) ∧ w = w' := by
  go_enter Try.func10, Try.ntmps10
  go_wp2
  go_ret
  exact ⟨rfl, rfl⟩
set_option maxRecDepth 100000 in
theorem push_full (f n c m p : Nat) (a b : Option Addr) (w : World) (hn : n ≤ 100) (hn0 : 0 < n) (h1 : w.cell? ⟨f, 1, none⟩ = some (.slice b m p)) (hm : 8 ≤ m) : Calls Try.prog 10 #[.pointer (some ⟨f, 0, none⟩), .slice a n c] w fun e w' => e = .returned (.int .i64 6) ∧ w = w' := by
  have h0 : ((n : Int) == 0) = false := by rw [beq_eq_false_iff_ne]; omega
  go_enter Try.func10, Try.ntmps10
  go_wp2
  go_ret
  exact ⟨rfl, rfl⟩
def PushTo (w : World) (f n m : Nat) (v : Value) (xs : List Value) (l : List Int) (w' : World) : Prop :=
  ∃ g cap w1, w1.ownsRow 0 50 1 (.slice (some ⟨g, 0, none⟩) (m + 1) cap) (m + 1) (xs ++ [.chan (some w.heap.size)]) ∧
    ((w.drew.alloc (chanOf n l true n 0)).alloc (.cells #[.chan (some w.heap.size)] 50)).grownBy w1 v.ownBlock ∧ (v.ownBlock = some g ∨ g = w.heap.size + 2) ∧ w' = w1.setCell ⟨f, 1, none⟩ (.slice (some ⟨g, 0, none⟩) (m + 1) cap)
set_option maxRecDepth 100000 in
theorem push_walk (f b off n c m p : Nat) (a : Option Addr) (l : List Int) (xs : List Value) (w : World) (hn : n ≤ 100) (hn0 : 0 < n) (hl : l.length = n) (h1 : w.cell? ⟨f, 1, none⟩ = some (.slice a m p)) (hm : m < 8) (hz : w.frozen? ⟨f, 1, none⟩ = false)
    (hr : ∀ i, i < n → w.cell? ⟨b, off + i, none⟩ = some (.int .i64 (l.getD i 0))) (hown : w.ownsRow 0 50 1 (.slice a m p) m xs) (hvf : (Value.slice a m p).ownBlock ≠ some f) :
    Calls Try.prog 10 #[.pointer (some ⟨f, 0, none⟩), .slice (some ⟨b, off, none⟩) n c] w fun e w' => e = .returned (.int .i64 0) ∧ PushTo w f n m (.slice a m p) xs l w' := by
  obtain ⟨i0, hi, hz0, hz1, hz2⟩ := info_parts infoPack
  have HI := Lib.hid hi
  have HZ0 := Lib.hid hz0
  have HZ1 := Lib.hid hz1
  have HZ2 := Lib.hid hz2
  have HOWN := Lib.hid hown
  have HVF := Lib.hid hvf
  have h0 : ((n : Int) == 0) = false := by rw [beq_eq_false_iff_ne]; omega
  have HP := Lib.hid (packed_walk b off n c l w.drew hl hn hr)
  have hfb : f < w.heap.size := World.block_lt_of_cell? _ _ h1
  have hsz : (((w.alloc (chanOf n l true n 0)).alloc (.cells #[.chan (some w.heap.size)] 50)).drew).heap.size = w.heap.size + 2 := by simp [World.drew]
  have HSZ := Lib.hid hsz
  have hown2 : (((w.alloc (chanOf n l true n 0)).alloc (.cells #[.chan (some w.heap.size)] 50)).drew).ownsRow 0 50 1 (.slice a m p) m xs := (hown.alloc _).alloc _
  have HOWN2 := Lib.hid hown2
  have hnews : ∀ j u, [Value.chan (some w.heap.size)][j]? = some u → (((w.alloc (chanOf n l true n 0)).alloc (.cells #[.chan (some w.heap.size)] 50)).drew).cell? ((⟨w.heap.size + 1, 0, none⟩ : Addr).add j) = some u := by
    have h := cell_one_new (w.alloc (chanOf n l true n 0)) (.chan (some w.heap.size)) 50
    simp only [World.size_alloc] at h
    exact h
  have HNEWS := Lib.hid hnews
  have HMAX := Lib.hid (show m + 1 ≤ maxLen by unfold maxLen; omega)
  have HBYTES := Lib.hid (show (m + 1) * 8 ≤ 140737488355328 by omega)
  have hblk : (((w.alloc (chanOf n l true n 0)).alloc (.cells #[.chan (some w.heap.size)] 50)).drew).heap[f]? = w.heap[f]? :=
    (Below.heap_alloc (w.alloc (chanOf n l true n 0)) _ f (by simp; omega)).trans (Below.heap_alloc w _ f hfb)
  have HBLK := Lib.hid hblk
  have H1 := Lib.hid h1
  have HZ := Lib.hid hz
  clear hi hz0 hz1 hz2 hown hvf hl hr hsz hown2 hnews hblk
  go_enter Try.func10, Try.ntmps10
  go_wp2
  go_region_law (first | (refine step_append_lies _ rfl (.tmp 27) (.tmp 30) 47 rfl 0 50 i0 (.chan none) 1 8 Try.underlying47 HI.out HZ0.out HZ1.out HZ2.out rfl (by decide) (.slice a m p) m xs (by simp [Act.eval, Act.put]) HOWN2.out ⟨w.heap.size + 1, 0, none⟩ 1 1 [.chan (some w.heap.size)] (by simp [Act.eval, Act.put]) rfl HNEWS.out (by simp [Value.oneCell']) (by decide) HMAX.out HBYTES.out (by omega) (w.heap.size + 2) HSZ.out ?_; intro g cap w1 hown1 hgrow hat hlt; have g1 : w1.cell? ⟨f, 1, none⟩ = some (.slice a m p) := ((World.cell?_of_block (hgrow.block f (by rw [HSZ.out]; omega) (fun e => HVF.out e.symm))).trans (World.cell?_of_block HBLK.out)).trans H1.out; have g2 : w1.frozen? ⟨f, 1, none⟩ = false := ((World.frozen?_of_block (hgrow.block f (by rw [HSZ.out]; omega) (fun e => HVF.out e.symm))).trans (World.frozen?_of_block HBLK.out)).trans HZ.out; have HO1 := Lib.hid hown1; have HG1 := Lib.hid hgrow; have HA1 := Lib.hid hat; clear hown1 hgrow hat) | (go_simp; go_at_call 21; refine HP.out.mono ?_; rintro e w' ⟨rfl, rfl⟩))
  all_goals
    go_wp2
    go_ret
    exact ⟨rfl, _, _, _, HO1.out, HG1.out, HA1.out, rfl⟩
end Go.Proofs.Ythfdoififonflaa
