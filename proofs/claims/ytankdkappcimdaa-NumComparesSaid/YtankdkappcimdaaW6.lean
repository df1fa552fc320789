/- The chapter's example: the call of awake returns true, and nothing that was there is changed. cut. -/
import Derived.Test.YtankdkappcimdaaW5
import Derived.Lib.SlBytesConst
import Derived.Lib.SmallJoins
set_option linter.unusedSimpArgs false
set_option linter.unusedVariables false
namespace Go.Proofs.Ytankdkappcimdaa
open Go.RowKit Go.Joins
theorem BytesAt.alloc {w : World} {v : Value} {l : List Int} (h : BytesAt w v l) (o : Obj) : BytesAt (w.alloc o) v l := h.keep fun k hk => Below.heap_alloc w o k hk
theorem bytes_new (w : World) (l : List Int) (c : Nat) (hc : l.length ≤ c) (hm : c ≤ maxLen) : BytesAt (w.alloc (.cells (bv l).toArray 5 (l.length, l.length + 1))) (.slice (some ⟨w.heap.size, 0, none⟩) l.length c) l :=
  ⟨_, c, rfl, hc, hm, fun i hi => ⟨w.heap.size, 0, rfl, by rw [cell_alloc_mark_at (hn := rfl)]; simp [bv, List.getD_eq_getElem?_getD, List.getElem?_eq_getElem hi]⟩⟩
set_option maxRecDepth 100000 in
theorem awake_calls (w : World) : Calls Try.prog 13 #[] w fun e w' => e = .returned (.bool true) ∧ Below w.heap.size w w' := by
  have kc := fun (w : World) (C : Array Value) (n c : Nat) => Lib.run_convert_bytes_const (P := Try.prog) w 25 5 C n c Try.underlying25 Try.underlying5
  have kd := fun (w : World) (o : Obj) (C : Array Value) (n c : Nat) => run_convert_bytes_const_at (P := Try.prog) (w.alloc o) 25 5 C n c (w.heap.size + 1) (by simp) Try.underlying25 Try.underlying5
  have c1 : ∀ w : World, Calls Try.prog 9 #[.slice (some ⟨w.heap.size, 0, none⟩) 4 4] (w.alloc (.cells #[.int .u8 45, .int .u8 48, .int .u8 52, .int .u8 50] 5 (4, 5))) fun e w' => e = .returned (.tuple #[.int .i64 (-42), .bool true]) ∧ ∃ n, w' = (w.alloc (.cells #[.int .u8 45, .int .u8 48, .int .u8 52, .int .u8 50] 5 (4, 5))).drewN n := fun w =>
    Parse_calls _ _ [45, 48, 52, 50] (by simp [BytesOk]) (bytes_new w [45, 48, 52, 50] 4 (by decide) (by decide))
  have c2 : ∀ w : World, Calls Try.prog 14 #[.string ⟨#[49, 50, 48, 120]⟩, .int .i64 100] w fun e w' => e = .returned (.tuple #[.int .i64 100, .int .i64 3]) ∧ w = w' := fun w =>
    Digits_calls ⟨#[49, 50, 48, 120]⟩ 100 w (by decide) (by decide) (by decide)
  have c3 : ∀ w : World, Calls Try.prog 16 #[.slice (some ⟨w.heap.size, 0, none⟩) 3 3, .slice (some ⟨w.heap.size + 1, 0, none⟩) 1 1] ((w.alloc (.cells #[.int .u8 48, .int .u8 48, .int .u8 55] 5 (3, 4))).alloc (.cells #[.int .u8 55] 5 (1, 2))) fun e w' => e = .returned (.int .i64 0) ∧ ∃ n, w' = ((w.alloc (.cells #[.int .u8 48, .int .u8 48, .int .u8 55] 5 (3, 4))).alloc (.cells #[.int .u8 55] 5 (1, 2))).drewN n := fun w => by
    have h := bytes_new (w.alloc (.cells #[.int .u8 48, .int .u8 48, .int .u8 55] 5 (3, 4))) [55] 1 (by decide) (by decide)
    rw [show (w.alloc (.cells #[.int .u8 48, .int .u8 48, .int .u8 55] 5 (3, 4))).heap.size = w.heap.size + 1 by simp] at h
    exact Compare_calls _ _ _ [48, 48, 55] [55] (by simp [BytesOk]) (by simp [BytesOk]) ((bytes_new w [48, 48, 55] 3 (by decide) (by decide)).alloc _) h
  have c4 : ∀ w : World, Calls Try.prog 16 #[.slice (some ⟨w.heap.size, 0, none⟩) 2 2, .slice (some ⟨w.heap.size + 1, 0, none⟩) 1 1] ((w.alloc (.cells #[.int .u8 49, .int .u8 48] 5 (2, 3))).alloc (.cells #[.int .u8 45] 5 (1, 2))) fun e w' => e = .returned (.int .i64 (-1)) ∧ ∃ n, w' = ((w.alloc (.cells #[.int .u8 49, .int .u8 48] 5 (2, 3))).alloc (.cells #[.int .u8 45] 5 (1, 2))).drewN n := fun w => by
    have h := bytes_new (w.alloc (.cells #[.int .u8 49, .int .u8 48] 5 (2, 3))) [45] 1 (by decide) (by decide)
    rw [show (w.alloc (.cells #[.int .u8 49, .int .u8 48] 5 (2, 3))).heap.size = w.heap.size + 1 by simp] at h
    exact Compare_calls _ _ _ [49, 48] [45] (by simp [BytesOk]) (by simp [BytesOk]) ((bytes_new w [49, 48] 2 (by decide) (by decide)).alloc _) h
  have c5 : ∀ w : World, Calls Try.prog 11 #[.int .i64 (-7)] w fun e w' => e = .returned (.string ⟨#[45, 55]⟩) ∧ Below w.heap.size w w' := fun w => by
    have h := Text_calls (-7) w (by decide) (by decide)
    rw [show texOf (-7) = [45, 55] by rw [texOf, if_pos (by decide)]; exact congrArg _ (decN_small 7 (by decide))] at h
    exact h
  have C1 := Lib.hid c1
  have C2 := Lib.hid c2
  have C3 := Lib.hid c3
  have C4 := Lib.hid c4
  have C5 := Lib.hid c5
  clear c1 c2 c3 c4 c5
  go_enter Try.func13, Try.ntmps13
  go_wp2_with fail
  refine (C1.out _).mono ?_
  rintro e w1 ⟨rfl, n1, rfl⟩
  have B1 := Lib.hid (below_drewN ((Below.refl w.heap.size w).alloc (Nat.le_refl _) (.cells #[.int .u8 45, .int .u8 48, .int .u8 52, .int .u8 50] 5 (4, 5))) n1)
  generalize (w.alloc (.cells #[.int .u8 45, .int .u8 48, .int .u8 52, .int .u8 50] 5 (4, 5))).drewN n1 = w1 at *
  go_wp2_with fail
  refine (C2.out _).mono ?_
  rintro e w2 ⟨rfl, rfl⟩
  go_wp2_with fail
  refine (C3.out _).mono ?_
  rintro e w2 ⟨rfl, n2, rfl⟩
  have B2 := Lib.hid (below_drewN ((B1.out.alloc B1.out.size (.cells #[.int .u8 48, .int .u8 48, .int .u8 55] 5 (3, 4))).alloc (by have := B1.out.size; simp; omega) (.cells #[.int .u8 55] 5 (1, 2))) n2)
  generalize ((w1.alloc (.cells #[.int .u8 48, .int .u8 48, .int .u8 55] 5 (3, 4))).alloc (.cells #[.int .u8 55] 5 (1, 2))).drewN n2 = w2 at *
  go_wp2_with fail
  refine (C4.out _).mono ?_
  rintro e w3 ⟨rfl, n3, rfl⟩
  have B3 := Lib.hid (below_drewN ((B2.out.alloc B2.out.size (.cells #[.int .u8 49, .int .u8 48] 5 (2, 3))).alloc (by have := B2.out.size; simp; omega) (.cells #[.int .u8 45] 5 (1, 2))) n3)
  generalize ((w2.alloc (.cells #[.int .u8 49, .int .u8 48] 5 (2, 3))).alloc (.cells #[.int .u8 45] 5 (1, 2))).drewN n3 = w3 at *
  go_wp2_with fail
  refine (C5.out _).mono ?_
  rintro e w4 ⟨rfl, hb⟩
  have B4 := Lib.hid (B3.out.trans (hb.mono B3.out.size))
  clear hb
  go_wp2_with fail
  go_ret
  exact ⟨rfl, B4.out⟩
def cutS (s : ByteArray) (n : Nat) : ByteArray := if s.size ≤ n then s else s.extract 0 n
theorem cut_calls (s : ByteArray) (n : Nat) (w : World) (hn : n ≤ 1000) : Calls Try.prog 8 #[.string s, .int .i64 n] w fun e w' => e = .returned (.string (cutS s n)) ∧ w = w' := by
  by_cases h : s.size ≤ n
  · have HC := Lib.hid (show cutS s n = s by rw [cutS, if_pos h])
    go_enter Try.func8, Try.ntmps8
    go_wp2_with fail
    go_ret
    exact ⟨by rw [HC.out]; rfl, rfl⟩
  · have HC := Lib.hid (show cutS s n = s.extract 0 n by rw [cutS, if_neg h])
    go_enter Try.func8, Try.ntmps8
    go_wp2_with fail
    go_ret
    exact ⟨by rw [HC.out]; rfl, rfl⟩
theorem cutS_size (s : ByteArray) (n : Nat) : (cutS s n).size ≤ n := by
  unfold cutS; split
  · assumption
  · simp; omega
end Go.Proofs.Ytankdkappcimdaa
