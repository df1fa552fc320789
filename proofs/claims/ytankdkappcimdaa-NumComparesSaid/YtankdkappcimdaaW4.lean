/- Walk: num.Text: a number's digits, written into an array from its end. -/
import Derived.Test.YtankdkappcimdaaW3
import Derived.Laws.BytesArg
import Derived.Laws.Rows
set_option linter.unusedSimpArgs false
set_option linter.unusedVariables false
namespace Go.Proofs.Ytankdkappcimdaa
open Go.RowKit
/-- A magnitude's digits. -/
def decN (m : Nat) : List Int := if m < 10 then [48 + (m : Int)] else decN (m / 10) ++ [48 + ((m % 10 : Nat) : Int)]
termination_by m
decreasing_by omega
theorem decN_small (m : Nat) (h : m < 10) : decN m = [48 + (m : Int)] := by rw [decN, if_pos h]
theorem decN_big (m : Nat) (h : ¬ m < 10) : decN m = decN (m / 10) ++ [48 + ((m % 10 : Nat) : Int)] := by rw [decN, if_neg h]
def texOf (n : Int) : List Int := if n < 0 then 45 :: decN n.natAbs else decN n.natAbs
theorem cell_row {w : World} {g : Nat} {cur : Array Value} {e : TypeId} (h : w.heap[g]? = some (.cells cur e (0, 0))) (j : Nat) : w.cell? ⟨g, j, none⟩ = cur[j]? := by simp [World.cell?, h]
theorem frozen_row {w : World} {g : Nat} {cur : Array Value} {e : TypeId} (h : w.heap[g]? = some (.cells cur e (0, 0))) (j : Nat) : w.frozen? ⟨g, j, none⟩ = false := by simp [World.frozen?, h]
/-- A magnitude's digits stand in the array from a on; m is what is left of it. -/
structure TxtAt (w : World) (H M a m : Nat) (wr : World) : Prop where
  ex : ∃ (arr : Array Value) (d : List Int), wr.heap[H]? = some (.cells arr 45 (0, 0)) ∧ arr.size = 20 ∧ d.length = 20 - a ∧ arr.toList.drop a = bv d ∧ (a = 20 → d = []) ∧ decN M = decN m ++ d
  below : Below w.heap.size w wr
/-- A byte is written before those that are there. -/
theorem put_row {w : World} {H p : Nat} {arr : Array Value} {d : List Int} (x : Int) (h : w.heap[H]? = some (.cells arr 45 (0, 0))) (hs : arr.size = 20) (hp : p < 20) (hd : arr.toList.drop (p + 1) = bv d) :
    (w.setCell ⟨H, p, none⟩ (.int .u8 x)).heap[H]? = some (.cells (arr.setIfInBounds p (.int .u8 x)) 45 (0, 0)) ∧ (arr.setIfInBounds p (.int .u8 x)).toList.drop p = bv (x :: d) ∧ (arr.setIfInBounds p (.int .u8 x)).size = 20 := by
  refine ⟨heap_setCell_same w H p arr 45 (.int .u8 x) h, ?_, by simp [hs]⟩
  have hl : (arr.setIfInBounds p (.int .u8 x)).toList = arr.toList.set p (.int .u8 x) := by simp
  rw [hl]
  have hlt : p < (arr.toList.set p (.int .u8 x)).length := by simp; omega
  rw [List.drop_eq_getElem_cons hlt]
  simp only [List.getElem_set_self, bv, List.map_cons]
  rw [List.drop_set_of_lt (by omega), hd]; rfl
theorem str_row {w : World} {H a : Nat} {arr : Array Value} {d : List Int} (h : w.heap[H]? = some (.cells arr 45 (0, 0))) (hd : arr.toList.drop a = bv d) (hdl : d.length = 20 - a) :
    (convert 25 9 (.slice (some ⟨H, a, none⟩) (20 - a) (20 - a))).run Try.prog w = .ok (.string (strOfNums d)) w := by
  refine run_convert_bytes_arg w 25 5 Try.underlying25 Try.underlying5 H a (20 - a) (20 - a) d hdl (fun i hi => ?_) 9 Try.underlying9
  rw [cell_row h]
  have h1 : (arr.toList.drop a)[i]? = some (.int .u8 (d.getD i 0)) := by
    rw [hd]; simp [bv, List.getD_eq_getElem?_getD, List.getElem?_eq_getElem (show i < d.length by omega)]
  rw [List.getElem?_drop] at h1; simpa using h1
theorem cell_some {w : World} {H p : Nat} {arr : Array Value} (h : w.heap[H]? = some (.cells arr 45 (0, 0))) (hs : arr.size = 20) (hp : p < 20) : ∃ u, w.cell? ⟨H, p, none⟩ = some u := ⟨_, by rw [cell_row h]; exact Array.getElem?_eq_getElem (by omega)⟩
theorem slice_arr (W : World) (H q : Nat) (hq : q < 20) : (Instr.sliceAt 45 (.pointer (some ⟨H, 0, none⟩)) (some (.int .i64 (q : Int))) none none).run Try.prog W = .ok (.slice (some ⟨H, q, none⟩) (20 - q) (20 - q)) W := by
  have e1 : Try.prog.arrayLen 45 = 20 := by kernel_rfl
  have e2 : Try.prog.elem 45 = 5 := by kernel_rfl
  rw [run_sliceAt_array_l (P := Try.prog) W 45 ⟨H, 0, none⟩ (by kernel_rfl) .i64 q (by omega) (by rw [e1]; omega)]
  have e3 : (sizeOf (Try.prog.elem 45)).run Try.prog W = .ok 1 W := by kernel_rfl
  rw [e3]
  simp only [Result.andThen, e1, slicedAt]
  rw [if_neg (by simp; omega)]
  simp [Addr.add]; omega
def TxtRel (w : World) (M : Nat) (at_ mv : Value) (wr : World) : Prop := ∃ a m : Nat, at_ = .int .i64 a ∧ mv = .int .u64 m ∧ a ≤ 20 ∧ m * 10 ^ (20 - a) ≤ M ∧ (a = 20 ∨ 0 < m) ∧ TxtAt w w.heap.size M a m wr
theorem pow_bound (j m M : Nat) (hM : M ≤ 9223372036854775808) (hm : j = 0 ∨ 0 < m) (h : m * 10 ^ j ≤ M) : j < 19 := by
  rcases Nat.lt_or_ge j 19 with h' | h'
  · exact h'
  · have h1 : 10 ^ 19 ≤ 10 ^ j := Nat.pow_le_pow_right (by decide) h'
    have h2 : 1 ≤ m := by omega
    have h3 : 1 * 10 ^ j ≤ m * 10 ^ j := Nat.mul_le_mul_right _ h2
    have : (10 : Nat) ^ 19 = 10000000000000000000 := by decide
    omega
theorem u64_neg (n : Int) (h0 : -9223372036854775808 ≤ n) (hn : n < 0) : IntKind.u64.wrap (-IntKind.u64.wrap n) = (n.natAbs : Int) := by
  have h1 : ∀ x, IntKind.u64.wrap x = x % 18446744073709551616 := fun _ => rfl
  rw [h1, h1]; omega
theorem u64_pos (n : Int) (h0 : n ≤ 9223372036854775807) (hn : ¬ n < 0) : IntKind.u64.wrap n = (n.natAbs : Int) := by
  have h1 : ∀ x, IntKind.u64.wrap x = x % 18446744073709551616 := fun _ => rfl
  rw [h1]; omega
theorem txt_start (w : World) (n : Int) (c : Array Value) (hc : c.size = 20) : TxtAt w w.heap.size n.natAbs 20 n.natAbs (w.alloc (.cells c 45)) :=
  ⟨⟨c, [], by simp [World.alloc, -World.alloc_eq], hc, rfl, by rw [List.drop_of_length_le (by simp; omega)]; rfl, fun _ => rfl, by simp⟩, (Below.refl _ _).alloc (Nat.le_refl _) _⟩
theorem pow_next (m p M : Nat) (hp : p < 20) (h : m * 10 ^ (20 - (p + 1)) ≤ M) : m / 10 * 10 ^ (20 - p) ≤ M := by
  rw [show 20 - p = (20 - (p + 1)) + 1 by omega, Nat.pow_succ]
  have h1 : m / 10 * 10 ≤ m := Nat.div_mul_le_self m 10
  calc m / 10 * (10 ^ (20 - (p + 1)) * 10) = m / 10 * 10 * 10 ^ (20 - (p + 1)) := by rw [Nat.mul_assoc, Nat.mul_comm 10]
    _ ≤ m * 10 ^ (20 - (p + 1)) := Nat.mul_le_mul_right _ h1
    _ ≤ M := h
theorem pow_le (m a M : Nat) (h : m * 10 ^ a ≤ M) : m ≤ M := by
  have h1 : 0 < 10 ^ a := Nat.pow_pos (by decide)
  exact Nat.le_trans (Nat.le_mul_of_pos_right m h1) h
set_option maxRecDepth 100000 in
theorem Text_calls (n : Int) (w : World) (h0 : -9223372036854775808 ≤ n) (h1 : n ≤ 9223372036854775807) :
    Calls Try.prog 11 #[.int .i64 n] w fun e w' => e = .returned (.string (strOfNums (texOf n))) ∧ Below w.heap.size w w' := by
  have HM := Lib.hid (show n.natAbs ≤ 9223372036854775808 by omega)
  by_cases hn : n < 0
  · have HT := Lib.hid (show texOf n = 45 :: decN n.natAbs by rw [texOf, if_pos hn])
    have HU := Lib.hid (u64_neg n h0 hn)
    go_enter Try.func11, Try.ntmps11
    go_wp2_with fail
    go_loopw [4, 5] (fun a m wr => TxtRel w n.natAbs a m wr) (fun a _ _ => (intOf a).toNat)
    case atStart => exact ⟨20, n.natAbs, rfl, by rw [HU.out], Nat.le_refl _, by simp, .inl rfl, txt_start w n _ rfl⟩
    case round =>
      obtain ⟨a, m, rfl, rfl, ha, hp, ham, ⟨arr, d, hA, hs, hdl, hd, hd0, hdec⟩, hbel⟩ := hrel
      have hj := pow_bound (20 - a) m _ HM.out (by omega) hp
      obtain ⟨p, rfl⟩ : ∃ p : Nat, a = p + 1 := ⟨a - 1, by omega⟩
      have hmM := Nat.le_trans (pow_le _ _ _ hp) HM.out
      have hput := put_row (48 + (m : Int) % 10) hA hs (by omega) hd
      obtain ⟨u, hcell⟩ := cell_some hA hs (show p < 20 by omega)
      have hfr := frozen_row hA p
      obtain ⟨q, rfl⟩ : ∃ q : Nat, p = q + 1 := ⟨p - 1, by omega⟩
      have hq : q < 19 := by omega
      have HB := Lib.hid (hbel.setCell (p := ⟨w.heap.size, q + 1, none⟩) (Nat.le_refl _) (.int .u8 (48 + (m : Int) % 10)))
      have HR := Lib.hid (pow_next m (q + 1) _ (by omega) hp)
      have HL := Lib.hid (show ((48 + (m : Int) % 10) :: d).length = 20 - (q + 1) by simp; omega)
      clear hA hd hd0 hbel hp ham hj hs
      by_cases hm10 : m < 10
      · have HD := Lib.hid (show decN n.natAbs = (48 + (m : Int) % 10) :: d by rw [hdec, decN_small m hm10]; simp; omega)
        clear hdec hdl
        have hput2 := put_row 45 hput.1 hput.2.2 (show q < 20 by omega) hput.2.1
        obtain ⟨u2, hcell2⟩ := cell_some hput.1 hput.2.2 (show q < 20 by omega)
        have hfr2 := frozen_row hput.1 q
        have hsl := slice_arr ((wr.setCell ⟨w.heap.size, q + 1, none⟩ (.int .u8 (48 + (m : Int) % 10))).setCell ⟨w.heap.size, q, none⟩ (.int .u8 45)) w.heap.size q (by omega)
        have hst := str_row hput2.1 hput2.2.1 (by have := HL.out; simp at this ⊢; omega)
        have HB2 := Lib.hid (HB.out.setCell (p := ⟨w.heap.size, q, none⟩) (Nat.le_refl _) (.int .u8 45))
        clear hput hput2
        go_wp2_with fail
        go_ret
        exact ⟨by rw [HT.out, HD.out]; rfl, HB2.out⟩
      · have HD := Lib.hid (show decN n.natAbs = decN (m / 10) ++ ((48 + (m : Int) % 10) :: d) by rw [hdec, decN_big m hm10]; simp)
        have HP := Lib.hid hput
        clear hdec hdl hput
        go_wp2_with fail
        go_roundw
        · exact ⟨q + 1, m / 10, by go_num, by go_num, by omega, HR.out, .inr (by omega), ⟨_, _, HP.out.1, HP.out.2.2, HL.out, HP.out.2.1, fun h => by omega, HD.out⟩, HB.out⟩
        · simp [intOf]; omega
  · have HT := Lib.hid (show texOf n = decN n.natAbs by rw [texOf, if_neg hn])
    have HU := Lib.hid (u64_pos n h1 hn)
    go_enter Try.func11, Try.ntmps11
    go_wp2_with fail
    go_loopw [4, 5] (fun a m wr => TxtRel w n.natAbs a m wr) (fun a _ _ => (intOf a).toNat)
    case atStart => exact ⟨20, n.natAbs, rfl, congrArg _ (by omega), Nat.le_refl _, by simp, .inl rfl, txt_start w n _ rfl⟩
    case round =>
      obtain ⟨a, m, rfl, rfl, ha, hp, ham, ⟨arr, d, hA, hs, hdl, hd, hd0, hdec⟩, hbel⟩ := hrel
      have hj := pow_bound (20 - a) m _ HM.out (by omega) hp
      obtain ⟨p, rfl⟩ : ∃ p : Nat, a = p + 1 := ⟨a - 1, by omega⟩
      have hmM := Nat.le_trans (pow_le _ _ _ hp) HM.out
      have hput := put_row (48 + (m : Int) % 10) hA hs (by omega) hd
      obtain ⟨u, hcell⟩ := cell_some hA hs (show p < 20 by omega)
      have hfr := frozen_row hA p
      obtain ⟨q, rfl⟩ : ∃ q : Nat, p = q + 1 := ⟨p - 1, by omega⟩
      have hq : q < 19 := by omega
      have HB := Lib.hid (hbel.setCell (p := ⟨w.heap.size, q + 1, none⟩) (Nat.le_refl _) (.int .u8 (48 + (m : Int) % 10)))
      have HR := Lib.hid (pow_next m (q + 1) _ (by omega) hp)
      have HL := Lib.hid (show ((48 + (m : Int) % 10) :: d).length = 20 - (q + 1) by simp; omega)
      clear hA hd hd0 hbel hp ham hj hs
      by_cases hm10 : m < 10
      · have HD := Lib.hid (show decN n.natAbs = (48 + (m : Int) % 10) :: d by rw [hdec, decN_small m hm10]; simp; omega)
        clear hdec hdl
        have hsl := slice_arr (wr.setCell ⟨w.heap.size, q + 1, none⟩ (.int .u8 (48 + (m : Int) % 10))) w.heap.size (q + 1) (by omega)
        rw [show (((q + 1 : Nat) : Int)) = (q : Int) + 1 from rfl] at hsl
        have hst := str_row hput.1 hput.2.1 HL.out
        rw [show 20 - (q + 1) = 19 - q by omega] at hst
        clear hput
        go_wp2_with fail
        go_ret
        exact ⟨by rw [HT.out, HD.out]; rfl, HB.out⟩
      · have HD := Lib.hid (show decN n.natAbs = decN (m / 10) ++ ((48 + (m : Int) % 10) :: d) by rw [hdec, decN_big m hm10]; simp)
        have HP := Lib.hid hput
        clear hdec hdl hput
        go_wp2_with fail
        go_roundw
        · exact ⟨q + 1, m / 10, by go_num, by go_num, by omega, HR.out, .inr (by omega), ⟨_, _, HP.out.1, HP.out.2.2, HL.out, HP.out.2.1, fun h => by omega, HD.out⟩, HB.out⟩
        · simp [intOf]; omega
end Go.Proofs.Ytankdkappcimdaa
