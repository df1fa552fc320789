/- Walks: num.Digits, and the document's own Digit and Digits. -/
import Derived.Test.YtankdkappcimdaaW4
set_option linter.unusedSimpArgs false
set_option linter.unusedVariables false
namespace Go.Proofs.Ytankdkappcimdaa
open Go.RowKit
/-- A string's bytes. -/
def bsOf (s : ByteArray) : List Int := s.data.toList.map fun b => (b.toNat : Int)
theorem bsOf_length (s : ByteArray) : (bsOf s).length = s.size := by simp [bsOf]
theorem bsOf_ok (s : ByteArray) : BytesOk (bsOf s) := by
  intro x hx
  simp only [bsOf, List.mem_map] at hx
  obtain ⟨b, -, rfl⟩ := hx
  have := b.toNat_lt
  omega
theorem bsOf_at (s : ByteArray) (j : Nat) : ∀ h : j < s.size, ((s[j]'h).toNat : Int) = (bsOf s).getD j 0 := by
  intro h
  have h' : j < s.data.toList.length := by simpa using h
  simp only [bsOf, List.getD_eq_getElem?_getD, List.getElem?_map, List.getElem?_eq_getElem h', Option.map_some, Option.getD_some]
  rfl
theorem digit_ref_calls (c : Int) (w : World) : Calls Try.prog 21 #[.int .u8 c] w fun e w' => e = .returned (.bool (isDig c)) ∧ w = w' := by
  by_cases h1 : 48 ≤ c
  · by_cases h2 : c ≤ 57
    · rw [(isDig_iff c).mpr ⟨h1, h2⟩]
      go_enter Try.func21, Try.ntmps21
      go_wp2
      go_ret
      exact ⟨by simp [h1, h2], rfl⟩
    · rw [show isDig c = false by simp [isDig, h2]]
      go_enter Try.func21, Try.ntmps21
      go_wp2
      go_ret
      exact ⟨by simp [h1, h2], rfl⟩
  · rw [show isDig c = false by simp [isDig, h1]]
    go_enter Try.func21, Try.ntmps21
    go_wp2
    go_ret
    exact ⟨by simp [h1], rfl⟩
def clamp (n : Int) : Int := if n < 0 then 0 else if 2147483647 < n then 2147483647 else n
def digRun (most : Int) : List Int → Int → Nat → Int × Nat
  | [], n, k => (n, k)
  | c :: r, n, k => if isDig c then digRun most r (if most < n * 10 + (c - 48) then most else n * 10 + (c - 48)) (k + 1) else (n, k)
theorem digRun_in (most : Int) (l : List Int) (j : Nat) (n : Int) (h : j < l.length) : digRun most (l.drop j) n j = if isDig (l.getD j 0) then digRun most (l.drop (j + 1)) (if most < n * 10 + (l.getD j 0 - 48) then most else n * 10 + (l.getD j 0 - 48)) (j + 1) else (n, j) := by
  rw [List.drop_eq_getElem_cons h]
  simp [digRun, List.getD_eq_getElem?_getD, List.getElem?_eq_getElem h]
theorem digRun_end (most : Int) (l : List Int) (n : Int) : digRun most (l.drop l.length) n l.length = (n, l.length) := by
  rw [List.drop_of_length_le (Nat.le_refl _)]; rfl
def DigRel (most : Int) (l : List Int) (w : World) (a i : Value) (wr : World) : Prop := ∃ (j : Nat) (n : Int), i = .int .i64 j ∧ a = .int .i64 n ∧ j ≤ l.length ∧ 0 ≤ n ∧ n ≤ most ∧ digRun most l 0 0 = digRun most (l.drop j) n j ∧ w = wr
theorem Digits_calls (s : ByteArray) (most : Int) (w : World) (hs : s.size ≤ 1000) (h0 : -9223372036854775808 ≤ most) (h1 : most ≤ 9223372036854775807) :
    Calls Try.prog 14 #[.string s, .int .i64 most] w fun e w' => e = .returned (.tuple #[.int .i64 (digRun (clamp most) (bsOf s) 0 0).1, .int .i64 (digRun (clamp most) (bsOf s) 0 0).2]) ∧ w = w' := by
  by_cases m0 : most < 0
  · skip
    have HC := Lib.hid (show clamp most = 0 by rw [clamp, if_pos m0])
    go_enter Try.func14, Try.ntmps14
    go_wp2_with fail
    go_loopw [6, 15] (fun a i wr => DigRel 0 (bsOf s) w a i wr) (fun _ i _ => s.size - (intOf i).toNat)
    case atStart => exact ⟨0, 0, rfl, rfl, Nat.zero_le _, Int.le_refl _, by omega, rfl, rfl⟩
    case round =>
      obtain ⟨j, n, rfl, rfl, hj, hn0, hnm, he, rfl⟩ := hrel
      rw [bsOf_length] at hj
      have HE := Lib.hid he
      clear he
      by_cases hjs : j < s.size
      · have HI := Lib.hid (digRun_in 0 (bsOf s) j n (by rw [bsOf_length]; exact hjs))
        have hx := bsOf_at s j
        have hr := bsOf_ok s _ (getD_mem (bsOf s) j (by rw [bsOf_length]; exact hjs))
        obtain ⟨x, hxe⟩ : ∃ x, (bsOf s).getD j 0 = x := ⟨_, rfl⟩
        rw [hxe] at hx HI hr
        have hr0 := hr.1
        have hr1 := hr.2
        have HD := Lib.hid (digit_calls x w hr0 hr1)
        clear hxe hr
        have hq := eq_true hjs
        by_cases hdx : isDig x = true
        · have hd := (isDig_iff x).mp hdx
          have hd0 := hd.1
          have hd1 := hd.2
          rw [if_pos hdx] at HI
          rw [if_pos hdx, hdx] at HD
          clear hd hdx
          by_cases hov : 0 < n * 10 + (x - 48)
          · rw [if_pos hov] at HI
            have hov2 : ¬ n * 10 + (x - 48) ≤ 0 := by omega
            go_wp2_with (go_at_call 24; refine HD.out.mono ?_; rintro e w' ⟨rfl, rfl⟩)
            go_roundw
            · exact ⟨j + 1, 0, by go_num, by go_num, by rw [bsOf_length]; omega, by omega, by omega, by rw [HE.out, HI.out], rfl⟩
            · simp [intOf]; omega
          · rw [if_neg hov] at HI
            have hov2 : n * 10 + (x - 48) ≤ 0 := by omega
            go_wp2_with (go_at_call 24; refine HD.out.mono ?_; rintro e w' ⟨rfl, rfl⟩)
            go_roundw
            · exact ⟨j + 1, n * 10 + (x - 48), by go_num, by go_num, by rw [bsOf_length]; omega, by omega, by omega, by rw [HE.out, HI.out], rfl⟩
            · simp [intOf]; omega
        · rw [if_neg hdx] at HI
          rw [if_neg hdx, Bool.eq_false_iff.mpr hdx] at HD
          clear hdx
          go_wp2_with (go_at_call 24; refine HD.out.mono ?_; rintro e w' ⟨rfl, rfl⟩)
          go_ret2
          exact ⟨by rw [HC.out, HE.out, HI.out]; rfl, rfl⟩
      · obtain rfl : j = s.size := by omega
        have HI := Lib.hid (digRun_end 0 (bsOf s) n)
        rw [bsOf_length] at HI
        go_wp2_with fail
        go_ret2
        exact ⟨by rw [HC.out, HE.out, HI.out]; rfl, rfl⟩
  by_cases m1 : 2147483647 < most
  · have m2 : ¬ most ≤ 2147483647 := by omega
    have HC := Lib.hid (show clamp most = 2147483647 by rw [clamp, if_neg m0, if_pos m1])
    go_enter Try.func14, Try.ntmps14
    go_wp2_with fail
    go_loopw [6, 15] (fun a i wr => DigRel 2147483647 (bsOf s) w a i wr) (fun _ i _ => s.size - (intOf i).toNat)
    case atStart => exact ⟨0, 0, rfl, rfl, Nat.zero_le _, Int.le_refl _, by omega, rfl, rfl⟩
    case round =>
      obtain ⟨j, n, rfl, rfl, hj, hn0, hnm, he, rfl⟩ := hrel
      rw [bsOf_length] at hj
      have HE := Lib.hid he
      clear he
      by_cases hjs : j < s.size
      · have HI := Lib.hid (digRun_in 2147483647 (bsOf s) j n (by rw [bsOf_length]; exact hjs))
        have hx := bsOf_at s j
        have hr := bsOf_ok s _ (getD_mem (bsOf s) j (by rw [bsOf_length]; exact hjs))
        obtain ⟨x, hxe⟩ : ∃ x, (bsOf s).getD j 0 = x := ⟨_, rfl⟩
        rw [hxe] at hx HI hr
        have hr0 := hr.1
        have hr1 := hr.2
        have HD := Lib.hid (digit_calls x w hr0 hr1)
        clear hxe hr
        have hq := eq_true hjs
        by_cases hdx : isDig x = true
        · have hd := (isDig_iff x).mp hdx
          have hd0 := hd.1
          have hd1 := hd.2
          rw [if_pos hdx] at HI
          rw [if_pos hdx, hdx] at HD
          clear hd hdx
          by_cases hov : 2147483647 < n * 10 + (x - 48)
          · rw [if_pos hov] at HI
            have hov2 : ¬ n * 10 + (x - 48) ≤ 2147483647 := by omega
            go_wp2_with (go_at_call 24; refine HD.out.mono ?_; rintro e w' ⟨rfl, rfl⟩)
            go_roundw
            · exact ⟨j + 1, 2147483647, by go_num, by go_num, by rw [bsOf_length]; omega, by omega, by omega, by rw [HE.out, HI.out], rfl⟩
            · simp [intOf]; omega
          · rw [if_neg hov] at HI
            have hov2 : n * 10 + (x - 48) ≤ 2147483647 := by omega
            go_wp2_with (go_at_call 24; refine HD.out.mono ?_; rintro e w' ⟨rfl, rfl⟩)
            go_roundw
            · exact ⟨j + 1, n * 10 + (x - 48), by go_num, by go_num, by rw [bsOf_length]; omega, by omega, by omega, by rw [HE.out, HI.out], rfl⟩
            · simp [intOf]; omega
        · rw [if_neg hdx] at HI
          rw [if_neg hdx, Bool.eq_false_iff.mpr hdx] at HD
          clear hdx
          go_wp2_with (go_at_call 24; refine HD.out.mono ?_; rintro e w' ⟨rfl, rfl⟩)
          go_ret2
          exact ⟨by rw [HC.out, HE.out, HI.out]; rfl, rfl⟩
      · obtain rfl : j = s.size := by omega
        have HI := Lib.hid (digRun_end 2147483647 (bsOf s) n)
        rw [bsOf_length] at HI
        go_wp2_with fail
        go_ret2
        exact ⟨by rw [HC.out, HE.out, HI.out]; rfl, rfl⟩
  · have m2 : most ≤ 2147483647 := by omega
    have HC := Lib.hid (show clamp most = most by rw [clamp, if_neg m0, if_neg m1])
    go_enter Try.func14, Try.ntmps14
    go_wp2_with fail
    go_loopw [6, 15] (fun a i wr => DigRel most (bsOf s) w a i wr) (fun _ i _ => s.size - (intOf i).toNat)
    case atStart => exact ⟨0, 0, rfl, rfl, Nat.zero_le _, Int.le_refl _, by omega, rfl, rfl⟩
    case round =>
      obtain ⟨j, n, rfl, rfl, hj, hn0, hnm, he, rfl⟩ := hrel
      rw [bsOf_length] at hj
      have HE := Lib.hid he
      clear he
      by_cases hjs : j < s.size
      · have HI := Lib.hid (digRun_in most (bsOf s) j n (by rw [bsOf_length]; exact hjs))
        have hx := bsOf_at s j
        have hr := bsOf_ok s _ (getD_mem (bsOf s) j (by rw [bsOf_length]; exact hjs))
        obtain ⟨x, hxe⟩ : ∃ x, (bsOf s).getD j 0 = x := ⟨_, rfl⟩
        rw [hxe] at hx HI hr
        have hr0 := hr.1
        have hr1 := hr.2
        have HD := Lib.hid (digit_calls x w hr0 hr1)
        clear hxe hr
        have hq := eq_true hjs
        by_cases hdx : isDig x = true
        · have hd := (isDig_iff x).mp hdx
          have hd0 := hd.1
          have hd1 := hd.2
          rw [if_pos hdx] at HI
          rw [if_pos hdx, hdx] at HD
          clear hd hdx
          by_cases hov : most < n * 10 + (x - 48)
          · rw [if_pos hov] at HI
            have hov2 : ¬ n * 10 + (x - 48) ≤ most := by omega
            go_wp2_with (go_at_call 24; refine HD.out.mono ?_; rintro e w' ⟨rfl, rfl⟩)
            go_roundw
            · exact ⟨j + 1, most, by go_num, by go_num, by rw [bsOf_length]; omega, by omega, by omega, by rw [HE.out, HI.out], rfl⟩
            · simp [intOf]; omega
          · rw [if_neg hov] at HI
            have hov2 : n * 10 + (x - 48) ≤ most := by omega
            go_wp2_with (go_at_call 24; refine HD.out.mono ?_; rintro e w' ⟨rfl, rfl⟩)
            go_roundw
            · exact ⟨j + 1, n * 10 + (x - 48), by go_num, by go_num, by rw [bsOf_length]; omega, by omega, by omega, by rw [HE.out, HI.out], rfl⟩
            · simp [intOf]; omega
        · rw [if_neg hdx] at HI
          rw [if_neg hdx, Bool.eq_false_iff.mpr hdx] at HD
          clear hdx
          go_wp2_with (go_at_call 24; refine HD.out.mono ?_; rintro e w' ⟨rfl, rfl⟩)
          go_ret2
          exact ⟨by rw [HC.out, HE.out, HI.out]; rfl, rfl⟩
      · obtain rfl : j = s.size := by omega
        have HI := Lib.hid (digRun_end most (bsOf s) n)
        rw [bsOf_length] at HI
        go_wp2_with fail
        go_ret2
        exact ⟨by rw [HC.out, HE.out, HI.out]; rfl, rfl⟩
theorem DigitsR_calls (s : ByteArray) (most : Int) (w : World) (hs : s.size ≤ 1000) (h0 : -9223372036854775808 ≤ most) (h1 : most ≤ 9223372036854775807) :
    Calls Try.prog 15 #[.string s, .int .i64 most] w fun e w' => e = .returned (.tuple #[.int .i64 (digRun (clamp most) (bsOf s) 0 0).1, .int .i64 (digRun (clamp most) (bsOf s) 0 0).2]) ∧ w = w' := by
  by_cases m0 : most < 0
  · skip
    have HC := Lib.hid (show clamp most = 0 by rw [clamp, if_pos m0])
    go_enter Try.func15, Try.ntmps15
    go_wp2_with fail
    go_loopw [6, 7] (fun a i wr => DigRel 0 (bsOf s) w a i wr) (fun _ i _ => s.size - (intOf i).toNat)
    case atStart => exact ⟨0, 0, rfl, rfl, Nat.zero_le _, Int.le_refl _, by omega, rfl, rfl⟩
    case round =>
      obtain ⟨j, n, rfl, rfl, hj, hn0, hnm, he, rfl⟩ := hrel
      rw [bsOf_length] at hj
      have HE := Lib.hid he
      clear he
      by_cases hjs : j < s.size
      · have HI := Lib.hid (digRun_in 0 (bsOf s) j n (by rw [bsOf_length]; exact hjs))
        have hx := bsOf_at s j
        have hr := bsOf_ok s _ (getD_mem (bsOf s) j (by rw [bsOf_length]; exact hjs))
        obtain ⟨x, hxe⟩ : ∃ x, (bsOf s).getD j 0 = x := ⟨_, rfl⟩
        rw [hxe] at hx HI hr
        have hr0 := hr.1
        have hr1 := hr.2
        have HD := Lib.hid (digit_ref_calls x w)
        clear hxe hr
        have hq := eq_true hjs
        by_cases hdx : isDig x = true
        · have hd := (isDig_iff x).mp hdx
          have hd0 := hd.1
          have hd1 := hd.2
          rw [if_pos hdx] at HI
          rw [hdx] at HD
          clear hd hdx
          by_cases hov : 0 < n * 10 + (x - 48)
          · rw [if_pos hov] at HI
            have hov2 : n * 10 + x - 48 > 0 := by omega
            go_wp2_with (go_at_call 21; refine HD.out.mono ?_; rintro e w' ⟨rfl, rfl⟩)
            go_roundw
            · exact ⟨j + 1, 0, by go_num, by go_num, by rw [bsOf_length]; omega, by omega, by omega, by rw [HE.out, HI.out], rfl⟩
            · simp [intOf]; omega
          · rw [if_neg hov] at HI
            have hov2 : ¬ n * 10 + x - 48 > 0 := by omega
            go_wp2_with (go_at_call 21; refine HD.out.mono ?_; rintro e w' ⟨rfl, rfl⟩)
            go_roundw
            · exact ⟨j + 1, n * 10 + (x - 48), by go_num, by go_num, by rw [bsOf_length]; omega, by omega, by omega, by rw [HE.out, HI.out], rfl⟩
            · simp [intOf]; omega
        · rw [if_neg hdx] at HI
          rw [Bool.eq_false_iff.mpr hdx] at HD
          clear hdx
          go_wp2_with (go_at_call 21; refine HD.out.mono ?_; rintro e w' ⟨rfl, rfl⟩)
          go_ret2
          exact ⟨by rw [HC.out, HE.out, HI.out]; rfl, rfl⟩
      · obtain rfl : j = s.size := by omega
        have HI := Lib.hid (digRun_end 0 (bsOf s) n)
        rw [bsOf_length] at HI
        go_wp2_with fail
        go_ret2
        exact ⟨by rw [HC.out, HE.out, HI.out]; rfl, rfl⟩
  by_cases m1 : 2147483647 < most
  · have m2 : ¬ most ≤ 2147483647 := by omega
    have HC := Lib.hid (show clamp most = 2147483647 by rw [clamp, if_neg m0, if_pos m1])
    go_enter Try.func15, Try.ntmps15
    go_wp2_with fail
    go_loopw [6, 7] (fun a i wr => DigRel 2147483647 (bsOf s) w a i wr) (fun _ i _ => s.size - (intOf i).toNat)
    case atStart => exact ⟨0, 0, rfl, rfl, Nat.zero_le _, Int.le_refl _, by omega, rfl, rfl⟩
    case round =>
      obtain ⟨j, n, rfl, rfl, hj, hn0, hnm, he, rfl⟩ := hrel
      rw [bsOf_length] at hj
      have HE := Lib.hid he
      clear he
      by_cases hjs : j < s.size
      · have HI := Lib.hid (digRun_in 2147483647 (bsOf s) j n (by rw [bsOf_length]; exact hjs))
        have hx := bsOf_at s j
        have hr := bsOf_ok s _ (getD_mem (bsOf s) j (by rw [bsOf_length]; exact hjs))
        obtain ⟨x, hxe⟩ : ∃ x, (bsOf s).getD j 0 = x := ⟨_, rfl⟩
        rw [hxe] at hx HI hr
        have hr0 := hr.1
        have hr1 := hr.2
        have HD := Lib.hid (digit_ref_calls x w)
        clear hxe hr
        have hq := eq_true hjs
        by_cases hdx : isDig x = true
        · have hd := (isDig_iff x).mp hdx
          have hd0 := hd.1
          have hd1 := hd.2
          rw [if_pos hdx] at HI
          rw [hdx] at HD
          clear hd hdx
          by_cases hov : 2147483647 < n * 10 + (x - 48)
          · rw [if_pos hov] at HI
            have hov2 : n * 10 + x - 48 > 2147483647 := by omega
            go_wp2_with (go_at_call 21; refine HD.out.mono ?_; rintro e w' ⟨rfl, rfl⟩)
            go_roundw
            · exact ⟨j + 1, 2147483647, by go_num, by go_num, by rw [bsOf_length]; omega, by omega, by omega, by rw [HE.out, HI.out], rfl⟩
            · simp [intOf]; omega
          · rw [if_neg hov] at HI
            have hov2 : ¬ n * 10 + x - 48 > 2147483647 := by omega
            go_wp2_with (go_at_call 21; refine HD.out.mono ?_; rintro e w' ⟨rfl, rfl⟩)
            go_roundw
            · exact ⟨j + 1, n * 10 + (x - 48), by go_num, by go_num, by rw [bsOf_length]; omega, by omega, by omega, by rw [HE.out, HI.out], rfl⟩
            · simp [intOf]; omega
        · rw [if_neg hdx] at HI
          rw [Bool.eq_false_iff.mpr hdx] at HD
          clear hdx
          go_wp2_with (go_at_call 21; refine HD.out.mono ?_; rintro e w' ⟨rfl, rfl⟩)
          go_ret2
          exact ⟨by rw [HC.out, HE.out, HI.out]; rfl, rfl⟩
      · obtain rfl : j = s.size := by omega
        have HI := Lib.hid (digRun_end 2147483647 (bsOf s) n)
        rw [bsOf_length] at HI
        go_wp2_with fail
        go_ret2
        exact ⟨by rw [HC.out, HE.out, HI.out]; rfl, rfl⟩
  · have m2 : most ≤ 2147483647 := by omega
    have HC := Lib.hid (show clamp most = most by rw [clamp, if_neg m0, if_neg m1])
    go_enter Try.func15, Try.ntmps15
    go_wp2_with fail
    go_loopw [6, 7] (fun a i wr => DigRel most (bsOf s) w a i wr) (fun _ i _ => s.size - (intOf i).toNat)
    case atStart => exact ⟨0, 0, rfl, rfl, Nat.zero_le _, Int.le_refl _, by omega, rfl, rfl⟩
    case round =>
      obtain ⟨j, n, rfl, rfl, hj, hn0, hnm, he, rfl⟩ := hrel
      rw [bsOf_length] at hj
      have HE := Lib.hid he
      clear he
      by_cases hjs : j < s.size
      · have HI := Lib.hid (digRun_in most (bsOf s) j n (by rw [bsOf_length]; exact hjs))
        have hx := bsOf_at s j
        have hr := bsOf_ok s _ (getD_mem (bsOf s) j (by rw [bsOf_length]; exact hjs))
        obtain ⟨x, hxe⟩ : ∃ x, (bsOf s).getD j 0 = x := ⟨_, rfl⟩
        rw [hxe] at hx HI hr
        have hr0 := hr.1
        have hr1 := hr.2
        have HD := Lib.hid (digit_ref_calls x w)
        clear hxe hr
        have hq := eq_true hjs
        by_cases hdx : isDig x = true
        · have hd := (isDig_iff x).mp hdx
          have hd0 := hd.1
          have hd1 := hd.2
          rw [if_pos hdx] at HI
          rw [hdx] at HD
          clear hd hdx
          by_cases hov : most < n * 10 + (x - 48)
          · rw [if_pos hov] at HI
            have hov2 : n * 10 + x - 48 > most := by omega
            go_wp2_with (go_at_call 21; refine HD.out.mono ?_; rintro e w' ⟨rfl, rfl⟩)
            go_roundw
            · exact ⟨j + 1, most, by go_num, by go_num, by rw [bsOf_length]; omega, by omega, by omega, by rw [HE.out, HI.out], rfl⟩
            · simp [intOf]; omega
          · rw [if_neg hov] at HI
            have hov2 : ¬ n * 10 + x - 48 > most := by omega
            go_wp2_with (go_at_call 21; refine HD.out.mono ?_; rintro e w' ⟨rfl, rfl⟩)
            go_roundw
            · exact ⟨j + 1, n * 10 + (x - 48), by go_num, by go_num, by rw [bsOf_length]; omega, by omega, by omega, by rw [HE.out, HI.out], rfl⟩
            · simp [intOf]; omega
        · rw [if_neg hdx] at HI
          rw [Bool.eq_false_iff.mpr hdx] at HD
          clear hdx
          go_wp2_with (go_at_call 21; refine HD.out.mono ?_; rintro e w' ⟨rfl, rfl⟩)
          go_ret2
          exact ⟨by rw [HC.out, HE.out, HI.out]; rfl, rfl⟩
      · obtain rfl : j = s.size := by omega
        have HI := Lib.hid (digRun_end most (bsOf s) n)
        rw [bsOf_length] at HI
        go_wp2_with fail
        go_ret2
        exact ⟨by rw [HC.out, HE.out, HI.out]; rfl, rfl⟩
end Go.Proofs.Ytankdkappcimdaa
