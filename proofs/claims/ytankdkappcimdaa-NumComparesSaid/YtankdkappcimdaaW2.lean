/- Walks: cmp.Compare, bytewise, Compare, slices.Clone, Least. -/
import Derived.Test.YtankdkappcimdaaW1
import Derived.Deep.AppendLies
import Derived.Deep.RegionLaw
import Derived.ArgAppend
import Derived.WalkMore
set_option linter.unusedSimpArgs false
set_option linter.unusedVariables false
namespace Go.Proofs.Ytankdkappcimdaa
open Go.RowKit
def cmpI (a b : Int) : Int := if a < b then -1 else if b < a then 1 else 0
/-- How texts stand byte by byte. -/
def bw : List Int → List Int → Int
  | [], [] => 0
  | [], _ :: _ => -1
  | _ :: _, [] => 1
  | x :: r, y :: s => if x = y then bw r s else cmpI x y
def cmpOf (a b : List Int) : Int :=
  if (parseOf a).2 = true ∧ (parseOf b).2 = true then cmpI (parseOf a).1 (parseOf b).1
  else if (parseOf a).2 = true then -1 else if (parseOf b).2 = true then 1 else bw a b
theorem isNaN_calls (c : Int) (w : World) : Calls Try.prog 28 #[.int .i64 c] w fun e w' => e = .returned (.bool false) ∧ w = w' := by
  go_enter Try.func28, Try.ntmps28
  go_wp2
  go_ret
  exact ⟨by simp, rfl⟩
theorem isNaN8_calls (c : Int) (w : World) : Calls Try.prog 30 #[.int .u8 c] w fun e w' => e = .returned (.bool false) ∧ w = w' := by
  go_enter Try.func30, Try.ntmps30
  go_wp2
  go_ret
  exact ⟨by simp, rfl⟩
theorem cmpI_calls (a b : Int) (w : World) : Calls Try.prog 25 #[.int .i64 a, .int .i64 b] w fun e w' => e = .returned (.int .i64 (cmpI a b)) ∧ w = w' := by
  unfold cmpI
  by_cases h1 : a < b
  · rw [if_pos h1]
    go_enter Try.func25, Try.ntmps25
    go_wp2_with (go_at_call 28; refine (isNaN_calls _ _).mono ?_; rintro e w' ⟨rfl, rfl⟩)
    go_ret
    exact ⟨rfl, rfl⟩
  · by_cases h2 : b < a
    · rw [if_neg h1, if_pos h2]
      go_enter Try.func25, Try.ntmps25
      go_wp2_with (go_at_call 28; refine (isNaN_calls _ _).mono ?_; rintro e w' ⟨rfl, rfl⟩)
      go_ret
      exact ⟨rfl, rfl⟩
    · rw [if_neg h1, if_neg h2]
      go_enter Try.func25, Try.ntmps25
      go_wp2_with (go_at_call 28; refine (isNaN_calls _ _).mono ?_; rintro e w' ⟨rfl, rfl⟩)
      go_ret
      exact ⟨rfl, rfl⟩
theorem cmp8_calls (a b : Int) (w : World) : Calls Try.prog 29 #[.int .u8 a, .int .u8 b] w fun e w' => e = .returned (.int .i64 (cmpI a b)) ∧ w = w' := by
  unfold cmpI
  by_cases h1 : a < b
  · rw [if_pos h1]
    go_enter Try.func29, Try.ntmps29
    go_wp2_with (go_at_call 30; refine (isNaN8_calls _ _).mono ?_; rintro e w' ⟨rfl, rfl⟩)
    go_ret
    exact ⟨rfl, rfl⟩
  · by_cases h2 : b < a
    · rw [if_neg h1, if_pos h2]
      go_enter Try.func29, Try.ntmps29
      go_wp2_with (go_at_call 30; refine (isNaN8_calls _ _).mono ?_; rintro e w' ⟨rfl, rfl⟩)
      go_ret
      exact ⟨rfl, rfl⟩
    · rw [if_neg h1, if_neg h2]
      go_enter Try.func29, Try.ntmps29
      go_wp2_with (go_at_call 30; refine (isNaN8_calls _ _).mono ?_; rintro e w' ⟨rfl, rfl⟩)
      go_ret
      exact ⟨rfl, rfl⟩
/-- What is left of both when the first j bytes agree. -/
theorem bw_drop (l m : List Int) (j : Nat) (hj : j < l.length) (hm : j < m.length) : bw (l.drop j) (m.drop j) = if l.getD j 0 = m.getD j 0 then bw (l.drop (j + 1)) (m.drop (j + 1)) else cmpI (l.getD j 0) (m.getD j 0) := by
  rw [List.drop_eq_getElem_cons hj, List.drop_eq_getElem_cons hm]
  simp [bw, List.getD_eq_getElem?_getD, List.getElem?_eq_getElem hj, List.getElem?_eq_getElem hm]
theorem bw_end1 (l m : List Int) (j : Nat) (hj : j < l.length) (hm : m.length ≤ j) : bw (l.drop j) (m.drop j) = 1 := by
  rw [List.drop_eq_getElem_cons hj, List.drop_of_length_le hm]; rfl
theorem bw_end2 (l m : List Int) (j : Nat) (hj : l.length ≤ j) (hm : j < m.length) : bw (l.drop j) (m.drop j) = -1 := by
  rw [List.drop_eq_getElem_cons hm, List.drop_of_length_le hj]; rfl
theorem bw_end3 (l m : List Int) (j : Nat) (hj : l.length ≤ j) (hm : m.length ≤ j) : bw (l.drop j) (m.drop j) = 0 := by
  rw [List.drop_of_length_le hm, List.drop_of_length_le hj]; rfl
def BwRel (w : World) (l m : List Int) (c i : Value) (wr : World) : Prop := ∃ j : Nat, i = .int .i64 j ∧ j ≤ l.length ∧ j ≤ m.length ∧ c = .int .i64 0 ∧ bw l m = bw (l.drop j) (m.drop j) ∧ w = wr
theorem bytewise_calls (w : World) (v u : Value) (l m : List Int) (h : BytesAt w v l) (h' : BytesAt w u m) : Calls Try.prog 26 #[v, u] w fun e w' => e = .returned (.int .i64 (bw l m)) ∧ w = w' := by
  obtain ⟨a, c, rfl, h1, h2, h⟩ := h
  obtain ⟨a', c', rfl, h1', h2', h'⟩ := h'
  have H := Lib.hid h
  have H' := Lib.hid h'
  unfold maxLen at h2 h2'
  obtain ⟨n, hn⟩ : ∃ n, l.length = n := ⟨_, rfl⟩
  obtain ⟨k, hk⟩ : ∃ k, m.length = k := ⟨_, rfl⟩
  have HN := Lib.hid hn
  have HK := Lib.hid hk
  rw [hn] at h1 ⊢
  rw [hk] at h1' ⊢
  clear h hn h' hk
  have h0 : BwRel w l m (.int .i64 0) (.int .i64 0) w := ⟨0, rfl, Nat.zero_le _, Nat.zero_le _, rfl, rfl, rfl⟩
  have H0 := Lib.hid h0
  clear h0
  go_enter Try.func26, Try.ntmps26
  go_wp2_with fail
  go_step3
  go_wp2
  go_step3
  go_wp2
  go_loopw [5, 10] (fun c i wr => BwRel w l m c i wr) (fun _ i _ => n - (intOf i).toNat)
  case atStart => exact H0.out
  case round =>
    obtain ⟨j, rfl, hj, hj', rfl, he, rfl⟩ := hrel
    rw [HN.out] at hj
    rw [HK.out] at hj'
    have HE := Lib.hid he
    clear he
    by_cases hjn : j < n
    · obtain ⟨b, off, rfl, hc⟩ := H.out j (by rw [HN.out]; exact hjn)
      by_cases hjk : j < k
      · obtain ⟨b', off', rfl, hc'⟩ := H'.out j (by rw [HK.out]; exact hjk)
        have HD := Lib.hid (bw_drop l m j (by rw [HN.out]; exact hjn) (by rw [HK.out]; exact hjk))
        obtain ⟨x, hxe⟩ : ∃ x, l.getD j 0 = x := ⟨_, rfl⟩
        obtain ⟨y, hye⟩ : ∃ x, m.getD j 0 = x := ⟨_, rfl⟩
        rw [hxe] at hc HD
        rw [hye] at hc' HD
        clear hxe hye
        by_cases hxy : x = y
        · subst hxy
          go_wp2_with fail
          go_roundw
          · exact ⟨j + 1, by go_num, by rw [HN.out]; omega, by rw [HK.out]; omega, rfl, by rw [HE.out, HD.out, if_pos rfl], rfl⟩
          · simp [intOf]; omega
        · have hb : (x == y) = false := by simpa using hxy
          have HC := Lib.hid (show bw l m = cmpI x y by rw [HE.out, HD.out, if_neg hxy])
          have hcc : cmpI x y = -1 ∨ cmpI x y = 1 := by unfold cmpI; split; exact .inl rfl; split; exact .inr rfl; omega
          have HCC := Lib.hid hcc
          have HW := Lib.hid (cmp8_calls x y w)
          obtain ⟨z, hz⟩ : ∃ z, cmpI x y = z := ⟨_, rfl⟩
          rw [hz] at HC HCC HW
          clear hz hcc
          have hzz : (z == 0) = false := by rcases HCC.out with h | h <;> simp [h]
          go_wp2_with fail
          refine HW.out.mono ?_
          rintro e w' ⟨rfl, rfl⟩
          go_wp2_with fail
          (try rw [Exit.noGoto_ret]); go_ret
          exact ⟨by rw [HC.out]; rfl, rfl⟩
      · obtain rfl : j = k := by omega
        have HC := Lib.hid (show bw l m = 1 by rw [HE.out, bw_end1 l m j (by rw [HN.out]; exact hjn) (by rw [HK.out]; exact Nat.le_refl _)])
        go_wp2_with fail
        (try rw [Exit.noGoto_ret]); go_ret
        exact ⟨by rw [HC.out]; rfl, rfl⟩
    · obtain rfl : j = n := by omega
      by_cases hjk : j < k
      · have HC := Lib.hid (show bw l m = -1 by rw [HE.out, bw_end2 l m j (by rw [HN.out]; exact Nat.le_refl _) (by rw [HK.out]; exact hjk)])
        go_wp2_with fail
        (try rw [Exit.noGoto_ret]); go_ret
        exact ⟨by rw [HC.out]; rfl, rfl⟩
      · have HC := Lib.hid (show bw l m = 0 by rw [HE.out, bw_end3 l m j (by rw [HN.out]; exact Nat.le_refl _) (by rw [HK.out]; omega)])
        go_wp2_with fail
        (try rw [Exit.noGoto_ret]); go_ret
        exact ⟨by rw [HC.out]; rfl, rfl⟩
end Go.Proofs.Ytankdkappcimdaa
