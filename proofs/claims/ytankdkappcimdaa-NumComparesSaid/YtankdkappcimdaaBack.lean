/- Each number's text is parsed as it: the plain law. -/
import Derived.Test.YtankdkappcimdaaOrder
set_option linter.unusedSimpArgs false
set_option linter.unusedVariables false
namespace Go.Proofs.Ytankdkappcimdaa
open Go.RowKit
theorem decN_ok (m : Nat) : digs (decN m) = true ∧ val (decN m) = m ∧ decN m ≠ [] := by
  induction m using Nat.strongRecOn with
  | _ m ih =>
    by_cases h : m < 10
    · rw [decN_small m h]
      refine ⟨?_, ?_, by simp⟩
      · simp only [digs, List.all_cons, List.all_nil, Bool.and_true, isDig_iff]; omega
      · simp only [val, List.foldl_cons, List.foldl_nil]; omega
    · obtain ⟨h1, h2, -⟩ := ih (m / 10) (by omega)
      rw [decN_big m h]
      refine ⟨?_, ?_, by simp⟩
      · rw [digs_snoc, h1, Bool.true_and, isDig_iff]; omega
      · rw [val_snoc, h2]; omega
theorem digs_bytes {l : List Int} (h : digs l = true) : BytesOk l := by
  intro x hx
  have := (isDig_iff x).mp (List.all_eq_true.mp h x hx)
  omega
theorem bytes_cons {c : Int} {l : List Int} (h : BytesOk l) (h0 : 0 ≤ c) (h1 : c ≤ 255) : BytesOk (c :: l) := by
  intro x hx
  rcases List.mem_cons.mp hx with rfl | hx
  · exact ⟨h0, h1⟩
  · exact h x hx
theorem texOf_ok (n : Int) : BytesOk (texOf n) := by
  unfold texOf; split
  · exact bytes_cons (digs_bytes (decN_ok _).1) (by decide) (by decide)
  · exact digs_bytes (decN_ok _).1
theorem val_noughts (k : Nat) (l : List Int) : val (List.replicate k 48 ++ l) = val l := by
  induction k with
  | zero => rfl
  | succ k ih => rw [List.replicate_succ, List.cons_append]; exact ih
theorem digs_noughts (k : Nat) (l : List Int) (h : digs l = true) : digs (List.replicate k 48 ++ l) = true := by
  induction k with
  | zero => exact h
  | succ k ih => rw [List.replicate_succ, List.cons_append]; simp only [digs, List.all_cons] at ih ⊢; rw [ih]; rfl
theorem magOf_digits (k m : Nat) (hm : m ≤ 9223372036854775808) : magOf (List.replicate k 48 ++ decN m) = ((m : Int), true) := by
  obtain ⟨h1, h2, h3⟩ := decN_ok m
  unfold magOf
  rw [if_pos ⟨by simp [h3], digs_noughts k _ h1, by rw [val_noughts, h2]; omega⟩, val_noughts, h2]
theorem parse_marked (n : Int) (k : Nat) (h0 : -9223372036854775808 ≤ n) (h1 : n ≤ 9223372036854775807) : parseOf ((if n < 0 then 45 else 43) :: (List.replicate k 48 ++ decN n.natAbs)) = (n, true) := by
  rw [parseOf_by]
  by_cases h : n < 0
  · rw [if_pos h]
    rw [show ∀ r, signOf (45 :: r) = (true, r) from fun _ => rfl]
    simp only []
    rw [magOf_digits k _ (by omega)]
    simp only [parseBy]
    simp; omega
  · rw [if_neg h]
    rw [show ∀ r, signOf (43 :: r) = (false, r) from fun _ => rfl]
    simp only []
    rw [magOf_digits k _ (by omega)]
    simp only [parseBy]
    rw [if_neg (by simp; omega), if_neg (by simp)]
    simp; omega
theorem signOf_digits (l : List Int) (h : digs l = true) : signOf l = (false, l) := by
  cases l with
  | nil => rfl
  | cons c r =>
    simp only [digs, List.all_cons, Bool.and_eq_true, isDig_iff] at h
    simp only [signOf]
    rw [if_neg (by omega), if_neg (by omega)]
theorem parse_text (n : Int) (h0 : -9223372036854775808 ≤ n) (h1 : n ≤ 9223372036854775807) : parseOf (texOf n) = (n, true) := by
  by_cases h : n < 0
  · have := parse_marked n 0 h0 h1
    rw [if_pos h] at this
    rw [texOf, if_pos h]; exact this
  · rw [texOf, if_neg h, parseOf_by, signOf_digits _ (decN_ok _).1]
    have := magOf_digits 0 n.natAbs (by omega)
    simp only [List.replicate_zero, List.nil_append] at this
    rw [this]
    simp only [parseBy]
    rw [if_neg (by simp; omega), if_neg (by simp)]
    simp; omega
theorem cmp_texts (n m : Int) (h0 : -9223372036854775808 ≤ n) (h1 : n ≤ 9223372036854775807) (h2 : -9223372036854775808 ≤ m) (h3 : m ≤ 9223372036854775807) : cmpOf (texOf n) (texOf m) = cmpI n m := by
  unfold cmpOf
  rw [parse_text n h0 h1, parse_text m h2 h3]; simp
theorem bsOf_str (l : List Int) (h : BytesOk l) : bsOf (strOfNums l) = l := by
  unfold bsOf
  rw [strOfNums_data, List.map_map]
  induction l with
  | nil => rfl
  | cons x r ih =>
    have hx := h x (List.mem_cons_self ..)
    rw [List.map_cons, ih (fun y hy => h y (List.mem_cons_of_mem _ hy))]
    congr 1
    simp only [Function.comp]
    rw [UInt8.toNat_ofNat']
    omega
theorem bsOf_append (a b : ByteArray) : bsOf (a ++ b) = bsOf a ++ bsOf b := by simp [bsOf, ByteArray.data_append]
theorem bsOf_tail (a : ByteArray) : bsOf (a.extract 1 a.size) = (bsOf a).drop 1 := by
  simp only [bsOf, ByteArray.data_extract, Array.toList_extract, List.extract_eq_drop_take', List.map_drop, List.map_take]
  rw [List.take_of_length_le (by simp)]
theorem decN_length (m : Nat) (h : m ≤ 9223372036854775808) : (decN m).length ≤ 19 := by
  have key : ∀ k m, m < 10 ^ (k + 1) → (decN m).length ≤ k + 1 := by
    intro k
    induction k with
    | zero => intro m hm; rw [decN_small m (by simpa using hm)]; simp
    | succ k ih =>
      intro m hm
      by_cases h : m < 10
      · rw [decN_small m h]; simp
      · rw [decN_big m h, List.length_append]
        have : m / 10 < 10 ^ (k + 1) := by rw [Nat.pow_succ] at hm; omega
        have := ih _ this
        simp; omega
  exact key 18 m (by have : (10:Nat) ^ (18 + 1) = 10000000000000000000 := by decide
                     omega)
end Go.Proofs.Ytankdkappcimdaa
