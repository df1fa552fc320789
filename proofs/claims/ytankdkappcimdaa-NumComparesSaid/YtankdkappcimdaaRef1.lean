/- Digits as texts: of two texts of digits, of one length, the lesser text is the lesser number; plain law. -/
import Derived.Test.YtankdkappcimdaaBack
set_option linter.unusedSimpArgs false
set_option linter.unusedVariables false
namespace Go.Proofs.Ytankdkappcimdaa
open Go.RowKit
def vf (n : Int) (l : List Int) : Int := l.foldl (fun n c => n * 10 + (c - 48)) n
theorem val_vf (l : List Int) : val l = vf 0 l := rfl
theorem vf_cons (n c : Int) (r : List Int) : vf n (c :: r) = vf (n * 10 + (c - 48)) r := rfl
theorem digs_cons {c : Int} {r : List Int} (h : digs (c :: r) = true) : (48 ≤ c ∧ c ≤ 57) ∧ digs r = true := by
  simp only [digs, List.all_cons, Bool.and_eq_true, isDig_iff] at h; exact h
theorem vf_lt : ∀ (a b : List Int) (n m : Int), a.length = b.length → digs a = true → digs b = true → n < m → vf n a < vf m b
  | [], [], n, m, _, _, _, h => h
  | x :: r, y :: s, n, m, hl, ha, hb, h => by
    obtain ⟨hx, ha⟩ := digs_cons ha
    obtain ⟨hy, hb⟩ := digs_cons hb
    rw [vf_cons, vf_cons]
    exact vf_lt r s _ _ (by simpa using hl) ha hb (by omega)
  | [], _ :: _, _, _, hl, _, _, _ => by simp at hl
  | _ :: _, [], _, _, hl, _, _, _ => by simp at hl
theorem cmpI_lt {a b : Int} (h : a < b) : cmpI a b = -1 := by rw [cmpI, if_pos h]
theorem cmpI_gt {a b : Int} (h : b < a) : cmpI a b = 1 := by rw [cmpI, if_neg (by omega), if_pos h]
theorem cmpI_self (a : Int) : cmpI a a = 0 := by rw [cmpI, if_neg (by omega), if_neg (by omega)]
theorem bw_vf : ∀ (a b : List Int) (n : Int), a.length = b.length → digs a = true → digs b = true → bw a b = cmpI (vf n a) (vf n b)
  | [], [], n, _, _, _ => (cmpI_self _).symm
  | x :: r, y :: s, n, hl, ha, hb => by
    obtain ⟨hx, ha⟩ := digs_cons ha
    obtain ⟨hy, hb⟩ := digs_cons hb
    have hl : r.length = s.length := by simpa using hl
    rw [vf_cons, vf_cons]
    simp only [bw]
    by_cases h : x = y
    · rw [if_pos h, h]; exact bw_vf r s _ hl ha hb
    · rw [if_neg h]
      rcases cmpI_range x y with ⟨e, h1⟩ | ⟨e, h1⟩ | ⟨e, h1⟩
      · rw [e, cmpI_lt (vf_lt r s _ _ hl ha hb (by omega))]
      · exact absurd h1 h
      · rw [e, cmpI_gt (vf_lt s r _ _ hl.symm hb ha (by omega))]
  | [], _ :: _, _, hl, _, _ => by simp at hl
  | _ :: _, [], _, hl, _, _ => by simp at hl
theorem vf_bounds : ∀ (l : List Int) (n : Int), digs l = true → 0 ≤ n → n * 10 ^ l.length ≤ vf n l ∧ vf n l < (n + 1) * 10 ^ l.length
  | [], n, _, h => by simp [vf]; omega
  | c :: r, n, hd, h => by
    obtain ⟨hc, hd⟩ := digs_cons hd
    obtain ⟨h1, h2⟩ := vf_bounds r (n * 10 + (c - 48)) hd (by omega)
    rw [vf_cons, List.length_cons, Int.pow_succ]
    have hp : (0 : Int) < 10 ^ r.length := Int.pow_pos (by decide)
    generalize (10 : Int) ^ r.length = p at *
    constructor
    · have : n * (p * 10) = n * 10 * p := by rw [Int.mul_assoc, Int.mul_comm p]
      rw [this]
      have : n * 10 * p ≤ (n * 10 + (c - 48)) * p := Int.mul_le_mul_of_nonneg_right (by omega) (by omega)
      omega
    · have : (n + 1) * (p * 10) = (n * 10 + 10) * p := by rw [Int.mul_comm p, ← Int.mul_assoc, Int.add_mul, Int.one_mul]
      rw [this]
      have : (n * 10 + (c - 48) + 1) * p ≤ (n * 10 + 10) * p := Int.mul_le_mul_of_nonneg_right (by omega) (by omega)
      omega
/-- Without noughts ahead. -/
def bareL : List Int → List Int
  | 48 :: c :: r => bareL (c :: r)
  | l => l
theorem bareL_len (l : List Int) (h : l.length ≤ 1) : bareL l = l := by
  match l, h with
  | [], _ => rfl
  | [c], _ => by_cases hc : c = 48 <;> simp [bareL]
  | _ :: _ :: _, h => simp at h
theorem bareL_step (c d : Int) (r : List Int) : bareL (c :: d :: r) = if c = 48 then bareL (d :: r) else c :: d :: r := by
  by_cases h : c = 48
  · subst h; rw [if_pos rfl, bareL]
  · rw [if_neg h, bareL]; intro c' r' e; simp at e; exact absurd e.1 h
theorem bareL_facts : ∀ (l : List Int), digs l = true → l ≠ [] → digs (bareL l) = true ∧ val (bareL l) = val l ∧ bareL l ≠ [] ∧ (1 < (bareL l).length → ∃ c r, bareL l = c :: r ∧ 49 ≤ c)
  | [], _, h => absurd rfl h
  | [c], hd, h => by rw [bareL_len [c] (by simp)]; exact ⟨hd, rfl, by simp, fun h => by simp at h⟩
  | c :: d :: r, hd, h => by
    obtain ⟨hc, hd2⟩ := digs_cons hd
    rw [bareL_step]
    by_cases h0 : c = 48
    · rw [if_pos h0]
      obtain ⟨h1, h2, h3, h4⟩ := bareL_facts (d :: r) hd2 (by simp)
      refine ⟨h1, ?_, h3, h4⟩
      rw [h2, val_vf, val_vf, vf_cons, h0]; rfl
    · rw [if_neg h0]
      exact ⟨hd, rfl, by simp, fun _ => ⟨c, d :: r, rfl, by omega⟩⟩
/-- Of a bare text of digits and one of nineteen: fewer, or a lesser text: the lesser number. -/
theorem less_law (top b : List Int) (ht : digs top = true) (htl : top.length = 19) (ht1 : 1000000000000000000 ≤ val top) (hd : digs b = true) (hb : b ≠ []) (hbare : 1 < b.length → ∃ c r, b = c :: r ∧ 49 ≤ c) :
    (decide (top.length < b.length) || (decide (top.length = b.length) && decide (bw top b = -1))) = decide (val top < val b) := by
  have hT := vf_bounds top 0 ht (Int.le_refl _)
  have hB := vf_bounds b 0 hd (Int.le_refl _)
  rw [← val_vf, htl] at hT
  rw [← val_vf] at hB
  have hp : (10 : Int) ^ 19 = 10000000000000000000 := by decide
  rcases Nat.lt_trichotomy b.length 19 with h | h | h
  · have h1 : (10 : Int) ^ b.length ≤ 10 ^ 18 := by
      have := Nat.pow_le_pow_right (show 0 < 10 by decide) (show b.length ≤ 18 by omega)
      exact_mod_cast this
    have h2 : (10 : Int) ^ 18 = 1000000000000000000 := by decide
    have : ¬ val top < val b := by omega
    simp [this]; omega
  · have := bw_vf top b 0 (by omega) ht hd
    rw [this, ← val_vf, ← val_vf, htl, h]
    have := cmpI_range (val top) (val b)
    rw [Bool.eq_iff_iff]; simp; omega
  · obtain ⟨c, r, rfl, hc⟩ := hbare (by omega)
    obtain ⟨hc2, hr⟩ := digs_cons hd
    have h1 := (vf_bounds r (0 * 10 + (c - 48)) hr (by omega)).1
    rw [← vf_cons, ← val_vf] at h1
    have h2 : (10 : Int) ^ 19 ≤ 10 ^ r.length := by
      have := Nat.pow_le_pow_right (show 0 < 10 by decide) (show 19 ≤ r.length by simp at h; omega)
      exact_mod_cast this
    have h3 : 1 * 10 ^ r.length ≤ (0 * 10 + (c - 48)) * (10 : Int) ^ r.length := Int.mul_le_mul_of_nonneg_right (by omega) (by omega)
    have : val top < val (c :: r) := by omega
    simp only [this, decide_true]
    rw [htl]; simp; left; simpa using h
end Go.Proofs.Ytankdkappcimdaa
