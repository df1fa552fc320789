/- Walks: the document's bare, less; and the plain law of its Parse. -/
import Derived.Test.YtankdkappcimdaaRef1
import Derived.WalkMore
set_option linter.unusedSimpArgs false
set_option linter.unusedVariables false
namespace Go.Proofs.Ytankdkappcimdaa
open Go.RowKit
theorem bytesLess_bw : ∀ a b : List UInt8, Op.bytesLess a b = decide (bw (a.map fun x => (x.toNat : Int)) (b.map fun x => (x.toNat : Int)) = -1)
  | [], [] => rfl
  | _ :: _, [] => rfl
  | [], _ :: _ => rfl
  | a :: x, b :: y => by
    simp only [Op.bytesLess, List.map_cons, bw]
    by_cases h : a = b
    · subst h
      rw [if_pos rfl, bytesLess_bw x y]
      have : ¬ a < a := by simp
      simp [this]
    · have hn : ¬ (a.toNat : Int) = (b.toNat : Int) := fun e => h (UInt8.toNat_inj.mp (by omega))
      rw [if_neg hn]
      have hb : (a == b) = false := by simpa using h
      rw [hb, Bool.false_and, Bool.or_false]
      rcases cmpI_range a.toNat b.toNat with ⟨e, h1⟩ | ⟨e, h1⟩ | ⟨e, h1⟩
      · rw [e]
        have : a < b := by rw [UInt8.lt_iff_toNat_lt]; omega
        simp [this]
      · exact absurd h1 hn
      · rw [e]
        have : ¬ a < b := by rw [UInt8.lt_iff_toNat_lt]; omega
        simp [this]
theorem strLess_bw (a b : ByteArray) : Op.bytesLess a.toList b.toList = decide (bw (bsOf a) (bsOf b) = -1) := by
  rw [bytesLess_bw, ByteArray.toList_eq, ByteArray.toList_eq]; rfl
def strSize : Value → Nat
  | .string s => s.size
  | _ => 0
def BareRel (s : ByteArray) (w : World) (v : Value) (wr : World) : Prop := ∃ t : ByteArray, v = .string t ∧ bareL (bsOf t) = bareL (bsOf s) ∧ t.size ≤ 1000 ∧ w = wr
theorem list_two {l : List Int} (h : 1 < l.length) : ∃ c d r, l = c :: d :: r := by
  match l, h with
  | c :: d :: r, _ => exact ⟨c, d, r, rfl⟩
  | [_], h => simp at h
  | [], h => simp at h
theorem bare_calls (s : ByteArray) (w : World) (hs : s.size ≤ 1000) : Calls Try.prog 22 #[.string s] w fun e w' => (∃ t : ByteArray, e = .returned (.string t) ∧ bsOf t = bareL (bsOf s) ∧ t.size ≤ 1000) ∧ w = w' := by
  go_enter Try.func22, Try.ntmps22
  go_wp2_with fail
  go_loopw [0] (fun v wr => BareRel s w v wr) (fun v _ => strSize v)
  case atStart => exact ⟨s, rfl, rfl, hs, rfl⟩
  case round =>
    obtain ⟨t, rfl, he, hts, rfl⟩ := hrel
    have HE := Lib.hid he
    clear he
    by_cases h1 : 1 < t.size
    · obtain ⟨c, d, r, hl⟩ := list_two (l := bsOf t) (by rw [bsOf_length]; exact h1)
      have hx := bsOf_at t 0
      rw [hl] at hx
      simp only [List.getD_cons_zero] at hx
      have HS := Lib.hid (bareL_step c d r)
      have HL := Lib.hid hl
      have h0 : 0 < t.size := by omega
      have hq := eq_true h0
      clear hl
      by_cases hc : c = 48
      · subst hc
        rw [if_pos rfl] at HS
        go_wp2_with fail
        go_roundw
        · exact ⟨t.extract 1 t.size, rfl, by rw [bsOf_tail, HL.out, List.drop_succ_cons, List.drop_zero, ← HS.out, ← HL.out, HE.out], by simp; omega, rfl⟩
        · simp [strSize]; omega
      · rw [if_neg hc] at HS
        have hcb : (c == 48) = false := by simpa using hc
        go_wp2_with fail
        go_ret
        exact ⟨⟨t, rfl, by rw [← HE.out, HL.out, HS.out], hts⟩, rfl⟩
    · have HS := Lib.hid (bareL_len (bsOf t) (by rw [bsOf_length]; omega))
      go_wp2_with fail
      go_ret
      exact ⟨⟨t, rfl, by rw [← HE.out, HS.out], hts⟩, rfl⟩
def lessB (a b : ByteArray) : Bool := decide (a.size < b.size) || (decide (a.size = b.size) && Op.bytesLess a.toList b.toList)
theorem less_calls (a b : ByteArray) (w : World) (ha : a.size ≤ 1000) (hb : b.size ≤ 1000) : Calls Try.prog 23 #[.string a, .string b] w fun e w' => e = .returned (.bool (lessB a b)) ∧ w = w' := by
  by_cases h1 : a.size < b.size
  · have HL := Lib.hid (show lessB a b = true by simp [lessB, h1])
    go_enter Try.func23, Try.ntmps23
    go_wp2_with fail
    go_ret
    exact ⟨by rw [HL.out]; rfl, rfl⟩
  · by_cases h2 : a.size = b.size
    · have HL := Lib.hid (show lessB a b = Op.bytesLess a.toList b.toList by simp [lessB, h1, h2])
      have h3 : ((a.size : Int) == (b.size : Int)) = true := by rw [beq_iff_eq]; omega
      have h1' : ¬ (a.size : Int) < b.size := by omega
      clear h2
      go_enter Try.func23, Try.ntmps23
      go_wp2_with fail
      go_ret
      exact ⟨by rw [HL.out]; rfl, rfl⟩
    · have HL := Lib.hid (show lessB a b = false by simp [lessB, h1, h2])
      have h3 : ((a.size : Int) == (b.size : Int)) = false := by rw [beq_eq_false_iff_ne]; omega
      go_enter Try.func23, Try.ntmps23
      go_wp2_with fail
      go_ret
      exact ⟨by rw [HL.out]; rfl, rfl⟩
def topOf (b : Bool) : ByteArray := if b then ⟨#[57, 50, 50, 51, 51, 55, 50, 48, 51, 54, 56, 53, 52, 55, 55, 53, 56, 48, 56]⟩ else ⟨#[57, 50, 50, 51, 51, 55, 50, 48, 51, 54, 56, 53, 52, 55, 55, 53, 56, 48, 55]⟩
def topN (b : Bool) : Int := if b then 9223372036854775808 else 9223372036854775807
theorem top_facts (b : Bool) : digs (bsOf (topOf b)) = true ∧ (topOf b).size = 19 ∧ val (bsOf (topOf b)) = topN b := by cases b <;> decide
/-- What 'less' tells of the top and the bare digits. -/
theorem less_top (b : Bool) (l : List Int) (t : ByteArray) (hd : digs l = true) (hl : l ≠ []) (ht : bsOf t = bareL l) : lessB (topOf b) t = decide (topN b < val l) := by
  obtain ⟨h1, h2, h3⟩ := top_facts b
  obtain ⟨q1, q2, q3, q4⟩ := bareL_facts l hd hl
  have := less_law (bsOf (topOf b)) (bareL l) h1 (by rw [bsOf_length, h2]) (by rw [h3]; cases b <;> decide) q1 q3 q4
  rw [h3, q2] at this
  rw [← this, lessB, strLess_bw, ht, bsOf_length]
  rw [← ht, bsOf_length]
/-- What Parse is, of a text of digits behind its sign. -/
theorem parse_digits (l : List Int) (b : Bool) (r : List Int) (hs : signOf l = (b, r)) (hd : digs r = true) (hr : r ≠ []) : parseOf l = if topN b < val r then (0, false) else if b then (-(val r), true) else (val r, true) := by
  rw [parseOf_by, hs]
  have hn := val_nonneg r hd
  by_cases h : val r ≤ 9223372036854775808
  · have hm : magOf r = (val r, true) := by unfold magOf; rw [if_pos ⟨hr, hd, h⟩]
    simp only [hm]
    cases b with
    | true => rw [if_neg (by simp [topN]; omega)]; simp [parseBy]
    | false =>
      by_cases h2 : val r = 9223372036854775808
      · rw [if_pos (by simp [topN]; omega)]; simp [parseBy, h2]
      · rw [if_neg (by simp [topN]; omega)]; simp [parseBy, h2]
  · have hm : magOf r = (0, false) := by unfold magOf; rw [if_neg (fun h' => h h'.2.2)]
    simp only [hm]
    rw [if_pos (by cases b <;> simp [topN] <;> omega)]; simp [parseBy]
theorem parse_none (l : List Int) (h : (magOf (signOf l).2) = (0, false)) : parseOf l = (0, false) := by
  rw [parseOf_by, h]; simp [parseBy]
end Go.Proofs.Ytankdkappcimdaa
