/- Texts stand in a row: the plain law of the order; a string's bytes laid out. -/
import Derived.Test.YtankdkappcimdaaW6
import Derived.Lib.ConvBytes
set_option linter.unusedSimpArgs false
set_option linter.unusedVariables false
namespace Go.Proofs.Ytankdkappcimdaa
open Go.RowKit
theorem cmpI_range (a b : Int) : (cmpI a b = -1 ∧ a < b) ∨ (cmpI a b = 0 ∧ a = b) ∨ (cmpI a b = 1 ∧ b < a) := by
  unfold cmpI
  by_cases h : a < b
  · rw [if_pos h]; exact .inl ⟨rfl, h⟩
  · by_cases h2 : b < a
    · rw [if_neg h, if_pos h2]; exact .inr (.inr ⟨rfl, h2⟩)
    · rw [if_neg h, if_neg h2]; exact .inr (.inl ⟨rfl, by omega⟩)
theorem bw_anti (a : List Int) : ∀ b, bw a b = -bw b a := by
  induction a with
  | nil => intro b; cases b <;> rfl
  | cons x r ih =>
    intro b
    cases b with
    | nil => rfl
    | cons y s =>
      simp only [bw]
      by_cases h : x = y
      · rw [if_pos h, if_pos h.symm]; exact ih s
      · rw [if_neg h, if_neg (fun e => h e.symm)]
        have h1 := cmpI_range x y
        have h2 := cmpI_range y x
        omega
theorem bw_self (a : List Int) : bw a a = 0 := by have := bw_anti a a; omega
theorem bw_trans (a : List Int) : ∀ b c, bw a b ≤ 0 → bw b c ≤ 0 → bw a c ≤ 0 ∧ (bw a c = 0 ↔ bw a b + bw b c = 0) := by
  induction a with
  | nil =>
    intro b c h1 h2
    cases b with
    | nil => have e : bw [] [] = 0 := rfl; rw [e]; exact ⟨h2, by omega⟩
    | cons y s =>
      have e : bw [] (y :: s) = -1 := rfl
      cases c with
      | nil => have e : bw (y :: s) [] = 1 := rfl; omega
      | cons z t => have e2 : bw [] (z :: t) = -1 := rfl; rw [e, e2]; exact ⟨by decide, by omega⟩
  | cons x r ih =>
    intro b c h1 h2
    cases b with
    | nil => have e : bw (x :: r) [] = 1 := rfl; omega
    | cons y s =>
      cases c with
      | nil => have e : bw (y :: s) [] = 1 := rfl; omega
      | cons z t =>
        simp only [bw] at h1 h2 ⊢
        have q1 := cmpI_range x y
        have q2 := cmpI_range y z
        have q3 := cmpI_range x z
        by_cases e1 : x = y
        · by_cases e2 : y = z
          · rw [if_pos e1] at h1 ⊢
            rw [if_pos e2] at h2 ⊢
            rw [if_pos (e1.trans e2)]
            exact ih s t h1 h2
          · rw [if_pos e1] at h1 ⊢
            rw [if_neg e2] at h2 ⊢
            rw [if_neg (fun e => e2 (e1.symm.trans e))]
            subst e1
            exact ⟨h2, by omega⟩
        · rw [if_neg e1] at h1 ⊢
          by_cases e2 : y = z
          · rw [if_pos e2] at h2 ⊢
            rw [if_neg (fun e => e1 (e.trans e2.symm))]
            subst e2
            exact ⟨h1, by omega⟩
          · rw [if_neg e2] at h2 ⊢
            rw [if_neg (by omega)]
            constructor <;> omega
theorem cmpOf_anti (a b : List Int) : cmpOf a b = -cmpOf b a := by
  unfold cmpOf
  have h1 := cmpI_range (parseOf a).1 (parseOf b).1
  have h2 := cmpI_range (parseOf b).1 (parseOf a).1
  have h3 := bw_anti a b
  cases (parseOf a).2 <;> cases (parseOf b).2 <;> simp <;> omega
theorem cmpOf_self (a : List Int) : cmpOf a a = 0 := by have := cmpOf_anti a a; omega
theorem cmpOf_trans (a b c : List Int) : cmpOf a b ≤ 0 → cmpOf b c ≤ 0 → cmpOf a c ≤ 0 ∧ (cmpOf a c = 0 ↔ cmpOf a b + cmpOf b c = 0) := by
  unfold cmpOf
  have h1 := cmpI_range (parseOf a).1 (parseOf b).1
  have h2 := cmpI_range (parseOf b).1 (parseOf c).1
  have h3 := cmpI_range (parseOf a).1 (parseOf c).1
  have h4 := bw_trans a b c
  cases (parseOf a).2 <;> cases (parseOf b).2 <;> cases (parseOf c).2 <;> simp <;> omega
theorem cmpOf_range (a b : List Int) : -1 ≤ cmpOf a b ∧ cmpOf a b ≤ 1 := by
  have hb : ∀ a b : List Int, -1 ≤ bw a b ∧ bw a b ≤ 1 := by
    intro a
    induction a with
    | nil => intro b; cases b <;> simp [bw]
    | cons x r ih =>
      intro b
      cases b with
      | nil => simp [bw]
      | cons y s =>
        simp only [bw]
        split
        · exact ih s
        · have := cmpI_range x y; omega
  unfold cmpOf
  have h1 := cmpI_range (parseOf a).1 (parseOf b).1
  have h2 := hb a b
  cases (parseOf a).2 <;> cases (parseOf b).2 <;> simp <;> omega
/-- '[]byte(s)'. -/
theorem conv (w : World) (t : ByteArray) (ht : t.size ≤ 1000) : ∃ v W, (convert 9 25 (.string t)).run Try.prog w = .ok v W ∧ BytesAt W v (bsOf t) ∧ Below w.heap.size w W := by
  refine ⟨_, _, Lib.run_convert_string_bytes w 9 25 5 t Try.underlying9 Try.underlying25 Try.underlying5, ?_, ?_⟩
  · refine ⟨_, _, by rw [bsOf_length], by rw [bsOf_length]; exact grownCap_ge _ _ _ _, grownCap_le_maxLen _ _ _ _ (by unfold maxLen; omega), fun i hi => ⟨w.heap.size, 0, rfl, ?_⟩⟩
    rw [bsOf_length] at hi
    rw [Nat.zero_add, Lib.bytesWorld_cell w 5 t i hi]
    have h' : i < t.data.toList.length := by simpa using hi
    simp [bsOf, List.getD_eq_getElem?_getD, List.getElem?_eq_getElem h']
  · exact ⟨rfl, rfl, rfl, by rw [Lib.bytesWorld_size]; omega, fun k hk => Lib.bytesWorld_at_old w 5 t k hk⟩
theorem BytesAt.to {w w' : World} {v : Value} {l : List Int} (h : BytesAt w v l) (hb : Below w.heap.size w w') : BytesAt w' v l := h.keep hb.block
/-- Compare, in a world that has drawn. -/
theorem Compare_drewN (w : World) (v u : Value) (l m : List Int) (hl : BytesOk l) (hm : BytesOk m) (h : BytesAt w v l) (h' : BytesAt w u m) (n : Nat) :
    Calls Try.prog 16 #[v, u] (w.drewN n) fun e w' => e = .returned (.int .i64 (cmpOf l m)) ∧ ∃ n, w' = w.drewN n :=
  (Compare_calls _ v u l m hl hm (h.drewN n) (h'.drewN n)).mono fun _ _ ⟨e, k, h⟩ => ⟨e, n + k, by rw [h, World.drewN_drewN]⟩
end Go.Proofs.Ytankdkappcimdaa
