/- Walks: Get of any name; Names. -/
import Derived.Test.YthalpbbjcagnnaaSetAll
set_option linter.unusedSimpArgs false
set_option linter.unusedVariables false
namespace Go.Proofs.Ythalpbbjcagnnaa
open Go.RowKit
/-- What a name has. -/
def getR (R : RegsT) (x : Int) : Int × Txt := if x = 0 then R 26 else match idxOf x with
  | some (i, _) => R i
  | none => (0, [])
set_option maxRecDepth 100000 in
set_option maxHeartbeats 1000000 in
theorem get_none (x : Int) (hx0 : x ≠ 0) (hw : ∀ w, Calls Try.prog 24 #[.int .i64 x] w fun e w' => e = .returned (.tuple #[.int .i64 0, .bool false, .bool false]) ∧ w = w') (w : World) (N : Nat → Prop) (r : Nat) (R : RegsT) (h : RegsIn w N r R) :
    Calls Try.prog 10 #[.pointer (some ⟨r, 0, none⟩), .int .i64 x] w fun e w' => e = .returned (.tuple #[.agg #[.int .i64 0, .slice none 0 0], .bool false]) ∧ Below w.heap.size w w' := by
  obtain ⟨al, cl, l0, l1, -, -, -⟩ := h.cells 26 (by decide)
  have l0 : w.cell? ⟨r, 52, none⟩ = some (.int .i64 (R 26).1) := l0
  have l1 : w.cell? ⟨r, 53, none⟩ = some (.slice al (R 26).2.length cl) := l1
  generalize (R 26).1 = kl at l0
  generalize (R 26).2.length = ml at l1
  have e0 : (w.alloc (.cells #[.int .i64 0, .slice none 0 0] 30)).cell? ⟨r, 52, none⟩ = some (.int .i64 kl) := (World.cell?_alloc_old w _ _ (Nat.ne_of_lt (World.block_lt_of_cell? _ _ l0))).trans l0
  have e1 : (w.alloc (.cells #[.int .i64 0, .slice none 0 0] 30)).cell? ⟨r, 53, none⟩ = some (.slice al ml cl) := (World.cell?_alloc_old w _ _ (Nat.ne_of_lt (World.block_lt_of_cell? _ _ l1))).trans l1
  have HWX := Lib.hid hw
  have hxb : (x == 0) = false := by simpa using hx0
  have HB2 := Lib.hid (G2_below w (.cells #[.int .i64 0, .slice none 0 0] 30) (.cells #[.int .i64 kl, .slice al ml cl] 30))
  have HA := Lib.hid (G2_first w (.cells #[.int .i64 0, .slice none 0 0] 30) (.cells #[.int .i64 kl, .slice al ml cl] 30))
  have hg0 := (cell_row HA.out 0).trans (show (#[Value.int .i64 0, .slice none 0 0] : Array Value)[0]? = some (.int .i64 0) from rfl)
  have hg1 := (cell_row HA.out 1).trans (show (#[Value.int .i64 0, .slice none 0 0] : Array Value)[1]? = some (.slice none 0 0) from rfl)
  have hg2 := frozen_row HA.out 0
  have hg3 := frozen_row HA.out 1
  clear h l0 l1 hw
  go_enter Try.func10, Try.ntmps10
  go_wp2_with (go_at_call 24; refine (HWX.out _).mono ?_; rintro e w' ⟨rfl, rfl⟩)
  refine bodyPost_ret (results_row_tmp rfl _ _ w.heap.size 30 #[.int .i64 0, .slice none 0 0] (0, 0) _ rfl HA.out Try.underlying30 rfl (by kernel_rfl)) rfl ?_
  exact ⟨rfl, HB2.out⟩
theorem get_calls (w : World) (N : Nat → Prop) (r : Nat) (R : RegsT) (x : Int) (h : RegsIn w N r R) (hok : RegsOk R) :
    Calls Try.prog 10 #[.pointer (some ⟨r, 0, none⟩), .int .i64 x] w fun e w' => (∃ v', e = .returned (.tuple #[.agg #[.int .i64 (getR R x).1, v'], .bool (decide (0 < (getR R x).2.length))]) ∧ TxtAt w' (fun b => w.heap.size ≤ b ∧ Soft w' b) v' (getR R x).2) ∧ Below w.heap.size w w' := by
  have hl : ∀ i, (R i).2.length ≤ 100000 := fun i => by have := (hok i).2.1; omega
  have hr : ∀ i, ∀ l ∈ (R i).2, l.length ≤ 100000 := fun i l hl => by have := (hok i).2.2 l hl; omega
  by_cases hx : x = 0
  · subst hx
    unfold getR
    rw [if_pos rfl]
    exact get_last w N r R h (hl _) (hr _)
  · unfold getR
    rw [if_neg hx]
    by_cases h1 : 97 ≤ x ∧ x ≤ 122
    · obtain ⟨i, rfl⟩ : ∃ i : Nat, x = 97 + i := ⟨(x - 97).toNat, by omega⟩
      have hidx : idxOf (97 + (i : Int)) = some (i, false) := by rw [idxOf_low h1]; simp; omega
      rw [hidx]
      exact get_letter (97 + i) i false (by omega) hx (which_low i (by omega)) w N r R h (hl _) (hr _)
    · by_cases h2 : 65 ≤ x ∧ x ≤ 90
      · obtain ⟨i, rfl⟩ : ∃ i : Nat, x = 65 + i := ⟨(x - 65).toNat, by omega⟩
        have hidx : idxOf (65 + (i : Int)) = some (i, true) := by rw [idxOf_up h1 h2]; simp; omega
        rw [hidx]
        exact get_letter (65 + i) i true (by omega) hx (which_up i (by omega)) w N r R h (hl _) (hr _)
      · rw [idxOf_none h1 h2]
        exact (get_none x hx (which_none h1 h2) w N r R h).mono fun e w' he => ⟨⟨_, he.1, none, 0, rfl, Nat.le_refl _, by decide, fun i hi => by simp at hi⟩, he.2⟩
/-- The names of the letters that have something. -/
def namesOf (R : RegsT) : Nat → List Int
  | 0 => []
  | k + 1 => namesOf R k ++ (if 0 < (R k).2.length then [97 + (k : Int)] else [])
def iv (xs : List Int) : List Value := xs.map (Value.int .i64)
theorem namesOf_le (R : RegsT) : ∀ k, (namesOf R k).length ≤ k
  | 0 => Nat.le_refl _
  | k + 1 => by
    have := namesOf_le R k
    simp only [namesOf, List.length_append]
    split <;> simp <;> omega
theorem info3 : (Try.prog.info? 3).map (fun i => (i.zero, i.size, i.bytes)) = some (some (.int .i64 0), 1, 8) := by kernel_rfl
def NmRel (w : World) (R : RegsT) (ov kv : Value) (wr : World) : Prop := ∃ j : Nat, kv = .int .i64 j ∧ j ≤ 26 ∧ wr.ownsRow w.heap.size 3 1 ov (namesOf R j).length (iv (namesOf R j)) ∧ Below w.heap.size w wr
set_option maxRecDepth 100000 in
set_option maxHeartbeats 1000000 in
theorem names_calls (w : World) (N : Nat → Prop) (r : Nat) (R : RegsT) (h : RegsIn w N r R) :
    Calls Try.prog 11 #[.pointer (some ⟨r, 0, none⟩)] w fun e w' => (∃ v', e = .returned v' ∧ w'.ownsRow w.heap.size 3 1 v' (namesOf R 26).length (iv (namesOf R 26))) ∧ Below w.heap.size w w' := by
  have H := Lib.hid h
  obtain ⟨i0, hi0, hz0, hz1, hz2⟩ := info_parts info3
  have HI := Lib.hid (And.intro hi0 (And.intro hz0 (And.intro hz1 hz2)))
  clear hi0 hz0 hz1 hz2
  have H0 := Lib.hid (show NmRel w R (.slice none 0 0) (.int .i64 0) w from ⟨0, rfl, Nat.zero_le _, ⟨rfl, .inl ⟨rfl, rfl⟩⟩, Below.refl _ _⟩)
  clear h
  go_enter Try.func11, Try.ntmps11
  go_wp2_with fail
  go_loopw [3, 7] (fun o i wr => NmRel w R o i wr) (fun _ i _ => 26 - (intOf i).toNat)
  case atStart => exact H0.out
  case round =>
    obtain ⟨j, rfl, hj, hown, hbel⟩ := hrel
    have HB := Lib.hid hbel
    have HR := Lib.hid hown
    obtain ⟨oa, op, rfl⟩ := own_slice hown
    clear hown
    by_cases hjn : j < 26
    · obtain ⟨a, c, c0, c1, ht, g1, g2⟩ := (H.out.below hbel).cells j (by omega)
      have HC := Lib.hid (has_calls (R j).1 a (R j).2.length c wr (Nat.le_trans g1 g2))
      have HBA := Lib.hid (show Below w.heap.size w (wr.alloc (.cells #[.int .i64 (R j).1, .slice a (R j).2.length c] 30)) from hbel.alloc hbel.size _)
      have HRA := Lib.hid (HR.out.alloc (.cells #[.int .i64 (R j).1, .slice a (R j).2.length c] 30))
      by_cases hp : 0 < (R j).2.length
      · have HE := Lib.hid (show namesOf R (j + 1) = namesOf R j ++ [97 + (j : Int)] by simp only [namesOf]; rw [if_pos hp])
        have hd : decide (0 < (R j).2.length) = true := by simpa using hp
        rw [hd] at HC
        have hle := namesOf_le R j
        generalize namesOf R j = nl at *
        generalize (R j).1 = kk at *
        generalize (R j).2.length = m at *
        clear hbel ht hp hd
        have HMAX := Lib.hid (show nl.length + 1 ≤ maxLen by unfold maxLen; omega)
        have HBYTES := Lib.hid (show (nl.length + 1) * 8 ≤ 140737488355328 by omega)
        go_wp2_with (first
          | (go_at_call 25; refine HC.out.mono ?_; rintro e w2 ⟨rfl, hw2⟩; have HR2 := Lib.hid (hw2 ▸ HRA.out); have HB2 := Lib.hid (hw2 ▸ HBA.out); have HOWN := Lib.hid (HR2.out.alloc (.cells #[.int .i64 (97 + j)] 3)); have HNEWS := Lib.hid (news_one w2 (.int .i64 (97 + j)) 3); have HSZ := Lib.hid (show w.heap.size ≤ (w2.alloc (.cells #[.int .i64 (97 + j)] 3)).heap.size by have := HB2.out.size; simp; omega); clear hw2)
          | (at_builtin; go_must (refine wpList_append_lies _ rfl (.tmp 17) (.tmp 20) 33 rfl w.heap.size 3 i0 (.int .i64 0) 1 8 Try.underlying33 HI.out.1 HI.out.2.1 HI.out.2.2.1 HI.out.2.2.2 rfl (by decide) (.slice oa nl.length op) nl.length (iv nl) rfl HOWN.out ⟨w2.heap.size, 0, none⟩ 1 1 [.int .i64 (97 + j)] rfl rfl HNEWS.out (by simp [Value.oneCell']) (by decide) HMAX.out HBYTES.out HSZ.out (w2.heap.size + 1) (by simp) ?_); intro g cap w3 hown hgrow hat hlt; have HO3 := Lib.hid hown; have HG3 := Lib.hid hgrow; clear hown hgrow hat hlt))
        go_roundw
        · refine ⟨j + 1, by go_num, by omega, ?_, Below.grown (HB2.out.alloc HB2.out.size _) HG3.out (by have := HB2.out.size; simp; omega) (fun x hx => (HR2.out.lt x hx).1)⟩
          rw [HE.out]
          simpa [iv] using HO3.out
        · simp [intOf]; omega
      · have HE := Lib.hid (show namesOf R (j + 1) = namesOf R j by simp only [namesOf]; rw [if_neg hp]; simp)
        have hd : decide (0 < (R j).2.length) = false := by simpa using hp
        rw [hd] at HC
        generalize (R j).1 = kk at *
        generalize (R j).2.length = m at *
        clear hbel ht hp hd
        go_wp2_with (go_at_call 25; refine HC.out.mono ?_; rintro e w2 ⟨rfl, hw2⟩; have HR2 := Lib.hid (hw2 ▸ HRA.out); have HB2 := Lib.hid (hw2 ▸ HBA.out); clear hw2)
        go_roundw
        · exact ⟨j + 1, by go_num, by omega, by rw [HE.out]; exact HR2.out, HB2.out⟩
        · simp [intOf]; omega
    · obtain rfl : j = 26 := by omega
      clear hbel
      go_wp2_with fail
      go_ret
      exact ⟨⟨_, rfl, HR.out⟩, HB.out⟩
end Go.Proofs.Ythalpbbjcagnnaa
