/- How any two texts stand, and which one is ahead: the law's walk. -/
import Derived.Test.YtankdkappcimdaaTextR
set_option linter.unusedSimpArgs false
set_option linter.unusedVariables false
namespace Go.Proofs.Ytankdkappcimdaa
open Go.RowKit
theorem bw_three (a b : List Int) : bw a b = -1 ∨ bw a b = 0 ∨ bw a b = 1 := by
  induction a generalizing b with
  | nil => cases b <;> simp [bw]
  | cons x r ih =>
    cases b with
    | nil => simp [bw]
    | cons y s =>
      simp only [bw]
      split
      · exact ih s
      · have := cmpI_range x y; omega
theorem CompareR_by (s t : ByteArray) (w : World) (p q : Int × Bool) (z : Int) (hz : z = bw (bsOf s) (bsOf t))
    (hp : ∀ w, Calls Try.prog 10 #[.string s] w fun e w' => e = .returned (.tuple #[.int .i64 p.1, .bool p.2]) ∧ w = w')
    (hq : ∀ w, Calls Try.prog 10 #[.string t] w fun e w' => e = .returned (.tuple #[.int .i64 q.1, .bool q.2]) ∧ w = w') :
    Calls Try.prog 17 #[.string s, .string t] w fun e w' => e = .returned (.int .i64 (cmpBy p q z)) ∧ w = w' := by
  have hA := strLess_bw s t
  have hB := strLess_bw t s
  have hr := cmpOf_range
  have ha := bw_anti (bsOf t) (bsOf s)
  rw [← hz] at hA ha
  rw [ha] at hB
  have h1 : z = -1 ∨ z = 0 ∨ z = 1 := by
    rcases bw_three (bsOf s) (bsOf t) with h | h | h <;> omega
  have HP := Lib.hid (hp w)
  have HQ := Lib.hid (hq w)
  obtain ⟨a, p⟩ := p
  obtain ⟨b, q⟩ := q
  clear hp hq hr ha hz
  cases p with
  | true =>
    cases q with
    | true =>
      have HE := Lib.hid (show cmpBy (a, true) (b, true) z = cmpI a b by simp [cmpBy])
      clear hA hB h1
      rcases cmpI_range a b with ⟨e, h⟩ | ⟨e, h⟩ | ⟨e, h⟩
      · rw [e] at HE
        clear e
        go_enter Try.func17, Try.ntmps17
        go_wp2_with (first | (go_at_call 10; with_reducible refine HP.out.mono ?_; rintro e w' ⟨rfl, rfl⟩) | (go_at_call 10; with_reducible refine HQ.out.mono ?_; rintro e w' ⟨rfl, rfl⟩))
        go_ret
        exact ⟨by rw [HE.out]; rfl, rfl⟩
      · rw [e] at HE
        clear e
        subst h
        go_enter Try.func17, Try.ntmps17
        go_wp2_with (first | (go_at_call 10; with_reducible refine HP.out.mono ?_; rintro e w' ⟨rfl, rfl⟩) | (go_at_call 10; with_reducible refine HQ.out.mono ?_; rintro e w' ⟨rfl, rfl⟩))
        go_ret
        exact ⟨by rw [HE.out]; rfl, rfl⟩
      · rw [e] at HE
        clear e
        have h2 : ¬ a < b := by omega
        go_enter Try.func17, Try.ntmps17
        go_wp2_with (first | (go_at_call 10; with_reducible refine HP.out.mono ?_; rintro e w' ⟨rfl, rfl⟩) | (go_at_call 10; with_reducible refine HQ.out.mono ?_; rintro e w' ⟨rfl, rfl⟩))
        go_ret
        exact ⟨by rw [HE.out]; rfl, rfl⟩
    | false =>
      have HE := Lib.hid (show cmpBy (a, true) (b, false) z = -1 by simp [cmpBy])
      clear hA hB h1
      go_enter Try.func17, Try.ntmps17
      go_wp2_with (first | (go_at_call 10; with_reducible refine HP.out.mono ?_; rintro e w' ⟨rfl, rfl⟩) | (go_at_call 10; with_reducible refine HQ.out.mono ?_; rintro e w' ⟨rfl, rfl⟩))
      go_ret
      exact ⟨by rw [HE.out]; rfl, rfl⟩
  | false =>
    cases q with
    | true =>
      have HE := Lib.hid (show cmpBy (a, false) (b, true) z = 1 by simp [cmpBy])
      clear hA hB h1
      go_enter Try.func17, Try.ntmps17
      go_wp2_with (first | (go_at_call 10; with_reducible refine HP.out.mono ?_; rintro e w' ⟨rfl, rfl⟩) | (go_at_call 10; with_reducible refine HQ.out.mono ?_; rintro e w' ⟨rfl, rfl⟩))
      go_ret
      exact ⟨by rw [HE.out]; rfl, rfl⟩
    | false =>
      have HE := Lib.hid (show cmpBy (a, false) (b, false) z = z by simp [cmpBy])
      rcases h1 with rfl | rfl | rfl
      all_goals
        simp only [decide_true, decide_false, Int.neg_neg, Int.neg_zero] at hA hB
        go_enter Try.func17, Try.ntmps17
        go_wp2_with (first | (go_at_call 10; with_reducible refine HP.out.mono ?_; rintro e w' ⟨rfl, rfl⟩) | (go_at_call 10; with_reducible refine HQ.out.mono ?_; rintro e w' ⟨rfl, rfl⟩))
        go_ret
        exact ⟨by rw [HE.out]; rfl, rfl⟩
theorem CompareR_calls (s t : ByteArray) (w : World) (hs : s.size ≤ 1000) (ht : t.size ≤ 1000) : Calls Try.prog 17 #[.string s, .string t] w fun e w' => e = .returned (.int .i64 (cmpOf (bsOf s) (bsOf t))) ∧ w = w' :=
  CompareR_by s t w (parseOf (bsOf s)) (parseOf (bsOf t)) _ rfl (fun w => ParseR_calls s w hs) (fun w => ParseR_calls t w ht)
theorem run_zero (w : World) (a : Addr) (c : Nat) : (convert 25 9 (.slice (some a) 0 c)).run Try.prog w = .ok (.string (strOfNums [])) w := by
  rw [run_convert_bytes_string w 25 9 5 (some a) 0 c Try.underlying25 Try.underlying5 Try.underlying9]
  rfl
theorem conv_back (w : World) (v : Value) (l : List Int) (h : BytesAt w v l) : (convert 25 9 v).run Try.prog w = .ok (.string (strOfNums l)) w := by
  obtain ⟨a, c, rfl, h1, h2, h⟩ := h
  cases a with
  | none =>
    have h0 : l.length = 0 := by
      rcases Nat.eq_zero_or_pos l.length with h0 | h0
      · exact h0
      · obtain ⟨b, off, e, -⟩ := h 0 h0; cases e
    rw [List.eq_nil_of_length_eq_zero h0]
    exact run_convert_bytes_nil w 25 5 Try.underlying25 Try.underlying5 0 c 9 Try.underlying9
  | some a =>
    by_cases h0 : l.length = 0
    · rw [List.eq_nil_of_length_eq_zero h0]
      exact run_zero w a c
    · obtain ⟨b, off, e, -⟩ := h 0 (by omega)
      obtain rfl : a = ⟨b, off, none⟩ := by simpa using e
      exact run_convert_bytes_arg w 25 5 Try.underlying25 Try.underlying5 b off l.length c l rfl (fun i hi => by
        obtain ⟨b', off', e', hc⟩ := h i hi
        simp only [Option.some.injEq, Addr.mk.injEq, and_true] at e'
        rw [e'.1, e'.2]; exact hc) 9 Try.underlying9
set_option maxRecDepth 100000 in
set_option maxHeartbeats 1000000 in
theorem numCompares_walk (a b : ByteArray) (w : World) :
    Calls Try.prog 7 #[.string a, .string b] w fun e w' => e = .returned (.bool true) ∧ Below w.heap.size w w' := by
  have T1 := Lib.hid (show Calls Try.prog 8 #[.string a, .int .i64 100] w fun e w' => e = .returned (.string (cutS a 100)) ∧ w = w' from cut_calls a 100 w (by decide))
  have T2 := Lib.hid (show Calls Try.prog 8 #[.string b, .int .i64 100] w fun e w' => e = .returned (.string (cutS b 100)) ∧ w = w' from cut_calls b 100 w (by decide))
  have sx := cutS_size a 100
  have sy := cutS_size b 100
  generalize cutS a 100 = s at *
  generalize cutS b 100 = t at *
  have CR := Lib.hid (CompareR_calls s t w (by omega) (by omega))
  obtain ⟨v1, W1, k1, y1, c1⟩ := conv w s (by omega)
  obtain ⟨v2, W2, k2, y2, c2⟩ := conv W1 t (by omega)
  have C1 := Lib.hid (show Calls Try.prog 16 #[v1, v2] W2 _ from Compare_drewN W2 v1 v2 _ _ (bsOf_ok _) (bsOf_ok _) (y1.to c2) y2 0)
  have B2 := Lib.hid (c1.trans (c2.mono c1.size))
  have ls : (bsOf s).length ≤ 1000 := by rw [bsOf_length]; omega
  have lt : (bsOf t).length ≤ 1000 := by rw [bsOf_length]; omega
  have LE := Lib.hid (fun (w : World) (v u : Value) h h' => Least_calls w v u (bsOf s) (bsOf t) (bsOf_ok _) (bsOf_ok _) ls lt h h')
  obtain ⟨z, hz⟩ : ∃ z, cmpOf (bsOf s) (bsOf t) = z := ⟨_, rfl⟩
  have hL : strOfNums (leastOf (bsOf s) (bsOf t)) = if z > 0 then t else s := by
    unfold leastOf; rw [hz]
    split
    · exact Lib.Lz.strOfNums_map t.data.toList
    · exact Lib.Lz.strOfNums_map s.data.toList
  rw [hz] at CR C1
  have CV := Lib.hid (fun (w : World) (v : Value) h => conv_back w v (leastOf (bsOf s) (bsOf t)) h)
  have KS := Lib.hid (fun w => conv w s (by omega))
  have KT := Lib.hid (fun w => conv w t (by omega))
  rw [hL] at CV
  clear y1 y2 c1 c2 hL ls lt hz sx sy
  by_cases h0 : z > 0
  · rw [if_pos h0] at CV
    go_enter Try.func7, Try.ntmps7
    go_wp2_with (first | (go_at_call 8; with_reducible refine T1.out.mono ?_; rintro e w' ⟨rfl, rfl⟩) | (go_at_call 8; with_reducible refine T2.out.mono ?_; rintro e w' ⟨rfl, rfl⟩) | (go_at_call 17; refine CR.out.mono ?_; rintro e w' ⟨rfl, rfl⟩))
    refine C1.out.mono ?_
    rintro e w3 ⟨rfl, n3, rfl⟩
    have B3 := Lib.hid (below_drewN B2.out n3)
    generalize W2.drewN n3 = w3 at *
    clear k1 k2 C1 B2 T1 T2 CR
    obtain ⟨v4, W4, k4, y4, c4⟩ := KS.out w3
    obtain ⟨v5, W5, k5, y5, c5⟩ := KT.out W4
    have L5 := Lib.hid (LE.out W5 v4 v5 (y4.to c5) y5)
    have B5 := Lib.hid ((B3.out.trans (c4.mono B3.out.size)).trans (c5.mono (Nat.le_trans B3.out.size c4.size)))
    clear y4 y5 c4 c5 KS KT LE
    go_wp2_with fail
    refine L5.out.mono ?_
    rintro e w6 ⟨⟨v6, rfl, y6⟩, b6⟩
    have k6 := CV.out w6 v6 y6
    have B6 := Lib.hid (B5.out.trans (b6.mono B5.out.size))
    clear y6 b6 k4 k5 CV
    go_wp2_with (go_at_call 13; refine (awake_calls _).mono ?_; rintro e w' ⟨rfl, hb⟩)
    go_ret
    exact ⟨rfl, B6.out.trans (hb.mono B6.out.size)⟩
  · rw [if_neg h0] at CV
    go_enter Try.func7, Try.ntmps7
    go_wp2_with (first | (go_at_call 8; with_reducible refine T1.out.mono ?_; rintro e w' ⟨rfl, rfl⟩) | (go_at_call 8; with_reducible refine T2.out.mono ?_; rintro e w' ⟨rfl, rfl⟩) | (go_at_call 17; refine CR.out.mono ?_; rintro e w' ⟨rfl, rfl⟩))
    refine C1.out.mono ?_
    rintro e w3 ⟨rfl, n3, rfl⟩
    have B3 := Lib.hid (below_drewN B2.out n3)
    generalize W2.drewN n3 = w3 at *
    clear k1 k2 C1 B2 T1 T2 CR
    obtain ⟨v4, W4, k4, y4, c4⟩ := KS.out w3
    obtain ⟨v5, W5, k5, y5, c5⟩ := KT.out W4
    have L5 := Lib.hid (LE.out W5 v4 v5 (y4.to c5) y5)
    have B5 := Lib.hid ((B3.out.trans (c4.mono B3.out.size)).trans (c5.mono (Nat.le_trans B3.out.size c4.size)))
    clear y4 y5 c4 c5 KS KT LE
    go_wp2_with fail
    refine L5.out.mono ?_
    rintro e w6 ⟨⟨v6, rfl, y6⟩, b6⟩
    have k6 := CV.out w6 v6 y6
    have B6 := Lib.hid (B5.out.trans (b6.mono B5.out.size))
    clear y6 b6 k4 k5 CV
    go_wp2_with (go_at_call 13; refine (awake_calls _).mono ?_; rintro e w' ⟨rfl, hb⟩)
    go_ret
    exact ⟨rfl, B6.out.trans (hb.mono B6.out.size)⟩
end Go.Proofs.Ytankdkappcimdaa
