/- Walks: digit, sign, magnitude, Parse. -/
import Derived.Test.YtankdkappcimdaaBase
set_option linter.unusedSimpArgs false
set_option linter.unusedVariables false
namespace Go.Proofs.Ytankdkappcimdaa
open Go.RowKit
theorem digit_calls (c : Int) (w : World) (h0 : 0 ≤ c) (h1 : c ≤ 255) : Calls Try.prog 24 #[.int .u8 c] w fun e w' => e = .returned (.tuple #[.int .u64 (if isDig c then c - 48 else 0), .bool (isDig c)]) ∧ w = w' := by
  by_cases hd : isDig c = true
  · have := (isDig_iff c).mp hd
    rw [if_pos hd, hd]
    have e1 : ¬ c < 48 := by omega
    have e2 : ¬ c > 57 := by omega
    go_enter Try.func24, Try.ntmps24
    go_wp2
    go_ret2
    exact ⟨by go_num, rfl⟩
  · have h3 : ¬ (48 ≤ c ∧ c ≤ 57) := fun h => hd ((isDig_iff c).mpr h)
    rw [if_neg hd, Bool.eq_false_iff.mpr hd]
    by_cases e1 : c < 48
    · go_enter Try.func24, Try.ntmps24
      go_wp2
      go_ret2
      exact ⟨by go_num, rfl⟩
    · have e2 : c > 57 := by omega
      go_enter Try.func24, Try.ntmps24
      go_wp2
      go_ret2
      exact ⟨by go_num, rfl⟩
theorem sign_calls (w : World) (v : Value) (l : List Int) (h : BytesAt w v l) : Calls Try.prog 19 #[v] w fun e w' => (∃ v', e = .returned (.tuple #[.bool (signOf l).1, v']) ∧ ∀ w1, (∀ k, k < w.heap.size → w1.heap[k]? = w.heap[k]?) → BytesAt w1 v' (signOf l).2) ∧ ∃ n, w' = w.drewN n := by
  have HV := Lib.hid h
  obtain ⟨a, c, rfl, h1, h2, h⟩ := h
  cases l with
  | nil =>
    go_enter Try.func19, Try.ntmps19
    go_wp2
    go_ret2
    exact ⟨⟨_, rfl, fun w1 hw => HV.out.keep hw⟩, 0, rfl⟩
  | cons x r =>
    obtain ⟨b, off, rfl, hc⟩ := h 0 (by simp)
    simp only [List.getD_cons_zero, List.length_cons, Nat.add_zero] at hc h1 ⊢
    have ht : ∀ w1 : World, (∀ k, k < w.heap.size → w1.heap[k]? = w.heap[k]?) → BytesAt w1 (.slice (some ⟨b, off + 1, none⟩) r.length (c - 1)) r := by
      intro w1 hw
      refine BytesAt.keep (w := w) ⟨_, _, rfl, by omega, by omega, fun i hi => ⟨b, off + 1, rfl, ?_⟩⟩ hw
      obtain ⟨b', off', e, hc'⟩ := h (i + 1) (by simp; omega)
      simp only [Option.some.injEq, Addr.mk.injEq, and_true] at e
      obtain ⟨rfl, rfl⟩ := e
      rw [show off + 1 + i = off + (i + 1) by omega, hc']; simp
    have hz : c = 1 → ∀ w1 : World, BytesAt w1 (.slice (some ⟨b, off, none⟩) r.length 0) r := by
      intro hc1 w1
      obtain rfl : r = [] := List.eq_nil_of_length_eq_zero (by omega)
      exact ⟨_, 0, rfl, by simp, by simp, fun i hi => by simp at hi⟩
    have HT := Lib.hid ht
    have HZ := Lib.hid hz
    unfold maxLen at h2
    clear h ht hz
    by_cases e1 : x = 45
    · subst e1
      go_enter Try.func19, Try.ntmps19
      go_wp2
      go_quiet (fail)
      go_wp2
      · have hc1 : c = 1 := by assumption
        subst hc1
        go_ret2
        exact ⟨⟨_, rfl, fun w1 _ => HZ.out rfl w1⟩, _, rfl⟩
      · go_ret2
        exact ⟨⟨_, rfl, HT.out⟩, _, rfl⟩
    · by_cases e2 : x = 43
      · subst e2
        go_enter Try.func19, Try.ntmps19
        go_wp2
        go_quiet (fail)
        go_wp2
        · have hc1 : c = 1 := by assumption
          subst hc1
          go_ret2
          exact ⟨⟨_, rfl, fun w1 _ => HZ.out rfl w1⟩, _, rfl⟩
        · go_ret2
          exact ⟨⟨_, rfl, HT.out⟩, _, rfl⟩
      · have hs : signOf (x :: r) = (false, x :: r) := by simp [signOf, e1, e2]
        rw [hs]
        have b1 : (x == 45) = false := by simpa using e1
        have b2 : (x == 43) = false := by simpa using e2
        go_enter Try.func19, Try.ntmps19
        go_wp2
        go_ret2
        exact ⟨⟨_, rfl, fun w1 hw => HV.out.keep hw⟩, 0, rfl⟩
def MagRel (w : World) (l : List Int) (n i : Value) (wr : World) : Prop := ∃ j : Nat, i = .int .i64 j ∧ j ≤ l.length ∧ n = .int .u64 (val (l.take j)) ∧ digs (l.take j) = true ∧ val (l.take j) ≤ 9223372036854775808 ∧ w = wr
theorem magnitude_calls (w : World) (v : Value) (l : List Int) (hb : BytesOk l) (h : BytesAt w v l) : Calls Try.prog 20 #[v] w fun e w' => e = .returned (.tuple #[.int .u64 (magOf l).1, .bool (magOf l).2]) ∧ w = w' := by
  obtain ⟨a, c, rfl, h1, h2, h⟩ := h
  have H := Lib.hid h
  have HB := Lib.hid hb
  unfold maxLen at h2
  obtain ⟨n, hn⟩ : ∃ n, l.length = n := ⟨_, rfl⟩
  have HN := Lib.hid hn
  rw [hn] at h1 ⊢
  clear h hn hb
  have h0 : MagRel w l (.int .u64 0) (.int .i64 0) w := ⟨0, rfl, Nat.zero_le _, rfl, rfl, (by show (0:Int) ≤ 9223372036854775808; decide), rfl⟩
  have H0 := Lib.hid h0
  clear h0
  go_enter Try.func20, Try.ntmps20
  go_wp2_with fail
  go_loopw [4, 10] (fun m i wr => MagRel w l m i wr) (fun _ i _ => n - (intOf i).toNat)
  case atStart => exact H0.out
  case round =>
    obtain ⟨j, rfl, hj, rfl, hd, hv, rfl⟩ := hrel
    rw [HN.out] at hj
    by_cases hjn : j < n
    · obtain ⟨b, off, rfl, hc⟩ := H.out j (by rw [HN.out]; exact hjn)
      have hx := HB.out _ (getD_mem l j (by rw [HN.out]; exact hjn))
      have hx0 := hx.1
      have hx1 := hx.2
      have HD := Lib.hid (digit_calls (l.getD j 0) w hx0 hx1)
      have HX := Lib.hid (magOf_not l j (by rw [HN.out]; exact hjn))
      have HY := Lib.hid (magOf_over l (j + 1))
      have HT := Lib.hid (take_snoc l j (by rw [HN.out]; exact hjn))
      have hnn := val_nonneg _ hd
      have HDT := Lib.hid hd
      clear hx hd
      obtain ⟨x, hxe⟩ : ∃ x, l.getD j 0 = x := ⟨_, rfl⟩
      obtain ⟨m, hme⟩ : ∃ m, val (l.take j) = m := ⟨_, rfl⟩
      rw [hxe] at hc hx0 hx1 HD
      rw [hme] at hv hnn ⊢
      have HXE := Lib.hid hxe
      have HME := Lib.hid hme
      clear hxe hme
      by_cases hdx : isDig x = true
      · have hr := (isDig_iff x).mp hdx
        rw [if_pos hdx, hdx] at HD
        have hr0 := hr.1
        have hr1 := hr.2
        have HV := Lib.hid (show val (l.take (j + 1)) = m * 10 + (x - 48) by rw [HT.out, val_snoc, HXE.out, HME.out])
        have HW := Lib.hid (show digs (l.take (j + 1)) = true by rw [HT.out, digs_snoc, HXE.out, HDT.out, hdx]; rfl)
        clear hdx hr
        by_cases hover : m * 10 + (x - 48) > 9223372036854775808
        · have HM := Lib.hid (HY.out (by rw [HV.out]; exact hover))
          have hq : m > (9223372036854775808 - (x - 48)) / 10 := by omega
          go_wp2_with fail
          refine HD.out.mono ?_
          rintro e w' ⟨rfl, rfl⟩
          go_wp2_with fail
          go_ret2
          exact ⟨by rw [HM.out]; rfl, rfl⟩
        · have hq : ¬ m > (9223372036854775808 - (x - 48)) / 10 := by omega
          go_wp2_with fail
          refine HD.out.mono ?_
          rintro e w' ⟨rfl, rfl⟩
          go_wp2_with fail
          go_roundw
          · exact ⟨j + 1, by go_num, by rw [HN.out]; omega, by rw [HV.out], HW.out, by rw [HV.out]; omega, rfl⟩
          · simp [intOf]; omega
      · have HM := Lib.hid (HX.out (by rw [HXE.out]; exact Bool.eq_false_iff.mpr hdx))
        rw [if_neg hdx, Bool.eq_false_iff.mpr hdx] at HD
        clear hdx
        go_wp2_with fail
        refine HD.out.mono ?_
        rintro e w' ⟨rfl, rfl⟩
        go_wp2_with fail
        go_ret2
        exact ⟨by rw [HM.out]; rfl, rfl⟩
    · obtain rfl : j = n := by omega
      have HM : magOf l = if j = 0 then (0, false) else (val l, true) := by
        rw [List.take_of_length_le (by rw [HN.out]; exact Nat.le_refl _)] at hd hv
        unfold magOf
        by_cases h0 : j = 0
        · rw [if_pos h0, if_neg]
          rintro ⟨h, _⟩
          exact h (List.eq_nil_of_length_eq_zero (by rw [HN.out, h0]))
        · rw [if_neg h0, if_pos ⟨by rintro rfl; exact h0 HN.out.symm, hd, hv⟩]
      have HT := Lib.hid (show val (l.take j) = val l by rw [List.take_of_length_le (by rw [HN.out]; exact Nat.le_refl _)])
      rw [HT.out] at hv ⊢
      have HM := Lib.hid HM
      clear hd
      by_cases h0 : j = 0
      · subst h0
        have HZ := Lib.hid (show val l = 0 by rw [← HT.out]; rfl)
        go_wp2_with fail
        go_ret2
        exact ⟨by simp [HZ.out], rfl⟩
      · go_wp2_with fail
        go_ret2
        exact ⟨by rw [HM.out, if_neg h0]; simp; omega, rfl⟩
theorem signOf_ok {l : List Int} (h : BytesOk l) : BytesOk (signOf l).2 := by
  cases l with
  | nil => exact h
  | cons x r =>
    have hr : BytesOk r := fun y hy => h y (List.mem_cons_of_mem _ hy)
    by_cases h1 : x = 45
    · simpa [signOf, h1] using hr
    · by_cases h2 : x = 43
      · simpa [signOf, h1, h2] using hr
      · simpa [signOf, h1, h2] using h
theorem magOf_range (l : List Int) : 0 ≤ (magOf l).1 ∧ (magOf l).1 ≤ 9223372036854775808 := by
  unfold magOf
  split
  · rename_i h; exact ⟨val_nonneg _ h.2.1, h.2.2⟩
  · decide
def parseBy (b : Bool) (m : Int) (k : Bool) : Int × Bool := if k = false ∨ (b = false ∧ m = 9223372036854775808) then (0, false) else if b = true then (-m, true) else (m, true)
theorem parseOf_by (l : List Int) : parseOf l = parseBy (signOf l).1 (magOf (signOf l).2).1 (magOf (signOf l).2).2 := rfl
theorem neg_back (m : Int) (h0 : 0 ≤ m) (h1 : m ≤ 9223372036854775808) : wrap64 (IntKind.u64.wrap (-m)) = -m := by
  have : IntKind.u64.wrap (-m) = (-m) % 18446744073709551616 := rfl
  rw [this]; unfold wrap64; omega
theorem Parse_by (w : World) (v : Value) (b : Bool) (l' : List Int) (m : Int) (k : Bool) (hm0 : 0 ≤ m) (hm1 : m ≤ 9223372036854775808)
    (hs : Calls Try.prog 19 #[v] w fun e w' => (∃ v', e = .returned (.tuple #[.bool b, v']) ∧ ∀ w1, (∀ k, k < w.heap.size → w1.heap[k]? = w.heap[k]?) → BytesAt w1 v' l') ∧ ∃ n, w' = w.drewN n)
    (hg : ∀ w' v', BytesAt w' v' l' → Calls Try.prog 20 #[v'] w' fun e w'' => e = .returned (.tuple #[.int .u64 m, .bool k]) ∧ w' = w'') :
    Calls Try.prog 9 #[v] w fun e w' => e = .returned (.tuple #[.int .i64 (parseBy b m k).1, .bool (parseBy b m k).2]) ∧ ∃ n, w' = w.drewN n := by
  have HS := Lib.hid hs
  have HG := Lib.hid hg
  clear hs hg
  go_enter Try.func9, Try.ntmps9
  go_wp2_with fail
  refine HS.out.mono ?_
  rintro e w' ⟨⟨v', rfl, hv⟩, n, rfl⟩
  have HM := Lib.hid (HG.out _ v' (hv (w.drewN n) fun _ _ => rfl))
  clear hv HG HS
  cases k with
  | false =>
    have HE := Lib.hid (show parseBy b m false = (0, false) by simp [parseBy])
    go_wp2_with fail
    refine HM.out.mono ?_
    rintro e w' ⟨rfl, rfl⟩
    go_wp2_with fail
    go_ret2
    exact ⟨by rw [HE.out]; rfl, n, rfl⟩
  | true =>
    cases b with
    | true =>
      have HE := Lib.hid (show parseBy true m true = (-m, true) by simp [parseBy])
      go_wp2_with fail
      refine HM.out.mono ?_
      rintro e w' ⟨rfl, rfl⟩
      go_wp2_with fail
      go_ret2
      exact ⟨by rw [HE.out]; simp [neg_back m hm0 hm1], n, rfl⟩
    | false =>
      by_cases hq : m = 9223372036854775808
      · have HE := Lib.hid (show parseBy false m true = (0, false) by simp [parseBy, hq])
        go_wp2_with fail
        refine HM.out.mono ?_
        rintro e w' ⟨rfl, rfl⟩
        go_wp2_with fail
        go_ret2
        exact ⟨by rw [HE.out]; rfl, n, rfl⟩
      · have HE := Lib.hid (show parseBy false m true = (m, true) by simp [parseBy, hq])
        go_wp2_with fail
        refine HM.out.mono ?_
        rintro e w' ⟨rfl, rfl⟩
        go_wp2_with fail
        go_ret2
        exact ⟨by rw [HE.out]; go_num, n, rfl⟩
theorem Parse_calls (w : World) (v : Value) (l : List Int) (hb : BytesOk l) (h : BytesAt w v l) : Calls Try.prog 9 #[v] w fun e w' => e = .returned (.tuple #[.int .i64 (parseOf l).1, .bool (parseOf l).2]) ∧ ∃ n, w' = w.drewN n :=
  Parse_by w v _ _ _ _ (magOf_range _).1 (magOf_range _).2 (sign_calls w v l h) fun w' v' h' => magnitude_calls w' v' _ (signOf_ok hb) h'
end Go.Proofs.Ytankdkappcimdaa
