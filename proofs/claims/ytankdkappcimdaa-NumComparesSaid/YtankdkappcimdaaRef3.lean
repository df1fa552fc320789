/- Walk: the document's Parse is the chapter's. (Written by gen_ref3.py.) -/
import Derived.Test.YtankdkappcimdaaRef2
import Derived.Deep.DeepCutAuto
import Derived.Deep.CutBlock
set_option linter.unusedSimpArgs false
set_option linter.unusedVariables false
namespace Go.Proofs.Ytankdkappcimdaa
open Go.RowKit
def ScanRel (s : ByteArray) (w : World) (i : Value) (wr : World) : Prop := ∃ j : Nat, i = .int .i64 j ∧ j ≤ s.size ∧ digs ((bsOf s).take j) = true ∧ w = wr
def sgn (b : Bool) (n : Int) : Int := if b then -n else n
def SumRel (b : Bool) (t : ByteArray) (w : World) (n i : Value) (wr : World) : Prop := ∃ j : Nat, i = .int .i64 j ∧ j ≤ t.size ∧ n = .int .i64 (sgn b (val ((bsOf t).take j))) ∧ w = wr
def hasSign : List Int → Bool
  | [] => false
  | c :: _ => c == 43 || c == 45
def CutRel (l : List Int) (w : World) (v0 v4 : Value) (wr : World) : Prop := ∃ s1 : ByteArray, v0 = .string s1 ∧ bsOf s1 = (signOf l).2 ∧ v4 = .bool (signOf l).1 ∧ s1.size ≤ 1000 ∧ w = wr
set_option maxRecDepth 100000 in
set_option maxHeartbeats 1000000 in
theorem ParseR_calls (s : ByteArray) (w : World) (hs : s.size ≤ 1000) : Calls Try.prog 10 #[.string s] w fun e w' => e = .returned (.tuple #[.int .i64 (parseOf (bsOf s)).1, .bool (parseOf (bsOf s)).2]) ∧ w = w' := by
  obtain ⟨p, hp⟩ : ∃ p, parseOf (bsOf s) = p := ⟨_, rfl⟩
  have HP0 := Lib.hid hp
  rw [hp]
  clear hp
  have HX := Lib.hid (bsOf_at s 0)
  obtain ⟨l, hl⟩ : ∃ l, bsOf s = l := ⟨_, rfl⟩
  have HLE := Lib.hid hl
  have HSZ := Lib.hid (show l.length = s.size by rw [← hl, bsOf_length])
  go_enter Try.func10, Try.ntmps10
  go_upto_region 2 with (fail)
  go_cut [21] (fun v wc => v = .bool (hasSign l) ∧ w = wc)
  case first =>
    cases l with
    | nil =>
      have hz : s.size = 0 := by rw [← HSZ.out]; rfl
      clear hl
      go_wp2
      go_meet
      case rel => exact ⟨rfl, rfl⟩
    | cons c r =>
      have hz : 0 < s.size := by rw [← HSZ.out]; simp
      have hq := eq_true hz
      have hx : ∀ h : 0 < s.size, ((s[0]'h).toNat : Int) = c := fun h => by rw [HX.out h, hl]; rfl
      clear hl
      by_cases h1 : c = 43
      · subst h1
        go_wp2
        go_meet
        case rel => exact ⟨rfl, rfl⟩
      · have hb1 : (c == 43) = false := by simpa using h1
        have HH := Lib.hid (show hasSign (c :: r) = (c == 45) by simp [hasSign, h1])
        by_cases h2 : c = 45
        · subst h2
          go_wp2
          go_meet
          case rel => exact ⟨rfl, rfl⟩
        · have hb2 : (c == 45) = false := by simpa using h2
          go_wp2
          go_meet
          case rel => exact ⟨by simp [hasSign, h1, h2], rfl⟩
  case rest =>
    obtain ⟨rfl, rfl⟩ := hcut
    go_upto_if 21 with (fail)
    go_cut [0, 4] (fun v0 v4 wc => CutRel l w v0 v4 wc)
    case first =>
      cases l with
      | nil =>
        have HH := Lib.hid (show CutRel [] w (.string s) (.bool false) w from ⟨s, rfl, HLE.out, rfl, hs, rfl⟩)
        clear hl
        rw [show hasSign [] = false from rfl]
        go_wp2
        go_meet
        case rel => exact HH.out
      | cons c r =>
        have hz : 0 < s.size := by rw [← HSZ.out]; simp
        have hq := eq_true hz
        have hx : ∀ h : 0 < s.size, ((s[0]'h).toNat : Int) = c := fun h => by rw [HX.out h, hl]; rfl
        have hbt : bsOf (s.extract 1 s.size) = r := by rw [bsOf_tail, hl]; rfl
        have HBT := Lib.hid hbt
        have hse : (s.extract 1 s.size).size ≤ 1000 := by simp; omega
        have HSE := Lib.hid hse
        clear hl hbt hse
        by_cases h1 : c = 43
        · subst h1
          have HH := Lib.hid (show CutRel (43 :: r) w (.string (s.extract 1 s.size)) (.bool false) w from ⟨_, rfl, HBT.out, rfl, HSE.out, rfl⟩)
          rw [show hasSign (43 :: r) = true from rfl]
          go_wp2
          go_meet
          case rel => exact HH.out
        · by_cases h2 : c = 45
          · subst h2
            have HH := Lib.hid (show CutRel (45 :: r) w (.string (s.extract 1 s.size)) (.bool true) w from ⟨_, rfl, HBT.out, rfl, HSE.out, rfl⟩)
            rw [show hasSign (45 :: r) = true from rfl]
            go_wp2
            go_meet
            case rel => exact HH.out
          · have HH := Lib.hid (show CutRel (c :: r) w (.string s) (.bool false) w from ⟨s, rfl, by rw [HLE.out]; simp [signOf, h1, h2], by simp [signOf, h1, h2], hs, rfl⟩)
            rw [show hasSign (c :: r) = false by simp [hasSign, h1, h2]]
            go_wp2
            go_meet
            case rel => exact HH.out
    case rest =>
      obtain ⟨s1, rfl, hs1b, rfl, hs1, rfl⟩ := hcut
      rw [← HLE.out] at hs1b ⊢
      have HS := Lib.hid hs1b
      obtain ⟨b, hb⟩ : ∃ b, (signOf (bsOf s)).1 = b := ⟨_, rfl⟩
      have HG := Lib.hid hb
      rw [hb]
      clear hs1b hb hl HLE HSZ HX
      cases b with
      | true =>
        by_cases hz : s1.size = 0
        · have hem : s1.toList.isEmpty = true := by
            rw [List.isEmpty_iff, ByteArray.toList_eq]; exact List.eq_nil_of_length_eq_zero (by rw [Array.length_toList]; exact hz)
          have HP := Lib.hid (show p = (0, false) by
            rw [← HP0.out]; refine parse_none _ ?_
            rw [← HS.out, List.eq_nil_of_length_eq_zero (l := bsOf s1) (by rw [bsOf_length, hz])]; rfl)
          clear hz
          go_wp2_with fail
          go_ret2
          exact ⟨by rw [HP.out]; rfl, rfl⟩
        · have hem : s1.toList.isEmpty = false := by
            rw [List.isEmpty_eq_false_iff, ByteArray.toList_eq]; intro h0
            have : s1.data.size = 0 := by rw [← Array.length_toList, h0]; rfl
            exact hz this
          have HNE := Lib.hid (show bsOf s1 ≠ [] from fun h0 => hz (by rw [← bsOf_length, h0]; rfl))
          clear hz
          go_wp2_with fail
          go_loopw [5] (fun i wr => ScanRel s1 w i wr) (fun i _ => s1.size - (intOf i).toNat)
          case atStart => exact ⟨0, rfl, Nat.zero_le _, rfl, rfl⟩
          case round =>
            obtain ⟨j, rfl, hj, hd, rfl⟩ := hrel
            have HD := Lib.hid hd
            clear hd
            by_cases hjs : j < s1.size
            · have hx := bsOf_at s1 j
              have HT := Lib.hid (take_snoc (bsOf s1) j (by rw [bsOf_length]; exact hjs))
              have HM := Lib.hid (magOf_not (bsOf s1) j (by rw [bsOf_length]; exact hjs))
              obtain ⟨x, hxe⟩ : ∃ x, (bsOf s1).getD j 0 = x := ⟨_, rfl⟩
              rw [hxe] at hx HT HM
              have HC := Lib.hid (digit_ref_calls x w)
              have hq := eq_true hjs
              clear hxe
              by_cases hdx : isDig x = true
              · have HN := Lib.hid (show digs ((bsOf s1).take (j + 1)) = true by rw [HT.out, digs_snoc, HD.out, hdx]; rfl)
                rw [hdx] at HC
                clear hdx
                go_wp2_with (go_at_call 21; refine HC.out.mono ?_; rintro e w' ⟨rfl, rfl⟩)
                go_roundw
                · exact ⟨j + 1, by go_num, by omega, HN.out, rfl⟩
                · simp [intOf]; omega
              · have HP := Lib.hid (show p = (0, false) by rw [← HP0.out]; refine parse_none _ ?_; rw [← HS.out]; exact HM.out (Bool.eq_false_iff.mpr hdx))
                rw [Bool.eq_false_iff.mpr hdx] at HC
                clear hdx
                go_wp2_with (go_at_call 21; refine HC.out.mono ?_; rintro e w' ⟨rfl, rfl⟩)
                go_ret2
                exact ⟨by rw [HP.out]; rfl, rfl⟩
            · obtain rfl : j = s1.size := by omega
              have hd := HD.out
              rw [List.take_of_length_le (by rw [bsOf_length]; exact Nat.le_refl _)] at hd
              have HB := Lib.hid (bare_calls s1 w hs1)
              have HPD := Lib.hid (parse_digits (bsOf s) true (bsOf s1) (Prod.ext HG.out HS.out.symm) hd HNE.out)
              have HL := Lib.hid (fun t ht => less_top true (bsOf s1) t hd HNE.out ht)
              have HF := Lib.hid (bareL_facts (bsOf s1) hd HNE.out)
              clear hd
              go_wp2_with fail
              refine HB.out.mono ?_
              rintro e w' ⟨⟨t, rfl, ht, hts⟩, rfl⟩
              have HLC := Lib.hid (less_calls (topOf true) t w (by decide) hts)
              rw [HL.out t ht] at HLC
              have HTB := Lib.hid ht
              clear ht
              rw [HP0.out] at HPD
              by_cases hv : topN true < val (bsOf s1)
              · rw [decide_eq_true hv] at HLC
                rw [if_pos hv] at HPD
                clear hv
                go_wp2_with (go_at_call 23; refine HLC.out.mono ?_; rintro e w' ⟨rfl, rfl⟩)
                go_ret2
                exact ⟨by rw [HPD.out]; rfl, rfl⟩
              · rw [decide_eq_false hv] at HLC
                rw [if_neg hv] at HPD
                have HV := Lib.hid (show val (bsOf t) ≤ topN true by rw [HTB.out, HF.out.2.1]; omega)
                have HDT := Lib.hid (show digs (bsOf t) = true by rw [HTB.out]; exact HF.out.1)
                have HVE := Lib.hid (show val (bsOf t) = val (bsOf s1) by rw [HTB.out, HF.out.2.1])
                clear hv HF HTB HL HB
                go_wp2_with (go_at_call 23; refine HLC.out.mono ?_; rintro e w' ⟨rfl, rfl⟩)
                go_loopw [7, 8] (fun n i wr => SumRel true t w n i wr) (fun _ i _ => t.size - (intOf i).toNat)
                case atStart => exact ⟨0, rfl, Nat.zero_le _, rfl, rfl⟩
                case round =>
                  obtain ⟨j, rfl, hj, rfl, rfl⟩ := hrel
                  by_cases hjs : j < t.size
                  · have hx := bsOf_at t j
                    have HT := Lib.hid (take_snoc (bsOf t) j (by rw [bsOf_length]; exact hjs))
                    have hvl := val_take_le (bsOf t) (j + 1) HDT.out
                    have hd1 := digs_take (bsOf t) (j + 1) HDT.out
                    have hn0 := val_nonneg _ (digs_take (bsOf t) j HDT.out)
                    rw [HT.out, digs_snoc] at hd1
                    rw [HT.out, val_snoc] at hvl
                    obtain ⟨x, hxe⟩ : ∃ x, (bsOf t).getD j 0 = x := ⟨_, rfl⟩
                    rw [hxe] at hx HT hvl hd1
                    have hxd := (isDig_iff x).mp (by simp only [Bool.and_eq_true] at hd1; exact hd1.2)
                    have hx0 := hxd.1
                    have hx1 := hxd.2
                    have hvt := HV.out
                    simp only [topN, if_true, Bool.false_eq_true, if_false] at hvt
                    have hq := eq_true hjs
                    obtain ⟨m, hm⟩ : ∃ m, val ((bsOf t).take j) = m := ⟨_, rfl⟩
                    have HN := Lib.hid (show val ((bsOf t).take (j + 1)) = m * 10 + (x - 48) by rw [HT.out, val_snoc, hm])
                    rw [hm] at hvl hn0
                    have hbig : m * 10 + (x - 48) ≤ 9223372036854775808 := by omega
                    simp only [sgn, if_true, Bool.false_eq_true, if_false]
                    rw [hm]
                    clear hxe hd1 hxd hvt hvl hm
                    go_wp2_with fail
                    go_roundw
                    · refine ⟨j + 1, by go_num, by omega, ?_, rfl⟩
                      rw [HN.out]
                      simp only [sgn, if_true, Bool.false_eq_true, if_false]
                      exact congrArg _ (by first | omega | (unfold wrap64; omega))
                    · simp [intOf]; omega
                  · obtain rfl : j = t.size := by omega
                    have HE := Lib.hid (show val ((bsOf t).take t.size) = val (bsOf s1) by rw [List.take_of_length_le (by rw [bsOf_length]; exact Nat.le_refl _), HVE.out])
                    rw [HE.out]
                    go_wp2_with fail
                    go_ret2
                    exact ⟨by rw [HPD.out]; rfl, rfl⟩
      | false =>
        by_cases hz : s1.size = 0
        · have hem : s1.toList.isEmpty = true := by
            rw [List.isEmpty_iff, ByteArray.toList_eq]; exact List.eq_nil_of_length_eq_zero (by rw [Array.length_toList]; exact hz)
          have HP := Lib.hid (show p = (0, false) by
            rw [← HP0.out]; refine parse_none _ ?_
            rw [← HS.out, List.eq_nil_of_length_eq_zero (l := bsOf s1) (by rw [bsOf_length, hz])]; rfl)
          clear hz
          go_wp2_with fail
          go_ret2
          exact ⟨by rw [HP.out]; rfl, rfl⟩
        · have hem : s1.toList.isEmpty = false := by
            rw [List.isEmpty_eq_false_iff, ByteArray.toList_eq]; intro h0
            have : s1.data.size = 0 := by rw [← Array.length_toList, h0]; rfl
            exact hz this
          have HNE := Lib.hid (show bsOf s1 ≠ [] from fun h0 => hz (by rw [← bsOf_length, h0]; rfl))
          clear hz
          go_wp2_with fail
          go_loopw [5] (fun i wr => ScanRel s1 w i wr) (fun i _ => s1.size - (intOf i).toNat)
          case atStart => exact ⟨0, rfl, Nat.zero_le _, rfl, rfl⟩
          case round =>
            obtain ⟨j, rfl, hj, hd, rfl⟩ := hrel
            have HD := Lib.hid hd
            clear hd
            by_cases hjs : j < s1.size
            · have hx := bsOf_at s1 j
              have HT := Lib.hid (take_snoc (bsOf s1) j (by rw [bsOf_length]; exact hjs))
              have HM := Lib.hid (magOf_not (bsOf s1) j (by rw [bsOf_length]; exact hjs))
              obtain ⟨x, hxe⟩ : ∃ x, (bsOf s1).getD j 0 = x := ⟨_, rfl⟩
              rw [hxe] at hx HT HM
              have HC := Lib.hid (digit_ref_calls x w)
              have hq := eq_true hjs
              clear hxe
              by_cases hdx : isDig x = true
              · have HN := Lib.hid (show digs ((bsOf s1).take (j + 1)) = true by rw [HT.out, digs_snoc, HD.out, hdx]; rfl)
                rw [hdx] at HC
                clear hdx
                go_wp2_with (go_at_call 21; refine HC.out.mono ?_; rintro e w' ⟨rfl, rfl⟩)
                go_roundw
                · exact ⟨j + 1, by go_num, by omega, HN.out, rfl⟩
                · simp [intOf]; omega
              · have HP := Lib.hid (show p = (0, false) by rw [← HP0.out]; refine parse_none _ ?_; rw [← HS.out]; exact HM.out (Bool.eq_false_iff.mpr hdx))
                rw [Bool.eq_false_iff.mpr hdx] at HC
                clear hdx
                go_wp2_with (go_at_call 21; refine HC.out.mono ?_; rintro e w' ⟨rfl, rfl⟩)
                go_ret2
                exact ⟨by rw [HP.out]; rfl, rfl⟩
            · obtain rfl : j = s1.size := by omega
              have hd := HD.out
              rw [List.take_of_length_le (by rw [bsOf_length]; exact Nat.le_refl _)] at hd
              have HB := Lib.hid (bare_calls s1 w hs1)
              have HPD := Lib.hid (parse_digits (bsOf s) false (bsOf s1) (Prod.ext HG.out HS.out.symm) hd HNE.out)
              have HL := Lib.hid (fun t ht => less_top false (bsOf s1) t hd HNE.out ht)
              have HF := Lib.hid (bareL_facts (bsOf s1) hd HNE.out)
              clear hd
              go_wp2_with fail
              refine HB.out.mono ?_
              rintro e w' ⟨⟨t, rfl, ht, hts⟩, rfl⟩
              have HLC := Lib.hid (less_calls (topOf false) t w (by decide) hts)
              rw [HL.out t ht] at HLC
              have HTB := Lib.hid ht
              clear ht
              rw [HP0.out] at HPD
              by_cases hv : topN false < val (bsOf s1)
              · rw [decide_eq_true hv] at HLC
                rw [if_pos hv] at HPD
                clear hv
                go_wp2_with (go_at_call 23; refine HLC.out.mono ?_; rintro e w' ⟨rfl, rfl⟩)
                go_ret2
                exact ⟨by rw [HPD.out]; rfl, rfl⟩
              · rw [decide_eq_false hv] at HLC
                rw [if_neg hv] at HPD
                have HV := Lib.hid (show val (bsOf t) ≤ topN false by rw [HTB.out, HF.out.2.1]; omega)
                have HDT := Lib.hid (show digs (bsOf t) = true by rw [HTB.out]; exact HF.out.1)
                have HVE := Lib.hid (show val (bsOf t) = val (bsOf s1) by rw [HTB.out, HF.out.2.1])
                clear hv HF HTB HL HB
                go_wp2_with (go_at_call 23; refine HLC.out.mono ?_; rintro e w' ⟨rfl, rfl⟩)
                go_loopw [7, 8] (fun n i wr => SumRel false t w n i wr) (fun _ i _ => t.size - (intOf i).toNat)
                case atStart => exact ⟨0, rfl, Nat.zero_le _, rfl, rfl⟩
                case round =>
                  obtain ⟨j, rfl, hj, rfl, rfl⟩ := hrel
                  by_cases hjs : j < t.size
                  · have hx := bsOf_at t j
                    have HT := Lib.hid (take_snoc (bsOf t) j (by rw [bsOf_length]; exact hjs))
                    have hvl := val_take_le (bsOf t) (j + 1) HDT.out
                    have hd1 := digs_take (bsOf t) (j + 1) HDT.out
                    have hn0 := val_nonneg _ (digs_take (bsOf t) j HDT.out)
                    rw [HT.out, digs_snoc] at hd1
                    rw [HT.out, val_snoc] at hvl
                    obtain ⟨x, hxe⟩ : ∃ x, (bsOf t).getD j 0 = x := ⟨_, rfl⟩
                    rw [hxe] at hx HT hvl hd1
                    have hxd := (isDig_iff x).mp (by simp only [Bool.and_eq_true] at hd1; exact hd1.2)
                    have hx0 := hxd.1
                    have hx1 := hxd.2
                    have hvt := HV.out
                    simp only [topN, if_true, Bool.false_eq_true, if_false] at hvt
                    have hq := eq_true hjs
                    obtain ⟨m, hm⟩ : ∃ m, val ((bsOf t).take j) = m := ⟨_, rfl⟩
                    have HN := Lib.hid (show val ((bsOf t).take (j + 1)) = m * 10 + (x - 48) by rw [HT.out, val_snoc, hm])
                    rw [hm] at hvl hn0
                    have hbig : m * 10 + (x - 48) ≤ 9223372036854775807 := by omega
                    simp only [sgn, if_true, Bool.false_eq_true, if_false]
                    rw [hm]
                    clear hxe hd1 hxd hvt hvl hm
                    go_wp2_with fail
                    go_roundw
                    · refine ⟨j + 1, by go_num, by omega, ?_, rfl⟩
                      rw [HN.out]
                      simp only [sgn, if_true, Bool.false_eq_true, if_false]
                      exact congrArg _ (by first | omega | (unfold wrap64; omega))
                    · simp [intOf]; omega
                  · obtain rfl : j = t.size := by omega
                    have HE := Lib.hid (show val ((bsOf t).take t.size) = val (bsOf s1) by rw [List.take_of_length_le (by rw [bsOf_length]; exact Nat.le_refl _), HVE.out])
                    rw [HE.out]
                    go_wp2_with fail
                    go_ret2
                    exact ⟨by rw [HPD.out]; rfl, rfl⟩
end Go.Proofs.Ytankdkappcimdaa
