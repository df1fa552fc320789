/- Each number's text is parsed as it: the law's walk. -/
import Derived.Test.YtankdkappcimdaaBack
set_option linter.unusedSimpArgs false
set_option linter.unusedVariables false
namespace Go.Proofs.Ytankdkappcimdaa
open Go.RowKit
def BkRel (w : World) (D : List Int) (u : Nat) (i d : Value) (wr : World) : Prop := ∃ (j : Nat) (t : ByteArray), i = .int .i64 j ∧ d = .string t ∧ j ≤ u ∧ bsOf t = List.replicate j 48 ++ D ∧ w = wr
theorem Parse_drewN (w : World) (v : Value) (l : List Int) (hl : BytesOk l) (h : BytesAt w v l) (p : Int × Bool) (hp : parseOf l = p) (n : Nat) :
    Calls Try.prog 9 #[v] (w.drewN n) fun e w' => e = .returned (.tuple #[.int .i64 p.1, .bool p.2]) ∧ ∃ n, w' = w.drewN n := by
  subst hp
  exact (Parse_calls _ v l hl (h.drewN n)).mono fun _ _ ⟨e, k, h⟩ => ⟨e, n + k, by rw [h, World.drewN_drewN]⟩
set_option maxRecDepth 100000 in
set_option maxHeartbeats 1000000 in
theorem numBack_walk (n m x : Int) (w : World) (h0 : -9223372036854775808 ≤ n) (h1 : n ≤ 9223372036854775807) (h2 : -9223372036854775808 ≤ m) (h3 : m ≤ 9223372036854775807) (h4 : 0 ≤ x) (h5 : x ≤ 255) :
    Calls Try.prog 6 #[.int .i64 n, .int .i64 m, .int .u8 x] w fun e w' => e = .returned (.bool true) ∧ Below w.heap.size w w' := by
  have TN := Lib.hid (fun w => Text_calls n w h0 h1)
  have TM := Lib.hid (fun w => Text_calls m w h2 h3)
  have bn := bsOf_str (texOf n) (texOf_ok n)
  have bm := bsOf_str (texOf m) (texOf_ok m)
  have hpn := parse_text n h0 h1
  have hpk := fun k => parse_marked n k h0 h1
  have hcm := cmp_texts n m h0 h1 h2 h3
  have hln := decN_length n.natAbs (by omega)
  have hlm := decN_length m.natAbs (by omega)
  have sn : (strOfNums (texOf n)).size ≤ 20 := by
    rw [← bsOf_length, bn]; unfold texOf; split
    · simp; omega
    · omega
  have sm : (strOfNums (texOf m)).size ≤ 20 := by
    rw [← bsOf_length, bm]; unfold texOf; split
    · simp; omega
    · omega
  obtain ⟨t, ht⟩ : ∃ t, strOfNums (texOf n) = t := ⟨_, rfl⟩
  obtain ⟨q, hq⟩ : ∃ t, strOfNums (texOf m) = t := ⟨_, rfl⟩
  rw [ht] at TN bn sn
  rw [hq] at TM bm sm
  have HPK := Lib.hid hpk
  have HCM := Lib.hid hcm
  have HPN := Lib.hid hpn
  have BN := Lib.hid bn
  have BM := Lib.hid bm
  clear hpk hcm hpn bm ht hq hlm
  go_enter Try.func6, Try.ntmps6
  go_wp2_with fail
  refine (TN.out _).mono ?_
  rintro e w1 ⟨rfl, b1⟩
  obtain ⟨v1, W1, k1, y1, c1⟩ := conv w1 t (by omega)
  have B1 := Lib.hid (b1.trans (c1.mono b1.size))
  have P1 := Lib.hid (show Calls Try.prog 9 #[v1] W1 _ from Parse_drewN W1 v1 _ (bsOf_ok t) y1 (n, true) (by rw [BN.out, HPN.out]) 0)
  clear y1 c1 b1
  go_wp2_with fail
  refine P1.out.mono ?_
  rintro e w2 ⟨rfl, n2, rfl⟩
  have B2 := Lib.hid (below_drewN B1.out n2)
  generalize W1.drewN n2 = w2 at *
  clear k1 B1 P1
  by_cases hneg : n < 0
  · have hte : bsOf t = 45 :: decN n.natAbs := by rw [bn, texOf, if_pos hneg]
    have hne : 0 < t.size := by rw [← bsOf_length, hte]; simp
    have HT := Lib.hid hte
    have hem : t.toList.isEmpty = false := by
      rw [List.isEmpty_eq_false_iff]; intro h0
      have h1 : t.data.toList = [] := by rw [← h0]; exact (ByteArray.toList_eq t).symm
      have : t.data.size = 0 := by rw [← Array.length_toList, h1]; rfl
      have : t.size = 0 := this
      omega
    have HD := Lib.hid (show bsOf (t.extract 1 t.size) = List.replicate 0 48 ++ decN n.natAbs by rw [bsOf_tail, HT.out]; rfl)
    clear bn hte
    go_wp2_with fail
    go_loopw [10, 12] (fun d i wr => BkRel w2 (decN n.natAbs) (x % 30).toNat i d wr) (fun _ i _ => (x % 30).toNat - (intOf i).toNat)
    case atStart => exact ⟨0, _, rfl, rfl, Nat.zero_le _, HD.out, rfl⟩
    case round =>
      obtain ⟨j, d, rfl, rfl, hj, hd, rfl⟩ := hrel
      have HJ := Lib.hid hd
      have hdl : d.size ≤ 60 := by
        rw [← bsOf_length, hd, List.length_append, List.length_replicate]; omega
      clear hd
      by_cases hjx : (j : Int) < x % 30
      · go_wp2_with fail
        go_roundw
        · refine ⟨j + 1, ⟨#[48]⟩ ++ d, by go_num, by go_num, by omega, ?_, rfl⟩
          rw [bsOf_append, HJ.out]; rfl
        · simp [intOf]; omega
      · have hs2 : ((⟨#[45]⟩ : ByteArray) ++ d).size ≤ 1000 := by rw [← bsOf_length, bsOf_append, List.length_append, bsOf_length d]; simp [bsOf]; omega
        have hb2 : bsOf ((⟨#[45]⟩ : ByteArray) ++ d) = (if n < 0 then 45 else 43) :: (List.replicate j 48 ++ decN n.natAbs) := by rw [bsOf_append, HJ.out, if_pos hneg]; rfl
        obtain ⟨v3, W3, k3, y3, c3⟩ := conv w2 ((⟨#[45]⟩ : ByteArray) ++ d) hs2
        have P3 := Lib.hid (show Calls Try.prog 9 #[v3] W3 _ from Parse_drewN W3 v3 _ (bsOf_ok _) y3 (n, true) (by rw [hb2, HPK.out]) 0)
        have B3 := Lib.hid (B2.out.trans (c3.mono B2.out.size))
        clear hs2 hb2 y3 c3
        go_wp2_with fail
        refine P3.out.mono ?_
        rintro e w4 ⟨rfl, n4, rfl⟩
        have B4 := Lib.hid (below_drewN B3.out n4)
        generalize W3.drewN n4 = w4 at *
        clear k3 B3 P3
        obtain ⟨v5, W5, k5, y5, c5⟩ := conv w4 t (by omega)
        go_wp2_with fail
        refine (TM.out _).mono ?_
        rintro e w6 ⟨rfl, b6⟩
        obtain ⟨v7, W7, k7, y7, c7⟩ := conv w6 q (by omega)
        have HC := Lib.hid (show Calls Try.prog 16 #[v5, v7] W7 fun e w' => e = .returned (.int .i64 (cmpI n m)) ∧ ∃ n, w' = W7.drewN n by
          have h := Compare_drewN W7 v5 v7 _ _ (bsOf_ok _) (bsOf_ok _) ((y5.to b6).to c7) y7 0
          rw [BN.out, BM.out, HCM.out] at h
          exact h)
        have B7 := Lib.hid (((B4.out.trans (c5.mono B4.out.size)).trans (b6.mono (Nat.le_trans B4.out.size c5.size))).trans (c7.mono (Nat.le_trans (Nat.le_trans B4.out.size c5.size) b6.size)))
        clear k5 y5 c5 y7 c7 b6
        rcases cmpI_range n m with ⟨hz, hnm⟩ | ⟨hz, hnm⟩ | ⟨hz, hnm⟩
        · rw [hz] at HC
          have hmn1 : ¬ m < n := by omega
          clear hz
          go_wp2_with fail
          refine HC.out.mono ?_
          rintro e w8 ⟨rfl, n8, rfl⟩
          have B8 := Lib.hid (below_drewN B7.out n8)
          generalize W7.drewN n8 = w8 at *
          go_wp2_with (go_at_call 13; refine (awake_calls _).mono ?_; rintro e w' ⟨rfl, hb⟩)
          go_ret
          exact ⟨by first | rfl | (simp; omega), B8.out.trans (hb.mono B8.out.size)⟩
        · rw [hz] at HC
          subst hnm
          clear hz
          go_wp2_with fail
          refine HC.out.mono ?_
          rintro e w8 ⟨rfl, n8, rfl⟩
          have B8 := Lib.hid (below_drewN B7.out n8)
          generalize W7.drewN n8 = w8 at *
          go_wp2_with (go_at_call 13; refine (awake_calls _).mono ?_; rintro e w' ⟨rfl, hb⟩)
          go_ret
          exact ⟨by first | rfl | (simp; omega), B8.out.trans (hb.mono B8.out.size)⟩
        · rw [hz] at HC
          have hmn1 : ¬ n < m := by omega
          clear hz
          go_wp2_with fail
          refine HC.out.mono ?_
          rintro e w8 ⟨rfl, n8, rfl⟩
          have B8 := Lib.hid (below_drewN B7.out n8)
          generalize W7.drewN n8 = w8 at *
          go_wp2_with (go_at_call 13; refine (awake_calls _).mono ?_; rintro e w' ⟨rfl, hb⟩)
          go_ret
          exact ⟨by first | rfl | (simp; omega), B8.out.trans (hb.mono B8.out.size)⟩
  · have HNEG := Lib.hid hneg
    have hte : bsOf t = decN n.natAbs := by rw [bn, texOf, if_neg hneg]
    have HD := Lib.hid (show bsOf t = List.replicate 0 48 ++ decN n.natAbs by rw [hte]; rfl)
    clear bn hte
    go_wp2_with fail
    go_loopw [10, 12] (fun d i wr => BkRel w2 (decN n.natAbs) (x % 30).toNat i d wr) (fun _ i _ => (x % 30).toNat - (intOf i).toNat)
    case atStart => exact ⟨0, _, rfl, rfl, Nat.zero_le _, HD.out, rfl⟩
    case round =>
      obtain ⟨j, d, rfl, rfl, hj, hd, rfl⟩ := hrel
      have HJ := Lib.hid hd
      have hdl : d.size ≤ 60 := by
        rw [← bsOf_length, hd, List.length_append, List.length_replicate]; omega
      clear hd
      by_cases hjx : (j : Int) < x % 30
      · go_wp2_with fail
        go_roundw
        · refine ⟨j + 1, ⟨#[48]⟩ ++ d, by go_num, by go_num, by omega, ?_, rfl⟩
          rw [bsOf_append, HJ.out]; rfl
        · simp [intOf]; omega
      · have hs2 : ((⟨#[43]⟩ : ByteArray) ++ d).size ≤ 1000 := by rw [← bsOf_length, bsOf_append, List.length_append, bsOf_length d]; simp [bsOf]; omega
        have hb2 : bsOf ((⟨#[43]⟩ : ByteArray) ++ d) = (if n < 0 then 45 else 43) :: (List.replicate j 48 ++ decN n.natAbs) := by rw [bsOf_append, HJ.out, if_neg (by omega)]; rfl
        obtain ⟨v3, W3, k3, y3, c3⟩ := conv w2 ((⟨#[43]⟩ : ByteArray) ++ d) hs2
        have P3 := Lib.hid (show Calls Try.prog 9 #[v3] W3 _ from Parse_drewN W3 v3 _ (bsOf_ok _) y3 (n, true) (by rw [hb2, HPK.out]) 0)
        have B3 := Lib.hid (B2.out.trans (c3.mono B2.out.size))
        clear hs2 hb2 y3 c3
        go_wp2_with fail
        refine P3.out.mono ?_
        rintro e w4 ⟨rfl, n4, rfl⟩
        have B4 := Lib.hid (below_drewN B3.out n4)
        generalize W3.drewN n4 = w4 at *
        clear k3 B3 P3
        obtain ⟨v5, W5, k5, y5, c5⟩ := conv w4 t (by omega)
        go_wp2_with fail
        refine (TM.out _).mono ?_
        rintro e w6 ⟨rfl, b6⟩
        obtain ⟨v7, W7, k7, y7, c7⟩ := conv w6 q (by omega)
        have HC := Lib.hid (show Calls Try.prog 16 #[v5, v7] W7 fun e w' => e = .returned (.int .i64 (cmpI n m)) ∧ ∃ n, w' = W7.drewN n by
          have h := Compare_drewN W7 v5 v7 _ _ (bsOf_ok _) (bsOf_ok _) ((y5.to b6).to c7) y7 0
          rw [BN.out, BM.out, HCM.out] at h
          exact h)
        have B7 := Lib.hid (((B4.out.trans (c5.mono B4.out.size)).trans (b6.mono (Nat.le_trans B4.out.size c5.size))).trans (c7.mono (Nat.le_trans (Nat.le_trans B4.out.size c5.size) b6.size)))
        clear k5 y5 c5 y7 c7 b6
        rcases cmpI_range n m with ⟨hz, hnm⟩ | ⟨hz, hnm⟩ | ⟨hz, hnm⟩
        · rw [hz] at HC
          have hmn1 : ¬ m < n := by omega
          clear hz
          go_wp2_with fail
          refine HC.out.mono ?_
          rintro e w8 ⟨rfl, n8, rfl⟩
          have B8 := Lib.hid (below_drewN B7.out n8)
          generalize W7.drewN n8 = w8 at *
          go_wp2_with (go_at_call 13; refine (awake_calls _).mono ?_; rintro e w' ⟨rfl, hb⟩)
          go_ret
          exact ⟨by first | rfl | (simp; omega), B8.out.trans (hb.mono B8.out.size)⟩
        · rw [hz] at HC
          subst hnm
          clear hz
          go_wp2_with fail
          refine HC.out.mono ?_
          rintro e w8 ⟨rfl, n8, rfl⟩
          have B8 := Lib.hid (below_drewN B7.out n8)
          generalize W7.drewN n8 = w8 at *
          go_wp2_with (go_at_call 13; refine (awake_calls _).mono ?_; rintro e w' ⟨rfl, hb⟩)
          go_ret
          exact ⟨by first | rfl | (simp; omega), B8.out.trans (hb.mono B8.out.size)⟩
        · rw [hz] at HC
          have hmn1 : ¬ n < m := by omega
          clear hz
          go_wp2_with fail
          refine HC.out.mono ?_
          rintro e w8 ⟨rfl, n8, rfl⟩
          have B8 := Lib.hid (below_drewN B7.out n8)
          generalize W7.drewN n8 = w8 at *
          go_wp2_with (go_at_call 13; refine (awake_calls _).mono ?_; rintro e w' ⟨rfl, hb⟩)
          go_ret
          exact ⟨by first | rfl | (simp; omega), B8.out.trans (hb.mono B8.out.size)⟩
end Go.Proofs.Ytankdkappcimdaa
