/- Walk: the document's Text is the chapter's. -/
import Derived.Test.YtankdkappcimdaaRef3
import Derived.Lib.LazyBuf
set_option linter.unusedSimpArgs false
set_option linter.unusedVariables false
namespace Go.Proofs.Ytankdkappcimdaa
open Go.RowKit
theorem str_one (w : World) (x : Int) : (convert 25 9 (.slice (some ⟨w.heap.size, 0, none⟩) 1 1)).run Try.prog (w.alloc (.cells #[.int .u8 x] 5)) = .ok (.string (strOfNums [x])) (w.alloc (.cells #[.int .u8 x] 5)) := by
  refine run_convert_bytes_arg _ 25 5 Try.underlying25 Try.underlying5 w.heap.size 0 1 1 [x] rfl (fun i hi => ?_) 9 Try.underlying9
  obtain rfl : i = 0 := by omega
  exact (World.cell?_alloc_at _ _ _ _ rfl).trans rfl
/-- What is left of the number, and its digits so far. -/
def TxR (n : Int) (w : World) (kv sv : Value) (wr : World) : Prop := ∃ (k : Int) (t : ByteArray), kv = .int .i64 k ∧ sv = .string t ∧ (k = sgn (decide (n < 0)) k.natAbs) ∧ k.natAbs ≤ 9223372036854775808 ∧ t.size ≤ 19 ∧ ((0 < k.natAbs ∧ decN n.natAbs = decN k.natAbs ++ bsOf t) ∨ (k = 0 ∧ (n = 0 ∨ decN n.natAbs = bsOf t))) ∧ Below w.heap.size w wr
def keyOf (k : Int) : Nat := k.natAbs
theorem tparts (k : Int) : (Int.tmod k 10).natAbs = k.natAbs % 10 ∧ (Int.tdiv k 10).natAbs = k.natAbs / 10 ∧ (k < 0 → Int.tmod k 10 ≤ 0 ∧ Int.tdiv k 10 ≤ 0) ∧ (0 ≤ k → 0 ≤ Int.tmod k 10 ∧ 0 ≤ Int.tdiv k 10) := by
  refine ⟨Int.natAbs_tmod k 10, Int.natAbs_tdiv k 10, fun h => ?_, fun h => ⟨Int.tmod_nonneg _ h, Int.tdiv_nonneg h (by decide)⟩⟩
  have h1 : 0 ≤ Int.tmod (-k) 10 := Int.tmod_nonneg _ (by omega)
  have h2 : 0 ≤ Int.tdiv (-k) 10 := Int.tdiv_nonneg (by omega) (by decide)
  rw [Int.neg_tmod] at h1
  rw [Int.neg_tdiv] at h2
  omega
theorem bytes_eq {a b : ByteArray} (h : bsOf a = bsOf b) : a = b := by
  rw [← show strOfNums (bsOf a) = a from Go.Lib.Lz.strOfNums_map a.data.toList, h]; exact Go.Lib.Lz.strOfNums_map b.data.toList
theorem TxR_step {n k D K x : Int} {t : ByteArray} {w wr : World} (h0 : -9223372036854775808 ≤ n) (h1 : n ≤ 9223372036854775807) (hk : k = sgn (decide (n < 0)) k.natAbs) (hkb : k.natAbs ≤ 9223372036854775808) (hk0 : ¬ k = 0)
    (hd : (0 < k.natAbs ∧ decN n.natAbs = decN k.natAbs ++ bsOf t) ∨ (k = 0 ∧ (n = 0 ∨ decN n.natAbs = bsOf t)))
    (hq : D.natAbs = k.natAbs % 10 ∧ K.natAbs = k.natAbs / 10 ∧ (k < 0 → D ≤ 0 ∧ K ≤ 0) ∧ (0 ≤ k → 0 ≤ D ∧ 0 ≤ K)) (hx : x = 48 + (D.natAbs : Int)) (hb : Below w.heap.size w wr) : TxR n w (.int .i64 K) (.string (strOfNums [x] ++ t)) wr := by
  obtain ⟨q1, q2, q3, q4⟩ := hq
  have hd := hd.resolve_right (fun h => hk0 h.1)
  have hb1 : bsOf (strOfNums [x] ++ t) = x :: bsOf t := by
    rw [bsOf_append, bsOf_str]; rfl
    intro y hy; simp only [List.mem_singleton] at hy; omega
  have hlen := decN_length n.natAbs (by omega)
  have hdec : decN n.natAbs = (if K = 0 then x :: bsOf t else decN K.natAbs ++ (x :: bsOf t)) := by
    rw [hd.2]
    by_cases h : K = 0
    · rw [if_pos h, decN_small k.natAbs (by omega), hx]; simp; omega
    · rw [if_neg h, decN_big k.natAbs (by omega), ← q2, hx, ← q1]; simp
  refine ⟨K, _, rfl, rfl, ?_, by omega, ?_, ?_, hb⟩
  · by_cases hn : n < 0
    · simp only [hn, decide_true, sgn, if_true] at hk ⊢; have := q3 (by omega); omega
    · simp only [hn, decide_false, sgn, Bool.false_eq_true, if_false] at hk ⊢; have := q4 (by omega); omega
  · rw [← bsOf_length, hb1]
    rw [hdec] at hlen
    split at hlen
    · simpa using hlen
    · simp at hlen ⊢; omega
  · rw [hb1]
    by_cases h : K = 0
    · rw [if_pos h] at hdec; exact .inr ⟨h, .inr hdec⟩
    · rw [if_neg h] at hdec; exact .inl ⟨by omega, hdec⟩
set_option maxRecDepth 100000 in
theorem TextR_calls (n : Int) (w : World) (h0 : -9223372036854775808 ≤ n) (h1 : n ≤ 9223372036854775807) :
    Calls Try.prog 12 #[.int .i64 n] w fun e w' => e = .returned (.string (strOfNums (texOf n))) ∧ Below w.heap.size w w' := by
  have HS := Lib.hid (show TxR n w (.int .i64 n) (.string ⟨#[]⟩) w from ⟨n, _, rfl, rfl, by by_cases h : n < 0 <;> simp [sgn, h] <;> omega, by omega, by decide, (by
    by_cases h : n = 0
    · exact .inr ⟨h, .inl h⟩
    · exact .inl ⟨by omega, by simp [bsOf]⟩), Below.refl _ _⟩)
  have SO := Lib.hid str_one
  go_enter Try.func12, Try.ntmps12
  go_wp2_with fail
  go_loopw [3, 4] (fun s k wr => TxR n w k s wr) (fun _ k _ => (intOf k).natAbs)
  case atStart => exact HS.out
  case round =>
    obtain ⟨k, t, rfl, rfl, hk, hkb, hts, hd, hbel⟩ := hrel
    have HB := Lib.hid hbel
    have HD := Lib.hid hd
    have HK := Lib.hid hk
    clear hbel hd hk
    by_cases hk0 : k = 0
    · subst hk0
      have HD := Lib.hid (show n = 0 ∨ decN n.natAbs = bsOf t by rcases HD.out with ⟨h, _⟩ | ⟨_, h⟩; exact absurd h (by decide); exact h)
      by_cases hn0 : n = 0
      · subst hn0
        have HT := Lib.hid (show texOf 0 = [48] by rw [texOf, if_neg (by decide)]; exact decN_small 0 (by decide))
        go_wp2_with fail
        go_ret
        exact ⟨by rw [HT.out]; rfl, HB.out⟩
      · have HE := Lib.hid (show strOfNums (decN n.natAbs) = t by
          rw [HD.out.resolve_left hn0]; exact Go.Lib.Lz.strOfNums_map t.data.toList)
        by_cases hn : n < 0
        · have HT := Lib.hid (show strOfNums (texOf n) = ⟨#[45]⟩ ++ t by apply bytes_eq; rw [bsOf_str _ (texOf_ok n), texOf, if_pos hn, bsOf_append, HD.out.resolve_left hn0]; rfl)
          go_wp2_with fail
          go_ret
          exact ⟨by rw [HT.out]; rfl, HB.out⟩
        · have HT := Lib.hid (show strOfNums (texOf n) = t by rw [texOf, if_neg hn, HE.out])
          go_wp2_with fail
          go_ret
          exact ⟨by rw [HT.out]; rfl, HB.out⟩
    · obtain ⟨p1, p2, p3, p4⟩ := tparts k
      obtain ⟨D, hD⟩ : ∃ D, Int.tmod k 10 = D := ⟨_, rfl⟩
      obtain ⟨K, hK⟩ : ∃ D, Int.tdiv k 10 = D := ⟨_, rfl⟩
      rw [hD, hK] at p3 p4
      rw [hD] at p1
      rw [hK] at p2
      have hD9 : D.natAbs ≤ 9 := by omega
      have hKb : -9223372036854775808 ≤ K ∧ K ≤ 9223372036854775807 := by omega
      have hKb0 := hKb.1
      have hKb1 := hKb.2
      have HQ := Lib.hid (And.intro p1 (And.intro p2 (And.intro p3 p4)))
      clear p1 p2 p3 p4 hKb
      by_cases hneg : D < 0
      · have hD1 : -9 ≤ D := by omega
        have hso := SO.out wr (48 + -D)
        have hsz := strOfNums_size [48 + -D]
        rw [show [48 + -D].length = 1 from rfl] at hsz
        clear hD9
        go_wp2_with fail
        go_roundw
        · exact TxR_step h0 h1 HK.out hkb hk0 HD.out HQ.out (by omega) (HB.out.alloc HB.out.size _)
        · have := HQ.out.2.1; simp [intOf]; omega
      · have hD1 : D ≤ 9 := by omega
        have hso := SO.out wr (48 + D)
        have hsz := strOfNums_size [48 + D]
        rw [show [48 + D].length = 1 from rfl] at hsz
        clear hD9
        go_wp2_with fail
        go_roundw
        · exact TxR_step h0 h1 HK.out hkb hk0 HD.out HQ.out (by omega) (HB.out.alloc HB.out.size _)
        · have := HQ.out.2.1; simp [intOf]; omega
end Go.Proofs.Ytankdkappcimdaa
