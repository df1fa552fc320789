/- Walk: slices.Equal of two rows of texts. -/
import Derived.Test.YthalpbbjcagnnaaOpenR
set_option linter.unusedSimpArgs false
set_option linter.unusedVariables false
namespace Go.Proofs.Ythalpbbjcagnnaa
open Go.RowKit
def EqRel (W : World) (l m : List ByteArray) (iv : Value) (wr : World) : Prop := ∃ (j n : Nat), iv = .int .i64 j ∧ j ≤ l.length ∧ l.take j = m.take j ∧ wr = W.drewN n
theorem eq_of_take {l m : List ByteArray} (h : l.length = m.length) (ht : l.take l.length = m.take l.length) : l = m := by
  rw [List.take_length, h, List.take_length] at ht; exact ht
set_option maxRecDepth 100000 in
theorem Equal_calls (w : World) (N M : Nat → Prop) (u v : Value) (l m : List ByteArray) (hl : l.length ≤ 100000) (hu : RowAt w N u l) (hv : RowAt w M v m) :
    Calls Try.prog 35 #[u, v] w fun e w' => e = .returned (.bool (decide (l = m))) ∧ ∃ n, w' = w.drewN n := by
  obtain ⟨a, c, rfl, g1, g2, h⟩ := hu
  obtain ⟨a', c', rfl, g1', g2', h'⟩ := hv
  obtain ⟨p, hp⟩ : ∃ p, l.length = p := ⟨_, rfl⟩
  obtain ⟨q, hq⟩ : ∃ q, m.length = q := ⟨_, rfl⟩
  have HP := Lib.hid hp
  have HQ := Lib.hid hq
  rw [hp] at hl g1 ⊢
  rw [hq] at g1' ⊢
  have H := Lib.hid h
  have H' := Lib.hid h'
  unfold maxLen at g2 g2'
  clear h h' hp hq
  by_cases hpq : p = q
  · subst hpq
    have H0 := Lib.hid (show EqRel w l m (.int .i64 0) w from ⟨0, 0, rfl, Nat.zero_le _, rfl, rfl⟩)
    go_enter Try.func35, Try.ntmps35
    go_wp2_with fail
    go_loopw [13] (fun i wr => EqRel w l m i wr) (fun i _ => p - (intOf i).toNat)
    case atStart => exact H0.out
    case round =>
      obtain ⟨j, n, rfl, hj, ht, rfl⟩ := hrel
      rw [HP.out] at hj
      have HT := Lib.hid ht
      clear ht
      by_cases hjp : j < p
      · obtain ⟨b, off, rfl, -, c1⟩ := H.out j (by rw [HP.out]; exact hjp)
        obtain ⟨b', off', rfl, -, c2⟩ := H'.out j (by rw [HQ.out]; exact hjp)
        have HA := Lib.hid (takeD' l ByteArray.empty j (by rw [HP.out]; exact hjp))
        have HA' := Lib.hid (takeD' m ByteArray.empty j (by rw [HQ.out]; exact hjp))
        obtain ⟨s, hs⟩ : ∃ s, l.getD j ByteArray.empty = s := ⟨_, rfl⟩
        obtain ⟨t, ht⟩ : ∃ s, m.getD j ByteArray.empty = s := ⟨_, rfl⟩
        have HSS := Lib.hid (And.intro hs ht)
        rw [hs] at c1 HA
        rw [ht] at c2 HA'
        clear hs ht
        by_cases hst : s = t
        · subst hst
          go_wp2_with fail
          go_quiet (fail)
          go_wp2
          go_roundw
          · exact ⟨j + 1, n + nq, by go_num, by rw [HP.out]; omega, by rw [HA.out, HA'.out, HT.out], rfl⟩
          · simp [intOf]; omega
        · have hb : (s.toList == t.toList) = false := by
            rw [beq_eq_false_iff_ne]; intro e
            rw [ByteArray.toList_eq, ByteArray.toList_eq] at e
            exact hst (by cases s; cases t; simp at e; rw [e])
          have HNE := Lib.hid (show l ≠ m from fun e => hst (by rw [← HSS.out.1, ← HSS.out.2, e]))
          go_wp2_with fail
          go_quiet (fail)
          go_wp2
          go_ret
          exact ⟨by rw [decide_eq_false HNE.out]; rfl, _, World.drewN_drewN ..⟩
      · obtain rfl : j = p := by omega
        have HE := Lib.hid (show l = m from eq_of_take (by rw [HP.out, HQ.out]) (by rw [HP.out]; exact HT.out))
        go_wp2_with fail
        go_ret
        exact ⟨by rw [decide_eq_true HE.out]; rfl, _, rfl⟩
  · have HNE := Lib.hid (show l ≠ m from fun e => hpq (by rw [← HP.out, ← HQ.out, e]))
    have hb : ((p : Int) != (q : Int)) = true := by rw [bne_iff_ne]; omega
    go_enter Try.func35, Try.ntmps35
    go_wp2_with fail
    go_ret
    exact ⟨by rw [decide_eq_false HNE.out]; rfl, 0, rfl⟩
theorem Equal1_calls (w : World) (N M : Nat → Prop) (u v : Value) (l m : List ByteArray) (hl : l.length ≤ 100000) (hu : RowAt w N u l) (hv : RowAt w M v m) :
    Calls Try.prog 34 #[u, v] w fun e w' => e = .returned (.bool (decide (l = m))) ∧ ∃ n, w' = w.drewN n := by
  have H := Lib.hid (Equal_calls w N M u v l m hl hu hv)
  obtain ⟨a, c, rfl, -⟩ := hu
  obtain ⟨a', c', rfl, -⟩ := hv
  go_enter Try.func34, Try.ntmps34
  go_wp2_with (go_at_call 35; refine H.out.mono ?_; rintro e w' ⟨rfl, n, rfl⟩)
  go_ret
  exact ⟨rfl, n, rfl⟩
def EqfRel (W : World) (X Y : Txt) (iv : Value) (wr : World) : Prop := ∃ (j n : Nat), iv = .int .i64 j ∧ j ≤ X.length ∧ X.take j = Y.take j ∧ wr = W.drewN n
end Go.Proofs.Ythalpbbjcagnnaa
