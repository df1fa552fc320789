/- Walk: the document's Same of two rows of rows. -/
import Derived.Test.YthalpbbjcagnnaaEqualF
set_option linter.unusedSimpArgs false
set_option linter.unusedVariables false
namespace Go.Proofs.Ythalpbbjcagnnaa
open Go.RowKit
set_option maxRecDepth 100000 in
set_option maxHeartbeats 1000000 in
theorem SameR_calls (w : World) (N M : Nat → Prop) (u v : Value) (X Y : Txt) (hu : TxtAt w N u X) (hv : TxtAt w M v Y) :
    Calls Try.prog 28 #[u, v] w fun e w' => e = .returned (.bool (decide (X = Y))) ∧ ∃ n, w' = w.drewN n := by
  obtain ⟨a, c, rfl, g1, g2, h⟩ := hu
  obtain ⟨a', c', rfl, g1', g2', h'⟩ := hv
  obtain ⟨p, hp⟩ : ∃ p, X.length = p := ⟨_, rfl⟩
  obtain ⟨q, hq⟩ : ∃ q, Y.length = q := ⟨_, rfl⟩
  have HP := Lib.hid hp
  have HQ := Lib.hid hq
  rw [hp] at g1 ⊢
  rw [hq] at g1' ⊢
  have H := Lib.hid h
  have H' := Lib.hid h'
  unfold maxLen at g2 g2'
  clear h h' hp hq
  by_cases hpq : p = q
  · subst hpq
    have H0 := Lib.hid (show EqfRel w X Y (.int .i64 0) w from ⟨0, 0, rfl, Nat.zero_le _, rfl, rfl⟩)
    go_enter Try.func28, Try.ntmps28
    go_wp2_with fail
    go_loopw [14] (fun i wr => EqfRel w X Y i wr) (fun i _ => p - (intOf i).toNat)
    case atStart => exact H0.out
    case round =>
      obtain ⟨j, n, rfl, hj, ht, rfl⟩ := hrel
      rw [HP.out] at hj
      have HT := Lib.hid ht
      clear ht
      by_cases hjp : j < p
      · obtain ⟨b, off, s, rfl, -, c1, r1⟩ := H.out j (by rw [HP.out]; exact hjp)
        obtain ⟨b', off', t, rfl, -, c2, r2⟩ := H'.out j (by rw [HQ.out]; exact hjp)
        have HA := Lib.hid (takeD' X [] j (by rw [HP.out]; exact hjp))
        have HA' := Lib.hid (takeD' Y [] j (by rw [HQ.out]; exact hjp))
        obtain ⟨l, hl⟩ : ∃ s, X.getD j [] = s := ⟨_, rfl⟩
        obtain ⟨m, hm⟩ : ∃ s, Y.getD j [] = s := ⟨_, rfl⟩
        have HSS := Lib.hid (And.intro hl hm)
        rw [hl] at r1 HA
        rw [hm] at r2 HA'
        obtain ⟨sa, sc, rfl, k1, k2, hs⟩ := r1
        obtain ⟨ta, tc, rfl, k1', k2', ht⟩ := r2
        obtain ⟨e, he⟩ : ∃ e, l.length = e := ⟨_, rfl⟩
        obtain ⟨f, hf⟩ : ∃ f, m.length = f := ⟨_, rfl⟩
        have HLE := Lib.hid he
        have HMF := Lib.hid hf
        have HS := Lib.hid hs
        have HT2 := Lib.hid ht
        rw [he] at c1 k1
        rw [hf] at c2 k1'
        unfold maxLen at k2 k2'
        clear hl hm hs ht he hf
        by_cases hef : e = f
        · subst hef
          go_wp2_with fail
          go_quiet (fail)
          go_wp2_with fail
          have R0 := Lib.hid (show EqRel w l m (.int .i64 0) (w.drewN (n + nq)) from ⟨0, n + nq, rfl, Nat.zero_le _, rfl, rfl⟩)
          go_loopw [33] (fun i wr => EqRel w l m i wr) (fun i _ => e - (intOf i).toNat)
          case atStart => exact R0.out
          case round =>
            obtain ⟨i, n2, rfl, hi, hti, rfl⟩ := hrel
            rw [HLE.out] at hi
            have HTI := Lib.hid hti
            clear hti
            by_cases hie : i < e
            · obtain ⟨x, xo, rfl, -, d1⟩ := HS.out i (by rw [HLE.out]; exact hie)
              obtain ⟨y, yo, rfl, -, d2⟩ := HT2.out i (by rw [HMF.out]; exact hie)
              have HB := Lib.hid (takeD' l ByteArray.empty i (by rw [HLE.out]; exact hie))
              have HB' := Lib.hid (takeD' m ByteArray.empty i (by rw [HMF.out]; exact hie))
              obtain ⟨s, hs⟩ : ∃ s, l.getD i ByteArray.empty = s := ⟨_, rfl⟩
              obtain ⟨t, ht⟩ : ∃ s, m.getD i ByteArray.empty = s := ⟨_, rfl⟩
              have HST := Lib.hid (And.intro hs ht)
              rw [hs] at d1 HB
              rw [ht] at d2 HB'
              clear hs ht
              by_cases hst : s = t
              · subst hst
                go_wp2_with fail
                go_quiet (fail)
                go_wp2
                go_roundw
                · exact ⟨i + 1, _, by go_num, by rw [HLE.out]; omega, by rw [HB.out, HB'.out, HTI.out], rfl⟩
                · simp [intOf]; omega
              · have hb : (s.toList == t.toList) = false := by
                  rw [beq_eq_false_iff_ne]; intro e
                  rw [ByteArray.toList_eq, ByteArray.toList_eq] at e
                  exact hst (by cases s; cases t; simp at e; rw [e])
                have HNE := Lib.hid (show X ≠ Y from fun e => hst (by rw [← HST.out.1, ← HST.out.2, ← HSS.out.1, ← HSS.out.2, e]))
                go_wp2_with fail
                go_quiet (fail)
                go_wp2
                go_ret
                exact ⟨by rw [decide_eq_false HNE.out]; rfl, by first | exact ⟨_, rfl⟩ | exact ⟨_, World.drewN_drewN ..⟩⟩
            · obtain rfl : i = e := by omega
              have HE := Lib.hid (show l = m from eq_of_take (by rw [HLE.out, HMF.out]) (by rw [HLE.out]; exact HTI.out))
              go_wp2_with fail
              go_roundw
              · exact ⟨j + 1, n2, by go_num, by rw [HP.out]; omega, by rw [HA.out, HA'.out, HT.out, HE.out], rfl⟩
              · simp [intOf]; omega
        · have HNE := Lib.hid (show X ≠ Y from fun h => hef (by rw [← HLE.out, ← HMF.out, ← HSS.out.1, ← HSS.out.2, h]))
          have hb : ((e : Int) != (f : Int)) = true := by rw [bne_iff_ne]; omega
          go_wp2_with fail
          go_quiet (fail)
          go_wp2
          go_ret
          exact ⟨by rw [decide_eq_false HNE.out]; rfl, by first | exact ⟨_, rfl⟩ | exact ⟨_, World.drewN_drewN ..⟩⟩
      · obtain rfl : j = p := by omega
        have HE := Lib.hid (show X = Y from eq_of_takeT (by rw [HP.out, HQ.out]) (by rw [HP.out]; exact HT.out))
        go_wp2_with fail
        go_ret
        exact ⟨by rw [decide_eq_true HE.out]; rfl, n, rfl⟩
  · have HNE := Lib.hid (show X ≠ Y from fun e => hpq (by rw [← HP.out, ← HQ.out, e]))
    have hb : ((p : Int) != (q : Int)) = true := by rw [bne_iff_ne]; omega
    go_enter Try.func28, Try.ntmps28
    go_wp2_with fail
    go_ret
    exact ⟨by rw [decide_eq_false HNE.out]; rfl, 0, rfl⟩
end Go.Proofs.Ythalpbbjcagnnaa
