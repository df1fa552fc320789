/- Walk: slices.EqualFunc of two rows of rows. -/
import Derived.Test.YthalpbbjcagnnaaEqual
set_option linter.unusedSimpArgs false
set_option linter.unusedVariables false
namespace Go.Proofs.Ythalpbbjcagnnaa
open Go.RowKit
theorem eq_of_takeT {l m : Txt} (h : l.length = m.length) (ht : l.take l.length = m.take l.length) : l = m := by
  rw [List.take_length, h, List.take_length] at ht; exact ht
set_option maxRecDepth 100000 in
theorem EqualFunc_calls (w : World) (N M : Nat → Prop) (u v : Value) (X Y : Txt) (hr : ∀ l ∈ X, l.length ≤ 100000) (hu : TxtAt w N u X) (hv : TxtAt w M v Y) :
    Calls Try.prog 33 #[u, v, .func (.func 34) #[] #[]] w fun e w' => e = .returned (.bool (decide (X = Y))) ∧ ∃ n, w' = w.drewN n := by
  obtain ⟨a, c, rfl, g1, g2, h⟩ := hu
  obtain ⟨a', c', rfl, g1', g2', h'⟩ := hv
  obtain ⟨p, hp⟩ : ∃ p, X.length = p := ⟨_, rfl⟩
  obtain ⟨q, hq⟩ : ∃ q, Y.length = q := ⟨_, rfl⟩
  have HP := Lib.hid hp
  have HQ := Lib.hid hq
  rw [hp] at g1 ⊢
  rw [hq] at g1' ⊢
  have H := Lib.hid h
  have H' := Lib.hid h'
  have HR := Lib.hid hr
  unfold maxLen at g2 g2'
  clear h h' hp hq hr
  by_cases hpq : p = q
  · subst hpq
    have H0 := Lib.hid (show EqfRel w X Y (.int .i64 0) w from ⟨0, 0, rfl, Nat.zero_le _, rfl, rfl⟩)
    go_enter Try.func33, Try.ntmps33
    go_wp2_with fail
    go_loopw [17] (fun i wr => EqfRel w X Y i wr) (fun i _ => p - (intOf i).toNat)
    case atStart => exact H0.out
    case round =>
      obtain ⟨j, n, rfl, hj, ht, rfl⟩ := hrel
      rw [HP.out] at hj
      have HT := Lib.hid ht
      clear ht
      by_cases hjp : j < p
      · obtain ⟨b, off, s, rfl, -, c1, r1⟩ := H.out j (by rw [HP.out]; exact hjp)
        obtain ⟨b', off', t, rfl, -, c2, r2⟩ := H'.out j (by rw [HQ.out]; exact hjp)
        have HA := Lib.hid (takeD' X [] j (by rw [HP.out]; exact hjp))
        have HA' := Lib.hid (takeD' Y [] j (by rw [HQ.out]; exact hjp))
        have hro := HR.out _ (getD_mem'' X [] j (by rw [HP.out]; exact hjp))
        obtain ⟨l, hl⟩ : ∃ s, X.getD j [] = s := ⟨_, rfl⟩
        obtain ⟨m, hm⟩ : ∃ s, Y.getD j [] = s := ⟨_, rfl⟩
        have HSS := Lib.hid (And.intro hl hm)
        rw [hl] at r1 HA hro
        rw [hm] at r2 HA'
        have HE := Lib.hid (Equal1_calls (w.drewN n) N M s t l m hro (r1.keep fun _ hk _ => ⟨hk, rfl⟩) (r2.keep fun _ hk _ => ⟨hk, rfl⟩))
        obtain ⟨sa, sc, rfl, -⟩ := r1
        obtain ⟨ta, tc, rfl, -⟩ := r2
        clear hl hm hro
        by_cases hst : l = m
        · rw [decide_eq_true hst] at HE
          have HST := Lib.hid hst
          clear hst
          go_wp2_with (go_at_call 34; refine HE.out.mono ?_; rintro e w' ⟨rfl, n', rfl⟩)
          go_roundw
          · exact ⟨j + 1, n + n', by go_num, by rw [HP.out]; omega, by rw [HA.out, HA'.out, HT.out, HST.out], rfl⟩
          · simp [intOf]; omega
        · rw [decide_eq_false hst] at HE
          have HNE := Lib.hid (show X ≠ Y from fun e => hst (by rw [← HSS.out.1, ← HSS.out.2, e]))
          clear hst
          go_wp2_with (go_at_call 34; refine HE.out.mono ?_; rintro e w' ⟨rfl, n', rfl⟩)
          go_ret
          exact ⟨by rw [decide_eq_false HNE.out]; rfl, n + n', rfl⟩
      · obtain rfl : j = p := by omega
        have HE := Lib.hid (show X = Y from eq_of_takeT (by rw [HP.out, HQ.out]) (by rw [HP.out]; exact HT.out))
        go_wp2_with fail
        go_ret
        exact ⟨by rw [decide_eq_true HE.out]; rfl, n, rfl⟩
  · have HNE := Lib.hid (show X ≠ Y from fun e => hpq (by rw [← HP.out, ← HQ.out, e]))
    have hb : ((p : Int) != (q : Int)) = true := by rw [bne_iff_ne]; omega
    go_enter Try.func33, Try.ntmps33
    go_wp2_with fail
    go_ret
    exact ⟨by rw [decide_eq_false HNE.out]; rfl, 0, rfl⟩
end Go.Proofs.Ythalpbbjcagnnaa
