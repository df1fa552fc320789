/- FeedPlays: one call of both feeds answers alike, and leaves both at one state: the walk of 'step'. -/
import Derived.Test.YthfdoififonflaaBoth
import Derived.Deep.RegionWith
set_option linter.unusedSimpArgs false
set_option linter.unusedVariables false
namespace Go.Proofs.Ythfdoififonflaa
open Go.RowKit
def opV (o : OpL) (y : Value) : Value := .agg #[.int .i64 o.kind, .int .i64 o.k, .int .i64 o.n, y]
def StepTo (w0 : World) (f r : Nat) (w' : World) : Prop := ∃ s', BothAt w0 w' f r s' s' (fun _ => none)
set_option maxRecDepth 100000 in
set_option maxHeartbeats 1000000 in
theorem step_type (w0 w : World) (f r : Nat) (s : St) (X : Nat → Option Obj) (k kk n : Int) (a : Option Addr) (m c : Nat) (h : BothAt w0 w f r s s X) (hk : kk = 0 ∨ kk = 1) :
    Calls Try.prog 17 #[fp f, fp r, .agg #[.int .i64 kk, .int .i64 k, .int .i64 n, .slice a m c]] w fun e w' => e = .returned (.bool true) ∧ StepTo w0 f r w' := by
  have h1 := h.box (.cells #[.int .i64 kk, .int .i64 k, .int .i64 n, .slice a m c] 35)
  have c1 : (w.alloc (.cells #[.int .i64 kk, .int .i64 k, .int .i64 n, .slice a m c] 35)).cell? ⟨w.heap.size, 1, none⟩ = some (.int .i64 k) := (h1.cell 1).trans rfl
  have h2 : BothAt w0 (w.alloc (.cells #[.int .i64 kk, .int .i64 k, .int .i64 n, .slice a m c] 35)).drew f r s s _ := h1.grow (Keep.same _ _ 1)
  have F0 := Lib.hid (h2.ftype k)
  have R0 := Lib.hid (h2.rtype k)
  have C1 := Lib.hid c1
  clear h h1 h2 c1
  rcases hk with rfl | rfl
  all_goals
    go_enter Try.func17, Try.ntmps17
    go_wp2_with fail
    have c1 := C1.out
    generalize w.alloc _ = W at *
    go_region_with (first | (go_at_call 8; refine F0.out.mono ?_; rintro e w1 ⟨rfl, hF⟩; have g1 : w1.cell? ⟨w.heap.size, 1, none⟩ = some (.int .i64 k) := (hF.cell 1).trans rfl) | (go_at_call 22; refine (hF.rtype k).mono ?_; rintro e w2 ⟨rfl, hB⟩) | (go_at_call 22; refine R0.out.mono ?_; rintro e w1 ⟨rfl, hR⟩; have g1 : w1.cell? ⟨w.heap.size, 1, none⟩ = some (.int .i64 k) := (hR.cell 1).trans rfl) | (go_at_call 8; refine (hR.ftype k).mono ?_; rintro e w2 ⟨rfl, hB⟩))
    all_goals
      go_wp2
      go_ret
      exact ⟨rfl, _, hB.drop⟩
theorem rem_small (n : Int) : wrap64 ((IntKind.u64.wrap n).tmod 300) < 300 := by
  have h1 : 0 ≤ IntKind.u64.wrap n := by simp only [IntKind.wrap, IntKind.signed, IntKind.bits]; simp; omega
  have h2 := Int.tmod_lt_of_pos (IntKind.u64.wrap n) (show (0 : Int) < 300 by decide)
  have h3 := Int.tmod_nonneg 300 h1
  generalize (IntKind.u64.wrap n).tmod 300 = z at *
  rw [show wrap64 z = z by unfold wrap64; omega]
  exact h2
def NxRel (w0 : World) (f r : Nat) (X : Nat → Option Obj) (i : Value) (wr : World) : Prop := ∃ (j : Nat) (s' : St), i = .int .i64 j ∧ j ≤ 300 ∧ BothAt w0 wr f r s' s' X
set_option maxRecDepth 100000 in
set_option maxHeartbeats 1000000 in
theorem step_next (w0 w : World) (f r : Nat) (s : St) (X : Nat → Option Obj) (k kk n : Int) (a : Option Addr) (m c : Nat) (h : BothAt w0 w f r s s X) (hk : 3 ≤ kk ∧ kk ≤ 6) (hn : -9223372036854775808 ≤ n ∧ n ≤ 9223372036854775807) :
    Calls Try.prog 17 #[fp f, fp r, .agg #[.int .i64 kk, .int .i64 k, .int .i64 n, .slice a m c]] w fun e w' => e = .returned (.bool true) ∧ StepTo w0 f r w' := by
  have H0 := Lib.hid (h.box (.cells #[.int .i64 kk, .int .i64 k, .int .i64 n, .slice a m c] 35))
  clear h
  obtain ⟨x, rfl | rfl | rfl | rfl⟩ : ∃ x : Unit, kk = 3 ∨ kk = 4 ∨ kk = 5 ∨ kk = 6 := ⟨(), by omega⟩
  · clear hk
    go_enter Try.func17, Try.ntmps17
    go_wp2_with fail
    go_loopw [7] (fun i wr => NxRel w0 f r (boxX w.heap.size (.cells #[.int .i64 3, .int .i64 k, .int .i64 n, .slice a m c] 35)) i wr) (fun i _ => 300 - (intOf i).toNat)
    case atStart => exact ⟨0, s, rfl, by omega, H0.out⟩
    case round =>
      obtain ⟨j, s', rfl, hj, hb⟩ := hrel
      have g2 : wr.cell? ⟨w.heap.size, 2, none⟩ = some (.int .i64 n) := (hb.cell 2).trans rfl
      have HB := Lib.hid hb
      have HF := Lib.hid hb.fnext
      clear hb
      have hs := rem_small n
      by_cases hle : (j : Int) ≤ wrap64 ((IntKind.u64.wrap n).tmod 300)
      · have hj3 : j < 300 := by omega
        go_wp2_with fail
        refine HF.out.mono ?_
        rintro e w1 ⟨rfl, h1⟩
        have HR := Lib.hid h1.rnext
        clear h1
        simp only [tup] at HR ⊢
        generalize s'.next.2 = s2 at *
        obtain ⟨⟨v, b, y⟩, hv⟩ : ∃ p, p = s'.next.1 := ⟨_, rfl⟩
        rw [← hv] at HR ⊢
        clear hv g2 hle hs
        go_wp2_with fail
        refine HR.out.mono ?_
        rintro e w2 ⟨rfl, h2⟩
        have FIN := Lib.hid (show NxRel w0 f r (boxX w.heap.size (.cells #[.int .i64 3, .int .i64 k, .int .i64 n, .slice a m c] 35)) (.int .i64 ((j : Int) + 1)) w2 from ⟨j + 1, _, rfl, by omega, h2⟩)
        clear h2
        go_wp2_with fail
        go_roundw
        case rel => exact FIN.out
        case measure => simp [intOf]; omega
      · go_wp2_with fail
        go_ret
        exact ⟨rfl, _, HB.out.drop⟩
  · clear hk
    go_enter Try.func17, Try.ntmps17
    go_wp2_with fail
    go_loopw [7] (fun i wr => NxRel w0 f r (boxX w.heap.size (.cells #[.int .i64 4, .int .i64 k, .int .i64 n, .slice a m c] 35)) i wr) (fun i _ => 300 - (intOf i).toNat)
    case atStart => exact ⟨0, s, rfl, by omega, H0.out⟩
    case round =>
      obtain ⟨j, s', rfl, hj, hb⟩ := hrel
      have g2 : wr.cell? ⟨w.heap.size, 2, none⟩ = some (.int .i64 n) := (hb.cell 2).trans rfl
      have HB := Lib.hid hb
      have HF := Lib.hid hb.fnext
      clear hb
      have hs := rem_small n
      by_cases hle : (j : Int) ≤ wrap64 ((IntKind.u64.wrap n).tmod 300)
      · have hj3 : j < 300 := by omega
        go_wp2_with fail
        refine HF.out.mono ?_
        rintro e w1 ⟨rfl, h1⟩
        have HR := Lib.hid h1.rnext
        clear h1
        simp only [tup] at HR ⊢
        generalize s'.next.2 = s2 at *
        obtain ⟨⟨v, b, y⟩, hv⟩ : ∃ p, p = s'.next.1 := ⟨_, rfl⟩
        rw [← hv] at HR ⊢
        clear hv g2 hle hs
        go_wp2_with fail
        refine HR.out.mono ?_
        rintro e w2 ⟨rfl, h2⟩
        have FIN := Lib.hid (show NxRel w0 f r (boxX w.heap.size (.cells #[.int .i64 4, .int .i64 k, .int .i64 n, .slice a m c] 35)) (.int .i64 ((j : Int) + 1)) w2 from ⟨j + 1, _, rfl, by omega, h2⟩)
        clear h2
        go_wp2_with fail
        go_roundw
        case rel => exact FIN.out
        case measure => simp [intOf]; omega
      · go_wp2_with fail
        go_ret
        exact ⟨rfl, _, HB.out.drop⟩
  · clear hk
    go_enter Try.func17, Try.ntmps17
    go_wp2_with fail
    go_loopw [7] (fun i wr => NxRel w0 f r (boxX w.heap.size (.cells #[.int .i64 5, .int .i64 k, .int .i64 n, .slice a m c] 35)) i wr) (fun i _ => 300 - (intOf i).toNat)
    case atStart => exact ⟨0, s, rfl, by omega, H0.out⟩
    case round =>
      obtain ⟨j, s', rfl, hj, hb⟩ := hrel
      have g2 : wr.cell? ⟨w.heap.size, 2, none⟩ = some (.int .i64 n) := (hb.cell 2).trans rfl
      have HB := Lib.hid hb
      have HF := Lib.hid hb.fnext
      clear hb
      have hs := rem_small n
      by_cases hle : (j : Int) ≤ wrap64 ((IntKind.u64.wrap n).tmod 300)
      · have hj3 : j < 300 := by omega
        go_wp2_with fail
        refine HF.out.mono ?_
        rintro e w1 ⟨rfl, h1⟩
        have HR := Lib.hid h1.rnext
        clear h1
        simp only [tup] at HR ⊢
        generalize s'.next.2 = s2 at *
        obtain ⟨⟨v, b, y⟩, hv⟩ : ∃ p, p = s'.next.1 := ⟨_, rfl⟩
        rw [← hv] at HR ⊢
        clear hv g2 hle hs
        go_wp2_with fail
        refine HR.out.mono ?_
        rintro e w2 ⟨rfl, h2⟩
        have FIN := Lib.hid (show NxRel w0 f r (boxX w.heap.size (.cells #[.int .i64 5, .int .i64 k, .int .i64 n, .slice a m c] 35)) (.int .i64 ((j : Int) + 1)) w2 from ⟨j + 1, _, rfl, by omega, h2⟩)
        clear h2
        go_wp2_with fail
        go_roundw
        case rel => exact FIN.out
        case measure => simp [intOf]; omega
      · go_wp2_with fail
        go_ret
        exact ⟨rfl, _, HB.out.drop⟩
  · clear hk
    go_enter Try.func17, Try.ntmps17
    go_wp2_with fail
    go_loopw [7] (fun i wr => NxRel w0 f r (boxX w.heap.size (.cells #[.int .i64 6, .int .i64 k, .int .i64 n, .slice a m c] 35)) i wr) (fun i _ => 300 - (intOf i).toNat)
    case atStart => exact ⟨0, s, rfl, by omega, H0.out⟩
    case round =>
      obtain ⟨j, s', rfl, hj, hb⟩ := hrel
      have g2 : wr.cell? ⟨w.heap.size, 2, none⟩ = some (.int .i64 n) := (hb.cell 2).trans rfl
      have HB := Lib.hid hb
      have HF := Lib.hid hb.fnext
      clear hb
      have hs := rem_small n
      by_cases hle : (j : Int) ≤ wrap64 ((IntKind.u64.wrap n).tmod 300)
      · have hj3 : j < 300 := by omega
        go_wp2_with fail
        refine HF.out.mono ?_
        rintro e w1 ⟨rfl, h1⟩
        have HR := Lib.hid h1.rnext
        clear h1
        simp only [tup] at HR ⊢
        generalize s'.next.2 = s2 at *
        obtain ⟨⟨v, b, y⟩, hv⟩ : ∃ p, p = s'.next.1 := ⟨_, rfl⟩
        rw [← hv] at HR ⊢
        clear hv g2 hle hs
        go_wp2_with fail
        refine HR.out.mono ?_
        rintro e w2 ⟨rfl, h2⟩
        have FIN := Lib.hid (show NxRel w0 f r (boxX w.heap.size (.cells #[.int .i64 6, .int .i64 k, .int .i64 n, .slice a m c] 35)) (.int .i64 ((j : Int) + 1)) w2 from ⟨j + 1, _, rfl, by omega, h2⟩)
        clear h2
        go_wp2_with fail
        go_roundw
        case rel => exact FIN.out
        case measure => simp [intOf]; omega
      · go_wp2_with fail
        go_ret
        exact ⟨rfl, _, HB.out.drop⟩
end Go.Proofs.Ythfdoififonflaa
