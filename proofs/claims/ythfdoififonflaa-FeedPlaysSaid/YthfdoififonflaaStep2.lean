/- FeedPlays: 'step' where the call is Push, Drop or nothing; and at any call. -/
import Derived.Test.YthfdoififonflaaStep
set_option linter.unusedSimpArgs false
set_option linter.unusedVariables false
namespace Go.Proofs.Ythfdoififonflaa
open Go.RowKit
theorem IntsB.cut {w : World} {B : Nat} {a : Option Addr} {n c : Nat} {l : List Int} (h : IntsB w B (.slice a n c) l) (m : Nat) (hm : m ≤ n) : IntsB w B (.slice a m c) (l.take m) := by
  obtain ⟨a', c', e, hc, h⟩ := h
  obtain ⟨rfl, hn, rfl⟩ : a = a' ∧ n = l.length ∧ c = c' := by simpa using e
  refine ⟨a, c, by rw [List.length_take]; congr 1; omega, by rw [List.length_take]; omega, fun i hi => ?_⟩
  rw [List.length_take] at hi
  obtain ⟨b, off, e, hb, hcell⟩ := h i (by omega)
  exact ⟨b, off, e, hb, by rw [hcell]; simp [List.getD_eq_getElem?_getD, List.getElem?_take, show i < m by omega]⟩
theorem BothAt.frame {w0 w w' : World} {f r : Nat} {s t : St} {X : Nat → Option Obj} (h : BothAt w0 w f r s t X) (e : w'.heap = w.heap) (ho : w'.os = w.os) (ht : w'.tape = w.tape) (hp : w'.output = w.output) : BothAt w0 w' f r s t X :=
  h.grow ⟨ho, ht, hp, by rw [e]; exact Nat.le_refl _, fun k _ _ => by rw [e]⟩
/-- A cell of the box is written. -/
theorem BothAt.put {w0 w : World} {f r D j : Nat} {s t : St} {cs : Array Value} {e : TypeId} (h : BothAt w0 w f r s t (boxX D (.cells cs e (0, 0)))) (hB : w0.heap.size ≤ D) (u : Value) : BothAt w0 (w.setCell ⟨D, j, none⟩ u) f r s t (boxX D (.cells (cs.setIfInBounds j u) e (0, 0))) := by
  obtain ⟨Nf, Nr, h⟩ := h
  have hD := h.xs D _ (by unfold boxX; rw [if_pos rfl])
  have hne : ∀ k, k ≠ D → (w.setCell ⟨D, j, none⟩ u).heap[k]? = w.heap[k]? := fun k hk => setCell_ne _ _ _ _ _ hk
  refine ⟨Nf, Nr, { h with
    bel := h.bel.setCell (p := ⟨D, j, none⟩) hB u
    feed := h.feed.keep fun k hN _ => hne k (fun e => hD.2.1 (e ▸ hN))
    ref := h.ref.keep fun k hk _ => hne k (by rintro rfl; rcases hk with hk | hk; exact hD.2.2 hk; omega)
    fB := fun k e => by rw [size_setCell]; exact h.fB k e
    rB := fun k e => by rw [size_setCell]; exact h.rB k e
    xs := fun k o e => ?_ }⟩
  unfold boxX at e
  by_cases hk : k = D
  · rw [if_pos hk] at e; cases e; subst hk
    exact ⟨heap_setCell_row _ hD.1, hD.2⟩
  · rw [if_neg hk] at e; cases e
set_option maxRecDepth 100000 in
set_option maxHeartbeats 1000000 in
theorem step_push (w0 w : World) (f r : Nat) (s : St) (X : Nat → Option Obj) (k n : Int) (a : Option Addr) (m c : Nat) (l : List Int) (h : BothAt w0 w f r s s X) (hl : IntsB w w0.heap.size (.slice a m c) l) (hm : m ≤ 120) :
    Calls Try.prog 17 #[fp f, fp r, .agg #[.int .i64 2, .int .i64 k, .int .i64 n, .slice a m c]] w fun e w' => e = .returned (.bool true) ∧ StepTo w0 f r w' := by
  have hs0 := h.size
  have h1 := h.box (.cells #[.int .i64 2, .int .i64 k, .int .i64 n, .slice a m c] 35)
  have c1 : (w.alloc (.cells #[.int .i64 2, .int .i64 k, .int .i64 n, .slice a m c] 35)).cell? ⟨w.heap.size, 3, none⟩ = some (.slice a m c) := (h1.cell 3).trans rfl
  have h2 : BothAt w0 (w.alloc (.cells #[.int .i64 2, .int .i64 k, .int .i64 n, .slice a m c] 35)).drew f r s s _ := h1.grow (Keep.same _ _ 1)
  have l2 : IntsB (w.alloc (.cells #[.int .i64 2, .int .i64 k, .int .i64 n, .slice a m c] 35)).drew w0.heap.size (.slice a m c) l := hl.keep fun x hx hlt => Below.heap_alloc _ _ _ hlt
  have F0 := Lib.hid (h2.fpush l2)
  have R0 := Lib.hid (h2.rpush l2)
  have C1 := Lib.hid c1
  clear h h1 h2 c1 hl l2
  go_enter Try.func17, Try.ntmps17
  go_wp2_with fail
  have c1 := C1.out
  generalize w.alloc _ = W at *
  go_region_with (first | (go_at_call 10; refine F0.out.mono ?_; rintro e w1 ⟨rfl, hF, hFl⟩; have g1 : w1.cell? ⟨w.heap.size, 3, none⟩ = some (.slice a m c) := (hF.cell 3).trans rfl) | (go_at_call 23; refine (hF.rpush hFl).mono ?_; rintro e w2 ⟨rfl, hB, -⟩) | (go_at_call 23; refine R0.out.mono ?_; rintro e w1 ⟨rfl, hR, hRl⟩; have g1 : w1.cell? ⟨w.heap.size, 3, none⟩ = some (.slice a m c) := (hR.cell 3).trans rfl) | (go_at_call 10; refine (hR.fpush hRl).mono ?_; rintro e w2 ⟨rfl, hB, -⟩))
  all_goals
    go_wp2
    go_ret
    exact ⟨rfl, _, hB.drop⟩
set_option maxRecDepth 100000 in
set_option maxHeartbeats 1000000 in
theorem step_long (w0 w : World) (f r : Nat) (s : St) (X : Nat → Option Obj) (k n : Int) (a : Option Addr) (m c : Nat) (l : List Int) (h : BothAt w0 w f r s s X) (hl : IntsB w w0.heap.size (.slice a m c) l) (hm : 120 < m) (hmc : 120 ≤ c) :
    Calls Try.prog 17 #[fp f, fp r, .agg #[.int .i64 2, .int .i64 k, .int .i64 n, .slice a m c]] w fun e w' => e = .returned (.bool true) ∧ StepTo w0 f r w' := by
  have hs0 := h.size
  have h1 := h.box (.cells #[.int .i64 2, .int .i64 k, .int .i64 n, .slice a 120 c] 35)
  have c1 : (w.alloc (.cells #[.int .i64 2, .int .i64 k, .int .i64 n, .slice a 120 c] 35)).cell? ⟨w.heap.size, 3, none⟩ = some (.slice a 120 c) := (h1.cell 3).trans rfl
  have h2 : BothAt w0 (w.alloc (.cells #[.int .i64 2, .int .i64 k, .int .i64 n, .slice a 120 c] 35)).drew f r s s _ := h1.grow (Keep.same _ _ 1)
  have l2 : IntsB (w.alloc (.cells #[.int .i64 2, .int .i64 k, .int .i64 n, .slice a 120 c] 35)).drew w0.heap.size (.slice a 120 c) (l.take 120) := (hl.cut 120 (by omega)).keep fun x hx hlt => Below.heap_alloc _ _ _ hlt
  have F0 := Lib.hid (h2.fpush l2)
  have R0 := Lib.hid (h2.rpush l2)
  have C1 := Lib.hid c1
  clear h h1 h2 c1 hl l2
  go_enter Try.func17, Try.ntmps17
  go_wp2_with fail
  go_outline
  have c1 := C1.out
  generalize w.alloc _ = W at *
  go_region_with (first | (go_at_call 10; refine F0.out.mono ?_; rintro e w1 ⟨rfl, hF, hFl⟩; have g1 : w1.cell? ⟨w.heap.size, 3, none⟩ = some (.slice a 120 c) := (hF.cell 3).trans rfl) | (go_at_call 23; refine (hF.rpush hFl).mono ?_; rintro e w2 ⟨rfl, hB, -⟩) | (go_at_call 23; refine R0.out.mono ?_; rintro e w1 ⟨rfl, hR, hRl⟩; have g1 : w1.cell? ⟨w.heap.size, 3, none⟩ = some (.slice a 120 c) := (hR.cell 3).trans rfl) | (go_at_call 10; refine (hR.fpush hRl).mono ?_; rintro e w2 ⟨rfl, hB, -⟩))
  all_goals
    go_wp2
    go_ret
    exact ⟨rfl, _, hB.drop⟩
set_option maxRecDepth 100000 in
set_option maxHeartbeats 1000000 in
theorem step_drop (w0 w : World) (f r : Nat) (s : St) (X : Nat → Option Obj) (k n : Int) (a : Option Addr) (m c : Nat) (h : BothAt w0 w f r s s X) :
    Calls Try.prog 17 #[fp f, fp r, .agg #[.int .i64 7, .int .i64 k, .int .i64 n, .slice a m c]] w fun e w' => e = .returned (.bool true) ∧ StepTo w0 f r w' := by
  have F0 := Lib.hid (h.box (.cells #[.int .i64 7, .int .i64 k, .int .i64 n, .slice a m c] 35)).fdrop
  clear h
  go_enter Try.func17, Try.ntmps17
  go_wp2_with (first | (go_at_call 19; refine F0.out.mono ?_; rintro e w1 ⟨rfl, hF⟩) | (go_at_call 25; refine hF.rdrop.mono ?_; rintro e w2 ⟨rfl, hB⟩))
  go_ret
  exact ⟨rfl, _, hB.drop⟩
set_option maxRecDepth 100000 in
set_option maxHeartbeats 1000000 in
theorem step_other (w0 w : World) (f r : Nat) (s : St) (X : Nat → Option Obj) (kk k n : Int) (a : Option Addr) (m c : Nat) (h : BothAt w0 w f r s s X) (hk : kk < 0 ∨ 7 < kk) :
    Calls Try.prog 17 #[fp f, fp r, .agg #[.int .i64 kk, .int .i64 k, .int .i64 n, .slice a m c]] w fun e w' => e = .returned (.bool true) ∧ StepTo w0 f r w' := by
  have H0 := Lib.hid (h.box (.cells #[.int .i64 kk, .int .i64 k, .int .i64 n, .slice a m c] 35)).drop
  have d : ∀ z : Int, 0 ≤ z → z ≤ 7 → (kk == z) = false := fun z h0 h7 => by rw [beq_eq_false_iff_ne]; omega
  have d0 := d 0 (by omega) (by omega)
  have d1 := d 1 (by omega) (by omega)
  have d2 := d 2 (by omega) (by omega)
  have d3 := d 3 (by omega) (by omega)
  have d4 := d 4 (by omega) (by omega)
  have d5 := d 5 (by omega) (by omega)
  have d6 := d 6 (by omega) (by omega)
  have d7 := d 7 (by omega) (by omega)
  clear h d hk
  go_enter Try.func17, Try.ntmps17
  go_wp2_with fail
  go_ret
  exact ⟨rfl, _, H0.out⟩
theorem step_calls (w0 w : World) (f r : Nat) (s : St) (X : Nat → Option Obj) (o : OpL) (a : Option Addr) (m c : Nat) (h : BothAt w0 w f r s s X) (hl : IntsB w w0.heap.size (.slice a m c) o.l) (hn : -9223372036854775808 ≤ o.n ∧ o.n ≤ 9223372036854775807) :
    Calls Try.prog 17 #[fp f, fp r, .agg #[.int .i64 o.kind, .int .i64 o.k, .int .i64 o.n, .slice a m c]] w fun e w' => e = .returned (.bool true) ∧ StepTo w0 f r w' := by
  by_cases h2 : o.kind = 2
  · rw [h2]
    by_cases hm : m ≤ 120
    · exact step_push w0 w f r s X _ _ a m c _ h hl hm
    · have hmc : m ≤ c := by obtain ⟨a', c', e, hc, _⟩ := hl; simp at e; omega
      exact step_long w0 w f r s X _ _ a m c _ h hl (by omega) (by omega)
  by_cases h01 : o.kind = 0 ∨ o.kind = 1
  · exact step_type w0 w f r s X _ _ _ a m c h h01
  by_cases h36 : 3 ≤ o.kind ∧ o.kind ≤ 6
  · exact step_next w0 w f r s X _ _ _ a m c h h36 hn
  by_cases h7 : o.kind = 7
  · rw [h7]; exact step_drop w0 w f r s X _ _ a m c h
  · exact step_other w0 w f r s X _ _ _ a m c h (by omega)
end Go.Proofs.Ythfdoififonflaa
