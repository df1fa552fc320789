/- Walk: Get. -/
import Derived.Test.YthalpbbjcagnnaaSet
set_option linter.unusedSimpArgs false
set_option linter.unusedVariables false
namespace Go.Proofs.Ythalpbbjcagnnaa
open Go.RowKit
/-- Two new blocks of a register each. -/
abbrev G2 (w : World) (A B : Obj) : World := (w.alloc A).alloc B
theorem G2_below (w : World) (A B : Obj) : Below w.heap.size w (G2 w A B) := ((Below.refl _ _).alloc (Nat.le_refl _) _).alloc (by simp) _
theorem G2_first (w : World) (A B : Obj) : (G2 w A B).heap[w.heap.size]? = some A := by
  rw [Below.heap_alloc _ _ _ (by simp)]; exact heap_new w A
theorem G2_second (w : World) (A B : Obj) : (G2 w A B).heap[w.heap.size + 1]? = some B := by
  have := heap_new (w.alloc A) B
  simpa only [World.size_alloc] using this
theorem G2_size (w : World) (A B : Obj) : (G2 w A B).heap.size = w.heap.size + 2 := by simp
/-- What is known behind the clone, whether 'has' has been asked or not. -/
structure Got (w w5 : World) (k : Int) (a : Option Addr) (m c : Nat) (v : Value) (L : Txt) : Prop where
  below : Below w.heap.size w w5
  size : w.heap.size + 2 ≤ w5.heap.size
  one : w5.heap[w.heap.size]? = some (.cells #[.int .i64 0, .slice none 0 0] 30 (0, 0))
  two : w5.heap[w.heap.size + 1]? = some (.cells #[.int .i64 k, .slice a m c] 30 (0, 0))
  txt : TxtAt w5 (fun b => w.heap.size + 2 ≤ b ∧ Soft w5 b) v L
theorem Got.alloc {w w5 : World} {k : Int} {a : Option Addr} {m c : Nat} {v : Value} {L : Txt} (h : Got w w5 k a m c v L) (o : Obj) : Got w (w5.alloc o) k a m c v L :=
  ⟨h.below.alloc (by have := h.size; omega) o, by have := h.size; simp; omega, (Below.heap_alloc _ _ _ (lt_of_heap h.one)).trans h.one, (Below.heap_alloc _ _ _ (lt_of_heap h.two)).trans h.two, h.txt.keep fun b hb hl => ⟨⟨hb.1, hb.2.to (Below.heap_alloc _ _ _ hl)⟩, Below.heap_alloc _ _ _ hl⟩⟩
theorem Got.of {w X w5 : World} {k : Int} {a : Option Addr} {m c : Nat} {v : Value} {L : Txt} (hX : Below (w.heap.size + 2) (G2 w (.cells #[.int .i64 0, .slice none 0 0] 30) (.cells #[.int .i64 k, .slice a m c] 30)) X) (hb : Below X.heap.size X w5) (ht : TxtAt w5 (fun b => X.heap.size ≤ b ∧ Soft w5 b) v L) : Got w w5 k a m c v L := by
  have hs : w.heap.size + 2 ≤ X.heap.size := by have := hX.size; rw [G2_size] at this; exact this
  have hXW : Below (w.heap.size + 2) (G2 w (.cells #[.int .i64 0, .slice none 0 0] 30) (.cells #[.int .i64 k, .slice a m c] 30)) w5 := hX.trans (hb.mono hs)
  exact ⟨(G2_below w _ _).trans (hXW.mono (by omega)), Nat.le_trans hs hb.size, (hXW.block _ (by omega)).trans (G2_first _ _ _), (hXW.block _ (by omega)).trans (G2_second _ _ _), ht.keep fun b hb' _ => ⟨⟨by have := hb'.1; omega, hb'.2⟩, rfl⟩⟩
theorem Got.end {w w5 : World} {k : Int} {a : Option Addr} {m c : Nat} {v : Value} {L : Txt} (h : Got w w5 k a m c v L) :
    ((w5.setCell ⟨w.heap.size, 0, none⟩ (.int .i64 k)).setCell ⟨w.heap.size, 1, none⟩ v).heap[w.heap.size]? = some (.cells #[.int .i64 k, v] 30 (0, 0)) ∧ TxtAt ((w5.setCell ⟨w.heap.size, 0, none⟩ (.int .i64 k)).setCell ⟨w.heap.size, 1, none⟩ v) (fun b => w.heap.size ≤ b ∧ Soft ((w5.setCell ⟨w.heap.size, 0, none⟩ (.int .i64 k)).setCell ⟨w.heap.size, 1, none⟩ v) b) v L ∧ Below w.heap.size w ((w5.setCell ⟨w.heap.size, 0, none⟩ (.int .i64 k)).setCell ⟨w.heap.size, 1, none⟩ v) := by
  refine ⟨(heap_set_row _ (heap_set_row _ h.one)).trans rfl, h.txt.keep fun b hb _ => ?_, (h.below.setCell (p := ⟨w.heap.size, 0, none⟩) (Nat.le_refl _) _).setCell (p := ⟨w.heap.size, 1, none⟩) (Nat.le_refl _) _⟩
  have e : ((w5.setCell ⟨w.heap.size, 0, none⟩ (.int .i64 k)).setCell ⟨w.heap.size, 1, none⟩ v).heap[b]? = w5.heap[b]? := by
    rw [Below.heap_setCell _ _ _ _ (by show b ≠ w.heap.size; have := hb.1; omega), Below.heap_setCell _ _ _ _ (by show b ≠ w.heap.size; have := hb.1; omega)]
  exact ⟨⟨by have := hb.1; omega, hb.2.to e⟩, e⟩
set_option maxRecDepth 100000 in
set_option maxHeartbeats 1000000 in
theorem get_last (w : World) (N : Nat → Prop) (r : Nat) (R : RegsT) (h : RegsIn w N r R) (hL : (R 26).2.length ≤ 100000) (hrow : ∀ l ∈ (R 26).2, l.length ≤ 100000) :
    Calls Try.prog 10 #[.pointer (some ⟨r, 0, none⟩), .int .i64 0] w fun e w' => (∃ v', e = .returned (.tuple #[.agg #[.int .i64 (R 26).1, v'], .bool (decide (0 < (R 26).2.length))]) ∧ TxtAt w' (fun b => w.heap.size ≤ b ∧ Soft w' b) v' (R 26).2) ∧ Below w.heap.size w w' := by
  obtain ⟨a, c, c0, c1, ht, g1, g2⟩ := h.cells 26 (by decide)
  have c0 : w.cell? ⟨r, 52, none⟩ = some (.int .i64 (R 26).1) := c0
  have c1 : w.cell? ⟨r, 53, none⟩ = some (.slice a (R 26).2.length c) := c1
  obtain ⟨k, hk⟩ : ∃ k, (R 26).1 = k := ⟨_, rfl⟩
  obtain ⟨L, hLe⟩ : ∃ L, (R 26).2 = L := ⟨_, rfl⟩
  rw [hk] at c0 ⊢
  rw [hLe] at c1 ht g1 hL hrow ⊢
  obtain ⟨m, hm⟩ : ∃ m, L.length = m := ⟨_, rfl⟩
  have HM := Lib.hid hm
  rw [hm] at c1 ht g1 hL ⊢
  have HT := Lib.hid ht
  have HC := Lib.hid (fun w' (hb : Below w.heap.size w w') => clone_soft w' _ k (.slice a m c) L (by rw [hm]; exact hL) hrow (ht.below hb))
  have HH := Lib.hid (fun w' => has_calls k a m c w' (Nat.le_trans g1 g2))
  have d0 : (w.alloc (.cells #[.int .i64 0, .slice none 0 0] 30)).cell? ⟨r, 52, none⟩ = some (.int .i64 k) := (World.cell?_alloc_old w _ _ (Nat.ne_of_lt (World.block_lt_of_cell? _ _ c0))).trans c0
  have d1 : (w.alloc (.cells #[.int .i64 0, .slice none 0 0] 30)).cell? ⟨r, 53, none⟩ = some (.slice a m c) := (World.cell?_alloc_old w _ _ (Nat.ne_of_lt (World.block_lt_of_cell? _ _ c1))).trans c1
  have HB2 := Lib.hid (G2_below w (.cells #[.int .i64 0, .slice none 0 0] 30) (.cells #[.int .i64 k, .slice a m c] 30))
  have HA := Lib.hid (G2_first w (.cells #[.int .i64 0, .slice none 0 0] 30) (.cells #[.int .i64 k, .slice a m c] 30))
  have HZ := Lib.hid (G2_second w (.cells #[.int .i64 0, .slice none 0 0] 30) (.cells #[.int .i64 k, .slice a m c] 30))
  clear h hk hLe hm ht hrow c0 c1
  go_enter Try.func10, Try.ntmps10
  go_wp2_with fail
  have HX1 := Lib.hid (show Below (w.heap.size + 2) (G2 w (.cells #[.int .i64 0, .slice none 0 0] 30) (.cells #[.int .i64 k, .slice a m c] 30)) ((G2 w (.cells #[.int .i64 0, .slice none 0 0] 30) (.cells #[.int .i64 k, .slice a m c] 30)).drew) from (Below.refl _ _).drew)
  have HX2 := Lib.hid (show Below (w.heap.size + 2) (G2 w (.cells #[.int .i64 0, .slice none 0 0] 30) (.cells #[.int .i64 k, .slice a m c] 30)) (((G2 w (.cells #[.int .i64 0, .slice none 0 0] 30) (.cells #[.int .i64 k, .slice a m c] 30)).alloc (.cells #[.int .i64 k, .slice a m c] 30)).drew) from ((Below.refl _ _).alloc (by rw [G2_size]; exact Nat.le_refl _) _).drew)
  have HY1 := Lib.hid (HB2.out.drew)
  have HY2 := Lib.hid ((HB2.out.alloc HB2.out.size (.cells #[.int .i64 k, .slice a m c] 30)).drew)
  go_region_law (go_simp; first
    | (go_at_call 27; refine (HC.out _ HY1.out).mono ?_; rintro e w5 ⟨⟨v5, rfl, ht5⟩, hb5⟩; have G := Got.of HX1.out hb5 ht5; obtain ⟨va, vc, rfl, -⟩ := id ht5; have h0 := cell_row G.one 0; have h1 := cell_row G.one 1; have h2 := cell_row G.two 0; have h3 := cell_row G.two 1; have h4 := frozen_row G.one 0; have h5 := frozen_row G.one 1; have G' := G.alloc (.cells #[.int .i64 k, .slice a m c] 30); have k0 := cell_row G'.one 0; have k1 := cell_row G'.one 1; have k2 := cell_row G'.two 0; have k3 := cell_row G'.two 1; have k4 := frozen_row G'.one 0; have k5 := frozen_row G'.one 1; simp only [List.getElem?_toArray, List.getElem?_cons_zero, List.getElem?_cons_succ] at h0 h1 h2 h3 k0 k1 k2 k3; have HG := Lib.hid G; have HG' := Lib.hid G'; clear G G' ht5 hb5)
    | (go_at_call 27; refine (HC.out _ HY2.out).mono ?_; rintro e w5 ⟨⟨v5, rfl, ht5⟩, hb5⟩; have G := Got.of HX2.out hb5 ht5; obtain ⟨va, vc, rfl, -⟩ := id ht5; have h0 := cell_row G.one 0; have h1 := cell_row G.one 1; have h2 := cell_row G.two 0; have h3 := cell_row G.two 1; have h4 := frozen_row G.one 0; have h5 := frozen_row G.one 1; have G' := G.alloc (.cells #[.int .i64 k, .slice a m c] 30); have k0 := cell_row G'.one 0; have k1 := cell_row G'.one 1; have k2 := cell_row G'.two 0; have k3 := cell_row G'.two 1; have k4 := frozen_row G'.one 0; have k5 := frozen_row G'.one 1; simp only [List.getElem?_toArray, List.getElem?_cons_zero, List.getElem?_cons_succ] at h0 h1 h2 h3 k0 k1 k2 k3; have HG := Lib.hid G; have HG' := Lib.hid G'; clear G G' ht5 hb5)
    | (go_at_call 25; refine (HH.out _).mono ?_; rintro e w' ⟨rfl, rfl⟩))
  all_goals
    go_wp2
    first
      | (refine bodyPost_ret (results_row_tmp rfl _ _ w.heap.size 30 #[.int .i64 k, .slice va L.length vc] (0, 0) _ rfl HG.out.end.1 Try.underlying30 rfl (by kernel_rfl)) rfl ?_; exact ⟨⟨_, rfl, HG.out.end.2.1⟩, HG.out.end.2.2⟩)
      | (refine bodyPost_ret (results_row_tmp rfl _ _ w.heap.size 30 #[.int .i64 k, .slice va L.length vc] (0, 0) _ rfl HG'.out.end.1 Try.underlying30 rfl (by kernel_rfl)) rfl ?_; exact ⟨⟨_, rfl, HG'.out.end.2.1⟩, HG'.out.end.2.2⟩)
set_option maxRecDepth 100000 in
set_option maxHeartbeats 1000000 in
theorem get_letter (x : Int) (i : Nat) (g : Bool) (hi : i < 26) (hx0 : x ≠ 0) (hw : ∀ w, Calls Try.prog 24 #[.int .i64 x] w fun e w' => e = .returned (.tuple #[.int .i64 i, .bool g, .bool true]) ∧ w = w') (w : World) (N : Nat → Prop) (r : Nat) (R : RegsT) (h : RegsIn w N r R) (hL : (R i).2.length ≤ 100000) (hrow : ∀ l ∈ (R i).2, l.length ≤ 100000) :
    Calls Try.prog 10 #[.pointer (some ⟨r, 0, none⟩), .int .i64 x] w fun e w' => (∃ v', e = .returned (.tuple #[.agg #[.int .i64 (R i).1, v'], .bool (decide (0 < (R i).2.length))]) ∧ TxtAt w' (fun b => w.heap.size ≤ b ∧ Soft w' b) v' (R i).2) ∧ Below w.heap.size w w' := by
  obtain ⟨al, cl, l0, l1, -, -, -⟩ := h.cells 26 (by decide)
  have l0 : w.cell? ⟨r, 52, none⟩ = some (.int .i64 (R 26).1) := l0
  have l1 : w.cell? ⟨r, 53, none⟩ = some (.slice al (R 26).2.length cl) := l1
  obtain ⟨a, c, c0, c1, ht, g1, g2⟩ := h.cells i (by omega)
  obtain ⟨k, hk⟩ : ∃ k, (R i).1 = k := ⟨_, rfl⟩
  obtain ⟨L, hLe⟩ : ∃ L, (R i).2 = L := ⟨_, rfl⟩
  rw [hk] at c0 ⊢
  rw [hLe] at c1 ht g1 hL hrow ⊢
  obtain ⟨m, hm⟩ : ∃ m, L.length = m := ⟨_, rfl⟩
  have HM := Lib.hid hm
  rw [hm] at c1 ht g1 hL ⊢
  have HT := Lib.hid ht
  have HC := Lib.hid (fun w' (hb : Below w.heap.size w w') => clone_soft w' _ k (.slice a m c) L (by rw [hm]; exact hL) hrow (ht.below hb))
  have HH := Lib.hid (fun w' => has_calls k a m c w' (Nat.le_trans g1 g2))
  generalize (R 26).1 = kl at l0
  generalize (R 26).2.length = ml at l1
  have e0 : (w.alloc (.cells #[.int .i64 0, .slice none 0 0] 30)).cell? ⟨r, 52, none⟩ = some (.int .i64 kl) := (World.cell?_alloc_old w _ _ (Nat.ne_of_lt (World.block_lt_of_cell? _ _ l0))).trans l0
  have e1 : (w.alloc (.cells #[.int .i64 0, .slice none 0 0] 30)).cell? ⟨r, 53, none⟩ = some (.slice al ml cl) := (World.cell?_alloc_old w _ _ (Nat.ne_of_lt (World.block_lt_of_cell? _ _ l1))).trans l1
  have HWX := Lib.hid hw
  have hxb : (x == 0) = false := by simpa using hx0
  have hi26 : ((i : Int) < 26) = True := eq_true (by omega)
  have hrl : r < w.heap.size := World.block_lt_of_cell? _ _ c0
  have HG0 := Lib.hid (show ∀ j, (G2 w (.cells #[.int .i64 0, .slice none 0 0] 30) (.cells #[.int .i64 kl, .slice al ml cl] 30)).cell? ⟨r, j, none⟩ = w.cell? ⟨r, j, none⟩ from fun j => (G2_below w _ _).cell (p := ⟨r, j, none⟩) hrl)
  have d0 := (HG0.out (i * 2)).trans c0
  have d1 := (HG0.out (i * 2 + 1)).trans c1
  have HB2 := Lib.hid (G2_below w (.cells #[.int .i64 0, .slice none 0 0] 30) (.cells #[.int .i64 k, .slice a m c] 30))
  have HA := Lib.hid (G2_first w (.cells #[.int .i64 0, .slice none 0 0] 30) (.cells #[.int .i64 k, .slice a m c] 30))
  have HZ := Lib.hid (G2_second w (.cells #[.int .i64 0, .slice none 0 0] 30) (.cells #[.int .i64 k, .slice a m c] 30))
  clear h hk hLe hm ht hrow c0 c1 l0 l1 hw hx0
  go_enter Try.func10, Try.ntmps10
  go_wp2_with (go_at_call 24; refine (HWX.out _).mono ?_; rintro e w' ⟨rfl, rfl⟩)
  have HX1 := Lib.hid (show Below (w.heap.size + 2) (G2 w (.cells #[.int .i64 0, .slice none 0 0] 30) (.cells #[.int .i64 k, .slice a m c] 30)) ((G2 w (.cells #[.int .i64 0, .slice none 0 0] 30) (.cells #[.int .i64 k, .slice a m c] 30)).drew) from (Below.refl _ _).drew)
  have HX2 := Lib.hid (show Below (w.heap.size + 2) (G2 w (.cells #[.int .i64 0, .slice none 0 0] 30) (.cells #[.int .i64 k, .slice a m c] 30)) (((G2 w (.cells #[.int .i64 0, .slice none 0 0] 30) (.cells #[.int .i64 k, .slice a m c] 30)).alloc (.cells #[.int .i64 k, .slice a m c] 30)).drew) from ((Below.refl _ _).alloc (by rw [G2_size]; exact Nat.le_refl _) _).drew)
  have HY1 := Lib.hid (HB2.out.drew)
  have HY2 := Lib.hid ((HB2.out.alloc HB2.out.size (.cells #[.int .i64 k, .slice a m c] 30)).drew)
  go_region_law (go_simp; first
    | (go_at_call 27; refine (HC.out _ HY1.out).mono ?_; rintro e w5 ⟨⟨v5, rfl, ht5⟩, hb5⟩; have G := Got.of HX1.out hb5 ht5; obtain ⟨va, vc, rfl, -⟩ := id ht5; have h0 := cell_row G.one 0; have h1 := cell_row G.one 1; have h2 := cell_row G.two 0; have h3 := cell_row G.two 1; have h4 := frozen_row G.one 0; have h5 := frozen_row G.one 1; have G' := G.alloc (.cells #[.int .i64 k, .slice a m c] 30); have k0 := cell_row G'.one 0; have k1 := cell_row G'.one 1; have k2 := cell_row G'.two 0; have k3 := cell_row G'.two 1; have k4 := frozen_row G'.one 0; have k5 := frozen_row G'.one 1; simp only [List.getElem?_toArray, List.getElem?_cons_zero, List.getElem?_cons_succ] at h0 h1 h2 h3 k0 k1 k2 k3; have HG := Lib.hid G; have HG' := Lib.hid G'; clear G G' ht5 hb5)
    | (go_at_call 27; refine (HC.out _ HY2.out).mono ?_; rintro e w5 ⟨⟨v5, rfl, ht5⟩, hb5⟩; have G := Got.of HX2.out hb5 ht5; obtain ⟨va, vc, rfl, -⟩ := id ht5; have h0 := cell_row G.one 0; have h1 := cell_row G.one 1; have h2 := cell_row G.two 0; have h3 := cell_row G.two 1; have h4 := frozen_row G.one 0; have h5 := frozen_row G.one 1; have G' := G.alloc (.cells #[.int .i64 k, .slice a m c] 30); have k0 := cell_row G'.one 0; have k1 := cell_row G'.one 1; have k2 := cell_row G'.two 0; have k3 := cell_row G'.two 1; have k4 := frozen_row G'.one 0; have k5 := frozen_row G'.one 1; simp only [List.getElem?_toArray, List.getElem?_cons_zero, List.getElem?_cons_succ] at h0 h1 h2 h3 k0 k1 k2 k3; have HG := Lib.hid G; have HG' := Lib.hid G'; clear G G' ht5 hb5)
    | (go_at_call 25; refine (HH.out _).mono ?_; rintro e w' ⟨rfl, rfl⟩))
  all_goals
    go_wp2
    first
      | (refine bodyPost_ret (results_row_tmp rfl _ _ w.heap.size 30 #[.int .i64 k, .slice va L.length vc] (0, 0) _ rfl HG.out.end.1 Try.underlying30 rfl (by kernel_rfl)) rfl ?_; exact ⟨⟨_, rfl, HG.out.end.2.1⟩, HG.out.end.2.2⟩)
      | (refine bodyPost_ret (results_row_tmp rfl _ _ w.heap.size 30 #[.int .i64 k, .slice va L.length vc] (0, 0) _ rfl HG'.out.end.1 Try.underlying30 rfl (by kernel_rfl)) rfl ?_; exact ⟨⟨_, rfl, HG'.out.end.2.1⟩, HG'.out.end.2.2⟩)
end Go.Proofs.Ythalpbbjcagnnaa
