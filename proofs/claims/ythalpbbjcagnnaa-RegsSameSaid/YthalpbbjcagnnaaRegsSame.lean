/- Whether two registers are the same, and how much one is: the law's walk. -/
import Derived.Test.YthalpbbjcagnnaaEarly
set_option linter.unusedSimpArgs false
set_option linter.unusedVariables false
namespace Go.Proofs.Ythalpbbjcagnnaa
open Go.RowKit
set_option maxRecDepth 100000 in
set_option maxHeartbeats 1000000 in
theorem regsSame_walk (k k' : Int) (u v : Value) (X Y : Txt) (N M : Nat → Prop) (w : World) (hu : TxtAt w N u X) (hv : TxtAt w M v Y) : Calls Try.prog 6 #[.agg #[.int .i64 k, u], .agg #[.int .i64 k', v]] w fun e w' => e = .returned (.bool true) ∧ Below w.heap.size w w' := by
  obtain ⟨a, c, rfl, -⟩ := id hu
  obtain ⟨a', c', rfl, -⟩ := id hv
  have HB2 := Lib.hid (show Below w.heap.size w ((w.alloc (.cells #[.int .i64 k, .slice a X.length c] 24)).alloc (.cells #[.int .i64 k', .slice a' Y.length c'] 24)) from ((Below.refl _ _).alloc (Nat.le_refl _) _).alloc (by simp) _)
  have HF := Lib.hid (Few_calls _ N _ X (hu.below HB2.out))
  have HA := Lib.hid (show ((w.alloc (.cells #[.int .i64 k, .slice a X.length c] 24)).alloc (.cells #[.int .i64 k', .slice a' Y.length c'] 24)).heap[w.heap.size]? = some (.cells #[.int .i64 k, .slice a X.length c] 24 (0, 0)) from G2_first w _ _)
  have HZ := Lib.hid (show ((w.alloc (.cells #[.int .i64 k, .slice a X.length c] 24)).alloc (.cells #[.int .i64 k', .slice a' Y.length c'] 24)).heap[w.heap.size + 1]? = some (.cells #[.int .i64 k', .slice a' Y.length c'] 24 (0, 0)) from G2_second w _ _)
  have HV := Lib.hid hv
  clear hu hv
  go_enter Try.func6, Try.ntmps6
  go_wp2_with fail
  refine HF.out.mono ?_
  rintro e w2 ⟨⟨u2, X2, rfl, hu2, sX, -⟩, hb2⟩
  have hf0 := (hb2.block w.heap.size (by simp; omega)).trans HA.out
  have hf1 := (hb2.block (w.heap.size + 1) (by simp)).trans HZ.out
  have d0 := (cell_row hf0 1).trans (show (#[Value.int .i64 k, .slice a X.length c] : Array Value)[1]? = some (.slice a X.length c) from rfl)
  have d1 := frozen_row hf0 1
  have d2 := (cell_row hf1 1).trans (show (#[Value.int .i64 k', .slice a' Y.length c'] : Array Value)[1]? = some (.slice a' Y.length c') from rfl)
  have HU2 := Lib.hid hu2
  obtain ⟨a2, c2, rfl, -⟩ := hu2
  have HB3 := Lib.hid ((HB2.out.trans (hb2.mono HB2.out.size)).setCell (p := ⟨w.heap.size, 1, none⟩) (Nat.le_refl _) (.slice a2 X2.length c2))
  have HF2 := Lib.hid (Few_calls _ M _ Y (HV.out.below HB3.out))
  have hs2 : w.heap.size + 2 ≤ w2.heap.size := by have := hb2.size; simpa using this
  have HG0 := Lib.hid (heap_set_row (.slice a2 X2.length c2) (j := 1) hf0)
  have HG1 := Lib.hid ((Below.heap_setCell w2 ⟨w.heap.size, 1, none⟩ (.slice a2 X2.length c2) (w.heap.size + 1) (by show w.heap.size + 1 ≠ w.heap.size; omega)).trans hf1)
  clear hf0 hf1 hb2
  go_wp2_with fail
  refine HF2.out.mono ?_
  rintro e w4 ⟨⟨u4, Y2, rfl, hu4, sY, -⟩, hb4⟩
  have h3s : w.heap.size + 2 ≤ (w2.setCell ⟨w.heap.size, 1, none⟩ (.slice a2 X2.length c2)).heap.size := by simp [World.setCell]; exact hs2
  have hf0 := (hb4.block w.heap.size (by omega)).trans HG0.out
  have hf1 := (hb4.block (w.heap.size + 1) (by omega)).trans HG1.out
  have q1 := (cell_row hf1 1).trans (show (#[Value.int .i64 k', .slice a' Y.length c'] : Array Value)[1]? = some (.slice a' Y.length c') from rfl)
  have q2 := frozen_row hf1 1
  obtain ⟨a4, c4, rfl, -⟩ := id hu4
  have HU4 := Lib.hid hu4
  have e0 : (w4.setCell ⟨w.heap.size + 1, 1, none⟩ (.slice a4 Y2.length c4)).heap[w.heap.size]? = some (.cells #[.int .i64 k, .slice a2 X2.length c2] 24 (0, 0)) := (Below.heap_setCell w4 ⟨w.heap.size + 1, 1, none⟩ (.slice a4 Y2.length c4) w.heap.size (by show w.heap.size ≠ w.heap.size + 1; omega)).trans hf0
  have e1 : (w4.setCell ⟨w.heap.size + 1, 1, none⟩ (.slice a4 Y2.length c4)).heap[w.heap.size + 1]? = some (.cells #[.int .i64 k', .slice a4 Y2.length c4] 24 (0, 0)) := heap_set_row _ hf1
  have HB5 := Lib.hid (((HB3.out.trans (hb4.mono HB3.out.size))).setCell (p := ⟨w.heap.size + 1, 1, none⟩) (show w.heap.size ≤ w.heap.size + 1 by omega) (.slice a4 Y2.length c4))
  have HX5 := Lib.hid (show TxtAt (w4.setCell ⟨w.heap.size + 1, 1, none⟩ (.slice a4 Y2.length c4)) (fun _ => True) (.slice a2 X2.length c2) X2 from HU2.out.keep fun k hk hl => by
    have hk' : w.heap.size + 2 ≤ k := by simpa using hk
    refine ⟨trivial, (Below.heap_setCell w4 ⟨w.heap.size + 1, 1, none⟩ _ k (by show k ≠ w.heap.size + 1; omega)).trans ((hb4.block k (by simpa [World.setCell] using hl)).trans (Below.heap_setCell w2 ⟨w.heap.size, 1, none⟩ _ k (by show k ≠ w.heap.size; omega)))⟩)
  have HY5 := Lib.hid (show TxtAt (w4.setCell ⟨w.heap.size + 1, 1, none⟩ (.slice a4 Y2.length c4)) (fun _ => True) (.slice a4 Y2.length c4) Y2 from hu4.keep fun k hk hl => by
    have hk' : w.heap.size + 2 ≤ k := Nat.le_trans h3s hk
    exact ⟨trivial, Below.heap_setCell w4 ⟨w.heap.size + 1, 1, none⟩ _ k (by show k ≠ w.heap.size + 1; omega)⟩)
  clear hu4 hf0 hf1 d0 d1 d2 hb4 HF HF2 HB2 HB3 HU2 HU4 HG0 HG1 HV HA HZ hs2
  go_wp2_with fail
  generalize w4.setCell ⟨w.heap.size + 1, 1, none⟩ (.slice a4 Y2.length c4) = w5 at *
  have p0 : Two w.heap.size k (.slice a2 X2.length c2) w5 := Two.of e0
  have p1 : Two (w.heap.size + 1) k' (.slice a4 Y2.length c4) w5 := Two.of e1
  clear e0 e1 q1 q2
  have hs5a := p0.lt
  have hs5b := p1.lt
  refine wp_region_any (by kernel_rfl) ?_
  change wpAny _ _ _ _ _ _ _ (World.drew _)
  refine Orders.any (C := fun wz => Two w.heap.size k (.slice a2 X2.length c2) wz ∧ Two (w.heap.size + 1) k' (.slice a4 Y2.length c4) wz) _ _ _ _ ?_
  refine Orders.take (i := 0) (v := .pointer (some ⟨w.heap.size, 0, none⟩)) rfl (by kernel_rfl) (by kernel_rfl) (by kernel_rfl) (fun _ _ _ h => h) (Or.inl ⟨by rfl, fun wz ⟨⟨z0, z1⟩, z2, z3⟩ => by go_simp⟩) ?_
  refine Orders.take (i := 2) (v := .pointer (some ⟨w.heap.size, 1, none⟩)) rfl (by kernel_rfl) (by kernel_rfl) (by kernel_rfl) (fun _ _ _ h => h) (Or.inl ⟨by rfl, fun wz ⟨⟨z0, z1⟩, z2, z3⟩ => by go_simp⟩) ?_
  refine Orders.take (i := 1) (v := .int .i64 k) rfl (by kernel_rfl) (by kernel_rfl) (by kernel_rfl) (fun _ _ _ h => h) (Or.inl ⟨by rfl, fun wz ⟨⟨z0, z1⟩, z2, z3⟩ => by go_simp⟩) ?_
  refine Orders.take (i := 3) (v := .slice a2 X2.length c2) rfl (by kernel_rfl) (by kernel_rfl) (by kernel_rfl) (fun _ _ _ h => h) (Or.inl ⟨by rfl, fun wz ⟨⟨z0, z1⟩, z2, z3⟩ => by go_simp⟩) ?_
  refine Orders.take (i := 4) (v := .agg #[.int .i64 k, .slice a2 X2.length c2]) rfl (by kernel_rfl) (by kernel_rfl) (by kernel_rfl) (fun _ _ _ h => h) (Or.inl ⟨by rfl, fun wz ⟨⟨z0, z1⟩, z2, z3⟩ => by go_simp⟩) ?_
  refine Orders.take (i := 5) (v := .pointer (some ⟨w.heap.size + 1, 0, none⟩)) rfl (by kernel_rfl) (by kernel_rfl) (by kernel_rfl) (fun _ _ _ h => h) (Or.inl ⟨by rfl, fun wz ⟨⟨z0, z1⟩, z2, z3⟩ => by go_simp⟩) ?_
  refine Orders.take (i := 7) (v := .pointer (some ⟨w.heap.size + 1, 1, none⟩)) rfl (by kernel_rfl) (by kernel_rfl) (by kernel_rfl) (fun _ _ _ h => h) (Or.inl ⟨by rfl, fun wz ⟨⟨z0, z1⟩, z2, z3⟩ => by go_simp⟩) ?_
  refine Orders.take (i := 6) (v := .int .i64 k') rfl (by kernel_rfl) (by kernel_rfl) (by kernel_rfl) (fun _ _ _ h => h) (Or.inl ⟨by rfl, fun wz ⟨⟨z0, z1⟩, z2, z3⟩ => by go_simp⟩) ?_
  refine Orders.take (i := 8) (v := .slice a4 Y2.length c4) rfl (by kernel_rfl) (by kernel_rfl) (by kernel_rfl) (fun _ _ _ h => h) (Or.inl ⟨by rfl, fun wz ⟨⟨z0, z1⟩, z2, z3⟩ => by go_simp⟩) ?_
  refine Orders.take (i := 9) (v := .agg #[.int .i64 k', .slice a4 Y2.length c4]) rfl (by kernel_rfl) (by kernel_rfl) (by kernel_rfl) (fun _ _ _ h => h) (Or.inl ⟨by rfl, fun wz ⟨⟨z0, z1⟩, z2, z3⟩ => by go_simp⟩) ?_
  have HP0 := Lib.hid p0
  have HP1 := Lib.hid p1
  clear p0 p1
  have HC1 := Lib.hid (show ∀ A : Obj, Two w.heap.size k (.slice a2 X2.length c2) (w5.alloc A).drew ∧ Two (w.heap.size + 1) k' (.slice a4 Y2.length c4) (w5.alloc A).drew from fun A => ⟨HP0.out.to (Below.heap_alloc _ _ _ hs5a), HP1.out.to (Below.heap_alloc _ _ _ hs5b)⟩)
  have HC2 := Lib.hid (show ∀ A B : Obj, Two w.heap.size k (.slice a2 X2.length c2) ((w5.alloc A).alloc B).drew ∧ Two (w.heap.size + 1) k' (.slice a4 Y2.length c4) ((w5.alloc A).alloc B).drew from fun A B => ⟨(HC1.out A).1.to (Below.heap_alloc _ _ _ (by simp; omega)), (HC1.out A).2.to (Below.heap_alloc _ _ _ (by simp; omega))⟩)
  have HW6 := Lib.hid (show ∃ w6 : World, w6 = ((w5.alloc (.cells #[.int .i64 0, .slice none 0 0] 30)).alloc (.cells #[.int .i64 0, .slice none 0 0] 30)).drew from ⟨_, rfl⟩)
  refine Orders.two (i := 10) (j := 11) (by kernel_rfl) ⟨HP0.out.to rfl, HP1.out.to rfl⟩ rfl rfl (fun K hK => ?_) (fun K hK => ?_)
  · go_simp
    refine hK _ _ ?_
    clear hK K
    refine Orders.one (i := 11) (by kernel_rfl) (HC1.out _) rfl (fun K hK => ?_)
    go_simp
    refine hK _ _ ?_
    clear hK K
    obtain ⟨w6, e6⟩ := HW6.out
    rw [← e6]
    have f0 : w6.heap[w5.heap.size]? = some (.cells #[.int .i64 0, .slice none 0 0] 30) := by rw [e6]; exact G2_first w5 _ _
    have f1 : w6.heap[w5.heap.size + 1]? = some (.cells #[.int .i64 0, .slice none 0 0] 30) := by rw [e6]; exact G2_second w5 _ _
    have HC6 := Lib.hid (show Two w.heap.size k (.slice a2 X2.length c2) w6 ∧ Two (w.heap.size + 1) k' (.slice a4 Y2.length c4) w6 by rw [e6]; exact HC2.out _ _)
    have HB6 := Lib.hid (show Below w.heap.size w w6 by rw [e6]; exact ((HB5.out.alloc HB5.out.size _).alloc (by have := HB5.out.size; simp; omega) _).drew)
    have HX6 := Lib.hid (show TxtAt w6 (fun k => k < w5.heap.size) (.slice a2 X2.length c2) X2 by rw [e6]; exact HX5.out.keep fun k _ hl => ⟨hl, (Below.heap_alloc _ _ _ (by simp; omega)).trans (Below.heap_alloc _ _ _ hl)⟩)
    have HY6 := Lib.hid (show TxtAt w6 (fun k => k < w5.heap.size) (.slice a4 Y2.length c4) Y2 by rw [e6]; exact HY5.out.keep fun k _ hl => ⟨hl, (Below.heap_alloc _ _ _ (by simp; omega)).trans (Below.heap_alloc _ _ _ hl)⟩)
    have hPR : w5.heap.size ≠ w5.heap.size + 1 := by omega
    have hHP : w.heap.size + 1 < w5.heap.size := hs5b
    have hHR : w.heap.size + 1 < w5.heap.size + 1 := by omega
    have HN1 := Lib.hid (show ∀ k, k < w5.heap.size → k ≠ w5.heap.size ∧ k ≠ w5.heap.size + 1 from fun k h => ⟨by omega, by omega⟩)
    clear HX5 HY5 HB5
    generalize hN : (fun k => k < w5.heap.size) = N5 at HX6 HY6
    have HN2 := Lib.hid (show ∀ k, N5 k → k ≠ w5.heap.size ∧ k ≠ w5.heap.size + 1 by rw [← hN]; exact HN1.out)
    clear hN HN1
    clear e6 HC1 HC2 HW6 HP0 HP1 hs5a
    generalize w5.heap.size + 1 = R at *
    generalize w5.heap.size = P at *
    have g0 := (cell_row f0 0).trans (show (#[Value.int .i64 0, .slice none 0 0] : Array Value)[0]? = some (.int .i64 0) from rfl)
    have g1 := (cell_row f0 1).trans (show (#[Value.int .i64 0, .slice none 0 0] : Array Value)[1]? = some (.slice none 0 0) from rfl)
    have g2 := frozen_row f0 0
    have g3 := frozen_row f0 1
    have g4 := (cell_row f1 0).trans (show (#[Value.int .i64 0, .slice none 0 0] : Array Value)[0]? = some (.int .i64 0) from rfl)
    have g5 := (cell_row f1 1).trans (show (#[Value.int .i64 0, .slice none 0 0] : Array Value)[1]? = some (.slice none 0 0) from rfl)
    have g6 := frozen_row f1 0
    have g7 := frozen_row f1 1
    refine Orders.one (i := 12) (by kernel_rfl) HC6.out rfl (fun K hK => ?_)
    go_simp
    refine hK _ _ ?_
    clear hK K g0 g1 g2 g3
    have HB7 := Lib.hid (st_below (.int .i64 k) (.slice a2 X2.length c2) HB6.out (b := P) (by omega))
    have HX7 := Lib.hid (HX6.out.keep (N' := N5) fun j hj _ => ⟨hj, st_other w6 (.int .i64 k) (.slice a2 X2.length c2) (b := P) (HN2.out j hj).1⟩)
    have HY7 := Lib.hid (HY6.out.keep (N' := N5) fun j hj _ => ⟨hj, st_other w6 (.int .i64 k) (.slice a2 X2.length c2) (b := P) (HN2.out j hj).1⟩)
    have h0 := st_same (.int .i64 k) (.slice a2 X2.length c2) f0
    have h1 := (st_other w6 (.int .i64 k) (.slice a2 X2.length c2) (b := P) (show R ≠ P by omega)).trans f1
    have HC7 := Lib.hid (And.intro (HC6.out.1.to (st_other w6 (.int .i64 k) (.slice a2 X2.length c2) (b := P) (by omega))) (HC6.out.2.to (st_other w6 (.int .i64 k) (.slice a2 X2.length c2) (b := P) (by omega))))
    clear HB6 HX6 HY6 f0 f1 HC6 g4 g5 g6 g7
    generalize (w6.setCell ⟨P, 0, none⟩ (.int .i64 k)).setCell ⟨P, 1, none⟩ (.slice a2 X2.length c2) = w7 at *
    have g4 := (cell_row h1 0).trans (show (#[Value.int .i64 0, .slice none 0 0] : Array Value)[0]? = some (.int .i64 0) from rfl)
    have g5 := (cell_row h1 1).trans (show (#[Value.int .i64 0, .slice none 0 0] : Array Value)[1]? = some (.slice none 0 0) from rfl)
    have g6 := frozen_row h1 0
    have g7 := frozen_row h1 1
    refine Orders.one (i := 13) (by kernel_rfl) HC7.out rfl (fun K hK => ?_)
    go_simp
    refine hK _ _ ?_
    clear hK K
    have HB8 := Lib.hid (st_below (.int .i64 k') (.slice a4 Y2.length c4) HB7.out (b := R) (by omega))
    have HX8 := Lib.hid (HX7.out.keep (N' := fun _ => True) fun j hj _ => ⟨trivial, st_other w7 (.int .i64 k') (.slice a4 Y2.length c4) (b := R) (HN2.out j hj).2⟩)
    have HY8 := Lib.hid (HY7.out.keep (N' := fun _ => True) fun j hj _ => ⟨trivial, st_other w7 (.int .i64 k') (.slice a4 Y2.length c4) (b := R) (HN2.out j hj).2⟩)
    have HC8 := Lib.hid (show (fun wz : World => Two P k (.slice a2 X2.length c2) wz ∧ Two R k' (.slice a4 Y2.length c4) wz ∧ Two w.heap.size k (.slice a2 X2.length c2) wz ∧ Two (w.heap.size + 1) k' (.slice a4 Y2.length c4) wz) ((w7.setCell ⟨R, 0, none⟩ (.int .i64 k')).setCell ⟨R, 1, none⟩ (.slice a4 Y2.length c4)) from
      ⟨(Two.of h0).to (st_other _ _ _ (by omega)), Two.of (st_same _ _ h1), HC7.out.1.to (st_other _ _ _ (by omega)), HC7.out.2.to (st_other _ _ _ (by omega))⟩)
    clear HB7 HX7 HY7 h0 h1 HC7 g4 g5 g6 g7 HN2
    generalize (w7.setCell ⟨R, 0, none⟩ (.int .i64 k')).setCell ⟨R, 1, none⟩ (.slice a4 Y2.length c4) = w8 at *
    refine Orders.done (by kernel_rfl) ⟨HC8.out.2.2.1, HC8.out.2.2.2⟩ ?_
    go_wp2_with fail
    clear hPR hHP hHR hs5b
    have HD := Lib.hid (show ∀ wz : World, Below w8.heap.size w8 wz → Two P k (.slice a2 X2.length c2) wz ∧ Two R k' (.slice a4 Y2.length c4) wz ∧ Two w.heap.size k (.slice a2 X2.length c2) wz ∧ Two (w.heap.size + 1) k' (.slice a4 Y2.length c4) wz from
      fun wz hb => ⟨HC8.out.1.below hb HC8.out.1.lt, HC8.out.2.1.below hb HC8.out.2.1.lt, HC8.out.2.2.1.below hb HC8.out.2.2.1.lt, HC8.out.2.2.2.below hb HC8.out.2.2.2.lt⟩)
    have HG := Lib.hid (show ∀ wz : World, Below w8.heap.size w8 wz → Calls Try.prog 20 #[.agg #[.int .i64 k, .slice a2 X2.length c2], .agg #[.int .i64 k', .slice a4 Y2.length c4]] wz fun e w' => e = .returned (.bool (decide (k = k') && decide (X2 = Y2))) ∧ Below wz.heap.size wz w' from
      fun wz hb => SameG_calls wz _ _ k k' _ _ X2 Y2 sX.rows (HX8.out.below hb) (HY8.out.below hb))
    have HG2 := Lib.hid (show ∀ wz : World, Below w8.heap.size w8 wz → Calls Try.prog 14 #[.agg #[.int .i64 k, .slice a2 X2.length c2], .agg #[.int .i64 k', .slice a4 Y2.length c4]] wz fun e w' => e = .returned (.bool (decide (k = k') && decide (X2 = Y2))) ∧ Below wz.heap.size wz w' from
      fun wz hb => SameD_calls wz _ _ k k' _ _ X2 Y2 sX.rows (HX8.out.below hb) (HY8.out.below hb))
    have HG3 := Lib.hid (show ∀ wz : World, Below w8.heap.size w8 wz → Calls Try.prog 20 #[.agg #[.int .i64 k, .slice a2 X2.length c2], .agg #[.int .i64 k, .slice a2 X2.length c2]] wz fun e w' => e = .returned (.bool true) ∧ Below wz.heap.size wz w' from
      fun wz hb => (SameG_calls wz _ _ k k _ _ X2 X2 sX.rows (HX8.out.below hb) (HX8.out.below hb)).mono fun e w' h => ⟨by simpa using h.1, h.2⟩)
    have HG4 := Lib.hid (show ∀ wz : World, Below w8.heap.size w8 wz → Calls Try.prog 21 #[.agg #[.int .i64 k, .slice a2 X2.length c2]] wz fun e w' => e = .returned (.int .i64 (sizeL X2)) ∧ Below wz.heap.size wz w' from
      fun wz hb => (Size_calls wz _ k _ X2 (by have := sX.size; omega) (HX8.out.below hb)).mono fun e w' h => ⟨h.1, h.2 ▸ (Below.refl _ _).alloc (Nat.le_refl _) _⟩)
    have HG5 := Lib.hid (show ∀ wz : World, Below w8.heap.size w8 wz → Calls Try.prog 22 #[.agg #[.int .i64 k, .slice a2 X2.length c2]] wz fun e w' => e = .returned (.int .i64 (sizeL X2)) ∧ Below wz.heap.size wz w' from
      fun wz hb => (SizeR_calls wz _ k _ X2 (by have := sX.size; omega) (HX8.out.below hb)).mono fun e w' h => ⟨h.1, h.2 ▸ (Below.refl _ _).alloc (Nat.le_refl _) _⟩)
    clear HX8 HY8 HC8
    generalize (decide (k = k') && decide (X2 = Y2)) = bb at HG HG2
    generalize (sizeL X2 : Int) = sz at HG4 HG5
    refine wp_region_any (by kernel_rfl) ?_
    change wpAny _ _ _ _ _ _ _ (World.drew _)
    refine Orders.any (C := fun wz => Two P k (.slice a2 X2.length c2) wz ∧ Two R k' (.slice a4 Y2.length c4) wz ∧ Two w.heap.size k (.slice a2 X2.length c2) wz ∧ Two (w.heap.size + 1) k' (.slice a4 Y2.length c4) wz) _ _ _ _ ?_
    refine Orders.take (i := 0) (v := .agg #[.int .i64 k, .slice a2 X2.length c2]) rfl (by kernel_rfl) (by kernel_rfl) (by kernel_rfl) (fun _ _ _ h => h) (Or.inl ⟨by rfl, fun wz ⟨⟨z0, z1⟩, ⟨z2, z3⟩, ⟨z4, z5⟩, ⟨z6, z7⟩⟩ => by go_simp⟩) ?_
    refine Orders.take (i := 1) (v := .agg #[.int .i64 k', .slice a4 Y2.length c4]) rfl (by kernel_rfl) (by kernel_rfl) (by kernel_rfl) (fun _ _ _ h => h) (Or.inl ⟨by rfl, fun wz ⟨⟨z0, z1⟩, ⟨z2, z3⟩, ⟨z4, z5⟩, ⟨z6, z7⟩⟩ => by go_simp⟩) ?_
    refine Orders.take (i := 3) (v := .agg #[.int .i64 k, .slice a2 X2.length c2]) rfl (by kernel_rfl) (by kernel_rfl) (by kernel_rfl) (fun _ _ _ h => h) (Or.inl ⟨by rfl, fun wz ⟨⟨z0, z1⟩, ⟨z2, z3⟩, ⟨z4, z5⟩, ⟨z6, z7⟩⟩ => by go_simp⟩) ?_
    refine Orders.take (i := 4) (v := .agg #[.int .i64 k', .slice a4 Y2.length c4]) rfl (by kernel_rfl) (by kernel_rfl) (by kernel_rfl) (fun _ _ _ h => h) (Or.inl ⟨by rfl, fun wz ⟨⟨z0, z1⟩, ⟨z2, z3⟩, ⟨z4, z5⟩, ⟨z6, z7⟩⟩ => by go_simp⟩) ?_
    refine Orders.one (i := 2) (by kernel_rfl) (HD.out _ ((Below.refl w8.heap.size w8).drew)) rfl (fun K hK => ?_)
    go_simp
    refine (HG.out _ ((Below.refl w8.heap.size w8).drew)).mono ?_
    rintro e w9 ⟨rfl, hb⟩
    have Bw9 := Lib.hid (Below.trans ((Below.refl w8.heap.size w8).drew) (hb.mono (((Below.refl w8.heap.size w8).drew)).size))
    clear hb
    go_simp
    refine hK _ _ ?_
    clear hK K
    refine Orders.one (i := 5) (by kernel_rfl) (HD.out _ Bw9.out) rfl (fun K hK => ?_)
    go_simp
    refine (HG2.out _ Bw9.out).mono ?_
    rintro e wa ⟨rfl, hb⟩
    have Bwa := Lib.hid (Below.trans Bw9.out (hb.mono (Bw9.out).size))
    clear hb
    go_simp
    refine hK _ _ ?_
    clear hK K
    refine Orders.take (i := 6) (v := .bool true) rfl (by kernel_rfl) (by kernel_rfl) (by kernel_rfl) (fun _ _ _ h => h) (Or.inl ⟨by rfl, fun wz ⟨⟨z0, z1⟩, ⟨z2, z3⟩, ⟨z4, z5⟩, ⟨z6, z7⟩⟩ => by go_simp⟩) ?_
    refine Orders.take (i := 7) (v := .bool true) rfl (by kernel_rfl) (by kernel_rfl) (by kernel_rfl) (fun _ _ _ h => h) (Or.inl ⟨by rfl, fun wz ⟨⟨z0, z1⟩, ⟨z2, z3⟩, ⟨z4, z5⟩, ⟨z6, z7⟩⟩ => by go_simp⟩) ?_
    refine Orders.take (i := 8) (v := .agg #[.int .i64 k, .slice a2 X2.length c2]) rfl (by kernel_rfl) (by kernel_rfl) (by kernel_rfl) (fun _ _ _ h => h) (Or.inl ⟨by rfl, fun wz ⟨⟨z0, z1⟩, ⟨z2, z3⟩, ⟨z4, z5⟩, ⟨z6, z7⟩⟩ => by go_simp⟩) ?_
    refine Orders.take (i := 9) (v := .agg #[.int .i64 k, .slice a2 X2.length c2]) rfl (by kernel_rfl) (by kernel_rfl) (by kernel_rfl) (fun _ _ _ h => h) (Or.inl ⟨by rfl, fun wz ⟨⟨z0, z1⟩, ⟨z2, z3⟩, ⟨z4, z5⟩, ⟨z6, z7⟩⟩ => by go_simp⟩) ?_
    refine Orders.one (i := 10) (by kernel_rfl) (HD.out _ Bwa.out) rfl (fun K hK => ?_)
    go_simp
    refine (HG3.out _ Bwa.out).mono ?_
    rintro e wb ⟨rfl, hb⟩
    have Bwb := Lib.hid (Below.trans Bwa.out (hb.mono (Bwa.out).size))
    clear hb
    go_simp
    refine hK _ _ ?_
    clear hK K
    refine Orders.take (i := 11) (v := .bool true) rfl (by kernel_rfl) (by kernel_rfl) (by kernel_rfl) (fun _ _ _ h => h) (Or.inl ⟨by rfl, fun wz ⟨⟨z0, z1⟩, ⟨z2, z3⟩, ⟨z4, z5⟩, ⟨z6, z7⟩⟩ => by go_simp⟩) ?_
    refine Orders.take (i := 12) (v := .bool true) rfl (by kernel_rfl) (by kernel_rfl) (by kernel_rfl) (fun _ _ _ h => h) (Or.inl ⟨by rfl, fun wz ⟨⟨z0, z1⟩, ⟨z2, z3⟩, ⟨z4, z5⟩, ⟨z6, z7⟩⟩ => by go_simp⟩) ?_
    refine Orders.take (i := 13) (v := .agg #[.int .i64 k, .slice a2 X2.length c2]) rfl (by kernel_rfl) (by kernel_rfl) (by kernel_rfl) (fun _ _ _ h => h) (Or.inl ⟨by rfl, fun wz ⟨⟨z0, z1⟩, ⟨z2, z3⟩, ⟨z4, z5⟩, ⟨z6, z7⟩⟩ => by go_simp⟩) ?_
    refine Orders.take (i := 15) (v := .agg #[.int .i64 k, .slice a2 X2.length c2]) rfl (by kernel_rfl) (by kernel_rfl) (by kernel_rfl) (fun _ _ _ h => h) (Or.inl ⟨by rfl, fun wz ⟨⟨z0, z1⟩, ⟨z2, z3⟩, ⟨z4, z5⟩, ⟨z6, z7⟩⟩ => by go_simp⟩) ?_
    refine Orders.one (i := 14) (by kernel_rfl) (HD.out _ Bwb.out) rfl (fun K hK => ?_)
    go_simp
    refine (HG4.out _ Bwb.out).mono ?_
    rintro e wc ⟨rfl, hb⟩
    have Bwc := Lib.hid (Below.trans Bwb.out (hb.mono (Bwb.out).size))
    clear hb
    go_simp
    refine hK _ _ ?_
    clear hK K
    refine Orders.one (i := 16) (by kernel_rfl) (HD.out _ Bwc.out) rfl (fun K hK => ?_)
    go_simp
    refine (HG5.out _ Bwc.out).mono ?_
    rintro e wd ⟨rfl, hb⟩
    have Bwd := Lib.hid (Below.trans Bwc.out (hb.mono (Bwc.out).size))
    clear hb
    go_simp
    refine hK _ _ ?_
    clear hK K
    refine Orders.take (i := 17) (v := .bool true) rfl (by kernel_rfl) (by kernel_rfl) (by kernel_rfl) (fun _ _ _ h => h) (Or.inl ⟨by rfl, fun wz ⟨⟨z0, z1⟩, ⟨z2, z3⟩, ⟨z4, z5⟩, ⟨z6, z7⟩⟩ => by go_simp⟩) ?_
    refine Orders.take (i := 18) (v := .bool true) rfl (by kernel_rfl) (by kernel_rfl) (by kernel_rfl) (fun _ _ _ h => h) (Or.inl ⟨by rfl, fun wz ⟨⟨z0, z1⟩, ⟨z2, z3⟩, ⟨z4, z5⟩, ⟨z6, z7⟩⟩ => by go_simp⟩) ?_
    refine Orders.take (i := 19) (v := .bool true) rfl (by kernel_rfl) (by kernel_rfl) (by kernel_rfl) (fun _ _ _ h => h) (Or.inl ⟨by rfl, fun wz ⟨⟨z0, z1⟩, ⟨z2, z3⟩, ⟨z4, z5⟩, ⟨z6, z7⟩⟩ => by go_simp⟩) ?_
    refine Orders.one (i := 20) (by kernel_rfl) (HD.out _ Bwd.out) rfl (fun K hK => ?_)
    go_simp
    refine (awake_calls _).mono ?_
    rintro e we ⟨rfl, hb⟩
    have Bwe := Lib.hid (Below.trans Bwd.out (hb.mono Bwd.out.size))
    clear hb
    go_simp
    refine hK _ _ ?_
    clear hK K
    refine Orders.take (i := 21) (v := .bool true) rfl (by kernel_rfl) (by kernel_rfl) (by kernel_rfl) (fun _ _ _ h => h) (Or.inl ⟨by rfl, fun wz ⟨⟨z0, z1⟩, ⟨z2, z3⟩, ⟨z4, z5⟩, ⟨z6, z7⟩⟩ => by go_simp⟩) ?_
    refine Orders.take (i := 22) (v := .bool true) rfl (by kernel_rfl) (by kernel_rfl) (by kernel_rfl) (fun _ _ _ h => h) (Or.inl ⟨by rfl, fun wz ⟨⟨z0, z1⟩, ⟨z2, z3⟩, ⟨z4, z5⟩, ⟨z6, z7⟩⟩ => by go_simp⟩) ?_
    refine Orders.done (by kernel_rfl) (HD.out _ Bwe.out) ?_
    go_wp2_with fail
    go_ret
    exact ⟨rfl, HB8.out.trans (Bwe.out.mono HB8.out.size)⟩
  · go_simp
    refine hK _ _ ?_
    clear hK K
    refine Orders.one (i := 10) (by kernel_rfl) (HC1.out _) rfl (fun K hK => ?_)
    go_simp
    refine hK _ _ ?_
    clear hK K
    obtain ⟨w6, e6⟩ := HW6.out
    rw [← e6]
    have f0 : w6.heap[w5.heap.size]? = some (.cells #[.int .i64 0, .slice none 0 0] 30) := by rw [e6]; exact G2_first w5 _ _
    have f1 : w6.heap[w5.heap.size + 1]? = some (.cells #[.int .i64 0, .slice none 0 0] 30) := by rw [e6]; exact G2_second w5 _ _
    have HC6 := Lib.hid (show Two w.heap.size k (.slice a2 X2.length c2) w6 ∧ Two (w.heap.size + 1) k' (.slice a4 Y2.length c4) w6 by rw [e6]; exact HC2.out _ _)
    have HB6 := Lib.hid (show Below w.heap.size w w6 by rw [e6]; exact ((HB5.out.alloc HB5.out.size _).alloc (by have := HB5.out.size; simp; omega) _).drew)
    have HX6 := Lib.hid (show TxtAt w6 (fun k => k < w5.heap.size) (.slice a2 X2.length c2) X2 by rw [e6]; exact HX5.out.keep fun k _ hl => ⟨hl, (Below.heap_alloc _ _ _ (by simp; omega)).trans (Below.heap_alloc _ _ _ hl)⟩)
    have HY6 := Lib.hid (show TxtAt w6 (fun k => k < w5.heap.size) (.slice a4 Y2.length c4) Y2 by rw [e6]; exact HY5.out.keep fun k _ hl => ⟨hl, (Below.heap_alloc _ _ _ (by simp; omega)).trans (Below.heap_alloc _ _ _ hl)⟩)
    have hPR : w5.heap.size ≠ w5.heap.size + 1 := by omega
    have hHP : w.heap.size + 1 < w5.heap.size := hs5b
    have hHR : w.heap.size + 1 < w5.heap.size + 1 := by omega
    have HN1 := Lib.hid (show ∀ k, k < w5.heap.size → k ≠ w5.heap.size ∧ k ≠ w5.heap.size + 1 from fun k h => ⟨by omega, by omega⟩)
    clear HX5 HY5 HB5
    generalize hN : (fun k => k < w5.heap.size) = N5 at HX6 HY6
    have HN2 := Lib.hid (show ∀ k, N5 k → k ≠ w5.heap.size ∧ k ≠ w5.heap.size + 1 by rw [← hN]; exact HN1.out)
    clear hN HN1
    clear e6 HC1 HC2 HW6 HP0 HP1 hs5a
    generalize w5.heap.size + 1 = P at *
    generalize w5.heap.size = R at *
    have g0 := (cell_row f0 0).trans (show (#[Value.int .i64 0, .slice none 0 0] : Array Value)[0]? = some (.int .i64 0) from rfl)
    have g1 := (cell_row f0 1).trans (show (#[Value.int .i64 0, .slice none 0 0] : Array Value)[1]? = some (.slice none 0 0) from rfl)
    have g2 := frozen_row f0 0
    have g3 := frozen_row f0 1
    have g4 := (cell_row f1 0).trans (show (#[Value.int .i64 0, .slice none 0 0] : Array Value)[0]? = some (.int .i64 0) from rfl)
    have g5 := (cell_row f1 1).trans (show (#[Value.int .i64 0, .slice none 0 0] : Array Value)[1]? = some (.slice none 0 0) from rfl)
    have g6 := frozen_row f1 0
    have g7 := frozen_row f1 1
    refine Orders.one (i := 12) (by kernel_rfl) HC6.out rfl (fun K hK => ?_)
    go_simp
    refine hK _ _ ?_
    clear hK K g0 g1 g2 g3
    have HB7 := Lib.hid (st_below (.int .i64 k) (.slice a2 X2.length c2) HB6.out (b := P) (by omega))
    have HX7 := Lib.hid (HX6.out.keep (N' := N5) fun j hj _ => ⟨hj, st_other w6 (.int .i64 k) (.slice a2 X2.length c2) (b := P) (HN2.out j hj).2⟩)
    have HY7 := Lib.hid (HY6.out.keep (N' := N5) fun j hj _ => ⟨hj, st_other w6 (.int .i64 k) (.slice a2 X2.length c2) (b := P) (HN2.out j hj).2⟩)
    have h0 := st_same (.int .i64 k) (.slice a2 X2.length c2) f1
    have h1 := (st_other w6 (.int .i64 k) (.slice a2 X2.length c2) (b := P) (show R ≠ P by omega)).trans f0
    have HC7 := Lib.hid (And.intro (HC6.out.1.to (st_other w6 (.int .i64 k) (.slice a2 X2.length c2) (b := P) (by omega))) (HC6.out.2.to (st_other w6 (.int .i64 k) (.slice a2 X2.length c2) (b := P) (by omega))))
    clear HB6 HX6 HY6 f0 f1 HC6 g4 g5 g6 g7
    generalize (w6.setCell ⟨P, 0, none⟩ (.int .i64 k)).setCell ⟨P, 1, none⟩ (.slice a2 X2.length c2) = w7 at *
    have g4 := (cell_row h1 0).trans (show (#[Value.int .i64 0, .slice none 0 0] : Array Value)[0]? = some (.int .i64 0) from rfl)
    have g5 := (cell_row h1 1).trans (show (#[Value.int .i64 0, .slice none 0 0] : Array Value)[1]? = some (.slice none 0 0) from rfl)
    have g6 := frozen_row h1 0
    have g7 := frozen_row h1 1
    refine Orders.one (i := 13) (by kernel_rfl) HC7.out rfl (fun K hK => ?_)
    go_simp
    refine hK _ _ ?_
    clear hK K
    have HB8 := Lib.hid (st_below (.int .i64 k') (.slice a4 Y2.length c4) HB7.out (b := R) (by omega))
    have HX8 := Lib.hid (HX7.out.keep (N' := fun _ => True) fun j hj _ => ⟨trivial, st_other w7 (.int .i64 k') (.slice a4 Y2.length c4) (b := R) (HN2.out j hj).1⟩)
    have HY8 := Lib.hid (HY7.out.keep (N' := fun _ => True) fun j hj _ => ⟨trivial, st_other w7 (.int .i64 k') (.slice a4 Y2.length c4) (b := R) (HN2.out j hj).1⟩)
    have HC8 := Lib.hid (show (fun wz : World => Two P k (.slice a2 X2.length c2) wz ∧ Two R k' (.slice a4 Y2.length c4) wz ∧ Two w.heap.size k (.slice a2 X2.length c2) wz ∧ Two (w.heap.size + 1) k' (.slice a4 Y2.length c4) wz) ((w7.setCell ⟨R, 0, none⟩ (.int .i64 k')).setCell ⟨R, 1, none⟩ (.slice a4 Y2.length c4)) from
      ⟨(Two.of h0).to (st_other _ _ _ (by omega)), Two.of (st_same _ _ h1), HC7.out.1.to (st_other _ _ _ (by omega)), HC7.out.2.to (st_other _ _ _ (by omega))⟩)
    clear HB7 HX7 HY7 h0 h1 HC7 g4 g5 g6 g7 HN2
    generalize (w7.setCell ⟨R, 0, none⟩ (.int .i64 k')).setCell ⟨R, 1, none⟩ (.slice a4 Y2.length c4) = w8 at *
    refine Orders.done (by kernel_rfl) ⟨HC8.out.2.2.1, HC8.out.2.2.2⟩ ?_
    go_wp2_with fail
    clear hPR hHP hHR hs5b
    have HD := Lib.hid (show ∀ wz : World, Below w8.heap.size w8 wz → Two P k (.slice a2 X2.length c2) wz ∧ Two R k' (.slice a4 Y2.length c4) wz ∧ Two w.heap.size k (.slice a2 X2.length c2) wz ∧ Two (w.heap.size + 1) k' (.slice a4 Y2.length c4) wz from
      fun wz hb => ⟨HC8.out.1.below hb HC8.out.1.lt, HC8.out.2.1.below hb HC8.out.2.1.lt, HC8.out.2.2.1.below hb HC8.out.2.2.1.lt, HC8.out.2.2.2.below hb HC8.out.2.2.2.lt⟩)
    have HG := Lib.hid (show ∀ wz : World, Below w8.heap.size w8 wz → Calls Try.prog 20 #[.agg #[.int .i64 k, .slice a2 X2.length c2], .agg #[.int .i64 k', .slice a4 Y2.length c4]] wz fun e w' => e = .returned (.bool (decide (k = k') && decide (X2 = Y2))) ∧ Below wz.heap.size wz w' from
      fun wz hb => SameG_calls wz _ _ k k' _ _ X2 Y2 sX.rows (HX8.out.below hb) (HY8.out.below hb))
    have HG2 := Lib.hid (show ∀ wz : World, Below w8.heap.size w8 wz → Calls Try.prog 14 #[.agg #[.int .i64 k, .slice a2 X2.length c2], .agg #[.int .i64 k', .slice a4 Y2.length c4]] wz fun e w' => e = .returned (.bool (decide (k = k') && decide (X2 = Y2))) ∧ Below wz.heap.size wz w' from
      fun wz hb => SameD_calls wz _ _ k k' _ _ X2 Y2 sX.rows (HX8.out.below hb) (HY8.out.below hb))
    have HG3 := Lib.hid (show ∀ wz : World, Below w8.heap.size w8 wz → Calls Try.prog 20 #[.agg #[.int .i64 k, .slice a2 X2.length c2], .agg #[.int .i64 k, .slice a2 X2.length c2]] wz fun e w' => e = .returned (.bool true) ∧ Below wz.heap.size wz w' from
      fun wz hb => (SameG_calls wz _ _ k k _ _ X2 X2 sX.rows (HX8.out.below hb) (HX8.out.below hb)).mono fun e w' h => ⟨by simpa using h.1, h.2⟩)
    have HG4 := Lib.hid (show ∀ wz : World, Below w8.heap.size w8 wz → Calls Try.prog 21 #[.agg #[.int .i64 k, .slice a2 X2.length c2]] wz fun e w' => e = .returned (.int .i64 (sizeL X2)) ∧ Below wz.heap.size wz w' from
      fun wz hb => (Size_calls wz _ k _ X2 (by have := sX.size; omega) (HX8.out.below hb)).mono fun e w' h => ⟨h.1, h.2 ▸ (Below.refl _ _).alloc (Nat.le_refl _) _⟩)
    have HG5 := Lib.hid (show ∀ wz : World, Below w8.heap.size w8 wz → Calls Try.prog 22 #[.agg #[.int .i64 k, .slice a2 X2.length c2]] wz fun e w' => e = .returned (.int .i64 (sizeL X2)) ∧ Below wz.heap.size wz w' from
      fun wz hb => (SizeR_calls wz _ k _ X2 (by have := sX.size; omega) (HX8.out.below hb)).mono fun e w' h => ⟨h.1, h.2 ▸ (Below.refl _ _).alloc (Nat.le_refl _) _⟩)
    clear HX8 HY8 HC8
    generalize (decide (k = k') && decide (X2 = Y2)) = bb at HG HG2
    generalize (sizeL X2 : Int) = sz at HG4 HG5
    refine wp_region_any (by kernel_rfl) ?_
    change wpAny _ _ _ _ _ _ _ (World.drew _)
    refine Orders.any (C := fun wz => Two P k (.slice a2 X2.length c2) wz ∧ Two R k' (.slice a4 Y2.length c4) wz ∧ Two w.heap.size k (.slice a2 X2.length c2) wz ∧ Two (w.heap.size + 1) k' (.slice a4 Y2.length c4) wz) _ _ _ _ ?_
    refine Orders.take (i := 0) (v := .agg #[.int .i64 k, .slice a2 X2.length c2]) rfl (by kernel_rfl) (by kernel_rfl) (by kernel_rfl) (fun _ _ _ h => h) (Or.inl ⟨by rfl, fun wz ⟨⟨z0, z1⟩, ⟨z2, z3⟩, ⟨z4, z5⟩, ⟨z6, z7⟩⟩ => by go_simp⟩) ?_
    refine Orders.take (i := 1) (v := .agg #[.int .i64 k', .slice a4 Y2.length c4]) rfl (by kernel_rfl) (by kernel_rfl) (by kernel_rfl) (fun _ _ _ h => h) (Or.inl ⟨by rfl, fun wz ⟨⟨z0, z1⟩, ⟨z2, z3⟩, ⟨z4, z5⟩, ⟨z6, z7⟩⟩ => by go_simp⟩) ?_
    refine Orders.take (i := 3) (v := .agg #[.int .i64 k, .slice a2 X2.length c2]) rfl (by kernel_rfl) (by kernel_rfl) (by kernel_rfl) (fun _ _ _ h => h) (Or.inl ⟨by rfl, fun wz ⟨⟨z0, z1⟩, ⟨z2, z3⟩, ⟨z4, z5⟩, ⟨z6, z7⟩⟩ => by go_simp⟩) ?_
    refine Orders.take (i := 4) (v := .agg #[.int .i64 k', .slice a4 Y2.length c4]) rfl (by kernel_rfl) (by kernel_rfl) (by kernel_rfl) (fun _ _ _ h => h) (Or.inl ⟨by rfl, fun wz ⟨⟨z0, z1⟩, ⟨z2, z3⟩, ⟨z4, z5⟩, ⟨z6, z7⟩⟩ => by go_simp⟩) ?_
    refine Orders.one (i := 2) (by kernel_rfl) (HD.out _ ((Below.refl w8.heap.size w8).drew)) rfl (fun K hK => ?_)
    go_simp
    refine (HG.out _ ((Below.refl w8.heap.size w8).drew)).mono ?_
    rintro e w9 ⟨rfl, hb⟩
    have Bw9 := Lib.hid (Below.trans ((Below.refl w8.heap.size w8).drew) (hb.mono (((Below.refl w8.heap.size w8).drew)).size))
    clear hb
    go_simp
    refine hK _ _ ?_
    clear hK K
    refine Orders.one (i := 5) (by kernel_rfl) (HD.out _ Bw9.out) rfl (fun K hK => ?_)
    go_simp
    refine (HG2.out _ Bw9.out).mono ?_
    rintro e wa ⟨rfl, hb⟩
    have Bwa := Lib.hid (Below.trans Bw9.out (hb.mono (Bw9.out).size))
    clear hb
    go_simp
    refine hK _ _ ?_
    clear hK K
    refine Orders.take (i := 6) (v := .bool true) rfl (by kernel_rfl) (by kernel_rfl) (by kernel_rfl) (fun _ _ _ h => h) (Or.inl ⟨by rfl, fun wz ⟨⟨z0, z1⟩, ⟨z2, z3⟩, ⟨z4, z5⟩, ⟨z6, z7⟩⟩ => by go_simp⟩) ?_
    refine Orders.take (i := 7) (v := .bool true) rfl (by kernel_rfl) (by kernel_rfl) (by kernel_rfl) (fun _ _ _ h => h) (Or.inl ⟨by rfl, fun wz ⟨⟨z0, z1⟩, ⟨z2, z3⟩, ⟨z4, z5⟩, ⟨z6, z7⟩⟩ => by go_simp⟩) ?_
    refine Orders.take (i := 8) (v := .agg #[.int .i64 k, .slice a2 X2.length c2]) rfl (by kernel_rfl) (by kernel_rfl) (by kernel_rfl) (fun _ _ _ h => h) (Or.inl ⟨by rfl, fun wz ⟨⟨z0, z1⟩, ⟨z2, z3⟩, ⟨z4, z5⟩, ⟨z6, z7⟩⟩ => by go_simp⟩) ?_
    refine Orders.take (i := 9) (v := .agg #[.int .i64 k, .slice a2 X2.length c2]) rfl (by kernel_rfl) (by kernel_rfl) (by kernel_rfl) (fun _ _ _ h => h) (Or.inl ⟨by rfl, fun wz ⟨⟨z0, z1⟩, ⟨z2, z3⟩, ⟨z4, z5⟩, ⟨z6, z7⟩⟩ => by go_simp⟩) ?_
    refine Orders.one (i := 10) (by kernel_rfl) (HD.out _ Bwa.out) rfl (fun K hK => ?_)
    go_simp
    refine (HG3.out _ Bwa.out).mono ?_
    rintro e wb ⟨rfl, hb⟩
    have Bwb := Lib.hid (Below.trans Bwa.out (hb.mono (Bwa.out).size))
    clear hb
    go_simp
    refine hK _ _ ?_
    clear hK K
    refine Orders.take (i := 11) (v := .bool true) rfl (by kernel_rfl) (by kernel_rfl) (by kernel_rfl) (fun _ _ _ h => h) (Or.inl ⟨by rfl, fun wz ⟨⟨z0, z1⟩, ⟨z2, z3⟩, ⟨z4, z5⟩, ⟨z6, z7⟩⟩ => by go_simp⟩) ?_
    refine Orders.take (i := 12) (v := .bool true) rfl (by kernel_rfl) (by kernel_rfl) (by kernel_rfl) (fun _ _ _ h => h) (Or.inl ⟨by rfl, fun wz ⟨⟨z0, z1⟩, ⟨z2, z3⟩, ⟨z4, z5⟩, ⟨z6, z7⟩⟩ => by go_simp⟩) ?_
    refine Orders.take (i := 13) (v := .agg #[.int .i64 k, .slice a2 X2.length c2]) rfl (by kernel_rfl) (by kernel_rfl) (by kernel_rfl) (fun _ _ _ h => h) (Or.inl ⟨by rfl, fun wz ⟨⟨z0, z1⟩, ⟨z2, z3⟩, ⟨z4, z5⟩, ⟨z6, z7⟩⟩ => by go_simp⟩) ?_
    refine Orders.take (i := 15) (v := .agg #[.int .i64 k, .slice a2 X2.length c2]) rfl (by kernel_rfl) (by kernel_rfl) (by kernel_rfl) (fun _ _ _ h => h) (Or.inl ⟨by rfl, fun wz ⟨⟨z0, z1⟩, ⟨z2, z3⟩, ⟨z4, z5⟩, ⟨z6, z7⟩⟩ => by go_simp⟩) ?_
    refine Orders.one (i := 14) (by kernel_rfl) (HD.out _ Bwb.out) rfl (fun K hK => ?_)
    go_simp
    refine (HG4.out _ Bwb.out).mono ?_
    rintro e wc ⟨rfl, hb⟩
    have Bwc := Lib.hid (Below.trans Bwb.out (hb.mono (Bwb.out).size))
    clear hb
    go_simp
    refine hK _ _ ?_
    clear hK K
    refine Orders.one (i := 16) (by kernel_rfl) (HD.out _ Bwc.out) rfl (fun K hK => ?_)
    go_simp
    refine (HG5.out _ Bwc.out).mono ?_
    rintro e wd ⟨rfl, hb⟩
    have Bwd := Lib.hid (Below.trans Bwc.out (hb.mono (Bwc.out).size))
    clear hb
    go_simp
    refine hK _ _ ?_
    clear hK K
    refine Orders.take (i := 17) (v := .bool true) rfl (by kernel_rfl) (by kernel_rfl) (by kernel_rfl) (fun _ _ _ h => h) (Or.inl ⟨by rfl, fun wz ⟨⟨z0, z1⟩, ⟨z2, z3⟩, ⟨z4, z5⟩, ⟨z6, z7⟩⟩ => by go_simp⟩) ?_
    refine Orders.take (i := 18) (v := .bool true) rfl (by kernel_rfl) (by kernel_rfl) (by kernel_rfl) (fun _ _ _ h => h) (Or.inl ⟨by rfl, fun wz ⟨⟨z0, z1⟩, ⟨z2, z3⟩, ⟨z4, z5⟩, ⟨z6, z7⟩⟩ => by go_simp⟩) ?_
    refine Orders.take (i := 19) (v := .bool true) rfl (by kernel_rfl) (by kernel_rfl) (by kernel_rfl) (fun _ _ _ h => h) (Or.inl ⟨by rfl, fun wz ⟨⟨z0, z1⟩, ⟨z2, z3⟩, ⟨z4, z5⟩, ⟨z6, z7⟩⟩ => by go_simp⟩) ?_
    refine Orders.one (i := 20) (by kernel_rfl) (HD.out _ Bwd.out) rfl (fun K hK => ?_)
    go_simp
    refine (awake_calls _).mono ?_
    rintro e we ⟨rfl, hb⟩
    have Bwe := Lib.hid (Below.trans Bwd.out (hb.mono Bwd.out.size))
    clear hb
    go_simp
    refine hK _ _ ?_
    clear hK K
    refine Orders.take (i := 21) (v := .bool true) rfl (by kernel_rfl) (by kernel_rfl) (by kernel_rfl) (fun _ _ _ h => h) (Or.inl ⟨by rfl, fun wz ⟨⟨z0, z1⟩, ⟨z2, z3⟩, ⟨z4, z5⟩, ⟨z6, z7⟩⟩ => by go_simp⟩) ?_
    refine Orders.take (i := 22) (v := .bool true) rfl (by kernel_rfl) (by kernel_rfl) (by kernel_rfl) (fun _ _ _ h => h) (Or.inl ⟨by rfl, fun wz ⟨⟨z0, z1⟩, ⟨z2, z3⟩, ⟨z4, z5⟩, ⟨z6, z7⟩⟩ => by go_simp⟩) ?_
    refine Orders.done (by kernel_rfl) (HD.out _ Bwe.out) ?_
    go_wp2_with fail
    go_ret
    exact ⟨rfl, HB8.out.trans (Bwe.out.mono HB8.out.size)⟩
end Go.Proofs.Ythalpbbjcagnnaa
