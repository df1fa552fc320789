/- What is set is got, by its name and as the last one, whatever becomes of what was handed in, and out: the law's walk. (Written by gen_own.py.) -/
import Derived.Test.YthalpbbjcagnnaaOwn
set_option linter.unusedSimpArgs false
set_option linter.unusedVariables false
namespace Go.Proofs.Ythalpbbjcagnnaa
open Go.RowKit
def OwnRel (w : World) (s2 s5 s7 g r : Nat) (k : Int) (u1 u2 : Value) (L : Txt) (R : RegsT) (iv : Value) (wr : World) : Prop := ∃ j : Nat, iv = .int .i64 j ∧ j ≤ 2 ∧ OwnAt w s2 s5 s7 g r k u1 u2 L R wr
set_option maxRecDepth 100000 in
set_option maxHeartbeats 2000000 in
theorem regsOwn_walk (x k : Int) (v : Value) (L0 : Txt) (N : Nat → Prop) (w : World) (h : TxtAt w N v L0) : Calls Try.prog 3 #[.int .i64 x, .agg #[.int .i64 k, v]] w fun e w' => e = .returned (.bool true) ∧ Below w.heap.size w w' := by
  obtain ⟨a, c, rfl, -⟩ := id h
  have HB1 := Lib.hid (show Below w.heap.size w (w.alloc (.cells #[.int .i64 k, .slice a L0.length c] 24)) from (Below.refl _ _).alloc (Nat.le_refl _) _)
  have HF := Lib.hid (Few_soft _ N _ L0 (h.below HB1.out))
  have HA := Lib.hid (heap_new w (.cells #[.int .i64 k, .slice a L0.length c] 24))
  clear h
  go_enter Try.func3, Try.ntmps3
  go_wp2_with fail
  refine HF.out.mono ?_
  rintro e w2 ⟨⟨u1, L, rfl, hu1, sL, -⟩, hb2⟩
  have hb2' : Below (w.heap.size + 1) (w.alloc (.cells #[.int .i64 k, .slice a L0.length c] 24)) w2 := by simpa using hb2
  have HX2 := Lib.hid (Two.of (hb2'.block w.heap.size (by omega) |>.trans HA.out))
  have HB2 := Lib.hid (HB1.out.trans (hb2'.mono (by omega)))
  have hs2 : w.heap.size + 1 ≤ w2.heap.size := by have := hb2'.size; simpa using this
  have HU1 := Lib.hid (show TxtAt w2 (fun b => w.heap.size ≤ b ∧ b < w2.heap.size ∧ Soft w2 b) u1 L from hu1.keep fun b hb hl => ⟨⟨by have := hb.1; simp at this; omega, hl, hb.2⟩, rfl⟩)
  clear hu1 hb2 hb2' HF HA HB1
  obtain ⟨a1, c1, rfl, -⟩ := id HU1.out
  have HF2 := Lib.hid (show ∀ wz : World, Below w2.heap.size w2 wz → Calls Try.prog 7 #[.slice a1 L.length c1] wz fun e w' => (∃ a' c', e = .returned (.slice a' L.length c') ∧ TxtAt w' (fun b => wz.heap.size ≤ b) (.slice a' L.length c') L) ∧ Below wz.heap.size wz w' from
    fun wz hb => (Few_calls wz _ _ L (HU1.out.below hb)).mono fun e w' ⟨⟨v', L', h1, h2, h3, h4⟩, h5⟩ => by
      obtain rfl := h4 sL
      obtain ⟨a', c', rfl, -⟩ := id h2
      exact ⟨⟨a', c', h1, h2⟩, h5⟩)
  have hx0 := HX2.out.one
  have hx1 := HX2.out.two
  go_wp2_with fail
  clear hx0 hx1
  refine wp_region_any (by kernel_rfl) ?_
  change wpAny _ _ _ _ _ _ _ (World.drew _)
  refine Orders.any (C := fun wz => Two w.heap.size k (.slice a L0.length c) wz) _ _ _ _ ?_
  refine Orders.take (i := 0) (v := .pointer (some ⟨w.heap.size, 0, none⟩)) rfl (by kernel_rfl) (by kernel_rfl) (by kernel_rfl) (fun _ _ _ h => h) (Or.inl ⟨by kernel_rfl, fun wz ⟨z0, z1⟩ => by go_simp⟩) ?_
  refine Orders.take (i := 1) (v := .int .i64 k) rfl (by kernel_rfl) (by kernel_rfl) (by kernel_rfl) (fun _ _ _ h => h) (Or.inl ⟨by kernel_rfl, fun wz ⟨z0, z1⟩ => by go_simp⟩) ?_
  refine Orders.take (i := 2) (v := .slice a1 L.length c1) rfl (by kernel_rfl) (by kernel_rfl) (by kernel_rfl) (fun _ _ _ h => h) (Or.inl ⟨by kernel_rfl, fun wz ⟨z0, z1⟩ => by go_simp⟩) ?_
  refine Orders.two (i := 3) (j := 5) (by kernel_rfl) (HX2.out.to rfl) rfl rfl (fun K hK => ?_) (fun K hK => ?_)
  · go_simp
    refine (HF2.out _ (Below.refl _ _).drew).mono ?_
    rintro e w3 ⟨⟨a2, c2, rfl, hu2⟩, hb3⟩
    have hb3 : Below w2.heap.size w2 w3 := (Below.refl _ _).drew.trans hb3
    have HX3 := Lib.hid (HX2.out.below hb3 HX2.out.lt)
    go_simp
    refine hK _ _ ?_
    clear hK K
    refine Orders.take (i := 4) (v := .agg #[.int .i64 k, .slice a2 L.length c2]) rfl (by kernel_rfl) (by kernel_rfl) (by kernel_rfl) (fun _ _ _ h => h) (Or.inl ⟨by kernel_rfl, fun wz ⟨z0, z1⟩ => by go_simp⟩) ?_
    refine Orders.one (i := 5) (by kernel_rfl) HX3.out rfl (fun K hK => ?_)
    go_simp
    refine hK _ _ ?_
    clear hK K
    refine Orders.one (i := 6) (by kernel_rfl) (HX3.out.to (Below.heap_alloc _ _ _ HX3.out.lt)) rfl (fun K hK => ?_)
    go_simp
    refine hK _ _ ?_
    clear hK K
    have hb4 : Below w3.heap.size w3 (w3.alloc (.cells #[.int .i64 k, .slice a2 L.length c2] 24)) := (Below.refl _ _).alloc (Nat.le_refl _) _
    have hb4' : Below w2.heap.size w2 (w3.alloc (.cells #[.int .i64 k, .slice a2 L.length c2] 24)) := hb3.trans (hb4.mono hb3.size)
    have hu2 : TxtAt w3 (fun b => w2.heap.size ≤ b) (.slice a2 L.length c2) L := hu2
    refine Orders.done (by kernel_rfl) (HX3.out.below hb4 HX3.out.lt) ?_
    have HP := Lib.hid (show OwnPre w w2.heap.size w3.heap.size k (.slice a L0.length c) (.slice a1 L.length c1) (.slice a2 L.length c2) L (w3.alloc (.cells #[.int .i64 k, .slice a2 L.length c2] 24)) from
      ⟨HB2.out.trans (hb4'.mono (by omega)), HX3.out.below hb4 HX3.out.lt, Two.of (heap_new _ _), HU1.out.keep fun b hb hl => ⟨⟨hb.1, hb.2.1, hb.2.2.to (hb4'.block b hl)⟩, hb4'.block b hl⟩, hu2.below hb4, hb3.size, by omega⟩)
    clear hb3 hb4 hb4' hu2 HX3 HF2 HX2 HB2 HU1
    generalize w3.alloc (.cells #[.int .i64 k, .slice a2 L.length c2] 24) = w5 at *
    generalize w3.heap.size = g at *
    generalize w2.heap.size = s2 at *
    go_wp2_with fail
    refine (New_calls _).mono ?_
    rintro e w6 ⟨⟨rfl, hr6⟩, hb6⟩
    have HP6 := Lib.hid (HP.out.below hb6)
    have hr0 : ¬ (w.heap.size ≤ w5.heap.size ∧ w5.heap.size < s2 ∧ Soft w6 w5.heap.size) := fun h => by have := HP.out.want.lt; have := HP.out.sg; omega
    have HS := Lib.hid (set_calls w6 _ _ w5.heap.size zeroRegs x k _ L hr6 zeroRegs_ok hr0 HP6.out.own sL)
    have HB6 := Lib.hid hb6
    have y0 := HP6.out.box.one
    clear hr6 hr0 hb6
    go_wp2_with fail
    refine HS.out.mono ?_
    rintro e w7 ⟨rfl, hr7, hk7⟩
    have hb7 : Below w5.heap.size w5 w7 := HB6.out.trans (hk7.toBelow (Nat.le_refl _) HB6.out.size)
    have hr7 : RegsIn w7 (fun b => w5.heap.size ≤ b) w5.heap.size (setR zeroRegs x k L).2 := hr7.keep fun b hb _ => ⟨by have := HB6.out.size; omega, rfl⟩
    have HA7 := Lib.hid (HP.out.at hb7 hr7)
    have HOK := Lib.hid (setR_ok zeroRegs_ok x k sL)
    clear hk7 HS HB6 HP6 y0
    rcases setR_zero x k L with ⟨-, h16, hR⟩ | ⟨h0, hL, hg1, hg2⟩
    · rw [hR] at hr7
      have HN := Lib.hid (show ∀ wz : World, Below w7.heap.size w7 wz → Calls Try.prog 11 #[.pointer (some ⟨w5.heap.size, 0, none⟩)] wz fun e w' => (∃ a' c', e = .returned (.slice a' 0 c')) ∧ Below wz.heap.size wz w' from fun wz hb =>
        (names_calls wz _ _ _ (hr7.below hb)).mono fun e w' ⟨⟨v', h1, h2⟩, h3⟩ => by rw [names_zero] at h2; obtain ⟨a', p', rfl⟩ := own_slice h2; exact ⟨⟨a', p', h1⟩, h3⟩)
      have HG := Lib.hid (show Calls Try.prog 10 #[.pointer (some ⟨w5.heap.size, 0, none⟩), .int .i64 0] w7 fun e w' => (∃ a' c', e = .returned (.tuple #[.agg #[.int .i64 0, .slice a' 0 c'], .bool false])) ∧ Below w7.heap.size w7 w' from
        (get_calls w7 _ _ _ 0 hr7 zeroRegs_ok).mono fun e w' ⟨⟨v', h1, h2⟩, h3⟩ => by obtain ⟨a', c', rfl, -⟩ := h2; exact ⟨⟨a', c', h1⟩, h3⟩)
      have HBE := Lib.hid (HP.out.bel.trans (hb7.mono HP.out.bel.size))
      clear hr7 HA7 HOK hb7 HP hR
      generalize w5.heap.size = r at *
      rcases h16 with h1 | h1
      all_goals
        rw [h1]
        clear h1
        go_wp2_with fail
        refine HG.out.mono ?_
        rintro e w8 ⟨⟨a8, c8, rfl⟩, hb8⟩
        have HBA := Lib.hid (show Below w7.heap.size w7 (w8.alloc (.cells #[.int .i64 0, .slice a8 0 c8] 30)) from hb8.alloc hb8.size _)
        clear hb8
        go_wp2_with fail
        refine (HN.out _ HBA.out).mono ?_
        rintro e w9 ⟨⟨a9, c9, rfl⟩, hb9⟩
        have HB9 := Lib.hid (HBA.out.trans (hb9.mono HBA.out.size))
        clear hb9
        go_wp2_with fail
        refine (awake_calls _).mono ?_
        rintro e wz ⟨rfl, hbz⟩
        have HBZ := Lib.hid (HB9.out.trans (hbz.mono HB9.out.size))
        clear hbz
        go_wp2_with fail
        go_ret
        exact ⟨rfl, HBE.out.trans (HBZ.out.mono HBE.out.size)⟩
    · rw [h0]
      clear h0 hr7 HP
      generalize (setR zeroRegs x k L).2 = R at *
      generalize hs5 : w5.heap.size = r at *
      generalize hs7 : w7.heap.size = s7 at HA7
      have HLD := Lib.hid (show decide (0 < L.length) = true by simpa using hL)
      have HGX := Lib.hid (show ∀ y, getR R y = (k, L) → ∀ wz, OwnAt w s2 r s7 g r k (.slice a1 L.length c1) (.slice a2 L.length c2) L R wz → Calls Try.prog 10 #[.pointer (some ⟨r, 0, none⟩), .int .i64 y] wz fun e w' => (∃ a' c', e = .returned (.tuple #[.agg #[.int .i64 k, .slice a' L.length c'], .bool true]) ∧ TxtAt w' (fun b => s7 ≤ b ∧ Soft w' b) (.slice a' L.length c') L) ∧ Below wz.heap.size wz w' from fun y hy wz ha =>
        (get_calls wz _ _ R y ha.regs HOK.out).mono fun e w' ⟨⟨v', h1, h2⟩, h3⟩ => by
          rw [hy] at h1 h2
          obtain ⟨a', c', rfl, -⟩ := id h2
          rw [show decide (0 < (k, L).2.length) = true from HLD.out] at h1
          exact ⟨⟨a', c', h1, h2.keep fun b hb _ => ⟨⟨by have := ha.s7; omega, hb.2⟩, rfl⟩⟩, h3⟩)
      have HX := Lib.hid (HGX.out x hg1)
      have HZ := Lib.hid (HGX.out 0 hg2)
      have HST := Lib.hid (show OwnRel w s2 r s7 g r k (.slice a1 L.length c1) (.slice a2 L.length c2) L R (.int .i64 0) w7 from ⟨0, rfl, by decide, HA7.out⟩)
      clear hb7 hs5 hs7 HOK HLD HGX hg1 hg2 HA7 hL
      go_wp2_with fail
      go_loopw [11] (fun i wr => OwnRel w s2 r s7 g r k (.slice a1 L.length c1) (.slice a2 L.length c2) L R i wr) (fun i _ => 2 - (intOf i).toNat)
      case atStart => exact HST.out
      case round =>
        obtain ⟨j, rfl, hj, hat⟩ := hrel
        have HA := Lib.hid hat
        by_cases hj2 : j < 2
        · obtain ⟨L', hown⟩ := hat.own
          have HSP := Lib.hid (spoil_calls wr _ _ L' hown (fun b hb => hb.2.2))
          clear hat hown
          go_wp2_with fail
          refine HSP.out.mono ?_
          rintro e w8 ⟨rfl, hs8⟩
          have HA8 := Lib.hid (HA.out.spoil hs8 (fun b hb => .inl ⟨hb.1, hb.2.1⟩))
          clear hs8 HSP HA
          go_wp2_with fail
          refine (HX.out _ HA8.out).mono ?_
          rintro e w9 ⟨⟨ay, cy, rfl, hy9⟩, hb9⟩
          have HA9 := Lib.hid (HA8.out.below hb9)
          have HBA := Lib.hid (show Below w9.heap.size w9 (w9.alloc (.cells #[.int .i64 k, .slice ay L.length cy] 30)) from (Below.refl _ _).alloc (Nat.le_refl _) _)
          have HYA := Lib.hid (hy9.keep (w' := w9.alloc (.cells #[.int .i64 k, .slice ay L.length cy] 30)) (N' := fun b => s7 ≤ b ∧ Soft (w9.alloc (.cells #[.int .i64 k, .slice ay L.length cy] 30)) b) fun b hb hl => ⟨⟨hb.1, hb.2.to (HBA.out.block b hl)⟩, HBA.out.block b hl⟩)
          have HPA := Lib.hid (Two.of (heap_new w9 (.cells #[.int .i64 k, .slice ay L.length cy] 30)))
          have HAA := Lib.hid (HA9.out.below HBA.out)
          clear hy9 hb9 HA8 HA9
          go_wp2_with fail
          clear HBA
          generalize w9.alloc (.cells #[.int .i64 k, .slice ay L.length cy] 30) = wa at *
          generalize w9.heap.size = P at *
          refine (HZ.out _ HAA.out).mono ?_
          rintro e wb ⟨⟨az, cz, rfl, hzb⟩, hbb⟩
          have HAB := Lib.hid (HAA.out.below hbb)
          have HYB := Lib.hid (HYA.out.keep (w' := wb) (N' := fun b => s7 ≤ b ∧ Soft wb b) fun b hb hl => ⟨⟨hb.1, hb.2.to (hbb.block b hl)⟩, hbb.block b hl⟩)
          have HPB := Lib.hid (HPA.out.below hbb HPA.out.lt)
          have HBC := Lib.hid (show Below wb.heap.size wb (wb.alloc (.cells #[.int .i64 k, .slice az L.length cz] 30)) from (Below.refl _ _).alloc (Nat.le_refl _) _)
          have HYC := Lib.hid (HYB.out.keep (w' := wb.alloc (.cells #[.int .i64 k, .slice az L.length cz] 30)) (N' := fun b => s7 ≤ b ∧ Soft (wb.alloc (.cells #[.int .i64 k, .slice az L.length cz] 30)) b) fun b hb hl => ⟨⟨hb.1, hb.2.to (HBC.out.block b hl)⟩, HBC.out.block b hl⟩)
          have HZC := Lib.hid (hzb.keep (w' := wb.alloc (.cells #[.int .i64 k, .slice az L.length cz] 30)) (N' := fun b => s7 ≤ b ∧ Soft (wb.alloc (.cells #[.int .i64 k, .slice az L.length cz] 30)) b) fun b hb hl => ⟨⟨hb.1, hb.2.to (HBC.out.block b hl)⟩, HBC.out.block b hl⟩)
          have HPC := Lib.hid (HPB.out.below HBC.out HPB.out.lt)
          have HQC := Lib.hid (Two.of (heap_new wb (.cells #[.int .i64 k, .slice az L.length cz] 30)))
          have HAC := Lib.hid (HAB.out.below HBC.out)
          clear hzb hbb HAA HYA HPA HAB HYB HPB
          go_wp2_with fail
          clear HBC
          generalize wb.alloc (.cells #[.int .i64 k, .slice az L.length cz] 30) = wc at *
          generalize wb.heap.size = Z at *
          have HD := Lib.hid (show ∀ wz : World, Below wc.heap.size wc wz → Two P k (.slice ay L.length cy) wz ∧ Two Z k (.slice az L.length cz) wz ∧ Two g k (.slice a2 L.length c2) wz from
            fun wz hb => ⟨HPC.out.below hb HPC.out.lt, HQC.out.below hb HQC.out.lt, HAC.out.want.below hb HAC.out.want.lt⟩)
          have HSY := Lib.hid (show ∀ wz : World, Below wc.heap.size wc wz → Calls Try.prog 14 #[.agg #[.int .i64 k, .slice ay L.length cy], .agg #[.int .i64 k, .slice a2 L.length c2]] wz fun e w' => e = .returned (.bool true) ∧ Below wz.heap.size wz w' from
            fun wz hb => (SameD_calls wz _ _ k k _ _ L L sL.rows (HYC.out.below hb) (HAC.out.txt.below hb)).mono fun e w' h => ⟨by simpa using h.1, h.2⟩)
          have HSZ := Lib.hid (show ∀ wz : World, Below wc.heap.size wc wz → Calls Try.prog 14 #[.agg #[.int .i64 k, .slice az L.length cz], .agg #[.int .i64 k, .slice a2 L.length c2]] wz fun e w' => e = .returned (.bool true) ∧ Below wz.heap.size wz w' from
            fun wz hb => (SameD_calls wz _ _ k k _ _ L L sL.rows (HZC.out.below hb) (HAC.out.txt.below hb)).mono fun e w' h => ⟨by simpa using h.1, h.2⟩)
          have HOY := Lib.hid (show ∀ wz : World, Below wc.heap.size wc wz → Calls Try.prog 15 #[.agg #[.int .i64 k, .slice ay L.length cy]] wz fun e w' => e = .returned (.agg #[.int .i64 k, .slice ay L.length cy]) ∧ Below wz.heap.size wz w' from fun wz _ => Ours_calls k ay L.length cy wz)
          have HOZ := Lib.hid (show ∀ wz : World, Below wc.heap.size wc wz → Calls Try.prog 15 #[.agg #[.int .i64 k, .slice az L.length cz]] wz fun e w' => e = .returned (.agg #[.int .i64 k, .slice az L.length cz]) ∧ Below wz.heap.size wz w' from fun wz _ => Ours_calls k az L.length cz wz)
          have B0 := Lib.hid (show Below wc.heap.size wc wc.drew from (Below.refl _ _).drew)
          refine wp_region_any (by kernel_rfl) ?_
          change wpAny _ _ _ _ _ _ _ (World.drew _)
          refine Orders.any (C := fun wz => Two P k (.slice ay L.length cy) wz ∧ Two Z k (.slice az L.length cz) wz ∧ Two g k (.slice a2 L.length c2) wz) _ _ _ _ ?_
          refine Orders.take (i := 0) (v := .bool true) rfl (by kernel_rfl) (by kernel_rfl) (by kernel_rfl) (fun _ _ _ h => h) (Or.inl ⟨by kernel_rfl, fun wz ⟨⟨z0, z1⟩, ⟨z2, z3⟩, ⟨z4, z5⟩⟩ => by go_simp⟩) ?_
          refine Orders.take (i := 1) (v := .bool false) rfl (by kernel_rfl) (by kernel_rfl) (by kernel_rfl) (fun _ _ _ h => h) (Or.inl ⟨by kernel_rfl, fun wz ⟨⟨z0, z1⟩, ⟨z2, z3⟩, ⟨z4, z5⟩⟩ => by go_simp⟩) ?_
          refine Orders.take (i := 2) (v := .bool false) rfl (by kernel_rfl) (by kernel_rfl) (by kernel_rfl) (fun _ _ _ h => h) (Or.inl ⟨by kernel_rfl, fun wz ⟨⟨z0, z1⟩, ⟨z2, z3⟩, ⟨z4, z5⟩⟩ => by go_simp⟩) ?_
          refine Orders.take (i := 3) (v := .bool true) rfl (by kernel_rfl) (by kernel_rfl) (by kernel_rfl) (fun _ _ _ h => h) (Or.inl ⟨by kernel_rfl, fun wz ⟨⟨z0, z1⟩, ⟨z2, z3⟩, ⟨z4, z5⟩⟩ => by go_simp⟩) ?_
          refine Orders.take (i := 4) (v := .bool false) rfl (by kernel_rfl) (by kernel_rfl) (by kernel_rfl) (fun _ _ _ h => h) (Or.inl ⟨by kernel_rfl, fun wz ⟨⟨z0, z1⟩, ⟨z2, z3⟩, ⟨z4, z5⟩⟩ => by go_simp⟩) ?_
          refine Orders.take (i := 5) (v := .bool false) rfl (by kernel_rfl) (by kernel_rfl) (by kernel_rfl) (fun _ _ _ h => h) (Or.inl ⟨by kernel_rfl, fun wz ⟨⟨z0, z1⟩, ⟨z2, z3⟩, ⟨z4, z5⟩⟩ => by go_simp⟩) ?_
          refine Orders.take (i := 6) (v := .bool false) rfl (by kernel_rfl) (by kernel_rfl) (by kernel_rfl) (fun _ _ _ h => h) (Or.inl ⟨by kernel_rfl, fun wz ⟨⟨z0, z1⟩, ⟨z2, z3⟩, ⟨z4, z5⟩⟩ => by go_simp⟩) ?_
          refine Orders.take (i := 7) (v := .agg #[.int .i64 k, .slice ay L.length cy]) rfl (by kernel_rfl) (by kernel_rfl) (by kernel_rfl) (fun _ _ _ h => h) (Or.inl ⟨by kernel_rfl, fun wz ⟨⟨z0, z1⟩, ⟨z2, z3⟩, ⟨z4, z5⟩⟩ => by go_simp⟩) ?_
          refine Orders.take (i := 9) (v := .agg #[.int .i64 k, .slice a2 L.length c2]) rfl (by kernel_rfl) (by kernel_rfl) (by kernel_rfl) (fun _ _ _ h => h) (Or.inl ⟨by kernel_rfl, fun wz ⟨⟨z0, z1⟩, ⟨z2, z3⟩, ⟨z4, z5⟩⟩ => by go_simp⟩) ?_
          refine Orders.one (i := 8) (by kernel_rfl) (HD.out _ B0.out) rfl (fun K hK => ?_)
          go_simp
          refine (HOY.out _ B0.out).mono ?_
          rintro e wd ⟨rfl, hb⟩
          have Bwd := Lib.hid (Below.trans B0.out (hb.mono (B0.out).size))
          clear hb
          go_simp
          refine hK _ _ ?_
          clear hK K
          refine Orders.one (i := 10) (by kernel_rfl) (HD.out _ Bwd.out) rfl (fun K hK => ?_)
          go_simp
          refine (HSY.out _ Bwd.out).mono ?_
          rintro e we ⟨rfl, hb⟩
          have Bwe := Lib.hid (Below.trans Bwd.out (hb.mono (Bwd.out).size))
          clear hb
          go_simp
          refine hK _ _ ?_
          clear hK K
          refine Orders.take (i := 11) (v := .bool false) rfl (by kernel_rfl) (by kernel_rfl) (by kernel_rfl) (fun _ _ _ h => h) (Or.inl ⟨by kernel_rfl, fun wz ⟨⟨z0, z1⟩, ⟨z2, z3⟩, ⟨z4, z5⟩⟩ => by go_simp⟩) ?_
          refine Orders.take (i := 12) (v := .bool false) rfl (by kernel_rfl) (by kernel_rfl) (by kernel_rfl) (fun _ _ _ h => h) (Or.inl ⟨by kernel_rfl, fun wz ⟨⟨z0, z1⟩, ⟨z2, z3⟩, ⟨z4, z5⟩⟩ => by go_simp⟩) ?_
          refine Orders.take (i := 13) (v := .bool false) rfl (by kernel_rfl) (by kernel_rfl) (by kernel_rfl) (fun _ _ _ h => h) (Or.inl ⟨by kernel_rfl, fun wz ⟨⟨z0, z1⟩, ⟨z2, z3⟩, ⟨z4, z5⟩⟩ => by go_simp⟩) ?_
          refine Orders.take (i := 14) (v := .agg #[.int .i64 k, .slice az L.length cz]) rfl (by kernel_rfl) (by kernel_rfl) (by kernel_rfl) (fun _ _ _ h => h) (Or.inl ⟨by kernel_rfl, fun wz ⟨⟨z0, z1⟩, ⟨z2, z3⟩, ⟨z4, z5⟩⟩ => by go_simp⟩) ?_
          refine Orders.take (i := 16) (v := .agg #[.int .i64 k, .slice a2 L.length c2]) rfl (by kernel_rfl) (by kernel_rfl) (by kernel_rfl) (fun _ _ _ h => h) (Or.inl ⟨by kernel_rfl, fun wz ⟨⟨z0, z1⟩, ⟨z2, z3⟩, ⟨z4, z5⟩⟩ => by go_simp⟩) ?_
          refine Orders.one (i := 15) (by kernel_rfl) (HD.out _ Bwe.out) rfl (fun K hK => ?_)
          go_simp
          refine (HOZ.out _ Bwe.out).mono ?_
          rintro e wf ⟨rfl, hb⟩
          have Bwf := Lib.hid (Below.trans Bwe.out (hb.mono (Bwe.out).size))
          clear hb
          go_simp
          refine hK _ _ ?_
          clear hK K
          refine Orders.one (i := 17) (by kernel_rfl) (HD.out _ Bwf.out) rfl (fun K hK => ?_)
          go_simp
          refine (HSZ.out _ Bwf.out).mono ?_
          rintro e wg ⟨rfl, hb⟩
          have Bwg := Lib.hid (Below.trans Bwf.out (hb.mono (Bwf.out).size))
          clear hb
          go_simp
          refine hK _ _ ?_
          clear hK K
          refine Orders.take (i := 18) (v := .bool false) rfl (by kernel_rfl) (by kernel_rfl) (by kernel_rfl) (fun _ _ _ h => h) (Or.inl ⟨by kernel_rfl, fun wz ⟨⟨z0, z1⟩, ⟨z2, z3⟩, ⟨z4, z5⟩⟩ => by go_simp⟩) ?_
          refine Orders.take (i := 19) (v := .bool false) rfl (by kernel_rfl) (by kernel_rfl) (by kernel_rfl) (fun _ _ _ h => h) (Or.inl ⟨by kernel_rfl, fun wz ⟨⟨z0, z1⟩, ⟨z2, z3⟩, ⟨z4, z5⟩⟩ => by go_simp⟩) ?_
          refine Orders.done (by kernel_rfl) (HD.out _ Bwg.out) ?_
          have HAG := Lib.hid (HAC.out.below Bwg.out)
          have HYG := Lib.hid (HYC.out.keep (w' := wg) (N' := fun b => s7 ≤ b ∧ Soft wg b) fun b hb hl => ⟨⟨hb.1, hb.2.to (Bwg.out.block b hl)⟩, Bwg.out.block b hl⟩)
          have HZG := Lib.hid (HZC.out.keep (w' := wg) (N' := fun b => s7 ≤ b ∧ Soft wg b) fun b hb hl => ⟨⟨hb.1, hb.2.to (Bwg.out.block b hl)⟩, Bwg.out.block b hl⟩)
          have HSPY := Lib.hid (spoil_calls wg _ _ L HYG.out (fun b hb => hb.2))
          have t0 := (HD.out _ Bwg.out).1.two
          have HTZ := Lib.hid (HD.out _ Bwg.out).2.1.two
          clear HD HSY HSZ HOY HOZ B0 Bwd Bwe Bwf Bwg HAC HYC HZC HPC HQC
          go_wp2_with fail
          refine HSPY.out.mono ?_
          rintro e wh ⟨rfl, hsh⟩
          have HAH := Lib.hid (HAG.out.spoil hsh (fun b hb => .inr hb.1))
          obtain ⟨L3, -, hz3⟩ := hsh.txt HZG.out
          have HSPZ := Lib.hid (spoil_calls wh _ _ L3 (hz3.keep (N' := fun b => s7 ≤ b ∧ Soft wh b) fun b hb _ => ⟨⟨hb.1, hsh.soft b hb.2⟩, rfl⟩) (fun b hb => hb.2))
          have t1 := hsh.other _ _ _ _ HTZ.out
          clear hsh hz3 HSPY HYG HZG HAG HTZ t0
          go_wp2_with fail
          refine HSPZ.out.mono ?_
          rintro e wi ⟨rfl, hsi⟩
          have HAI := Lib.hid (HAH.out.spoil hsi (fun b hb => .inr hb.1))
          clear hsi HSPZ HAH t1
          go_wp2_with fail
          go_roundw
          · exact ⟨j + 1, by go_num, by omega, HAI.out⟩
          · simp [intOf]; omega
        · obtain rfl : j = 2 := by omega
          clear hat
          go_wp2_with fail
          refine (awake_calls _).mono ?_
          rintro e wz ⟨rfl, hbz⟩
          have HBZ := Lib.hid (HA.out.bel.trans (hbz.mono HA.out.bel.size))
          clear hbz
          go_wp2_with fail
          go_ret
          exact ⟨rfl, HBZ.out⟩
  · go_simp
    refine hK _ _ ?_
    clear hK K
    have hba : Below w2.heap.size w2 ((w2.alloc (.cells #[.int .i64 0, .slice none 0 0] 24)).drew) := ((Below.refl _ _).alloc (Nat.le_refl _) _).drew
    refine Orders.one (i := 3) (by kernel_rfl) (HX2.out.below hba HX2.out.lt) rfl (fun K hK => ?_)
    go_simp
    refine (HF2.out _ hba).mono ?_
    rintro e w3 ⟨⟨a2, c2, rfl, hu2⟩, hb3⟩
    have hb3' : Below w2.heap.size w2 w3 := hba.trans (hb3.mono hba.size)
    have HX3 := Lib.hid (HX2.out.below hb3' HX2.out.lt)
    have hg3 : w3.heap[w2.heap.size]? = some (.cells #[.int .i64 0, .slice none 0 0] 24) := (hb3.block w2.heap.size (by simp [World.drew])).trans (heap_new w2 (.cells #[.int .i64 0, .slice none 0 0] 24))
    go_simp
    refine hK _ _ ?_
    clear hK K
    refine Orders.take (i := 4) (v := .agg #[.int .i64 k, .slice a2 L.length c2]) rfl (by kernel_rfl) (by kernel_rfl) (by kernel_rfl) (fun _ _ _ h => h) (Or.inl ⟨by kernel_rfl, fun wz ⟨z0, z1⟩ => by go_simp⟩) ?_
    have f0 := (cell_row hg3 0).trans (show (#[Value.int .i64 0, .slice none 0 0] : Array Value)[0]? = some (.int .i64 0) from rfl)
    have f1 := (cell_row hg3 1).trans (show (#[Value.int .i64 0, .slice none 0 0] : Array Value)[1]? = some (.slice none 0 0) from rfl)
    have f2 := frozen_row hg3 0
    have f3 := frozen_row hg3 1
    refine Orders.one (i := 6) (by kernel_rfl) HX3.out rfl (fun K hK => ?_)
    go_simp
    refine hK _ _ ?_
    clear hK K f0 f1 f2 f3
    have hb4 := st_below (.int .i64 k) (.slice a2 L.length c2) hb3' (Nat.le_refl _)
    have hg4 := st_same (.int .i64 k) (.slice a2 L.length c2) hg3
    have hu4 := hu2.keep (w' := (w3.setCell ⟨w2.heap.size, 0, none⟩ (.int .i64 k)).setCell ⟨w2.heap.size, 1, none⟩ (.slice a2 L.length c2)) (N' := fun b => w2.heap.size ≤ b) fun b hb hl => by
      have hb : w2.heap.size + 1 ≤ b := by simpa [World.drew] using hb
      exact ⟨by omega, st_other w3 (.int .i64 k) (.slice a2 L.length c2) (by omega)⟩
    have hs3 := hb3'.size
    refine Orders.done (by kernel_rfl) (HX2.out.below hb4 HX2.out.lt) ?_
    have HP := Lib.hid (show OwnPre w w2.heap.size w2.heap.size k (.slice a L0.length c) (.slice a1 L.length c1) (.slice a2 L.length c2) L ((w3.setCell ⟨w2.heap.size, 0, none⟩ (.int .i64 k)).setCell ⟨w2.heap.size, 1, none⟩ (.slice a2 L.length c2)) from
      ⟨HB2.out.trans (hb4.mono (by omega)), HX2.out.below hb4 HX2.out.lt, Two.of hg4, HU1.out.keep fun b hb hl => ⟨⟨hb.1, hb.2.1, hb.2.2.to (hb4.block b hl)⟩, hb4.block b hl⟩, hu4, Nat.le_refl _, by omega⟩)
    clear hb3 hb3' hba hg3 hb4 hg4 hu2 hu4 hs3 HX3 HF2 HX2 HB2 HU1
    generalize (w3.setCell ⟨w2.heap.size, 0, none⟩ (.int .i64 k)).setCell ⟨w2.heap.size, 1, none⟩ (.slice a2 L.length c2) = w5 at *
    have HPE : ∃ s2, OwnPre w s2 w2.heap.size k (.slice a L0.length c) (.slice a1 L.length c1) (.slice a2 L.length c2) L w5 := ⟨_, HP.out⟩
    clear HP hs2
    obtain ⟨s2, hp⟩ := HPE
    have HP := Lib.hid hp
    clear hp
    generalize w2.heap.size = g at *
    go_wp2_with fail
    refine (New_calls _).mono ?_
    rintro e w6 ⟨⟨rfl, hr6⟩, hb6⟩
    have HP6 := Lib.hid (HP.out.below hb6)
    have hr0 : ¬ (w.heap.size ≤ w5.heap.size ∧ w5.heap.size < s2 ∧ Soft w6 w5.heap.size) := fun h => by have := HP.out.want.lt; have := HP.out.sg; omega
    have HS := Lib.hid (set_calls w6 _ _ w5.heap.size zeroRegs x k _ L hr6 zeroRegs_ok hr0 HP6.out.own sL)
    have HB6 := Lib.hid hb6
    have y0 := HP6.out.box.one
    clear hr6 hr0 hb6
    go_wp2_with fail
    refine HS.out.mono ?_
    rintro e w7 ⟨rfl, hr7, hk7⟩
    have hb7 : Below w5.heap.size w5 w7 := HB6.out.trans (hk7.toBelow (Nat.le_refl _) HB6.out.size)
    have hr7 : RegsIn w7 (fun b => w5.heap.size ≤ b) w5.heap.size (setR zeroRegs x k L).2 := hr7.keep fun b hb _ => ⟨by have := HB6.out.size; omega, rfl⟩
    have HA7 := Lib.hid (HP.out.at hb7 hr7)
    have HOK := Lib.hid (setR_ok zeroRegs_ok x k sL)
    clear hk7 HS HB6 HP6 y0
    rcases setR_zero x k L with ⟨-, h16, hR⟩ | ⟨h0, hL, hg1, hg2⟩
    · rw [hR] at hr7
      have HN := Lib.hid (show ∀ wz : World, Below w7.heap.size w7 wz → Calls Try.prog 11 #[.pointer (some ⟨w5.heap.size, 0, none⟩)] wz fun e w' => (∃ a' c', e = .returned (.slice a' 0 c')) ∧ Below wz.heap.size wz w' from fun wz hb =>
        (names_calls wz _ _ _ (hr7.below hb)).mono fun e w' ⟨⟨v', h1, h2⟩, h3⟩ => by rw [names_zero] at h2; obtain ⟨a', p', rfl⟩ := own_slice h2; exact ⟨⟨a', p', h1⟩, h3⟩)
      have HG := Lib.hid (show Calls Try.prog 10 #[.pointer (some ⟨w5.heap.size, 0, none⟩), .int .i64 0] w7 fun e w' => (∃ a' c', e = .returned (.tuple #[.agg #[.int .i64 0, .slice a' 0 c'], .bool false])) ∧ Below w7.heap.size w7 w' from
        (get_calls w7 _ _ _ 0 hr7 zeroRegs_ok).mono fun e w' ⟨⟨v', h1, h2⟩, h3⟩ => by obtain ⟨a', c', rfl, -⟩ := h2; exact ⟨⟨a', c', h1⟩, h3⟩)
      have HBE := Lib.hid (HP.out.bel.trans (hb7.mono HP.out.bel.size))
      clear hr7 HA7 HOK hb7 HP hR
      generalize w5.heap.size = r at *
      rcases h16 with h1 | h1
      all_goals
        rw [h1]
        clear h1
        go_wp2_with fail
        refine HG.out.mono ?_
        rintro e w8 ⟨⟨a8, c8, rfl⟩, hb8⟩
        have HBA := Lib.hid (show Below w7.heap.size w7 (w8.alloc (.cells #[.int .i64 0, .slice a8 0 c8] 30)) from hb8.alloc hb8.size _)
        clear hb8
        go_wp2_with fail
        refine (HN.out _ HBA.out).mono ?_
        rintro e w9 ⟨⟨a9, c9, rfl⟩, hb9⟩
        have HB9 := Lib.hid (HBA.out.trans (hb9.mono HBA.out.size))
        clear hb9
        go_wp2_with fail
        refine (awake_calls _).mono ?_
        rintro e wz ⟨rfl, hbz⟩
        have HBZ := Lib.hid (HB9.out.trans (hbz.mono HB9.out.size))
        clear hbz
        go_wp2_with fail
        go_ret
        exact ⟨rfl, HBE.out.trans (HBZ.out.mono HBE.out.size)⟩
    · rw [h0]
      clear h0 hr7 HP
      generalize (setR zeroRegs x k L).2 = R at *
      generalize hs5 : w5.heap.size = r at *
      generalize hs7 : w7.heap.size = s7 at HA7
      have HLD := Lib.hid (show decide (0 < L.length) = true by simpa using hL)
      have HGX := Lib.hid (show ∀ y, getR R y = (k, L) → ∀ wz, OwnAt w s2 r s7 g r k (.slice a1 L.length c1) (.slice a2 L.length c2) L R wz → Calls Try.prog 10 #[.pointer (some ⟨r, 0, none⟩), .int .i64 y] wz fun e w' => (∃ a' c', e = .returned (.tuple #[.agg #[.int .i64 k, .slice a' L.length c'], .bool true]) ∧ TxtAt w' (fun b => s7 ≤ b ∧ Soft w' b) (.slice a' L.length c') L) ∧ Below wz.heap.size wz w' from fun y hy wz ha =>
        (get_calls wz _ _ R y ha.regs HOK.out).mono fun e w' ⟨⟨v', h1, h2⟩, h3⟩ => by
          rw [hy] at h1 h2
          obtain ⟨a', c', rfl, -⟩ := id h2
          rw [show decide (0 < (k, L).2.length) = true from HLD.out] at h1
          exact ⟨⟨a', c', h1, h2.keep fun b hb _ => ⟨⟨by have := ha.s7; omega, hb.2⟩, rfl⟩⟩, h3⟩)
      have HX := Lib.hid (HGX.out x hg1)
      have HZ := Lib.hid (HGX.out 0 hg2)
      have HST := Lib.hid (show OwnRel w s2 r s7 g r k (.slice a1 L.length c1) (.slice a2 L.length c2) L R (.int .i64 0) w7 from ⟨0, rfl, by decide, HA7.out⟩)
      clear hb7 hs5 hs7 HOK HLD HGX hg1 hg2 HA7 hL
      go_wp2_with fail
      go_loopw [11] (fun i wr => OwnRel w s2 r s7 g r k (.slice a1 L.length c1) (.slice a2 L.length c2) L R i wr) (fun i _ => 2 - (intOf i).toNat)
      case atStart => exact HST.out
      case round =>
        obtain ⟨j, rfl, hj, hat⟩ := hrel
        have HA := Lib.hid hat
        by_cases hj2 : j < 2
        · obtain ⟨L', hown⟩ := hat.own
          have HSP := Lib.hid (spoil_calls wr _ _ L' hown (fun b hb => hb.2.2))
          clear hat hown
          go_wp2_with fail
          refine HSP.out.mono ?_
          rintro e w8 ⟨rfl, hs8⟩
          have HA8 := Lib.hid (HA.out.spoil hs8 (fun b hb => .inl ⟨hb.1, hb.2.1⟩))
          clear hs8 HSP HA
          go_wp2_with fail
          refine (HX.out _ HA8.out).mono ?_
          rintro e w9 ⟨⟨ay, cy, rfl, hy9⟩, hb9⟩
          have HA9 := Lib.hid (HA8.out.below hb9)
          have HBA := Lib.hid (show Below w9.heap.size w9 (w9.alloc (.cells #[.int .i64 k, .slice ay L.length cy] 30)) from (Below.refl _ _).alloc (Nat.le_refl _) _)
          have HYA := Lib.hid (hy9.keep (w' := w9.alloc (.cells #[.int .i64 k, .slice ay L.length cy] 30)) (N' := fun b => s7 ≤ b ∧ Soft (w9.alloc (.cells #[.int .i64 k, .slice ay L.length cy] 30)) b) fun b hb hl => ⟨⟨hb.1, hb.2.to (HBA.out.block b hl)⟩, HBA.out.block b hl⟩)
          have HPA := Lib.hid (Two.of (heap_new w9 (.cells #[.int .i64 k, .slice ay L.length cy] 30)))
          have HAA := Lib.hid (HA9.out.below HBA.out)
          clear hy9 hb9 HA8 HA9
          go_wp2_with fail
          clear HBA
          generalize w9.alloc (.cells #[.int .i64 k, .slice ay L.length cy] 30) = wa at *
          generalize w9.heap.size = P at *
          refine (HZ.out _ HAA.out).mono ?_
          rintro e wb ⟨⟨az, cz, rfl, hzb⟩, hbb⟩
          have HAB := Lib.hid (HAA.out.below hbb)
          have HYB := Lib.hid (HYA.out.keep (w' := wb) (N' := fun b => s7 ≤ b ∧ Soft wb b) fun b hb hl => ⟨⟨hb.1, hb.2.to (hbb.block b hl)⟩, hbb.block b hl⟩)
          have HPB := Lib.hid (HPA.out.below hbb HPA.out.lt)
          have HBC := Lib.hid (show Below wb.heap.size wb (wb.alloc (.cells #[.int .i64 k, .slice az L.length cz] 30)) from (Below.refl _ _).alloc (Nat.le_refl _) _)
          have HYC := Lib.hid (HYB.out.keep (w' := wb.alloc (.cells #[.int .i64 k, .slice az L.length cz] 30)) (N' := fun b => s7 ≤ b ∧ Soft (wb.alloc (.cells #[.int .i64 k, .slice az L.length cz] 30)) b) fun b hb hl => ⟨⟨hb.1, hb.2.to (HBC.out.block b hl)⟩, HBC.out.block b hl⟩)
          have HZC := Lib.hid (hzb.keep (w' := wb.alloc (.cells #[.int .i64 k, .slice az L.length cz] 30)) (N' := fun b => s7 ≤ b ∧ Soft (wb.alloc (.cells #[.int .i64 k, .slice az L.length cz] 30)) b) fun b hb hl => ⟨⟨hb.1, hb.2.to (HBC.out.block b hl)⟩, HBC.out.block b hl⟩)
          have HPC := Lib.hid (HPB.out.below HBC.out HPB.out.lt)
          have HQC := Lib.hid (Two.of (heap_new wb (.cells #[.int .i64 k, .slice az L.length cz] 30)))
          have HAC := Lib.hid (HAB.out.below HBC.out)
          clear hzb hbb HAA HYA HPA HAB HYB HPB
          go_wp2_with fail
          clear HBC
          generalize wb.alloc (.cells #[.int .i64 k, .slice az L.length cz] 30) = wc at *
          generalize wb.heap.size = Z at *
          have HD := Lib.hid (show ∀ wz : World, Below wc.heap.size wc wz → Two P k (.slice ay L.length cy) wz ∧ Two Z k (.slice az L.length cz) wz ∧ Two g k (.slice a2 L.length c2) wz from
            fun wz hb => ⟨HPC.out.below hb HPC.out.lt, HQC.out.below hb HQC.out.lt, HAC.out.want.below hb HAC.out.want.lt⟩)
          have HSY := Lib.hid (show ∀ wz : World, Below wc.heap.size wc wz → Calls Try.prog 14 #[.agg #[.int .i64 k, .slice ay L.length cy], .agg #[.int .i64 k, .slice a2 L.length c2]] wz fun e w' => e = .returned (.bool true) ∧ Below wz.heap.size wz w' from
            fun wz hb => (SameD_calls wz _ _ k k _ _ L L sL.rows (HYC.out.below hb) (HAC.out.txt.below hb)).mono fun e w' h => ⟨by simpa using h.1, h.2⟩)
          have HSZ := Lib.hid (show ∀ wz : World, Below wc.heap.size wc wz → Calls Try.prog 14 #[.agg #[.int .i64 k, .slice az L.length cz], .agg #[.int .i64 k, .slice a2 L.length c2]] wz fun e w' => e = .returned (.bool true) ∧ Below wz.heap.size wz w' from
            fun wz hb => (SameD_calls wz _ _ k k _ _ L L sL.rows (HZC.out.below hb) (HAC.out.txt.below hb)).mono fun e w' h => ⟨by simpa using h.1, h.2⟩)
          have HOY := Lib.hid (show ∀ wz : World, Below wc.heap.size wc wz → Calls Try.prog 15 #[.agg #[.int .i64 k, .slice ay L.length cy]] wz fun e w' => e = .returned (.agg #[.int .i64 k, .slice ay L.length cy]) ∧ Below wz.heap.size wz w' from fun wz _ => Ours_calls k ay L.length cy wz)
          have HOZ := Lib.hid (show ∀ wz : World, Below wc.heap.size wc wz → Calls Try.prog 15 #[.agg #[.int .i64 k, .slice az L.length cz]] wz fun e w' => e = .returned (.agg #[.int .i64 k, .slice az L.length cz]) ∧ Below wz.heap.size wz w' from fun wz _ => Ours_calls k az L.length cz wz)
          have B0 := Lib.hid (show Below wc.heap.size wc wc.drew from (Below.refl _ _).drew)
          refine wp_region_any (by kernel_rfl) ?_
          change wpAny _ _ _ _ _ _ _ (World.drew _)
          refine Orders.any (C := fun wz => Two P k (.slice ay L.length cy) wz ∧ Two Z k (.slice az L.length cz) wz ∧ Two g k (.slice a2 L.length c2) wz) _ _ _ _ ?_
          refine Orders.take (i := 0) (v := .bool true) rfl (by kernel_rfl) (by kernel_rfl) (by kernel_rfl) (fun _ _ _ h => h) (Or.inl ⟨by kernel_rfl, fun wz ⟨⟨z0, z1⟩, ⟨z2, z3⟩, ⟨z4, z5⟩⟩ => by go_simp⟩) ?_
          refine Orders.take (i := 1) (v := .bool false) rfl (by kernel_rfl) (by kernel_rfl) (by kernel_rfl) (fun _ _ _ h => h) (Or.inl ⟨by kernel_rfl, fun wz ⟨⟨z0, z1⟩, ⟨z2, z3⟩, ⟨z4, z5⟩⟩ => by go_simp⟩) ?_
          refine Orders.take (i := 2) (v := .bool false) rfl (by kernel_rfl) (by kernel_rfl) (by kernel_rfl) (fun _ _ _ h => h) (Or.inl ⟨by kernel_rfl, fun wz ⟨⟨z0, z1⟩, ⟨z2, z3⟩, ⟨z4, z5⟩⟩ => by go_simp⟩) ?_
          refine Orders.take (i := 3) (v := .bool true) rfl (by kernel_rfl) (by kernel_rfl) (by kernel_rfl) (fun _ _ _ h => h) (Or.inl ⟨by kernel_rfl, fun wz ⟨⟨z0, z1⟩, ⟨z2, z3⟩, ⟨z4, z5⟩⟩ => by go_simp⟩) ?_
          refine Orders.take (i := 4) (v := .bool false) rfl (by kernel_rfl) (by kernel_rfl) (by kernel_rfl) (fun _ _ _ h => h) (Or.inl ⟨by kernel_rfl, fun wz ⟨⟨z0, z1⟩, ⟨z2, z3⟩, ⟨z4, z5⟩⟩ => by go_simp⟩) ?_
          refine Orders.take (i := 5) (v := .bool false) rfl (by kernel_rfl) (by kernel_rfl) (by kernel_rfl) (fun _ _ _ h => h) (Or.inl ⟨by kernel_rfl, fun wz ⟨⟨z0, z1⟩, ⟨z2, z3⟩, ⟨z4, z5⟩⟩ => by go_simp⟩) ?_
          refine Orders.take (i := 6) (v := .bool false) rfl (by kernel_rfl) (by kernel_rfl) (by kernel_rfl) (fun _ _ _ h => h) (Or.inl ⟨by kernel_rfl, fun wz ⟨⟨z0, z1⟩, ⟨z2, z3⟩, ⟨z4, z5⟩⟩ => by go_simp⟩) ?_
          refine Orders.take (i := 7) (v := .agg #[.int .i64 k, .slice ay L.length cy]) rfl (by kernel_rfl) (by kernel_rfl) (by kernel_rfl) (fun _ _ _ h => h) (Or.inl ⟨by kernel_rfl, fun wz ⟨⟨z0, z1⟩, ⟨z2, z3⟩, ⟨z4, z5⟩⟩ => by go_simp⟩) ?_
          refine Orders.take (i := 9) (v := .agg #[.int .i64 k, .slice a2 L.length c2]) rfl (by kernel_rfl) (by kernel_rfl) (by kernel_rfl) (fun _ _ _ h => h) (Or.inl ⟨by kernel_rfl, fun wz ⟨⟨z0, z1⟩, ⟨z2, z3⟩, ⟨z4, z5⟩⟩ => by go_simp⟩) ?_
          refine Orders.one (i := 8) (by kernel_rfl) (HD.out _ B0.out) rfl (fun K hK => ?_)
          go_simp
          refine (HOY.out _ B0.out).mono ?_
          rintro e wd ⟨rfl, hb⟩
          have Bwd := Lib.hid (Below.trans B0.out (hb.mono (B0.out).size))
          clear hb
          go_simp
          refine hK _ _ ?_
          clear hK K
          refine Orders.one (i := 10) (by kernel_rfl) (HD.out _ Bwd.out) rfl (fun K hK => ?_)
          go_simp
          refine (HSY.out _ Bwd.out).mono ?_
          rintro e we ⟨rfl, hb⟩
          have Bwe := Lib.hid (Below.trans Bwd.out (hb.mono (Bwd.out).size))
          clear hb
          go_simp
          refine hK _ _ ?_
          clear hK K
          refine Orders.take (i := 11) (v := .bool false) rfl (by kernel_rfl) (by kernel_rfl) (by kernel_rfl) (fun _ _ _ h => h) (Or.inl ⟨by kernel_rfl, fun wz ⟨⟨z0, z1⟩, ⟨z2, z3⟩, ⟨z4, z5⟩⟩ => by go_simp⟩) ?_
          refine Orders.take (i := 12) (v := .bool false) rfl (by kernel_rfl) (by kernel_rfl) (by kernel_rfl) (fun _ _ _ h => h) (Or.inl ⟨by kernel_rfl, fun wz ⟨⟨z0, z1⟩, ⟨z2, z3⟩, ⟨z4, z5⟩⟩ => by go_simp⟩) ?_
          refine Orders.take (i := 13) (v := .bool false) rfl (by kernel_rfl) (by kernel_rfl) (by kernel_rfl) (fun _ _ _ h => h) (Or.inl ⟨by kernel_rfl, fun wz ⟨⟨z0, z1⟩, ⟨z2, z3⟩, ⟨z4, z5⟩⟩ => by go_simp⟩) ?_
          refine Orders.take (i := 14) (v := .agg #[.int .i64 k, .slice az L.length cz]) rfl (by kernel_rfl) (by kernel_rfl) (by kernel_rfl) (fun _ _ _ h => h) (Or.inl ⟨by kernel_rfl, fun wz ⟨⟨z0, z1⟩, ⟨z2, z3⟩, ⟨z4, z5⟩⟩ => by go_simp⟩) ?_
          refine Orders.take (i := 16) (v := .agg #[.int .i64 k, .slice a2 L.length c2]) rfl (by kernel_rfl) (by kernel_rfl) (by kernel_rfl) (fun _ _ _ h => h) (Or.inl ⟨by kernel_rfl, fun wz ⟨⟨z0, z1⟩, ⟨z2, z3⟩, ⟨z4, z5⟩⟩ => by go_simp⟩) ?_
          refine Orders.one (i := 15) (by kernel_rfl) (HD.out _ Bwe.out) rfl (fun K hK => ?_)
          go_simp
          refine (HOZ.out _ Bwe.out).mono ?_
          rintro e wf ⟨rfl, hb⟩
          have Bwf := Lib.hid (Below.trans Bwe.out (hb.mono (Bwe.out).size))
          clear hb
          go_simp
          refine hK _ _ ?_
          clear hK K
          refine Orders.one (i := 17) (by kernel_rfl) (HD.out _ Bwf.out) rfl (fun K hK => ?_)
          go_simp
          refine (HSZ.out _ Bwf.out).mono ?_
          rintro e wg ⟨rfl, hb⟩
          have Bwg := Lib.hid (Below.trans Bwf.out (hb.mono (Bwf.out).size))
          clear hb
          go_simp
          refine hK _ _ ?_
          clear hK K
          refine Orders.take (i := 18) (v := .bool false) rfl (by kernel_rfl) (by kernel_rfl) (by kernel_rfl) (fun _ _ _ h => h) (Or.inl ⟨by kernel_rfl, fun wz ⟨⟨z0, z1⟩, ⟨z2, z3⟩, ⟨z4, z5⟩⟩ => by go_simp⟩) ?_
          refine Orders.take (i := 19) (v := .bool false) rfl (by kernel_rfl) (by kernel_rfl) (by kernel_rfl) (fun _ _ _ h => h) (Or.inl ⟨by kernel_rfl, fun wz ⟨⟨z0, z1⟩, ⟨z2, z3⟩, ⟨z4, z5⟩⟩ => by go_simp⟩) ?_
          refine Orders.done (by kernel_rfl) (HD.out _ Bwg.out) ?_
          have HAG := Lib.hid (HAC.out.below Bwg.out)
          have HYG := Lib.hid (HYC.out.keep (w' := wg) (N' := fun b => s7 ≤ b ∧ Soft wg b) fun b hb hl => ⟨⟨hb.1, hb.2.to (Bwg.out.block b hl)⟩, Bwg.out.block b hl⟩)
          have HZG := Lib.hid (HZC.out.keep (w' := wg) (N' := fun b => s7 ≤ b ∧ Soft wg b) fun b hb hl => ⟨⟨hb.1, hb.2.to (Bwg.out.block b hl)⟩, Bwg.out.block b hl⟩)
          have HSPY := Lib.hid (spoil_calls wg _ _ L HYG.out (fun b hb => hb.2))
          have t0 := (HD.out _ Bwg.out).1.two
          have HTZ := Lib.hid (HD.out _ Bwg.out).2.1.two
          clear HD HSY HSZ HOY HOZ B0 Bwd Bwe Bwf Bwg HAC HYC HZC HPC HQC
          go_wp2_with fail
          refine HSPY.out.mono ?_
          rintro e wh ⟨rfl, hsh⟩
          have HAH := Lib.hid (HAG.out.spoil hsh (fun b hb => .inr hb.1))
          obtain ⟨L3, -, hz3⟩ := hsh.txt HZG.out
          have HSPZ := Lib.hid (spoil_calls wh _ _ L3 (hz3.keep (N' := fun b => s7 ≤ b ∧ Soft wh b) fun b hb _ => ⟨⟨hb.1, hsh.soft b hb.2⟩, rfl⟩) (fun b hb => hb.2))
          have t1 := hsh.other _ _ _ _ HTZ.out
          clear hsh hz3 HSPY HYG HZG HAG HTZ t0
          go_wp2_with fail
          refine HSPZ.out.mono ?_
          rintro e wi ⟨rfl, hsi⟩
          have HAI := Lib.hid (HAH.out.spoil hsi (fun b hb => .inr hb.1))
          clear hsi HSPZ HAH t1
          go_wp2_with fail
          go_roundw
          · exact ⟨j + 1, by go_num, by omega, HAI.out⟩
          · simp [intOf]; omega
        · obtain rfl : j = 2 := by omega
          clear hat
          go_wp2_with fail
          refine (awake_calls _).mono ?_
          rintro e wz ⟨rfl, hbz⟩
          have HBZ := Lib.hid (HA.out.bel.trans (hbz.mono HA.out.bel.size))
          clear hbz
          go_wp2_with fail
          go_ret
          exact ⟨rfl, HBZ.out⟩
end Go.Proofs.Ythalpbbjcagnnaa
