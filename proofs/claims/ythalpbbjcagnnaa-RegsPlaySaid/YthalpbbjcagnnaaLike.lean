/- Walk: like: both registers that have the same are found to have it. (Written by gen_like.py.) -/
import Derived.Test.YthalpbbjcagnnaaStep
set_option linter.unusedSimpArgs false
set_option linter.unusedVariables false
namespace Go.Proofs.Ythalpbbjcagnnaa
open Go.RowKit
theorem namesOf_pre (R : RegsT) (i : Nat) : ∀ n, ∃ t, namesOf R (i + n) = namesOf R i ++ t
  | 0 => ⟨[], by simp⟩
  | n + 1 => by
    obtain ⟨t, ht⟩ := namesOf_pre R i n
    refine ⟨t ++ (if 0 < (R (i + n)).2.length then [97 + ((i + n : Nat) : Int)] else []), ?_⟩
    show namesOf R (i + n + 1) = _
    rw [namesOf, ht, List.append_assoc]
theorem namesOf_at (R : RegsT) (i : Nat) (hi : i < 26) (h : 0 < (R i).2.length) : (namesOf R i).length < (namesOf R 26).length ∧ (namesOf R 26).getD (namesOf R i).length 0 = 97 + (i : Int) ∧ (namesOf R (i + 1)).length = (namesOf R i).length + 1 := by
  obtain ⟨t, ht⟩ := namesOf_pre R (i + 1) (26 - (i + 1))
  rw [show i + 1 + (26 - (i + 1)) = 26 by omega] at ht
  have h1 : namesOf R (i + 1) = namesOf R i ++ [97 + (i : Int)] := by simp only [namesOf]; rw [if_pos h]
  rw [ht, h1]
  refine ⟨by simp, ?_, by simp⟩
  simp [List.getD_eq_getElem?_getD, List.getElem?_append]
theorem namesOf_skip (R : RegsT) (i : Nat) (h : ¬ 0 < (R i).2.length) : (namesOf R (i + 1)).length = (namesOf R i).length := by
  simp only [namesOf]; rw [if_neg h]; simp
/-- A row of numbers of its own, as it reads. -/
theorem ints_own {w : World} {B n p : Nat} {a : Option Addr} {xs : List Int} (hn : xs.length = n) (h : w.ownsRow B 3 1 (.slice a n p) n (iv xs)) : n ≤ p ∧ p ≤ maxLen ∧ ∀ i, i < n → ∃ g, a = some ⟨g, 0, none⟩ ∧ w.cell? ⟨g, i, none⟩ = some (.int .i64 (xs.getD i 0)) := by
  subst hn
  obtain ⟨_, ⟨e, h0⟩ | ⟨g, cap, cur, e, hb, hg, hc1, hc2, hsz, hcur⟩⟩ := h
  · have e : Value.slice a xs.length p = .slice none 0 0 := e
    simp only [Value.slice.injEq] at e
    obtain ⟨rfl, e1, rfl⟩ := e
    exact ⟨by omega, by decide, fun i hi => by omega⟩
  · simp only [Value.slice.injEq] at e
    obtain ⟨rfl, e1, rfl⟩ := e
    refine ⟨hc1, hc2, fun i hi => ⟨g, rfl, ?_⟩⟩
    have h5 : (cur.toList.take (xs.length * 1))[i]? = some (.int .i64 (xs.getD i 0)) := by
      rw [hcur]; simp [iv, List.getD_eq_getElem?_getD, List.getElem?_eq_getElem hi]
    rw [List.getElem?_take, if_pos (by omega)] at h5
    simp only [World.cell?, hg]
    simpa using h5
theorem getR_ok {R : RegsT} (hok : RegsOk R) (x : Int) : ∀ l ∈ (getR R x).2, l.length ≤ 100000 := by
  unfold getR
  split
  · exact fun l hl => by have := (hok 26).2.2 l hl; omega
  · split
    · exact fun l hl => by have := (hok _).2.2 l hl; omega
    · exact fun l hl => by simp at hl
/-- Get of both. -/
theorem Pair.get {w1 : World} {r q : Nat} {R : RegsT} (hp : Pair w1 r q R) (hok : RegsOk R) (x : Int) : ∃ (kx : Int) (Lx : Txt), getR R x = (kx, Lx) ∧ (∀ l ∈ Lx, l.length ≤ 100000) ∧
    (∀ wz, Below w1.heap.size w1 wz → Calls Try.prog 10 #[.pointer (some ⟨r, 0, none⟩), .int .i64 x] wz fun e w' => (∃ a c, e = .returned (.tuple #[.agg #[.int .i64 kx, .slice a Lx.length c], .bool (decide (0 < Lx.length))]) ∧ TxtAt w' (fun _ => True) (.slice a Lx.length c) Lx) ∧ Below wz.heap.size wz w') ∧
    (∀ wz, Below w1.heap.size w1 wz → Calls Try.prog 31 #[.pointer (some ⟨q, 0, none⟩), .int .i64 x] wz fun e w' => (∃ a c, e = .returned (.tuple #[.agg #[.int .i64 kx, .slice a Lx.length c], .bool (decide (0 < Lx.length))]) ∧ TxtAt w' (fun _ => True) (.slice a Lx.length c) Lx) ∧ Below wz.heap.size wz w') := by
  refine ⟨_, _, rfl, getR_ok hok x, fun wz hb => (get_calls wz _ r R x (hp.below hb).regs hok).mono fun e w' ⟨⟨v', h1, h2⟩, h3⟩ => ?_, fun wz hb => (refGet_calls wz _ q R x (hp.below hb).refs).mono fun e w' ⟨⟨v', h1, h2⟩, h3⟩ => ?_⟩
  · obtain ⟨a, c, rfl, -⟩ := id h2
    exact ⟨⟨a, c, h1, h2.keep fun _ _ _ => ⟨trivial, rfl⟩⟩, h3⟩
  · obtain ⟨a, c, rfl, -⟩ := id h2
    exact ⟨⟨a, c, h1, h2.keep fun _ _ _ => ⟨trivial, rfl⟩⟩, h3⟩
def LiRel (w1 : World) (R : RegsT) (nv kv : Value) (wr : World) : Prop := ∃ kk : Int, kv = .int .i64 kk ∧ -1 ≤ kk ∧ kk ≤ 26 ∧ nv = .int .i64 (namesOf R kk.toNat).length ∧ Below w1.heap.size w1 wr
set_option maxRecDepth 100000 in
set_option maxHeartbeats 4000000 in
theorem like_calls (w : World) (r q : Nat) (R : RegsT) (nm : Int) (hp : Pair w r q R) (hok : RegsOk R) :
    Calls Try.prog 17 #[.pointer (some ⟨r, 0, none⟩), .pointer (some ⟨q, 0, none⟩), .int .i64 nm] w fun e w' => e = .returned (.bool true) ∧ Below w.heap.size w w' := by
  have HN := Lib.hid (names_calls w _ r R hp.regs)
  have HP := Lib.hid hp
  have HOK := Lib.hid hok
  have hle := namesOf_le R 26
  clear hp hok
  go_enter Try.func17, Try.ntmps17
  go_wp2_with fail
  refine HN.out.mono ?_
  rintro e w1 ⟨⟨l, rfl, hl⟩, hb1⟩
  obtain ⟨la, lp, rfl⟩ := own_slice hl
  have HB1 := Lib.hid hb1
  have HP1 := Lib.hid (HP.out.below hb1)
  obtain ⟨hlp, hlm, hli⟩ := ints_own rfl hl
  have HLI := Lib.hid hli
  have HAT := Lib.hid (namesOf_at R)
  have HSK := Lib.hid (namesOf_skip R)
  have HGE := Lib.hid (HP1.out.get HOK.out)
  have hle26 := namesOf_le R
  have HLE := Lib.hid hle26
  have H0 := Lib.hid (show LiRel w1 R (.int .i64 0) (.int .i64 (-1)) w1 from ⟨-1, rfl, by omega, by omega, rfl, Below.refl _ _⟩)
  unfold maxLen at hlm
  obtain ⟨ln, hln⟩ : ∃ ln, (namesOf R 26).length = ln := ⟨_, rfl⟩
  have HLN := Lib.hid (show ∀ _ : Unit, (namesOf R 26).length = ln from fun _ => hln)
  rw [hln] at hle hlp
  clear hl hb1 hli HP HN hle26
  rw [hln] at HLI ⊢
  clear hln
  go_wp2_with fail
  go_loopw [7, 9] (fun n i wr => LiRel w1 R n i wr) (fun _ i _ => (26 - intOf i).toNat)
  case atStart => exact H0.out
  case round =>
    obtain ⟨kk, rfl, hk1, hk2, rfl, hbel⟩ := hrel
    have HBR := Lib.hid hbel
    clear hbel
    by_cases hk26 : kk < 26
    · by_cases hk0 : kk < 0
      · obtain rfl : kk = -1 := by omega
        obtain ⟨kx, Lx, hget, hrows, hGX, hGY⟩ := HGE.out (0)
        have HGT := Lib.hid hget
        have HRO := Lib.hid hrows
        have HGX := Lib.hid hGX
        have HGY := Lib.hid hGY
        obtain ⟨m, hm⟩ : ∃ m, Lx.length = m := ⟨_, rfl⟩
        have HM := Lib.hid hm
        rw [hm] at HGX HGY
        obtain ⟨bb, hbb⟩ : ∃ bb, decide (0 < m) = bb := ⟨_, rfl⟩
        have HBB := Lib.hid hbb
        rw [hbb] at HGX HGY
        clear hget hrows hGX hGY hm hbb
        go_wp2_with fail
        refine (HGX.out _ HBR.out).mono ?_
        rintro e w9 ⟨⟨ax, cx, rfl, hx9⟩, hb9⟩
        have HB9 := Lib.hid (HBR.out.trans (hb9.mono HBR.out.size))
        have HBA := Lib.hid (show Below w1.heap.size w1 (w9.alloc (.cells #[.int .i64 kx, .slice ax m cx] 30)) from HB9.out.alloc HB9.out.size _)
        have HPA := Lib.hid (Two.of (heap_new w9 (.cells #[.int .i64 kx, .slice ax m cx] 30)))
        have HXA := Lib.hid (hx9.below ((Below.refl w9.heap.size w9).alloc (Nat.le_refl _) (.cells #[.int .i64 kx, .slice ax m cx] 30)))
        clear hx9 hb9 HB9
        go_wp2_with fail
        generalize w9.alloc (.cells #[.int .i64 kx, .slice ax m cx] 30) = wa at *
        generalize w9.heap.size = P at *
        refine (HGY.out _ HBA.out).mono ?_
        rintro e wb ⟨⟨ay, cy, rfl, hyb⟩, hbb⟩
        have HBB2 := Lib.hid (HBA.out.trans (hbb.mono HBA.out.size))
        have hbc : Below wa.heap.size wa (wb.alloc (.cells #[.int .i64 kx, .slice ay m cy] 24)) := hbb.alloc hbb.size _
        have HBC := Lib.hid (HBA.out.trans (hbc.mono HBA.out.size))
        have HPC := Lib.hid (HPA.out.below hbc HPA.out.lt)
        have HXC := Lib.hid (HXA.out.below hbc)
        have HQC := Lib.hid (Two.of (heap_new wb (.cells #[.int .i64 kx, .slice ay m cy] 24)))
        have HYC := Lib.hid (hyb.below ((Below.refl wb.heap.size wb).alloc (Nat.le_refl _) (.cells #[.int .i64 kx, .slice ay m cy] 24)))
        clear hyb hbb hbc HBA HPA HXA HBB2 HGX HGY
        go_wp2_with fail
        generalize wb.alloc (.cells #[.int .i64 kx, .slice ay m cy] 24) = wc at *
        generalize wb.heap.size = Z at *
        have HD := Lib.hid (show ∀ wz : World, Below wc.heap.size wc wz → Two P kx (.slice ax m cx) wz ∧ Two Z kx (.slice ay m cy) wz from fun wz hb => ⟨HPC.out.below hb HPC.out.lt, HQC.out.below hb HQC.out.lt⟩)
        have HSA := Lib.hid (show ∀ wz : World, Below wc.heap.size wc wz → Calls Try.prog 14 #[.agg #[.int .i64 kx, .slice ax m cx], .agg #[.int .i64 kx, .slice ay m cy]] wz fun e w' => e = .returned (.bool true) ∧ Below wz.heap.size wz w' from
          fun wz hb => (SameD_calls wz _ _ kx kx _ _ Lx Lx HRO.out (HXC.out.below hb) (HYC.out.below hb)).mono fun e w' h => ⟨by simpa using h.1, h.2⟩)
        have HOU := Lib.hid (show ∀ wz : World, Below wc.heap.size wc wz → Calls Try.prog 15 #[.agg #[.int .i64 kx, .slice ax m cx]] wz fun e w' => e = .returned (.agg #[.int .i64 kx, .slice ax m cx]) ∧ Below wz.heap.size wz w' from fun wz _ => Ours_calls kx ax m cx wz)
        have B0 := Lib.hid (show Below wc.heap.size wc wc.drew from (Below.refl _ _).drew)
        refine wp_region_any (by kernel_rfl) ?_
        change wpAny _ _ _ _ _ _ _ (World.drew _)
        refine Orders.any (C := fun wz => Two P kx (.slice ax m cx) wz ∧ Two Z kx (.slice ay m cy) wz) _ _ _ _ ?_
        refine Orders.take (i := 0) (v := .bool bb) rfl (by kernel_rfl) (by kernel_rfl) (by kernel_rfl) (fun _ _ _ h => h) (Or.inl ⟨by kernel_rfl, fun wz ⟨⟨z0, z1⟩, ⟨z2, z3⟩⟩ => by go_simp⟩) ?_
        refine Orders.take (i := 1) (v := .bool bb) rfl (by kernel_rfl) (by kernel_rfl) (by kernel_rfl) (fun _ _ _ h => h) (Or.inl ⟨by kernel_rfl, fun wz ⟨⟨z0, z1⟩, ⟨z2, z3⟩⟩ => by go_simp⟩) ?_
        refine Orders.take (i := 2) (v := .bool false) rfl (by kernel_rfl) (by kernel_rfl) (by kernel_rfl) (fun _ _ _ h => h) (Or.inl ⟨by kernel_rfl, fun wz ⟨⟨z0, z1⟩, ⟨z2, z3⟩⟩ => by go_simp⟩) ?_
        refine Orders.take (i := 3) (v := .bool false) rfl (by kernel_rfl) (by kernel_rfl) (by kernel_rfl) (fun _ _ _ h => h) (Or.inl ⟨by kernel_rfl, fun wz ⟨⟨z0, z1⟩, ⟨z2, z3⟩⟩ => by go_simp⟩) ?_
        refine Orders.take (i := 4) (v := .agg #[.int .i64 kx, .slice ax m cx]) rfl (by kernel_rfl) (by kernel_rfl) (by kernel_rfl) (fun _ _ _ h => h) (Or.inl ⟨by kernel_rfl, fun wz ⟨⟨z0, z1⟩, ⟨z2, z3⟩⟩ => by go_simp⟩) ?_
        refine Orders.take (i := 6) (v := .agg #[.int .i64 kx, .slice ay m cy]) rfl (by kernel_rfl) (by kernel_rfl) (by kernel_rfl) (fun _ _ _ h => h) (Or.inl ⟨by kernel_rfl, fun wz ⟨⟨z0, z1⟩, ⟨z2, z3⟩⟩ => by go_simp⟩) ?_
        refine Orders.one (i := 5) (by kernel_rfl) (HD.out _ B0.out) rfl (fun K hK => ?_)
        go_simp
        refine (HOU.out _ B0.out).mono ?_
        rintro e wd ⟨rfl, hb⟩
        have Bwd := Lib.hid (Below.trans B0.out (hb.mono (B0.out).size))
        clear hb
        go_simp
        refine hK _ _ ?_
        clear hK K
        refine Orders.one (i := 7) (by kernel_rfl) (HD.out _ Bwd.out) rfl (fun K hK => ?_)
        go_simp
        refine (HSA.out _ Bwd.out).mono ?_
        rintro e we ⟨rfl, hb⟩
        have Bwe := Lib.hid (Below.trans Bwd.out (hb.mono (Bwd.out).size))
        clear hb
        go_simp
        refine hK _ _ ?_
        clear hK K
        refine Orders.take (i := 8) (v := .bool false) rfl (by kernel_rfl) (by kernel_rfl) (by kernel_rfl) (fun _ _ _ h => h) (Or.inl ⟨by kernel_rfl, fun wz ⟨⟨z0, z1⟩, ⟨z2, z3⟩⟩ => by go_simp⟩) ?_
        refine Orders.take (i := 9) (v := .bool false) rfl (by kernel_rfl) (by kernel_rfl) (by kernel_rfl) (fun _ _ _ h => h) (Or.inl ⟨by kernel_rfl, fun wz ⟨⟨z0, z1⟩, ⟨z2, z3⟩⟩ => by go_simp⟩) ?_
        refine Orders.done (by kernel_rfl) (HD.out _ Bwe.out) ?_
        have HBE := Lib.hid (HBC.out.trans (Bwe.out.mono HBC.out.size))
        clear HD HSA HOU B0 Bwd Bwe HBC HPC HXC HQC HYC
        clear HBR
        cases bb
        all_goals
          go_wp2_with fail
          go_roundw
          · exact ⟨0, by rfl, by omega, by omega, rfl, HBE.out⟩
          · simp [intOf]
      · obtain ⟨i, rfl⟩ : ∃ i : Nat, kk = i := ⟨kk.toNat, by omega⟩
        have hi26 : i < 26 := by omega
        have hti : (i : Int).toNat = i := by simp
        rw [hti]
        obtain ⟨nn, hnn⟩ : ∃ nn, (namesOf R i).length = nn := ⟨_, rfl⟩
        have HNN := Lib.hid hnn
        have hnb : nn ≤ 26 := by have := HLE.out i; omega
        rw [hnn]
        clear hti hnn
        obtain ⟨kx, Lx, hget, hrows, hGX, hGY⟩ := HGE.out (97 + (i : Int))
        have HGT := Lib.hid hget
        have HRO := Lib.hid hrows
        have HGX := Lib.hid hGX
        have HGY := Lib.hid hGY
        obtain ⟨m, hm⟩ : ∃ m, Lx.length = m := ⟨_, rfl⟩
        have HM := Lib.hid hm
        rw [hm] at HGX HGY
        obtain ⟨bb, hbb⟩ : ∃ bb, decide (0 < m) = bb := ⟨_, rfl⟩
        have HBB := Lib.hid hbb
        rw [hbb] at HGX HGY
        clear hget hrows hGX hGY hm hbb
        go_wp2_with fail
        refine (HGX.out _ HBR.out).mono ?_
        rintro e w9 ⟨⟨ax, cx, rfl, hx9⟩, hb9⟩
        have HB9 := Lib.hid (HBR.out.trans (hb9.mono HBR.out.size))
        have HBA := Lib.hid (show Below w1.heap.size w1 (w9.alloc (.cells #[.int .i64 kx, .slice ax m cx] 30)) from HB9.out.alloc HB9.out.size _)
        have HPA := Lib.hid (Two.of (heap_new w9 (.cells #[.int .i64 kx, .slice ax m cx] 30)))
        have HXA := Lib.hid (hx9.below ((Below.refl w9.heap.size w9).alloc (Nat.le_refl _) (.cells #[.int .i64 kx, .slice ax m cx] 30)))
        clear hx9 hb9 HB9
        go_wp2_with fail
        generalize w9.alloc (.cells #[.int .i64 kx, .slice ax m cx] 30) = wa at *
        generalize w9.heap.size = P at *
        refine (HGY.out _ HBA.out).mono ?_
        rintro e wb ⟨⟨ay, cy, rfl, hyb⟩, hbb⟩
        have HBB2 := Lib.hid (HBA.out.trans (hbb.mono HBA.out.size))
        have hbc : Below wa.heap.size wa (wb.alloc (.cells #[.int .i64 kx, .slice ay m cy] 24)) := hbb.alloc hbb.size _
        have HBC := Lib.hid (HBA.out.trans (hbc.mono HBA.out.size))
        have HPC := Lib.hid (HPA.out.below hbc HPA.out.lt)
        have HXC := Lib.hid (HXA.out.below hbc)
        have HQC := Lib.hid (Two.of (heap_new wb (.cells #[.int .i64 kx, .slice ay m cy] 24)))
        have HYC := Lib.hid (hyb.below ((Below.refl wb.heap.size wb).alloc (Nat.le_refl _) (.cells #[.int .i64 kx, .slice ay m cy] 24)))
        clear hyb hbb hbc HBA HPA HXA HBB2 HGX HGY
        go_wp2_with fail
        generalize wb.alloc (.cells #[.int .i64 kx, .slice ay m cy] 24) = wc at *
        generalize wb.heap.size = Z at *
        have HD := Lib.hid (show ∀ wz : World, Below wc.heap.size wc wz → Two P kx (.slice ax m cx) wz ∧ Two Z kx (.slice ay m cy) wz from fun wz hb => ⟨HPC.out.below hb HPC.out.lt, HQC.out.below hb HQC.out.lt⟩)
        have HSA := Lib.hid (show ∀ wz : World, Below wc.heap.size wc wz → Calls Try.prog 14 #[.agg #[.int .i64 kx, .slice ax m cx], .agg #[.int .i64 kx, .slice ay m cy]] wz fun e w' => e = .returned (.bool true) ∧ Below wz.heap.size wz w' from
          fun wz hb => (SameD_calls wz _ _ kx kx _ _ Lx Lx HRO.out (HXC.out.below hb) (HYC.out.below hb)).mono fun e w' h => ⟨by simpa using h.1, h.2⟩)
        have HOU := Lib.hid (show ∀ wz : World, Below wc.heap.size wc wz → Calls Try.prog 15 #[.agg #[.int .i64 kx, .slice ax m cx]] wz fun e w' => e = .returned (.agg #[.int .i64 kx, .slice ax m cx]) ∧ Below wz.heap.size wz w' from fun wz _ => Ours_calls kx ax m cx wz)
        have B0 := Lib.hid (show Below wc.heap.size wc wc.drew from (Below.refl _ _).drew)
        refine wp_region_any (by kernel_rfl) ?_
        change wpAny _ _ _ _ _ _ _ (World.drew _)
        refine Orders.any (C := fun wz => Two P kx (.slice ax m cx) wz ∧ Two Z kx (.slice ay m cy) wz) _ _ _ _ ?_
        refine Orders.take (i := 0) (v := .bool bb) rfl (by kernel_rfl) (by kernel_rfl) (by kernel_rfl) (fun _ _ _ h => h) (Or.inl ⟨by kernel_rfl, fun wz ⟨⟨z0, z1⟩, ⟨z2, z3⟩⟩ => by go_simp⟩) ?_
        refine Orders.take (i := 1) (v := .bool bb) rfl (by kernel_rfl) (by kernel_rfl) (by kernel_rfl) (fun _ _ _ h => h) (Or.inl ⟨by kernel_rfl, fun wz ⟨⟨z0, z1⟩, ⟨z2, z3⟩⟩ => by go_simp⟩) ?_
        refine Orders.take (i := 2) (v := .bool false) rfl (by kernel_rfl) (by kernel_rfl) (by kernel_rfl) (fun _ _ _ h => h) (Or.inl ⟨by kernel_rfl, fun wz ⟨⟨z0, z1⟩, ⟨z2, z3⟩⟩ => by go_simp⟩) ?_
        refine Orders.take (i := 3) (v := .bool false) rfl (by kernel_rfl) (by kernel_rfl) (by kernel_rfl) (fun _ _ _ h => h) (Or.inl ⟨by kernel_rfl, fun wz ⟨⟨z0, z1⟩, ⟨z2, z3⟩⟩ => by go_simp⟩) ?_
        refine Orders.take (i := 4) (v := .agg #[.int .i64 kx, .slice ax m cx]) rfl (by kernel_rfl) (by kernel_rfl) (by kernel_rfl) (fun _ _ _ h => h) (Or.inl ⟨by kernel_rfl, fun wz ⟨⟨z0, z1⟩, ⟨z2, z3⟩⟩ => by go_simp⟩) ?_
        refine Orders.take (i := 6) (v := .agg #[.int .i64 kx, .slice ay m cy]) rfl (by kernel_rfl) (by kernel_rfl) (by kernel_rfl) (fun _ _ _ h => h) (Or.inl ⟨by kernel_rfl, fun wz ⟨⟨z0, z1⟩, ⟨z2, z3⟩⟩ => by go_simp⟩) ?_
        refine Orders.one (i := 5) (by kernel_rfl) (HD.out _ B0.out) rfl (fun K hK => ?_)
        go_simp
        refine (HOU.out _ B0.out).mono ?_
        rintro e wd ⟨rfl, hb⟩
        have Bwd := Lib.hid (Below.trans B0.out (hb.mono (B0.out).size))
        clear hb
        go_simp
        refine hK _ _ ?_
        clear hK K
        refine Orders.one (i := 7) (by kernel_rfl) (HD.out _ Bwd.out) rfl (fun K hK => ?_)
        go_simp
        refine (HSA.out _ Bwd.out).mono ?_
        rintro e we ⟨rfl, hb⟩
        have Bwe := Lib.hid (Below.trans Bwd.out (hb.mono (Bwd.out).size))
        clear hb
        go_simp
        refine hK _ _ ?_
        clear hK K
        refine Orders.take (i := 8) (v := .bool false) rfl (by kernel_rfl) (by kernel_rfl) (by kernel_rfl) (fun _ _ _ h => h) (Or.inl ⟨by kernel_rfl, fun wz ⟨⟨z0, z1⟩, ⟨z2, z3⟩⟩ => by go_simp⟩) ?_
        refine Orders.take (i := 9) (v := .bool false) rfl (by kernel_rfl) (by kernel_rfl) (by kernel_rfl) (fun _ _ _ h => h) (Or.inl ⟨by kernel_rfl, fun wz ⟨⟨z0, z1⟩, ⟨z2, z3⟩⟩ => by go_simp⟩) ?_
        refine Orders.done (by kernel_rfl) (HD.out _ Bwe.out) ?_
        have HBE := Lib.hid (HBC.out.trans (Bwe.out.mono HBC.out.size))
        clear HD HSA HOU B0 Bwd Bwe HBC HPC HXC HQC HYC
        have hRi : (R i).2.length = m := by
          have h1 := HGT.out
          rw [show getR R (97 + (i : Int)) = R i by unfold getR; rw [if_neg (by omega), idxOf_low (by omega)]; simp; congr 1; omega] at h1
          rw [h1]; exact HM.out
        have HBb := Lib.hid HBB.out
        clear HBR
        by_cases hm0 : 0 < m
        · have hbt : bb = true := by rw [← HBB.out]; simpa using hm0
          obtain ⟨t1, t2, t3⟩ := HAT.out i hi26 (by rw [hRi]; exact hm0)
          rw [HLN.out (), HNN.out] at t1
          rw [HNN.out] at t2 t3
          obtain ⟨lg, hlg, hlc⟩ := HLI.out nn t1
          rw [t2] at hlc
          have hlc := (HBE.out.cell (p := ⟨lg, nn, none⟩) (World.block_lt_of_cell? _ _ hlc)).trans hlc
          have HT3 := Lib.hid t3
          subst hlg
          subst hbt
          clear t2 t3 hRi hm0
          go_wp2_with fail
          go_roundw
          · exact ⟨i + 1, by go_num, by omega, by omega, by rw [show ((i : Int) + 1).toNat = i + 1 by omega, HT3.out]; go_num, HBE.out⟩
          · simp [intOf]; omega
        · have hbt : bb = false := by rw [← HBB.out]; simpa using hm0
          have HT3 := Lib.hid (HSK.out i (by rw [hRi]; exact hm0))
          rw [HNN.out] at HT3
          subst hbt
          clear hRi hm0
          go_wp2_with fail
          go_roundw
          · exact ⟨i + 1, by go_num, by omega, by omega, by rw [show ((i : Int) + 1).toNat = i + 1 by omega, HT3.out], HBE.out⟩
          · simp [intOf]; omega
    · obtain rfl : kk = 26 := by omega
      rw [show (26 : Int).toNat = 26 from rfl, HLN.out ()]
      obtain ⟨kx, Lx, hget, hrows, hGX, hGY⟩ := HGE.out (nm)
      have HGT := Lib.hid hget
      have HRO := Lib.hid hrows
      have HGX := Lib.hid hGX
      have HGY := Lib.hid hGY
      obtain ⟨m, hm⟩ : ∃ m, Lx.length = m := ⟨_, rfl⟩
      have HM := Lib.hid hm
      rw [hm] at HGX HGY
      obtain ⟨bb, hbb⟩ : ∃ bb, decide (0 < m) = bb := ⟨_, rfl⟩
      have HBB := Lib.hid hbb
      rw [hbb] at HGX HGY
      clear hget hrows hGX hGY hm hbb
      go_wp2_with fail
      refine (HGX.out _ HBR.out).mono ?_
      rintro e w9 ⟨⟨ax, cx, rfl, hx9⟩, hb9⟩
      have HB9 := Lib.hid (HBR.out.trans (hb9.mono HBR.out.size))
      have HBA := Lib.hid (show Below w1.heap.size w1 (w9.alloc (.cells #[.int .i64 kx, .slice ax m cx] 30)) from HB9.out.alloc HB9.out.size _)
      have HPA := Lib.hid (Two.of (heap_new w9 (.cells #[.int .i64 kx, .slice ax m cx] 30)))
      have HXA := Lib.hid (hx9.below ((Below.refl w9.heap.size w9).alloc (Nat.le_refl _) (.cells #[.int .i64 kx, .slice ax m cx] 30)))
      clear hx9 hb9 HB9
      go_wp2_with fail
      generalize w9.alloc (.cells #[.int .i64 kx, .slice ax m cx] 30) = wa at *
      generalize w9.heap.size = P at *
      refine (HGY.out _ HBA.out).mono ?_
      rintro e wb ⟨⟨ay, cy, rfl, hyb⟩, hbb⟩
      have HBB2 := Lib.hid (HBA.out.trans (hbb.mono HBA.out.size))
      have hbc : Below wa.heap.size wa (wb.alloc (.cells #[.int .i64 kx, .slice ay m cy] 24)) := hbb.alloc hbb.size _
      have HBC := Lib.hid (HBA.out.trans (hbc.mono HBA.out.size))
      have HPC := Lib.hid (HPA.out.below hbc HPA.out.lt)
      have HXC := Lib.hid (HXA.out.below hbc)
      have HQC := Lib.hid (Two.of (heap_new wb (.cells #[.int .i64 kx, .slice ay m cy] 24)))
      have HYC := Lib.hid (hyb.below ((Below.refl wb.heap.size wb).alloc (Nat.le_refl _) (.cells #[.int .i64 kx, .slice ay m cy] 24)))
      clear hyb hbb hbc HBA HPA HXA HBB2 HGX HGY
      go_wp2_with fail
      generalize wb.alloc (.cells #[.int .i64 kx, .slice ay m cy] 24) = wc at *
      generalize wb.heap.size = Z at *
      have HD := Lib.hid (show ∀ wz : World, Below wc.heap.size wc wz → Two P kx (.slice ax m cx) wz ∧ Two Z kx (.slice ay m cy) wz from fun wz hb => ⟨HPC.out.below hb HPC.out.lt, HQC.out.below hb HQC.out.lt⟩)
      have HSA := Lib.hid (show ∀ wz : World, Below wc.heap.size wc wz → Calls Try.prog 14 #[.agg #[.int .i64 kx, .slice ax m cx], .agg #[.int .i64 kx, .slice ay m cy]] wz fun e w' => e = .returned (.bool true) ∧ Below wz.heap.size wz w' from
        fun wz hb => (SameD_calls wz _ _ kx kx _ _ Lx Lx HRO.out (HXC.out.below hb) (HYC.out.below hb)).mono fun e w' h => ⟨by simpa using h.1, h.2⟩)
      have HOU := Lib.hid (show ∀ wz : World, Below wc.heap.size wc wz → Calls Try.prog 15 #[.agg #[.int .i64 kx, .slice ax m cx]] wz fun e w' => e = .returned (.agg #[.int .i64 kx, .slice ax m cx]) ∧ Below wz.heap.size wz w' from fun wz _ => Ours_calls kx ax m cx wz)
      have B0 := Lib.hid (show Below wc.heap.size wc wc.drew from (Below.refl _ _).drew)
      have hAll : ∀ i, i < 26 → sizeL (R i).2 ≤ 10000 := fun i _ => by have := (HOK.out i).1; omega
      have HA1 := Lib.hid (show ∀ wz : World, Below wc.heap.size wc wz → Calls Try.prog 19 #[.pointer (some ⟨r, 0, none⟩)] wz fun e w' => e = .returned (.int .i64 (allSize R 26)) ∧ Below wz.heap.size wz w' from fun wz hb => All_calls wz _ r R (HP1.out.below (HBC.out.trans (hb.mono HBC.out.size))).regs hAll)
      have HA2 := Lib.hid (show ∀ wz : World, Below wc.heap.size wc wz → Calls Try.prog 32 #[.pointer (some ⟨q, 0, none⟩)] wz fun e w' => e = .returned (.int .i64 (allSize R 26)) ∧ Below wz.heap.size wz w' from fun wz hb => refAll_calls wz _ q R (HP1.out.below (HBC.out.trans (hb.mono HBC.out.size))).refs hAll)
      clear hAll
      generalize (allSize R 26 : Int) = az at *
      refine wp_region_any (by kernel_rfl) ?_
      change wpAny _ _ _ _ _ _ _ (World.drew _)
      refine Orders.any (C := fun wz => Two P kx (.slice ax m cx) wz ∧ Two Z kx (.slice ay m cy) wz) _ _ _ _ ?_
      refine Orders.take (i := 0) (v := .int .i64 ln) rfl (by kernel_rfl) (by kernel_rfl) (by kernel_rfl) (fun _ _ _ h => h) (Or.inl ⟨by kernel_rfl, fun wz ⟨⟨z0, z1⟩, ⟨z2, z3⟩⟩ => by go_simp⟩) ?_
      refine Orders.take (i := 1) (v := .slice la ln lp) rfl (by kernel_rfl) (by kernel_rfl) (by kernel_rfl) (fun _ _ _ h => h) (Or.inl ⟨by kernel_rfl, fun wz ⟨⟨z0, z1⟩, ⟨z2, z3⟩⟩ => by go_simp⟩) ?_
      refine Orders.take (i := 2) (v := .int .i64 ln) rfl (by kernel_rfl) (by kernel_rfl) (by kernel_rfl) (fun _ _ _ h => h) (Or.inl ⟨by kernel_rfl, fun wz ⟨⟨z0, z1⟩, ⟨z2, z3⟩⟩ => by go_simp⟩) ?_
      refine Orders.take (i := 3) (v := .bool true) rfl (by kernel_rfl) (by kernel_rfl) (by kernel_rfl) (fun _ _ _ h => h) (Or.inl ⟨by kernel_rfl, fun wz ⟨⟨z0, z1⟩, ⟨z2, z3⟩⟩ => by go_simp⟩) ?_
      refine Orders.take (i := 4) (v := .bool true) rfl (by kernel_rfl) (by kernel_rfl) (by kernel_rfl) (fun _ _ _ h => h) (Or.inl ⟨by kernel_rfl, fun wz ⟨⟨z0, z1⟩, ⟨z2, z3⟩⟩ => by go_simp⟩) ?_
      refine Orders.take (i := 5) (v := .bool bb) rfl (by kernel_rfl) (by kernel_rfl) (by kernel_rfl) (fun _ _ _ h => h) (Or.inl ⟨by kernel_rfl, fun wz ⟨⟨z0, z1⟩, ⟨z2, z3⟩⟩ => by go_simp⟩) ?_
      refine Orders.take (i := 6) (v := .bool bb) rfl (by kernel_rfl) (by kernel_rfl) (by kernel_rfl) (fun _ _ _ h => h) (Or.inl ⟨by kernel_rfl, fun wz ⟨⟨z0, z1⟩, ⟨z2, z3⟩⟩ => by go_simp⟩) ?_
      refine Orders.take (i := 7) (v := .bool true) rfl (by kernel_rfl) (by kernel_rfl) (by kernel_rfl) (fun _ _ _ h => h) (Or.inl ⟨by kernel_rfl, fun wz ⟨⟨z0, z1⟩, ⟨z2, z3⟩⟩ => by go_simp⟩) ?_
      refine Orders.take (i := 8) (v := .bool true) rfl (by kernel_rfl) (by kernel_rfl) (by kernel_rfl) (fun _ _ _ h => h) (Or.inl ⟨by kernel_rfl, fun wz ⟨⟨z0, z1⟩, ⟨z2, z3⟩⟩ => by go_simp⟩) ?_
      refine Orders.take (i := 9) (v := .bool true) rfl (by kernel_rfl) (by kernel_rfl) (by kernel_rfl) (fun _ _ _ h => h) (Or.inl ⟨by kernel_rfl, fun wz ⟨⟨z0, z1⟩, ⟨z2, z3⟩⟩ => by go_simp⟩) ?_
      refine Orders.take (i := 10) (v := .agg #[.int .i64 kx, .slice ax m cx]) rfl (by kernel_rfl) (by kernel_rfl) (by kernel_rfl) (fun _ _ _ h => h) (Or.inl ⟨by kernel_rfl, fun wz ⟨⟨z0, z1⟩, ⟨z2, z3⟩⟩ => by go_simp⟩) ?_
      refine Orders.take (i := 12) (v := .agg #[.int .i64 kx, .slice ay m cy]) rfl (by kernel_rfl) (by kernel_rfl) (by kernel_rfl) (fun _ _ _ h => h) (Or.inl ⟨by kernel_rfl, fun wz ⟨⟨z0, z1⟩, ⟨z2, z3⟩⟩ => by go_simp⟩) ?_
      refine Orders.one (i := 11) (by kernel_rfl) (HD.out _ B0.out) rfl (fun K hK => ?_)
      go_simp
      refine (HOU.out _ B0.out).mono ?_
      rintro e wd ⟨rfl, hb⟩
      have Bwd := Lib.hid (Below.trans B0.out (hb.mono (B0.out).size))
      clear hb
      go_simp
      refine hK _ _ ?_
      clear hK K
      refine Orders.one (i := 13) (by kernel_rfl) (HD.out _ Bwd.out) rfl (fun K hK => ?_)
      go_simp
      refine (HSA.out _ Bwd.out).mono ?_
      rintro e we ⟨rfl, hb⟩
      have Bwe := Lib.hid (Below.trans Bwd.out (hb.mono (Bwd.out).size))
      clear hb
      go_simp
      refine hK _ _ ?_
      clear hK K
      refine Orders.take (i := 14) (v := .bool true) rfl (by kernel_rfl) (by kernel_rfl) (by kernel_rfl) (fun _ _ _ h => h) (Or.inl ⟨by kernel_rfl, fun wz ⟨⟨z0, z1⟩, ⟨z2, z3⟩⟩ => by go_simp⟩) ?_
      refine Orders.take (i := 15) (v := .bool true) rfl (by kernel_rfl) (by kernel_rfl) (by kernel_rfl) (fun _ _ _ h => h) (Or.inl ⟨by kernel_rfl, fun wz ⟨⟨z0, z1⟩, ⟨z2, z3⟩⟩ => by go_simp⟩) ?_
      refine Orders.take (i := 16) (v := .pointer (some ⟨r, 0, none⟩)) rfl (by kernel_rfl) (by kernel_rfl) (by kernel_rfl) (fun _ _ _ h => h) (Or.inl ⟨by kernel_rfl, fun wz ⟨⟨z0, z1⟩, ⟨z2, z3⟩⟩ => by go_simp⟩) ?_
      refine Orders.take (i := 18) (v := .pointer (some ⟨q, 0, none⟩)) rfl (by kernel_rfl) (by kernel_rfl) (by kernel_rfl) (fun _ _ _ h => h) (Or.inl ⟨by kernel_rfl, fun wz ⟨⟨z0, z1⟩, ⟨z2, z3⟩⟩ => by go_simp⟩) ?_
      refine Orders.one (i := 17) (by kernel_rfl) (HD.out _ Bwe.out) rfl (fun K hK => ?_)
      go_simp
      refine (HA1.out _ Bwe.out).mono ?_
      rintro e wf ⟨rfl, hb⟩
      have Bwf := Lib.hid (Below.trans Bwe.out (hb.mono (Bwe.out).size))
      clear hb
      go_simp
      refine hK _ _ ?_
      clear hK K
      refine Orders.one (i := 19) (by kernel_rfl) (HD.out _ Bwf.out) rfl (fun K hK => ?_)
      go_simp
      refine (HA2.out _ Bwf.out).mono ?_
      rintro e wg ⟨rfl, hb⟩
      have Bwg := Lib.hid (Below.trans Bwf.out (hb.mono (Bwf.out).size))
      clear hb
      go_simp
      refine hK _ _ ?_
      clear hK K
      refine Orders.take (i := 20) (v := .bool true) rfl (by kernel_rfl) (by kernel_rfl) (by kernel_rfl) (fun _ _ _ h => h) (Or.inl ⟨by kernel_rfl, fun wz ⟨⟨z0, z1⟩, ⟨z2, z3⟩⟩ => by go_simp⟩) ?_
      refine Orders.take (i := 21) (v := .bool true) rfl (by kernel_rfl) (by kernel_rfl) (by kernel_rfl) (fun _ _ _ h => h) (Or.inl ⟨by kernel_rfl, fun wz ⟨⟨z0, z1⟩, ⟨z2, z3⟩⟩ => by go_simp⟩) ?_
      refine Orders.take (i := 22) (v := .bool true) rfl (by kernel_rfl) (by kernel_rfl) (by kernel_rfl) (fun _ _ _ h => h) (Or.inl ⟨by kernel_rfl, fun wz ⟨⟨z0, z1⟩, ⟨z2, z3⟩⟩ => by go_simp⟩) ?_
      refine Orders.done (by kernel_rfl) (HD.out _ Bwg.out) ?_
      have HBE := Lib.hid (HBC.out.trans (Bwg.out.mono HBC.out.size))
      go_wp2_with fail
      go_ret
      exact ⟨rfl, HB1.out.trans (HBE.out.mono HB1.out.size)⟩
end Go.Proofs.Ythalpbbjcagnnaa
