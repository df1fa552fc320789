/- Walk: step: one call of both registers: they answer alike, and have the same behind it. (Written by gen_step.py.) -/
import Derived.Test.YthalpbbjcagnnaaPair
set_option linter.unusedSimpArgs false
set_option linter.unusedVariables false
namespace Go.Proofs.Ythalpbbjcagnnaa
open Go.RowKit
/-- Behind the cut of what came in. -/
structure StPre (w : World) (g : Nat) (kd nm k : Int) (v u2 : Value) (L : Txt) (wr : World) : Prop where
  bel : Below w.heap.size w wr
  box : Four w.heap.size kd nm k v wr
  want : Two g k u2 wr
  txt : TxtAt wr (fun b => w.heap.size ≤ b) u2 L
  sg : w.heap.size < g
set_option maxRecDepth 100000 in
set_option maxHeartbeats 4000000 in
theorem step_calls (w : World) (r q : Nat) (R : RegsT) (kd nm k : Int) (v : Value) (L0 : Txt) (N : Nat → Prop) (hp : Pair w r q R) (hok : RegsOk R) (h : TxtAt w N v L0) :
    Calls Try.prog 16 #[.pointer (some ⟨r, 0, none⟩), .pointer (some ⟨q, 0, none⟩), .agg #[.int .i64 kd, .int .i64 nm, .int .i64 k, v]] w fun e w' => e = .returned (.bool true) ∧ (∃ R', RegsOk R' ∧ Pair w' r q R') ∧ K2 r q w w' := by
  obtain ⟨a, c, rfl, -⟩ := id h
  have hrl := hp.ltr
  have hql := hp.ltq
  have hrq := hp.ne
  have HP := Lib.hid hp
  have HOK := Lib.hid hok
  have HB1 := Lib.hid (show Below w.heap.size w (w.alloc (.cells #[.int .i64 kd, .int .i64 nm, .int .i64 k, .slice a L0.length c] 46)) from (Below.refl _ _).alloc (Nat.le_refl _) _)
  have HX1 := Lib.hid (Four.of (heap_new w (.cells #[.int .i64 kd, .int .i64 nm, .int .i64 k, .slice a L0.length c] 46)))
  have HS1 := Lib.hid (show (w.alloc (.cells #[.int .i64 kd, .int .i64 nm, .int .i64 k, .slice a L0.length c] 46)).heap.size = w.heap.size + 1 by simp)
  have HF := Lib.hid (show ∀ wz : World, Below (w.heap.size + 1) (w.alloc (.cells #[.int .i64 kd, .int .i64 nm, .int .i64 k, .slice a L0.length c] 46)) wz → Calls Try.prog 7 #[.slice a L0.length c] wz fun e w' => (∃ a' c' L, e = .returned (.slice a' L.length c') ∧ TxtAt w' (fun b => wz.heap.size ≤ b) (.slice a' L.length c') L ∧ Small L) ∧ Below wz.heap.size wz w' from
    fun wz hb => (Few_calls wz N _ L0 (h.below (HB1.out.trans (hb.mono (by omega))))).mono fun e w' ⟨⟨v', L', h1, h2, h3, h4⟩, h5⟩ => by
      obtain ⟨a', c', rfl, -⟩ := id h2
      exact ⟨⟨a', c', L', h1, h2, h3⟩, h5⟩)
  clear hp hok h
  go_enter Try.func16, Try.ntmps16
  go_wp2_with fail
  generalize w.alloc (.cells #[.int .i64 kd, .int .i64 nm, .int .i64 k, .slice a L0.length c] 46) = w1 at *
  refine wp_region_any (by kernel_rfl) ?_
  change wpAny _ _ _ _ _ _ _ (World.drew _)
  refine Orders.any (C := fun wz => Four w.heap.size kd nm k (.slice a L0.length c) wz) _ _ _ _ ?_
  refine Orders.take (i := 0) (v := .pointer (some ⟨w.heap.size, 2, none⟩)) rfl (by kernel_rfl) (by kernel_rfl) (by kernel_rfl) (fun _ _ _ h => h) (Or.inl ⟨by kernel_rfl, fun wz ⟨y0, y1, y2, y3⟩ => by go_simp⟩) ?_
  refine Orders.take (i := 1) (v := .pointer (some ⟨w.heap.size, 2, none⟩)) rfl (by kernel_rfl) (by kernel_rfl) (by kernel_rfl) (fun _ _ _ h => h) (Or.inl ⟨by kernel_rfl, fun wz ⟨y0, y1, y2, y3⟩ => by go_simp⟩) ?_
  refine Orders.take (i := 3) (v := .pointer (some ⟨w.heap.size, 2, none⟩)) rfl (by kernel_rfl) (by kernel_rfl) (by kernel_rfl) (fun _ _ _ h => h) (Or.inl ⟨by kernel_rfl, fun wz ⟨y0, y1, y2, y3⟩ => by go_simp⟩) ?_
  refine Orders.take (i := 4) (v := .pointer (some ⟨w.heap.size, 3, none⟩)) rfl (by kernel_rfl) (by kernel_rfl) (by kernel_rfl) (fun _ _ _ h => h) (Or.inl ⟨by kernel_rfl, fun wz ⟨y0, y1, y2, y3⟩ => by go_simp⟩) ?_
  refine Orders.take (i := 2) (v := .int .i64 k) rfl (by kernel_rfl) (by kernel_rfl) (by kernel_rfl) (fun _ _ _ h => h) (Or.inl ⟨by kernel_rfl, fun wz ⟨y0, y1, y2, y3⟩ => by go_simp⟩) ?_
  refine Orders.take (i := 5) (v := .slice a L0.length c) rfl (by kernel_rfl) (by kernel_rfl) (by kernel_rfl) (fun _ _ _ h => h) (Or.inl ⟨by kernel_rfl, fun wz ⟨y0, y1, y2, y3⟩ => by go_simp⟩) ?_
  refine Orders.two (i := 6) (j := 8) (by kernel_rfl) (HX1.out.to rfl) rfl rfl (fun K hK => ?_) (fun K hK => ?_)
  · go_simp
    refine (HF.out _ (Below.refl _ _).drew).mono ?_
    rintro e w3 ⟨⟨a2, c2, L, rfl, hu2, sL⟩, hb3⟩
    have hb3 : Below (w.heap.size + 1) w1 w3 := (Below.refl _ _).drew.trans (hb3.mono (by show w.heap.size + 1 ≤ w1.heap.size; rw [HS1.out]; omega))
    have hu2 : TxtAt w3 (fun b => w.heap.size ≤ b) (.slice a2 L.length c2) L := hu2.keep fun b hb _ => ⟨by have hb : w1.heap.size ≤ b := hb; rw [HS1.out] at hb; omega, rfl⟩
    have HX3 := Lib.hid (HX1.out.below hb3 (by omega))
    have hs3 : w.heap.size + 1 ≤ w3.heap.size := by have := hb3.size; rw [HS1.out] at this; exact this
    go_simp
    refine hK _ _ ?_
    clear hK K
    refine Orders.take (i := 7) (v := .agg #[.int .i64 k, .slice a2 L.length c2]) rfl (by kernel_rfl) (by kernel_rfl) (by kernel_rfl) (fun _ _ _ h => h) (Or.inl ⟨by kernel_rfl, fun wz ⟨y0, y1, y2, y3⟩ => by go_simp⟩) ?_
    refine Orders.one (i := 8) (by kernel_rfl) HX3.out rfl (fun K hK => ?_)
    go_simp
    refine hK _ _ ?_
    clear hK K
    refine Orders.one (i := 9) (by kernel_rfl) (HX3.out.to (Below.heap_alloc _ _ _ HX3.out.lt)) rfl (fun K hK => ?_)
    go_simp
    refine hK _ _ ?_
    clear hK K
    have hb4 : Below w3.heap.size w3 (w3.alloc (.cells #[.int .i64 k, .slice a2 L.length c2] 24)) := (Below.refl _ _).alloc (Nat.le_refl _) _
    refine Orders.done (by kernel_rfl) (HX3.out.below hb4 HX3.out.lt) ?_
    have HQ := Lib.hid (show StPre w w3.heap.size kd nm k (.slice a L0.length c) (.slice a2 L.length c2) L (w3.alloc (.cells #[.int .i64 k, .slice a2 L.length c2] 24)) from
      ⟨HB1.out.trans ((hb3.trans (hb4.mono hs3)).mono (by omega)), HX3.out.below hb4 HX3.out.lt, Two.of (heap_new _ _), hu2.below hb4, by omega⟩)
    clear hb3 hb4 hu2 HX3 HF HX1 HB1 HS1 hs3
    generalize w3.alloc (.cells #[.int .i64 k, .slice a2 L.length c2] 24) = w5 at *
    generalize w3.heap.size = g at *
    have HP5 := Lib.hid (HP.out.below HQ.out.bel)
    have y0 := HQ.out.box.c0
    have y1 := HQ.out.box.c1
    have hgs := HQ.out.sg
    have HCR := Lib.hid (show ∀ wz wy : World, KeepR r w5 wz → Below wz.heap.size wz wy → Four w.heap.size kd nm k (.slice a L0.length c) wy ∧ Two g k (.slice a2 L.length c2) wy from fun wz wy h1 h2 =>
      ⟨(HQ.out.box.to (h1.block _ HQ.out.box.lt (by omega))).below h2 (Nat.lt_of_lt_of_le HQ.out.box.lt h1.size), (HQ.out.want.to (h1.block _ HQ.out.want.lt (by omega))).below h2 (Nat.lt_of_lt_of_le HQ.out.want.lt h1.size)⟩)
    have HCQ := Lib.hid (show ∀ wz wy wx : World, KeepR r w5 wz → Below wz.heap.size wz wy → KeepR q wy wx → Four w.heap.size kd nm k (.slice a L0.length c) wx ∧ Two g k (.slice a2 L.length c2) wx from fun wz wy wx h1 h2 h3 =>
      ⟨(HCR.out wz wy h1 h2).1.to (h3.block _ (HCR.out wz wy h1 h2).1.lt (by omega)), (HCR.out wz wy h1 h2).2.to (h3.block _ (HCR.out wz wy h1 h2).2.lt (by omega))⟩)
    have HK5 := Lib.hid (show K2 r q w w5 from K2.of HQ.out.bel)
    by_cases hkd : kd = 0 ∨ kd = 1 ∨ kd = 2
    · have HSET := Lib.hid (HP5.out.set HOK.out nm k hrl hql HQ.out.txt sL)
      have HOK2 := Lib.hid (setR_ok HOK.out nm k sL)
      have hkb : ((kd == 0) = true) ∨ ((kd == 0) = false ∧ (kd == 1) = true) ∨ ((kd == 0) = false ∧ (kd == 1) = false ∧ (kd == 2) = true) := by
        rcases hkd with rfl | rfl | rfl
        · exact .inl rfl
        · exact .inr (.inl ⟨rfl, rfl⟩)
        · exact .inr (.inr ⟨rfl, rfl, rfl⟩)
      clear hkd
      rcases hkb with d0 | ⟨d0, d1⟩ | ⟨d0, d1, d2⟩
      all_goals
        go_wp2_with fail
        clear y0 y1
        refine wp_region_any (by kernel_rfl) ?_
        change wpAny _ _ _ _ _ _ _ (World.drew _)
        refine Orders.any (C := fun wz => Four w.heap.size kd nm k (.slice a L0.length c) wz ∧ Two g k (.slice a2 L.length c2) wz) _ _ _ _ ?_
        refine Orders.take (i := 0) (v := .pointer (some ⟨r, 0, none⟩)) rfl (by kernel_rfl) (by kernel_rfl) (by kernel_rfl) (fun _ _ _ h => h) (Or.inl ⟨by kernel_rfl, fun wz ⟨⟨y0, y1, y2, y3⟩, z0, z1⟩ => by go_simp⟩) ?_
        refine Orders.take (i := 1) (v := .pointer (some ⟨w.heap.size, 1, none⟩)) rfl (by kernel_rfl) (by kernel_rfl) (by kernel_rfl) (fun _ _ _ h => h) (Or.inl ⟨by kernel_rfl, fun wz ⟨⟨y0, y1, y2, y3⟩, z0, z1⟩ => by go_simp⟩) ?_
        refine Orders.take (i := 2) (v := .int .i64 nm) rfl (by kernel_rfl) (by kernel_rfl) (by kernel_rfl) (fun _ _ _ h => h) (Or.inl ⟨by kernel_rfl, fun wz ⟨⟨y0, y1, y2, y3⟩, z0, z1⟩ => by go_simp⟩) ?_
        refine Orders.take (i := 3) (v := .pointer (some ⟨g, 0, none⟩)) rfl (by kernel_rfl) (by kernel_rfl) (by kernel_rfl) (fun _ _ _ h => h) (Or.inl ⟨by kernel_rfl, fun wz ⟨⟨y0, y1, y2, y3⟩, z0, z1⟩ => by go_simp⟩) ?_
        refine Orders.take (i := 4) (v := .int .i64 k) rfl (by kernel_rfl) (by kernel_rfl) (by kernel_rfl) (fun _ _ _ h => h) (Or.inl ⟨by kernel_rfl, fun wz ⟨⟨y0, y1, y2, y3⟩, z0, z1⟩ => by go_simp⟩) ?_
        refine Orders.take (i := 5) (v := .pointer (some ⟨g, 1, none⟩)) rfl (by kernel_rfl) (by kernel_rfl) (by kernel_rfl) (fun _ _ _ h => h) (Or.inl ⟨by kernel_rfl, fun wz ⟨⟨y0, y1, y2, y3⟩, z0, z1⟩ => by go_simp⟩) ?_
        refine Orders.take (i := 6) (v := .slice a2 L.length c2) rfl (by kernel_rfl) (by kernel_rfl) (by kernel_rfl) (fun _ _ _ h => h) (Or.inl ⟨by kernel_rfl, fun wz ⟨⟨y0, y1, y2, y3⟩, z0, z1⟩ => by go_simp⟩) ?_
        refine Orders.take (i := 7) (v := .agg #[.int .i64 k, .slice a2 L.length c2]) rfl (by kernel_rfl) (by kernel_rfl) (by kernel_rfl) (fun _ _ _ h => h) (Or.inl ⟨by kernel_rfl, fun wz ⟨⟨y0, y1, y2, y3⟩, z0, z1⟩ => by go_simp⟩) ?_
        refine Orders.take (i := 9) (v := .pointer (some ⟨q, 0, none⟩)) rfl (by kernel_rfl) (by kernel_rfl) (by kernel_rfl) (fun _ _ _ h => h) (Or.inl ⟨by kernel_rfl, fun wz ⟨⟨y0, y1, y2, y3⟩, z0, z1⟩ => by go_simp⟩) ?_
        refine Orders.take (i := 10) (v := .pointer (some ⟨w.heap.size, 1, none⟩)) rfl (by kernel_rfl) (by kernel_rfl) (by kernel_rfl) (fun _ _ _ h => h) (Or.inl ⟨by kernel_rfl, fun wz ⟨⟨y0, y1, y2, y3⟩, z0, z1⟩ => by go_simp⟩) ?_
        refine Orders.take (i := 11) (v := .int .i64 nm) rfl (by kernel_rfl) (by kernel_rfl) (by kernel_rfl) (fun _ _ _ h => h) (Or.inl ⟨by kernel_rfl, fun wz ⟨⟨y0, y1, y2, y3⟩, z0, z1⟩ => by go_simp⟩) ?_
        refine Orders.take (i := 12) (v := .agg #[.int .i64 k, .slice a2 L.length c2]) rfl (by kernel_rfl) (by kernel_rfl) (by kernel_rfl) (fun _ _ _ h => h) (Or.inl ⟨by kernel_rfl, fun wz ⟨⟨y0, y1, y2, y3⟩, z0, z1⟩ => by go_simp⟩) ?_
        refine Orders.one (i := 8) (by kernel_rfl) ⟨HQ.out.box.to rfl, HQ.out.want.to rfl⟩ rfl (fun K hK => ?_)
        go_simp
        refine (show Calls _ _ _ w5.drew _ from Pair.set (HP5.out.below (Below.refl _ _).drew) HOK.out nm k hrl hql (HQ.out.txt.below (Below.refl _ _).drew) sL).mono ?_
        rintro e w6 ⟨⟨rfl, hk6⟩, hnext⟩
        have HK6 := Lib.hid (show KeepR r w5 w6 from (KeepR.of (Below.refl _ _).drew).trans hk6)
        have HNX := Lib.hid (hnext w6 (Below.refl _ _))
        clear hk6 hnext
        go_simp
        refine hK _ _ ?_
        clear hK K
        refine Orders.one (i := 13) (by kernel_rfl) (HCR.out w6 w6 HK6.out (Below.refl _ _)) rfl (fun K hK => ?_)
        go_simp
        refine HNX.out.mono ?_
        rintro e w7 ⟨⟨rfl, hk7⟩, hp7⟩
        have HK7 := Lib.hid hk7
        have HP7 := Lib.hid hp7
        clear hk7 hp7
        go_simp
        refine hK _ _ ?_
        clear hK K
        refine Orders.take (i := 14) (v := .bool true) rfl (by kernel_rfl) (by kernel_rfl) (by kernel_rfl) (fun _ _ _ h => h) (Or.inl ⟨by kernel_rfl, fun wz ⟨⟨y0, y1, y2, y3⟩, z0, z1⟩ => by go_simp⟩) ?_
        refine Orders.take (i := 15) (v := .bool true) rfl (by kernel_rfl) (by kernel_rfl) (by kernel_rfl) (fun _ _ _ h => h) (Or.inl ⟨by kernel_rfl, fun wz ⟨⟨y0, y1, y2, y3⟩, z0, z1⟩ => by go_simp⟩) ?_
        refine Orders.done (by kernel_rfl) (HCQ.out w6 w6 w7 HK6.out (Below.refl _ _) HK7.out) ?_
        go_wp2_with fail
        go_ret
        exact ⟨rfl, ⟨_, HOK2.out, HP7.out⟩, (HK5.out.trans (K2.ofR HK6.out)).trans (K2.ofQ HK7.out)⟩
    · by_cases hk3 : kd = 3
      · have HOK2 := Lib.hid (dropR_ok HOK.out nm)
        have d0 : (kd == 0) = false := by rw [hk3]; rfl
        have d1 : (kd == 1) = false := by rw [hk3]; rfl
        have d2 : (kd == 2) = false := by rw [hk3]; rfl
        have d3 : (kd == 3) = true := by rw [hk3]; rfl
        clear hkd hk3
        go_wp2_with fail
        clear y0 y1
        refine wp_region_any (by kernel_rfl) ?_
        change wpAny _ _ _ _ _ _ _ (World.drew _)
        refine Orders.any (C := fun wz => Four w.heap.size kd nm k (.slice a L0.length c) wz ∧ Two g k (.slice a2 L.length c2) wz) _ _ _ _ ?_
        refine Orders.take (i := 0) (v := .pointer (some ⟨r, 0, none⟩)) rfl (by kernel_rfl) (by kernel_rfl) (by kernel_rfl) (fun _ _ _ h => h) (Or.inl ⟨by kernel_rfl, fun wz ⟨⟨y0, y1, y2, y3⟩, z0, z1⟩ => by go_simp⟩) ?_
        refine Orders.take (i := 1) (v := .pointer (some ⟨w.heap.size, 1, none⟩)) rfl (by kernel_rfl) (by kernel_rfl) (by kernel_rfl) (fun _ _ _ h => h) (Or.inl ⟨by kernel_rfl, fun wz ⟨⟨y0, y1, y2, y3⟩, z0, z1⟩ => by go_simp⟩) ?_
        refine Orders.take (i := 2) (v := .int .i64 nm) rfl (by kernel_rfl) (by kernel_rfl) (by kernel_rfl) (fun _ _ _ h => h) (Or.inl ⟨by kernel_rfl, fun wz ⟨⟨y0, y1, y2, y3⟩, z0, z1⟩ => by go_simp⟩) ?_
        refine Orders.take (i := 4) (v := .pointer (some ⟨q, 0, none⟩)) rfl (by kernel_rfl) (by kernel_rfl) (by kernel_rfl) (fun _ _ _ h => h) (Or.inl ⟨by kernel_rfl, fun wz ⟨⟨y0, y1, y2, y3⟩, z0, z1⟩ => by go_simp⟩) ?_
        refine Orders.take (i := 5) (v := .pointer (some ⟨w.heap.size, 1, none⟩)) rfl (by kernel_rfl) (by kernel_rfl) (by kernel_rfl) (fun _ _ _ h => h) (Or.inl ⟨by kernel_rfl, fun wz ⟨⟨y0, y1, y2, y3⟩, z0, z1⟩ => by go_simp⟩) ?_
        refine Orders.take (i := 6) (v := .int .i64 nm) rfl (by kernel_rfl) (by kernel_rfl) (by kernel_rfl) (fun _ _ _ h => h) (Or.inl ⟨by kernel_rfl, fun wz ⟨⟨y0, y1, y2, y3⟩, z0, z1⟩ => by go_simp⟩) ?_
        refine Orders.one (i := 3) (by kernel_rfl) ⟨HQ.out.box.to rfl, HQ.out.want.to rfl⟩ rfl (fun K hK => ?_)
        go_simp
        refine (show Calls _ _ _ w5.drew _ from Pair.drop (HP5.out.below (Below.refl _ _).drew) nm).mono ?_
        rintro e w6 ⟨⟨rfl, hk6⟩, hnext⟩
        have HK6 := Lib.hid (show KeepR r w5 w6 from (KeepR.of (Below.refl _ _).drew).trans hk6)
        have HNX := Lib.hid (hnext w6 (Below.refl _ _))
        clear hk6 hnext
        go_simp
        refine hK _ _ ?_
        clear hK K
        refine Orders.one (i := 7) (by kernel_rfl) (HCR.out w6 w6 HK6.out (Below.refl _ _)) rfl (fun K hK => ?_)
        go_simp
        refine HNX.out.mono ?_
        rintro e w7 ⟨⟨rfl, hk7⟩, hp7⟩
        have HK7 := Lib.hid hk7
        have HP7 := Lib.hid hp7
        clear hk7 hp7
        go_simp
        refine hK _ _ ?_
        clear hK K
        refine Orders.take (i := 8) (v := .bool true) rfl (by kernel_rfl) (by kernel_rfl) (by kernel_rfl) (fun _ _ _ h => h) (Or.inl ⟨by kernel_rfl, fun wz ⟨⟨y0, y1, y2, y3⟩, z0, z1⟩ => by go_simp⟩) ?_
        refine Orders.take (i := 9) (v := .bool true) rfl (by kernel_rfl) (by kernel_rfl) (by kernel_rfl) (fun _ _ _ h => h) (Or.inl ⟨by kernel_rfl, fun wz ⟨⟨y0, y1, y2, y3⟩, z0, z1⟩ => by go_simp⟩) ?_
        refine Orders.done (by kernel_rfl) (HCQ.out w6 w6 w7 HK6.out (Below.refl _ _) HK7.out) ?_
        go_wp2_with fail
        go_ret
        exact ⟨rfl, ⟨_, HOK2.out, HP7.out⟩, (HK5.out.trans (K2.ofR HK6.out)).trans (K2.ofQ HK7.out)⟩
      · have d0 : (kd == 0) = false := by simp; omega
        have d1 : (kd == 1) = false := by simp; omega
        have d2 : (kd == 2) = false := by simp; omega
        have d3 : (kd == 3) = false := by simp; omega
        go_wp2_with fail
        go_ret
        exact ⟨rfl, ⟨_, HOK.out, HP5.out⟩, HK5.out⟩
  · go_simp
    refine hK _ _ ?_
    clear hK K
    have hba : Below (w.heap.size + 1) w1 ((w1.alloc (.cells #[.int .i64 0, .slice none 0 0] 24)).drew) := ((Below.refl _ _).alloc (by rw [HS1.out]; omega) _).drew
    refine Orders.one (i := 6) (by kernel_rfl) (HX1.out.below hba (by omega)) rfl (fun K hK => ?_)
    go_simp
    refine (HF.out _ hba).mono ?_
    rintro e w3 ⟨⟨a2, c2, L, rfl, hu2, sL⟩, hb3⟩
    have hs1 : ((w1.alloc (.cells #[.int .i64 0, .slice none 0 0] 24)).drew).heap.size = w1.heap.size + 1 := by show (w1.alloc (.cells #[.int .i64 0, .slice none 0 0] 24)).heap.size = w1.heap.size + 1; simp
    have hb3' : Below (w.heap.size + 1) w1 w3 := hba.trans (hb3.mono (by have := hba.size; rw [HS1.out] at this; exact this))
    have HX3 := Lib.hid (HX1.out.below hb3' (by omega))
    have hg3 : w3.heap[w1.heap.size]? = some (.cells #[.int .i64 0, .slice none 0 0] 24) := (hb3.block w1.heap.size (by rw [hs1]; omega)).trans (heap_new w1 (.cells #[.int .i64 0, .slice none 0 0] 24))
    have hu2 : TxtAt w3 (fun b => w1.heap.size + 1 ≤ b) (.slice a2 L.length c2) L := hu2.keep fun b hb _ => ⟨by rw [← hs1]; exact hb, rfl⟩
    go_simp
    refine hK _ _ ?_
    clear hK K
    refine Orders.take (i := 7) (v := .agg #[.int .i64 k, .slice a2 L.length c2]) rfl (by kernel_rfl) (by kernel_rfl) (by kernel_rfl) (fun _ _ _ h => h) (Or.inl ⟨by kernel_rfl, fun wz ⟨y0, y1, y2, y3⟩ => by go_simp⟩) ?_
    have f0 := (cell_row hg3 0).trans (show (#[Value.int .i64 0, .slice none 0 0] : Array Value)[0]? = some (.int .i64 0) from rfl)
    have f1 := (cell_row hg3 1).trans (show (#[Value.int .i64 0, .slice none 0 0] : Array Value)[1]? = some (.slice none 0 0) from rfl)
    have f2 := frozen_row hg3 0
    have f3 := frozen_row hg3 1
    refine Orders.one (i := 9) (by kernel_rfl) HX3.out rfl (fun K hK => ?_)
    go_simp
    refine hK _ _ ?_
    clear hK K f0 f1 f2 f3
    have hb4 := st_below (.int .i64 k) (.slice a2 L.length c2) hb3' (b := w1.heap.size) (by rw [HS1.out]; omega)
    have hg4 := st_same (.int .i64 k) (.slice a2 L.length c2) hg3
    have hu4 := hu2.keep (w' := (w3.setCell ⟨w1.heap.size, 0, none⟩ (.int .i64 k)).setCell ⟨w1.heap.size, 1, none⟩ (.slice a2 L.length c2)) (N' := fun b => w.heap.size ≤ b) fun b hb hl =>
      ⟨by rw [HS1.out] at hb; omega, st_other w3 (.int .i64 k) (.slice a2 L.length c2) (by omega)⟩
    refine Orders.done (by kernel_rfl) (HX1.out.below hb4 (by omega)) ?_
    have HQ := Lib.hid (show StPre w w1.heap.size kd nm k (.slice a L0.length c) (.slice a2 L.length c2) L ((w3.setCell ⟨w1.heap.size, 0, none⟩ (.int .i64 k)).setCell ⟨w1.heap.size, 1, none⟩ (.slice a2 L.length c2)) from
      ⟨HB1.out.trans (hb4.mono (by omega)), HX1.out.below hb4 (by omega), Two.of hg4, hu4, by rw [HS1.out]; omega⟩)
    clear hb3 hb3' hba hg3 hb4 hg4 hu2 hu4 HX3 HF HX1 HB1 HS1 hs1
    generalize (w3.setCell ⟨w1.heap.size, 0, none⟩ (.int .i64 k)).setCell ⟨w1.heap.size, 1, none⟩ (.slice a2 L.length c2) = w5 at *
    generalize w1.heap.size = g at *
    have HP5 := Lib.hid (HP.out.below HQ.out.bel)
    have y0 := HQ.out.box.c0
    have y1 := HQ.out.box.c1
    have hgs := HQ.out.sg
    have HCR := Lib.hid (show ∀ wz wy : World, KeepR r w5 wz → Below wz.heap.size wz wy → Four w.heap.size kd nm k (.slice a L0.length c) wy ∧ Two g k (.slice a2 L.length c2) wy from fun wz wy h1 h2 =>
      ⟨(HQ.out.box.to (h1.block _ HQ.out.box.lt (by omega))).below h2 (Nat.lt_of_lt_of_le HQ.out.box.lt h1.size), (HQ.out.want.to (h1.block _ HQ.out.want.lt (by omega))).below h2 (Nat.lt_of_lt_of_le HQ.out.want.lt h1.size)⟩)
    have HCQ := Lib.hid (show ∀ wz wy wx : World, KeepR r w5 wz → Below wz.heap.size wz wy → KeepR q wy wx → Four w.heap.size kd nm k (.slice a L0.length c) wx ∧ Two g k (.slice a2 L.length c2) wx from fun wz wy wx h1 h2 h3 =>
      ⟨(HCR.out wz wy h1 h2).1.to (h3.block _ (HCR.out wz wy h1 h2).1.lt (by omega)), (HCR.out wz wy h1 h2).2.to (h3.block _ (HCR.out wz wy h1 h2).2.lt (by omega))⟩)
    have HK5 := Lib.hid (show K2 r q w w5 from K2.of HQ.out.bel)
    by_cases hkd : kd = 0 ∨ kd = 1 ∨ kd = 2
    · have HSET := Lib.hid (HP5.out.set HOK.out nm k hrl hql HQ.out.txt sL)
      have HOK2 := Lib.hid (setR_ok HOK.out nm k sL)
      have hkb : ((kd == 0) = true) ∨ ((kd == 0) = false ∧ (kd == 1) = true) ∨ ((kd == 0) = false ∧ (kd == 1) = false ∧ (kd == 2) = true) := by
        rcases hkd with rfl | rfl | rfl
        · exact .inl rfl
        · exact .inr (.inl ⟨rfl, rfl⟩)
        · exact .inr (.inr ⟨rfl, rfl, rfl⟩)
      clear hkd
      rcases hkb with d0 | ⟨d0, d1⟩ | ⟨d0, d1, d2⟩
      all_goals
        go_wp2_with fail
        clear y0 y1
        refine wp_region_any (by kernel_rfl) ?_
        change wpAny _ _ _ _ _ _ _ (World.drew _)
        refine Orders.any (C := fun wz => Four w.heap.size kd nm k (.slice a L0.length c) wz ∧ Two g k (.slice a2 L.length c2) wz) _ _ _ _ ?_
        refine Orders.take (i := 0) (v := .pointer (some ⟨r, 0, none⟩)) rfl (by kernel_rfl) (by kernel_rfl) (by kernel_rfl) (fun _ _ _ h => h) (Or.inl ⟨by kernel_rfl, fun wz ⟨⟨y0, y1, y2, y3⟩, z0, z1⟩ => by go_simp⟩) ?_
        refine Orders.take (i := 1) (v := .pointer (some ⟨w.heap.size, 1, none⟩)) rfl (by kernel_rfl) (by kernel_rfl) (by kernel_rfl) (fun _ _ _ h => h) (Or.inl ⟨by kernel_rfl, fun wz ⟨⟨y0, y1, y2, y3⟩, z0, z1⟩ => by go_simp⟩) ?_
        refine Orders.take (i := 2) (v := .int .i64 nm) rfl (by kernel_rfl) (by kernel_rfl) (by kernel_rfl) (fun _ _ _ h => h) (Or.inl ⟨by kernel_rfl, fun wz ⟨⟨y0, y1, y2, y3⟩, z0, z1⟩ => by go_simp⟩) ?_
        refine Orders.take (i := 3) (v := .pointer (some ⟨g, 0, none⟩)) rfl (by kernel_rfl) (by kernel_rfl) (by kernel_rfl) (fun _ _ _ h => h) (Or.inl ⟨by kernel_rfl, fun wz ⟨⟨y0, y1, y2, y3⟩, z0, z1⟩ => by go_simp⟩) ?_
        refine Orders.take (i := 4) (v := .int .i64 k) rfl (by kernel_rfl) (by kernel_rfl) (by kernel_rfl) (fun _ _ _ h => h) (Or.inl ⟨by kernel_rfl, fun wz ⟨⟨y0, y1, y2, y3⟩, z0, z1⟩ => by go_simp⟩) ?_
        refine Orders.take (i := 5) (v := .pointer (some ⟨g, 1, none⟩)) rfl (by kernel_rfl) (by kernel_rfl) (by kernel_rfl) (fun _ _ _ h => h) (Or.inl ⟨by kernel_rfl, fun wz ⟨⟨y0, y1, y2, y3⟩, z0, z1⟩ => by go_simp⟩) ?_
        refine Orders.take (i := 6) (v := .slice a2 L.length c2) rfl (by kernel_rfl) (by kernel_rfl) (by kernel_rfl) (fun _ _ _ h => h) (Or.inl ⟨by kernel_rfl, fun wz ⟨⟨y0, y1, y2, y3⟩, z0, z1⟩ => by go_simp⟩) ?_
        refine Orders.take (i := 7) (v := .agg #[.int .i64 k, .slice a2 L.length c2]) rfl (by kernel_rfl) (by kernel_rfl) (by kernel_rfl) (fun _ _ _ h => h) (Or.inl ⟨by kernel_rfl, fun wz ⟨⟨y0, y1, y2, y3⟩, z0, z1⟩ => by go_simp⟩) ?_
        refine Orders.take (i := 9) (v := .pointer (some ⟨q, 0, none⟩)) rfl (by kernel_rfl) (by kernel_rfl) (by kernel_rfl) (fun _ _ _ h => h) (Or.inl ⟨by kernel_rfl, fun wz ⟨⟨y0, y1, y2, y3⟩, z0, z1⟩ => by go_simp⟩) ?_
        refine Orders.take (i := 10) (v := .pointer (some ⟨w.heap.size, 1, none⟩)) rfl (by kernel_rfl) (by kernel_rfl) (by kernel_rfl) (fun _ _ _ h => h) (Or.inl ⟨by kernel_rfl, fun wz ⟨⟨y0, y1, y2, y3⟩, z0, z1⟩ => by go_simp⟩) ?_
        refine Orders.take (i := 11) (v := .int .i64 nm) rfl (by kernel_rfl) (by kernel_rfl) (by kernel_rfl) (fun _ _ _ h => h) (Or.inl ⟨by kernel_rfl, fun wz ⟨⟨y0, y1, y2, y3⟩, z0, z1⟩ => by go_simp⟩) ?_
        refine Orders.take (i := 12) (v := .agg #[.int .i64 k, .slice a2 L.length c2]) rfl (by kernel_rfl) (by kernel_rfl) (by kernel_rfl) (fun _ _ _ h => h) (Or.inl ⟨by kernel_rfl, fun wz ⟨⟨y0, y1, y2, y3⟩, z0, z1⟩ => by go_simp⟩) ?_
        refine Orders.one (i := 8) (by kernel_rfl) ⟨HQ.out.box.to rfl, HQ.out.want.to rfl⟩ rfl (fun K hK => ?_)
        go_simp
        refine (show Calls _ _ _ w5.drew _ from Pair.set (HP5.out.below (Below.refl _ _).drew) HOK.out nm k hrl hql (HQ.out.txt.below (Below.refl _ _).drew) sL).mono ?_
        rintro e w6 ⟨⟨rfl, hk6⟩, hnext⟩
        have HK6 := Lib.hid (show KeepR r w5 w6 from (KeepR.of (Below.refl _ _).drew).trans hk6)
        have HNX := Lib.hid (hnext w6 (Below.refl _ _))
        clear hk6 hnext
        go_simp
        refine hK _ _ ?_
        clear hK K
        refine Orders.one (i := 13) (by kernel_rfl) (HCR.out w6 w6 HK6.out (Below.refl _ _)) rfl (fun K hK => ?_)
        go_simp
        refine HNX.out.mono ?_
        rintro e w7 ⟨⟨rfl, hk7⟩, hp7⟩
        have HK7 := Lib.hid hk7
        have HP7 := Lib.hid hp7
        clear hk7 hp7
        go_simp
        refine hK _ _ ?_
        clear hK K
        refine Orders.take (i := 14) (v := .bool true) rfl (by kernel_rfl) (by kernel_rfl) (by kernel_rfl) (fun _ _ _ h => h) (Or.inl ⟨by kernel_rfl, fun wz ⟨⟨y0, y1, y2, y3⟩, z0, z1⟩ => by go_simp⟩) ?_
        refine Orders.take (i := 15) (v := .bool true) rfl (by kernel_rfl) (by kernel_rfl) (by kernel_rfl) (fun _ _ _ h => h) (Or.inl ⟨by kernel_rfl, fun wz ⟨⟨y0, y1, y2, y3⟩, z0, z1⟩ => by go_simp⟩) ?_
        refine Orders.done (by kernel_rfl) (HCQ.out w6 w6 w7 HK6.out (Below.refl _ _) HK7.out) ?_
        go_wp2_with fail
        go_ret
        exact ⟨rfl, ⟨_, HOK2.out, HP7.out⟩, (HK5.out.trans (K2.ofR HK6.out)).trans (K2.ofQ HK7.out)⟩
    · by_cases hk3 : kd = 3
      · have HOK2 := Lib.hid (dropR_ok HOK.out nm)
        have d0 : (kd == 0) = false := by rw [hk3]; rfl
        have d1 : (kd == 1) = false := by rw [hk3]; rfl
        have d2 : (kd == 2) = false := by rw [hk3]; rfl
        have d3 : (kd == 3) = true := by rw [hk3]; rfl
        clear hkd hk3
        go_wp2_with fail
        clear y0 y1
        refine wp_region_any (by kernel_rfl) ?_
        change wpAny _ _ _ _ _ _ _ (World.drew _)
        refine Orders.any (C := fun wz => Four w.heap.size kd nm k (.slice a L0.length c) wz ∧ Two g k (.slice a2 L.length c2) wz) _ _ _ _ ?_
        refine Orders.take (i := 0) (v := .pointer (some ⟨r, 0, none⟩)) rfl (by kernel_rfl) (by kernel_rfl) (by kernel_rfl) (fun _ _ _ h => h) (Or.inl ⟨by kernel_rfl, fun wz ⟨⟨y0, y1, y2, y3⟩, z0, z1⟩ => by go_simp⟩) ?_
        refine Orders.take (i := 1) (v := .pointer (some ⟨w.heap.size, 1, none⟩)) rfl (by kernel_rfl) (by kernel_rfl) (by kernel_rfl) (fun _ _ _ h => h) (Or.inl ⟨by kernel_rfl, fun wz ⟨⟨y0, y1, y2, y3⟩, z0, z1⟩ => by go_simp⟩) ?_
        refine Orders.take (i := 2) (v := .int .i64 nm) rfl (by kernel_rfl) (by kernel_rfl) (by kernel_rfl) (fun _ _ _ h => h) (Or.inl ⟨by kernel_rfl, fun wz ⟨⟨y0, y1, y2, y3⟩, z0, z1⟩ => by go_simp⟩) ?_
        refine Orders.take (i := 4) (v := .pointer (some ⟨q, 0, none⟩)) rfl (by kernel_rfl) (by kernel_rfl) (by kernel_rfl) (fun _ _ _ h => h) (Or.inl ⟨by kernel_rfl, fun wz ⟨⟨y0, y1, y2, y3⟩, z0, z1⟩ => by go_simp⟩) ?_
        refine Orders.take (i := 5) (v := .pointer (some ⟨w.heap.size, 1, none⟩)) rfl (by kernel_rfl) (by kernel_rfl) (by kernel_rfl) (fun _ _ _ h => h) (Or.inl ⟨by kernel_rfl, fun wz ⟨⟨y0, y1, y2, y3⟩, z0, z1⟩ => by go_simp⟩) ?_
        refine Orders.take (i := 6) (v := .int .i64 nm) rfl (by kernel_rfl) (by kernel_rfl) (by kernel_rfl) (fun _ _ _ h => h) (Or.inl ⟨by kernel_rfl, fun wz ⟨⟨y0, y1, y2, y3⟩, z0, z1⟩ => by go_simp⟩) ?_
        refine Orders.one (i := 3) (by kernel_rfl) ⟨HQ.out.box.to rfl, HQ.out.want.to rfl⟩ rfl (fun K hK => ?_)
        go_simp
        refine (show Calls _ _ _ w5.drew _ from Pair.drop (HP5.out.below (Below.refl _ _).drew) nm).mono ?_
        rintro e w6 ⟨⟨rfl, hk6⟩, hnext⟩
        have HK6 := Lib.hid (show KeepR r w5 w6 from (KeepR.of (Below.refl _ _).drew).trans hk6)
        have HNX := Lib.hid (hnext w6 (Below.refl _ _))
        clear hk6 hnext
        go_simp
        refine hK _ _ ?_
        clear hK K
        refine Orders.one (i := 7) (by kernel_rfl) (HCR.out w6 w6 HK6.out (Below.refl _ _)) rfl (fun K hK => ?_)
        go_simp
        refine HNX.out.mono ?_
        rintro e w7 ⟨⟨rfl, hk7⟩, hp7⟩
        have HK7 := Lib.hid hk7
        have HP7 := Lib.hid hp7
        clear hk7 hp7
        go_simp
        refine hK _ _ ?_
        clear hK K
        refine Orders.take (i := 8) (v := .bool true) rfl (by kernel_rfl) (by kernel_rfl) (by kernel_rfl) (fun _ _ _ h => h) (Or.inl ⟨by kernel_rfl, fun wz ⟨⟨y0, y1, y2, y3⟩, z0, z1⟩ => by go_simp⟩) ?_
        refine Orders.take (i := 9) (v := .bool true) rfl (by kernel_rfl) (by kernel_rfl) (by kernel_rfl) (fun _ _ _ h => h) (Or.inl ⟨by kernel_rfl, fun wz ⟨⟨y0, y1, y2, y3⟩, z0, z1⟩ => by go_simp⟩) ?_
        refine Orders.done (by kernel_rfl) (HCQ.out w6 w6 w7 HK6.out (Below.refl _ _) HK7.out) ?_
        go_wp2_with fail
        go_ret
        exact ⟨rfl, ⟨_, HOK2.out, HP7.out⟩, (HK5.out.trans (K2.ofR HK6.out)).trans (K2.ofQ HK7.out)⟩
      · have d0 : (kd == 0) = false := by simp; omega
        have d1 : (kd == 1) = false := by simp; omega
        have d2 : (kd == 2) = false := by simp; omega
        have d3 : (kd == 3) = false := by simp; omega
        go_wp2_with fail
        go_ret
        exact ⟨rfl, ⟨_, HOK.out, HP5.out⟩, HK5.out⟩
end Go.Proofs.Ythalpbbjcagnnaa
