/- Whatever is set, and dropped, registers have what the document's have: the law's walk. -/
import Derived.Test.YthalpbbjcagnnaaOpenP
set_option linter.unusedSimpArgs false
set_option linter.unusedVariables false
namespace Go.Proofs.Ythalpbbjcagnnaa
open Go.RowKit
theorem refNew (w : World) (N : Nat → Prop) (hN : N w.heap.size) : RefIn (w.alloc (.cells #[.int .i64 0, .slice none 0 0, .int .i64 0, .slice none 0 0, .int .i64 0, .slice none 0 0, .int .i64 0, .slice none 0 0, .int .i64 0, .slice none 0 0, .int .i64 0, .slice none 0 0, .int .i64 0, .slice none 0 0, .int .i64 0, .slice none 0 0, .int .i64 0, .slice none 0 0, .int .i64 0, .slice none 0 0, .int .i64 0, .slice none 0 0, .int .i64 0, .slice none 0 0, .int .i64 0, .slice none 0 0, .int .i64 0, .slice none 0 0, .int .i64 0, .slice none 0 0, .int .i64 0, .slice none 0 0, .int .i64 0, .slice none 0 0, .int .i64 0, .slice none 0 0, .int .i64 0, .slice none 0 0, .int .i64 0, .slice none 0 0, .int .i64 0, .slice none 0 0, .int .i64 0, .slice none 0 0, .int .i64 0, .slice none 0 0, .int .i64 0, .slice none 0 0, .int .i64 0, .slice none 0 0, .int .i64 0, .slice none 0 0, .int .i64 0, .slice none 0 0] 44)) N w.heap.size zeroRegs := by
  refine ⟨⟨_, heap_new _ _, rfl, fun i hi => ⟨.slice none 0 0, ?_, ?_, txt_nil _ _⟩⟩, hN⟩
  · match i, hi with
    | 0, _ => rfl
    | 1, _ => rfl
    | 2, _ => rfl
    | 3, _ => rfl
    | 4, _ => rfl
    | 5, _ => rfl
    | 6, _ => rfl
    | 7, _ => rfl
    | 8, _ => rfl
    | 9, _ => rfl
    | 10, _ => rfl
    | 11, _ => rfl
    | 12, _ => rfl
    | 13, _ => rfl
    | 14, _ => rfl
    | 15, _ => rfl
    | 16, _ => rfl
    | 17, _ => rfl
    | 18, _ => rfl
    | 19, _ => rfl
    | 20, _ => rfl
    | 21, _ => rfl
    | 22, _ => rfl
    | 23, _ => rfl
    | 24, _ => rfl
    | 25, _ => rfl
    | 26, _ => rfl
    | n + 27, h => exact absurd h (by omega)
  · match i, hi with
    | 0, _ => rfl
    | 1, _ => rfl
    | 2, _ => rfl
    | 3, _ => rfl
    | 4, _ => rfl
    | 5, _ => rfl
    | 6, _ => rfl
    | 7, _ => rfl
    | 8, _ => rfl
    | 9, _ => rfl
    | 10, _ => rfl
    | 11, _ => rfl
    | 12, _ => rfl
    | 13, _ => rfl
    | 14, _ => rfl
    | 15, _ => rfl
    | 16, _ => rfl
    | 17, _ => rfl
    | 18, _ => rfl
    | 19, _ => rfl
    | 20, _ => rfl
    | 21, _ => rfl
    | 22, _ => rfl
    | 23, _ => rfl
    | 24, _ => rfl
    | 25, _ => rfl
    | 26, _ => rfl
    | n + 27, h => exact absurd h (by omega)
def PlRel (w : World) (r q n : Nat) (iv : Value) (wr : World) : Prop := ∃ (j : Nat) (R : RegsT), iv = .int .i64 j ∧ j ≤ n ∧ Pair wr r q R ∧ RegsOk R ∧ Below w.heap.size w wr
set_option maxRecDepth 100000 in
set_option maxHeartbeats 4000000 in
theorem regsPlay_walk (x : Value) (ops : List OpR) (w : World) (hx : OpsB w x ops) : Calls Try.prog 4 #[x] w fun e w' => e = .returned (.bool true) ∧ Below w.heap.size w w' := by
  have HX := Lib.hid hx
  obtain ⟨a, c, rfl, hc, hlc, -⟩ := hx
  obtain ⟨n, hn⟩ : ∃ n, ops.length = n := ⟨_, rfl⟩
  rw [hn] at hlc HX ⊢
  have HN := Lib.hid hn
  clear hn
  unfold maxLen at hc
  go_enter Try.func4, Try.ntmps4
  go_wp2_with fail
  refine (New_calls _).mono ?_
  rintro e w1 ⟨⟨rfl, hr1⟩, hb1⟩
  have hb2 : Below w1.heap.size w1 (w1.alloc (.cells #[.int .i64 0, .slice none 0 0, .int .i64 0, .slice none 0 0, .int .i64 0, .slice none 0 0, .int .i64 0, .slice none 0 0, .int .i64 0, .slice none 0 0, .int .i64 0, .slice none 0 0, .int .i64 0, .slice none 0 0, .int .i64 0, .slice none 0 0, .int .i64 0, .slice none 0 0, .int .i64 0, .slice none 0 0, .int .i64 0, .slice none 0 0, .int .i64 0, .slice none 0 0, .int .i64 0, .slice none 0 0, .int .i64 0, .slice none 0 0, .int .i64 0, .slice none 0 0, .int .i64 0, .slice none 0 0, .int .i64 0, .slice none 0 0, .int .i64 0, .slice none 0 0, .int .i64 0, .slice none 0 0, .int .i64 0, .slice none 0 0, .int .i64 0, .slice none 0 0, .int .i64 0, .slice none 0 0, .int .i64 0, .slice none 0 0, .int .i64 0, .slice none 0 0, .int .i64 0, .slice none 0 0, .int .i64 0, .slice none 0 0, .int .i64 0, .slice none 0 0] 44)) := (Below.refl _ _).alloc (Nat.le_refl _) _
  have hs1 := hb1.size
  have hr1l : w.heap.size < w1.heap.size := by obtain ⟨⟨cs, h1, _⟩, _⟩ := hr1; exact lt_of_heap h1
  have HP0 := Lib.hid (show Pair (w1.alloc (.cells #[.int .i64 0, .slice none 0 0, .int .i64 0, .slice none 0 0, .int .i64 0, .slice none 0 0, .int .i64 0, .slice none 0 0, .int .i64 0, .slice none 0 0, .int .i64 0, .slice none 0 0, .int .i64 0, .slice none 0 0, .int .i64 0, .slice none 0 0, .int .i64 0, .slice none 0 0, .int .i64 0, .slice none 0 0, .int .i64 0, .slice none 0 0, .int .i64 0, .slice none 0 0, .int .i64 0, .slice none 0 0, .int .i64 0, .slice none 0 0, .int .i64 0, .slice none 0 0, .int .i64 0, .slice none 0 0, .int .i64 0, .slice none 0 0, .int .i64 0, .slice none 0 0, .int .i64 0, .slice none 0 0, .int .i64 0, .slice none 0 0, .int .i64 0, .slice none 0 0, .int .i64 0, .slice none 0 0, .int .i64 0, .slice none 0 0, .int .i64 0, .slice none 0 0, .int .i64 0, .slice none 0 0, .int .i64 0, .slice none 0 0, .int .i64 0, .slice none 0 0] 44)) w.heap.size w1.heap.size zeroRegs from
    ⟨(hr1.keep (N' := fun b => b ≠ w1.heap.size) fun b hb hl => ⟨by omega, rfl⟩).below hb2, refNew w1 _ (by show w1.heap.size ≠ w.heap.size; omega)⟩)
  have HB0 := Lib.hid (hb1.trans (hb2.mono hs1))
  clear hr1 hb1 hb2
  go_wp2_with fail
  generalize w1.alloc (.cells #[.int .i64 0, .slice none 0 0, .int .i64 0, .slice none 0 0, .int .i64 0, .slice none 0 0, .int .i64 0, .slice none 0 0, .int .i64 0, .slice none 0 0, .int .i64 0, .slice none 0 0, .int .i64 0, .slice none 0 0, .int .i64 0, .slice none 0 0, .int .i64 0, .slice none 0 0, .int .i64 0, .slice none 0 0, .int .i64 0, .slice none 0 0, .int .i64 0, .slice none 0 0, .int .i64 0, .slice none 0 0, .int .i64 0, .slice none 0 0, .int .i64 0, .slice none 0 0, .int .i64 0, .slice none 0 0, .int .i64 0, .slice none 0 0, .int .i64 0, .slice none 0 0, .int .i64 0, .slice none 0 0, .int .i64 0, .slice none 0 0, .int .i64 0, .slice none 0 0, .int .i64 0, .slice none 0 0, .int .i64 0, .slice none 0 0, .int .i64 0, .slice none 0 0, .int .i64 0, .slice none 0 0, .int .i64 0, .slice none 0 0, .int .i64 0, .slice none 0 0] 44) = w2 at *
  generalize w1.heap.size = q at *
  have H0 := Lib.hid (show PlRel w w.heap.size q n (.int .i64 0) w2 from ⟨0, zeroRegs, rfl, Nat.zero_le _, HP0.out, zeroRegs_ok, HB0.out⟩)
  go_loopw [12] (fun i wr => PlRel w w.heap.size q n i wr) (fun i _ => n - (intOf i).toNat)
  case atStart => exact H0.out
  case round =>
    obtain ⟨j, R, rfl, hj, hp, hok, hbel⟩ := hrel
    have HP := Lib.hid hp
    have HOK := Lib.hid hok
    have HB := Lib.hid hbel
    clear hp hok
    by_cases hjn : j < n
    · obtain ⟨a', c', e, -, -, hop⟩ := HX.out
      obtain ⟨b, off, e2, hop2⟩ := hop j (by rw [HN.out]; exact hjn)
      clear hop
      obtain ⟨rfl, -⟩ : a = a' ∧ c = c' := by simp at e; exact ⟨e.1, e.2.2⟩
      subst e2
      have HO := Lib.hid hop2
      have hblt : b < w.heap.size := World.block_lt_of_cell? _ _ HO.out.c0
      have hcb : ∀ x, wr.cell? ⟨b, x, none⟩ = w.cell? ⟨b, x, none⟩ := fun x => hbel.cell (p := ⟨b, x, none⟩) hblt
      have c0 := (hcb _).trans HO.out.c0
      have c1 := (hcb _).trans HO.out.c1
      have c2 := (hcb _).trans HO.out.c2
      obtain ⟨y, c3, hy⟩ := HO.out.c3
      have c3 := (hcb _).trans c3
      have hy2 := hy.keep (w' := wr) (N' := fun _ => True) fun k hk hl => ⟨trivial, hbel.block k hl⟩
      clear hop2 e hcb HO hbel hblt hy
      generalize ops.getD j default = o at *
      obtain ⟨ya, m, yc, rfl⟩ : ∃ a m c, y = .slice a m c := by obtain ⟨a, c, e, -⟩ := hy2; exact ⟨_, _, _, e⟩
      have hba : Below wr.heap.size wr (wr.alloc (.cells #[.int .i64 o.kind, .int .i64 o.name, .int .i64 o.k, .slice ya m yc] 46)) := (Below.refl _ _).alloc (Nat.le_refl _) _
      have HPA := Lib.hid (HP.out.below hba)
      have HBA := Lib.hid (HB.out.trans (hba.mono HB.out.size))
      have HS := Lib.hid (step_calls _ _ q R o.kind o.name o.k _ o.l _ HPA.out HOK.out (hy2.below hba))
      have HF := Lib.hid (Four.of (heap_new wr (.cells #[.int .i64 o.kind, .int .i64 o.name, .int .i64 o.k, .slice ya m yc] 46)))
      have hrp := HP.out.ltr
      have hqp := HP.out.ltq
      clear hy2 hba
      by_cases hj20 : 20 ≤ j
      · go_wp2_with fail
        refine (awake_calls _).mono ?_
        rintro e w3 ⟨rfl, hb3⟩
        go_wp2_with fail
        go_ret
        exact ⟨rfl, HBA.out.trans (hb3.mono HBA.out.size)⟩
      · go_wp2_with fail
        clear c0 c1 c2 c3
        generalize wr.alloc (.cells #[.int .i64 o.kind, .int .i64 o.name, .int .i64 o.k, .slice ya m yc] 46) = wa at *
        generalize wr.heap.size = P at *
        refine HS.out.mono ?_
        rintro e w3 ⟨rfl, ⟨R3, hok3, hp3⟩, hk3⟩
        have HF3 := Lib.hid (HF.out.to (hk3.block _ HF.out.lt (by omega) (by omega)))
        have HOK3 := Lib.hid hok3
        have HP3 := Lib.hid hp3
        have HB3 := Lib.hid (HBA.out.trans (hk3.toBelow (Nat.le_refl _) (by omega) HBA.out.size))
        have y1 := HF3.out.c1
        have HLK := Lib.hid (like_calls w3 _ q R3 o.name HP3.out HOK3.out)
        clear hp3 hok3 hk3 HS HF
        go_wp2_with fail
        refine HLK.out.mono ?_
        rintro e w4 ⟨rfl, hb4⟩
        have HB4 := Lib.hid (HB3.out.trans (hb4.mono HB3.out.size))
        have HP4 := Lib.hid (HP3.out.below hb4)
        clear hb4 y1
        go_wp2_with fail
        go_roundw
        · exact ⟨j + 1, R3, by go_num, by omega, HP4.out, HOK3.out, HB4.out⟩
        · simp [intOf]; omega
    · obtain rfl : j = n := by omega
      clear hbel
      go_wp2_with fail
      refine (awake_calls _).mono ?_
      rintro e w3 ⟨rfl, hb3⟩
      go_wp2_with fail
      go_ret
      exact ⟨rfl, HB.out.trans (hb3.mono HB.out.size)⟩
end Go.Proofs.Ythalpbbjcagnnaa
