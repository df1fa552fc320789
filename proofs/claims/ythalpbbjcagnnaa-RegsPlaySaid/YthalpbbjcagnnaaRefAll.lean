/- Walk: the document's All. -/
import Derived.Test.YthalpbbjcagnnaaRefGet
import Derived.Deep.MidRow
import Derived.Deep.Cut
set_option linter.unusedSimpArgs false
set_option linter.unusedVariables false
namespace Go.Proofs.Ythalpbbjcagnnaa
open Go.RowKit
/-- The cells of the letters. -/
theorem RefIn.range {w : World} {N : Nat → Prop} {r : Nat} {R : RegsT} (h : RefIn w N r R) : ∃ cs : List Value, cs.length = 52 ∧ w.rangeAt r 0 cs ∧ ∀ j, j < 26 → ∃ a c, cs.toArray.extract (j * 2) (j * 2 + 2) = #[.int .i64 (R j).1, .slice a (R j).2.length c] ∧ TxtAt w (fun b => N b ∧ b ≠ r) (.slice a (R j).2.length c) (R j).2 := by
  obtain ⟨⟨cs, h1, h2, h3⟩, hn⟩ := h
  refine ⟨cs.toList.take 52, by simp [h2], fun j v hj => ?_, fun j hj => ?_⟩
  · rw [List.getElem?_take] at hj
    split at hj
    · rw [Nat.zero_add]
      exact (cell_row h1 j).trans (by simpa using hj)
    · cases hj
  · obtain ⟨v, e1, e2, ht⟩ := h3 j (by omega)
    have ht' := ht
    obtain ⟨a, c, rfl, -⟩ := ht'
    refine ⟨a, c, ?_, ht⟩
    apply Array.ext_getElem?
    intro i
    rw [Array.getElem?_extract]
    have hs : (cs.toList.take 52).toArray.size = 52 := by simp [h2]
    rw [hs]
    match i with
    | 0 => rw [if_pos (by omega)]; simp only [List.getElem?_toArray]; rw [List.getElem?_take, if_pos (by omega)]; simpa using e1
    | 1 => rw [if_pos (by omega)]; simp only [List.getElem?_toArray]; rw [List.getElem?_take, if_pos (by omega)]; simpa using e2
    | i + 2 => rw [if_neg (by omega)]; simp
theorem info24 : (Try.prog.info? 24).map (·.size) = some 2 := by kernel_rfl
theorem run_letter (w : World) (cs : Array Value) (j : Nat) (hj : j < 26) : (Instr.index 42 (.agg cs) (.int .i64 j)).run Try.prog w = .ok (.agg (cs.extract (j * 2) (j * 2 + 2))) w := by
  have hj' : (j : Int) < 26 := by omega
  cases hq : Try.prog.info? 24 with
  | none => have := info24; simp [hq] at this
  | some i =>
    have hs : i.size = 2 := by have := info24; simpa [hq] using this
    have hagg : (isAgg 24).run Try.prog w = .ok true w := by
      unfold isAgg
      rw [Sem.run_bind, run_underlying Try.underlying24 w]
      rfl
    simp [Instr.index, asIntOf, run_underlying Try.underlying42, part, hagg, sizeOf, typeInfo, hq, hs, hj', go_sem]
    intro h
    omega
set_option maxRecDepth 100000 in
set_option maxHeartbeats 1000000 in
theorem refAll_calls (w : World) (N : Nat → Prop) (r : Nat) (R : RegsT) (h : RefIn w N r R) (hR : ∀ i, i < 26 → sizeL (R i).2 ≤ 10000) :
    Calls Try.prog 32 #[.pointer (some ⟨r, 0, none⟩)] w fun e w' => e = .returned (.int .i64 (allSize R 26)) ∧ Below w.heap.size w w' := by
  obtain ⟨cs, hl, hrng, hcs⟩ := h.range
  have HCS := Lib.hid hcs
  have HR := Lib.hid hR
  have HS := Lib.hid (allSize_le R hR)
  have H0 := Lib.hid (show AllRel w R (.int .i64 0) (.int .i64 0) w from ⟨0, rfl, Nat.zero_le _, rfl, Below.refl _ _⟩)
  have HRNG := Lib.hid hrng
  have HL := Lib.hid (show (Try.prog.info? 42).map (·.size) = some cs.length by rw [hl]; kernel_rfl)
  clear h hR hrng hcs hl
  go_enter Try.func32, Try.ntmps32
  go_upto_region 2 with fail
  iterate 10 go_step
  refine wpList_load_mid rfl 42 (.tmp 8) rfl r 0 rfl cs _ HRNG.out Try.underlying42 rfl HL.out ?_
  go_wp2_with fail
  go_loopw [3, 10] (fun s i wr => AllRel w R s i wr) (fun _ i _ => 26 - (intOf i).toNat)
  case atStart => exact H0.out
  case round =>
    obtain ⟨j, rfl, hj, rfl, hbel⟩ := hrel
    have HB := Lib.hid hbel
    by_cases hjn : j < 26
    · obtain ⟨a, c, hex, ht⟩ := HCS.out j hjn
      have HTB := Lib.hid (fun wz (hb : Below w.heap.size w wz) => SizeR_calls wz _ (R j).1 _ (R j).2 (by have := HR.out j hjn; omega) (ht.below hb))
      have hs := HS.out j hj
      have hs2 := HR.out j hjn
      have HE := Lib.hid (show allSize R (j + 1) = allSize R j + sizeL (R j).2 from rfl)
      have HBA := Lib.hid (show Below w.heap.size w (wr.alloc (.cells #[.int .i64 (R j).1, .slice a (R j).2.length c] 24)) from hbel.alloc hbel.size _)
      have HBB := Lib.hid (show Below w.heap.size w ((wr.alloc (.cells #[.int .i64 (R j).1, .slice a (R j).2.length c] 24)).alloc (.cells #[.int .i64 (R j).1, .slice a (R j).2.length c] 24)) from HBA.out.alloc HBA.out.size _)
      have hix : ∀ wz, (Instr.index 42 (.agg cs.toArray) (.int .i64 j)).run Try.prog wz = .ok (.agg #[.int .i64 (R j).1, .slice a (R j).2.length c]) wz := fun wz => by rw [run_letter wz _ j hjn, hex]
      clear hex
      generalize allSize R j = s at *
      generalize sizeL (R j).2 = q at *
      generalize (R j).1 = kk at *
      generalize (R j).2.length = m at *
      have HC := Lib.hid (HTB.out _ HBA.out)
      clear hbel ht HTB
      go_wp2_with (go_at_call 22; refine HC.out.mono ?_; rintro e w2 ⟨rfl, rfl⟩)
      go_roundw
      · exact ⟨j + 1, by go_num, by omega, by rw [HE.out]; go_num, HBB.out⟩
      · simp [intOf]; omega
    · obtain rfl : j = 26 := by omega
      clear hbel
      go_wp2_with fail
      go_ret
      exact ⟨rfl, HB.out⟩
end Go.Proofs.Ythalpbbjcagnnaa
