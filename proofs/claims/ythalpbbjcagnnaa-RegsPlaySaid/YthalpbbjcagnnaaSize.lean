/- Walks: how much a register is: regs.Size and the document's Size. (Written by gen_size.py.) -/
import Derived.Test.YthalpbbjcagnnaaJoined
set_option linter.unusedSimpArgs false
set_option linter.unusedVariables false
namespace Go.Proofs.Ythalpbbjcagnnaa
open Go.RowKit
def sizeR (l : List ByteArray) : Nat := l.length + bytesR l
def sizeL (L : Txt) : Nat := (L.map sizeR).sum
theorem sizeL_snoc (L : Txt) (l : List ByteArray) : sizeL (L ++ [l]) = sizeL L + sizeR l := by simp [sizeL]
theorem sizeL_take (L : Txt) (j : Nat) (h : j < L.length) : sizeL (L.take (j + 1)) = sizeL (L.take j) + sizeR (L.getD j []) := by rw [takeD' L [] j h, sizeL_snoc]
theorem sizeL_le (L : Txt) (j : Nat) : sizeL (L.take j) ≤ sizeL L := by
  have : sizeL L = sizeL (L.take j) + sizeL (L.drop j) := by unfold sizeL; rw [← List.sum_append, ← List.map_append, List.take_append_drop]
  omega
theorem bytesR_le (l : List ByteArray) (j : Nat) : bytesR (l.take j) ≤ bytesR l := by
  have : bytesR l = bytesR (l.take j) + bytesR (l.drop j) := by unfold bytesR; rw [← List.sum_append, ← List.map_append, List.take_append_drop]
  omega
theorem bytesR_take' (l : List ByteArray) (j : Nat) (h : j < l.length) : bytesR (l.take (j + 1)) = bytesR (l.take j) + (l.getD j ByteArray.empty).size := by rw [takeD' l ByteArray.empty j h, bytesR_snoc]
def Sz1 (W : World) (L : Txt) (nv iv : Value) (wr : World) : Prop := ∃ j : Nat, iv = .int .i64 j ∧ j ≤ L.length ∧ nv = .int .i64 (sizeL (L.take j)) ∧ W = wr
def Sz2 (W : World) (base : Nat) (l : List ByteArray) (nv iv : Value) (wr : World) : Prop := ∃ j : Nat, iv = .int .i64 j ∧ j ≤ l.length ∧ nv = .int .i64 ((base + l.length + bytesR (l.take j) : Nat)) ∧ W = wr
def Sz3 (W : World) (base : Nat) (l : List ByteArray) (nv iv : Value) (wr : World) : Prop := ∃ j : Nat, iv = .int .i64 j ∧ j ≤ l.length ∧ nv = .int .i64 ((base + j + bytesR (l.take j) : Nat)) ∧ W = wr
set_option maxRecDepth 100000 in
theorem Size_calls (w : World) (N : Nat → Prop) (k : Int) (v : Value) (L : Txt) (hS : sizeL L ≤ 1000000) (h : TxtAt w N v L) :
    Calls Try.prog 21 #[.agg #[.int .i64 k, v]] w fun e w' => e = .returned (.int .i64 (sizeL L)) ∧ w' = w.alloc (.cells #[.int .i64 k, v] 30) := by
  obtain ⟨a, c, rfl, h1, h2, h⟩ := h
  obtain ⟨n, hn⟩ : ∃ n, L.length = n := ⟨_, rfl⟩
  have HN := Lib.hid hn
  rw [hn] at h1 ⊢
  unfold maxLen at h2
  have hbel : Below w.heap.size w (w.alloc (.cells #[.int .i64 k, .slice a n c] 30)) := (Below.refl _ _).alloc (Nat.le_refl _) _
  have H := Lib.hid (show ∀ i, i < n → ∃ b off x, a = some ⟨b, off, none⟩ ∧ (w.alloc (.cells #[.int .i64 k, .slice a n c] 30)).cell? ⟨b, off + i, none⟩ = some x ∧ RowAt (w.alloc (.cells #[.int .i64 k, .slice a n c] 30)) N x (L.getD i []) from fun i hi => by
    obtain ⟨b, off, x, e, -, hc, hr⟩ := h i (by rw [hn]; exact hi)
    exact ⟨b, off, x, e, (hbel.cell (p := ⟨b, off + i, none⟩) (World.block_lt_of_cell? _ _ hc)).trans hc, hr.below hbel⟩)
  clear h hn hbel
  have H0 := Lib.hid (show Sz1 (w.alloc (.cells #[.int .i64 k, .slice a n c] 30)) L (.int .i64 0) (.int .i64 0) (w.alloc (.cells #[.int .i64 k, .slice a n c] 30)) from ⟨0, rfl, Nat.zero_le _, rfl, rfl⟩)
  go_enter Try.func21, Try.ntmps21
  go_wp2_with fail
  generalize hW : w.alloc (.cells #[.int .i64 k, .slice a n c] 30) = W at H H0 ⊢
  have HW := Lib.hid hW
  clear hW
  go_loopw [3, 11] (fun s i wr => Sz1 W L s i wr) (fun _ i _ => n - (intOf i).toNat)
  case atStart => exact H0.out
  case round =>
    obtain ⟨j, rfl, hj, rfl, rfl⟩ := hrel
    rw [HN.out] at hj
    by_cases hjn : j < n
    · obtain ⟨b, off, x, rfl, hc, hr⟩ := H.out j hjn
      have HT := Lib.hid (sizeL_take L j (by rw [HN.out]; exact hjn))
      have HLE := Lib.hid (sizeL_le L (j + 1))
      obtain ⟨l, hl⟩ : ∃ l, L.getD j [] = l := ⟨_, rfl⟩
      rw [hl] at hr HT
      obtain ⟨ra, rc, rfl, g1, g2, gr⟩ := hr
      obtain ⟨s, hs⟩ : ∃ s, sizeL (L.take j) = s := ⟨_, rfl⟩
      rw [hs] at HT ⊢
      have hbnd := HLE.out
      rw [HT.out] at hbnd
      unfold sizeR at hbnd
      obtain ⟨m, hm⟩ : ∃ m, l.length = m := ⟨_, rfl⟩
      have HM := Lib.hid hm
      rw [hm] at hc g1 hbnd
      unfold maxLen at g2
      have GR := Lib.hid gr
      obtain ⟨q, hq⟩ : ∃ q, bytesR l = q := ⟨_, rfl⟩
      have HQ := Lib.hid hq
      rw [hq] at hbnd
      have R0 := Lib.hid (show Sz2 W s l (.int .i64 ((s : Int) + (m : Int))) (.int .i64 0) W from ⟨0, rfl, Nat.zero_le _, by rw [hm]; rfl, rfl⟩)
      clear gr hl hs hm hq
      go_wp2_with fail
      go_loopw [3, 21] (fun s2 i wr => Sz2 W s l s2 i wr) (fun _ i _ => m - (intOf i).toNat)
      case atStart => exact R0.out
      case round =>
        obtain ⟨i, rfl, hi, rfl, rfl⟩ := hrel
        rw [HM.out] at hi
        by_cases him : i < m
        · obtain ⟨rb, roff, rfl, -, rc2⟩ := GR.out i (by rw [HM.out]; exact him)
          have HB := Lib.hid (bytesR_take' l i (by rw [HM.out]; exact him))
          have HB2 := Lib.hid (bytesR_le l (i + 1))
          obtain ⟨t, ht⟩ : ∃ t, l.getD i ByteArray.empty = t := ⟨_, rfl⟩
          rw [ht] at rc2 HB
          obtain ⟨u, hu⟩ : ∃ u, bytesR (l.take i) = u := ⟨_, rfl⟩
          rw [hu] at HB
          have hb3 := HB2.out
          rw [HB.out, HQ.out] at hb3
          simp only [hu, HM.out, Int.natCast_add]
          have HU := Lib.hid hu
          clear ht hu
          go_wp2_with fail
          go_roundw
          · refine ⟨i + 1, by go_num, by rw [HM.out]; omega, ?_, rfl⟩
            rw [HB.out, HM.out]
            exact congrArg _ (by omega)
          · simp [intOf]; omega
        · obtain rfl : i = m := by omega
          have HE := Lib.hid (show bytesR (l.take i) = q by rw [List.take_of_length_le (by rw [HM.out]; exact Nat.le_refl _), HQ.out])
          rw [HE.out]
          simp only [HM.out, Int.natCast_add]
          go_wp2_with fail
          go_roundw
          · refine ⟨j + 1, by go_num, by rw [HN.out]; omega, ?_, rfl⟩
            rw [HT.out, sizeR, HM.out, HQ.out]
            exact congrArg _ (by omega)
          · simp [intOf]; omega
    · obtain rfl : j = n := by omega
      have HE := Lib.hid (show sizeL (L.take j) = sizeL L by rw [List.take_of_length_le (by rw [HN.out]; exact Nat.le_refl _)])
      rw [HE.out]
      go_wp2_with fail
      go_ret
      exact ⟨rfl, HW.out.symm⟩
set_option maxRecDepth 100000 in
theorem SizeR_calls (w : World) (N : Nat → Prop) (k : Int) (v : Value) (L : Txt) (hS : sizeL L ≤ 1000000) (h : TxtAt w N v L) :
    Calls Try.prog 22 #[.agg #[.int .i64 k, v]] w fun e w' => e = .returned (.int .i64 (sizeL L)) ∧ w' = w.alloc (.cells #[.int .i64 k, v] 24) := by
  obtain ⟨a, c, rfl, h1, h2, h⟩ := h
  obtain ⟨n, hn⟩ : ∃ n, L.length = n := ⟨_, rfl⟩
  have HN := Lib.hid hn
  rw [hn] at h1 ⊢
  unfold maxLen at h2
  have hbel : Below w.heap.size w (w.alloc (.cells #[.int .i64 k, .slice a n c] 24)) := (Below.refl _ _).alloc (Nat.le_refl _) _
  have H := Lib.hid (show ∀ i, i < n → ∃ b off x, a = some ⟨b, off, none⟩ ∧ (w.alloc (.cells #[.int .i64 k, .slice a n c] 24)).cell? ⟨b, off + i, none⟩ = some x ∧ RowAt (w.alloc (.cells #[.int .i64 k, .slice a n c] 24)) N x (L.getD i []) from fun i hi => by
    obtain ⟨b, off, x, e, -, hc, hr⟩ := h i (by rw [hn]; exact hi)
    exact ⟨b, off, x, e, (hbel.cell (p := ⟨b, off + i, none⟩) (World.block_lt_of_cell? _ _ hc)).trans hc, hr.below hbel⟩)
  clear h hn hbel
  have H0 := Lib.hid (show Sz1 (w.alloc (.cells #[.int .i64 k, .slice a n c] 24)) L (.int .i64 0) (.int .i64 0) (w.alloc (.cells #[.int .i64 k, .slice a n c] 24)) from ⟨0, rfl, Nat.zero_le _, rfl, rfl⟩)
  go_enter Try.func22, Try.ntmps22
  go_wp2_with fail
  generalize hW : w.alloc (.cells #[.int .i64 k, .slice a n c] 24) = W at H H0 ⊢
  have HW := Lib.hid hW
  clear hW
  go_loopw [3, 11] (fun s i wr => Sz1 W L s i wr) (fun _ i _ => n - (intOf i).toNat)
  case atStart => exact H0.out
  case round =>
    obtain ⟨j, rfl, hj, rfl, rfl⟩ := hrel
    rw [HN.out] at hj
    by_cases hjn : j < n
    · obtain ⟨b, off, x, rfl, hc, hr⟩ := H.out j hjn
      have HT := Lib.hid (sizeL_take L j (by rw [HN.out]; exact hjn))
      have HLE := Lib.hid (sizeL_le L (j + 1))
      obtain ⟨l, hl⟩ : ∃ l, L.getD j [] = l := ⟨_, rfl⟩
      rw [hl] at hr HT
      obtain ⟨ra, rc, rfl, g1, g2, gr⟩ := hr
      obtain ⟨s, hs⟩ : ∃ s, sizeL (L.take j) = s := ⟨_, rfl⟩
      rw [hs] at HT ⊢
      have hbnd := HLE.out
      rw [HT.out] at hbnd
      unfold sizeR at hbnd
      obtain ⟨m, hm⟩ : ∃ m, l.length = m := ⟨_, rfl⟩
      have HM := Lib.hid hm
      rw [hm] at hc g1 hbnd
      unfold maxLen at g2
      have GR := Lib.hid gr
      obtain ⟨q, hq⟩ : ∃ q, bytesR l = q := ⟨_, rfl⟩
      have HQ := Lib.hid hq
      rw [hq] at hbnd
      have R0 := Lib.hid (show Sz3 W s l (.int .i64 ((s : Int))) (.int .i64 0) W from ⟨0, rfl, Nat.zero_le _, rfl, rfl⟩)
      clear gr hl hs hm hq
      go_wp2_with fail
      go_loopw [3, 17] (fun s2 i wr => Sz3 W s l s2 i wr) (fun _ i _ => m - (intOf i).toNat)
      case atStart => exact R0.out
      case round =>
        obtain ⟨i, rfl, hi, rfl, rfl⟩ := hrel
        rw [HM.out] at hi
        by_cases him : i < m
        · obtain ⟨rb, roff, rfl, -, rc2⟩ := GR.out i (by rw [HM.out]; exact him)
          have HB := Lib.hid (bytesR_take' l i (by rw [HM.out]; exact him))
          have HB2 := Lib.hid (bytesR_le l (i + 1))
          obtain ⟨t, ht⟩ : ∃ t, l.getD i ByteArray.empty = t := ⟨_, rfl⟩
          rw [ht] at rc2 HB
          obtain ⟨u, hu⟩ : ∃ u, bytesR (l.take i) = u := ⟨_, rfl⟩
          rw [hu] at HB
          have hb3 := HB2.out
          rw [HB.out, HQ.out] at hb3
          simp only [hu, HM.out, Int.natCast_add]
          have HU := Lib.hid hu
          clear ht hu
          go_wp2_with fail
          go_roundw
          · refine ⟨i + 1, by go_num, by rw [HM.out]; omega, ?_, rfl⟩
            rw [HB.out]
            exact congrArg _ (by omega)
          · simp [intOf]; omega
        · obtain rfl : i = m := by omega
          have HE := Lib.hid (show bytesR (l.take i) = q by rw [List.take_of_length_le (by rw [HM.out]; exact Nat.le_refl _), HQ.out])
          rw [HE.out]
          simp only [HM.out, Int.natCast_add]
          go_wp2_with fail
          go_roundw
          · refine ⟨j + 1, by go_num, by rw [HN.out]; omega, ?_, rfl⟩
            rw [HT.out, sizeR, HM.out, HQ.out]
            exact congrArg _ (by omega)
          · simp [intOf]; omega
    · obtain rfl : j = n := by omega
      have HE := Lib.hid (show sizeL (L.take j) = sizeL L by rw [List.take_of_length_le (by rw [HN.out]; exact Nat.le_refl _)])
      rw [HE.out]
      go_wp2_with fail
      go_ret
      exact ⟨rfl, HW.out.symm⟩
end Go.Proofs.Ythalpbbjcagnnaa
