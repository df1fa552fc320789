/- Walk: spoil: other texts in the place of all. -/
import Derived.Test.YthalpbbjcagnnaaGetAll
set_option linter.unusedSimpArgs false
set_option linter.unusedVariables false
namespace Go.Proofs.Ythalpbbjcagnnaa
open Go.RowKit Go.Deep
/-- Nothing but texts in the blocks N is changed. -/
structure Spoilt (N : Nat → Prop) (w w' : World) : Prop where
  os : w'.os = w.os
  tape : w'.tape = w.tape
  output : w'.output = w.output
  size : w'.heap.size = w.heap.size
  block : ∀ k, ¬ N k → w'.heap[k]? = w.heap[k]?
  soft : ∀ k, Soft w k → Soft w' k
  other : ∀ p a n c, w.cell? p = some (.slice a n c) → w'.cell? p = some (.slice a n c)
  str : ∀ p s, w.cell? p = some (.string s) → ∃ s', w'.cell? p = some (.string s')
theorem Spoilt.refl (N : Nat → Prop) (w : World) : Spoilt N w w := ⟨rfl, rfl, rfl, rfl, fun _ _ => rfl, fun _ h => h, fun _ _ _ _ h => h, fun _ s h => ⟨s, h⟩⟩
theorem Spoilt.trans {N : Nat → Prop} {a b c : World} (h : Spoilt N a b) (k : Spoilt N b c) : Spoilt N a c :=
  ⟨k.os.trans h.os, k.tape.trans h.tape, k.output.trans h.output, k.size.trans h.size, fun i hi => (k.block i hi).trans (h.block i hi), fun i hi => k.soft i (h.soft i hi),
    fun p a n c hp => k.other p a n c (h.other p a n c hp), fun p s hp => by obtain ⟨s', hs⟩ := h.str p s hp; exact k.str p s' hs⟩
theorem Spoilt.set {N : Nat → Prop} {w : World} {b o : Nat} {s t : ByteArray} (hb : N b) (hc : w.cell? ⟨b, o, none⟩ = some (.string s)) (hs : Soft w b) : Spoilt N w (w.setCell ⟨b, o, none⟩ (.string t)) := by
  obtain ⟨cs, e, hh⟩ := hs
  refine ⟨rfl, rfl, rfl, by simp [World.setCell], fun k hk => Below.heap_setCell _ _ _ _ (fun e => hk (e ▸ hb)), fun k hk => ?_, fun p a n c hp => ?_, fun p s' hp => ?_⟩
  · by_cases hkb : k = b
    · subst hkb; exact ⟨_, _, heap_set_row _ hh⟩
    · exact hk.to (Below.heap_setCell _ _ _ _ hkb)
  · exact (World.cell?_setCell_other _ _ _ _ (by rintro rfl; rw [hc] at hp; cases hp)).trans hp
  · by_cases hpe : p = ⟨b, o, none⟩
    · subst hpe; exact ⟨t, World.cell?_setCell_same _ _ _ hc⟩
    · exact ⟨s', (World.cell?_setCell_other _ _ _ _ (Ne.symm hpe)).trans hp⟩
theorem Spoilt.row {N M : Nat → Prop} {w w' : World} (h : Spoilt N w w') {v : Value} {l : List ByteArray} (hr : RowAt w M v l) : ∃ l', l'.length = l.length ∧ RowAt w' M v l' := by
  obtain ⟨a, c, rfl, g1, g2, g⟩ := hr
  have key : ∀ i, i < l.length → ∃ s : ByteArray, ∃ b off, a = some ⟨b, off, none⟩ ∧ M b ∧ w'.cell? ⟨b, off + i, none⟩ = some (.string s) := fun i hi => by
    obtain ⟨b, off, e, hm, hc⟩ := g i hi
    obtain ⟨s', hs⟩ := h.str _ _ hc
    exact ⟨s', b, off, e, hm, hs⟩
  obtain ⟨F, hF⟩ := choose_lt key
  refine ⟨(List.range l.length).map F, by simp, a, c, by simp, by simpa using g1, g2, fun i hi => ?_⟩
  simp at hi
  obtain ⟨b, off, e, hm, hc⟩ := hF i hi
  exact ⟨b, off, e, hm, by simpa [List.getD_eq_getElem?_getD, hi] using hc⟩
theorem Spoilt.txt {N M : Nat → Prop} {w w' : World} (h : Spoilt N w w') {v : Value} {L : Txt} (hr : TxtAt w M v L) : ∃ L', L'.length = L.length ∧ TxtAt w' M v L' := by
  obtain ⟨a, c, rfl, g1, g2, g⟩ := hr
  have key : ∀ i, i < L.length → ∃ l : List ByteArray, ∃ b off x, a = some ⟨b, off, none⟩ ∧ M b ∧ w'.cell? ⟨b, off + i, none⟩ = some x ∧ RowAt w' M x l := fun i hi => by
    obtain ⟨b, off, x, e, hm, hc, hx⟩ := g i hi
    obtain ⟨l', -, hl⟩ := h.row hx
    obtain ⟨xa, xc, rfl, -⟩ := hx
    exact ⟨l', b, off, _, e, hm, h.other _ _ _ _ hc, hl⟩
  obtain ⟨F, hF⟩ := choose_lt key
  refine ⟨(List.range L.length).map F, by simp, a, c, by simp, by simpa using g1, g2, fun i hi => ?_⟩
  simp at hi
  obtain ⟨b, off, x, e, hm, hc, hx⟩ := hF i hi
  exact ⟨b, off, x, e, hm, hc, by simpa [List.getD_eq_getElem?_getD, hi] using hx⟩
def tSpoilt : ByteArray := ⟨#[115, 112, 111, 105, 108, 116]⟩
def SpRel (N : Nat → Prop) (w : World) (n : Nat) (iv : Value) (wr : World) : Prop := ∃ j : Nat, iv = .int .i64 j ∧ j ≤ n ∧ Spoilt N w wr
set_option maxRecDepth 100000 in
set_option maxHeartbeats 1000000 in
theorem spoil_calls (w : World) (N : Nat → Prop) (v : Value) (L : Txt) (h : TxtAt w N v L) (hs : ∀ k, N k → Soft w k) :
    Calls Try.prog 13 #[v] w fun e w' => e = .returned (.tuple #[]) ∧ Spoilt N w w' := by
  obtain ⟨a, c, rfl, h1, h2, h⟩ := h
  obtain ⟨n, hn⟩ : ∃ n, L.length = n := ⟨_, rfl⟩
  have HN := Lib.hid hn
  rw [hn] at h1 ⊢
  unfold maxLen at h2
  have H := Lib.hid h
  have HS := Lib.hid hs
  have H0 := Lib.hid (show SpRel N w n (.int .i64 0) w from ⟨0, rfl, Nat.zero_le _, Spoilt.refl _ _⟩)
  clear h hn hs
  go_enter Try.func13, Try.ntmps13
  go_wp2_with fail
  go_loopw [7] (fun i wr => SpRel N w n i wr) (fun i _ => n - (intOf i).toNat)
  case atStart => exact H0.out
  case round =>
    obtain ⟨j, rfl, hj, hsp⟩ := hrel
    have HP := Lib.hid hsp
    by_cases hjn : j < n
    · obtain ⟨b, off, x, rfl, hNb, hc, hr⟩ := H.out j (by rw [HN.out]; exact hjn)
      generalize L.getD j [] = l at *
      obtain ⟨ra, rc, rfl, g1, g2, gr⟩ := hr
      have hc := hsp.other _ _ _ _ hc
      obtain ⟨m, hm⟩ : ∃ m, l.length = m := ⟨_, rfl⟩
      have HM := Lib.hid hm
      rw [hm] at hc g1
      unfold maxLen at g2
      have GR := Lib.hid gr
      have R0 := Lib.hid (show SpRel N w m (.int .i64 0) wr from ⟨0, rfl, Nat.zero_le _, hsp⟩)
      clear gr hm hsp
      go_wp2_with fail
      go_loopw [13] (fun k w2 => SpRel N w m k w2) (fun k _ => m - (intOf k).toNat)
      case atStart => exact R0.out
      case round =>
        obtain ⟨k, rfl, hk, hsp2⟩ := hrel
        have HP2 := Lib.hid hsp2
        by_cases hkm : k < m
        · obtain ⟨rb, roff, rfl, hNr, rc2⟩ := GR.out k (by rw [HM.out]; exact hkm)
          obtain ⟨t, ht⟩ := hsp2.str _ _ rc2
          have hsf := hsp2.soft rb (HS.out rb hNr)
          have hfz : wr.frozen? ⟨rb, roff + k, none⟩ = false := by obtain ⟨cs, e, hh⟩ := hsf; exact frozen_row hh _
          have HST := Lib.hid (hsp2.trans (Spoilt.set (t := tSpoilt) hNr ht hsf))
          clear hsf rc2 hsp2
          go_wp2_with fail
          go_roundw
          · exact ⟨k + 1, by go_num, by omega, HST.out⟩
          · simp [intOf]; omega
        · obtain rfl : k = m := by omega
          clear hsp2
          go_wp2_with fail
          go_roundw
          · exact ⟨j + 1, by go_num, by omega, HP2.out⟩
          · simp [intOf]; omega
    · obtain rfl : j = n := by omega
      clear hsp
      go_wp2_with fail
      go_end0
      exact ⟨rfl, HP.out⟩
end Go.Proofs.Ythalpbbjcagnnaa
