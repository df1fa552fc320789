/- The chapter's example: the call of awake returns true, and nothing that was there is changed. -/
import Derived.Test.YthalpbbjcagnnaaSetUp
set_option linter.unusedSimpArgs false
set_option linter.unusedVariables false
namespace Go.Proofs.Ythalpbbjcagnnaa
open Go.RowKit
def tX : ByteArray := ⟨#[120]⟩
def tY : ByteArray := ⟨#[121]⟩
def tZ : ByteArray := ⟨#[122]⟩
/-- A row of texts that was just laid, and a row of it. -/
theorem row_new (w : World) (N : Nat → Prop) (l : List ByteArray) (hN : N w.heap.size) (hm : l.length ≤ maxLen) : RowAt (w.alloc (.cells (sv l).toArray 9)) N (.slice (some ⟨w.heap.size, 0, none⟩) l.length l.length) l :=
  ⟨_, _, rfl, Nat.le_refl _, hm, fun i hi => ⟨w.heap.size, 0, rfl, hN, by rw [World.cell?_alloc_at _ _ _ _ rfl]; simp [sv, List.getD_eq_getElem?_getD, List.getElem?_eq_getElem hi]⟩⟩
theorem txt_new (w : World) (N : Nat → Prop) (l : List ByteArray) (hN : N w.heap.size) (hN1 : N (w.heap.size + 1)) (hm : l.length ≤ maxLen) :
    TxtAt ((w.alloc (.cells (sv l).toArray 9)).alloc (.cells #[.slice (some ⟨w.heap.size, 0, none⟩) l.length l.length] 55)) N (.slice (some ⟨w.heap.size + 1, 0, none⟩) 1 1) [l] := by
  refine ⟨_, 1, rfl, Nat.le_refl _, by decide, fun i hi => ⟨w.heap.size + 1, 0, .slice (some ⟨w.heap.size, 0, none⟩) l.length l.length, rfl, hN1, ?_, ?_⟩⟩
  · obtain rfl : i = 0 := by simpa using hi
    have := heap_new (w.alloc (.cells (sv l).toArray 9)) (.cells #[.slice (some ⟨w.heap.size, 0, none⟩) l.length l.length] 55)
    simp only [World.size_alloc] at this
    exact (cell_row this 0).trans rfl
  · obtain rfl : i = 0 := by simpa using hi
    exact (row_new w N l hN hm).keep fun b hb hl => ⟨hb, Below.heap_alloc _ _ _ hl⟩
def R1 : RegsT := putR (putR zeroRegs 0 (1, [[tX]])) 26 (1, [[tX]])
def R2 : RegsT := putR (putR R1 0 (1, [[tX], [tY, tZ]])) 26 (1, [[tX], [tY, tZ]])
set_option maxRecDepth 100000 in
set_option maxHeartbeats 1000000 in
theorem awake_calls (w : World) : Calls Try.prog 12 #[] w fun e w' => e = .returned (.bool true) ∧ Below w.heap.size w w' := by
  have HN := Lib.hid (New_calls w)
  go_enter Try.func12, Try.ntmps12
  go_wp2_with fail
  refine HN.out.mono ?_
  rintro e w1 ⟨⟨rfl, hr1⟩, hb1⟩
  have hrl : w.heap.size < w1.heap.size := by obtain ⟨⟨cs, h1, _⟩, _⟩ := hr1; exact lt_of_heap h1
  have hb1a : Below w1.heap.size w1 ((w1.alloc (.cells #[.string tX] 9)).alloc (.cells #[.slice (some ⟨w1.heap.size, 0, none⟩) 1 1] 55)) := ((Below.refl _ _).alloc (Nat.le_refl _) _).alloc (by simp) _
  have hs1 : Calls Try.prog 9 #[.pointer (some ⟨w.heap.size, 0, none⟩), .int .i64 97, .agg #[.int .i64 1, .slice (some ⟨w1.heap.size + 1, 0, none⟩) 1 1]] ((w1.alloc (.cells #[.string tX] 9)).alloc (.cells #[.slice (some ⟨w1.heap.size, 0, none⟩) 1 1] 55)) fun e w' => e = .returned (.int .i64 0) ∧ RegsIn w' (fun b => w.heap.size ≤ b ∨ ((w1.alloc (.cells #[.string tX] 9)).alloc (.cells #[.slice (some ⟨w1.heap.size, 0, none⟩) 1 1] 55)).heap.size ≤ b) w.heap.size R1 ∧ KeepR w.heap.size ((w1.alloc (.cells #[.string tX] 9)).alloc (.cells #[.slice (some ⟨w1.heap.size, 0, none⟩) 1 1] 55)) w' :=
    set_low _ (fun b => w.heap.size ≤ b) (fun b => w1.heap.size ≤ b) w.heap.size 0 (by decide) zeroRegs 1 _ [[tX]] (hr1.below hb1a) (by omega) (txt_new w1 _ [tX] (Nat.le_refl _) (by omega) (by decide)) (by decide) (by decide) (by decide) (by decide) (by decide) (by decide)
  have HS1 := Lib.hid hs1
  have HB1 := Lib.hid (hb1.trans (hb1a.mono hb1.size))
  have HLT := Lib.hid hrl
  have hbs := hb1.size
  clear hs1 hb1a hr1 hb1 hrl
  have etX : (⟨#[120]⟩ : ByteArray) = tX := rfl
  go_wp2_with fail
  refine HS1.out.mono ?_
  rintro e w2 ⟨rfl, hr2, hk2⟩
  have hr2 : RegsIn w2 (fun b => w.heap.size ≤ b) w.heap.size R1 := hr2.keep fun b hb _ => ⟨by rcases hb with h | h; exact h; simp at h; omega, rfl⟩
  have hbw2 : Below w.heap.size w w2 := HB1.out.trans (hk2.toBelow (Nat.le_refl _) HB1.out.size)
  have hrl2 : w.heap.size < w2.heap.size := by obtain ⟨⟨cs, h1, _⟩, _⟩ := hr2; exact lt_of_heap h1
  have hb2a : Below w2.heap.size w2 ((w2.alloc (.cells #[.string tY, .string tZ] 9)).alloc (.cells #[.slice (some ⟨w2.heap.size, 0, none⟩) 2 2] 55)) := ((Below.refl _ _).alloc (Nat.le_refl _) _).alloc (by simp) _
  have hs2 : Calls Try.prog 9 #[.pointer (some ⟨w.heap.size, 0, none⟩), .int .i64 65, .agg #[.int .i64 1, .slice (some ⟨w2.heap.size + 1, 0, none⟩) 1 1]] ((w2.alloc (.cells #[.string tY, .string tZ] 9)).alloc (.cells #[.slice (some ⟨w2.heap.size, 0, none⟩) 2 2] 55)) fun e w' => e = .returned (.int .i64 0) ∧ RegsIn w' (fun b => w.heap.size ≤ b ∨ ((w2.alloc (.cells #[.string tY, .string tZ] 9)).alloc (.cells #[.slice (some ⟨w2.heap.size, 0, none⟩) 2 2] 55)).heap.size ≤ b) w.heap.size R2 ∧ KeepR w.heap.size ((w2.alloc (.cells #[.string tY, .string tZ] 9)).alloc (.cells #[.slice (some ⟨w2.heap.size, 0, none⟩) 2 2] 55)) w' :=
    set_up _ (fun b => w.heap.size ≤ b) (fun b => w2.heap.size ≤ b) w.heap.size 0 (by decide) R1 1 _ [[tY, tZ]] (hr2.below hb2a) (by omega) (txt_new w2 _ [tY, tZ] (Nat.le_refl _) (by omega) (by decide)) (by decide) (by decide) (by decide) (by decide) (by decide) (by decide) (by decide) (by decide) (by decide)
  have HS2 := Lib.hid hs2
  have HB2 := Lib.hid (hbw2.trans (hb2a.mono hbw2.size))
  clear hs2 hb2a hr2 hk2
  go_wp2_with fail
  refine HS2.out.mono ?_
  rintro e w3 ⟨rfl, hr3, hk3⟩
  have hr3 : RegsIn w3 (fun b => w.heap.size ≤ b) w.heap.size R2 := hr3.keep fun b hb _ => ⟨by rcases hb with h | h; exact h; simp at h; omega, rfl⟩
  have hbw3 : Below w.heap.size w w3 := HB2.out.trans (hk3.toBelow (Nat.le_refl _) HB2.out.size)
  have hg : Calls Try.prog 10 #[.pointer (some ⟨w.heap.size, 0, none⟩), .int .i64 97] w3 fun e w' => (∃ v', e = .returned (.tuple #[.agg #[.int .i64 1, v'], .bool true]) ∧ TxtAt w' (fun b => w3.heap.size ≤ b ∧ Soft w' b) v' [[tX], [tY, tZ]]) ∧ Below w3.heap.size w3 w' :=
    get_letter 97 0 false (by decide) (by decide) (fun w => which_calls 97 w) w3 (fun b => w.heap.size ≤ b) w.heap.size R2 hr3 (by decide) (by decide)
  have HG := Lib.hid hg
  have HR3 := Lib.hid hr3
  have HB3 := Lib.hid hbw3
  clear hg hr3 hk3 hbw3 hbw2 hbs hrl2
  go_wp2_with fail
  refine HG.out.mono ?_
  rintro e w4 ⟨⟨v4, rfl, ht4⟩, hb4⟩
  obtain ⟨va, vc, rfl, z1, z2, hz⟩ := ht4
  obtain ⟨b, off, x, rfl, -, hc1, hr1⟩ := hz 1 (by decide)
  obtain ⟨ra, rc, rfl, y1, y2, hy⟩ := hr1
  obtain ⟨rb, roff, rfl, -, hd1⟩ := hy 1 (by decide)
  have hl1 : ([[tX], [tY, tZ]] : Txt).length = 2 := rfl
  have hl2 : (List.getD ([[tX], [tY, tZ]] : Txt) 1 []).length = 2 := rfl
  have hl3 : (List.getD ([[tX], [tY, tZ]] : Txt) 1 []).getD 1 ByteArray.empty = ⟨#[122]⟩ := rfl
  rw [hl2] at hc1
  rw [hl3] at hd1
  rw [hl2] at y1
  rw [hl1] at z1 ⊢
  have hW : Below w4.heap.size w4 (w4.alloc (.cells #[.int .i64 1, .slice (some ⟨b, off, none⟩) 2 vc] 30)) := (Below.refl _ _).alloc (Nat.le_refl _) _
  have k1 := (hW.cell (p := ⟨b, off + 1, none⟩) (World.block_lt_of_cell? _ _ hc1)).trans hc1
  have k2 := (hW.cell (p := ⟨rb, roff + 1, none⟩) (World.block_lt_of_cell? _ _ hd1)).trans hd1
  have HA := Lib.hid (show Calls Try.prog 19 #[.pointer (some ⟨w.heap.size, 0, none⟩)] (w4.alloc (.cells #[.int .i64 1, .slice (some ⟨b, off, none⟩) 2 vc] 30)) fun e w' => e = .returned (.int .i64 6) ∧ Below (w4.alloc (.cells #[.int .i64 1, .slice (some ⟨b, off, none⟩) 2 vc] 30)).heap.size (w4.alloc (.cells #[.int .i64 1, .slice (some ⟨b, off, none⟩) 2 vc] 30)) w' from
    All_calls _ (fun b => w.heap.size ≤ b) w.heap.size R2 ((HR3.out.below hb4).below hW) (by decide))
  have HB4 := Lib.hid ((HB3.out.trans (hb4.mono HB3.out.size)).trans (hW.mono (Nat.le_trans HB3.out.size hb4.size)))
  unfold maxLen at z2 y2
  clear hz hy hc1 hd1 hW hb4 hl1 hl2 hl3
  go_wp2_with (go_at_call 19; refine HA.out.mono ?_; rintro e w5 ⟨rfl, hb5⟩)
  go_ret
  exact ⟨rfl, HB4.out.trans (hb5.mono HB4.out.size)⟩
end Go.Proofs.Ythalpbbjcagnnaa
