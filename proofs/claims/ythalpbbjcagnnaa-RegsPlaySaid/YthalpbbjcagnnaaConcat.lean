/- Walks: slices.Grow of nothing, slices.Concat of two. -/
import Derived.Test.YthalpbbjcagnnaaClone
import Derived.Lib.AppendZeros
import Derived.Deep.Slices
set_option linter.unusedSimpArgs false
set_option linter.unusedVariables false
namespace Go.Proofs.Ythalpbbjcagnnaa
open Go.RowKit
theorem zeroCells_one (n : Nat) : (Builtin.zeroCells #[Value.slice none 0 0] n).size = n := by rw [size_zeroCells]; simp
theorem Grow_calls (w : World) (m : Nat) (h0 : 0 < m) (hm : m ≤ 100000) : Calls Try.prog 39 #[.slice none 0 0, .int .i64 m] w fun e w' => (∃ v', e = .returned v' ∧ w'.ownsRow w.heap.size 55 1 v' 0 []) ∧ Below w.heap.size w w' := by
  obtain ⟨i1, ji0, jz0, jz1, jz2⟩ := info_parts info55
  have hr := Lib.run_append_nil_zeros (P := Try.prog) w 22 3 22 55 i1 (.slice none 0 0) .i64 .i64 Try.underlying22 Try.underlying3 ji0 jz0 m h0 (by omega) (by omega) (by rw [jz2]; omega)
  have HR := Lib.hid hr
  have hcap := grownCap_ge w m 0 55
  have hcm := grownCap_le_maxLen w m 0 55 (by unfold maxLen; omega)
  generalize grownCap w m 0 55 = cap at *
  have HO := Lib.hid (show (w.drew.alloc (.cells (Builtin.zeroCells #[.slice none 0 0] m ++ Builtin.zeroCells #[.slice none 0 0] (cap - m)) 55)).ownsRow w.heap.size 55 1 (.slice (some ⟨w.heap.size, 0, none⟩) 0 cap) 0 [] from
    ⟨rfl, .inr ⟨w.heap.size, cap, _, rfl, Nat.le_refl _, heap_new w.drew _, Nat.zero_le _, hcm, by rw [Array.size_append, zeroCells_one, zeroCells_one]; omega, by simp⟩⟩)
  unfold maxLen at hcm
  clear hr ji0 jz0 jz1 jz2
  go_enter Try.func39, Try.ntmps39
  go_wp2_with (at_builtin; go_must (refine Lib.wpList_append_run _ rfl (.tmp 20) (.tmp 21) 22 3 rfl (.slice none 0 0) (.int .i64 m) rfl rfl _ _ HR.out ?_))
  go_ret
  exact ⟨⟨_, rfl, HO.out⟩, (Below.refl _ _).drew.alloc (Nat.le_refl _) _⟩
/-- What the rows are, one by one. -/
theorem TxtAt.vals {w : World} {N : Nat → Prop} {v : Value} {L : Txt} (h : TxtAt w N v L) : ∃ (a : Option Addr) (c : Nat) (xs : List Value), v = .slice a L.length c ∧ xs.length = L.length ∧ L.length ≤ c ∧ c ≤ maxLen ∧ (∀ i, i < L.length → ∃ b off, a = some ⟨b, off, none⟩ ∧ N b ∧ w.cell? ⟨b, off + i, none⟩ = some (xs.getD i undef) ∧ RowAt w N (xs.getD i undef) (L.getD i [])) := by
  obtain ⟨a, c, rfl, h1, h2, h⟩ := h
  have key : ∀ i, i < L.length → ∃ x : Value, ∃ b off, a = some ⟨b, off, none⟩ ∧ N b ∧ w.cell? ⟨b, off + i, none⟩ = some x ∧ RowAt w N x (L.getD i []) := by
    intro i hi
    obtain ⟨b, off, x, e, hn, hc, hr⟩ := h i hi
    exact ⟨x, b, off, e, hn, hc, hr⟩
  obtain ⟨F, hF⟩ := Go.Deep.choose_lt key
  refine ⟨a, c, (List.range L.length).map F, rfl, by simp, h1, h2, fun i hi => ?_⟩
  have e : ((List.range L.length).map F).getD i undef = F i := by simp [List.getD_eq_getElem?_getD, hi]
  rw [e]; exact hF i hi
/-- A row of rows, as what an append takes. -/
structure Vals (w : World) (N : Nat → Prop) (ad : Addr) (c : Nat) (xs : List Value) (L : Txt) : Prop where
  len : xs.length = L.length
  cap : L.length ≤ c
  max : c ≤ maxLen
  cell : ∀ j u, xs[j]? = some u → w.cell? (ad.add j) = some u
  low : ad.block < w.heap.size
  one : ∀ u ∈ xs, u.oneCell' = true
  row : ∀ i, i < L.length → RowAt w N (xs.getD i undef) (L.getD i [])
theorem TxtAt.rows {w : World} {N : Nat → Prop} {v : Value} {L : Txt} (h : TxtAt w N v L) (hL : 0 < L.length) : ∃ ad c xs, v = .slice (some ad) L.length c ∧ Vals w N ad c xs L ∧ N ad.block := by
  obtain ⟨a, c, xs, rfl, h1, h2, h3, h4⟩ := h.vals
  obtain ⟨b, off, rfl, hn, hc0, hr0⟩ := h4 0 hL
  refine ⟨⟨b, off, none⟩, c, xs, rfl, ⟨h1, h2, h3, ?_, World.block_lt_of_cell? _ _ hc0, ?_, ?_⟩, hn⟩
  · intro j u hu
    have hj : j < xs.length := by
      rcases Nat.lt_or_ge j xs.length with h' | h'
      · exact h'
      · rw [List.getElem?_eq_none h'] at hu; cases hu
    obtain ⟨b', off', e, -, hc, -⟩ := h4 j (by omega)
    simp only [Option.some.injEq, Addr.mk.injEq, and_true] at e
    obtain ⟨rfl, rfl⟩ := e
    rw [show (⟨b, off, none⟩ : Addr).add j = ⟨b, off + j, none⟩ by unfold Addr.add; split <;> simp_all, hc]
    simp only [List.getD_eq_getElem?_getD, hu, Option.getD_some]
  · intro u hu
    obtain ⟨i, hi, rfl⟩ := List.getElem_of_mem hu
    obtain ⟨b', off', e, -, hc, a', c', e', -⟩ := h4 i (by omega)
    have : xs.getD i undef = xs[i] := by simp [List.getD_eq_getElem?_getD, List.getElem?_eq_getElem hi]
    rw [← this, e']; rfl
  · intro i hi
    obtain ⟨b', off', e, -, -, hr⟩ := h4 i hi
    exact hr
theorem Vals.below {w w' : World} {N : Nat → Prop} {ad : Addr} {c : Nat} {xs : List Value} {L : Txt} (h : Vals w N ad c xs L) (hb : Below w.heap.size w w') : Vals w' N ad c xs L :=
  ⟨h.len, h.cap, h.max, fun j u hu => by
    have := h.cell j u hu
    rw [← this]; exact hb.cell (World.block_lt_of_cell? _ _ this), Nat.lt_of_lt_of_le h.low hb.size, h.one, fun i hi => (h.row i hi).below hb⟩
/-- Rows of one's own whose texts are others'. -/
theorem txt_of_own {w : World} {B : Nat} {N : Nat → Prop} {v : Value} {xs : List Value} {L : Txt} (h : w.ownsRow B 55 1 v L.length xs) (hr : ∀ i, i < L.length → RowAt w N (xs.getD i undef) (L.getD i [])) : TxtAt w (fun k => N k ∨ B ≤ k) v L := by
  obtain ⟨hl, h0⟩ := h
  rcases h0 with ⟨rfl, h0⟩ | ⟨g, cap, cur, rfl, hb, hg, hc1, hc2, hsz, hcur⟩
  · exact ⟨none, 0, by rw [h0], by rw [h0]; exact Nat.le_refl _, by decide, fun i hi => by omega⟩
  · refine ⟨_, _, rfl, hc1, hc2, fun i hi => ⟨g, 0, xs.getD i undef, rfl, .inr hb, ?_, (hr i hi).keep fun k hk _ => ⟨.inl hk, rfl⟩⟩⟩
    have h5 : (cur.toList.take (L.length * 1))[i]? = some (xs.getD i undef) := by
      rw [hcur]; simp [List.getD_eq_getElem?_getD, List.getElem?_eq_getElem (show i < xs.length by omega)]
    rw [List.getElem?_take, if_pos (by omega)] at h5
    simp only [World.cell?, hg, Nat.zero_add]
    simpa using h5
def Con1 (w : World) (p q : Nat) (sv iv : Value) (wr : World) : Prop := ∃ j : Nat, iv = .int .i64 j ∧ ((j = 0 ∧ sv = .int .i64 0) ∨ (j = 1 ∧ sv = .int .i64 p) ∨ (j = 2 ∧ sv = .int .i64 ((p : Int) + q))) ∧ w = wr
def Con2 (w : World) (xs ys : List Value) (ov iv : Value) (wr : World) : Prop := ∃ j : Nat, iv = .int .i64 j ∧ ((j = 0 ∧ wr.ownsRow w.heap.size 55 1 ov 0 []) ∨ (j = 1 ∧ wr.ownsRow w.heap.size 55 1 ov xs.length xs) ∨ (j = 2 ∧ wr.ownsRow w.heap.size 55 1 ov (xs.length + ys.length) (xs ++ ys))) ∧ Below w.heap.size w wr
set_option maxRecDepth 100000 in
set_option maxHeartbeats 1000000 in
theorem Concat_calls (w : World) (N : Nat → Prop) (b c : Nat) (xa ya : Addr) (xc yc : Nat) (xs ys : List Value) (X Y : Txt) (hc : 2 ≤ c) (hcm : c ≤ maxLen) (hX : 0 < X.length) (hY : 0 < Y.length) (hX2 : X.length ≤ 10000) (hY2 : Y.length ≤ 10000)
    (b0 : w.cell? ⟨b, 0, none⟩ = some (.slice (some xa) X.length xc)) (b1 : w.cell? ⟨b, 1, none⟩ = some (.slice (some ya) Y.length yc)) (vx : Vals w N xa xc xs X) (vy : Vals w N ya yc ys Y) :
    Calls Try.prog 36 #[.slice (some ⟨b, 0, none⟩) 2 c] w fun e w' => (∃ v', e = .returned v' ∧ TxtAt w' (fun k => N k ∨ w.heap.size ≤ k) v' (X ++ Y)) ∧ Below w.heap.size w w' := by
  obtain ⟨i1, ji0, jz0, jz1, jz2⟩ := info_parts info55
  have HJ := Lib.hid (And.intro ji0 (And.intro jz0 (And.intro jz1 jz2)))
  have VX := Lib.hid vx
  have VY := Lib.hid vy
  have hlx := vx.len
  have hly := vy.len
  have hb := World.block_lt_of_cell? _ _ b0
  have HB0 := Lib.hid b0
  have HB1 := Lib.hid b1
  have mx := vx.max
  have my := vy.max
  unfold maxLen at hcm mx my
  have cx := vx.cap
  have cy := vy.cap
  obtain ⟨p, hp⟩ : ∃ p, X.length = p := ⟨_, rfl⟩
  obtain ⟨q, hq⟩ : ∃ p, Y.length = p := ⟨_, rfl⟩
  have HP := Lib.hid hp
  have HQ := Lib.hid hq
  rw [hp] at hX hX2 b0 hlx cx HB0
  rw [hq] at hY hY2 b1 hly cy HB1
  have HG := Lib.hid (show Calls Try.prog 39 #[.slice none 0 0, .int .i64 ((p : Int) + (q : Int))] w fun e w' => (∃ v', e = .returned v' ∧ w'.ownsRow w.heap.size 55 1 v' 0 []) ∧ Below w.heap.size w w' from Grow_calls w (p + q) (by omega) (by omega))
  have H0 := Lib.hid (show Con1 w p q (.int .i64 0) (.int .i64 0) w from ⟨0, rfl, .inl ⟨rfl, rfl⟩, rfl⟩)
  clear ji0 jz0 jz1 jz2 vx vy hp hq
  go_enter Try.func36, Try.ntmps36
  go_wp2_with fail
  go_loopw [3, 11] (fun s i wr => Con1 w p q s i wr) (fun _ i _ => 2 - (intOf i).toNat)
  case atStart => exact H0.out
  case round =>
    obtain ⟨j, rfl, h, rfl⟩ := hrel
    rcases h with ⟨rfl, rfl⟩ | ⟨rfl, rfl⟩ | ⟨rfl, rfl⟩
    · go_wp2_with fail
      go_roundw
      · exact ⟨1, by go_num, .inr (.inl ⟨rfl, by go_num⟩), rfl⟩
      · simp [intOf]
    · go_wp2_with fail
      go_roundw
      · exact ⟨2, by go_num, .inr (.inr ⟨rfl, by go_num⟩), rfl⟩
      · simp [intOf]
    · go_wp2_with fail
      refine HG.out.mono ?_
      rintro e w1 ⟨⟨v1, rfl, ho1⟩, hb1⟩
      have H1 := Lib.hid (show Con2 w xs ys v1 (.int .i64 0) w1 from ⟨0, rfl, .inl ⟨rfl, ho1⟩, hb1⟩)
      clear ho1 hb1
      go_wp2_with fail
      go_loopw [6, 27] (fun o i wr => Con2 w xs ys o i wr) (fun _ i _ => 2 - (intOf i).toNat)
      case atStart => exact H1.out
      case round =>
        obtain ⟨j, rfl, h, hbel⟩ := hrel
        have HB := Lib.hid hbel
        have d0 : wr.cell? ⟨b, 0, none⟩ = some (.slice (some xa) p xc) := (hbel.cell (p := ⟨b, 0, none⟩) hb).trans HB0.out
        have d1 : wr.cell? ⟨b, 1, none⟩ = some (.slice (some ya) q yc) := (hbel.cell (p := ⟨b, 1, none⟩) hb).trans HB1.out
        have VX2 := Lib.hid (VX.out.below hbel)
        have VY2 := Lib.hid (VY.out.below hbel)
        have hgs := hbel.size
        clear hbel
        rcases h with ⟨rfl, ho⟩ | ⟨rfl, ho⟩ | ⟨rfl, ho⟩
        · obtain ⟨oa, op, rfl⟩ := own_slice ho
          have HO := Lib.hid ho
          have hx1 := Lib.hid (show xs.length = p * 1 by omega)
          clear ho
          go_wp2_with (at_builtin; go_must (refine wpList_append_lies _ rfl (.tmp 31) (.tmp 32) 22 rfl w.heap.size 55 i1 (.slice none 0 0) 1 24 Try.underlying22 HJ.out.1 HJ.out.2.1 HJ.out.2.2.1 HJ.out.2.2.2 rfl (by decide) (.slice oa 0 op) 0 [] rfl HO.out xa p xc xs rfl hx1.out VX2.out.cell VX2.out.one (by omega) (by unfold maxLen; omega) (by omega) hgs wr.heap.size rfl ?_); intro g cap w3 hown hgrow hat hlt; have HO3 := Lib.hid hown; have HG3 := Lib.hid hgrow; clear hown hgrow hat hlt)
          go_roundw
          · have h := HO3.out
            rw [List.nil_append] at h
            refine ⟨1, by go_num, .inr (.inl ⟨rfl, ?_⟩), Below.grown HB.out HG3.out hgs (fun x hx => (HO.out.lt x hx).1)⟩
            rw [hlx]; simpa using h
          · simp [intOf]
        · obtain ⟨oa, op, rfl⟩ := own_slice ho
          have HO := Lib.hid ho
          have hy1 := Lib.hid (show ys.length = q * 1 by omega)
          clear ho
          go_wp2_with (at_builtin; go_must (refine wpList_append_lies _ rfl (.tmp 31) (.tmp 32) 22 rfl w.heap.size 55 i1 (.slice none 0 0) 1 24 Try.underlying22 HJ.out.1 HJ.out.2.1 HJ.out.2.2.1 HJ.out.2.2.2 rfl (by decide) (.slice oa xs.length op) xs.length xs rfl HO.out ya q yc ys rfl hy1.out VY2.out.cell VY2.out.one (by omega) (by unfold maxLen; omega) (by omega) hgs wr.heap.size rfl ?_); intro g cap w3 hown hgrow hat hlt; have HO3 := Lib.hid hown; have HG3 := Lib.hid hgrow; clear hown hgrow hat hlt)
          go_roundw
          · have h := HO3.out
            refine ⟨2, by go_num, .inr (.inr ⟨rfl, ?_⟩), Below.grown HB.out HG3.out hgs (fun x hx => (HO.out.lt x hx).1)⟩
            rw [hly]; rw [hlx] at h ⊢; exact h
          · simp [intOf]
        · have HO := Lib.hid ho
          clear ho
          go_wp2_with fail
          go_ret
          refine ⟨⟨_, rfl, ?_⟩, HB.out⟩
          have h := HO.out
          have e : (X ++ Y).length = xs.length + ys.length := by rw [List.length_append, HP.out, HQ.out, hlx, hly]
          refine txt_of_own (N := N) (by rw [e]; exact h) fun i hi => ?_
          rw [e] at hi
          by_cases hix : i < xs.length
          · have := VX2.out.row i (by rw [HP.out]; omega)
            simpa [List.getD_eq_getElem?_getD, List.getElem?_append, hix, show i < X.length by rw [HP.out]; omega] using this
          · have := VY2.out.row (i - xs.length) (by rw [HQ.out]; omega)
            have e2 : X.length = xs.length := by rw [HP.out, hlx]
            simpa [List.getD_eq_getElem?_getD, List.getElem?_append, hix, e2] using this
end Go.Proofs.Ythalpbbjcagnnaa
