/- Walk: clone: the same register, in memory of its own. -/
import Derived.Test.YthalpbbjcagnnaaWalk1
set_option linter.unusedSimpArgs false
set_option linter.unusedVariables false
namespace Go.Proofs.Ythalpbbjcagnnaa
open Go.RowKit
theorem lt_of_heap {w : World} {k : Nat} {o : Obj} (h : w.heap[k]? = some o) : k < w.heap.size := by
  rcases Nat.lt_or_ge k w.heap.size with h' | h'
  · exact h'
  · rw [Array.getElem?_eq_none h'] at h; cases h
theorem cell_row {w : World} {g : Nat} {cur : Array Value} {e : TypeId} {fr : Nat × Nat} (h : w.heap[g]? = some (.cells cur e fr)) (j : Nat) : w.cell? ⟨g, j, none⟩ = cur[j]? := by simp [World.cell?, h]
theorem frozen_row {w : World} {g : Nat} {cur : Array Value} {e : TypeId} (h : w.heap[g]? = some (.cells cur e (0, 0))) (j : Nat) : w.frozen? ⟨g, j, none⟩ = false := by simp [World.frozen?, h]
theorem heap_set_row {w : World} {g j : Nat} {cur : Array Value} {e : TypeId} (u : Value) (h : w.heap[g]? = some (.cells cur e (0, 0))) : (w.setCell ⟨g, j, none⟩ u).heap[g]? = some (.cells (cur.setIfInBounds j u) e (0, 0)) := heap_setCell_same w g j cur e u h
theorem HO2 {w w' : World} {B e n : Nat} {v : Value} {xs : List Value} (h : w.ownsRow B e 1 v n xs) (hb : Below w.heap.size w.drew w') : w'.ownsRow B e 1 v n xs := by
  refine ⟨h.1, ?_⟩
  rcases h.2 with h0 | ⟨g, cap, cur, e, hB, hg, rest⟩
  · exact .inl h0
  · exact .inr ⟨g, cap, cur, e, hB, (hb.block g (lt_of_heap hg)).trans hg, rest⟩
theorem OutAt.keepB {w w' : World} {B : Nat} {v : Value} {L : Txt} (h : OutAt w B v L) (hb : ∀ k, B ≤ k → k < w.heap.size → w'.heap[k]? = w.heap[k]?) : OutAt w' B v L := by
  obtain ⟨ys, h1, hr⟩ := h
  refine ⟨ys, ⟨h1.1, ?_⟩, fun i hi => (hr i hi).keep fun k hk hl => ⟨⟨hk.1, hk.2.1, hk.2.2.to (hb k hk.1 hl)⟩, hb k hk.1 hl⟩⟩
  rcases h1.2 with h0 | ⟨g, cap, cur, e, hB, hg, rest⟩
  · exact .inl h0
  · exact .inr ⟨g, cap, cur, e, hB, (hb g hB (lt_of_heap hg)).trans hg, rest⟩
def CloneRel (w : World) (k : Int) (L : Txt) (iv : Value) (wr : World) : Prop :=
  ∃ (j : Nat) (ov : Value), iv = .int .i64 j ∧ j ≤ L.length ∧ wr.heap[w.heap.size + 1]? = some (.cells #[.int .i64 0, .slice none 0 0] 30 (0, 0)) ∧ wr.heap[w.heap.size + 1 + 1]? = some (.cells #[.int .i64 k, ov] 30 (0, 0)) ∧
    OutAt wr (w.heap.size + 3) ov (L.take j) ∧ Below w.heap.size w wr ∧ w.heap.size + 3 ≤ wr.heap.size
set_option maxRecDepth 100000 in
set_option maxHeartbeats 1000000 in
theorem clone_soft (w : World) (N : Nat → Prop) (k : Int) (v : Value) (L : Txt) (hL : L.length ≤ 100000) (hR : ∀ l ∈ L, l.length ≤ 100000) (h : TxtAt w N v L) :
    Calls Try.prog 27 #[.agg #[.int .i64 k, v]] w fun e w' => (∃ v', e = .returned (.agg #[.int .i64 k, v']) ∧ TxtAt w' (fun b => w.heap.size ≤ b ∧ Soft w' b) v' L) ∧ Below w.heap.size w w' := by
  obtain ⟨a, c, rfl, h1, h2, h⟩ := h
  obtain ⟨n, hn⟩ : ∃ n, L.length = n := ⟨_, rfl⟩
  have HN := Lib.hid hn
  rw [hn] at h1 hL ⊢
  unfold maxLen at h2
  have H := Lib.hid h
  have HRL := Lib.hid hR
  clear h hn hR
  obtain ⟨i1, ji0, jz0, jz1, jz2⟩ := info_parts info55
  have HJ := Lib.hid (And.intro ji0 (And.intro jz0 (And.intro jz1 jz2)))
  clear ji0 jz0 jz1 jz2
  have H0 := Lib.hid (show CloneRel w k L (.int .i64 0) (((w.alloc (.cells #[.int .i64 k, .slice a n c] 30)).alloc (.cells #[.int .i64 0, .slice none 0 0] 30)).alloc (.cells #[.int .i64 k, .slice none 0 0] 30)) from by
    refine ⟨0, _, rfl, Nat.zero_le _, ?_, ?_, OutAt.nil _ _, ?_, by simp⟩
    · rw [Below.heap_alloc _ _ _ (by simp)]
      have := heap_new (w.alloc (.cells #[.int .i64 k, .slice a n c] 30)) (.cells #[.int .i64 0, .slice none 0 0] 30)
      simpa only [World.size_alloc] using this
    · have := heap_new ((w.alloc (.cells #[.int .i64 k, .slice a n c] 30)).alloc (.cells #[.int .i64 0, .slice none 0 0] 30)) (.cells #[.int .i64 k, .slice none 0 0] 30)
      simpa only [World.size_alloc] using this
    · exact (((Below.refl _ _).alloc (Nat.le_refl _) _).alloc (by simp) _).alloc (by simp; omega) _)
  go_enter Try.func27, Try.ntmps27
  go_wp2_with fail
  go_loopw [12] (fun i wr => CloneRel w k L i wr) (fun i _ => n - (intOf i).toNat)
  case atStart => exact H0.out
  case round =>
    obtain ⟨j, ov, rfl, hj, hb1, hb2, hout, hbel, hsz⟩ := hrel
    rw [HN.out] at hj
    have HB := Lib.hid hbel
    have HO := Lib.hid hout
    have HC1 := Lib.hid hb1
    have HC2 := Lib.hid hb2
    obtain ⟨oa, op, rfl⟩ := hout.slice
    have hlen : (L.take j).length = j := by rw [List.length_take, HN.out]; omega
    rw [hlen] at HC2 HO hb2
    clear hbel hout hb1
    by_cases hjn : j < n
    · obtain ⟨b, off, x, rfl, -, hc, hr⟩ := H.out j (by rw [HN.out]; exact hjn)
      have hro := HRL.out _ (getD_mem'' L [] j (by rw [HN.out]; exact hjn))
      obtain ⟨l, hl⟩ : ∃ l, L.getD j [] = l := ⟨_, rfl⟩
      rw [hl] at hr hro
      have HLE := Lib.hid hl
      have hc := (HB.out.cell (p := ⟨b, off + j, none⟩) (World.block_lt_of_cell? _ _ hc)).trans hc
      have HR := Lib.hid ((hr.below HB.out).keep (w' := wr.drew) (N' := N) fun k hk _ => ⟨hk, rfl⟩)
      obtain ⟨ra, rc, rfl, -, -, -⟩ := hr
      have HCL := Lib.hid (Clone_soft wr.drew N _ l hro HR.out)
      have c0 : wr.drew.cell? ⟨w.heap.size + 1 + 1, 1, none⟩ = some (.slice oa j op) := (cell_row hb2 1).trans rfl
      have hlt2 := lt_of_heap hb2
      obtain ⟨ys, hown0, hys0⟩ := HO.out
      rw [hlen] at hown0 hys0
      have hblk : ∀ y, (Value.slice oa j op).ownBlock = some y → w.heap.size + 3 ≤ y ∧ y < wr.heap.size := fun y hy => hown0.lt y hy
      have HBLK := Lib.hid hblk
      have HYS := Lib.hid hys0
      have HOWN0 := Lib.hid hown0
      have hz : wr.drew.heap.size = wr.heap.size := rfl
      clear hl hb2 hro hown0 hys0 hblk hz
      go_wp2_with fail
      go_region_law (first
        | (go_simp; go_at_call 37; refine HCL.out.mono ?_; rintro e w2 ⟨⟨v', rfl, hv'⟩, hb2⟩; obtain ⟨ca, cc, rfl, hv1, hv2, hv3⟩ := hv'; have hv' : RowAt w2 (fun y => wr.heap.size ≤ y ∧ Soft w2 y) (.slice ca l.length cc) l := ⟨ca, cc, rfl, hv1, hv2, hv3⟩; have hH2 := (hb2.block (w.heap.size + 1 + 1) hlt2).trans HC2.out; have d0 : w2.cell? ⟨w.heap.size + 1 + 1, 1, none⟩ = some (.slice oa j op) := (cell_row hH2 1).trans rfl; have hH3 := (Below.heap_alloc w2 (.cells #[.slice ca l.length cc] 55) (w.heap.size + 1 + 1) (lt_of_heap hH2)).trans hH2; have d1 : (w2.alloc (.cells #[.slice ca l.length cc] 55)).cell? ⟨w.heap.size + 1 + 1, 1, none⟩ = some (.slice oa j op) := (cell_row hH3 1).trans rfl; have HX2 := Lib.hid (show some (w.heap.size + 1 + 1) ≠ (Value.slice oa j op).ownBlock ∧ w.heap.size + 1 + 1 < (w2.alloc (.cells #[.slice ca l.length cc] 55)).heap.size ∧ (w2.alloc (.cells #[.slice ca l.length cc] 55)).heap[w.heap.size + 1 + 1]? = some (.cells #[.int .i64 k, .slice oa j op] 30 (0, 0)) from ⟨fun e => by have := (HBLK.out _ e.symm).1; omega, lt_of_heap hH3, hH3⟩); have HOWN := Lib.hid ((HO2 HOWN0.out hb2).alloc (.cells #[.slice ca l.length cc] 55)); have HNEWS := Lib.hid (news_one w2 (.slice ca l.length cc) 55); have HSZ2 := Lib.hid (show w.heap.size + 3 ≤ (w2.alloc (.cells #[.slice ca l.length cc] 55)).heap.size by have h5 : wr.heap.size ≤ w2.heap.size := hb2.size; simp; omega); have HV := Lib.hid hv'; have HB2 := Lib.hid hb2; clear hv' hv1 hv2 hv3 hb2 hH2 hH3)
        | (refine step_append_lies _ rfl (.tmp 17) (.tmp 20) 22 rfl (w.heap.size + 3) 55 i1 (.slice none 0 0) 1 24 Try.underlying22 HJ.out.1 HJ.out.2.1 HJ.out.2.2.1 HJ.out.2.2.2 rfl (by decide) (.slice oa j op) j ys (by simp [Act.eval, Act.put]) HOWN.out ⟨w2.heap.size, 0, none⟩ 1 1 [.slice ca l.length cc] (by simp [Act.eval, Act.put]) rfl HNEWS.out (by simp [Value.oneCell']) (by decide) (by unfold maxLen; omega) (by omega) HSZ2.out (w2.heap.size + 1) (by simp) ?_; intro g cap w3 hown hgrow hat hlt; have hq := (hgrow.block (w.heap.size + 1 + 1) HX2.out.2.1 HX2.out.1).trans HX2.out.2.2; have e1 := (cell_row hq 1).trans (show (#[Value.int .i64 k, .slice oa j op] : Array Value)[1]? = some (.slice oa j op) from rfl); have e2 := frozen_row hq 1; have HQ3 := Lib.hid hq; have HO3 := Lib.hid hown; have HG3 := Lib.hid hgrow; have HA3 := Lib.hid hat; clear hown hgrow hat hlt hq))
      all_goals
        go_wp2
        go_roundw
        · have hb := HB2.out
          have hbs : wr.heap.size ≤ w2.heap.size := hb.size
          have hg := HG3.out
          have hgs : w2.heap.size + 1 ≤ w3.heap.size := by have := hg.size; simpa using this
          have k1 : ∀ x, x < wr.heap.size → (w2.alloc (.cells #[.slice ca l.length cc] 55)).heap[x]? = wr.heap[x]? := fun x hx => (Below.heap_alloc _ _ _ (by omega)).trans (hb.block x hx)
          have hP := OutAt.push (w := w2.alloc (.cells #[.slice ca l.length cc] 55)) (w' := w3) (B := w.heap.size + 3) (g := g) (cap := cap) (v := .slice oa j op) (x := .slice ca l.length cc) (L := L.take j) (l := l) (ys := ys)
            (fun i hi => (HYS.out i (by rw [← hlen]; exact hi)).keep fun x hx hl => ⟨⟨hx.1, hx.2.1, hx.2.2.to (k1 x hl)⟩, k1 x hl⟩) (by have := HOWN0.out.1; rw [hlen]; simpa using this)
            (HV.out.keep fun x hx hl => ⟨⟨by have := hx.1; omega, fun e => by have := (HBLK.out x e).2; have := hx.1; omega, hx.2.to (Below.heap_alloc _ _ _ hl)⟩, Below.heap_alloc _ _ _ hl⟩)
            (by rw [hlen]; exact HO3.out) hg (by
              rcases HA3.out with h | h
              · exact .inl h
              · exact .inr (by rw [h]; simp))
          rw [hlen, ← HLE.out, ← takeD' L [] j (by rw [HN.out]; exact hjn)] at hP
          refine ⟨j + 1, _, by go_num, by rw [HN.out]; omega, ?_, (heap_set_row _ HQ3.out).trans rfl, hP.keepB (fun x hx _ => Below.heap_setCell _ _ _ _ (by show x ≠ w.heap.size + 1 + 1; omega)), ?_, ?_⟩
          · rw [Below.heap_setCell _ _ _ _ (by show w.heap.size + 1 ≠ w.heap.size + 1 + 1; omega), hg.block (w.heap.size + 1) (by simp; omega) (fun e => by have := (HBLK.out _ e.symm).1; omega), k1 _ (by omega), HC1.out]
          · exact ((Below.grown ((HB.out.trans (Below.trans (below_drewN (Below.refl _ _) 1) (hb.mono (show w.heap.size ≤ wr.heap.size by omega)))).alloc (by omega) _) hg (by simp; omega) (fun x hx => by have := (HBLK.out _ hx).1; omega)).setCell (p := ⟨w.heap.size + 1 + 1, 1, none⟩) (by show w.heap.size ≤ w.heap.size + 1 + 1; omega) _)
          · simp [World.setCell]; omega
        · simp [intOf]; omega
    · obtain rfl : j = n := by omega
      have d1 : wr.cell? ⟨w.heap.size + 1 + 1, 0, none⟩ = some (.int .i64 k) := (cell_row hb2 0).trans rfl
      have d2 : wr.cell? ⟨w.heap.size + 1 + 1, 1, none⟩ = some (.slice oa j op) := (cell_row hb2 1).trans rfl
      have d3 : wr.cell? ⟨w.heap.size + 1, 0, none⟩ = some (.int .i64 0) := (cell_row HC1.out 0).trans rfl
      have d4 : wr.cell? ⟨w.heap.size + 1, 1, none⟩ = some (.slice none 0 0) := (cell_row HC1.out 1).trans rfl
      have d5 := frozen_row HC1.out 0
      have d6 := frozen_row HC1.out 1
      clear hb2
      go_wp2_with fail
      have hf : ((wr.setCell ⟨w.heap.size + 1, 0, none⟩ (.int .i64 k)).setCell ⟨w.heap.size + 1, 1, none⟩ (.slice oa j op)).heap[w.heap.size + 1]? = some (.cells #[.int .i64 k, .slice oa j op] 30 (0, 0)) :=
        (heap_set_row _ (heap_set_row _ HC1.out)).trans rfl
      refine bodyPost_ret (results_cell_row rfl _ _ (w.heap.size + 1) 30 #[.int .i64 k, .slice oa j op] (0, 0) _ rfl hf Try.underlying30 rfl (by kernel_rfl)) rfl ?_
      have ho := HO.out
      rw [List.take_of_length_le (by rw [HN.out]; exact Nat.le_refl _)] at ho
      refine ⟨⟨_, rfl, (ho.keepB (w' := (wr.setCell ⟨w.heap.size + 1, 0, none⟩ (.int .i64 k)).setCell ⟨w.heap.size + 1, 1, none⟩ (.slice oa j op)) fun x hx _ => ?_).txt.keep fun x hx _ => ⟨⟨by have := hx.1; omega, hx.2⟩, rfl⟩⟩, (HB.out.setCell (p := ⟨w.heap.size + 1, 0, none⟩) (by show w.heap.size ≤ w.heap.size + 1; omega) _).setCell (p := ⟨w.heap.size + 1, 1, none⟩) (by show w.heap.size ≤ w.heap.size + 1; omega) _⟩
      rw [Below.heap_setCell _ _ _ _ (by show x ≠ w.heap.size + 1; omega), Below.heap_setCell _ _ _ _ (by show x ≠ w.heap.size + 1; omega)]
theorem clone_calls (w : World) (N : Nat → Prop) (k : Int) (v : Value) (L : Txt) (hL : L.length ≤ 100000) (hR : ∀ l ∈ L, l.length ≤ 100000) (h : TxtAt w N v L) :
    Calls Try.prog 27 #[.agg #[.int .i64 k, v]] w fun e w' => (∃ v', e = .returned (.agg #[.int .i64 k, v']) ∧ TxtAt w' (fun b => w.heap.size ≤ b) v' L) ∧ Below w.heap.size w w' :=
  (clone_soft w N k v L hL hR h).mono fun e w' ⟨⟨v', h1, h2⟩, h3⟩ => ⟨⟨v', h1, h2.keep fun k hk _ => ⟨hk.1, rfl⟩⟩, h3⟩
end Go.Proofs.Ythalpbbjcagnnaa
