/- Walk: the document's Set, where it is refused for what it was given; rows that are put together out of rows that lie below. -/
import Derived.Test.YthalpbbjcagnnaaRefAll
set_option linter.unusedSimpArgs false
set_option linter.unusedVariables false
namespace Go.Proofs.Ythalpbbjcagnnaa
open Go.RowKit
/-- Rows that are put together: the row of rows is its own, from B on; each row lies below H. -/
def OutN (w : World) (H B : Nat) (M : Nat → Prop) (v : Value) (L : Txt) : Prop := ∃ ys : List Value, w.ownsRow B 55 1 v L.length ys ∧ ∀ i, i < L.length → RowAt w (fun k => M k ∧ k < H) (ys.getD i undef) (L.getD i [])
theorem OutN.nil (w : World) (H B : Nat) (M : Nat → Prop) : OutN w H B M (.slice none 0 0) [] := ⟨[], ⟨rfl, .inl ⟨rfl, rfl⟩⟩, fun i hi => by simp at hi⟩
theorem OutN.slice {w : World} {H B : Nat} {M : Nat → Prop} {v : Value} {L : Txt} (h : OutN w H B M v L) : ∃ a p, v = .slice a L.length p := by obtain ⟨ys, h, _⟩ := h; exact own_slice h
theorem OutN.txt {w : World} {H B : Nat} {M : Nat → Prop} {v : Value} {L : Txt} (h : OutN w H B M v L) : TxtAt w (fun k => (M k ∧ k < H) ∨ B ≤ k) v L := by
  obtain ⟨ys, ⟨hl, h0⟩, hr⟩ := h
  rcases h0 with ⟨rfl, h0⟩ | ⟨g, cap, cur, rfl, hb, hg, hc1, hc2, hsz, hcur⟩
  · exact ⟨none, 0, by rw [h0], by rw [h0]; exact Nat.le_refl _, by decide, fun i hi => by omega⟩
  · refine ⟨_, _, rfl, hc1, hc2, fun i hi => ⟨g, 0, ys.getD i undef, rfl, .inr hb, ?_, (hr i hi).keep fun k hk _ => ⟨.inl hk, rfl⟩⟩⟩
    have h5 : (cur.toList.take (L.length * 1))[i]? = some (ys.getD i undef) := by
      rw [hcur]; simp [List.getD_eq_getElem?_getD, List.getElem?_eq_getElem (show i < ys.length by omega)]
    rw [List.getElem?_take, if_pos (by omega)] at h5
    simp only [World.cell?, hg, Nat.zero_add]
    simpa using h5
theorem OutN.keep {w w' : World} {H B : Nat} {M : Nat → Prop} {v : Value} {L : Txt} (h : OutN w H B M v L) (hH : ∀ k, k < H → w'.heap[k]? = w.heap[k]?) (hB : ∀ k, B ≤ k → k < w.heap.size → w'.heap[k]? = w.heap[k]?) : OutN w' H B M v L := by
  obtain ⟨ys, h1, hr⟩ := h
  refine ⟨ys, ⟨h1.1, ?_⟩, fun i hi => (hr i hi).keep fun k hk hl => ⟨hk, hH k hk.2⟩⟩
  rcases h1.2 with h0 | ⟨g, cap, cur, e, hb, hg, rest⟩
  · exact .inl h0
  · exact .inr ⟨g, cap, cur, e, hb, (hB g hb (lt_of_heap hg)).trans hg, rest⟩
theorem OutN.push {w w' : World} {H B g cap : Nat} {M : Nat → Prop} {x : Value} {L : Txt} {l : List ByteArray} {ys : List Value} (hys : ∀ i, i < L.length → RowAt w (fun k => M k ∧ k < H) (ys.getD i undef) (L.getD i [])) (hyl : ys.length = L.length)
    (hx : RowAt w (fun k => M k ∧ k < H) x l) (hown : w'.ownsRow B 55 1 (.slice (some ⟨g, 0, none⟩) (L.length + 1) cap) (L.length + 1) (ys ++ [x])) (hk : ∀ k, k < H → w'.heap[k]? = w.heap[k]?) : OutN w' H B M (.slice (some ⟨g, 0, none⟩) (L.length + 1) cap) (L ++ [l]) := by
  refine ⟨ys ++ [x], by simpa using hown, fun i hi => ?_⟩
  simp at hi
  by_cases h : i < L.length
  · have := (hys i h).keep (w' := w') (N' := fun k => M k ∧ k < H) fun k hb _ => ⟨hb, hk k hb.2⟩
    simpa [List.getD_eq_getElem?_getD, List.getElem?_append, h, hyl] using this
  · obtain rfl : i = L.length := by omega
    have := hx.keep (w' := w') (N' := fun k => M k ∧ k < H) fun k hb _ => ⟨hb, hk k hb.2⟩
    simpa [List.getD_eq_getElem?_getD, List.getElem?_append, hyl] using this
set_option maxRecDepth 100000 in
set_option maxHeartbeats 1000000 in
theorem refSet_arg (w : World) (M : Nat → Prop) (r : Nat) (x k : Int) (y : Value) (Y : Txt) (hy : TxtAt w M y Y) (hbad : (letR x = -1 ∧ x ≠ 0) ∨ k < 0 ∨ 2 < k ∨ Y.length = 0) (h0 : letR x = -1 ∨ ∃ i : Nat, letR x = i) :
    Calls Try.prog 29 #[.pointer (some ⟨r, 0, none⟩), .int .i64 x, .agg #[.int .i64 k, y]] w fun e w' => e = .returned (.int .i64 1) ∧ Below w.heap.size w w' := by
  obtain ⟨a, c, rfl, g1, g2, -⟩ := hy
  generalize Y.length = m at *
  have HW := Lib.hid (fun w => Letter_calls x w)
  have HB1 := Lib.hid (show Below w.heap.size w (w.alloc (.cells #[.int .i64 k, .slice a m c] 24)) from (Below.refl _ _).alloc (Nat.le_refl _) _)
  by_cases h1 : letR x = -1 ∧ x ≠ 0
  · have hxb : (x == 0) = false := by simpa using h1.2
    have hxc : (x != 0) = true := by simpa using h1.2
    rw [h1.1] at HW
    clear hbad h0 h1
    go_enter Try.func29, Try.ntmps29
    go_wp2_with (go_at_call 38; refine (HW.out _).mono ?_; rintro e w' ⟨rfl, rfl⟩)
    go_ret
    exact ⟨rfl, HB1.out⟩
  · have hbad' : k < 0 ∨ 2 < k ∨ m = 0 := hbad.resolve_left h1
    have hcases : (∃ i : Nat, letR x = i) ∨ x = 0 := by
      rcases h0 with h | h
      · exact .inr (Decidable.byContradiction fun hx => h1 ⟨h, hx⟩)
      · exact .inl h
    clear hbad h1 h0
    by_cases hk0 : k < 0
    · clear hbad'
      rcases hcases with ⟨i, hi⟩ | rfl
      · rw [hi] at HW
        clear hi
        go_enter Try.func29, Try.ntmps29
        go_wp2_with (go_at_call 38; refine (HW.out _).mono ?_; rintro e w' ⟨rfl, rfl⟩)
        go_ret
        exact ⟨rfl, HB1.out⟩
      · rw [show letR 0 = -1 from rfl] at HW
        go_enter Try.func29, Try.ntmps29
        go_wp2_with (go_at_call 38; refine (HW.out _).mono ?_; rintro e w' ⟨rfl, rfl⟩)
        go_ret
        exact ⟨rfl, HB1.out⟩
    · by_cases hk2 : 2 < k
      · clear hbad'
        rcases hcases with ⟨i, hi⟩ | rfl
        · rw [hi] at HW
          clear hi
          go_enter Try.func29, Try.ntmps29
          go_wp2_with (go_at_call 38; refine (HW.out _).mono ?_; rintro e w' ⟨rfl, rfl⟩)
          go_ret
          exact ⟨rfl, HB1.out⟩
        · rw [show letR 0 = -1 from rfl] at HW
          go_enter Try.func29, Try.ntmps29
          go_wp2_with (go_at_call 38; refine (HW.out _).mono ?_; rintro e w' ⟨rfl, rfl⟩)
          go_ret
          exact ⟨rfl, HB1.out⟩
      · obtain rfl : m = 0 := by omega
        clear hbad'
        rcases hcases with ⟨i, hi⟩ | rfl
        · rw [hi] at HW
          clear hi
          go_enter Try.func29, Try.ntmps29
          go_wp2_with (go_at_call 38; refine (HW.out _).mono ?_; rintro e w' ⟨rfl, rfl⟩)
          go_ret
          exact ⟨rfl, HB1.out⟩
        · rw [show letR 0 = -1 from rfl] at HW
          go_enter Try.func29, Try.ntmps29
          go_wp2_with (go_at_call 38; refine (HW.out _).mono ?_; rintro e w' ⟨rfl, rfl⟩)
          go_ret
          exact ⟨rfl, HB1.out⟩
end Go.Proofs.Ythalpbbjcagnnaa
