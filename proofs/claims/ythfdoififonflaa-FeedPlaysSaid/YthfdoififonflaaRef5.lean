/- The document's feed: Next at every state, and Drop; and both feeds side by side in one memory. -/
import Derived.Test.YthfdoififonflaaRef4
import Derived.LoopTactic
import Derived.Deep.LoopGhost
set_option linter.unusedSimpArgs false
set_option linter.unusedVariables false
namespace Go.Proofs.Ythfdoififonflaa
open Go.RowKit
theorem RefIn.ext {w : World} {B : Nat} {N : Nat → Prop} {r : Nat} {st : St} (h : RefAt w B N r st) (hBw : B ≤ w.heap.size) {X : Nat → Prop} (hX : ∀ k, X k → w.heap.size ≤ k) : RefAt w B (fun k => N k ∨ X k) r st := by
  obtain ⟨tv, pv, ys, h⟩ := h
  exact ⟨tv, pv, ys, h.to (fun k hk _ => .inl hk) (by rintro k (hk | hk); exact h.nB k hk; have := hX k hk; omega)⟩
theorem rnext_calls {w : World} {B : Nat} {N : Nat → Prop} {r : Nat} {st : St} (h : RefAt w B N r st) (hBw : B ≤ w.heap.size) (hk : st.ok) :
    Calls Try.prog 24 #[fp r] w fun e w' => e = .returned (tup st.next.1) ∧ RefAt w' B (fun k => N k ∨ w.heap.size ≤ k) r st.next.2 ∧ Keep N w w' := by
  obtain ⟨tv, pv, ys, h⟩ := h
  have ext : ∀ (w' : World) (st' : St), w.heap.size ≤ w'.heap.size → RefAt w' B N r st' → RefAt w' B (fun k => N k ∨ w.heap.size ≤ k) r st' := by
    rintro w' st' hs ⟨tv', pv', ys', h'⟩
    exact ⟨tv', pv', ys', h'.to (fun k hk _ => .inl hk) (by rintro k (hk | hk); exact h'.nB k hk; omega)⟩
  rcases hp : st.packs.getLast? with _ | top
  · have hnil : st.packs = [] := by simpa using hp
    obtain rfl : ys = [] := List.eq_nil_of_length_eq_zero (by rw [h.len, hnil]; rfl)
    rcases ht : st.typed with _ | ⟨k, l⟩
    · have e1 : st.next = ((0, false, 4), st) := by simp only [St.next, hp, ht]
      rw [e1]
      refine (rnext_none h hnil ht).mono ?_
      rintro e w' ⟨rfl, rfl⟩
      exact ⟨rfl, ext _ _ (Nat.le_refl _) ⟨_, _, _, h⟩, Keep.refl _ _⟩
    · have e1 : st.next = ((k, false, 0), { st with typed := l, used := 0 }) := by simp only [St.next, hp, ht]
      rw [e1]
      refine (rnext_typed h ht).mono ?_
      rintro e w' ⟨rfl, h1, h2⟩
      exact ⟨rfl, ext _ _ h2.size h1, h2⟩
  · have hne : st.packs ≠ [] := by rintro e; rw [e] at hp; simp at hp
    have hlast : st.packs = st.packs.dropLast ++ [top] := by
      obtain ⟨zs, hy⟩ := List.getLast?_eq_some_iff.1 hp
      rw [hy]; simp
    have hpos : 0 < ys.length := by rw [h.len]; exact List.length_pos_iff.2 hne
    by_cases hu : 200 ≤ st.used
    · have e1 : st.next = ((0, false, 12), { st with packs := [] }) := by simp only [St.next, hp]; rw [if_pos hu]
      rw [e1]
      refine (rnext_fuel h hpos (by have := hk.used; omega)).mono ?_
      rintro e w' ⟨rfl, h1, h2⟩
      exact ⟨rfl, ext _ _ h2.size h1, h2⟩
    · have e1 : st.next = ((top.headD 0, true, 0), { st with packs := if top.tail = [] then st.packs.dropLast else st.packs.dropLast ++ [top.tail], used := st.used + 1 }) := by
        simp only [St.next, hp]; rw [if_neg hu]
      rw [e1]
      have htop : top ∈ st.packs := by rw [hlast]; simp
      rcases top with _ | ⟨k, l⟩
      · exact absurd rfl (hk.short _ htop).2
      by_cases hl : l = []
      · subst hl
        refine (rnext_last h hlast (by omega) hk).mono ?_
        rintro e w' ⟨rfl, h1, h2⟩
        exact ⟨rfl, ext _ _ h2.size h1, h2⟩
      · refine (rnext_more h hBw hlast hl (by omega) hk).mono ?_
        rintro e w' ⟨rfl, h1, h2⟩
        refine ⟨rfl, ?_, h2⟩
        have e2 : (if (k :: l).tail = [] then st.packs.dropLast else st.packs.dropLast ++ [(k :: l).tail]) = st.packs.dropLast ++ [l] := if_neg hl
        rw [e2]
        exact h1
def rdRel (L : List (List Int)) (n : Nat) (c v : Value) : Prop := ∃ i : Nat, i ≤ n ∧ c = .int .i64 i ∧ v = .int .i64 (((L.take i).map List.length).sum : Nat)
set_option maxRecDepth 100000 in
theorem rdrop_calls {w : World} {B : Nat} {N : Nat → Prop} {r : Nat} {st : St} (h : RefAt w B N r st) (hk : st.ok) :
    Calls Try.prog 25 #[fp r] w fun e w' => e = .returned (.int .i64 st.total) ∧ RefAt w' B N r { st with packs := [] } ∧ Keep N w w' := by
  obtain ⟨tv, pv, ys, h⟩ := h
  obtain ⟨a, p, rfl⟩ := h.slice
  obtain ⟨n, hn⟩ : ∃ n, ys.length = n := ⟨_, rfl⟩
  have hpn : st.packs.length = n := by rw [← h.len, hn]
  have hn8 : n ≤ 8 := by have := hk.few; omega
  have c2 := h.c2
  rw [hn] at c2
  have z2 := frozen_row h.cell 2
  have hel : ∀ i, i < n → ∃ g x m c, a = some ⟨g, 0, none⟩ ∧ w.cell? ⟨g, i, none⟩ = some (.slice x m c) ∧ ((st.packs.take (i + 1)).map List.length).sum = ((st.packs.take i).map List.length).sum + m ∧ ((st.packs.take (i + 1)).map List.length).sum ≤ 100 * (i + 1) := by
    intro i hi
    obtain ⟨g, p', hv, -, -⟩ := h.row.form (by omega)
    obtain ⟨b, c, hy, -, -⟩ := h.packs i (by omega)
    have hcell := h.row.cells (g := g) (by rw [hv]; rfl) i (ys.getD i undef) (by simp [List.getD_eq_getElem?_getD, List.getElem?_eq_getElem (show i < ys.length by omega)])
    rw [add0, hy] at hcell
    refine ⟨g, _, _, _, by simp at hv; exact hv.1, hcell, ?_, ?_⟩
    · have hlt : i < st.packs.length := by omega
      have e : st.packs.getD i [] = st.packs[i] := by rw [List.getD_eq_getElem?_getD, List.getElem?_eq_getElem hlt]; rfl
      rw [e, List.take_succ_eq_append_getElem hlt, List.map_append, List.sum_append]
      rfl
    · have := sum_le (st.packs.take (i + 1)) (fun x hx => (hk.short x (List.mem_of_mem_take hx)).1)
      rw [List.length_take] at this; omega
  have HEL := Lib.hid hel
  have HH := Lib.hid h
  have HPN := Lib.hid hpn
  have H0 := Lib.hid (show st.total = ((st.packs.take n).map List.length).sum by rw [List.take_of_length_le (by omega)]; rfl)
  clear h hel hk hn hpn
  go_enter Try.func25, Try.ntmps25
  go_wp2
  go_loop [11, 3] (fun c v => rdRel st.packs n c v) (fun c _ => n - (intOf c).toNat)
  case atStart => exact ⟨0, Nat.zero_le _, rfl, by simp⟩
  case round =>
    obtain ⟨i, hi, rfl, rfl⟩ := hrel
    by_cases hlt : i < n
    · obtain ⟨g, x, m, c, rfl, hcell, hsum, hle⟩ := HEL.out i hlt
      have HS := Lib.hid hsum
      have hb : ((st.packs.take i).map List.length).sum + m ≤ 900 := by omega
      clear hsum hle
      generalize ((st.packs.take i).map List.length).sum = S at *
      go_wp2
      go_round
      case rel => exact ⟨i + 1, by omega, by go_num, by rw [HS.out]; go_num⟩
      case measure => simp [intOf]; omega
    · have : i = n := by omega
      subst this
      clear HEL
      generalize ((st.packs.take i).map List.length).sum = S at *
      go_wp2
      go_ret
      exact ⟨by show Ending.returned (.int .i64 (S : Int)) = Ending.returned (.int .i64 (st.total : Int)); rw [H0.out], ⟨_, _, _, HH.out.cleared⟩, HH.out.kset 2 _⟩
end Go.Proofs.Ythfdoififonflaa
