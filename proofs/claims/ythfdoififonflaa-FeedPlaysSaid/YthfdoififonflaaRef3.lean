/- The contracts of the document's feed: its stages in memory, Push, Next and Drop. -/
import Derived.Test.YthfdoififonflaaRef2
set_option linter.unusedSimpArgs false
set_option linter.unusedVariables false
namespace Go.Proofs.Ythfdoififonflaa
open Go.RowKit
section
variable {w w1 : World} {B q : Nat} {N : Nat → Prop} {r : Nat} {tv pv : Value} {ys : List Value} {st : St}
theorem RefIn.rB (h : RefIn w B N r tv pv ys st) : B ≤ r := h.nB r h.nr
theorem RefIn.kset (h : RefIn w B N r tv pv ys st) (j : Nat) (u : Value) : Keep N w (w.setCell ⟨r, j, none⟩ u) := Keep.setCell w (a := ⟨r, j, none⟩) h.nr u
theorem RefIn.packs_set (h : RefIn w B N r tv pv ys st) (j : Nat) (u : Value) : ∀ i, i < ys.length → IntsB (w.setCell ⟨r, j, none⟩ u) B (ys.getD i undef) (st.packs.getD i []) :=
  fun i hi => (h.packs i hi).keep fun k hk _ => setCell_ne _ _ _ _ _ (by have := h.rB; omega)
theorem RefIn.fuel (h : RefIn w B N r tv pv ys st) (u : Nat) (x : Int) (hx : x = 200 - (u : Int)) : RefIn (w.setCell ⟨r, 3, none⟩ (.int .i64 x)) B N r tv pv ys { st with used := u } :=
  { h with
    cell := by rw [hx]; exact heap_setCell_row (j := 3) _ h.cell
    typed := h.typed.of fun k hk => setCell_ne _ _ _ _ _ (h.ntv k hk).2
    row := ownsRow_of h.row fun k hk => setCell_ne _ _ _ _ _ (h.npv k hk).2.1
    packs := h.packs_set 3 _ }
theorem RefIn.cleared (h : RefIn w B N r tv pv ys st) : RefIn (w.setCell ⟨r, 2, none⟩ (.slice none 0 0)) B N r tv (.slice none 0 0) [] { st with packs := [] } :=
  { h with
    cell := heap_setCell_row (j := 2) _ h.cell
    typed := h.typed.of fun k hk => setCell_ne _ _ _ _ _ (h.ntv k hk).2
    row := World.ownsRow_nil _ _ _ _
    len := rfl
    packs := fun i hi => by simp at hi
    npv := fun k hk => by simp [Value.ownBlock] at hk }
theorem RefIn.popped {m p : Nat} {a : Option Addr} (h : RefIn w B N r tv (.slice a (m + 1) p) ys st) (hm : ys.length = m + 1) : RefIn (w.setCell ⟨r, 2, none⟩ (.slice a m p)) B N r tv (.slice a m p) ys.dropLast { st with packs := st.packs.dropLast } := by
  have hlen : ys.dropLast.length = m := by rw [List.length_dropLast, hm]; rfl
  have hpl : st.packs.length = m + 1 := by rw [← h.len, hm]
  have hy : ∀ i, i < m → ys.dropLast.getD i undef = ys.getD i undef := fun i hi => by
    rw [List.getD_eq_getElem?_getD, List.getD_eq_getElem?_getD, List.dropLast_eq_take, List.getElem?_take, if_pos (by omega)]
  have hp : ∀ i, i < m → st.packs.dropLast.getD i [] = st.packs.getD i [] := fun i hi => by
    rw [List.getD_eq_getElem?_getD, List.getD_eq_getElem?_getD, List.dropLast_eq_take, List.getElem?_take, if_pos (by omega)]
  exact { h with
    cell := heap_setCell_row (j := 2) _ h.cell
    typed := h.typed.of fun k hk => setCell_ne _ _ _ _ _ (h.ntv k hk).2
    row := by
      have hr := ownsRow_of (w' := w.setCell ⟨r, 2, none⟩ (.slice a m p)) h.row fun k hk => setCell_ne _ _ _ _ _ (h.npv k hk).2.1
      rcases hr.2 with ⟨e, h0⟩ | ⟨g, cap, cur, e, hb, hgg, h1, h2, h3, h4⟩
      · omega
      · obtain ⟨rfl, -, rfl⟩ : a = some ⟨g, 0, none⟩ ∧ m + 1 = ys.length ∧ p = cap := by simpa using e
        rw [hlen]
        refine ⟨by rw [hlen]; omega, .inr ⟨g, p, cur, rfl, hb, hgg, by omega, h2, h3, ?_⟩⟩
        have : cur.toList.take (m * 1) = ys.take m := by rw [← h4, List.take_take]; congr 1; omega
        rw [this, List.dropLast_eq_take, hm]; simp
    len := by show ys.dropLast.length = st.packs.dropLast.length; rw [List.length_dropLast, List.length_dropLast, h.len]
    packs := fun i hi => by
      rw [hlen] at hi
      rw [hy i hi]
      show IntsB _ B _ (st.packs.dropLast.getD i [])
      rw [hp i hi]
      exact h.packs_set 2 _ i (by omega)
    npv := fun k hk => h.npv k (by cases a with | none => simp [Value.ownBlock] at hk | some x => exact hk) }
theorem RefIn.pushed {g cap m : Nat} {o : Obj} {y : Value} {l : List Int} (h : RefIn w B N r tv pv ys st) (hm : ys.length = m) (hBw : B ≤ w.heap.size) (hy : IntsB w B y l)
    (hown : w1.ownsRow 0 22 1 (.slice (some ⟨g, 0, none⟩) (m + 1) cap) (m + 1) (ys ++ [y])) (hg : ((w.drewN q).alloc o).grownBy w1 pv.ownBlock) (hat : pv.ownBlock = some g ∨ g = w.heap.size + 1) :
    w1.heap[r]? = w.heap[r]? ∧ RefIn (w1.setCell ⟨r, 2, none⟩ (.slice (some ⟨g, 0, none⟩) (m + 1) cap)) B (fun k => N k ∨ w.heap.size ≤ k) r tv (.slice (some ⟨g, 0, none⟩) (m + 1) cap) (ys ++ [y]) { st with packs := st.packs ++ [l] } ∧
      Keep N w (w1.setCell ⟨r, 2, none⟩ (.slice (some ⟨g, 0, none⟩) (m + 1) cap)) := by
  subst hm
  have hsz : ((w.drewN q).alloc o).heap.size = w.heap.size + 1 := by simp
  have old : ∀ x, x < w.heap.size → some x ≠ pv.ownBlock → w1.heap[x]? = w.heap[x]? := fun x hx hne => (hg.block x (by omega) hne).trans (Below.heap_alloc _ _ _ hx)
  have hrl := lt_of_heap h.cell
  have hrp : some r ≠ pv.ownBlock := fun e => (h.npv r e.symm).2.1 rfl
  have hG : (N g ∨ w.heap.size ≤ g) ∧ g ≠ r ∧ tv.ownBlock ≠ some g := by
    rcases hat with e | e
    · exact ⟨.inl (h.npv g e).1, (h.npv g e).2.1, (h.npv g e).2.2⟩
    · exact ⟨.inr (by omega), by omega, fun e2 => by have := h.typed.lt g e2; omega⟩
  refine ⟨old r hrl hrp, ?_, ?_⟩
  · exact {
      cell := heap_setCell_row (j := 2) _ ((old r hrl hrp).trans h.cell)
      typed := h.typed.of fun k hk => (setCell_ne _ _ _ _ _ (h.ntv k hk).2).trans (old k (h.typed.lt k hk) (fun e => (h.npv k e.symm).2.2 hk))
      row := by
        have := ownsRow_of (w' := w1.setCell ⟨r, 2, none⟩ (.slice (some ⟨g, 0, none⟩) (ys.length + 1) cap)) hown fun k hk => setCell_ne _ _ _ _ _ (by have e : g = k := (by simpa [Value.ownBlock] using hk); rw [← e]; exact hG.2.1)
        simpa using this
      len := by simp [h.len]
      packs := by
        have kp : ∀ k, k < B → k < w.heap.size → (w1.setCell ⟨r, 2, none⟩ (.slice (some ⟨g, 0, none⟩) (ys.length + 1) cap)).heap[k]? = w.heap[k]? := fun k hk hl =>
          (setCell_ne _ _ _ _ _ (by have := h.rB; omega)).trans (old k hl (fun e => by have := h.nB k (h.npv k e.symm).1; omega))
        intro i hi
        simp only [List.length_append, List.length_cons, List.length_nil] at hi
        by_cases hi2 : i < ys.length
        · have e1 : (ys ++ [y]).getD i undef = ys.getD i undef := by simp [List.getD_eq_getElem?_getD, List.getElem?_append_left hi2]
          have e2 : (st.packs ++ [l]).getD i [] = st.packs.getD i [] := by simp [List.getD_eq_getElem?_getD, List.getElem?_append_left (show i < st.packs.length by rw [← h.len]; exact hi2)]
          rw [e1]; show IntsB _ B _ ((st.packs ++ [l]).getD i []); rw [e2]
          exact (h.packs i hi2).keep kp
        · obtain rfl : i = ys.length := by omega
          have e1 : (ys ++ [y]).getD ys.length undef = y := by simp [List.getD_eq_getElem?_getD]
          have e2 : (st.packs ++ [l]).getD ys.length [] = l := by rw [h.len]; simp [List.getD_eq_getElem?_getD]
          rw [e1]; show IntsB _ B _ ((st.packs ++ [l]).getD ys.length []); rw [e2]
          exact hy.keep kp
      nr := .inl h.nr
      ntv := fun k hk => ⟨.inl (h.ntv k hk).1, (h.ntv k hk).2⟩
      npv := fun k hk => by obtain rfl : g = k := (by simpa [Value.ownBlock] using hk); exact hG
      nB := by rintro k (hk | hk); exact h.nB k hk; omega }
  · refine ⟨hg.os, hg.tape, hg.output, by rw [size_setCell]; have := hg.size; omega, fun k hk hn => ?_⟩
    exact (setCell_ne _ _ _ _ _ (fun e => hn (by rw [e]; exact h.nr))).trans (old k hk (fun e => hn (h.npv k e.symm).1))
end
theorem infoSl : (Try.prog.info? 22).map (fun i => (i.zero, i.size, i.bytes)) = some (some (.slice none 0 0), 1, 24) := by kernel_rfl
theorem Keep.same (N : Nat → Prop) (w : World) (q : Nat) : Keep N w (w.drewN q) := ⟨rfl, rfl, rfl, Nat.le_refl _, fun _ _ _ => rfl⟩
set_option maxRecDepth 100000 in
theorem rpush_calls {w : World} {B : Nat} {N : Nat → Prop} {r : Nat} {st : St} {x : Value} {l : List Int} (h : RefAt w B N r st) (hBw : B ≤ w.heap.size) (hk : st.ok) (hx : IntsB w B x l) :
    Calls Try.prog 23 #[fp r, x] w fun e w' => e = .returned (.int .i64 (st.push l).1) ∧ RefAt w' B (fun k => N k ∨ w.heap.size ≤ k) r (st.push l).2 ∧ Keep N w w' := by
  obtain ⟨tv, pv, ys, h⟩ := h
  have same : RefAt w B (fun k => N k ∨ w.heap.size ≤ k) r st := ⟨tv, pv, ys, h.to (fun k hk _ => .inl hk) (by rintro k (hk | hk); exact h.nB k hk; omega)⟩
  obtain ⟨b, c, rfl, hlc, -⟩ := id hx
  obtain ⟨n, hn⟩ : ∃ n, l.length = n := ⟨_, rfl⟩
  have HX := Lib.hid hx
  rw [hn] at HX ⊢
  by_cases h100 : 100 < n
  · have e1 : st.push l = (7, st) := by simp only [St.push]; rw [if_pos (by omega)]
    rw [e1]
    have HS := Lib.hid same
    clear hn e1 hx h same
    go_enter Try.func23, Try.ntmps23
    go_wp2
    go_ret
    exact ⟨rfl, HS.out, Keep.refl _ _⟩
  by_cases h0 : n = 0
  · have e1 : st.push l = (0, st) := by simp only [St.push]; rw [if_neg (by omega), if_pos (by omega)]
    rw [e1]
    have HS := Lib.hid same
    clear hn e1 hx h same
    subst h0
    go_enter Try.func23, Try.ntmps23
    go_wp2
    go_ret
    exact ⟨rfl, HS.out, Keep.refl _ _⟩
  have hn0 : ((n : Int) == 0) = false := by rw [beq_eq_false_iff_ne]; omega
  obtain ⟨a, p, rfl⟩ := h.slice
  obtain ⟨m, hm⟩ : ∃ m, ys.length = m := ⟨_, rfl⟩
  have c2 := h.c2
  rw [hm] at c2
  by_cases h8 : 8 ≤ st.packs.length
  · have e1 : st.push l = (6, st) := by simp only [St.push]; rw [if_neg (by omega), if_neg (by omega), if_pos h8]
    rw [e1]
    have hm8 : 7 < m := by have := h.len; omega
    have HS := Lib.hid same
    clear hn e1 hx h same hm h8 h0
    go_enter Try.func23, Try.ntmps23
    go_wp2
    go_ret
    exact ⟨rfl, HS.out, Keep.refl _ _⟩
  · have e1 : st.push l = (0, { st with packs := st.packs ++ [l] }) := by simp only [St.push]; rw [if_neg (by omega), if_neg (by omega), if_neg h8]
    rw [e1]
    have hm8 : m ≤ 7 := by have := h.len; omega
    obtain ⟨i0, hi, hz0, hz1, hz2⟩ := info_parts infoSl
    have HI := Lib.hid hi
    have HZ0 := Lib.hid hz0
    have HZ1 := Lib.hid hz1
    have HZ2 := Lib.hid hz2
    have HH := Lib.hid h
    have HM := Lib.hid hm
    have hrow := h.row
    rw [hm] at hrow
    have HOWN := Lib.hid (hrow.alloc (.cells #[.slice b n c] 22))
    have HNEWS := Lib.hid (cell_one_new w (.slice b n c) 22)
    have HMAX := Lib.hid (show m + 1 ≤ maxLen by unfold maxLen; omega)
    have HBYTES := Lib.hid (show (m + 1) * 24 ≤ 140737488355328 by omega)
    have hrl := lt_of_heap h.cell
    clear hi hz0 hz1 hz2 hn e1 hx h same hm h8 h0 hrow
    go_enter Try.func23, Try.ntmps23
    go_wp2_with (at_builtin; go_must (refine wpList_append_lies _ rfl (.tmp 21) (.tmp 23) 41 rfl 0 22 i0 (.slice none 0 0) 1 24 Try.underlying41 HI.out HZ0.out HZ1.out HZ2.out rfl (by decide) (.slice a m p) m ys rfl HOWN.out ⟨w.heap.size, 0, none⟩ 1 1 [.slice b n c] rfl rfl HNEWS.out (by simp [Value.oneCell']) (by decide) HMAX.out HBYTES.out (by omega) (w.heap.size + 1) (by simp) ?_; intro g cap w1 hown hgrow hat hlt; have hP := HH.out.pushed (q := 0) HM.out hBw HX.out hown (by rw [HM.out]; exact hgrow) (by rw [HM.out]; exact hat); have hblk := hP.1.trans HH.out.cell; have g1 : w1.cell? ⟨r, 2, none⟩ = some (.slice a m p) := (cell_of_row w1 r 2 _ _ _ hblk).trans (by rw [HM.out]; rfl); have g2 := frozen_row hblk 2; have HP := Lib.hid hP; clear hown hgrow hat hlt hP hblk))
    go_ret
    exact ⟨rfl, ⟨_, _, _, HP.out.2.1⟩, HP.out.2.2⟩
end Go.Proofs.Ythfdoififonflaa
