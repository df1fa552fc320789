/- The contracts of Push, Drop and Next over a feed's state. -/
import Derived.Test.YthfdoififonflaaActs
set_option linter.unusedSimpArgs false
set_option linter.unusedVariables false
namespace Go.Proofs.Ythfdoififonflaa
open Go.RowKit Go.Conc Go.Proofs.Ythfdoififonflaa.Ch
/-- A slice of whole numbers as it reads. -/
def IntsAt (w : World) (x : Value) (l : List Int) : Prop := ∃ a c, x = .slice a l.length c ∧ ∀ i, i < l.length → ∃ b off, a = some ⟨b, off, none⟩ ∧ w.cell? ⟨b, off + i, none⟩ = some (.int .i64 (l.getD i 0))
def St.total (st : St) : Nat := (st.packs.map List.length).sum
theorem tot_ext (L L' : Nat → List Int) : ∀ n, (∀ i, i < n → L i = L' i) → tot L n = tot L' n := by
  intro n
  induction n with
  | zero => intro _; rfl
  | succ n ih => intro h; simp only [tot]; rw [ih (fun i hi => h i (by omega)), h n (by omega)]
theorem tot_shift (L : Nat → List Int) : ∀ n, tot L (n + 1) = (L 0).length + tot (fun i => L (i + 1)) n := by
  intro n
  induction n with
  | zero => simp [tot]
  | succ n ih => rw [tot, ih]; simp only [tot]; omega
theorem tot_sum : ∀ ps : List (List Int), tot (fun i => ps.getD i []) ps.length = (ps.map List.length).sum := by
  intro ps
  induction ps with
  | nil => rfl
  | cons p ps ih =>
    rw [List.length_cons, tot_shift]
    simp only [List.getD_cons_zero, List.getD_cons_succ, List.map_cons, List.sum_cons]
    rw [ih]
section
variable {w : World} {N : Nat → Prop} {f : Nat} {st : St}
theorem drop_calls (h : FeedAt w N f st) (hk : st.ok) : Calls Try.prog 19 #[fp f] w fun e w' => e = .returned (.int .i64 st.total) ∧ FeedAt w' N f { st with packs := [] } ∧ Keep N w w' := by
  obtain ⟨T, v, cs, h⟩ := h
  obtain ⟨a, p, rfl⟩ := h.slice
  have hn : cs.length ≤ 8 := by rw [h.len]; exact hk.few
  have hch : ∀ i, ∃ cap s r, i < cs.length → w.heap[cs.getD i 0]? = some (chanOf cap (st.packs.getD i []) true s r) := by
    intro i
    by_cases hi : i < cs.length
    · obtain ⟨cap, s, r, e⟩ := h.packs i hi; exact ⟨cap, s, r, fun _ => e⟩
    · exact ⟨0, 0, 0, fun h' => absurd h' hi⟩
  let caps := fun i => Classical.choose (hch i)
  let ss := fun i => Classical.choose (Classical.choose_spec (hch i))
  let rs := fun i => Classical.choose (Classical.choose_spec (Classical.choose_spec (hch i)))
  have hch' : ∀ i, i < cs.length → w.heap[cs.getD i 0]? = some (chanOf (caps i) (st.packs.getD i []) true (ss i) (rs i)) := fun i => Classical.choose_spec (Classical.choose_spec (Classical.choose_spec (hch i)))
  have hcell : ∀ i, i < cs.length → ∃ g off, a = some ⟨g, off, none⟩ ∧ w.cell? ⟨g, off + i, none⟩ = some (.chan (some (cs.getD i 0))) ∧ ∀ j, j < cs.length → cs.getD j 0 ≠ g := by
    intro i hi
    obtain ⟨g, cap, hv, _, _⟩ := h.row.form (by omega)
    obtain ⟨rfl, -⟩ : a = some ⟨g, 0, none⟩ ∧ p = cap := by simpa using hv
    have := h.row.cells (g := g) rfl i (.chan (some (cs.getD i 0))) (by simp [List.getD_eq_getElem?_getD, hi])
    refine ⟨g, 0, rfl, ?_, fun j hj => ((h.vT g rfl).2 j hj).symm⟩
    have e : ((⟨g, 0, none⟩ : Addr).add i) = ⟨g, 0 + i, none⟩ := by unfold Addr.add; split <;> simp_all
    rw [← e]; exact this
  refine (drop_walk f cs.length p a (fun i => cs.getD i 0) caps ss rs (fun i => st.packs.getD i []) w hn h.c1 (h.z 1) hcell hch' (fun i hi => ?_) (fun i j hi hj hij => h.nodup i j hi hj hij) (fun i hi => (h.cne hi).1)).mono ?_
  · have : st.packs.getD i [] ∈ st.packs := by rw [List.getD_eq_getElem?_getD, List.getElem?_eq_getElem (by rw [← h.len]; exact hi)]; simp
    exact (hk.short _ this).1
  · rintro e w' ⟨rfl, wm, hd, rfl⟩
    have hN : ∀ k, ¬ N k → ∀ j, j < cs.length → k ≠ cs.getD j 0 := fun k hk j hj e => hk (e ▸ h.ncs j hj)
    have hfm : wm.heap[f]? = w.heap[f]? := hd.block f fun j hj => ((h.cne hj).1).symm
    have hTm : wm.heap[T]? = w.heap[T]? := hd.block T fun j hj => ((h.cne hj).2).symm
    refine ⟨?_, ⟨T, .slice none 0 0, [], ?_⟩, ?_⟩
    · rw [h.len, tot_sum]; rfl
    · have hF := heap_setCell_row (j := 1) (.slice none 0 0) (hfm.trans h.cell)
      exact { cell := hF, typed := h.typed.of ((setCell_ne _ _ _ _ _ h.ne).trans hTm), row := World.ownsRow_nil _ _ _ _, len := rfl, packs := fun i hi => by simp at hi, nodup := fun i j hi => by simp at hi, nf := h.nf, nT := h.nT, nv := fun k hk => by simp [Value.ownBlock] at hk, ncs := fun i hi => by simp at hi }
    · exact ⟨hd.os, hd.tape, hd.output, by rw [size_setCell]; exact Nat.le_of_eq hd.size.symm, fun k _ hk => (setCell_ne _ _ _ _ _ (fun e => hk (by rw [e]; exact h.nf))).trans (hd.block k (hN k hk))⟩
theorem push_calls (h : FeedAt w N f st) {x : Value} {l : List Int} (hx : IntsAt w x l) : Calls Try.prog 10 #[fp f, x] w fun e w' => e = .returned (.int .i64 (st.push l).1) ∧ FeedAt w' (fun k => N k ∨ w.heap.size ≤ k) f (st.push l).2 ∧ Keep N w w' := by
  obtain ⟨T, v, cs, h⟩ := h
  obtain ⟨b, c, rfl, hx⟩ := hx
  have same : FeedAt w (fun k => N k ∨ w.heap.size ≤ k) f st := ⟨T, v, cs, h.mono fun k hk => .inl hk⟩
  by_cases h100 : 100 < l.length
  · refine (push_long f l.length c b w h100).mono ?_
    rintro e w' ⟨rfl, rfl⟩
    have e1 : st.push l = (7, st) := by simp [St.push, h100]
    rw [e1]; exact ⟨rfl, same, Keep.refl _ _⟩
  by_cases h0 : l.length = 0
  · rw [h0]
    refine (push_none f c b w).mono ?_
    rintro e w' ⟨rfl, rfl⟩
    have e1 : st.push l = (0, st) := by simp only [St.push]; rw [if_neg h100, if_pos h0]
    rw [e1]; exact ⟨rfl, same, Keep.refl _ _⟩
  obtain ⟨a, p, rfl⟩ := h.slice
  by_cases h8 : 8 ≤ st.packs.length
  · refine (push_full f l.length c cs.length p b a w (by omega) (by omega) h.c1 (by rw [h.len]; exact h8)).mono ?_
    rintro e w' ⟨rfl, rfl⟩
    have e1 : st.push l = (6, st) := by simp only [St.push]; rw [if_neg h100, if_neg h0, if_pos h8]
    rw [e1]; exact ⟨rfl, same, Keep.refl _ _⟩
  have e1 : st.push l = (0, { st with packs := st.packs ++ [l] }) := by simp only [St.push]; rw [if_neg h100, if_neg h0, if_neg h8]
  obtain ⟨bb, off, rfl, -⟩ := hx 0 (by omega)
  have hr : ∀ i, i < l.length → w.cell? ⟨bb, off + i, none⟩ = some (.int .i64 (l.getD i 0)) := by
    intro i hi
    obtain ⟨b', off', e, h'⟩ := hx i hi
    obtain ⟨rfl, rfl⟩ : bb = b' ∧ off = off' := by simpa using e
    exact h'
  refine (push_walk f bb off l.length c cs.length p a l _ w (by omega) (by omega) rfl h.c1 (by rw [h.len]; omega) (h.z 1) hr h.row (fun e => (h.nv f e).2 rfl)).mono ?_
  rintro e w' ⟨rfl, g, cap, w1, hown, hgrow, hat, rfl⟩
  rw [e1]
  have hsz : ((w.drew.alloc (chanOf l.length l true l.length 0)).alloc (.cells #[.chan (some w.heap.size)] 50)).heap.size = w.heap.size + 2 := by rw [World.size_alloc, World.size_alloc]; rfl
  have old : ∀ k, k < w.heap.size → some k ≠ (Value.slice a cs.length p).ownBlock → w1.heap[k]? = w.heap[k]? := fun k hk hne =>
    ((hgrow.block k (by omega) hne).trans (Below.heap_alloc _ _ k (by rw [World.size_alloc]; show _ < w.heap.size + 1; omega))).trans (Below.heap_alloc _ _ k (show _ < w.heap.size from hk))
  have hnew : w1.heap[w.heap.size]? = some (chanOf l.length l true l.length 0) :=
    ((hgrow.block w.heap.size (by omega) (fun e => by have := (h.row.lt w.heap.size e.symm).2; omega)).trans (Below.heap_alloc _ _ _ (by rw [World.size_alloc]; show _ < w.heap.size + 1; omega))).trans (heap_alloc_new w.drew _)
  have hfl := lt_of_heap h.cell
  have hTl : T < w.heap.size := by obtain ⟨s, r, e⟩ := h.typed; exact lt_of_heap e
  have hcl : ∀ i, i < cs.length → cs.getD i 0 < w.heap.size := fun i hi => by obtain ⟨cap, s, r, e⟩ := h.packs i hi; exact lt_of_heap e
  have hf1 : w1.heap[f]? = _ := (old f hfl (fun e => (h.nv f e.symm).2 rfl)).trans h.cell
  have gne : g ≠ f := by
    rcases hat with e | rfl
    · exact (h.nv g e).2
    · omega
  have gd : ∀ i, i < cs.length → (cs ++ [w.heap.size]).getD i 0 = cs.getD i 0 := fun i hi => by simp [List.getD_eq_getElem?_getD, List.getElem?_append_left hi]
  have gl : (cs ++ [w.heap.size]).getD cs.length 0 = w.heap.size := by simp [List.getD_eq_getElem?_getD]
  have pd : ∀ i, i < cs.length → (st.packs ++ [l]).getD i [] = st.packs.getD i [] := fun i hi => by simp [List.getD_eq_getElem?_getD, List.getElem?_append_left (show i < st.packs.length by rw [← h.len]; exact hi)]
  have pl : (st.packs ++ [l]).getD cs.length [] = l := by rw [h.len]; simp [List.getD_eq_getElem?_getD]
  refine ⟨rfl, ⟨T, .slice (some ⟨g, 0, none⟩) (cs.length + 1) cap, cs ++ [w.heap.size], ?_⟩, ?_⟩
  · exact {
      cell := heap_setCell_row (j := 1) _ hf1
      typed := h.typed.of ((setCell_ne _ _ _ _ _ h.ne).trans (old T hTl (fun e => (h.vT T e.symm).1 rfl)))
      row := by
        have := ownsRow_of (w' := w1.setCell ⟨f, 1, none⟩ (.slice (some ⟨g, 0, none⟩) (cs.length + 1) cap)) hown fun k hk => setCell_ne _ _ _ _ _ (by have e : g = k := (by simpa [Value.ownBlock] using hk); rw [← e]; exact gne)
        simpa using this
      len := by simp [h.len]
      packs := by
        intro i hi
        simp only [List.length_append, List.length_cons, List.length_nil] at hi
        by_cases hi2 : i < cs.length
        · obtain ⟨cap', hc⟩ := h.packs i hi2
          rw [gd i hi2, pd i hi2]
          exact ⟨cap', hc.of ((setCell_ne _ _ _ _ _ (h.cne hi2).1).trans (old _ (hcl i hi2) (fun e => (h.vT _ e.symm).2 i hi2 rfl)))⟩
        · obtain rfl : i = cs.length := by omega
          rw [gl, pl]
          exact ⟨l.length, l.length, 0, (setCell_ne _ _ _ _ _ (by show w.heap.size ≠ f; omega)).trans hnew⟩
      nodup := by
        intro i j hi hj hij
        simp only [List.length_append, List.length_cons, List.length_nil] at hi hj
        by_cases hi2 : i < cs.length <;> by_cases hj2 : j < cs.length
        · rw [gd i hi2, gd j hj2]; exact h.nodup i j hi2 hj2 hij
        · obtain rfl : j = cs.length := by omega
          rw [gd i hi2, gl]; have := hcl i hi2; omega
        · obtain rfl : i = cs.length := by omega
          rw [gd j hj2, gl]; have := hcl j hj2; omega
        · omega
      nf := .inl h.nf
      nT := .inl h.nT
      nv := by
        intro k hk
        obtain rfl : g = k := by simpa [Value.ownBlock] using hk
        refine ⟨?_, gne⟩
        rcases hat with e | rfl
        · exact .inl (h.nv g e).1
        · exact .inr (by omega)
      ncs := by
        intro i hi
        simp only [List.length_append, List.length_cons, List.length_nil] at hi
        by_cases hi2 : i < cs.length
        · rw [gd i hi2]; exact .inl (h.ncs i hi2)
        · obtain rfl : i = cs.length := by omega
          rw [gl]; exact .inr (Nat.le_refl _) }
  · refine ⟨hgrow.os, hgrow.tape, hgrow.output, by rw [size_setCell]; have := hgrow.size; omega, fun k hk hn => ?_⟩
    exact (setCell_ne _ _ _ _ _ (fun e => hn (by rw [e]; exact h.nf))).trans (old k hk (fun e => hn (h.nv k e.symm).1))
end
end Go.Proofs.Ythfdoififonflaa
