/- The contract of Next over a feed's state, and what the states' steps keep. -/
import Derived.Test.YthfdoififonflaaActs2
set_option linter.unusedSimpArgs false
set_option linter.unusedVariables false
namespace Go.Proofs.Ythfdoififonflaa
open Go.RowKit Go.Conc Go.Proofs.Ythfdoififonflaa.Ch
def tup (r : Int × Bool × Int) : Value := .tuple #[.int .i64 r.1, .bool r.2.1, .int .i64 r.2.2]
theorem add0 (g m : Nat) : ((⟨g, 0, none⟩ : Addr).add m) = ⟨g, m, none⟩ := by unfold Addr.add; split <;> simp_all
theorem map_getD (cs : List Nat) (m : Nat) (h : m < cs.length) : (cs.map fun c => Value.chan (some c))[m]? = some (.chan (some (cs.getD m 0))) := by
  rw [List.getElem?_map, List.getElem?_eq_getElem h, List.getD_eq_getElem?_getD, List.getElem?_eq_getElem h]; rfl
section
variable {w : World} {N : Nat → Prop} {f : Nat} {st : St}
theorem next_calls (h : FeedAt w N f st) (hk : st.ok) : Calls Try.prog 9 #[fp f] w fun e w' => e = .returned (tup st.next.1) ∧ FeedAt w' N f st.next.2 ∧ Keep N w w' := by
  rcases hp : st.packs.getLast? with _ | top
  · have hnil : st.packs = [] := by simpa using hp
    obtain ⟨T, v, cs, h⟩ := h
    obtain ⟨a, p, rfl⟩ := h.slice
    have hc0 : cs.length = 0 := by rw [h.len, hnil]; rfl
    have h1 := h.c1
    rw [hc0] at h1
    obtain ⟨s, r, hT⟩ := h.typed
    rcases ht : st.typed with _ | ⟨k, l⟩
    · have e1 : st.next = ((0, false, 4), st) := by simp only [St.next, hp, ht]
      rw [e1]
      rw [ht] at hT
      refine (next_none f T st.room s r p a w h.c0 h1 hT).mono ?_
      rintro e w' ⟨rfl, rfl⟩
      exact ⟨rfl, ⟨T, _, cs, h⟩, Keep.refl _ _⟩
    · have e1 : st.next = ((k, false, 0), { st with typed := l, used := 0 }) := by simp only [St.next, hp, ht]
      rw [e1]
      rw [ht] at hT
      refine (next_typed f T st.room s r p k l a _ w h.c0 h1 h.c2 (h.z 2) hT h.ne).mono ?_
      rintro e w' ⟨rfl, rfl⟩
      have hfm : (w.setChan T st.room (kv l) false s (r + 1) false).heap[f]? = some (.cells #[.chan (some T), .slice a cs.length p, .int .i64 st.used] 49 (0, 0)) := (setChan_heap_ne _ _ _ _ _ _ _ _ h.ne).trans h.cell
      refine ⟨rfl, ⟨T, .slice a cs.length p, cs, ?_⟩, ?_⟩
      · exact { h with
          cell := heap_setCell_row (j := 2) _ hfm
          typed := ⟨s, r + 1, (setCell_ne _ _ _ _ _ h.ne).trans (setChan_heap _ _ _ _ _ _ _ (by rw [hT]; rfl))⟩
          row := ownsRow_of h.row fun k hk => (setCell_ne _ _ _ _ _ (h.nv k hk).2).trans (setChan_heap_ne _ _ _ _ _ _ _ _ ((h.vT k hk).1.symm))
          packs := fun i hi => by omega }
      · exact (Keep.setChan w h.nT _ _ _ _ _).trans ((Keep.setCell _ (a := ⟨f, 2, none⟩) h.nf _).mono fun k hk => .inl hk)
  · have hne : st.packs ≠ [] := by rintro e; rw [e] at hp; simp at hp
    have hlast : st.packs = st.packs.dropLast ++ [top] := by
      obtain ⟨ys, hy⟩ := List.getLast?_eq_some_iff.1 hp
      rw [hy]; simp
    have hpos : 0 < st.packs.length := List.length_pos_iff.2 hne
    by_cases hu : 200 ≤ st.used
    · have e1 : st.next = ((0, false, 12), { st with packs := [] }) := by simp only [St.next, hp]; rw [if_pos hu]
      rw [e1]
      have hD := drop_calls h hk
      obtain ⟨T, v, cs, h⟩ := h
      obtain ⟨a, p, rfl⟩ := h.slice
      exact next_push f cs.length p a (.slice a cs.length p) false 0 12 (fun w' => FeedAt w' N f { st with packs := [] } ∧ Keep N w w') w h.c1 (by rw [h.len]; exact hpos) (pushed_fuel f st.used st.total _ w h.c2 hu hD)
    · have e1 : st.next = ((top.headD 0, true, 0), { st with packs := if top.tail = [] then st.packs.dropLast else st.packs.dropLast ++ [top.tail], used := st.used + 1 }) := by
        simp only [St.next, hp]; rw [if_neg hu]
      rw [e1]
      have htop : top ∈ st.packs := by rw [hlast]; simp
      rcases top with _ | ⟨k, l⟩
      · exact absurd rfl (hk.short _ htop).2
      obtain ⟨T, v, cs, h⟩ := h
      obtain ⟨m, hm⟩ : ∃ m, cs.length = m + 1 := ⟨cs.length - 1, by have := h.len; omega⟩
      have hdl : st.packs.dropLast.length = m := by rw [List.length_dropLast, ← h.len]; omega
      have hpm : st.packs.getD m [] = k :: l := by rw [hlast]; simp [List.getD_eq_getElem?_getD, ← hdl]
      have hpi : ∀ i, i < m → st.packs.getD i [] = st.packs.dropLast.getD i [] := by
        intro i hi
        conv => lhs; rw [hlast]
        simp [List.getD_eq_getElem?_getD, List.getElem?_append_left (show i < st.packs.dropLast.length by rw [hdl]; exact hi)]
      obtain ⟨g, p, cur, rfl, -, hg, hnp, hmax, hcs, htake⟩ : ∃ g p cur, v = .slice (some ⟨g, 0, none⟩) cs.length p ∧ 0 ≤ g ∧ w.heap[g]? = some (.cells cur 50 (0, 0)) ∧ cs.length ≤ p ∧ p ≤ maxLen ∧ cur.size = p * 1 ∧ cur.toList.take (cs.length * 1) = cs.map fun c => .chan (some c) := by
        rcases h.row.2 with ⟨_, h0⟩ | h'
        · omega
        · exact h'
      obtain ⟨cap, s, r, hch⟩ := h.packs m (by omega)
      rw [hpm] at hch
      have hcg : cs.getD m 0 ≠ g := ((h.vT g rfl).2 m (by omega)).symm
      have hcell : w.cell? ⟨g, m, none⟩ = some (.chan (some (cs.getD m 0))) := by
        have := h.row.cells (g := g) rfl m (.chan (some (cs.getD m 0))) (map_getD cs m (by omega))
        have e := add0 g m
        rw [← e]; exact this
      have h1 := h.c1
      rw [hm] at h1
      have hcf := h.cne (i := m) (by omega)
      have hgf := (h.nv g rfl).2
      refine next_push f (m + 1) p (some ⟨g, 0, none⟩) (.slice (some ⟨g, 0, none⟩) cs.length p) true k 0 (fun w' => FeedAt w' N f { st with packs := if l = [] then st.packs.dropLast else st.packs.dropLast ++ [l], used := st.used + 1 } ∧ Keep N w w') w h1 (by omega) ?_
      refine (pushed_walk f m p g (cs.getD m 0) cap s r st.used k l w h1 h.c2 (by omega) (by have := hk.few; have := h.len; omega) (by omega) hcell hch (h.z 1) (h.z 2) hcf.1 hcg).mono ?_
      rintro e w' ⟨rfl, rfl⟩
      have hW : ∀ x, x ≠ cs.getD m 0 → (w.setChan (cs.getD m 0) cap (kv l) true s (r + 1) false).heap[x]? = w.heap[x]? := fun x hx => setChan_heap_ne _ _ _ _ _ _ _ _ (fun e => hx e.symm)
      have hTne : T ≠ cs.getD m 0 := hcf.2.symm
      have gdr : ∀ i, i < m → cs.dropLast.getD i 0 = cs.getD i 0 := fun i hi => by
        rw [List.getD_eq_getElem?_getD, List.getD_eq_getElem?_getD, List.dropLast_eq_take, List.getElem?_take, if_pos (by omega)]
      refine ⟨rfl, ?_, ?_⟩
      · by_cases hl : l = []
        · unfold takenW
          rw [if_pos hl, if_pos hl]
          have hw1 : ∀ x, x ≠ f → x ≠ cs.getD m 0 → (((w.setChan (cs.getD m 0) cap (kv l) true s (r + 1) false).setCell ⟨f, 1, none⟩ (.slice (some ⟨g, 0, none⟩) m p)).setCell ⟨f, 2, none⟩ (.int .i64 ((st.used : Int) + 1))).heap[x]? = w.heap[x]? := fun x h1 h2 => ((setCell_ne _ _ _ _ _ h1).trans (setCell_ne _ _ _ _ _ h1)).trans (hW x h2)
          refine ⟨T, .slice (some ⟨g, 0, none⟩) m p, cs.dropLast, ?_⟩
          have hlen : cs.dropLast.length = m := by rw [List.length_dropLast]; omega
          exact {
            cell := heap_setCell_row (j := 2) _ (heap_setCell_row (j := 1) _ ((hW f hcf.1.symm).trans h.cell))
            typed := h.typed.of (hw1 T h.ne hTne)
            row := by
              rw [hlen]
              refine ⟨by simp only [List.length_map, hlen]; omega, .inr ⟨g, p, cur, rfl, Nat.zero_le _, (hw1 g hgf hcg.symm).trans hg, by omega, hmax, hcs, ?_⟩⟩
              have : cur.toList.take (m * 1) = (cs.map fun c => Value.chan (some c)).take m := by
                rw [← htake, List.take_take]; congr 1; omega
              rw [this, ← List.map_take, List.dropLast_eq_take, hm]; simp
            len := by show cs.dropLast.length = st.packs.dropLast.length; rw [hlen, hdl]
            packs := by
              intro i hi
              rw [hlen] at hi
              obtain ⟨cap', hc⟩ := h.packs i (by omega)
              rw [gdr i hi]
              show ∃ cap, ChanAt _ (cs.getD i 0) (st.packs.dropLast.getD i []) true cap
              rw [← hpi i hi]
              exact ⟨cap', hc.of (hw1 _ (h.cne (by omega)).1 (h.nodup i m (by omega) (by omega) (by omega)))⟩
            nodup := by intro i j hi hj hij; rw [hlen] at hi hj; rw [gdr i hi, gdr j hj]; exact h.nodup i j (by omega) (by omega) hij
            nf := h.nf, nT := h.nT
            nv := fun k hk => h.nv k (by simpa [Value.ownBlock] using hk)
            ncs := fun i hi => by rw [hlen] at hi; rw [gdr i hi]; exact h.ncs i (by omega) }
        · unfold takenW
          rw [if_neg hl, if_neg hl]
          have hw1 : ∀ x, x ≠ f → x ≠ cs.getD m 0 → ((w.setChan (cs.getD m 0) cap (kv l) true s (r + 1) false).setCell ⟨f, 2, none⟩ (.int .i64 ((st.used : Int) + 1))).heap[x]? = w.heap[x]? := fun x h1 h2 => (setCell_ne _ _ _ _ _ h1).trans (hW x h2)
          refine ⟨T, .slice (some ⟨g, 0, none⟩) cs.length p, cs, ?_⟩
          exact { h with
            cell := heap_setCell_row (j := 2) _ ((hW f hcf.1.symm).trans h.cell)
            typed := h.typed.of (hw1 T h.ne hTne)
            row := ownsRow_of h.row fun k hk => hw1 k (h.nv k hk).2 ((h.vT k hk).2 m (by omega))
            len := by show cs.length = (st.packs.dropLast ++ [l]).length; rw [List.length_append, hdl, hm]; rfl
            packs := by
              intro i hi
              show ∃ cap, ChanAt _ (cs.getD i 0) ((st.packs.dropLast ++ [l]).getD i []) true cap
              by_cases hi2 : i < m
              · obtain ⟨cap', hc⟩ := h.packs i (by omega)
                rw [show (st.packs.dropLast ++ [l]).getD i [] = st.packs.getD i [] by rw [hpi i hi2]; simp [List.getD_eq_getElem?_getD, List.getElem?_append_left (show i < st.packs.dropLast.length by rw [hdl]; exact hi2)]]
                exact ⟨cap', hc.of (hw1 _ (h.cne (by omega)).1 (h.nodup i m (by omega) (by omega) (by omega)))⟩
              · obtain rfl : i = m := by omega
                rw [show (st.packs.dropLast ++ [l]).getD i [] = l by simp [List.getD_eq_getElem?_getD, ← hdl]]
                exact ⟨cap, s, r + 1, (setCell_ne _ _ _ _ _ hcf.1).trans (setChan_heap _ _ _ _ _ _ _ (by rw [hch]; rfl))⟩ }
      · have hNc : N (cs.getD m 0) := h.ncs m (by omega)
        have k1 := Keep.setChan w hNc cap (kv l) true s (r + 1)
        have k3 : ∀ W u, Keep (fun x => N x ∨ w.heap.size ≤ x) W (World.setCell W ⟨f, 2, none⟩ u) := fun W u => (Keep.setCell W (a := ⟨f, 2, none⟩) h.nf u).mono fun k hk => .inl hk
        have k2 : ∀ W u, Keep (fun x => N x ∨ w.heap.size ≤ x) W (World.setCell W ⟨f, 1, none⟩ u) := fun W u => (Keep.setCell W (a := ⟨f, 1, none⟩) h.nf u).mono fun k hk => .inl hk
        unfold takenW
        split
        · exact (k1.trans (k2 _ _)).trans (k3 _ _)
        · exact k1.trans (k3 _ _)
end
theorem St.type_ok {st : St} (h : st.ok) (k : Int) : (st.type k).2.ok := by
  unfold St.type; split
  · exact ⟨h.few, h.short, h.used⟩
  · exact h
theorem St.push_ok {st : St} (h : st.ok) (l : List Int) : (st.push l).2.ok := by
  unfold St.push
  split
  · exact h
  · split
    · exact h
    · split
      · exact h
      · refine ⟨by simp; omega, fun x hx => ?_, h.used⟩
        rcases List.mem_append.1 hx with hx | hx
        · exact h.short x hx
        · obtain rfl := List.mem_singleton.1 hx
          exact ⟨by omega, by rintro rfl; simp at *⟩
theorem St.drop_ok {st : St} (h : st.ok) : ({ st with packs := [] } : St).ok := ⟨by simp, fun x hx => by simp at hx, h.used⟩
theorem St.next_ok {st : St} (h : st.ok) : st.next.2.ok := by
  rcases hp : st.packs.getLast? with _ | top
  · rcases ht : st.typed with _ | ⟨k, l⟩
    · simp only [St.next, hp, ht]; exact h
    · simp only [St.next, hp, ht]; exact ⟨h.few, h.short, by simp⟩
  · have hlast : st.packs = st.packs.dropLast ++ [top] := by
      obtain ⟨ys, hy⟩ := List.getLast?_eq_some_iff.1 hp
      rw [hy]; simp
    by_cases hu : 200 ≤ st.used
    · simp only [St.next, hp]; rw [if_pos hu]; exact St.drop_ok h
    · simp only [St.next, hp]; rw [if_neg hu]
      have hd : ∀ x ∈ st.packs.dropLast, x.length ≤ 100 ∧ x ≠ [] := fun x hx => h.short x (by rw [hlast]; exact List.mem_append_left _ hx)
      have ht := (h.short top (by rw [hlast]; simp)).1
      have hlen := h.few
      refine ⟨?_, ?_, by simp; omega⟩
      · show (if top.tail = [] then st.packs.dropLast else st.packs.dropLast ++ [top.tail]).length ≤ 8
        have hpos : 0 < st.packs.length := by rw [hlast]; simp
        have : st.packs.length = st.packs.dropLast.length + 1 := by rw [List.length_dropLast]; omega
        split
        · omega
        · simp; omega
      · show ∀ x ∈ (if top.tail = [] then st.packs.dropLast else st.packs.dropLast ++ [top.tail]), _
        split
        · exact hd
        · rename_i hne
          intro x hx
          rcases List.mem_append.1 hx with hx | hx
          · exact hd x hx
          · obtain rfl := List.mem_singleton.1 hx
            exact ⟨by simp; omega, hne⟩
theorem St.new_ok (n : Nat) : (St.mk n [] [] 0).ok := ⟨by simp, fun x hx => by simp at hx, by simp⟩
end Go.Proofs.Ythfdoififonflaa
