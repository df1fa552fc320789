/- The contracts of the document's feed: Next and Drop. -/
import Derived.Test.YthfdoififonflaaRef3
set_option linter.unusedSimpArgs false
set_option linter.unusedVariables false
namespace Go.Proofs.Ythfdoififonflaa
open Go.RowKit
section
variable {w w1 : World} {B q : Nat} {N : Nat → Prop} {r : Nat} {tv pv : Value} {ys : List Value} {st : St}
theorem RefIn.tail {g off cap n : Nat} {k : Int} {l : List Int} (h : RefIn w B N r (.slice (some ⟨g, off, none⟩) (n + 1) cap) pv ys st) (ht : st.typed = k :: l) (hn : l.length = n) (a' : Addr) (ha : a' = if cap = 1 then ⟨g, off, none⟩ else ⟨g, off + 1, none⟩) :
    RefIn (w.setCell ⟨r, 1, none⟩ (.slice (some a') n (cap - 1))) B N r (.slice (some a') n (cap - 1)) pv ys { st with typed := l } := by
  have hb : a'.block = g := by rw [ha]; split <;> rfl
  exact { h with
    cell := heap_setCell_row (j := 1) _ h.cell
    typed := by
      rcases h.typed with ⟨e, _⟩ | ⟨g', off', cap', cur, e, hg, h1, h2, h3⟩
      · cases e
      · rw [ht] at e h1 h3
        obtain ⟨⟨rfl, rfl⟩, -, rfl⟩ : (g = g' ∧ off = off') ∧ n + 1 = (k :: l).length ∧ cap = cap' := by simpa using e
        simp only [List.length_cons] at h1 h3
        have hgr : g ≠ r := (h.ntv g rfl).2
        by_cases hc : cap = 1
        · rw [if_pos hc] at ha
          have : l = [] := List.eq_nil_of_length_eq_zero (by omega)
          subst this
          simp at hn
          subst hn
          rw [ha]
          exact .inr ⟨g, off, cap - 1, cur, rfl, (setCell_ne _ _ _ _ _ hgr).trans hg, by simp, by omega, fun i hi => by simp at hi⟩
        · rw [if_neg hc] at ha
          subst hn
          rw [ha]
          refine .inr ⟨g, off + 1, cap - 1, cur, rfl, (setCell_ne _ _ _ _ _ hgr).trans hg, by show l.length ≤ cap - 1; omega, by omega, fun i hi => ?_⟩
          have hi' : i < l.length := hi
          have := h3 (i + 1) (by omega)
          rw [show off + 1 + i = off + (i + 1) by omega, this]; simp
    row := ownsRow_of h.row fun k hk => setCell_ne _ _ _ _ _ (h.npv k hk).2.1
    packs := h.packs_set 1 _
    ntv := fun k hk => h.ntv k (by simpa [Value.ownBlock, hb] using hk)
    npv := fun k hk => ⟨(h.npv k hk).1, (h.npv k hk).2.1, by have := (h.npv k hk).2.2; simpa [Value.ownBlock, hb] using this⟩ }
end
theorem sub_fuel (u : Nat) (hu : u < 200) : (200 : Int) - (u : Int) - 1 = 200 - ((u + 1 : Nat) : Int) := by omega
set_option maxRecDepth 100000 in
set_option maxHeartbeats 1000000 in
theorem rnext_none {w : World} {B : Nat} {N : Nat → Prop} {r : Nat} {tv pv : Value} {st : St} (h : RefIn w B N r tv pv [] st) (hp : st.packs = []) (ht : st.typed = []) :
    Calls Try.prog 24 #[fp r] w fun e w' => e = .returned (.tuple #[.int .i64 0, .bool false, .int .i64 4]) ∧ w = w' := by
  obtain ⟨a, p, rfl⟩ := h.slice
  obtain ⟨b, c, rfl⟩ := h.typed.len
  have c1 := h.c1
  have c2 := h.c2
  rw [ht] at c1
  clear h hp ht
  go_enter Try.func24, Try.ntmps24
  go_wp2
  go_ret3
  exact ⟨rfl, rfl⟩
set_option maxRecDepth 100000 in
set_option maxHeartbeats 1000000 in
theorem rnext_typed {w : World} {B : Nat} {N : Nat → Prop} {r : Nat} {tv pv : Value} {st : St} {k : Int} {l : List Int} (h : RefIn w B N r tv pv [] st) (ht : st.typed = k :: l) :
    Calls Try.prog 24 #[fp r] w fun e w' => e = .returned (.tuple #[.int .i64 k, .bool false, .int .i64 0]) ∧ RefAt w' B N r { st with typed := l, used := 0 } ∧ Keep N w w' := by
  obtain ⟨a, p, rfl⟩ := h.slice
  obtain ⟨n, hn⟩ : ∃ n, l.length = n := ⟨_, rfl⟩
  obtain ⟨g, off, cap, rfl, hlc, hk⟩ : ∃ g off cap, tv = .slice (some ⟨g, off, none⟩) (n + 1) cap ∧ n + 1 ≤ cap ∧ w.cell? ⟨g, off, none⟩ = some (.int .i64 k) := by
    rcases h.typed with ⟨_, e⟩ | ⟨g, off, cap, cur, e, hg, h1, h2, h3⟩
    · rw [ht] at e; cases e
    · rw [ht] at e h1 h3
      refine ⟨g, off, cap, by rw [e, ← hn]; rfl, by simp at h1; omega, ?_⟩
      rw [cell_of_row w g off cur 3 (0, 0) hg]
      have := h3 0 (by simp)
      simpa using this
  have c1 := h.c1
  have c2 := h.c2
  have c3 := h.c3
  have z1 := frozen_row h.cell 1
  have z3 := frozen_row h.cell 3
  have HH := Lib.hid h
  have HT := Lib.hid ht
  have HN := Lib.hid hn
  have hgr : g ≠ r := (h.ntv g rfl).2
  have hn0 : ((n : Int) + 1 == 0) = false := by rw [beq_eq_false_iff_ne]; omega
  clear h ht hn
  by_cases hc : cap = 1
  · have hn00 : n = 0 := by omega
    subst hc
    subst hn00
    go_enter Try.func24, Try.ntmps24
    go_wp2
    go_ret3
    have hT := HH.out.tail HT.out HN.out ⟨g, off, none⟩ (by simp)
    exact ⟨rfl, ⟨_, _, _, hT.fuel 0 200 rfl⟩, ((HH.out.kset 1 _).trans ((hT.kset 3 _).mono fun k hk => .inl hk))⟩
  · go_enter Try.func24, Try.ntmps24
    go_wp2
    go_ret3
    have hT := HH.out.tail HT.out HN.out ⟨g, off + 1, none⟩ (by rw [if_neg hc])
    exact ⟨rfl, ⟨_, _, _, hT.fuel 0 200 rfl⟩, ((HH.out.kset 1 _).trans ((hT.kset 3 _).mono fun k hk => .inl hk))⟩
set_option maxRecDepth 100000 in
set_option maxHeartbeats 1000000 in
theorem rnext_fuel {w : World} {B : Nat} {N : Nat → Prop} {r : Nat} {tv pv : Value} {ys : List Value} {st : St} (h : RefIn w B N r tv pv ys st) (hp : 0 < ys.length) (hu : st.used = 200) :
    Calls Try.prog 24 #[fp r] w fun e w' => e = .returned (.tuple #[.int .i64 0, .bool false, .int .i64 12]) ∧ RefAt w' B N r { st with packs := [] } ∧ Keep N w w' := by
  obtain ⟨a, p, rfl⟩ := h.slice
  have c2 := h.c2
  have c3 := h.c3
  rw [hu] at c3
  have c3 : w.cell? ⟨r, 3, none⟩ = some (.int .i64 0) := c3
  have z2 := frozen_row h.cell 2
  have HH := Lib.hid h
  obtain ⟨m, hm⟩ : ∃ m, ys.length = m := ⟨_, rfl⟩
  rw [hm] at c2 hp
  clear h hu hm
  go_enter Try.func24, Try.ntmps24
  go_wp2
  go_ret3
  exact ⟨rfl, ⟨_, _, _, HH.out.cleared⟩, HH.out.kset 2 _⟩
set_option maxRecDepth 100000 in
set_option maxHeartbeats 2000000 in
theorem rnext_last {w : World} {B : Nat} {N : Nat → Prop} {r : Nat} {tv pv : Value} {ys : List Value} {st : St} {k : Int} (h : RefIn w B N r tv pv ys st) (hl : st.packs = st.packs.dropLast ++ [[k]]) (hu : st.used < 200) (hk : st.ok) :
    Calls Try.prog 24 #[fp r] w fun e w' => e = .returned (.tuple #[.int .i64 k, .bool true, .int .i64 0]) ∧ RefAt w' B N r { st with packs := st.packs.dropLast, used := st.used + 1 } ∧ Keep N w w' := by
  have hlen : ys.length = st.packs.dropLast.length + 1 := by rw [h.len]; conv => lhs; rw [hl]
                                                             simp
  obtain ⟨m, hm⟩ : ∃ m, ys.length = m + 1 := ⟨_, hlen⟩
  have hdl : st.packs.dropLast.length = m := by omega
  have hm8 : m < 8 := by have := hk.few; have := h.len; omega
  obtain ⟨g, p, rfl, -, hgl⟩ := h.row.form (by omega)
  have hgcell : w.cell? ⟨g, m, none⟩ = some (ys.getD m undef) := by
    have := h.row.cells (g := g) rfl m (ys.getD m undef) (by simp [List.getD_eq_getElem?_getD, List.getElem?_eq_getElem (show m < ys.length by omega)])
    rw [add0] at this; exact this
  have hpk := h.packs m (by omega)
  rw [show st.packs.getD m [] = [k] by rw [hl]; simp [List.getD_eq_getElem?_getD, ← hdl]] at hpk
  obtain ⟨b, c, hy, hlc, hcell⟩ := hpk
  obtain ⟨b', off, rfl, hb, hcell⟩ := hcell 0 (by simp)
  have hmp : m + 1 ≤ p := by
    rcases h.row.2 with ⟨e, _⟩ | ⟨g', cap, cur, e, _, _, h1, _⟩
    · cases e
    · have : p = cap := by simp at e; exact e.2
      omega
  rw [hy] at hgcell
  have hcell : w.cell? ⟨b', off, none⟩ = some (.int .i64 k) := hcell
  have c2 := h.c2
  rw [hm] at c2
  have c3 := h.c3
  have z2 := frozen_row h.cell 2
  have z3 := frozen_row h.cell 3
  have HH := Lib.hid h
  have hgr := (h.npv g rfl).2.1
  have hbr : b' ≠ r := by have := h.rB; omega
  have HM := Lib.hid hm
  have hu0 : ((200 : Int) - (st.used : Int) == 0) = false := by rw [beq_eq_false_iff_ne]; omega
  have hu1 : (0 : Int) ≤ 200 - (st.used : Int) := by omega
  have hu2 : (200 : Int) - (st.used : Int) ≤ 200 := by omega
  have hmm : m ≤ p := by omega
  rw [hm] at HH
  clear h hl hlen hm hdl hy hlc hk hmp
  generalize hF : (200 : Int) - (st.used : Int) = F at *
  have HF := Lib.hid hF
  clear hF
  go_enter Try.func24, Try.ntmps24
  go_wp2
  go_ret3
  have hP := HH.out.popped HM.out
  exact ⟨rfl, ⟨_, _, _, hP.fuel (st.used + 1) _ (by rw [← HF.out]; exact sub_fuel _ hu)⟩, ((HH.out.kset 2 _).trans ((hP.kset 3 _).mono fun k hk => .inl hk))⟩
set_option maxRecDepth 100000 in
set_option maxHeartbeats 2000000 in
theorem rnext_more {w : World} {B : Nat} {N : Nat → Prop} {r : Nat} {tv pv : Value} {ys : List Value} {st : St} {k : Int} {l : List Int} (h : RefIn w B N r tv pv ys st) (hBw : B ≤ w.heap.size) (hl : st.packs = st.packs.dropLast ++ [k :: l]) (hne : l ≠ []) (hu : st.used < 200) (hk : st.ok) :
    Calls Try.prog 24 #[fp r] w fun e w' => e = .returned (.tuple #[.int .i64 k, .bool true, .int .i64 0]) ∧ RefAt w' B (fun k => N k ∨ w.heap.size ≤ k) r { st with packs := st.packs.dropLast ++ [l], used := st.used + 1 } ∧ Keep N w w' := by
  have hlen : ys.length = st.packs.dropLast.length + 1 := by rw [h.len]; conv => lhs; rw [hl]
                                                             simp
  obtain ⟨m, hm⟩ : ∃ m, ys.length = m + 1 := ⟨_, hlen⟩
  have hdl : st.packs.dropLast.length = m := by omega
  have hm8 : m < 8 := by have := hk.few; have := h.len; omega
  obtain ⟨g, p, rfl, -, hgl⟩ := h.row.form (by omega)
  have hgcell : w.cell? ⟨g, m, none⟩ = some (ys.getD m undef) := by
    have := h.row.cells (g := g) rfl m (ys.getD m undef) (by simp [List.getD_eq_getElem?_getD, List.getElem?_eq_getElem (show m < ys.length by omega)])
    rw [add0] at this; exact this
  have hpk := h.packs m (by omega)
  rw [show st.packs.getD m [] = k :: l by rw [hl]; simp [List.getD_eq_getElem?_getD, ← hdl]] at hpk
  obtain ⟨b, c, hy, hlc, hcell⟩ := hpk
  obtain ⟨b', off, rfl, hb, hcell0⟩ := hcell 0 (by simp)
  obtain ⟨n, hn⟩ : ∃ n, l.length = n := ⟨_, rfl⟩
  have hn0 : 0 < n := by rw [← hn]; exact List.length_pos_iff.2 hne
  simp only [List.length_cons, hn] at hy hlc
  have htail : IntsB w B (.slice (some ⟨b', off + 1, none⟩) n (c - 1)) l := by
    refine ⟨_, c - 1, by rw [hn], by omega, fun i hi => ⟨b', off + 1, rfl, hb, ?_⟩⟩
    obtain ⟨b2, off2, e, _, hc2⟩ := hcell (i + 1) (by simp; omega)
    obtain ⟨rfl, rfl⟩ : b' = b2 ∧ off = off2 := by simpa using e
    rw [show off + 1 + i = off + (i + 1) by omega, hc2]; simp
  have hmp : m + 1 ≤ p := by
    rcases h.row.2 with ⟨e, _⟩ | ⟨g', cap, cur, e, _, _, h1, _⟩
    · cases e
    · have : p = cap := by simp at e; exact e.2
      omega
  rw [hy] at hgcell
  have hcell0 : w.cell? ⟨b', off, none⟩ = some (.int .i64 k) := hcell0
  have c2 := h.c2
  rw [hm] at c2
  have c3 := h.c3
  have z2 := frozen_row h.cell 2
  have hgr := (h.npv g rfl).2.1
  have hbr : b' ≠ r := by have := h.rB; omega
  have hmm : m ≤ p := by omega
  have hu0 : ((200 : Int) - (st.used : Int) == 0) = false := by rw [beq_eq_false_iff_ne]; omega
  have hu1 : (0 : Int) ≤ 200 - (st.used : Int) := by omega
  have hu2 : (200 : Int) - (st.used : Int) ≤ 200 := by omega
  have hF : (200 : Int) - (st.used : Int) = 200 - (st.used : Int) := rfl
  have hc1 : ¬ c = 1 := by omega
  -- the world behind the store
  have hpv : RefIn w B N r tv (.slice (some ⟨g, 0, none⟩) (m + 1) p) ys st := by rw [← hm]; exact h
  have hP := hpv.popped hm
  have hylen : ys.dropLast.length = m := by rw [List.length_dropLast, hm]; rfl
  have k0 := h.kset 2 (.slice (some ⟨g, 0, none⟩) m p)
  have htl := htail.keep (w' := w.setCell ⟨r, 2, none⟩ (.slice (some ⟨g, 0, none⟩) m p)) fun x hx _ => setCell_ne _ _ _ _ _ (by have := h.rB; omega)
  have hc0 : (w.setCell ⟨r, 2, none⟩ (.slice (some ⟨g, 0, none⟩) m p)).cell? ⟨b', off, none⟩ = some (.int .i64 k) := (World.cell?_of_block (setCell_ne _ _ _ _ _ hbr)).trans hcell0
  have hsz0 : (w.setCell ⟨r, 2, none⟩ (.slice (some ⟨g, 0, none⟩) m p)).heap.size = w.heap.size := size_setCell _ _ _
  obtain ⟨i0, hi, hz0, hz1, hz2⟩ := info_parts infoSl
  have HI := Lib.hid hi
  have HZ0 := Lib.hid hz0
  have HZ1 := Lib.hid hz1
  have HZ2 := Lib.hid hz2
  have HP := Lib.hid hP
  have HK0 := Lib.hid k0
  have HTL := Lib.hid htl
  have HC0 := Lib.hid hc0
  have HSZ0 := Lib.hid hsz0
  have HYL := Lib.hid hylen
  have HMAX := Lib.hid (show m + 1 ≤ maxLen by unfold maxLen; omega)
  have HBYTES := Lib.hid (show (m + 1) * 24 ≤ 140737488355328 by omega)
  clear h hl hlen hm hdl hy hcell htail hk hmp hi hz0 hz1 hz2 hP k0 htl hc0 hsz0 hylen hpv hn hne
  go_enter Try.func24, Try.ntmps24
  go_wp2
  generalize w.setCell ⟨r, 2, none⟩ (.slice (some ⟨g, 0, none⟩) m p) = W at *
  have d2 := HP.out.c2
  have d3 := HP.out.c3
  have y2 := frozen_row HP.out.cell 2
  have hcW := HC0.out
  have hrow := HP.out.row
  rw [HYL.out] at hrow
  have HOWN := Lib.hid (show (((W.alloc (.cells #[.slice (some ⟨b', off + 1, none⟩) n (c - 1)] 22)).drew)).ownsRow 0 22 1 (.slice (some ⟨g, 0, none⟩) m p) m ys.dropLast from hrow.alloc _)
  have HNEWS := Lib.hid (show ∀ j u, [Value.slice (some ⟨b', off + 1, none⟩) n (c - 1)][j]? = some u → ((W.alloc (.cells #[.slice (some ⟨b', off + 1, none⟩) n (c - 1)] 22)).drew).cell? ((⟨W.heap.size, 0, none⟩ : Addr).add j) = some u from cell_one_new W _ 22)
  have HSZ := Lib.hid (show ((W.alloc (.cells #[.slice (some ⟨b', off + 1, none⟩) n (c - 1)] 22)).drew).heap.size = W.heap.size + 1 from by rw [← World.size_alloc]; rfl)
  have hrW := lt_of_heap HP.out.cell
  have hbW : b' < W.heap.size := World.block_lt_of_cell? _ _ hcW
  clear hrow c2 c3 z2 hgcell hcell0
  have hgB := (HP.out.npv g rfl).1
  have hgB2 := HP.out.nB g hgB
  have hn1 : (1 : Int) ≤ (n : Int) + 1 := by omega
  go_region_law (refine step_append_lies _ rfl (.tmp 52) (.tmp 55) 41 rfl 0 22 i0 (.slice none 0 0) 1 24 Try.underlying41 HI.out HZ0.out HZ1.out HZ2.out rfl (by decide) (.slice (some ⟨g, 0, none⟩) m p) m ys.dropLast (by simp [Act.eval, Act.put]) HOWN.out ⟨W.heap.size, 0, none⟩ 1 1 [.slice (some ⟨b', off + 1, none⟩) n (c - 1)] (by simp [Act.eval, Act.put]) rfl HNEWS.out (by simp [Value.oneCell']) (by decide) HMAX.out HBYTES.out (by omega) (W.heap.size + 1) HSZ.out ?_; intro g2 cap2 w1 hown hgrow hat hlt; have hQ := HP.out.pushed (q := 1) HYL.out (by rw [HSZ0.out]; exact hBw) HTL.out hown hgrow hat; have hblk := hQ.1.trans HP.out.cell; have e2 : w1.cell? ⟨r, 2, none⟩ = some (.slice (some ⟨g, 0, none⟩) m p) := (cell_of_row w1 r 2 _ _ _ hblk).trans rfl; have e3 : w1.cell? ⟨r, 3, none⟩ = some (.int .i64 (200 - (st.used : Int))) := (cell_of_row w1 r 3 _ _ _ hblk).trans rfl; have e4 := frozen_row hblk 2; have e5 := frozen_row hblk 3; have e6 : w1.cell? ⟨b', off, none⟩ = some (.int .i64 k) := (World.cell?_of_block ((hgrow.block b' (by rw [HSZ.out]; omega) (fun e => by simp [Value.ownBlock] at e; omega)).trans (Below.heap_alloc W _ b' hbW))).trans hcW; have HQ := Lib.hid hQ; clear hown hgrow hat hlt hQ hblk d2 d3 y2 hcW)
  all_goals
    go_wp2
    go_ret3
    have hQ := HQ.out.2.1
    refine ⟨rfl, ⟨_, _, _, (hQ.to (N' := fun k => N k ∨ w.heap.size ≤ k) (fun x hx _ => by rw [HSZ0.out] at hx; exact hx) (by rintro x (hx | hx); exact HP.out.nB x hx; omega)).fuel (st.used + 1) _ (sub_fuel _ hu)⟩, ?_⟩
    refine HK0.out.trans ?_
    have k2 := HQ.out.2.2.mono (N' := fun x => N x ∨ w.heap.size ≤ x) fun x hx => .inl hx
    exact k2.trans ((hQ.kset 3 _).mono fun x hx => by rcases hx with hx | hx; exact .inl (.inl hx); exact .inr hx)
end Go.Proofs.Ythfdoififonflaa
