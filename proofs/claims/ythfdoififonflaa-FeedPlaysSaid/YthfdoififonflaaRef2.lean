/- The contracts of the document's feed over the same states. -/
import Derived.Test.YthfdoififonflaaRef
set_option linter.unusedSimpArgs false
set_option linter.unusedVariables false
namespace Go.Proofs.Ythfdoififonflaa
open Go.RowKit
/-- A slice of whole numbers in blocks below B. -/
def IntsB (w : World) (B : Nat) (x : Value) (l : List Int) : Prop := ∃ a c, x = .slice a l.length c ∧ l.length ≤ c ∧ ∀ i, i < l.length → ∃ b off, a = some ⟨b, off, none⟩ ∧ b < B ∧ w.cell? ⟨b, off + i, none⟩ = some (.int .i64 (l.getD i 0))
theorem IntsB.at {w : World} {B : Nat} {x : Value} {l : List Int} (h : IntsB w B x l) : IntsAt w x l := by
  obtain ⟨a, c, rfl, _, h⟩ := h
  exact ⟨a, c, rfl, fun i hi => by obtain ⟨b, off, e, _, hc⟩ := h i hi; exact ⟨b, off, e, hc⟩⟩
theorem IntsB.keep {w w' : World} {B : Nat} {x : Value} {l : List Int} (h : IntsB w B x l) (e : ∀ k, k < B → k < w.heap.size → w'.heap[k]? = w.heap[k]?) : IntsB w' B x l := by
  obtain ⟨a, c, rfl, hc, h⟩ := h
  refine ⟨a, c, rfl, hc, fun i hi => ?_⟩
  obtain ⟨b, off, rfl, hb, hcell⟩ := h i hi
  exact ⟨b, off, rfl, hb, (World.cell?_of_block (e b hb (World.block_lt_of_cell? _ _ hcell))).trans hcell⟩
structure RefIn (w : World) (B : Nat) (N : Nat → Prop) (r : Nat) (tv pv : Value) (ys : List Value) (st : St) : Prop where
  cell : w.heap[r]? = some (.cells #[.int .i64 st.room, tv, pv, .int .i64 (200 - (st.used : Int))] 43 (0, 0))
  typed : OwnQ w tv st.typed
  row : w.ownsRow 0 22 1 pv ys.length ys
  len : ys.length = st.packs.length
  packs : ∀ i, i < ys.length → IntsB w B (ys.getD i undef) (st.packs.getD i [])
  nr : N r
  ntv : ∀ k, tv.ownBlock = some k → N k ∧ k ≠ r
  npv : ∀ k, pv.ownBlock = some k → N k ∧ k ≠ r ∧ tv.ownBlock ≠ some k
  nB : ∀ k, N k → B ≤ k
def RefAt (w : World) (B : Nat) (N : Nat → Prop) (r : Nat) (st : St) : Prop := ∃ tv pv ys, RefIn w B N r tv pv ys st
section
variable {w : World} {B : Nat} {N N' : Nat → Prop} {r : Nat} {tv pv : Value} {ys : List Value} {st : St}
theorem RefIn.keep {w' : World} (h : RefIn w B N r tv pv ys st) (e : ∀ k, N k ∨ k < B → k < w.heap.size → w'.heap[k]? = w.heap[k]?) : RefIn w' B N r tv pv ys st :=
  { h with
    cell := (e _ (.inl h.nr) (lt_of_heap h.cell)).trans h.cell
    typed := h.typed.of fun k hk => e k (.inl (h.ntv k hk).1) (h.typed.lt k hk)
    row := ownsRow_of h.row fun k hk => e k (.inl (h.npv k hk).1) (h.row.lt k hk).2
    packs := fun i hi => (h.packs i hi).keep fun k hk hl => e k (.inr hk) hl }
theorem RefAt.keep {w' : World} (h : RefAt w B N r st) (e : ∀ k, N k ∨ k < B → k < w.heap.size → w'.heap[k]? = w.heap[k]?) : RefAt w' B N r st := by
  obtain ⟨tv, pv, ys, h⟩ := h; exact ⟨tv, pv, ys, h.keep e⟩
theorem RefIn.to (h : RefIn w B N r tv pv ys st) (hn : ∀ k, N k → k < w.heap.size → N' k) (hB : ∀ k, N' k → B ≤ k) : RefIn w B N' r tv pv ys st :=
  { h with
    nr := hn _ h.nr (lt_of_heap h.cell)
    ntv := fun k hk => ⟨hn k (h.ntv k hk).1 (h.typed.lt k hk), (h.ntv k hk).2⟩
    npv := fun k hk => ⟨hn k (h.npv k hk).1 (h.row.lt k hk).2, (h.npv k hk).2⟩
    nB := hB }
theorem RefAt.to (h : RefAt w B N r st) (hn : ∀ k, N k → k < w.heap.size → N' k) (hB : ∀ k, N' k → B ≤ k) : RefAt w B N' r st := by
  obtain ⟨tv, pv, ys, h⟩ := h; exact ⟨tv, pv, ys, h.to hn hB⟩
theorem RefIn.c0 (h : RefIn w B N r tv pv ys st) : w.cell? ⟨r, 0, none⟩ = some (.int .i64 st.room) := (cell_of_row w r 0 _ _ _ h.cell).trans rfl
theorem RefIn.c1 (h : RefIn w B N r tv pv ys st) : w.cell? ⟨r, 1, none⟩ = some tv := (cell_of_row w r 1 _ _ _ h.cell).trans rfl
theorem RefIn.c2 (h : RefIn w B N r tv pv ys st) : w.cell? ⟨r, 2, none⟩ = some pv := (cell_of_row w r 2 _ _ _ h.cell).trans rfl
theorem RefIn.c3 (h : RefIn w B N r tv pv ys st) : w.cell? ⟨r, 3, none⟩ = some (.int .i64 (200 - (st.used : Int))) := (cell_of_row w r 3 _ _ _ h.cell).trans rfl
theorem RefIn.slice (h : RefIn w B N r tv pv ys st) : ∃ a p, pv = .slice a ys.length p := by
  rcases h.row.2 with ⟨rfl, h0⟩ | ⟨g, cap, cur, rfl, _⟩
  · exact ⟨none, 0, by rw [h0]⟩
  · exact ⟨_, _, rfl⟩
end
/-- The typed keys appended to and stored back. -/
theorem RefIn.appended {w w1 : World} {B q : Nat} {N : Nat → Prop} {r : Nat} {tv pv tv' : Value} {ys : List Value} {st : St} {l : List Int} {o : Obj} (h : RefIn w B N r tv pv ys st) (hBw : B ≤ w.heap.size) (ha : AppQ ((w.drewN q).alloc o) tv l tv' w1) :
    (∀ x, x < w.heap.size → some x ≠ tv.ownBlock → w1.heap[x]? = w.heap[x]?) ∧
    RefAt (w1.setCell ⟨r, 1, none⟩ tv') B (fun k => N k ∨ w.heap.size ≤ k) r { st with typed := l } ∧ Keep N w (w1.setCell ⟨r, 1, none⟩ tv') := by
  have hsz : ((w.drewN q).alloc o).heap.size = w.heap.size + 1 := by simp
  have old : ∀ x, x < w.heap.size → some x ≠ tv.ownBlock → w1.heap[x]? = w.heap[x]? := fun x hx hne => (ha.grow.block x (by omega) hne).trans (Below.heap_alloc _ _ _ hx)
  have hrl := lt_of_heap h.cell
  have hrt : some r ≠ tv.ownBlock := fun e => (h.ntv r e.symm).2 rfl
  have hg : ∀ k, tv'.ownBlock = some k → (N k ∨ w.heap.size ≤ k) ∧ k ≠ r := by
    intro k hk
    rcases ha.lies k hk with e | e
    · exact ⟨.inl (h.ntv k e).1, (h.ntv k e).2⟩
    · exact ⟨.inr (by omega), by omega⟩
  refine ⟨old, ⟨tv', pv, ys, ?_⟩, ?_⟩
  · exact {
      cell := heap_setCell_row (j := 1) _ ((old r hrl hrt).trans h.cell)
      typed := ha.row.of fun k hk => setCell_ne _ _ _ _ _ (hg k hk).2
      row := ownsRow_of h.row fun k hk => (setCell_ne _ _ _ _ _ (h.npv k hk).2.1).trans (old k (h.row.lt k hk).2 (fun e => (h.npv k hk).2.2 e.symm))
      len := h.len
      packs := fun i hi => (h.packs i hi).keep fun k hk hl => (setCell_ne _ _ _ _ _ (by have := h.nB r h.nr; omega)).trans (old k hl (fun e => by have := h.nB k (h.ntv k e.symm).1; omega))
      nr := .inl h.nr
      ntv := hg
      npv := fun k hk => ⟨.inl (h.npv k hk).1, (h.npv k hk).2.1, fun e => by
        rcases ha.lies k e with e | e
        · exact (h.npv k hk).2.2 e
        · have := (h.row.lt k hk).2; omega⟩
      nB := by rintro k (hk | hk); exact h.nB k hk; omega }
  · refine ⟨ha.grow.os, ha.grow.tape, ha.grow.output, by rw [size_setCell]; have := ha.grow.size; omega, fun k hk hn => ?_⟩
    exact (setCell_ne _ _ _ _ _ (fun e => hn (by rw [e]; exact h.nr))).trans (old k hk (fun e => hn (h.ntv k e.symm).1))
theorem rnew_calls (n : Int) (w : World) (B : Nat) (hB : B ≤ w.heap.size) : Calls Try.prog 16 #[.int .i64 n] w fun e w' => ∃ r, e = .returned (fp r) ∧ RefAt w' B (fun k => w.heap.size ≤ k) r ⟨(min (max n 1) 1000).toNat, [], [], 0⟩ ∧ Keep (fun k => w.heap.size ≤ k) w w' := by
  have fin : ∀ m : Nat, (min (max n 1) 1000).toNat = m → RefAt (w.alloc (.cells #[.int .i64 m, .slice none 0 0, .slice none 0 0, .int .i64 200] 43)) B (fun k => w.heap.size ≤ k) w.heap.size ⟨(min (max n 1) 1000).toNat, [], [], 0⟩ := by
    rintro m rfl
    exact ⟨.slice none 0 0, .slice none 0 0, [], {
      cell := heap_alloc_new w _
      typed := .inl ⟨rfl, rfl⟩
      row := World.ownsRow_nil _ _ _ _
      len := rfl
      packs := fun i hi => by simp at hi
      nr := Nat.le_refl _
      ntv := fun k hk => by simp [Value.ownBlock] at hk
      npv := fun k hk => by simp [Value.ownBlock] at hk
      nB := fun k hk => by omega }⟩
  have kp : ∀ o, Keep (fun k => w.heap.size ≤ k) w (w.alloc o) := fun o => ⟨rfl, rfl, rfl, by simp, fun k hk _ => Below.heap_alloc w o k hk⟩
  have FIN := Lib.hid fin
  have KP := Lib.hid kp
  clear fin kp
  by_cases hlo : n < 1
  · have HM := Lib.hid (show (min (max n 1) 1000).toNat = 1 by omega)
    go_enter Try.func16, Try.ntmps16
    go_wp2
    go_ret
    exact ⟨w.heap.size, rfl, FIN.out 1 HM.out, KP.out _⟩
  · by_cases hhi : 1000 < n
    · have HM := Lib.hid (show (min (max n 1) 1000).toNat = 1000 by omega)
      go_enter Try.func16, Try.ntmps16
      go_wp2
      go_ret
      exact ⟨w.heap.size, rfl, FIN.out 1000 HM.out, KP.out _⟩
    · obtain ⟨m, rfl⟩ := Int.eq_ofNat_of_zero_le (show 0 ≤ n by omega)
      have HM := Lib.hid (show (min (max (m : Int) 1) 1000).toNat = m by omega)
      go_enter Try.func16, Try.ntmps16
      go_wp2
      go_ret
      exact ⟨w.heap.size, rfl, FIN.out m HM.out, KP.out _⟩
set_option maxRecDepth 100000 in
theorem rtype_calls {w : World} {B : Nat} {N : Nat → Prop} {r : Nat} {st : St} (h : RefAt w B N r st) (hBw : B ≤ w.heap.size) (k : Int) (ht : st.typed.length ≤ 1000) (hr : st.room ≤ 1000) :
    Calls Try.prog 22 #[fp r, .int .i64 k] w fun e w' => e = .returned (.bool (st.type k).1) ∧ RefAt w' B (fun k => N k ∨ w.heap.size ≤ k) r (st.type k).2 ∧ Keep N w w' := by
  obtain ⟨tv, pv, ys, h⟩ := h
  obtain ⟨a, cap, htv⟩ := h.typed.len
  have c0 := h.c0
  have c1 := h.c1
  rw [htv] at c1
  obtain ⟨i0, hi, hz0, hz1, hz2⟩ := info_parts infoInt3
  have HI := Lib.hid hi
  have HZ0 := Lib.hid hz0
  have HZ1 := Lib.hid hz1
  have HZ2 := Lib.hid hz2
  have HH := Lib.hid h
  have HTV := Lib.hid htv
  clear h htv hi hz0 hz1 hz2
  by_cases hroom : st.typed.length < st.room
  · have e1 : st.type k = (true, { st with typed := st.typed ++ [k] }) := by simp [St.type, hroom]
    rw [e1]
    have HE := Lib.hid ht
    clear e1
    go_enter Try.func22, Try.ntmps22
    go_wp2
    go_quiet (fail)
    have hq : ∀ q, OwnQ ((w.drewN q).alloc (.cells #[.int .i64 k] 3)) (.slice a st.typed.length cap) st.typed := fun q => by
      have := HH.out.typed
      rw [HTV.out] at this
      exact this.of fun x hx => Below.heap_alloc _ _ _ (this.lt x hx)
    have HQ := Lib.hid hq
    have HNEWS := Lib.hid (fun q => cell_one_new (w.drewN q) (.int .i64 k) 3)
    have hrl := lt_of_heap HH.out.cell
    clear hq
    go_wp2_with (at_builtin; refine wpList_append_q _ rfl (.tmp 19) (.tmp 21) 22 rfl i0 Try.underlying22 HI.out HZ0.out HZ1.out HZ2.out (.slice a st.typed.length cap) st.typed k rfl (HQ.out _) (by omega) ⟨w.heap.size, 0, none⟩ 1 rfl (HNEWS.out _) ?_; intro tv' w1 hA; obtain ⟨ta, tn, tcap, rfl⟩ : ∃ a n c, tv' = .slice a n c := (by obtain ⟨a', c', e⟩ := hA.row.len; exact ⟨_, _, _, e⟩); have hA2 := hA; rw [← HTV.out] at hA2; have hfin := HH.out.appended hBw hA2; have hblk := (hfin.1 r hrl (fun e => (HH.out.ntv r e.symm).2 rfl)).trans HH.out.cell; have g1 : w1.cell? ⟨r, 1, none⟩ = some tv := (cell_of_row w1 r 1 _ _ _ hblk).trans rfl; have g2 := frozen_row hblk 1; have HFIN := Lib.hid hfin; clear hA hA2 hfin hblk)
    go_ret
    exact ⟨rfl, HFIN.out.2⟩
  · have e1 : st.type k = (false, st) := by simp [St.type, hroom]
    rw [e1]
    have hle : st.room ≤ st.typed.length := by omega
    clear e1 hroom
    go_enter Try.func22, Try.ntmps22
    go_wp2
    go_quiet (fail)
    go_wp2
    go_ret
    refine ⟨rfl, ⟨tv, pv, ys, (HH.out.to (fun k hk _ => .inl hk) ?_).keep fun _ _ _ => rfl⟩, ⟨rfl, rfl, rfl, Nat.le_refl _, fun _ _ _ => rfl⟩⟩
    rintro x (hx | hx)
    · exact HH.out.nB x hx
    · omega
end Go.Proofs.Ythfdoififonflaa
