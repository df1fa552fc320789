/- FeedOrder: what its two lists and its feed are in memory, and the contract of its closure 'take'. -/
import Derived.Test.YthfdoififonflaaSame
import Derived.OneCell
import Derived.OwnWalk
set_option linter.unusedSimpArgs false
set_option linter.unusedVariables false
namespace Go.Proofs.Ythfdoififonflaa
open Go.RowKit Go.Conc Go.Proofs.Ythfdoififonflaa.Ch
def iv (l : List Int) : List Value := l.map (Value.int .i64)
/-- A list of whole numbers of the call's own, in blocks of which G holds. -/
structure OwnList (w : World) (G : Nat → Prop) (v : Value) (l : List Int) : Prop where
  row : w.ownsRow 0 3 1 v l.length (iv l)
  out : ∀ k, v.ownBlock = some k → G k
structure OrdIn (w0 w : World) (Nf : Nat → Prop) (A C f : Nat) (tv cv : Value) (tl cl : List Int) (st : St) : Prop where
  bel : Below w0.heap.size w0 w
  hA : w.heap[A]? = some (.cells #[fp f] 23 (0, 0))
  hC : w.heap[C]? = some (.cells #[cv] 22 (0, 0))
  feed : FeedAt w Nf f st
  ok : st.ok
  sep : ∀ k, Nf k → w0.heap.size ≤ k ∧ k ≠ A ∧ k ≠ C
  low : ∀ k, Nf k → k < w.heap.size
  hAC : A ≠ C ∧ w0.heap.size ≤ A ∧ w0.heap.size ≤ C
  tyd : OwnList w (fun k => w0.heap.size ≤ k ∧ k ≠ A ∧ k ≠ C ∧ ¬ Nf k) tv tl
  cam : OwnList w (fun k => w0.heap.size ≤ k ∧ k ≠ A ∧ k ≠ C ∧ ¬ Nf k ∧ tv.ownBlock ≠ some k) cv cl
def OrdW (w0 w : World) (A C f : Nat) (tv : Value) (tl cl : List Int) (st : St) : Prop := ∃ Nf cv, OrdIn w0 w Nf A C f tv cv tl cl st ∧ tl = cl ++ st.typed ∧ tl.length ≤ 40
theorem OwnList.keep {w w' : World} {G G' : Nat → Prop} {v : Value} {l : List Int} (h : OwnList w G v l) (e : ∀ k, v.ownBlock = some k → G k → k < w.heap.size → w'.heap[k]? = w.heap[k]?) (g : ∀ k, G k → k < w.heap.size → G' k) : OwnList w' G' v l :=
  ⟨ownsRow_of h.row fun k hk => e k hk (h.out k hk) (h.row.lt k hk).2, fun k hk => g k (h.out k hk) (h.row.lt k hk).2⟩
section
variable {w0 w : World} {Nf : Nat → Prop} {A C f : Nat} {tv cv : Value} {tl cl : List Int} {st : St}
/-- A step of the feed alone. -/
theorem OrdIn.step (h : OrdIn w0 w Nf A C f tv cv tl cl st) {w' : World} {st' : St} (hf : FeedAt w' (fun k => Nf k ∨ w.heap.size ≤ k) f st') (hk : Keep Nf w w') (hok : st'.ok) :
    OrdIn w0 w' (fun k => (Nf k ∨ w.heap.size ≤ k) ∧ k < w'.heap.size) A C f tv cv tl cl st' := by
  have hA := lt_of_heap h.hA
  have hC := lt_of_heap h.hC
  have nA : ¬ Nf A := fun e => (h.sep A e).2.1 rfl
  have nC : ¬ Nf C := fun e => (h.sep C e).2.2 rfl
  exact {
    bel := h.bel.trans (hk.below (fun k hk => (h.sep k hk).1) h.bel.size)
    hA := (hk.block A hA nA).trans h.hA
    hC := (hk.block C hC nC).trans h.hC
    feed := hf.lt
    ok := hok
    low := fun k hk => hk.2
    sep := by
      rintro k ⟨e | e, -⟩
      · exact h.sep k e
      · have := h.bel.size; exact ⟨by omega, by omega, by omega⟩
    hAC := h.hAC
    tyd := h.tyd.keep (fun k _ hG hlt => hk.block k hlt hG.2.2.2) (fun k hG hlt => ⟨hG.1, hG.2.1, hG.2.2.1, by rintro ⟨e | e, -⟩; exact hG.2.2.2 e; omega⟩)
    cam := h.cam.keep (fun k _ hG hlt => hk.block k hlt hG.2.2.2.1) (fun k hG hlt => ⟨hG.1, hG.2.1, hG.2.2.1, by rintro ⟨e | e, -⟩; exact hG.2.2.2.1 e; omega, hG.2.2.2.2⟩) }
/-- Blocks that are made leave all as it was. -/
theorem OrdIn.grow (h : OrdIn w0 w Nf A C f tv cv tl cl st) {w' : World} (hk : Keep (fun _ => False) w w') : OrdIn w0 w' Nf A C f tv cv tl cl st :=
  { h with
    bel := h.bel.trans (hk.below (fun _ e => e.elim) h.bel.size)
    hA := (hk.block A (lt_of_heap h.hA) id).trans h.hA
    hC := (hk.block C (lt_of_heap h.hC) id).trans h.hC
    feed := h.feed.keep fun k _ hlt => hk.block k hlt id
    low := fun k hN => Nat.lt_of_lt_of_le (h.low k hN) hk.size
    tyd := h.tyd.keep (fun k _ _ hlt => hk.block k hlt id) (fun k hG _ => hG)
    cam := h.cam.keep (fun k _ _ hlt => hk.block k hlt id) (fun k hG _ => hG) }
end
theorem infoInt3 : (Try.prog.info? 3).map (fun i => (i.zero, i.size, i.bytes)) = some (some (.int .i64 0), 1, 8) := by kernel_rfl
def takenSt (st : St) (cl : List Int) : List Int := if st.next.1.2.2 = 0 ∧ st.next.1.2.1 = false then cl ++ [st.next.1.1] else cl
theorem St.next_typed (st : St) : (∃ k l, st.next = ((k, false, 0), { st with typed := l, used := 0 }) ∧ st.typed = k :: l) ∨ (¬ (st.next.1.2.2 = 0 ∧ st.next.1.2.1 = false) ∧ st.next.2.typed = st.typed) := by
  rcases hp : st.packs.getLast? with _ | top
  · rcases ht : st.typed with _ | ⟨k, l⟩
    · right
      have e : st.next = ((0, false, 4), st) := by simp only [St.next, hp, ht]
      rw [e]; exact ⟨by simp, ht⟩
    · left
      exact ⟨k, l, by simp only [St.next, hp, ht], rfl⟩
  · right
    by_cases hu : 200 ≤ st.used
    · have e : st.next = ((0, false, 12), { st with packs := [] }) := by simp only [St.next, hp]; rw [if_pos hu]
      rw [e]; exact ⟨by simp, rfl⟩
    · have e : st.next = ((top.headD 0, true, 0), { st with packs := if top.tail = [] then st.packs.dropLast else st.packs.dropLast ++ [top.tail], used := st.used + 1 }) := by simp only [St.next, hp]; rw [if_neg hu]
      rw [e]; exact ⟨by simp, rfl⟩
set_option maxRecDepth 100000 in
/-- 'take', where nothing typed comes. -/
theorem take_other (A C f : Nat) (k y : Int) (b : Bool) (R : World → Prop) (w : World) (hA : w.heap[A]? = some (.cells #[fp f] 23 (0, 0))) (hne : ¬ (y = 0 ∧ b = false))
    (hN : Calls Try.prog 9 #[fp f] w fun e w' => e = .returned (.tuple #[.int .i64 k, .bool b, .int .i64 y]) ∧ R w') :
    Calls Try.prog 13 #[.pointer (some ⟨A, 0, none⟩), .pointer (some ⟨C, 0, none⟩)] w fun e w' => e = .returned (.bool (y != 4)) ∧ R w' := by
  have HN := Lib.hid hN
  have c0 := cell_of_one hA
  clear hN hA
  by_cases hy : y = 0
  · subst hy
    have hb : b = true := by cases b; exact absurd ⟨rfl, rfl⟩ hne; rfl
    subst hb
    go_enter Try.func13, Try.ntmps13
    go_wp2_with (go_at_call 9; refine HN.out.mono ?_; rintro e w' ⟨rfl, hR⟩)
    go_ret
    exact ⟨rfl, hR⟩
  · have hy0 : (y == 0) = false := by rw [beq_eq_false_iff_ne]; exact hy
    clear hne
    go_enter Try.func13, Try.ntmps13
    go_wp2_with (go_at_call 9; refine HN.out.mono ?_; rintro e w' ⟨rfl, hR⟩)
    go_ret
    exact ⟨rfl, hR⟩
theorem Keep.alloc (w : World) (o : Obj) : Keep (fun _ => False) w (w.alloc o) := ⟨rfl, rfl, rfl, by simp, fun k hk _ => Below.heap_alloc w o k hk⟩
theorem iv_snoc (l : List Int) (k : Int) : iv (l ++ [k]) = iv l ++ [.int .i64 k] := by simp [iv]
set_option maxRecDepth 100000 in
/-- 'take', where a typed key comes. -/
theorem take_typed (w0 : World) (A C f : Nat) (k : Int) (tv cv : Value) (tl cl : List Int) (st1 : St) (w : World) (hA : w.heap[A]? = some (.cells #[fp f] 23 (0, 0))) (hcl : cl.length ≤ 40)
    (hN : Calls Try.prog 9 #[fp f] w fun e w' => e = .returned (.tuple #[.int .i64 k, .bool false, .int .i64 0]) ∧ ∃ Nf, OrdIn w0 w' Nf A C f tv cv tl cl st1) :
    Calls Try.prog 13 #[.pointer (some ⟨A, 0, none⟩), .pointer (some ⟨C, 0, none⟩)] w fun e w' => e = .returned (.bool true) ∧ ∃ Nf cv', OrdIn w0 w' Nf A C f tv cv' tl (cl ++ [k]) st1 := by
  have HN := Lib.hid hN
  have c0 := cell_of_one hA
  obtain ⟨i0, hi, hz0, hz1, hz2⟩ := info_parts infoInt3
  have HI := Lib.hid hi
  have HZ0 := Lib.hid hz0
  have HZ1 := Lib.hid hz1
  have HZ2 := Lib.hid hz2
  have HMAX := Lib.hid (show cl.length + 1 ≤ maxLen by unfold maxLen; omega)
  have HBYTES := Lib.hid (show (cl.length + 1) * 8 ≤ 140737488355328 by omega)
  clear hN hA hi hz0 hz1 hz2
  go_enter Try.func13, Try.ntmps13
  go_wp2_with fail
  refine HN.out.mono ?_
  rintro e w1 ⟨rfl, Nf, hR⟩
  have cC := cell_of_one hR.hC
  have hCl : C < w1.heap.size := lt_of_heap hR.hC
  have hcC : cv.ownBlock ≠ some C := fun e => (hR.cam.out C e).2.2.1 rfl
  have hnews := cell_one_new w1 (.int .i64 k) 3
  have HNEWS := Lib.hid hnews
  have HOWN := Lib.hid (hR.cam.row.alloc (.cells #[.int .i64 k] 3))
  have HCC := Lib.hid hcC
  have HR := Lib.hid hR
  clear hR hnews hcC
  go_wp2_with (at_builtin; refine wpList_append_lies _ rfl (.tmp 18) (.tmp 20) 22 rfl 0 3 i0 (.int .i64 0) 1 8 Try.underlying22 HI.out HZ0.out HZ1.out HZ2.out rfl (by decide) cv cl.length (iv cl) rfl HOWN.out ⟨w1.heap.size, 0, none⟩ 1 1 [.int .i64 k] rfl rfl HNEWS.out (by simp [Value.oneCell']) (by decide) HMAX.out HBYTES.out (by omega) (w1.heap.size + 1) (by simp) ?_; intro g cap w2 hown hgrow hat hlt; have hb2 : w2.heap[C]? = some (.cells #[cv] 22 (0, 0)) := ((hgrow.block C (by simp; omega) (fun e => HCC.out e.symm)).trans (Below.heap_alloc _ _ _ hCl)).trans HR.out.hC; have g1 := cell_of_one hb2; have g2 := free_of_one hb2; have HB2 := Lib.hid hb2; have HO := Lib.hid hown; have HG := Lib.hid hgrow; have HA := Lib.hid hat; clear hown hgrow hat hb2)
  go_ret
  refine ⟨rfl, Nf, .slice (some ⟨g, 0, none⟩) (cl.length + 1) cap, ?_⟩
  have h := HR.out
  have hg := HG.out
  have hsz : (w1.alloc (.cells #[.int .i64 k] 3)).heap.size = w1.heap.size + 1 := by simp
  have hgC : g ≠ C := by
    rcases HA.out with e | e
    · exact (h.cam.out g e).2.2.1
    · omega
  have old : ∀ x, x < w1.heap.size → some x ≠ cv.ownBlock → x ≠ C → (w2.setCell ⟨C, 0, none⟩ (.slice (some ⟨g, 0, none⟩) (cl.length + 1) cap)).heap[x]? = w1.heap[x]? := fun x hx hne hxC =>
    (setCell_ne _ _ _ _ _ hxC).trans ((hg.block x (by omega) hne).trans (Below.heap_alloc _ _ _ hx))
  have hgB : w0.heap.size ≤ g := by
    rcases HA.out with e | e
    · exact (h.cam.out g e).1
    · have := h.bel.size; omega
  exact {
    bel := ⟨hg.os.trans h.bel.os, hg.tape.trans h.bel.tape, hg.output.trans h.bel.output, by rw [size_setCell]; have := hg.size; have := h.bel.size; omega, fun x hx => (old x (by have := h.bel.size; omega) (fun e => by have := (h.cam.out x e.symm).1; omega) (by have := h.hAC.2.2; omega)).trans (h.bel.block x hx)⟩
    hA := (old A (lt_of_heap h.hA) (fun e => (h.cam.out A e.symm).2.1 rfl) h.hAC.1).trans h.hA
    hC := one_setCell HB2.out
    feed := h.feed.keep fun x hN hx => old x hx (fun e => (h.cam.out x e.symm).2.2.2.1 hN) ((h.sep x hN).2.2)
    ok := h.ok
    sep := h.sep
    hAC := h.hAC
    low := fun x hN => by rw [size_setCell]; have := h.low x hN; have := hg.size; omega
    tyd := h.tyd.keep (fun x hxo hG hx => old x hx (fun e => (h.cam.out x e.symm).2.2.2.2 hxo) hG.2.2.1) (fun x hG hx => hG)
    cam := by
      refine ⟨?_, ?_⟩
      · rw [iv_snoc]
        have : (cl ++ [k]).length = cl.length + 1 := by simp
        rw [this]
        exact ownsRow_of HO.out fun x hx => setCell_ne _ _ _ _ _ (by have e : g = x := (by simpa [Value.ownBlock] using hx); rw [← e]; exact hgC)
      · intro x hx
        obtain rfl : g = x := by simpa [Value.ownBlock] using hx
        rcases HA.out with e | e
        · exact h.cam.out g e
        · refine ⟨hgB, ?_, hgC, ?_, ?_⟩
          · have := lt_of_heap h.hA; omega
          · intro hN; have := h.low g hN; omega
          · intro e2; have := (h.tyd.row.lt g e2).2; omega }
end Go.Proofs.Ythfdoififonflaa
