/- Walk: the document's Set, where rows are put behind what a letter has. (Written by gen_refjoin.py.) -/
import Derived.Test.YthalpbbjcagnnaaRefSet
import Derived.Deep.Cut
set_option linter.unusedSimpArgs false
set_option linter.unusedVariables false
namespace Go.Proofs.Ythalpbbjcagnnaa
open Go.RowKit
/-- Rows of P and the first j of Q are put together in block H + 1; the box H has what it had. -/
def JoRel (w : World) (M : Nat → Prop) (k : Int) (ya : Value) (P Q : Txt) (iv : Value) (wr : World) : Prop :=
  ∃ (j : Nat) (ov : Value), iv = .int .i64 j ∧ j ≤ Q.length ∧ wr.heap[w.heap.size + 1]? = some (.cells #[.int .i64 k, ov] 24 (0, 0)) ∧ wr.heap[w.heap.size]? = some (.cells #[.int .i64 k, ya] 24 (0, 0)) ∧
    OutN wr w.heap.size (w.heap.size + 2) M ov (P ++ Q.take j) ∧ Below w.heap.size w wr ∧ w.heap.size + 2 ≤ wr.heap.size
theorem JoRel.next {w wr w3 : World} {M : Nat → Prop} {k : Int} {ya : Value} {P Q : Txt} {j g cap : Nat} {x : Value} {l : List ByteArray} {ys : List Value} {oa : Option Addr} {n op : Nat}
    (hj : j < Q.length) (hl : Q.getD j [] = l) (hn : (P ++ Q.take j).length = n)
    (hy : wr.heap[w.heap.size]? = some (.cells #[.int .i64 k, ya] 24 (0, 0))) (hys : ∀ i, i < (P ++ Q.take j).length → RowAt wr (fun k => M k ∧ k < w.heap.size) (ys.getD i undef) ((P ++ Q.take j).getD i [])) (hown0 : wr.ownsRow (w.heap.size + 2) 55 1 (.slice oa n op) n ys)
    (hx : RowAt wr (fun k => M k ∧ k < w.heap.size) x l) (hb : Below w.heap.size w wr) (hs : w.heap.size + 2 ≤ wr.heap.size)
    (hown : w3.ownsRow (w.heap.size + 2) 55 1 (.slice (some ⟨g, 0, none⟩) (n + 1) cap) (n + 1) (ys ++ [x])) (hgrow : (wr.alloc (.cells #[x] 55)).grownBy w3 (Value.slice oa n op).ownBlock)
    (hq : w3.heap[w.heap.size + 1]? = some (.cells #[.int .i64 k, .slice oa n op] 24 (0, 0))) :
    JoRel w M k ya P Q (.int .i64 (j + 1)) (w3.setCell ⟨w.heap.size + 1, 1, none⟩ (.slice (some ⟨g, 0, none⟩) (n + 1) cap)) := by
  have hgs : wr.heap.size + 1 ≤ w3.heap.size := by have := hgrow.size; simpa using this
  have hblk : ∀ b, (Value.slice oa n op).ownBlock = some b → w.heap.size + 2 ≤ b := fun b e => (hown0.lt b e).1
  have hlow : ∀ b, b < w.heap.size + 1 → w3.heap[b]? = wr.heap[b]? := fun b hb => (hgrow.block b (by simp; omega) (fun e => by have := hblk b e.symm; omega)).trans (Below.heap_alloc _ _ _ (by omega))
  subst hn
  have hP := OutN.push (w := wr) (w' := w3) (H := w.heap.size) (B := w.heap.size + 2) (M := M) (g := g) (cap := cap) (x := x) (L := P ++ Q.take j) (l := l) (ys := ys) hys (by have := hown0.1; simpa using this) hx hown (fun b hb => hlow b (by omega))
  refine ⟨j + 1, .slice (some ⟨g, 0, none⟩) ((P ++ Q.take j).length + 1) cap, by simp, by omega, (heap_set_row _ hq).trans rfl, ?_, ?_, ?_, by simp [World.setCell]; omega⟩
  · rw [Below.heap_setCell _ _ _ _ (by show w.heap.size ≠ w.heap.size + 1; omega), hlow _ (by omega)]; exact hy
  · rw [takeD' Q [] j hj, hl, ← List.append_assoc]
    exact hP.keep (fun b hb => Below.heap_setCell _ _ _ _ (by show b ≠ w.heap.size + 1; omega)) (fun b hb _ => Below.heap_setCell _ _ _ _ (by show b ≠ w.heap.size + 1; omega))
  · exact (Below.grown (hb.alloc hb.size _) hgrow (by simp; omega) (fun x hx => by have := hblk x hx; omega)).setCell (p := ⟨w.heap.size + 1, 1, none⟩) (by show w.heap.size ≤ w.heap.size + 1; omega) _
set_option maxRecDepth 100000 in
set_option maxHeartbeats 4000000 in
theorem refSet_join_full (w : World) (N : Nat → Prop) (r : Nat) (x : Int) (i : Nat) (hi : i < 26) (hx : letR x = i) (R : RegsT) (k : Int) (y : Value) (Y : Txt) (h : RefIn w N r R) (hy : TxtAt w (fun b => N b ∧ b ≠ r) y Y) (hk0 : 0 ≤ k) (hk2 : k ≤ 2) (hY : 0 < Y.length) (hz4 : 4096 < sizeL ((R i).2 ++ Y) ∨ 400 < ((R i).2 ++ Y).length) (hS2 : sizeL ((R i).2 ++ Y) ≤ 1000000) (hg : x < 97) (hkk : (R i).1 = k) (hk1 : k < 2) (hXl : (R i).2.length ≤ 400) (hYl : Y.length ≤ 400) :
    Calls Try.prog 29 #[.pointer (some ⟨r, 0, none⟩), .int .i64 x, .agg #[.int .i64 k, y]] w fun e w' => e = .returned (.int .i64 6) ∧ Below w.heap.size w w' := by
  have H := Lib.hid h
  have hrl : r < w.heap.size := by obtain ⟨⟨cs, h1, _⟩, _⟩ := h; exact lt_of_heap h1
  obtain ⟨ay, cy, rfl, gy1, gy2, hyr⟩ := id hy
  obtain ⟨ax, cx, x0, x1, htx, -, -⟩ := h.cells i (by omega)
  obtain ⟨X, hX⟩ : ∃ X, (R i).2 = X := ⟨_, rfl⟩
  rw [hX] at hz4 hS2 hXl htx x1 
  obtain ⟨ax', cx', ex, gx1, gx2, hxr⟩ := id htx
  obtain ⟨rfl, rfl⟩ : ax = ax' ∧ cx = cx' := by simpa using ex
  have HXT := Lib.hid hxr
  have HYT := Lib.hid hyr
  obtain ⟨Xl, hXe⟩ : ∃ Xl, X.length = Xl := ⟨_, rfl⟩
  obtain ⟨ly, hYe⟩ : ∃ ly, Y.length = ly := ⟨_, rfl⟩
  have HXL := Lib.hid hXe
  have HYL := Lib.hid hYe
  rw [hXe] at gx1 x1 hXl
  rw [hYe] at gy1 hY hYl ⊢
  unfold maxLen at gx2 gy2
  have HS2 := Lib.hid hS2
  have HZ4 := Lib.hid hz4

  have hly0 : ((ly : Int) == 0) = false := by simp; omega
  have hk0b : decide (k < 0) = false := by simp; omega
  have hk2c : decide (2 < k) = false := by simp; omega
  have hk1b : decide (k < 2) = true := by simpa using hk1
  have hgb : decide (x < 97) = true := by simpa using hg
  have hkke : (k == k) = true := by simp
  obtain ⟨i1, ji0, jz0, jz1, jz2⟩ := info_parts info55
  have HJ := Lib.hid (And.intro ji0 (And.intro jz0 (And.intro jz1 jz2)))
  clear ji0 jz0 jz1 jz2
  have HW := Lib.hid (fun w => Letter_calls x w)
  rw [hx] at HW
  have HB1 := Lib.hid (show Below w.heap.size w (w.alloc (.cells #[.int .i64 k, .slice ay ly cy] 24)) from (Below.refl _ _).alloc (Nat.le_refl _) _)
  have HN1 := Lib.hid (heap_new w (.cells #[.int .i64 k, .slice ay ly cy] 24))
  rw [hkk] at x0
  have q0 := x0
  have q1 := x1
  have x0 := (World.cell?_alloc_old w (.cells #[.int .i64 k, .slice ay ly cy] 24) _ (Nat.ne_of_lt (World.block_lt_of_cell? _ _ x0))).trans x0
  have x1 := (World.cell?_alloc_old w (.cells #[.int .i64 k, .slice ay ly cy] 24) _ (Nat.ne_of_lt (World.block_lt_of_cell? _ _ x1))).trans x1
  have hi26 : ((i : Int) < 26) = True := eq_true (by omega)
  clear hx h hy hyr hxr htx hX hXe hYe hS2 hz4 hkk hg hk1 ex
  go_enter Try.func29, Try.ntmps29
  go_wp2_with (go_at_call 38; refine (HW.out _).mono ?_; rintro e w' ⟨rfl, rfl⟩)
  go_quiet (fail)
  have hw2 : Below (w.heap.size + 1) (w.alloc (.cells #[.int .i64 k, .slice ay ly cy] 24)) (((w.alloc (.cells #[.int .i64 k, .slice ay ly cy] 24)).drewN nq).alloc (.cells #[.int .i64 k, .slice none 0 0] 24)) := (below_drewN (Below.refl _ _) nq).alloc (by simp) _
  have HQ1 := Lib.hid (HB1.out.trans (hw2.mono (by omega)))
  have HA1 := Lib.hid ((hw2.block w.heap.size (by omega)).trans HN1.out)
  have HA2 := Lib.hid (show (((w.alloc (.cells #[.int .i64 k, .slice ay ly cy] 24)).drewN nq).alloc (.cells #[.int .i64 k, .slice none 0 0] 24)).heap[w.heap.size + 1]? = some (.cells #[.int .i64 k, .slice none 0 0] 24 (0, 0)) by
    have := heap_new ((w.alloc (.cells #[.int .i64 k, .slice ay ly cy] 24)).drewN nq) (.cells #[.int .i64 k, .slice none 0 0] 24)
    have e : ((w.alloc (.cells #[.int .i64 k, .slice ay ly cy] 24)).drewN nq).heap.size = w.heap.size + 1 := by show (w.alloc (.cells #[.int .i64 k, .slice ay ly cy] 24)).heap.size = w.heap.size + 1; simp
    rw [e] at this; exact this)
  have hsw : w.heap.size + 2 ≤ (((w.alloc (.cells #[.int .i64 k, .slice ay ly cy] 24)).drewN nq).alloc (.cells #[.int .i64 k, .slice none 0 0] 24)).heap.size := by
    have e : ((w.alloc (.cells #[.int .i64 k, .slice ay ly cy] 24)).drewN nq).heap.size = w.heap.size + 1 := by show (w.alloc (.cells #[.int .i64 k, .slice ay ly cy] 24)).heap.size = w.heap.size + 1; simp
    simp only [World.size_alloc, e]; omega
  have HJ0 := Lib.hid (show JoRel w (fun b => N b ∧ b ≠ r) k (.slice ay ly cy) [] X (.int .i64 0) (((w.alloc (.cells #[.int .i64 k, .slice ay ly cy] 24)).drewN nq).alloc (.cells #[.int .i64 k, .slice none 0 0] 24)) from
    ⟨0, _, rfl, Nat.zero_le _, HA2.out, HA1.out, OutN.nil _ _ _ _, HQ1.out, hsw⟩)
  have HPL := Lib.hid (show ([] : Txt).length ≤ 400 by decide)
  have c0 := HQ1.out.cell (p := ⟨r, i * 2, none⟩) hrl
  have c0 := c0.trans q0
  have c1 := (HQ1.out.cell (p := ⟨r, i * 2 + 1, none⟩) hrl).trans q1
  clear x0 x1 q0 q1 hw2 hsw
  go_upto_region 6 with fail
  generalize ((w.alloc (.cells #[.int .i64 k, .slice ay ly cy] 24)).drewN nq).alloc (.cells #[.int .i64 k, .slice none 0 0] 24) = w2 at *
  clear HB1 HN1 HA1 HA2
  go_wp2_with fail
  go_loopw [71] (fun iv wr => JoRel w (fun b => N b ∧ b ≠ r) k (.slice ay ly cy) ([] : Txt) X iv wr) (fun iv _ => Xl - (intOf iv).toNat)
  case atStart => exact HJ0.out
  case round =>
    obtain ⟨j, ov, rfl, hj, hg1, hbx, hout, hbel, hsz⟩ := hrel
    have HG1 := Lib.hid hg1
    have HBX := Lib.hid hbx
    have HO := Lib.hid hout
    have HBL := Lib.hid hbel
    obtain ⟨oa, op, rfl⟩ := hout.slice
    obtain ⟨n, hn⟩ : ∃ n, (([] : Txt) ++ X.take j).length = n := ⟨_, rfl⟩
    have HNN := Lib.hid hn
    have hnle : n ≤ 1000 := by have h1 := HPL.out; have h2 := HXL.out; rw [List.length_append, List.length_take] at hn; omega
    rw [hn] at HG1 hg1
    rw [HXL.out] at hj
    clear hout hbel hn hbx
    by_cases hjn : j < Xl
    · obtain ⟨b, off, xv, e, hNb, hc, hr⟩ := HXT.out j (by rw [HXL.out]; exact hjn)
      have e : ax = some ⟨b, off, none⟩ := e
      subst e
      obtain ⟨l, hl⟩ : ∃ l, X.getD j [] = l := ⟨_, rfl⟩
      rw [hl] at hr
      have HLE := Lib.hid hl
      have hc := (HBL.out.cell (p := ⟨b, off + j, none⟩) (World.block_lt_of_cell? _ _ hc)).trans hc
      have HR := Lib.hid (hr.keep (w' := wr) (N' := fun b => (N b ∧ b ≠ r) ∧ b < w.heap.size) fun b hb hl => ⟨⟨hb, hl⟩, HBL.out.block b hl⟩)
      obtain ⟨ra, rc, rfl, -, -, -⟩ := hr
      obtain ⟨ys, hown0, hys0⟩ := HO.out
      rw [HNN.out] at hown0
      have HYS := Lib.hid hys0
      have HOWN0 := Lib.hid hown0
      have HOWN := Lib.hid (hown0.alloc (.cells #[.slice ra l.length rc] 55))
      have HNEWS := Lib.hid (news_one wr (.slice ra l.length rc) 55)
      have HSZ2 := Lib.hid (show w.heap.size + 2 ≤ (wr.alloc (.cells #[.slice ra l.length rc] 55)).heap.size by simp; omega)
      have HMAX := Lib.hid (show n + 1 ≤ maxLen by unfold maxLen; omega)
      have HBYTES := Lib.hid (show (n + 1) * 24 ≤ 140737488355328 by omega)
      have c1 : wr.cell? ⟨w.heap.size + 1, 1, none⟩ = some (.slice oa n op) := (cell_row hg1 1).trans rfl
      have HQ2 := Lib.hid (show (wr.alloc (.cells #[.slice ra l.length rc] 55)).heap[w.heap.size + 1]? = some (.cells #[.int .i64 k, .slice oa n op] 24 (0, 0)) from (Below.heap_alloc _ _ _ (by omega)).trans hg1)
      have HSR := Lib.hid (show w.heap.size + 1 < (wr.alloc (.cells #[.slice ra l.length rc] 55)).heap.size by simp; omega)
      clear hg1 hown0 hys0 hl hNb
      go_wp2_with (at_builtin; go_must (refine wpList_append_lies _ rfl (.tmp 76) (.tmp 78) 22 rfl (w.heap.size + 2) 55 i1 (.slice none 0 0) 1 24 Try.underlying22 HJ.out.1 HJ.out.2.1 HJ.out.2.2.1 HJ.out.2.2.2 rfl (by decide) (.slice oa n op) n ys rfl HOWN.out ⟨wr.heap.size, 0, none⟩ 1 1 [.slice ra l.length rc] rfl rfl HNEWS.out (by simp [Value.oneCell']) (by decide) HMAX.out HBYTES.out HSZ2.out (wr.heap.size + 1) (by simp) ?_); intro g cap w3 hown hgrow hat hlt; have hq := (hgrow.block (w.heap.size + 1) HSR.out (fun e => by have := (HOWN0.out.lt _ e.symm).1; omega)).trans HQ2.out; have e1 := (cell_row hq 1).trans (show (#[Value.int .i64 k, .slice oa n op] : Array Value)[1]? = some (.slice oa n op) from rfl); have e2 := frozen_row hq 1; have HQ3 := Lib.hid hq; have HO3 := Lib.hid hown; have HG3 := Lib.hid hgrow; clear hown hgrow hat hlt hq)
      go_roundw
      · have := JoRel.next (j := j) (by rw [HXL.out]; exact hjn) HLE.out HNN.out HBX.out HYS.out HOWN0.out HR.out HBL.out hsz HO3.out HG3.out HQ3.out
        exact this
      · simp [intOf]; omega
    · obtain rfl : j = Xl := by omega
      have hXj : ([] : Txt) ++ X.take j = X := by rw [List.nil_append, List.take_of_length_le (by rw [HXL.out]; exact Nat.le_refl _)]
      have HO1 := Lib.hid HO.out
      rw [hXj] at HO1 HNN
      have HJ0 := Lib.hid (show JoRel w (fun b => N b ∧ b ≠ r) k (.slice ay ly cy) X Y (.int .i64 0) wr from ⟨0, _, rfl, Nat.zero_le _, HG1.out, HBX.out, by rw [List.take_zero, List.append_nil]; have := HO1.out; rw [← HNN.out]; exact this, HBL.out, hsz⟩)
      have HPL := Lib.hid (show X.length ≤ 400 by rw [HXL.out]; exact hXl)
      have y1 : wr.cell? ⟨w.heap.size, 1, none⟩ = some (.slice ay ly cy) := (cell_row HBX.out 1).trans rfl
      clear hXj HO1 HO hg1 HG1 HBX HBL HNN hnle
      go_wp2_with fail
      clear y1
      go_loopw [85] (fun iv wr => JoRel w (fun b => N b ∧ b ≠ r) k (.slice ay ly cy) X Y iv wr) (fun iv _ => ly - (intOf iv).toNat)
      case atStart => exact HJ0.out
      case round =>
        obtain ⟨j, ov, rfl, hj, hg1, hbx, hout, hbel, hsz⟩ := hrel
        have HG1 := Lib.hid hg1
        have HBX := Lib.hid hbx
        have HO := Lib.hid hout
        have HBL := Lib.hid hbel
        obtain ⟨oa, op, rfl⟩ := hout.slice
        obtain ⟨n, hn⟩ : ∃ n, (X ++ Y.take j).length = n := ⟨_, rfl⟩
        have HNN := Lib.hid hn
        have hnle : n ≤ 1000 := by have h1 := HPL.out; have h2 := HYL.out; rw [List.length_append, List.length_take] at hn; omega
        rw [hn] at HG1 hg1
        rw [HYL.out] at hj
        clear hout hbel hn hbx
        by_cases hjn : j < ly
        · obtain ⟨b, off, xv, e, hNb, hc, hr⟩ := HYT.out j (by rw [HYL.out]; exact hjn)
          have e : ay = some ⟨b, off, none⟩ := e
          subst e
          obtain ⟨l, hl⟩ : ∃ l, Y.getD j [] = l := ⟨_, rfl⟩
          rw [hl] at hr
          have HLE := Lib.hid hl
          have hc := (HBL.out.cell (p := ⟨b, off + j, none⟩) (World.block_lt_of_cell? _ _ hc)).trans hc
          have HR := Lib.hid (hr.keep (w' := wr) (N' := fun b => (N b ∧ b ≠ r) ∧ b < w.heap.size) fun b hb hl => ⟨⟨hb, hl⟩, HBL.out.block b hl⟩)
          obtain ⟨ra, rc, rfl, -, -, -⟩ := hr
          obtain ⟨ys, hown0, hys0⟩ := HO.out
          rw [HNN.out] at hown0
          have HYS := Lib.hid hys0
          have HOWN0 := Lib.hid hown0
          have HOWN := Lib.hid (hown0.alloc (.cells #[.slice ra l.length rc] 55))
          have HNEWS := Lib.hid (news_one wr (.slice ra l.length rc) 55)
          have HSZ2 := Lib.hid (show w.heap.size + 2 ≤ (wr.alloc (.cells #[.slice ra l.length rc] 55)).heap.size by simp; omega)
          have HMAX := Lib.hid (show n + 1 ≤ maxLen by unfold maxLen; omega)
          have HBYTES := Lib.hid (show (n + 1) * 24 ≤ 140737488355328 by omega)
          have c1 : wr.cell? ⟨w.heap.size + 1, 1, none⟩ = some (.slice oa n op) := (cell_row hg1 1).trans rfl
          have HQ2 := Lib.hid (show (wr.alloc (.cells #[.slice ra l.length rc] 55)).heap[w.heap.size + 1]? = some (.cells #[.int .i64 k, .slice oa n op] 24 (0, 0)) from (Below.heap_alloc _ _ _ (by omega)).trans hg1)
          have HSR := Lib.hid (show w.heap.size + 1 < (wr.alloc (.cells #[.slice ra l.length rc] 55)).heap.size by simp; omega)
          clear hg1 hown0 hys0 hl hNb
          go_wp2_with (at_builtin; go_must (refine wpList_append_lies _ rfl (.tmp 90) (.tmp 92) 22 rfl (w.heap.size + 2) 55 i1 (.slice none 0 0) 1 24 Try.underlying22 HJ.out.1 HJ.out.2.1 HJ.out.2.2.1 HJ.out.2.2.2 rfl (by decide) (.slice oa n op) n ys rfl HOWN.out ⟨wr.heap.size, 0, none⟩ 1 1 [.slice ra l.length rc] rfl rfl HNEWS.out (by simp [Value.oneCell']) (by decide) HMAX.out HBYTES.out HSZ2.out (wr.heap.size + 1) (by simp) ?_); intro g cap w3 hown hgrow hat hlt; have hq := (hgrow.block (w.heap.size + 1) HSR.out (fun e => by have := (HOWN0.out.lt _ e.symm).1; omega)).trans HQ2.out; have e1 := (cell_row hq 1).trans (show (#[Value.int .i64 k, .slice oa n op] : Array Value)[1]? = some (.slice oa n op) from rfl); have e2 := frozen_row hq 1; have HQ3 := Lib.hid hq; have HO3 := Lib.hid hown; have HG3 := Lib.hid hgrow; clear hown hgrow hat hlt hq)
          go_roundw
          · have := JoRel.next (j := j) (by rw [HYL.out]; exact hjn) HLE.out HNN.out HBX.out HYS.out HOWN0.out HR.out HBL.out hsz HO3.out HG3.out HQ3.out
            exact this
          · simp [intOf]; omega
        · obtain rfl : j = ly := by omega
          have hYj : X ++ Y.take j = X ++ Y := by rw [List.take_of_length_le (by rw [HYL.out]; exact Nat.le_refl _)]
          have HO1 := Lib.hid HO.out
          rw [hYj] at HO1 HNN
          rw [HNN.out] at HO1
          have c1 : wr.cell? ⟨w.heap.size + 1, 1, none⟩ = some (.slice oa n op) := (cell_row HG1.out 1).trans rfl
          have c0 : wr.cell? ⟨w.heap.size + 1, 0, none⟩ = some (.int .i64 k) := (cell_row HG1.out 0).trans rfl
          have b0 : wr.cell? ⟨w.heap.size, 0, none⟩ = some (.int .i64 k) := (cell_row HBX.out 0).trans rfl
          have b1 : wr.cell? ⟨w.heap.size, 1, none⟩ = some (.slice ay j cy) := (cell_row HBX.out 1).trans rfl
          have b2 := frozen_row HBX.out 0
          have b3 := frozen_row HBX.out 1
          go_upto_region 17 with fail
          have HQB := Lib.hid (st_below (.int .i64 k) (.slice oa n op) HBL.out (Nat.le_refl _))
          have HBOX := Lib.hid (Two.of (st_same (.int .i64 k) (.slice oa n op) HBX.out))
          have HTZ := Lib.hid (show TxtAt ((wr.setCell ⟨w.heap.size, 0, none⟩ (.int .i64 k)).setCell ⟨w.heap.size, 1, none⟩ (.slice oa n op)) (fun b => (N b ∨ w.heap.size ≤ b) ∧ b ≠ r) (.slice oa n op) (X ++ Y) from HO1.out.txt.keep (w' := (wr.setCell ⟨w.heap.size, 0, none⟩ (.int .i64 k)).setCell ⟨w.heap.size, 1, none⟩ (.slice oa n op)) (N' := fun b => (N b ∨ w.heap.size ≤ b) ∧ b ≠ r) fun b hb _ => by
            rcases hb with h | h
            · exact ⟨⟨.inl h.1.1, h.1.2⟩, st_other wr _ _ (by omega)⟩
            · exact ⟨⟨.inr (by omega), by omega⟩, st_other wr _ _ (by omega)⟩)
          clear c0 c1 b0 b1 b2 b3 HG1 hg1 HBX HBL HO1 HO hYj hsz hnle
          generalize (wr.setCell ⟨w.heap.size, 0, none⟩ (.int .i64 k)).setCell ⟨w.heap.size, 1, none⟩ (.slice oa n op) = wq at *
          have HSZ := Lib.hid (SizeR_calls wq _ k _ (X ++ Y) HS2.out HTZ.out)
          have hzn := HNN.out
          have hz4 := HZ4.out
          skip
          rw [hzn] at hz4
          clear HZ4 HS2
          generalize sizeL (X ++ Y) = z at *
          clear hzn
          have y0 := HBOX.out.one
          have y1 := HBOX.out.two
          by_cases hzz : 4096 < z
          · clear hz4
            go_wp2_with fail
            refine HSZ.out.mono ?_
            rintro e w3 ⟨rfl, hw3⟩
            have hb3 : Below wq.heap.size wq w3 := by rw [hw3]; exact (Below.refl _ _).alloc (Nat.le_refl _) _
            have HB3 := Lib.hid (HQB.out.trans (hb3.mono HQB.out.size))
            have HY3 := Lib.hid (HBOX.out.below hb3 HBOX.out.lt)
            have HT3 := Lib.hid (HTZ.out.below hb3)
            have y0 := HY3.out.one
            have y1 := HY3.out.two
            clear hw3 hb3 HSZ HTZ HBOX HQB x0 x1
            go_wp2_with fail
            go_ret
            exact ⟨rfl, HB3.out⟩
          · have hz4 := hz4.resolve_left hzz
            go_wp2_with fail
            refine HSZ.out.mono ?_
            rintro e w3 ⟨rfl, hw3⟩
            have hb3 : Below wq.heap.size wq w3 := by rw [hw3]; exact (Below.refl _ _).alloc (Nat.le_refl _) _
            have HB3 := Lib.hid (HQB.out.trans (hb3.mono HQB.out.size))
            have HY3 := Lib.hid (HBOX.out.below hb3 HBOX.out.lt)
            have HT3 := Lib.hid (HTZ.out.below hb3)
            have y0 := HY3.out.one
            have y1 := HY3.out.two
            clear hw3 hb3 HSZ HTZ HBOX HQB x0 x1
            go_wp2_with fail
            go_ret
            exact ⟨rfl, HB3.out⟩
set_option maxRecDepth 100000 in
set_option maxHeartbeats 4000000 in
theorem refSet_join_ok (w : World) (N : Nat → Prop) (r : Nat) (x : Int) (i : Nat) (hi : i < 26) (hx : letR x = i) (R : RegsT) (k : Int) (y : Value) (Y : Txt) (h : RefIn w N r R) (hy : TxtAt w (fun b => N b ∧ b ≠ r) y Y) (hk0 : 0 ≤ k) (hk2 : k ≤ 2) (hY : 0 < Y.length) (hz4 : sizeL ((R i).2 ++ Y) ≤ 4096) (hL : ((R i).2 ++ Y).length ≤ 400) (hS2 : sizeL ((R i).2 ++ Y) ≤ 1000000) (hg : x < 97) (hkk : (R i).1 = k) (hk1 : k < 2) (hXl : (R i).2.length ≤ 400) (hYl : Y.length ≤ 400) :
    Calls Try.prog 29 #[.pointer (some ⟨r, 0, none⟩), .int .i64 x, .agg #[.int .i64 k, y]] w fun e w' => e = .returned (.int .i64 0) ∧ RefIn w' (fun b => N b ∨ w.heap.size ≤ b) r (putR (putR R i (k, (R i).2 ++ Y)) 26 (k, (R i).2 ++ Y)) ∧ KeepR r w w' := by
  have H := Lib.hid h
  have hrl : r < w.heap.size := by obtain ⟨⟨cs, h1, _⟩, _⟩ := h; exact lt_of_heap h1
  obtain ⟨ay, cy, rfl, gy1, gy2, hyr⟩ := id hy
  obtain ⟨ax, cx, x0, x1, htx, -, -⟩ := h.cells i (by omega)
  obtain ⟨X, hX⟩ : ∃ X, (R i).2 = X := ⟨_, rfl⟩
  rw [hX] at hz4 hS2 hXl htx x1 hL ⊢
  obtain ⟨ax', cx', ex, gx1, gx2, hxr⟩ := id htx
  obtain ⟨rfl, rfl⟩ : ax = ax' ∧ cx = cx' := by simpa using ex
  have HXT := Lib.hid hxr
  have HYT := Lib.hid hyr
  obtain ⟨Xl, hXe⟩ : ∃ Xl, X.length = Xl := ⟨_, rfl⟩
  obtain ⟨ly, hYe⟩ : ∃ ly, Y.length = ly := ⟨_, rfl⟩
  have HXL := Lib.hid hXe
  have HYL := Lib.hid hYe
  rw [hXe] at gx1 x1 hXl
  rw [hYe] at gy1 hY hYl ⊢
  unfold maxLen at gx2 gy2
  have HS2 := Lib.hid hS2
  have HZ4 := Lib.hid hz4
  have HZL := Lib.hid hL
  have hly0 : ((ly : Int) == 0) = false := by simp; omega
  have hk0b : decide (k < 0) = false := by simp; omega
  have hk2c : decide (2 < k) = false := by simp; omega
  have hk1b : decide (k < 2) = true := by simpa using hk1
  have hgb : decide (x < 97) = true := by simpa using hg
  have hkke : (k == k) = true := by simp
  obtain ⟨i1, ji0, jz0, jz1, jz2⟩ := info_parts info55
  have HJ := Lib.hid (And.intro ji0 (And.intro jz0 (And.intro jz1 jz2)))
  clear ji0 jz0 jz1 jz2
  have HW := Lib.hid (fun w => Letter_calls x w)
  rw [hx] at HW
  have HB1 := Lib.hid (show Below w.heap.size w (w.alloc (.cells #[.int .i64 k, .slice ay ly cy] 24)) from (Below.refl _ _).alloc (Nat.le_refl _) _)
  have HN1 := Lib.hid (heap_new w (.cells #[.int .i64 k, .slice ay ly cy] 24))
  rw [hkk] at x0
  have q0 := x0
  have q1 := x1
  have x0 := (World.cell?_alloc_old w (.cells #[.int .i64 k, .slice ay ly cy] 24) _ (Nat.ne_of_lt (World.block_lt_of_cell? _ _ x0))).trans x0
  have x1 := (World.cell?_alloc_old w (.cells #[.int .i64 k, .slice ay ly cy] 24) _ (Nat.ne_of_lt (World.block_lt_of_cell? _ _ x1))).trans x1
  have hi26 : ((i : Int) < 26) = True := eq_true (by omega)
  clear hx h hy hyr hxr htx hX hXe hYe hS2 hz4 hkk hg hk1 ex hL
  go_enter Try.func29, Try.ntmps29
  go_wp2_with (go_at_call 38; refine (HW.out _).mono ?_; rintro e w' ⟨rfl, rfl⟩)
  go_quiet (fail)
  have hw2 : Below (w.heap.size + 1) (w.alloc (.cells #[.int .i64 k, .slice ay ly cy] 24)) (((w.alloc (.cells #[.int .i64 k, .slice ay ly cy] 24)).drewN nq).alloc (.cells #[.int .i64 k, .slice none 0 0] 24)) := (below_drewN (Below.refl _ _) nq).alloc (by simp) _
  have HQ1 := Lib.hid (HB1.out.trans (hw2.mono (by omega)))
  have HA1 := Lib.hid ((hw2.block w.heap.size (by omega)).trans HN1.out)
  have HA2 := Lib.hid (show (((w.alloc (.cells #[.int .i64 k, .slice ay ly cy] 24)).drewN nq).alloc (.cells #[.int .i64 k, .slice none 0 0] 24)).heap[w.heap.size + 1]? = some (.cells #[.int .i64 k, .slice none 0 0] 24 (0, 0)) by
    have := heap_new ((w.alloc (.cells #[.int .i64 k, .slice ay ly cy] 24)).drewN nq) (.cells #[.int .i64 k, .slice none 0 0] 24)
    have e : ((w.alloc (.cells #[.int .i64 k, .slice ay ly cy] 24)).drewN nq).heap.size = w.heap.size + 1 := by show (w.alloc (.cells #[.int .i64 k, .slice ay ly cy] 24)).heap.size = w.heap.size + 1; simp
    rw [e] at this; exact this)
  have hsw : w.heap.size + 2 ≤ (((w.alloc (.cells #[.int .i64 k, .slice ay ly cy] 24)).drewN nq).alloc (.cells #[.int .i64 k, .slice none 0 0] 24)).heap.size := by
    have e : ((w.alloc (.cells #[.int .i64 k, .slice ay ly cy] 24)).drewN nq).heap.size = w.heap.size + 1 := by show (w.alloc (.cells #[.int .i64 k, .slice ay ly cy] 24)).heap.size = w.heap.size + 1; simp
    simp only [World.size_alloc, e]; omega
  have HJ0 := Lib.hid (show JoRel w (fun b => N b ∧ b ≠ r) k (.slice ay ly cy) [] X (.int .i64 0) (((w.alloc (.cells #[.int .i64 k, .slice ay ly cy] 24)).drewN nq).alloc (.cells #[.int .i64 k, .slice none 0 0] 24)) from
    ⟨0, _, rfl, Nat.zero_le _, HA2.out, HA1.out, OutN.nil _ _ _ _, HQ1.out, hsw⟩)
  have HPL := Lib.hid (show ([] : Txt).length ≤ 400 by decide)
  have c0 := HQ1.out.cell (p := ⟨r, i * 2, none⟩) hrl
  have c0 := c0.trans q0
  have c1 := (HQ1.out.cell (p := ⟨r, i * 2 + 1, none⟩) hrl).trans q1
  clear x0 x1 q0 q1 hw2 hsw
  go_upto_region 6 with fail
  generalize ((w.alloc (.cells #[.int .i64 k, .slice ay ly cy] 24)).drewN nq).alloc (.cells #[.int .i64 k, .slice none 0 0] 24) = w2 at *
  clear HB1 HN1 HA1 HA2
  go_wp2_with fail
  go_loopw [71] (fun iv wr => JoRel w (fun b => N b ∧ b ≠ r) k (.slice ay ly cy) ([] : Txt) X iv wr) (fun iv _ => Xl - (intOf iv).toNat)
  case atStart => exact HJ0.out
  case round =>
    obtain ⟨j, ov, rfl, hj, hg1, hbx, hout, hbel, hsz⟩ := hrel
    have HG1 := Lib.hid hg1
    have HBX := Lib.hid hbx
    have HO := Lib.hid hout
    have HBL := Lib.hid hbel
    obtain ⟨oa, op, rfl⟩ := hout.slice
    obtain ⟨n, hn⟩ : ∃ n, (([] : Txt) ++ X.take j).length = n := ⟨_, rfl⟩
    have HNN := Lib.hid hn
    have hnle : n ≤ 1000 := by have h1 := HPL.out; have h2 := HXL.out; rw [List.length_append, List.length_take] at hn; omega
    rw [hn] at HG1 hg1
    rw [HXL.out] at hj
    clear hout hbel hn hbx
    by_cases hjn : j < Xl
    · obtain ⟨b, off, xv, e, hNb, hc, hr⟩ := HXT.out j (by rw [HXL.out]; exact hjn)
      have e : ax = some ⟨b, off, none⟩ := e
      subst e
      obtain ⟨l, hl⟩ : ∃ l, X.getD j [] = l := ⟨_, rfl⟩
      rw [hl] at hr
      have HLE := Lib.hid hl
      have hc := (HBL.out.cell (p := ⟨b, off + j, none⟩) (World.block_lt_of_cell? _ _ hc)).trans hc
      have HR := Lib.hid (hr.keep (w' := wr) (N' := fun b => (N b ∧ b ≠ r) ∧ b < w.heap.size) fun b hb hl => ⟨⟨hb, hl⟩, HBL.out.block b hl⟩)
      obtain ⟨ra, rc, rfl, -, -, -⟩ := hr
      obtain ⟨ys, hown0, hys0⟩ := HO.out
      rw [HNN.out] at hown0
      have HYS := Lib.hid hys0
      have HOWN0 := Lib.hid hown0
      have HOWN := Lib.hid (hown0.alloc (.cells #[.slice ra l.length rc] 55))
      have HNEWS := Lib.hid (news_one wr (.slice ra l.length rc) 55)
      have HSZ2 := Lib.hid (show w.heap.size + 2 ≤ (wr.alloc (.cells #[.slice ra l.length rc] 55)).heap.size by simp; omega)
      have HMAX := Lib.hid (show n + 1 ≤ maxLen by unfold maxLen; omega)
      have HBYTES := Lib.hid (show (n + 1) * 24 ≤ 140737488355328 by omega)
      have c1 : wr.cell? ⟨w.heap.size + 1, 1, none⟩ = some (.slice oa n op) := (cell_row hg1 1).trans rfl
      have HQ2 := Lib.hid (show (wr.alloc (.cells #[.slice ra l.length rc] 55)).heap[w.heap.size + 1]? = some (.cells #[.int .i64 k, .slice oa n op] 24 (0, 0)) from (Below.heap_alloc _ _ _ (by omega)).trans hg1)
      have HSR := Lib.hid (show w.heap.size + 1 < (wr.alloc (.cells #[.slice ra l.length rc] 55)).heap.size by simp; omega)
      clear hg1 hown0 hys0 hl hNb
      go_wp2_with (at_builtin; go_must (refine wpList_append_lies _ rfl (.tmp 76) (.tmp 78) 22 rfl (w.heap.size + 2) 55 i1 (.slice none 0 0) 1 24 Try.underlying22 HJ.out.1 HJ.out.2.1 HJ.out.2.2.1 HJ.out.2.2.2 rfl (by decide) (.slice oa n op) n ys rfl HOWN.out ⟨wr.heap.size, 0, none⟩ 1 1 [.slice ra l.length rc] rfl rfl HNEWS.out (by simp [Value.oneCell']) (by decide) HMAX.out HBYTES.out HSZ2.out (wr.heap.size + 1) (by simp) ?_); intro g cap w3 hown hgrow hat hlt; have hq := (hgrow.block (w.heap.size + 1) HSR.out (fun e => by have := (HOWN0.out.lt _ e.symm).1; omega)).trans HQ2.out; have e1 := (cell_row hq 1).trans (show (#[Value.int .i64 k, .slice oa n op] : Array Value)[1]? = some (.slice oa n op) from rfl); have e2 := frozen_row hq 1; have HQ3 := Lib.hid hq; have HO3 := Lib.hid hown; have HG3 := Lib.hid hgrow; clear hown hgrow hat hlt hq)
      go_roundw
      · have := JoRel.next (j := j) (by rw [HXL.out]; exact hjn) HLE.out HNN.out HBX.out HYS.out HOWN0.out HR.out HBL.out hsz HO3.out HG3.out HQ3.out
        exact this
      · simp [intOf]; omega
    · obtain rfl : j = Xl := by omega
      have hXj : ([] : Txt) ++ X.take j = X := by rw [List.nil_append, List.take_of_length_le (by rw [HXL.out]; exact Nat.le_refl _)]
      have HO1 := Lib.hid HO.out
      rw [hXj] at HO1 HNN
      have HJ0 := Lib.hid (show JoRel w (fun b => N b ∧ b ≠ r) k (.slice ay ly cy) X Y (.int .i64 0) wr from ⟨0, _, rfl, Nat.zero_le _, HG1.out, HBX.out, by rw [List.take_zero, List.append_nil]; have := HO1.out; rw [← HNN.out]; exact this, HBL.out, hsz⟩)
      have HPL := Lib.hid (show X.length ≤ 400 by rw [HXL.out]; exact hXl)
      have y1 : wr.cell? ⟨w.heap.size, 1, none⟩ = some (.slice ay ly cy) := (cell_row HBX.out 1).trans rfl
      clear hXj HO1 HO hg1 HG1 HBX HBL HNN hnle
      go_wp2_with fail
      clear y1
      go_loopw [85] (fun iv wr => JoRel w (fun b => N b ∧ b ≠ r) k (.slice ay ly cy) X Y iv wr) (fun iv _ => ly - (intOf iv).toNat)
      case atStart => exact HJ0.out
      case round =>
        obtain ⟨j, ov, rfl, hj, hg1, hbx, hout, hbel, hsz⟩ := hrel
        have HG1 := Lib.hid hg1
        have HBX := Lib.hid hbx
        have HO := Lib.hid hout
        have HBL := Lib.hid hbel
        obtain ⟨oa, op, rfl⟩ := hout.slice
        obtain ⟨n, hn⟩ : ∃ n, (X ++ Y.take j).length = n := ⟨_, rfl⟩
        have HNN := Lib.hid hn
        have hnle : n ≤ 1000 := by have h1 := HPL.out; have h2 := HYL.out; rw [List.length_append, List.length_take] at hn; omega
        rw [hn] at HG1 hg1
        rw [HYL.out] at hj
        clear hout hbel hn hbx
        by_cases hjn : j < ly
        · obtain ⟨b, off, xv, e, hNb, hc, hr⟩ := HYT.out j (by rw [HYL.out]; exact hjn)
          have e : ay = some ⟨b, off, none⟩ := e
          subst e
          obtain ⟨l, hl⟩ : ∃ l, Y.getD j [] = l := ⟨_, rfl⟩
          rw [hl] at hr
          have HLE := Lib.hid hl
          have hc := (HBL.out.cell (p := ⟨b, off + j, none⟩) (World.block_lt_of_cell? _ _ hc)).trans hc
          have HR := Lib.hid (hr.keep (w' := wr) (N' := fun b => (N b ∧ b ≠ r) ∧ b < w.heap.size) fun b hb hl => ⟨⟨hb, hl⟩, HBL.out.block b hl⟩)
          obtain ⟨ra, rc, rfl, -, -, -⟩ := hr
          obtain ⟨ys, hown0, hys0⟩ := HO.out
          rw [HNN.out] at hown0
          have HYS := Lib.hid hys0
          have HOWN0 := Lib.hid hown0
          have HOWN := Lib.hid (hown0.alloc (.cells #[.slice ra l.length rc] 55))
          have HNEWS := Lib.hid (news_one wr (.slice ra l.length rc) 55)
          have HSZ2 := Lib.hid (show w.heap.size + 2 ≤ (wr.alloc (.cells #[.slice ra l.length rc] 55)).heap.size by simp; omega)
          have HMAX := Lib.hid (show n + 1 ≤ maxLen by unfold maxLen; omega)
          have HBYTES := Lib.hid (show (n + 1) * 24 ≤ 140737488355328 by omega)
          have c1 : wr.cell? ⟨w.heap.size + 1, 1, none⟩ = some (.slice oa n op) := (cell_row hg1 1).trans rfl
          have HQ2 := Lib.hid (show (wr.alloc (.cells #[.slice ra l.length rc] 55)).heap[w.heap.size + 1]? = some (.cells #[.int .i64 k, .slice oa n op] 24 (0, 0)) from (Below.heap_alloc _ _ _ (by omega)).trans hg1)
          have HSR := Lib.hid (show w.heap.size + 1 < (wr.alloc (.cells #[.slice ra l.length rc] 55)).heap.size by simp; omega)
          clear hg1 hown0 hys0 hl hNb
          go_wp2_with (at_builtin; go_must (refine wpList_append_lies _ rfl (.tmp 90) (.tmp 92) 22 rfl (w.heap.size + 2) 55 i1 (.slice none 0 0) 1 24 Try.underlying22 HJ.out.1 HJ.out.2.1 HJ.out.2.2.1 HJ.out.2.2.2 rfl (by decide) (.slice oa n op) n ys rfl HOWN.out ⟨wr.heap.size, 0, none⟩ 1 1 [.slice ra l.length rc] rfl rfl HNEWS.out (by simp [Value.oneCell']) (by decide) HMAX.out HBYTES.out HSZ2.out (wr.heap.size + 1) (by simp) ?_); intro g cap w3 hown hgrow hat hlt; have hq := (hgrow.block (w.heap.size + 1) HSR.out (fun e => by have := (HOWN0.out.lt _ e.symm).1; omega)).trans HQ2.out; have e1 := (cell_row hq 1).trans (show (#[Value.int .i64 k, .slice oa n op] : Array Value)[1]? = some (.slice oa n op) from rfl); have e2 := frozen_row hq 1; have HQ3 := Lib.hid hq; have HO3 := Lib.hid hown; have HG3 := Lib.hid hgrow; clear hown hgrow hat hlt hq)
          go_roundw
          · have := JoRel.next (j := j) (by rw [HYL.out]; exact hjn) HLE.out HNN.out HBX.out HYS.out HOWN0.out HR.out HBL.out hsz HO3.out HG3.out HQ3.out
            exact this
          · simp [intOf]; omega
        · obtain rfl : j = ly := by omega
          have hYj : X ++ Y.take j = X ++ Y := by rw [List.take_of_length_le (by rw [HYL.out]; exact Nat.le_refl _)]
          have HO1 := Lib.hid HO.out
          rw [hYj] at HO1 HNN
          rw [HNN.out] at HO1
          have c1 : wr.cell? ⟨w.heap.size + 1, 1, none⟩ = some (.slice oa n op) := (cell_row HG1.out 1).trans rfl
          have c0 : wr.cell? ⟨w.heap.size + 1, 0, none⟩ = some (.int .i64 k) := (cell_row HG1.out 0).trans rfl
          have b0 : wr.cell? ⟨w.heap.size, 0, none⟩ = some (.int .i64 k) := (cell_row HBX.out 0).trans rfl
          have b1 : wr.cell? ⟨w.heap.size, 1, none⟩ = some (.slice ay j cy) := (cell_row HBX.out 1).trans rfl
          have b2 := frozen_row HBX.out 0
          have b3 := frozen_row HBX.out 1
          go_upto_region 17 with fail
          have HQB := Lib.hid (st_below (.int .i64 k) (.slice oa n op) HBL.out (Nat.le_refl _))
          have HBOX := Lib.hid (Two.of (st_same (.int .i64 k) (.slice oa n op) HBX.out))
          have HTZ := Lib.hid (show TxtAt ((wr.setCell ⟨w.heap.size, 0, none⟩ (.int .i64 k)).setCell ⟨w.heap.size, 1, none⟩ (.slice oa n op)) (fun b => (N b ∨ w.heap.size ≤ b) ∧ b ≠ r) (.slice oa n op) (X ++ Y) from HO1.out.txt.keep (w' := (wr.setCell ⟨w.heap.size, 0, none⟩ (.int .i64 k)).setCell ⟨w.heap.size, 1, none⟩ (.slice oa n op)) (N' := fun b => (N b ∨ w.heap.size ≤ b) ∧ b ≠ r) fun b hb _ => by
            rcases hb with h | h
            · exact ⟨⟨.inl h.1.1, h.1.2⟩, st_other wr _ _ (by omega)⟩
            · exact ⟨⟨.inr (by omega), by omega⟩, st_other wr _ _ (by omega)⟩)
          clear c0 c1 b0 b1 b2 b3 HG1 hg1 HBX HBL HO1 HO hYj hsz hnle
          generalize (wr.setCell ⟨w.heap.size, 0, none⟩ (.int .i64 k)).setCell ⟨w.heap.size, 1, none⟩ (.slice oa n op) = wq at *
          have HSZ := Lib.hid (SizeR_calls wq _ k _ (X ++ Y) HS2.out HTZ.out)
          have hzn := HNN.out
          have hz4 := HZ4.out
          have hL := HZL.out
          rw [hzn] at hL
          clear HZ4 HS2
          generalize sizeL (X ++ Y) = z at *
          clear hzn
          have y0 := HBOX.out.one
          have y1 := HBOX.out.two
          go_wp2_with fail
          refine HSZ.out.mono ?_
          rintro e w3 ⟨rfl, hw3⟩
          have hb3 : Below wq.heap.size wq w3 := by rw [hw3]; exact (Below.refl _ _).alloc (Nat.le_refl _) _
          have HB3 := Lib.hid (HQB.out.trans (hb3.mono HQB.out.size))
          have HY3 := Lib.hid (HBOX.out.below hb3 HBOX.out.lt)
          have HT3 := Lib.hid (HTZ.out.below hb3)
          have y0 := HY3.out.one
          have y1 := HY3.out.two
          clear hw3 hb3 HSZ HTZ HBOX HQB x0 x1
          have hR3 := (H.out.below HB3.out).keep (N' := fun b => N b ∨ w.heap.size ≤ b) fun b hb _ => ⟨.inl hb, rfl⟩
          obtain ⟨a3, c3, q0, q1, -, -, -⟩ := hR3.cells i (by omega)
          have q2 := hR3.frozen (i * 2)
          have q3 := hR3.frozen (i * 2 + 1)
          have HR3 := Lib.hid hR3
          clear hR3
          go_wp2_with fail
          go_region
          all_goals
            have hp := (HR3.out.put i (by omega) k _ (X ++ Y) HT3.out).keep (w' := World.drew ((w3.setCell ⟨r, i * 2, none⟩ (.int .i64 k)).setCell ⟨r, i * 2 + 1, none⟩ (.slice oa n op))) (N' := fun b => N b ∨ w.heap.size ≤ b) fun b hb _ => ⟨hb, rfl⟩
            have hk4 : KeepR r w (World.drew ((w3.setCell ⟨r, i * 2, none⟩ (.int .i64 k)).setCell ⟨r, i * 2 + 1, none⟩ (.slice oa n op))) := (((KeepR.of HB3.out).setCell (i * 2) _).setCell (i * 2 + 1) _).trans (KeepR.of (Below.refl _ _).drew)
            have hk34 : KeepR r w3 (World.drew ((w3.setCell ⟨r, i * 2, none⟩ (.int .i64 k)).setCell ⟨r, i * 2 + 1, none⟩ (.slice oa n op))) := (((KeepR.of (Below.refl _ _)).setCell (i * 2) _).setCell (i * 2 + 1) _).trans (KeepR.of (Below.refl _ _).drew)
            have HY4 := Lib.hid (HY3.out.to (hk34.block _ HY3.out.lt (by omega)))
            have HT4 := Lib.hid (HT3.out.keep fun b hb hl => ⟨hb, hk34.block b hl hb.2⟩)
            have HR4 := Lib.hid hp
            have HK4 := Lib.hid hk4
            clear hp hk4 hk34 q0 q1 q2 q3 y0 y1
            generalize World.drew ((w3.setCell ⟨r, i * 2, none⟩ (.int .i64 k)).setCell ⟨r, i * 2 + 1, none⟩ (.slice oa n op)) = w4 at *
            have y0 := HY4.out.one
            have y1 := HY4.out.two
            obtain ⟨a4, c4, e0, e1, -, -, -⟩ := HR4.out.cells 26 (by decide)
            have e2 := HR4.out.frozen 52
            have e3 := HR4.out.frozen 53
            have e0 : w4.cell? ⟨r, 52, none⟩ = some (.int .i64 ((fun j => if j = i then (k, (X ++ Y)) else R j) 26).1) := e0
            have e1 : w4.cell? ⟨r, 53, none⟩ = some (.slice a4 ((fun j => if j = i then (k, (X ++ Y)) else R j) 26).2.length c4) := e1
            generalize ((fun j => if j = i then (k, (X ++ Y)) else R j) 26).1 = u1 at e0
            generalize ((fun j => if j = i then (k, (X ++ Y)) else R j) 26).2.length = u2 at e1
            go_wp2_with fail
            go_ret
            have hp := HR4.out.put 26 (by decide) k _ (X ++ Y) HT4.out
            exact ⟨rfl, hp, (HK4.out.setCell 52 _).setCell 53 _⟩
end Go.Proofs.Ythalpbbjcagnnaa
