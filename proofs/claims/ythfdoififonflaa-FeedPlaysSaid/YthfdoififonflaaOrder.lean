/- FeedOrder: typed keys come in the order in which they were typed: the walk. -/
import Derived.Test.YthfdoififonflaaTake
import Derived.Test.YthfdoififonflaaEnds
import Derived.Deep.DeepCutAuto
import Derived.Deep.CutBlock
set_option linter.unusedSimpArgs false
set_option linter.unusedVariables false
namespace Go.Proofs.Ythfdoififonflaa
open Go.RowKit Go.Conc Go.Proofs.Ythfdoififonflaa.Ch
structure OpL where
  kind : Int
  k : Int
  n : Int
  l : List Int
instance : Inhabited OpL := ⟨⟨0, 0, 0, []⟩⟩
structure OpAt (w : World) (b off : Nat) (o : OpL) : Prop where
  c0 : w.cell? ⟨b, off, none⟩ = some (.int .i64 o.kind)
  c1 : w.cell? ⟨b, off + 1, none⟩ = some (.int .i64 o.k)
  c2 : w.cell? ⟨b, off + 2, none⟩ = some (.int .i64 o.n)
  c3 : ∃ y, w.cell? ⟨b, off + 3, none⟩ = some y ∧ IntsAt w y o.l
  r0 : -9223372036854775808 ≤ o.kind ∧ o.kind ≤ 9223372036854775807
  r1 : -9223372036854775808 ≤ o.k ∧ o.k ≤ 9223372036854775807
  r2 : -9223372036854775808 ≤ o.n ∧ o.n ≤ 9223372036854775807
/-- A slice of calls as it reads. -/
def OpsAt (w : World) (x : Value) (l : List OpL) : Prop := ∃ a c, x = .slice a l.length c ∧ c ≤ maxLen ∧ l.length ≤ c ∧ ∀ i, i < l.length → ∃ b off, a = some ⟨b, off, none⟩ ∧ OpAt w b (off + i * 4) (l.getD i default)
theorem OpAt.below {w w' : World} {b off : Nat} {o : OpL} (h : OpAt w b off o) (hb : Below w.heap.size w w') : OpAt w' b off o := by
  have hlt : b < w.heap.size := World.block_lt_of_cell? _ _ h.c0
  have hc : ∀ j, w'.cell? ⟨b, j, none⟩ = w.cell? ⟨b, j, none⟩ := fun j => hb.cell (p := ⟨b, j, none⟩) hlt
  obtain ⟨y, hy, hi⟩ := h.c3
  exact { h with c0 := (hc _).trans h.c0, c1 := (hc _).trans h.c1, c2 := (hc _).trans h.c2, c3 := ⟨y, (hc _).trans hy, hi.below hb⟩ }
theorem OpsAt.below {w w' : World} {x : Value} {l : List OpL} (h : OpsAt w x l) (hb : Below w.heap.size w w') : OpsAt w' x l := by
  obtain ⟨a, c, rfl, h1, h2, h⟩ := h
  refine ⟨a, c, rfl, h1, h2, fun i hi => ?_⟩
  obtain ⟨b, off, rfl, hc⟩ := h i hi
  exact ⟨b, off, rfl, hc.below hb⟩
theorem take_calls {w0 w : World} {A C f : Nat} {tv : Value} {tl cl : List Int} {st : St} (h : OrdW w0 w A C f tv tl cl st) :
    Calls Try.prog 13 #[.pointer (some ⟨A, 0, none⟩), .pointer (some ⟨C, 0, none⟩)] w fun e w' => e = .returned (.bool (st.next.1.2.2 != 4)) ∧ ∃ cl', OrdW w0 w' A C f tv tl cl' st.next.2 := by
  obtain ⟨Nf, cv, h, hinv, hfew⟩ := h
  have hn := next_calls h.feed h.ok
  rcases st.next_typed with ⟨k, l, e, ht⟩ | ⟨hne, ht⟩
  · rw [e] at hn ⊢
    have hcl : cl.length ≤ 40 := by have := congrArg List.length hinv; rw [List.length_append] at this; omega
    have hok := St.next_ok h.ok
    rw [e] at hok
    refine (take_typed w0 A C f k tv cv tl cl { st with typed := l, used := 0 } w h.hA hcl (hn.mono fun e w' ⟨h1, h2, h3⟩ => ⟨h1, _, h.step (st' := { st with typed := l, used := 0 }) (FeedAt.mono (st := { st with typed := l, used := 0 }) h2 fun k hk => .inl hk) h3 hok⟩)).mono ?_
    rintro e w' ⟨rfl, Nf', cv', h'⟩
    exact ⟨rfl, _, Nf', cv', h', by rw [hinv, ht]; simp, hfew⟩
  · refine (take_other A C f st.next.1.1 st.next.1.2.2 st.next.1.2.1 _ w h.hA hne hn).mono ?_
    rintro e w' ⟨rfl, h2, h3⟩
    exact ⟨rfl, cl, _, cv, h.step (h2.mono fun k hk => .inl hk) h3 (St.next_ok h.ok), by rw [ht]; exact hinv, hfew⟩
/-- How many keys are there yet. -/
def St.left (st : St) : Nat := st.total + st.typed.length
theorem St.next_left (st : St) (h : st.ok) (hn : st.next.1.2.2 ≠ 4) : st.next.2.left < st.left := by
  rcases hp : st.packs.getLast? with _ | top
  · rcases ht : st.typed with _ | ⟨k, l⟩
    · have e : st.next = ((0, false, 4), st) := by simp only [St.next, hp, ht]
      rw [e] at hn; exact absurd rfl hn
    · have e : st.next = ((k, false, 0), { st with typed := l, used := 0 }) := by simp only [St.next, hp, ht]
      rw [e]; simp [St.left, St.total, ht]
  · have hlast : st.packs = st.packs.dropLast ++ [top] := by
      obtain ⟨ys, hy⟩ := List.getLast?_eq_some_iff.1 hp
      rw [hy]; simp
    have htop := h.short top (by rw [hlast]; simp)
    have hpos : 0 < top.length := List.length_pos_iff.2 htop.2
    have hs : (st.packs.map List.length).sum = (st.packs.dropLast.map List.length).sum + top.length := by conv => lhs; rw [hlast]
                                                                                                          simp
    by_cases hu : 200 ≤ st.used
    · have e : st.next = ((0, false, 12), { st with packs := [] }) := by simp only [St.next, hp]; rw [if_pos hu]
      rw [e]; simp only [St.left, St.total, List.map_nil, List.sum_nil]; omega
    · have e : st.next = ((top.headD 0, true, 0), { st with packs := if top.tail = [] then st.packs.dropLast else st.packs.dropLast ++ [top.tail], used := st.used + 1 }) := by simp only [St.next, hp]; rw [if_neg hu]
      rw [e]; simp only [St.left, St.total]
      split
      · omega
      · simp only [List.map_append, List.map_cons, List.map_nil, List.sum_append, List.sum_cons, List.sum_nil, List.length_tail]; omega
theorem St.next_none (st : St) (h : st.next.1.2.2 = 4) : st.next.2 = st ∧ st.typed = [] := by
  rcases hp : st.packs.getLast? with _ | top
  · rcases ht : st.typed with _ | ⟨k, l⟩
    · have e : st.next = ((0, false, 4), st) := by simp only [St.next, hp, ht]
      rw [e]; exact ⟨rfl, rfl⟩
    · have e : st.next = ((k, false, 0), { st with typed := l, used := 0 }) := by simp only [St.next, hp, ht]
      rw [e] at h; simp at h
  · by_cases hu : 200 ≤ st.used
    · have e : st.next = ((0, false, 12), { st with packs := [] }) := by simp only [St.next, hp]; rw [if_pos hu]
      rw [e] at h; simp at h
    · have e : st.next = ((top.headD 0, true, 0), { st with packs := if top.tail = [] then st.packs.dropLast else st.packs.dropLast ++ [top.tail], used := st.used + 1 }) := by simp only [St.next, hp]; rw [if_neg hu]
      rw [e] at h; simp at h
theorem sum_le (l : List (List Int)) (h : ∀ x ∈ l, x.length ≤ 100) : (l.map List.length).sum ≤ 100 * l.length := by
  induction l with
  | nil => simp
  | cons a l ih => have := ih (fun x hx => h x (List.mem_cons_of_mem _ hx)); have := h a (List.mem_cons_self ..); simp; omega
theorem St.left_le (st : St) (h : st.ok) : st.left ≤ 800 + st.typed.length := by
  have := sum_le st.packs (fun x hx => (h.short x hx).1)
  have := h.few
  unfold St.left St.total; omega
theorem OrdW.grow {w0 w w' : World} {A C f : Nat} {tv : Value} {tl cl : List Int} {st : St} (h : OrdW w0 w A C f tv tl cl st) (hk : Keep (fun _ => False) w w') : OrdW w0 w' A C f tv tl cl st := by
  obtain ⟨Nf, cv, h, hinv, hfew⟩ := h
  exact ⟨Nf, cv, h.grow hk, hinv, hfew⟩
theorem OrdW.push {w0 w : World} {A C f : Nat} {tv : Value} {tl cl : List Int} {st : St} (h : OrdW w0 w A C f tv tl cl st) {x : Value} {l : List Int} (hx : IntsAt w x l) :
    Calls Try.prog 10 #[fp f, x] w fun e w' => e = .returned (.int .i64 (st.push l).1) ∧ OrdW w0 w' A C f tv tl cl (st.push l).2 := by
  obtain ⟨Nf, cv, h, hinv, hfew⟩ := h
  refine (push_calls h.feed hx).mono ?_
  rintro e w' ⟨rfl, hf, hk⟩
  exact ⟨rfl, _, cv, h.step hf hk (St.push_ok h.ok l), by rw [(st_push_used st l).2]; exact hinv, hfew⟩
/-- A key typed, beside a block that has just been made: behind it, where it waits, it is in the feed and not yet in the list. -/
theorem OrdW.type {w0 w : World} {A C f : Nat} {tv : Value} {tl cl : List Int} {st : St} (h : OrdW w0 w A C f tv tl cl st) (o : Obj) (k : Int) :
    Calls Try.prog 8 #[fp f, .int .i64 k] (w.alloc o) fun e w' => e = .returned (.bool (st.type k).1) ∧ w'.heap[w.heap.size]? = some o ∧ ∃ Nf cv, OrdIn w0 w' Nf A C f tv cv tl cl (st.type k).2 := by
  obtain ⟨Nf, cv, h, hinv, hfew⟩ := h
  have h2 := h.grow (Keep.alloc w o)
  refine (type_calls h2.feed k).mono ?_
  rintro e w' ⟨rfl, hf, hk⟩
  refine ⟨rfl, (hk.block w.heap.size (by simp) (fun e => by have := h.low _ e; omega)).trans (heap_alloc_new w o), _, cv, h2.step (hf.mono fun k hk => .inl hk) hk (St.type_ok h2.ok k)⟩
theorem OrdIn.append {w0 w w4 : World} {Nf : Nat → Prop} {A C f g cap : Nat} {tv cv : Value} {tl cl : List Int} {st : St} {k : Int} (h : OrdIn w0 w Nf A C f tv cv tl cl st) {o : Obj}
    (hown : w4.ownsRow 0 3 1 (.slice (some ⟨g, 0, none⟩) (tl.length + 1) cap) (tl.length + 1) (iv tl ++ [.int .i64 k])) (hg : (w.alloc o).grownBy w4 tv.ownBlock) (hat : tv.ownBlock = some g ∨ g = w.heap.size + 1) :
    OrdIn w0 w4 Nf A C f (.slice (some ⟨g, 0, none⟩) (tl.length + 1) cap) cv (tl ++ [k]) cl st := by
  have hsz : (w.alloc o).heap.size = w.heap.size + 1 := by simp
  have old : ∀ x, x < w.heap.size → some x ≠ tv.ownBlock → w4.heap[x]? = w.heap[x]? := fun x hx hne => (hg.block x (by omega) hne).trans (Below.heap_alloc _ _ _ hx)
  have hA := lt_of_heap h.hA
  have hC := lt_of_heap h.hC
  have hG : w0.heap.size ≤ g ∧ g ≠ A ∧ g ≠ C ∧ ¬ Nf g := by
    rcases hat with e | e
    · exact h.tyd.out g e
    · have := h.bel.size; exact ⟨by omega, by omega, by omega, fun e2 => by have := h.low g e2; omega⟩
  exact {
    bel := ⟨hg.os.trans h.bel.os, hg.tape.trans h.bel.tape, hg.output.trans h.bel.output, by have := hg.size; have := h.bel.size; omega, fun x hx => (old x (by have := h.bel.size; omega) (fun e => by have := (h.tyd.out x e.symm).1; omega)).trans (h.bel.block x hx)⟩
    hA := (old A hA (fun e => (h.tyd.out A e.symm).2.1 rfl)).trans h.hA
    hC := (old C hC (fun e => (h.tyd.out C e.symm).2.2.1 rfl)).trans h.hC
    feed := h.feed.keep fun x hN hx => old x hx (fun e => (h.tyd.out x e.symm).2.2.2 hN)
    ok := h.ok
    sep := h.sep
    low := fun x hN => by have := h.low x hN; have := hg.size; omega
    hAC := h.hAC
    tyd := ⟨by rw [iv_snoc, show (tl ++ [k]).length = tl.length + 1 by simp]; exact hown, fun x hx => by obtain rfl : g = x := (by simpa [Value.ownBlock] using hx); exact hG⟩
    cam := by
      have hne : ∀ x, cv.ownBlock = some x → g ≠ x := by
        intro x hx e
        subst e
        rcases hat with e | e
        · exact (h.cam.out g hx).2.2.2.2 e
        · have := (h.cam.row.lt g hx).2; omega
      refine ⟨ownsRow_of h.cam.row fun x hx => old x (h.cam.row.lt x hx).2 (fun e => (h.cam.out x hx).2.2.2.2 e.symm), fun x hx => ?_⟩
      have := h.cam.out x hx
      exact ⟨this.1, this.2.1, this.2.2.1, this.2.2.2.1, by simp only [Value.ownBlock]; intro e; exact hne x hx (by simpa using e)⟩ }
theorem own_ints {w : World} {v : Value} {l : List Int} (h : w.ownsRow 0 3 1 v l.length (iv l)) : IntsAt w v l := by
  rcases h.2 with ⟨rfl, h0⟩ | ⟨g, cap, cur, rfl, hb, hgg, rest⟩
  · exact ⟨none, 0, by rw [h0], fun i hi => by omega⟩
  · refine ⟨_, cap, rfl, fun i hi => ⟨g, 0, rfl, ?_⟩⟩
    have := h.cells (g := g) rfl i (.int .i64 (l.getD i 0)) (by simp [iv, List.getD_eq_getElem?_getD, List.getElem?_eq_getElem hi])
    rw [add0] at this
    rw [Nat.zero_add]; exact this
def Ord1 (w : World) (A C f n : Nat) (tv iv : Value) (wr : World) : Prop := ∃ (j : Nat) (tl cl : List Int) (st : St), iv = .int .i64 j ∧ j ≤ n ∧ tl.length ≤ j ∧ OrdW w wr A C f tv tl cl st
def Ord3 (w : World) (A C f : Nat) (tv iv : Value) (wr : World) : Prop := ∃ (j : Nat) (tl cl : List Int) (st : St), iv = .int .i64 j ∧ st.left + j ≤ 840 ∧ OrdW w wr A C f tv tl cl st
def Ord2 (w : World) (A C f : Nat) (tv : Value) (wr : World) : Prop := ∃ (tl cl : List Int) (st : St), OrdW w wr A C f tv tl cl st
set_option maxRecDepth 100000 in
set_option maxHeartbeats 2000000 in
theorem feedOrder_walk (x : Value) (ops : List OpL) (w : World) (hx : OpsAt w x ops) : Calls Try.prog 4 #[x] w fun e w' => e = .returned (.bool true) ∧ Below w.heap.size w w' := by
  obtain ⟨i0, hi, hz0, hz1, hz2⟩ := info_parts infoInt3
  have HI := Lib.hid hi
  have HZ0 := Lib.hid hz0
  have HZ1 := Lib.hid hz1
  have HZ2 := Lib.hid hz2
  clear hi hz0 hz1 hz2
  have HX := Lib.hid hx
  obtain ⟨a, c, rfl, hc, hlc, -⟩ := hx
  obtain ⟨n, hn⟩ : ∃ n, ops.length = n := ⟨_, rfl⟩
  rw [hn] at hlc HX ⊢
  have HN := Lib.hid hn
  clear hn
  unfold maxLen at hc
  go_enter Try.func4, Try.ntmps4
  go_wp2_with fail
  refine (new_calls 1000 _).mono ?_
  rintro e w1 ⟨f, rfl, hf, hk⟩
  have HF := Lib.hid hf
  have HK := Lib.hid hk
  clear hf hk
  go_upto_block 0 with (fail)
  have h0 : Ord1 w w1.heap.size (w1.heap.size + 1) f n (.slice none 0 0) (.int .i64 0) ((w1.alloc (.cells #[.pointer (some ⟨f, 0, none⟩)] 23)).alloc (.cells #[.slice none 0 0] 22)) := by
    have hk := HK.out
    have hsz : (w1.alloc (.cells #[.pointer (some ⟨f, 0, none⟩)] 23)).heap.size = w1.heap.size + 1 := by simp
    have b1 := hk.below (B := w.heap.size) (fun _ h => h) (Nat.le_refl _)
    have hA := heap_alloc_new w1 (.cells #[.pointer (some ⟨f, 0, none⟩)] 23)
    have hC := heap_alloc_new (w1.alloc (.cells #[.pointer (some ⟨f, 0, none⟩)] 23)) (.cells #[.slice none 0 0] 22)
    rw [hsz] at hC
    have hB := hk.size
    refine ⟨0, [], [], ⟨1000, [], [], 0⟩, rfl, Nat.zero_le _, Nat.le_refl _, fun k => w.heap.size ≤ k ∧ k < w1.heap.size, .slice none 0 0, ?_, rfl, by simp⟩
    exact {
      bel := (b1.alloc hB _).alloc (by omega) _
      hA := (Below.heap_alloc _ _ _ (by omega)).trans hA
      hC := hC
      feed := (HF.out.lt.alloc _).alloc _
      ok := St.new_ok _
      sep := fun k hk => ⟨hk.1, by omega, by omega⟩
      low := fun k hk => by rw [World.size_alloc]; omega
      hAC := ⟨by omega, hB, by omega⟩
      tyd := ⟨World.ownsRow_nil _ _ _ _, fun k hk => by simp [Value.ownBlock] at hk⟩
      cam := ⟨World.ownsRow_nil _ _ _ _, fun k hk => by simp [Value.ownBlock] at hk⟩ }
  have H0 := Lib.hid h0
  clear h0
  obtain ⟨A, hA⟩ : ∃ A, A = w1.heap.size := ⟨_, rfl⟩
  obtain ⟨C, hC⟩ : ∃ C, C = w1.heap.size + 1 := ⟨_, rfl⟩
  rw [← hC, ← hA] at H0 ⊢
  clear hA hC HF HK
  generalize (w1.alloc (.cells #[.pointer (some ⟨f, 0, none⟩)] 23)).alloc (.cells #[.slice none 0 0] 22) = w2 at *
  go_cut [4] (fun tv wr => Ord2 w A C f tv wr)
  case first =>
    go_wp2_with fail
    go_loopw [4, 14] (fun tv iv wr => Ord1 w A C f n tv iv wr) (fun _ i _ => n - (intOf i).toNat)
    case atStart => exact H0.out
    case round =>
      obtain ⟨j, tl, cl, st, rfl, hj, htl, hw⟩ := hrel
      have HW := Lib.hid hw
      clear hw
      by_cases hjn : j < n
      · obtain ⟨Nf, cv, hoi, -⟩ := HW.out
        have hbel := hoi.bel
        have hop := HX.out.below hbel
        obtain ⟨a', c', e, -, -, hop⟩ := hop
        obtain ⟨b, off, e2, hop2⟩ := hop j (by rw [HN.out]; exact hjn)
        clear hop
        obtain ⟨rfl, -⟩ : a = a' ∧ c = c' := by simp at e; exact ⟨e.1, e.2.2⟩
        subst e2
        have hAl : A < wr.heap.size := lt_of_heap hoi.hA
        have hCl : C < wr.heap.size := lt_of_heap hoi.hC
        have hAc := cell_of_one hoi.hA
        have HO := Lib.hid hop2
        clear hop2 hoi e
        have c0 := HO.out.c0
        have c1 := HO.out.c1
        have c2 := HO.out.c2
        obtain ⟨y, c3, hy⟩ := HO.out.c3
        have HY := Lib.hid hy
        obtain ⟨ya, yc, rfl, -⟩ := hy
        generalize ops.getD j default = o at *
        obtain ⟨m, hm⟩ : ∃ m, o.l.length = m := ⟨_, rfl⟩
        rw [hm] at c3 HY
        have HM := Lib.hid hm
        clear hm
        have W1 := Lib.hid (HW.out.grow (Keep.alloc wr (.cells #[.int .i64 o.kind, .int .i64 o.k, .int .i64 o.n, .slice ya m yc] 35)))
        have Y1 := Lib.hid (HY.out.below ((Below.refl _ _).alloc (Nat.le_refl _) (.cells #[.int .i64 o.kind, .int .i64 o.k, .int .i64 o.n, .slice ya m yc] 35)))
        clear hbel
        by_cases hj40 : 40 ≤ j
        · go_wp2_with fail
          go_meet
          exact ⟨_, _, _, W1.out⟩
        · by_cases hk2 : o.kind = 2
          · have d1 : (o.kind == 2) = true := by rw [hk2]; rfl
            have HK2 := Lib.hid hk2
            by_cases hm100 : m ≤ 100
            · clear hk2
              go_wp2_with fail
              refine (W1.out.push Y1.out).mono ?_
              rintro e w3 ⟨rfl, h3⟩
              have fin : Ord1 w A C f n u4 (.int .i64 ((j : Int) + 1)) w3 := ⟨j + 1, tl, cl, _, rfl, by omega, by omega, h3⟩
              have FIN := Lib.hid fin
              clear h3 fin
              go_wp2_with fail
              go_roundw
              case rel => exact FIN.out
              case measure => simp [intOf]; omega
            · clear hk2
              have hk2' : ¬ (o.kind < 2) := by have := HK2.out; omega
              go_wp2_with fail
              refine (take_calls W1.out).mono ?_
              rintro e w3 ⟨rfl, cl', h3⟩
              have fin : Ord1 w A C f n u4 (.int .i64 ((j : Int) + 1)) w3 := ⟨j + 1, tl, cl', _, rfl, by omega, by omega, h3⟩
              have FIN := Lib.hid fin
              clear h3 fin
              go_wp2_with fail
              go_roundw
              case rel => exact FIN.out
              case measure => simp [intOf]; omega
          · have d1 : (o.kind == 2) = false := by rw [beq_eq_false_iff_ne]; exact hk2
            by_cases hlow : o.kind < 2
            · have hT := HW.out.type (.cells #[.int .i64 o.kind, .int .i64 o.k, .int .i64 o.n, .slice ya m yc] 35) o.k
              have HT := Lib.hid hT
              clear hT
              obtain ⟨Nf0, cv0, -, hinv, hfew⟩ := HW.out
              by_cases hroom : st.typed.length < st.room
              · have e1 : st.type o.k = (true, { st with typed := st.typed ++ [o.k] }) := by simp [St.type, hroom]
                rw [e1] at HT
                have HINV := Lib.hid hinv
                clear hroom e1 hinv
                go_wp2_with fail
                refine HT.out.mono ?_
                rintro e w3 ⟨rfl, hblk, Nf3, cv3, h3⟩
                have k1 : w3.cell? ⟨wr.heap.size, 1, none⟩ = some (.int .i64 o.k) := (cell_of_row w3 _ 1 _ _ _ hblk).trans rfl
                have H3 := Lib.hid h3
                have hnews := cell_one_new w3 (.int .i64 o.k) 3
                have HNEWS := Lib.hid hnews
                have HOWN := Lib.hid (h3.tyd.row.alloc (.cells #[.int .i64 o.k] 3))
                have HMAX := Lib.hid (show tl.length + 1 ≤ maxLen by unfold maxLen; omega)
                have HBYTES := Lib.hid (show (tl.length + 1) * 8 ≤ 140737488355328 by omega)
                clear hblk h3 hnews
                go_wp2_with (at_builtin; refine wpList_append_lies _ rfl (.tmp 41) (.tmp 44) 22 rfl 0 3 i0 (.int .i64 0) 1 8 Try.underlying22 HI.out HZ0.out HZ1.out HZ2.out rfl (by decide) u4 tl.length (iv tl) rfl HOWN.out ⟨w3.heap.size, 0, none⟩ 1 1 [.int .i64 o.k] rfl rfl HNEWS.out (by simp [Value.oneCell']) (by decide) HMAX.out HBYTES.out (by omega) (w3.heap.size + 1) (by simp) ?_; intro g cap w4 hown hgrow hat hlt; have H4 := Lib.hid (H3.out.append hown hgrow hat); clear hown hgrow hat hlt)
                have fin : Ord1 w A C f n (.slice (some ⟨g, 0, none⟩) (tl.length + 1) cap) (.int .i64 ((j : Int) + 1)) w4 := ⟨j + 1, tl ++ [o.k], cl, _, rfl, by omega, by simp; omega, _, cv3, H4.out, by rw [HINV.out]; simp, by simp; omega⟩
                have FIN := Lib.hid fin
                clear fin
                go_roundw
                case rel => exact FIN.out
                case measure => simp [intOf]; omega
              · have e1 : st.type o.k = (false, st) := by simp [St.type, hroom]
                rw [e1] at HT
                have HINV := Lib.hid hinv
                clear hroom e1 hinv
                go_wp2_with fail
                refine HT.out.mono ?_
                rintro e w3 ⟨rfl, -, Nf3, cv3, h3⟩
                have fin : Ord1 w A C f n u4 (.int .i64 ((j : Int) + 1)) w3 := ⟨j + 1, tl, cl, _, rfl, by omega, by omega, _, cv3, h3, HINV.out, hfew⟩
                have FIN := Lib.hid fin
                clear h3 fin
                go_wp2_with fail
                go_roundw
                case rel => exact FIN.out
                case measure => simp [intOf]; omega
            · go_wp2_with fail
              refine (take_calls W1.out).mono ?_
              rintro e w3 ⟨rfl, cl', h3⟩
              have fin : Ord1 w A C f n u4 (.int .i64 ((j : Int) + 1)) w3 := ⟨j + 1, tl, cl', _, rfl, by omega, by omega, h3⟩
              have FIN := Lib.hid fin
              clear h3 fin
              go_wp2_with fail
              go_roundw
              case rel => exact FIN.out
              case measure => simp [intOf]; omega
      · go_wp2_with fail
        go_meet
        exact ⟨_, _, _, HW.out⟩
  case rest =>
    obtain ⟨tl, cl, st, hw⟩ := hcut
    have h3 : Ord3 w A C f u4 (.int .i64 0) wc := by
      obtain ⟨Nf, cv, h, hinv, hfew⟩ := hw
      have h1 := st.left_le h.ok
      have h2 := congrArg List.length hinv
      rw [List.length_append] at h2
      exact ⟨0, tl, cl, st, rfl, by omega, Nf, cv, h, hinv, hfew⟩
    have H3 := Lib.hid h3
    clear hw h3
    go_wp2_with fail
    go_loopw [9] (fun i wr => Ord3 w A C f u4 i wr) (fun i _ => 5000 - (intOf i).toNat)
    case atStart => exact H3.out
    case round =>
      obtain ⟨j, tl, cl, st, rfl, hj, hw⟩ := hrel
      have HW := Lib.hid hw
      have HT := Lib.hid (take_calls hw)
      obtain ⟨Nf, cv, hoi, hinv, hfew⟩ := hw
      have hok := hoi.ok
      clear hinv hfew hoi
      have hj5 : j < 5000 := by omega
      by_cases hy : st.next.1.2.2 = 4
      · have e4 : (st.next.1.2.2 != 4) = false := by rw [hy]; rfl
        rw [e4] at HT
        have HN4 := Lib.hid (st.next_none hy)
        clear hy e4 hok
        go_wp2_with fail
        refine HT.out.mono ?_
        rintro e w3 ⟨rfl, cl', h3⟩
        rw [HN4.out.1] at h3
        obtain ⟨Nf3, cv3, h3, hinv3, hfew3⟩ := h3
        have HE := Lib.hid (show tl = cl' by rw [hinv3, HN4.out.2]; simp)
        have hC3 := cell_of_one h3.hC
        have hA3 := cell_of_one h3.hA
        have I1 := own_ints h3.tyd.row
        have I2 := own_ints h3.cam.row
        rw [← HE.out] at I2
        have HS := Lib.hid (same_eq u4 cv3 tl w3 I1 I2 (by omega))
        have HF3 := Lib.hid h3.feed
        have HB3 := Lib.hid h3.bel
        have h0 : st.typed.length = 0 := by rw [HN4.out.2]; rfl
        have HL0 := Lib.hid h0
        clear I1 I2 h3 hinv3 hfew3 h0
        go_wp2_with fail
        refine HS.out.mono ?_
        rintro e w4 ⟨rfl, q, rfl⟩
        have hwt := waits_calls (HF3.out.keep (w' := w3.drewN q) fun _ _ _ => rfl)
        rw [HL0.out] at hwt
        have HWT := Lib.hid hwt
        clear hwt
        go_wp2_with (first | (go_at_call 15; refine HWT.out.mono ?_; rintro e w5 ⟨rfl, rfl⟩) | (go_at_call 12; refine (awake_calls _).mono ?_; rintro e w6 ⟨rfl, hb⟩))
        go_ret
        exact ⟨rfl, (HB3.out.trans (show Below w.heap.size w3 (w3.drewN q) from ⟨rfl, rfl, rfl, Nat.le_refl _, fun _ _ => rfl⟩)).trans (hb.mono HB3.out.size)⟩
      · have e4 : (st.next.1.2.2 != 4) = true := by simpa using hy
        rw [e4] at HT
        have HLT := Lib.hid (st.next_left hok hy)
        clear hy e4 hok
        go_wp2_with fail
        refine HT.out.mono ?_
        rintro e w3 ⟨rfl, cl', h3⟩
        have fin : Ord3 w A C f u4 (.int .i64 ((j : Int) + 1)) w3 := ⟨j + 1, tl, cl', _, rfl, by have := HLT.out; omega, h3⟩
        have FIN := Lib.hid fin
        clear h3 fin
        go_wp2_with fail
        go_roundw
        case rel => exact FIN.out
        case measure => simp [intOf]; omega
end Go.Proofs.Ythfdoififonflaa
