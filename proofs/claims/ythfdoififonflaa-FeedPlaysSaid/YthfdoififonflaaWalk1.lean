/- Walks of the functions of package feed that communicate: what each does to the world, exactly. -/
import Derived.Test.YthfdoififonflaaProg
import Derived.Test.YthfdoififonflaaChan
import Derived.WalkKit
import Derived.Outline
import Derived.WalkSpells
import Derived.Lib.Hide
set_option linter.unusedSimpArgs false
set_option linter.unusedVariables false
namespace Go.Proofs.Ythfdoififonflaa
open Go.RowKit Go.Conc Go.Proofs.Ythfdoififonflaa.Ch
def kv (l : List Int) : Array Value := (l.map (Value.int .i64)).toArray
def chanOf (cap : Nat) (l : List Int) (cl : Bool) (s r : Nat) : Obj := .chan cap (kv l) cl s r false
theorem infoInt : (Try.prog.info? 3).map (fun i => (i.zero, i.size, i.bytes)) = some (some (.int .i64 0), 1, 8) := by kernel_rfl
theorem mkChan (t : TypeId) (d : ChanDir) (ht : Try.prog.underlying t = some (.chan d 3)) (n : Nat) (hn : n ≤ 1000) (w : World) :
    (Instr.makeChan t (.int .i64 n)).run Try.prog w = .ok (.chan (some w.heap.size)) (w.alloc (chanOf n [] false 0 0)) := by
  obtain ⟨i, hi, hz0, hz1, hz2⟩ := info_parts infoInt
  simpa [chanOf, kv] using run_makeChan (P := Try.prog) (w := w) ht hi .i64 n (by omega) (by rw [hz2]; omega)
theorem kv_size (l : List Int) : (kv l).size = l.length := by simp [kv]
theorem kv_push (l : List Int) (k : Int) : (kv l).push (.int .i64 k) = kv (l ++ [k]) := by simp [kv]
theorem chanOf_at (cap : Nat) (l : List Int) (cl : Bool) (s r : Nat) : chanOf cap l cl s r = .chan cap (kv l) cl s r false := rfl
theorem setChan_new (w : World) (o : Obj) (cap : Nat) (buf : Array Value) (cl : Bool) (s r : Nat) :
    (w.alloc o).setChan w.heap.size cap buf cl s r false = w.alloc (.chan cap buf cl s r false) := by
  have h : (w.heap.push o).setIfInBounds w.heap.size (.chan cap buf cl s r false) = w.heap.push (.chan cap buf cl s r false) := by
    apply Array.ext_getElem?
    intro i
    rw [Array.getElem?_setIfInBounds, Array.getElem?_push, Array.getElem?_push]
    by_cases hi : i = w.heap.size
    · subst hi; simp
    · rw [if_neg (fun e => hi e.symm), if_neg hi, if_neg hi]
  unfold World.setChan
  rw [show (w.alloc o).heap = w.heap.push o from rfl, h]
  rfl
def pkRel (w : World) (b off n c : Nat) (l : List Int) (a : Act) (wr : World) : Prop :=
  ∃ i : Nat, i ≤ n ∧ ∃ u5 u12 u13 u14 u15 u16 u17 : Value, a = { tmps := #[.slice (some ⟨b, off, none⟩) n c, undef, .chan none, .chan (some w.heap.size), undef, u5, .slice (some ⟨b, off, none⟩) n c, .int .i64 n, .chan (some w.heap.size), .slice (some ⟨b, off, none⟩) n c, .int .i64 n, .int .i64 i, u12, u13, u14, u15, u16, u17, undef, undef], defers := [] } ∧ wr = w.alloc (chanOf n (l.take i) false i 0)
def pkLeft (n : Nat) (a : Act) (_ : World) : Nat := n - (intOf (a.tmps.getD 11 undef)).toNat
theorem closeNew (w : World) (n : Nat) (l : List Int) (s : Nat) (ats : Array TypeId) (ty : TypeId) : (Builtin.close_ ats ty #[.chan (some w.heap.size)]).run Try.prog (w.alloc (chanOf n l false s 0)) = .ok (.tuple #[]) (w.alloc (chanOf n l true s 0)) := by
  have h := run_close_open (P := Try.prog) (w := w.alloc (chanOf n l false s 0)) (r := w.heap.size) (room := n) (buf := kv l) (s := s) (rc := 0) (tm := false) ats ty (heap_alloc_new w _)
  rw [h]
  exact congrArg (Result.ok (Value.tuple #[])) (setChan_new w (chanOf n l false s 0) n (kv l) true s 0)
theorem take_more (l : List Int) (i : Nat) (h : i < l.length) : l.take i ++ [l.getD i 0] = l.take (i + 1) := by
  rw [List.take_succ_eq_append_getElem h]; simp [List.getD_eq_getElem?_getD, List.getElem?_eq_getElem h]
theorem type_nil (k : Int) (w : World) : Calls Try.prog 8 #[.pointer none, .int .i64 k] w fun e w' => e = .returned (.bool false) ∧ w = w' := by
  go_enter Try.func8, Try.ntmps8
  go_wp2
  go_ret
  exact ⟨rfl, rfl⟩
theorem type_room (f T cap s r : Nat) (l : List Int) (k : Int) (w : World) (h0 : w.cell? ⟨f, 0, none⟩ = some (.chan (some T)))
    (hc : w.heap[T]? = some (chanOf cap l false s r)) (hroom : l.length < cap) :
    Calls Try.prog 8 #[.pointer (some ⟨f, 0, none⟩), .int .i64 k] w fun e w' => e = .returned (.bool true) ∧ w' = w.setChan T cap (kv (l ++ [k])) false (s + 1) r false := by
  refine calls_of_wpN Try.func8 rfl ?_
  simp only [Try.ntmps8, List.size_toArray, List.length_cons, List.length_nil, Nat.reduceAdd, Nat.reduceSub, Array.replicate_succ, Array.replicate_zero, List.push_toArray, List.append_toArray, List.nil_append, List.cons_append]
  refine wpN_seq_wp fun K hK => ?_
  go_wp2
  refine wpN_seq_wp fun K hK => ?_
  go_wp2
  refine wpN_seq_wp fun K hK => ?_
  go_wp2
  refine wpN_seq (wpN_region ?_)
  refine runs_sel_send (rest := [1, 2]) (c := T) (v := .int .i64 k) (z := .int .i64 0) rfl rfl ?_ hc (by rw [kv_size]; exact hroom) ?_
  · simp [go_sem, execOp, scase, Act.eval]
  rw [kv_push]
  simp only [Act.put, List.getElem_toArray, List.getElem_cons_zero, List.setIfInBounds_toArray, List.set_cons_succ, List.set_cons_zero]
  refine runs_from 1 rfl ?_
  simp only [List.drop_succ_cons, List.drop_zero]
  go_wp2
  refine wpN_of_wp ?_
  go_wp2
  go_ret
  exact ⟨rfl, rfl⟩
theorem type_full (f T cap s r : Nat) (l : List Int) (k : Int) (w : World) (h0 : w.cell? ⟨f, 0, none⟩ = some (.chan (some T)))
    (hc : w.heap[T]? = some (chanOf cap l false s r)) (hfull : cap ≤ l.length) :
    Calls Try.prog 8 #[.pointer (some ⟨f, 0, none⟩), .int .i64 k] w fun e w' => e = .returned (.bool false) ∧ w = w' := by
  refine calls_of_wpN Try.func8 rfl ?_
  simp only [Try.ntmps8, List.size_toArray, List.length_cons, List.length_nil, Nat.reduceAdd, Nat.reduceSub, Array.replicate_succ, Array.replicate_zero, List.push_toArray, List.append_toArray, List.nil_append, List.cons_append]
  refine wpN_seq_wp fun K hK => ?_
  go_wp2
  refine wpN_seq_wp fun K hK => ?_
  go_wp2
  refine wpN_seq_wp fun K hK => ?_
  go_wp2
  refine wpN_seq (wpN_region ?_)
  refine runs_sel_full (rest := [1, 2]) (c := T) (v := .int .i64 k) (z := .int .i64 0) rfl rfl ?_ hc (by rw [kv_size]; exact hfull) ?_
  · simp [go_sem, execOp, scase, Act.eval]
  simp only [Act.put, List.getElem_toArray, List.getElem_cons_zero, List.setIfInBounds_toArray, List.set_cons_succ, List.set_cons_zero]
  refine runs_from 1 rfl ?_
  simp only [List.drop_succ_cons, List.drop_zero]
  go_wp2
  refine wpN_of_wp ?_
  go_wp2
  go_ret
  exact ⟨rfl, rfl⟩
theorem packed_walk (b off n c : Nat) (l : List Int) (w : World) (hn : l.length = n) (hb : n ≤ 100) (hr : ∀ i, i < n → w.cell? ⟨b, off + i, none⟩ = some (.int .i64 (l.getD i 0))) :
    Calls Try.prog 21 #[.slice (some ⟨b, off, none⟩) n c] w fun e w' => e = .returned (.chan (some w.heap.size)) ∧ w' = w.alloc (chanOf n l true n 0) := by
  have mk := fun w => mkChan 50 _ Try.underlying50 n (by omega) w
  have HN := Lib.hid hn
  have HR := Lib.hid hr
  clear hn hr
  refine calls_of_wpN Try.func21 rfl ?_
  simp only [Try.ntmps21, List.size_toArray, List.length_cons, List.length_nil, Nat.reduceAdd, Nat.reduceSub, Array.replicate_succ, Array.replicate_zero, List.push_toArray, List.append_toArray, List.nil_append, List.cons_append]
  refine wpN_seq_wp fun K hK => ?_
  go_wp2
  refine wpN_seq_wp fun K hK => ?_
  go_wp2
  clear mk
  refine wpN_seq_k fun K hK => ?_
  refine wpN_seq_wp fun K' hK' => ?_
  go_wp2
  refine wpN_block ?_
  refine wpN_loop (pkRel w b off n c l) (pkLeft n) ⟨0, Nat.zero_le _, undef, undef, undef, undef, undef, undef, undef, rfl, by simp⟩ ?_
  rintro a wr ⟨i, hi, u5, u12, u13, u14, u15, u16, u17, rfl, rfl⟩
  by_cases hlt : i < n
  · have hc : (w.alloc (chanOf n (l.take i) false i 0)).cell? ⟨b, off + i, none⟩ = some (.int .i64 (l.getD i 0)) := by
      have h := HR.out i hlt
      rw [World.cell?_alloc_past _ _ _ (World.block_lt_of_cell? _ _ h)]; exact h
    refine wpN_seq_wp fun K1 hK1 => ?_
    go_wp2
    refine wpN_seq_wp fun K2 hK2 => ?_
    go_wp2
    refine wpN_seq_k fun K3 hK3 => ?_
    refine wpN_block ?_
    refine wpN_seq_wp fun K4 hK4 => ?_
    go_wp2
    refine wpN_region ?_
    refine runs_value (rest := [1, 2]) (v := .chan (some w.heap.size)) (w' := w.alloc (chanOf n (l.take i) false i 0)) rfl rfl (by simp [go_sem, execOp, Act.eval]) ?_
    refine runs_value (rest := [2]) (v := .int .i64 (l.getD i 0)) (w' := w.alloc (chanOf n (l.take i) false i 0)) rfl rfl (by simp [go_sem, execOp, Act.eval, Act.put]) ?_
    refine runs_send (rest := []) (c := w.heap.size) (v := .int .i64 (l.getD i 0)) (z' := .tuple #[]) rfl rfl (by simp [go_sem, execOp, scase, Act.eval, Act.put]) (heap_alloc_new w _) (by rw [kv_size, List.length_take]; omega) ?_
    rw [setChan_new, kv_push, take_more l i (by rw [HN.out]; exact hlt)]
    refine runs_nil ?_
    simp only [Exit.inBlock, Exit.then]
    refine hK3 _ _ (wpN_of_wp ?_)
    simp only [Act.put, List.getElem_toArray, List.getElem_cons_zero, List.getElem_cons_succ, List.setIfInBounds_toArray, List.set_cons_succ, List.set_cons_zero]
    clear hc hK3 K3
    go_wp2
    exact ⟨⟨i + 1, by omega, _, _, _, _, _, _, _, rfl, rfl⟩, by simp [pkLeft, intOf]; omega⟩
  · have : i = n := by omega
    subst this
    refine wpN_seq_wp fun K1 hK1 => ?_
    go_wp2
    refine wpN_seq_wp fun K2 hK2 => ?_
    go_wp2
    refine wpN_of_wp ?_
    rw [List.take_of_length_le (by rw [HN.out]; exact Nat.le_refl _)]
    have hcl := closeNew w i l i
    go_wp2
    go_ret
    exact ⟨rfl, rfl⟩
theorem next_nil (w : World) : Calls Try.prog 9 #[.pointer none] w fun e w' => e = .returned (.tuple #[.int .i64 0, .bool false, .int .i64 2]) ∧ w = w' := by
  go_enter Try.func9, Try.ntmps9
  go_wp2
  go_ret3
  exact ⟨rfl, rfl⟩
theorem kv_head (k : Int) (l : List Int) : (kv (k :: l)).getD 0 undef = .int .i64 k := by simp [kv]
theorem kv_tail (k : Int) (l : List Int) : (kv (k :: l)).extract 1 (kv (k :: l)).size = kv l := by
  simp only [kv, List.map_cons, List.size_toArray, List.length_cons, List.length_map, List.extract_toArray, List.extract_eq_take_drop, Nat.add_sub_cancel, List.drop_succ_cons, List.drop_zero]
  rw [List.take_of_length_le (by simp)]
theorem setChan_cell (w : World) (c cap : Nat) (buf : Array Value) (cl : Bool) (s r : Nat) (a : Addr) (h : c ≠ a.block) : (w.setChan c cap buf cl s r false).cell? a = w.cell? a :=
  World.cell?_of_block (by simp only [World.setChan]; rw [Array.getElem?_setIfInBounds_ne h])
theorem setChan_frozen (w : World) (c cap : Nat) (buf : Array Value) (cl : Bool) (s r : Nat) (a : Addr) (h : c ≠ a.block) : (w.setChan c cap buf cl s r false).frozen? a = w.frozen? a :=
  World.frozen?_of_block (by simp only [World.setChan]; rw [Array.getElem?_setIfInBounds_ne h])
/-- Where the packs are none. -/
theorem next_typed (f T cap s r p : Nat) (k : Int) (l : List Int) (a : Option Addr) (u : Value) (w : World) (h0 : w.cell? ⟨f, 0, none⟩ = some (.chan (some T))) (h1 : w.cell? ⟨f, 1, none⟩ = some (.slice a 0 p))
    (h2 : w.cell? ⟨f, 2, none⟩ = some u) (h3 : w.frozen? ⟨f, 2, none⟩ = false) (hc : w.heap[T]? = some (chanOf cap (k :: l) false s r)) (hne : T ≠ f) :
    Calls Try.prog 9 #[.pointer (some ⟨f, 0, none⟩)] w fun e w' => e = .returned (.tuple #[.int .i64 k, .bool false, .int .i64 0]) ∧ w' = (w.setChan T cap (kv l) false s (r + 1) false).setCell ⟨f, 2, none⟩ (.int .i64 0) := by
  have hb : T < w.heap.size := by rcases Nat.lt_or_ge T w.heap.size with h | h; exact h; rw [Array.getElem?_eq_none h] at hc; cases hc
  refine calls_of_wpN Try.func9 rfl ?_
  simp only [Try.ntmps9, List.size_toArray, List.length_cons, List.length_nil, Nat.reduceAdd, Nat.reduceSub, Array.replicate_succ, Array.replicate_zero, List.push_toArray, List.append_toArray, List.nil_append, List.cons_append]
  refine wpN_seq_wp fun K hK => ?_
  go_wp2
  refine wpN_seq_wp fun K hK => ?_
  go_wp2
  refine wpN_seq_wp fun K hK => ?_
  go_wp2
  refine wpN_seq_wp fun K hK => ?_
  go_wp2
  refine wpN_seq (wpN_region ?_)
  refine runs_sel_recv (rest := [1, 2]) (c := T) (z := .int .i64 0) rfl rfl ?_ hc (by rw [kv_size]; simp) ?_
  · simp [go_sem, execOp, rcase, Act.eval]
  rw [kv_head, kv_tail]
  simp only [Act.put, List.getElem_toArray, List.getElem_cons_zero, List.setIfInBounds_toArray, List.set_cons_succ, List.set_cons_zero]
  refine runs_from 1 rfl ?_
  simp only [List.drop_succ_cons, List.drop_zero]
  have g2 := (setChan_cell w T cap (kv l) false s (r + 1) ⟨f, 2, none⟩ hne).trans h2
  have g3 := (setChan_frozen w T cap (kv l) false s (r + 1) ⟨f, 2, none⟩ hne).trans h3
  clear h0 h1 h2 h3 hc
  generalize hW : w.setChan T cap (kv l) false s (r + 1) false = W at *
  have HW := Lib.hid hW
  clear hW
  go_wp2
  refine wpN_of_wp ?_
  go_wp2
  go_ret3
  exact ⟨rfl, rfl⟩
theorem next_none (f T cap s r p : Nat) (a : Option Addr) (w : World) (h0 : w.cell? ⟨f, 0, none⟩ = some (.chan (some T))) (h1 : w.cell? ⟨f, 1, none⟩ = some (.slice a 0 p))
    (hc : w.heap[T]? = some (chanOf cap [] false s r)) :
    Calls Try.prog 9 #[.pointer (some ⟨f, 0, none⟩)] w fun e w' => e = .returned (.tuple #[.int .i64 0, .bool false, .int .i64 4]) ∧ w = w' := by
  refine calls_of_wpN Try.func9 rfl ?_
  simp only [Try.ntmps9, List.size_toArray, List.length_cons, List.length_nil, Nat.reduceAdd, Nat.reduceSub, Array.replicate_succ, Array.replicate_zero, List.push_toArray, List.append_toArray, List.nil_append, List.cons_append]
  refine wpN_seq_wp fun K hK => ?_
  go_wp2
  refine wpN_seq_wp fun K hK => ?_
  go_wp2
  refine wpN_seq_wp fun K hK => ?_
  go_wp2
  refine wpN_seq_wp fun K hK => ?_
  go_wp2
  refine wpN_seq (wpN_region ?_)
  refine runs_sel_none (rest := [1, 2]) (c := T) (z := .int .i64 0) rfl rfl ?_ hc ?_
  · simp [go_sem, execOp, rcase, Act.eval]
  simp only [Act.put, List.getElem_toArray, List.getElem_cons_zero, List.setIfInBounds_toArray, List.set_cons_succ, List.set_cons_zero]
  refine runs_from 1 rfl ?_
  simp only [List.drop_succ_cons, List.drop_zero]
  go_wp2
  refine wpN_of_wp ?_
  go_wp2
  go_ret3
  exact ⟨rfl, rfl⟩
end Go.Proofs.Ythfdoififonflaa
