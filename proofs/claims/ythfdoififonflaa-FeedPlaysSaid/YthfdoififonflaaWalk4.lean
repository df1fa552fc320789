/- Walks of 'pushed' and of Next where there are packs; what they do to the world. -/
import Derived.Test.YthfdoififonflaaWalk3
set_option linter.unusedSimpArgs false
set_option linter.unusedVariables false
namespace Go.Proofs.Ythfdoififonflaa
open Go.RowKit Go.Conc Go.Proofs.Ythfdoififonflaa.Ch
set_option maxRecDepth 100000 in
theorem pushed_fuel (f u : Nat) (d : Int) (R : World → Prop) (w : World) (h2 : w.cell? ⟨f, 2, none⟩ = some (.int .i64 u)) (hu : 200 ≤ u)
    (hD : Calls Try.prog 19 #[.pointer (some ⟨f, 0, none⟩)] w fun e w' => e = .returned (.int .i64 d) ∧ R w') :
    Calls Try.prog 20 #[.pointer (some ⟨f, 0, none⟩)] w fun e w' => e = .returned (.tuple #[.int .i64 0, .bool false, .int .i64 12]) ∧ R w' := by
  have HD := Lib.hid hD
  clear hD
  go_enter Try.func20, Try.ntmps20
  go_wp2_with (go_at_call 19; refine HD.out.mono ?_; rintro e w' ⟨rfl, hR⟩)
  go_ret3
  exact ⟨rfl, hR⟩
theorem next_push (f n p : Nat) (a : Option Addr) (v : Value) (b : Bool) (x y : Int) (R : World → Prop) (w : World) (h1 : w.cell? ⟨f, 1, none⟩ = some (.slice a n p)) (hn : 0 < n)
    (hP : Calls Try.prog 20 #[.pointer (some ⟨f, 0, none⟩)] w fun e w' => e = .returned (.tuple #[.int .i64 x, .bool b, .int .i64 y]) ∧ R w') :
    Calls Try.prog 9 #[.pointer (some ⟨f, 0, none⟩)] w fun e w' => e = .returned (.tuple #[.int .i64 x, .bool b, .int .i64 y]) ∧ R w' := by
  have HP := Lib.hid hP
  clear hP
  refine calls_of_wpN Try.func9 rfl ?_
  simp only [Try.ntmps9, List.size_toArray, List.length_cons, List.length_nil, Nat.reduceAdd, Nat.reduceSub, Array.replicate_succ, Array.replicate_zero, List.push_toArray, List.append_toArray, List.nil_append, List.cons_append]
  refine wpN_seq_wp fun K hK => ?_
  go_wp2
  refine wpN_seq_wp fun K hK => ?_
  go_wp2
  refine wpN_seq_wp fun K hK => ?_
  go_wp2_with (go_at_call 20; refine HP.out.mono ?_; rintro e w' ⟨rfl, hR⟩)
  go_ret3
  exact ⟨rfl, hR⟩
def takenW (w : World) (f m p g c cap s r u : Nat) (l : List Int) : World :=
  (if l = [] then (w.setChan c cap (kv l) true s (r + 1) false).setCell ⟨f, 1, none⟩ (.slice (some ⟨g, 0, none⟩) m p) else w.setChan c cap (kv l) true s (r + 1) false).setCell ⟨f, 2, none⟩ (.int .i64 ((u : Int) + 1))
set_option maxRecDepth 100000 in
theorem pushed_walk (f m p g c cap s r u : Nat) (k : Int) (l : List Int) (w : World) (h1 : w.cell? ⟨f, 1, none⟩ = some (.slice (some ⟨g, 0, none⟩) (m + 1) p)) (h2 : w.cell? ⟨f, 2, none⟩ = some (.int .i64 u)) (hu : u < 200) (hm : m < 8) (hp : m + 1 ≤ p)
    (hc : w.cell? ⟨g, m, none⟩ = some (.chan (some c))) (hch : w.heap[c]? = some (chanOf cap (k :: l) true s r)) (hz1 : w.frozen? ⟨f, 1, none⟩ = false) (hz2 : w.frozen? ⟨f, 2, none⟩ = false) (hcf : c ≠ f) (hcg : c ≠ g) :
    Calls Try.prog 20 #[.pointer (some ⟨f, 0, none⟩)] w fun e w' => e = .returned (.tuple #[.int .i64 k, .bool true, .int .i64 0]) ∧
      w' = takenW w f m p g c cap s r u l := by
  have HP := Lib.hid hp
  clear hp
  refine calls_of_wpN Try.func20 rfl ?_
  simp only [Try.ntmps20, List.size_toArray, List.length_cons, List.length_nil, Nat.reduceAdd, Nat.reduceSub, Array.replicate_succ, Array.replicate_zero, List.push_toArray, List.append_toArray, List.nil_append, List.cons_append]
  refine wpN_seq_wp fun K hK => ?_
  go_wp2
  refine wpN_seq_wp fun K hK => ?_
  go_wp2
  refine wpN_seq_wp fun K hK => ?_
  go_wp2
  have hix : ¬ ((m : Int) + 1 ≤ (m : Int)) := by omega
  refine wpN_seq (wpN_region ?_)
  refine runs_value (rest := [1, 2, 3, 4, 5, 6, 7, 8]) (v := .pointer (some ⟨f, 0, none⟩)) (w' := w) rfl rfl (by simp [go_sem, execOp, Act.eval, Act.put, h1, hc, hix]) ?_
  simp only [Act.put, List.getElem_toArray, List.getElem_cons_zero, List.getElem_cons_succ, List.setIfInBounds_toArray, List.set_cons_succ, List.set_cons_zero]
  refine runs_value (rest := [2, 3, 4, 5, 6, 7, 8]) (v := .pointer (some ⟨f, 0, none⟩)) (w' := w) rfl rfl (by simp [go_sem, execOp, Act.eval, Act.put, h1, hc, hix]) ?_
  simp only [Act.put, List.getElem_toArray, List.getElem_cons_zero, List.getElem_cons_succ, List.setIfInBounds_toArray, List.set_cons_succ, List.set_cons_zero]
  refine runs_value (rest := [3, 4, 5, 6, 7, 8]) (v := .pointer (some ⟨f, 1, none⟩)) (w' := w) rfl rfl (by simp [go_sem, execOp, Act.eval, Act.put, h1, hc, hix]) ?_
  simp only [Act.put, List.getElem_toArray, List.getElem_cons_zero, List.getElem_cons_succ, List.setIfInBounds_toArray, List.set_cons_succ, List.set_cons_zero]
  refine runs_value (rest := [4, 5, 6, 7, 8]) (v := .slice (some ⟨g, 0, none⟩) (m + 1) p) (w' := w) rfl rfl (by simp [go_sem, execOp, Act.eval, Act.put, h1, hc, hix]) ?_
  simp only [Act.put, List.getElem_toArray, List.getElem_cons_zero, List.getElem_cons_succ, List.setIfInBounds_toArray, List.set_cons_succ, List.set_cons_zero]
  refine runs_value (rest := [5, 6, 7, 8]) (v := .int .i64 m) (w' := w) rfl rfl (by simp [go_sem, execOp, Act.eval, Act.put, h1, hc, hix]) ?_
  simp only [Act.put, List.getElem_toArray, List.getElem_cons_zero, List.getElem_cons_succ, List.setIfInBounds_toArray, List.set_cons_succ, List.set_cons_zero]
  refine runs_value (rest := [6, 7, 8]) (v := .pointer (some ⟨g, m, none⟩)) (w' := w) rfl rfl (by simp [go_sem, execOp, Act.eval, Act.put, h1, hc, hix]) ?_
  simp only [Act.put, List.getElem_toArray, List.getElem_cons_zero, List.getElem_cons_succ, List.setIfInBounds_toArray, List.set_cons_succ, List.set_cons_zero]
  refine runs_value (rest := [7, 8]) (v := .chan (some c)) (w' := w) rfl rfl (by simp [go_sem, execOp, Act.eval, Act.put, h1, hc, hix]) ?_
  simp only [Act.put, List.getElem_toArray, List.getElem_cons_zero, List.getElem_cons_succ, List.setIfInBounds_toArray, List.set_cons_succ, List.set_cons_zero]
  refine runs_recv (rest := [8]) false (c := c) (z := .int .i64 0) rfl rfl ?_ hch (by rw [kv_size]; simp) ?_
  · simp [go_sem, execOp, rcase, Act.eval]
  rw [kv_head, kv_tail]
  simp only [Act.put, List.getElem_toArray, List.getElem_cons_zero, List.getElem_cons_succ, List.setIfInBounds_toArray, List.set_cons_succ, List.set_cons_zero, got, Bool.false_eq_true, if_false]
  refine runs_from 8 rfl ?_
  simp only [List.drop_succ_cons, List.drop_zero]
  have g1 := (setChan_cell w c cap (kv l) true s (r + 1) ⟨f, 1, none⟩ hcf).trans h1
  have g2 := (setChan_cell w c cap (kv l) true s (r + 1) ⟨f, 2, none⟩ hcf).trans h2
  have g3 := (setChan_cell w c cap (kv l) true s (r + 1) ⟨g, m, none⟩ hcg).trans hc
  have g4 := (setChan_frozen w c cap (kv l) true s (r + 1) ⟨f, 1, none⟩ hcf).trans hz1
  have g5 := (setChan_frozen w c cap (kv l) true s (r + 1) ⟨f, 2, none⟩ hcf).trans hz2
  have g6 := fun ty => run_len_chan (P := Try.prog) 50 ty Try.underlying50 (setChan_heap w c cap (kv l) true s (r + 1) (by rw [hch]; rfl))
  rw [kv_size] at g6
  clear h1 h2 hc hz1 hz2 hch
  by_cases hl : l = []
  · have e : takenW w f m p g c cap s r u l = ((w.setChan c cap (kv l) true s (r + 1) false).setCell ⟨f, 1, none⟩ (.slice (some ⟨g, 0, none⟩) m p)).setCell ⟨f, 2, none⟩ (.int .i64 ((u : Int) + 1)) := by
      unfold takenW; rw [if_pos hl]
    have hl0 : l.length = 0 := by rw [hl]; rfl
    rw [hl0] at g6
    generalize w.setChan c cap (kv l) true s (r + 1) false = W at *
    have HE := Lib.hid e
    clear e hl hl0
    go_wp2
    refine wpN_of_wp ?_
    have hmp : m ≤ p := by have := HP.out; omega
    go_wp2
    go_ret3
    exact ⟨rfl, HE.out.symm⟩
  · have e : takenW w f m p g c cap s r u l = (w.setChan c cap (kv l) true s (r + 1) false).setCell ⟨f, 2, none⟩ (.int .i64 ((u : Int) + 1)) := by
      unfold takenW; rw [if_neg hl]
    have hl0 : ((l.length : Int) == 0) = false := by
      have : 0 < l.length := by rcases l with _ | ⟨x, l⟩; exact absurd rfl hl; simp
      rw [beq_eq_false_iff_ne]; omega
    generalize w.setChan c cap (kv l) true s (r + 1) false = W at *
    have HE := Lib.hid e
    clear e hl
    go_wp2
    refine wpN_of_wp ?_
    go_wp2
    go_ret3
    exact ⟨rfl, HE.out.symm⟩
end Go.Proofs.Ythfdoififonflaa
