/- A region that draws its order: an operation that only reads may be taken first, as long as every operation keeps what it reads. -/
import Derived.Test.YthalpbbjcagnnaaSameG
set_option linter.unusedVariables false
namespace Go.Proofs.Ythalpbbjcagnnaa
open Go Go.RowKit
section
variable {P : Program} {ops : Array Oper} {Q : Exit → Act → World → Prop} {md : Region.Mode} {C : World → Prop}
/-- The region's orders, each world on the way in C. -/
def Orders (P : Program) (md : Region.Mode) (ops : Array Oper) (Q : Exit → Act → World → Prop) (C : World → Prop) : Nat → Array Bool → Act → World → Prop
  | 0, l, a, w => C w ∧ Region.ready md ops l = [] ∧ Q .normal a w
  | n + 1, l, a, w => C w ∧ (Region.ready md ops l = [] → Q .normal a w) ∧ ∀ i ∈ Region.ready md ops l, wpOp P ops Q i (Orders P md ops Q C n (l.setIfInBounds i true)) a w
theorem Orders.any : ∀ (n : Nat) (l : Array Bool) (a : Act) (w : World), Orders P md ops Q C n l a w → wpAny P md ops Q n l a w
  | 0, _, _, _, h => h.2
  | n + 1, _, _, _, h => ⟨h.2.1, fun i hi => wpOp_mono (fun a w => Orders.any n _ a w) (h.2.2 i hi)⟩
theorem Orders.at {n : Nat} {l : Array Bool} {a : Act} {w : World} (h : Orders P md ops Q C n l a w) : C w := by cases n <;> exact h.1
/-- What an operation leaves as it was of the frame, whatever it puts into its own slot. -/
theorem wpOp_keeps {j : Nat} {oj : Oper} {F : Act → Prop} (hj : ops[j]? = some oj) (hF : ∀ a u, F a → F (a.put oj.dst u)) (hD : ∀ (a : Act) d, F a → F { a with defers := d :: a.defers })
    {K : Act → World → Prop} {a : Act} {w : World} (h : wpOp P ops Q j K a w) (h0 : F a) : wpOp P ops Q j (fun a' w' => F a' ∧ K a' w') a w := by
  unfold wpOp at h ⊢
  rw [hj] at h ⊢
  dsimp only at h ⊢
  by_cases hw : Region.wanted oj (yielded ops a.tmps) = true
  · rw [if_pos hw] at h ⊢
    rcases h with h | h
    · left
      unfold Oper.wp at h ⊢
      cases hr : (execOp a.eval oj).run P w with
      | ok x w' =>
        rw [hr] at h
        cases x with
        | value u => exact ⟨hF _ _ h0, h⟩
        | skip => exact ⟨hF _ _ h0, h⟩
        | defer d => exact ⟨hF _ _ (hD _ _ h0), h⟩
        | enter f args =>
          refine Calls.mono h fun e w'' he => ?_
          cases e with
          | returned u => exact ⟨hF _ _ h0, he⟩
          | panicked c => exact he
          | outgrown => exact he
        | row r args => exact Rows.mono h fun u w'' he => ⟨hF _ _ h0, he⟩
        | _ => exact h
      | halt x w' => rw [hr] at h; cases x <;> exact h
    · right; exact h
  · rw [if_neg hw] at h ⊢
    exact ⟨hF _ _ h0, h⟩
/-- What an operation yields in every world in C. -/
def YieldsIn (P : Program) (ops : Array Oper) (C : World → Prop) (o : Oper) (v : Value) (a : Act) : Prop :=
  (Region.wanted o (yielded ops a.tmps) = true ∧ ∀ w, C w → (execOp a.eval o).run P w = .ok (.value v) w) ∨ (Region.wanted o (yielded ops a.tmps) = false ∧ v = undef)
theorem YieldsIn.does {i : Nat} {o : Oper} {v : Value} {a : Act} (hi : ops[i]? = some o) (hy : YieldsIn P ops C o v a) {K : Act → World → Prop} {w : World} (hC : C w) (h : K (a.put o.dst v) w) : wpOp P ops Q i K a w := by
  unfold wpOp
  rw [hi]
  dsimp only
  rcases hy with ⟨hw, hv⟩ | ⟨hw, rfl⟩
  · rw [if_pos hw]; left; unfold Oper.wp; rw [hv w hC]; exact h
  · rw [if_neg (by simp [hw])]; exact h
/-- Two operations that are apart may change places, if the one only reads. -/
theorem wpOp_swap {j : Nat} {oi oj : Oper} {v : Value} (hj : ops[j]? = some oj) (hap : oi.apart ops oj = true)
    (hsi : ∀ cs b, oi.op ≠ .select cs b) (hsj : ∀ cs b, oj.op ≠ .select cs b)
    (hQ : ∀ c a w, Q (.panic c) (a.put oi.dst v) w → Q (.panic c) a w) {K : Act → World → Prop} {a : Act} {w : World}
    (hy : YieldsIn P ops C oi v a) (h : wpOp P ops Q j K (a.put oi.dst v) w) : wpOp P ops Q j (fun a' w' => YieldsIn P ops C oi v a' ∧ K (a'.put oi.dst v) w') a w := by
  obtain ⟨h1, h2, h3⟩ := Oper.apart_spec hap
  have hp : Yields P ops { oi with op := .assign (.const v), guard := none } v a := Or.inl ⟨rfl, fun _ => rfl⟩
  have hap' : Oper.apart ops { oi with op := .assign (.const v), guard := none } oj = true := by
    unfold Oper.apart at hap ⊢
    simp only [Bool.and_eq_true] at hap ⊢
    refine ⟨hap.1, ?_⟩
    cases oj.dst <;> rfl
  have q1 := wpOp_put (oi := { oi with op := .assign (.const v), guard := none }) (Q := Q) hj hap' (by intro cs b; simp) hsj hQ hp h
  refine wpOp_mono (fun a' w' h => ⟨h.1, h.2.2⟩) (wpOp_keeps (F := fun a' => YieldsIn P ops C oi v a') hj (fun a' u ha => ?_) (fun a' d ha => ha) q1 hy)
  unfold YieldsIn at ha ⊢
  rw [execOp_put oi hsi a' oj.dst u h3, wanted_put oi a' oj.dst u h3]
  exact ha
theorem Orders.first {i : Nat} {oi : Oper} {v : Value} (hi : ops[i]? = some oi) (hs : Region.noSelect ops = true)
    (hQ : ∀ c a w, Q (.panic c) (a.put oi.dst v) w → Q (.panic c) a w) :
    ∀ (n : Nat) (l : Array Bool) (a : Act) (w : World),
      (∀ j oj, ops[j]? = some oj → j ≠ i → l.getD j true = false → (∀ e ∈ oj.after, Region.binds md e = true → e.on ≠ i) → oi.apart ops oj = true) →
      i ∈ Region.ready md ops l → YieldsIn P ops C oi v a → Orders P md ops Q C n (l.setIfInBounds i true) (a.put oi.dst v) w → Orders P md ops Q C (n + 1) l a w := by
  intro n
  induction n with
  | zero =>
    intro l a w _ hr hy H
    refine ⟨H.at, fun h => absurd (h ▸ hr) (by simp), fun j hj => ?_⟩
    by_cases hji : j = i
    · subst hji
      exact hy.does hi H.at H
    · exact absurd (ready_mono hj hji) (by rw [H.2.1]; simp)
  | succ n ih =>
    intro l a w hfree hr hy H
    refine ⟨H.at, fun h => absurd (h ▸ hr) (by simp), fun j hj => ?_⟩
    by_cases hji : j = i
    · subst hji
      exact hy.does hi H.at H
    · obtain ⟨hjl, oj, hoj, hall⟩ := mem_ready.1 hj
      have hli : l.getD i false = false := by
        obtain ⟨hil, _⟩ := mem_ready.1 hr
        rcases Nat.lt_or_ge i l.size with h | h
        · simp [h] at hil ⊢; exact hil
        · simp [Array.getElem?_eq_none h] at hil
      have hnot : ∀ e ∈ oj.after, Region.binds md e = true → e.on ≠ i := fun e he hb heq => by
        have := hall e he hb
        rw [heq, hli] at this
        cases this
      have q := wpOp_swap hoj (hfree j oj hoj hji hjl hnot) (fun cs b => Region.noSelect_spec hs i oi cs b hi) (fun cs b => Region.noSelect_spec hs j oj cs b hoj) hQ hy (H.2.2 j (ready_mono hj hji))
      refine wpOp_mono (fun a' w' h => ih (l.setIfInBounds j true) a' w' ?_ (ready_mono hr (Ne.symm hji)) h.1 ?_) q
      · intro k ok hk hki hkl hno
        refine hfree k ok hk hki ?_ hno
        by_cases hjk : j = k
        · exact hjk ▸ hjl
        · rw [getD_set_ne true hjk] at hkl; exact hkl
      · rw [Array.setIfInBounds_comm _ _ hji]
        exact h.2
/-- Take it first. -/
theorem Orders.take {i : Nat} {oi : Oper} {v : Value} {n : Nat} {l : Array Bool} {a : Act} {w : World} (hi : ops[i]? = some oi)
    (hs : Region.noSelect ops = true) (hf : Region.free md ops l i = true) (hr : (Region.ready md ops l).contains i = true)
    (hQ : ∀ c a w, Q (.panic c) (a.put oi.dst v) w → Q (.panic c) a w) (hy : YieldsIn P ops C oi v a)
    (h : Orders P md ops Q C n (l.setIfInBounds i true) (a.put oi.dst v) w) : Orders P md ops Q C (n + 1) l a w :=
  Orders.first hi hs hQ n l a w (Region.free_spec hi hf) (by simpa using hr) hy h
/-- One operation alone may come up. -/
theorem Orders.one {i : Nat} {o : Oper} {n : Nat} {l : Array Bool} {a : Act} {w : World} (hr : Region.ready md ops l = [i]) (hC : C w) (ho : ops[i]? = some o)
    (h : ∀ K' : Act → World → Prop, (∀ a w, Orders P md ops Q C n (l.setIfInBounds i true) a w → K' a w) → if Region.wanted o (yielded ops a.tmps) = true then Oper.wp P o a w K' Q else K' (a.put o.dst undef) w) :
    Orders P md ops Q C (n + 1) l a w :=
  ⟨hC, fun h0 => absurd (hr ▸ h0) (by simp), fun j hj => by
    rw [hr] at hj
    cases List.mem_singleton.1 hj
    exact wpOp_step ho h⟩
/-- Two may come up. -/
theorem Orders.two {i j : Nat} {o o' : Oper} {n : Nat} {l : Array Bool} {a : Act} {w : World} (hr : Region.ready md ops l = [i, j]) (hC : C w) (ho : ops[i]? = some o) (ho' : ops[j]? = some o')
    (h : ∀ K' : Act → World → Prop, (∀ a w, Orders P md ops Q C n (l.setIfInBounds i true) a w → K' a w) → if Region.wanted o (yielded ops a.tmps) = true then Oper.wp P o a w K' Q else K' (a.put o.dst undef) w)
    (h' : ∀ K' : Act → World → Prop, (∀ a w, Orders P md ops Q C n (l.setIfInBounds j true) a w → K' a w) → if Region.wanted o' (yielded ops a.tmps) = true then Oper.wp P o' a w K' Q else K' (a.put o'.dst undef) w) :
    Orders P md ops Q C (n + 1) l a w :=
  ⟨hC, fun h0 => absurd (hr ▸ h0) (by simp), fun k hk => by
    rw [hr] at hk
    rcases List.mem_cons.1 hk with rfl | hk
    · exact wpOp_step ho h
    · cases List.mem_singleton.1 hk
      exact wpOp_step ho' h'⟩
theorem Orders.done {n : Nat} {l : Array Bool} {a : Act} {w : World} (hr : Region.ready md ops l = []) (hC : C w) (h : Q .normal a w) : Orders P md ops Q C n l a w := by
  cases n with
  | zero => exact ⟨hC, hr, h⟩
  | succ n => exact ⟨hC, fun _ => h, by rw [hr]; simp⟩
end
/-- Block b: a number and a value. -/
structure Two (b : Nat) (k : Int) (u : Value) (w : World) : Prop where
  one : w.cell? ⟨b, 0, none⟩ = some (.int .i64 k)
  two : w.cell? ⟨b, 1, none⟩ = some u
theorem Two.to {b : Nat} {k : Int} {u : Value} {w w' : World} (h : Two b k u w) (hb : w'.heap[b]? = w.heap[b]?) : Two b k u w' :=
  ⟨by have := h.one; simp only [World.cell?] at this ⊢; rw [hb]; exact this, by have := h.two; simp only [World.cell?] at this ⊢; rw [hb]; exact this⟩
theorem Two.lt {b : Nat} {k : Int} {u : Value} {w : World} (h : Two b k u w) : b < w.heap.size := World.block_lt_of_cell? _ _ h.one
theorem Two.below {b B : Nat} {k : Int} {u : Value} {w w' : World} (h : Two b k u w) (hb : Below B w w') (hB : b < B) : Two b k u w' := h.to (hb.block b hB)
theorem Two.of {b e : Nat} {k : Int} {u : Value} {w : World} {fz : Nat × Nat} (h : w.heap[b]? = some (.cells #[.int .i64 k, u] e fz)) : Two b k u w :=
  ⟨by simp [World.cell?, h], by simp [World.cell?, h]⟩
/-- Both cells of block b are stored. -/
theorem st_other (w : World) {b j : Nat} (x y : Value) (h : j ≠ b) : ((w.setCell ⟨b, 0, none⟩ x).setCell ⟨b, 1, none⟩ y).heap[j]? = w.heap[j]? :=
  (Below.heap_setCell _ ⟨b, 1, none⟩ y j h).trans (Below.heap_setCell w ⟨b, 0, none⟩ x j h)
theorem st_same {w : World} {b e : Nat} {x0 y0 : Value} (x y : Value) (h : w.heap[b]? = some (.cells #[x0, y0] e (0, 0))) : ((w.setCell ⟨b, 0, none⟩ x).setCell ⟨b, 1, none⟩ y).heap[b]? = some (.cells #[x, y] e (0, 0)) :=
  heap_set_row y (j := 1) (heap_set_row x (j := 0) h)
theorem st_below {B b : Nat} {w0 w : World} (x y : Value) (h : Below B w0 w) (hb : B ≤ b) : Below B w0 ((w.setCell ⟨b, 0, none⟩ x).setCell ⟨b, 1, none⟩ y) :=
  (h.setCell (p := ⟨b, 0, none⟩) hb x).setCell (p := ⟨b, 1, none⟩) hb y
theorem Small.size {L : Txt} (h : Small L) : sizeL L ≤ 6540 := by
  have key : ∀ L : Txt, (∀ l ∈ L, l.length ≤ 45) → sizeL L ≤ 45 * L.length + total L := by
    intro L
    induction L with
    | nil => intro _; simp [sizeL]
    | cons l L ih =>
      intro h
      have h1 := ih fun l hl => h l (List.mem_cons_of_mem _ hl)
      have h2 := h l List.mem_cons_self
      simp only [sizeL, List.map_cons, List.sum_cons, total, sizeR, List.length_cons] at h1 ⊢
      omega
  have h1 := key L fun l hl => (h.row l hl).1
  have h2 := h.len
  have h3 := h.all
  omega
theorem Small.rows {L : Txt} (h : Small L) : ∀ l ∈ L, l.length ≤ 100000 := fun l hl => by have := (h.row l hl).1; omega
end Go.Proofs.Ythalpbbjcagnnaa
