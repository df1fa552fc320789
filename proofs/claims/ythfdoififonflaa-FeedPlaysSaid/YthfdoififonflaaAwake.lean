/- The chapter's example: the call of awake returns true, and nothing that was there is changed. -/
import Derived.Test.YthfdoififonflaaActs3
import Derived.BigQuiet
set_option linter.unusedSimpArgs false
set_option linter.unusedVariables false
namespace Go.Proofs.Ythfdoififonflaa
open Go.RowKit Go.Conc Go.Proofs.Ythfdoififonflaa.Ch
theorem FeedAt.alloc {w : World} {N : Nat → Prop} {f : Nat} {st : St} (h : FeedAt w N f st) (o : Obj) : FeedAt (w.alloc o) N f st := h.keep fun k _ hk => Below.heap_alloc w o k hk
theorem ints_new (w : World) (l : List Int) (t : TypeId) (c : Nat) : IntsAt (w.alloc (.cells (kv l) t)) (.slice (some ⟨w.heap.size, 0, none⟩) l.length c) l :=
  ⟨_, c, rfl, fun i hi => ⟨w.heap.size, 0, rfl, by rw [World.cell?_alloc_at _ _ _ _ rfl]; simp [kv, List.getD_eq_getElem?_getD, List.getElem?_eq_getElem (show i < l.length from hi)]⟩⟩
set_option maxRecDepth 100000 in
theorem awake_calls (w : World) : Calls Try.prog 12 #[] w fun e w' => e = .returned (.bool true) ∧ Below w.heap.size w w' := by
  go_enter Try.func12, Try.ntmps12
  go_wp2_with fail
  refine (new_calls 4 _).mono ?_
  rintro e w1 ⟨f, rfl, hf, hk⟩
  have h1 : Calls Try.prog 8 #[fp f, .int .i64 1] w1 fun e w' => e = .returned (.bool true) ∧ FeedAt w' (fun k => w.heap.size ≤ k) f ⟨4, [1], [], 0⟩ ∧ Keep (fun k => w.heap.size ≤ k) w1 w' := type_calls hf 1
  have K1 := Lib.hid hk
  clear hf hk
  go_wp2_with fail
  refine h1.mono ?_
  rintro e w2 ⟨rfl, hf, hk⟩
  clear h1
  have hs1 := K1.out.size
  have hs2 := hk.size
  have h2 : Calls Try.prog 10 #[fp f, .slice (some ⟨w2.heap.size, 0, none⟩) 2 2] (w2.alloc (.cells #[.int .i64 7, .int .i64 8] 3)) fun e w' => e = .returned (.int .i64 0) ∧ FeedAt w' (fun k => w.heap.size ≤ k ∨ (w2.alloc (.cells #[.int .i64 7, .int .i64 8] 3)).heap.size ≤ k) f ⟨4, [1], [[7, 8]], 0⟩ ∧ Keep (fun k => w.heap.size ≤ k) (w2.alloc (.cells #[.int .i64 7, .int .i64 8] 3)) w' := push_calls (hf.alloc _) (ints_new w2 [7, 8] 3 2)
  have K2 := Lib.hid hk
  clear hf hk
  go_wp2_with fail
  refine h2.mono ?_
  rintro e w3 ⟨rfl, hf, hk⟩
  clear h2
  have hf : FeedAt w3 (fun k => w.heap.size ≤ k) f ⟨4, [1], [[7, 8]], 0⟩ := hf.mono (by rintro k (h | h); exact h; simp at h; omega)
  have ok : ∀ (a : List Int) (b : List (List Int)) (u : Nat), b.length ≤ 8 → (∀ l ∈ b, l.length ≤ 100 ∧ l ≠ []) → u ≤ 200 → (St.mk 4 a b u).ok := fun a b u h1 h2 h3 => ⟨h1, h2, h3⟩
  have h3 : Calls Try.prog 9 #[fp f] w3 fun e w' => e = .returned (.tuple #[.int .i64 7, .bool true, .int .i64 0]) ∧ FeedAt w' (fun k => w.heap.size ≤ k) f ⟨4, [1], [[8]], 1⟩ ∧ Keep (fun k => w.heap.size ≤ k) w3 w' := next_calls hf (ok _ _ _ (by decide) (by decide) (by decide))
  have K3 := Lib.hid hk
  have OK := Lib.hid ok
  clear hf hk ok
  go_wp2_with fail
  refine h3.mono ?_
  rintro e w4 ⟨rfl, hf, hk⟩
  clear h3
  have h4 : Calls Try.prog 9 #[fp f] w4 fun e w' => e = .returned (.tuple #[.int .i64 8, .bool true, .int .i64 0]) ∧ FeedAt w' (fun k => w.heap.size ≤ k) f ⟨4, [1], [], 2⟩ ∧ Keep (fun k => w.heap.size ≤ k) w4 w' := next_calls hf (OK.out _ _ _ (by decide) (by decide) (by decide))
  have K4 := Lib.hid hk
  clear hf hk
  go_wp2_with fail
  refine h4.mono ?_
  rintro e w5 ⟨rfl, hf, hk⟩
  clear h4
  have h5 : Calls Try.prog 9 #[fp f] w5 fun e w' => e = .returned (.tuple #[.int .i64 1, .bool false, .int .i64 0]) ∧ FeedAt w' (fun k => w.heap.size ≤ k) f ⟨4, [], [], 0⟩ ∧ Keep (fun k => w.heap.size ≤ k) w5 w' := next_calls hf (OK.out _ _ _ (by decide) (by decide) (by decide))
  have K5 := Lib.hid hk
  clear hf hk
  go_wp2_with fail
  refine h5.mono ?_
  rintro e w6 ⟨rfl, hf, hk⟩
  clear h5
  have h6 : Calls Try.prog 18 #[fp f] w6 fun e w' => e = .returned (.int .i64 200) ∧ w6 = w' := fuel_calls hf (by decide)
  have K6 := Lib.hid hk
  clear hf hk
  go_wp2_with fail
  refine h6.mono ?_
  rintro e w7 ⟨rfl, rfl⟩
  clear h6
  go_wp2
  go_ret
  have b1 := K1.out.below (B := w.heap.size) (fun _ h => h) (Nat.le_refl _)
  have b2 := K2.out.below (B := w.heap.size) (fun _ h => h) b1.size
  have b12 := (b1.trans b2).alloc (Nat.le_trans b1.size b2.size) (.cells #[.int .i64 7, .int .i64 8] 3)
  have b3 := b12.trans (K3.out.below (B := w.heap.size) (fun _ h => h) b12.size)
  have b4 := b3.trans (K4.out.below (B := w.heap.size) (fun _ h => h) b3.size)
  have b5 := b4.trans (K5.out.below (B := w.heap.size) (fun _ h => h) b4.size)
  have b6 := b5.trans (K6.out.below (B := w.heap.size) (fun _ h => h) b5.size)
  exact ⟨rfl, b6⟩
set_option maxRecDepth 100000 in
theorem feedNil_walk (k : Int) (v : Value) (w : World) : Calls Try.prog 6 #[.int .i64 k, v] w fun e w' => e = .returned (.bool true) ∧ Below w.heap.size w w' := by
  go_enter Try.func6, Try.ntmps6
  go_wp2_with (first | (go_at_call 9; refine (next_nil _).mono ?_; rintro e w1 ⟨rfl, rfl⟩) | (go_at_call 8; refine (type_nil _ _).mono ?_; rintro e w1 ⟨rfl, rfl⟩) | (go_at_call 10; refine (push_nil _ _).mono ?_; rintro e w1 ⟨rfl, rfl⟩) | (go_at_call 15; refine (waits_nil _).mono ?_; rintro e w1 ⟨rfl, rfl⟩) | (go_at_call 11; refine (packs_nil _).mono ?_; rintro e w1 ⟨rfl, rfl⟩) | (go_at_call 18; refine (fuel_nil _).mono ?_; rintro e w1 ⟨rfl, rfl⟩) | (go_at_call 19; refine (drop_nil _).mono ?_; rintro e w1 ⟨rfl, rfl⟩) | (go_at_call 12; refine (awake_calls _).mono ?_; rintro e w1 ⟨rfl, hb⟩))
  go_ret
  exact ⟨rfl, hb⟩
end Go.Proofs.Ythfdoififonflaa
