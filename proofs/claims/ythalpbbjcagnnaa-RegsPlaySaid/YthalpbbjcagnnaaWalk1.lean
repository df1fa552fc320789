/- Walks: has, which, New, slices.Clone; the methods of no registers. -/
import Derived.Test.YthalpbbjcagnnaaFew
import Derived.Lib.LazyBuf
import Derived.Laws.ResultCell
import Derived.Laws.Rows
set_option linter.unusedSimpArgs false
set_option linter.unusedVariables false
namespace Go.Proofs.Ythalpbbjcagnnaa
open Go.RowKit
theorem below_drewN {B : Nat} {w w' : World} (h : Below B w w') (n : Nat) : Below B w (w'.drewN n) := ⟨h.os, h.tape, h.output, h.size, fun k hk => h.block k hk⟩
theorem results_row_tmp {P : Program} {fn : Func} {p u : Tmp} {ty : TypeId} (h : fn.results = #[.cell p ty, .tmp u]) (tmps : Array Value) (w : World) (g : Nat) (t : TypeId) (cs : Array Value) (fr : Nat × Nat) (d : TypeDesc)
    (hp : tmps.getD p undef = .pointer (some ⟨g, 0, none⟩)) (hg : w.heap[g]? = some (.cells cs t fr))
    (hu : P.underlying ty = some d) (hd : (match d with | .struct _ | .array _ _ => true | _ => false) = true) (hi : (P.info? ty).map (·.size) = some cs.size) :
    (results fn tmps).run P w = .ok (.tuple #[.agg cs, tmps.getD u undef]) w := by
  rw [results_cell_tmp h, hp]
  have h1 : (asAddr (.pointer (some ⟨g, 0, none⟩))).run P w = .ok ⟨g, 0, none⟩ w := by simp [asAddr]
  rw [h1]
  simp only [Result.andThen]
  rw [run_loadVar_row w g t ty cs fr d hg hu hd hi]
theorem heap_new (w : World) (o : Obj) : (w.alloc o).heap[w.heap.size]? = some o := by simp [World.alloc, -World.alloc_eq]
def regV (k : Int) (v : Value) : Value := .agg #[.int .i64 k, v]
theorem has_calls (k : Int) (a : Option Addr) (n c : Nat) (w : World) (hn : n ≤ maxLen) : Calls Try.prog 25 #[.agg #[.int .i64 k, .slice a n c]] w fun e w' => e = .returned (.bool (decide (0 < n))) ∧ w' = w.alloc (.cells #[.int .i64 k, .slice a n c] 30) := by
  unfold maxLen at hn
  go_enter Try.func25, Try.ntmps25
  go_wp2
  go_ret
  exact ⟨by simp, rfl⟩
theorem which_calls (x : Int) (w : World) : Calls Try.prog 24 #[.int .i64 x] w fun e w' => e = .returned (.tuple (if 97 ≤ x ∧ x ≤ 122 then #[.int .i64 (x - 97), .bool false, .bool true] else if 65 ≤ x ∧ x ≤ 90 then #[.int .i64 (x - 65), .bool true, .bool true] else #[.int .i64 0, .bool false, .bool false])) ∧ w = w' := by
  by_cases h1 : 97 ≤ x
  · by_cases h2 : x ≤ 122
    · rw [if_pos ⟨h1, h2⟩]
      go_enter Try.func24, Try.ntmps24
      go_wp2
      go_ret3
      exact ⟨by go_num, rfl⟩
    · rw [if_neg (by omega), if_neg (by omega)]
      go_enter Try.func24, Try.ntmps24
      go_wp2
      go_ret3
      exact ⟨by go_num, rfl⟩
  · rw [if_neg (by omega)]
    by_cases h3 : 65 ≤ x
    · by_cases h4 : x ≤ 90
      · rw [if_pos ⟨h3, h4⟩]
        go_enter Try.func24, Try.ntmps24
        go_wp2
        go_ret3
        exact ⟨by go_num, rfl⟩
      · rw [if_neg (by omega)]
        go_enter Try.func24, Try.ntmps24
        go_wp2
        go_ret3
        exact ⟨by go_num, rfl⟩
    · rw [if_neg (by omega)]
      go_enter Try.func24, Try.ntmps24
      go_wp2
      go_ret3
      exact ⟨by go_num, rfl⟩
theorem names_nil (w : World) : Calls Try.prog 11 #[.pointer none] w fun e w' => e = .returned (.slice none 0 0) ∧ w = w' := by
  go_enter Try.func11, Try.ntmps11
  go_wp2
  go_ret
  exact ⟨rfl, rfl⟩
theorem size_nil (w : World) : Calls Try.prog 19 #[.pointer none] w fun e w' => e = .returned (.int .i64 0) ∧ w = w' := by
  go_enter Try.func19, Try.ntmps19
  go_wp2
  go_ret
  exact ⟨rfl, rfl⟩
theorem set_nil (x k : Int) (v : Value) (w : World) : Calls Try.prog 9 #[.pointer none, .int .i64 x, .agg #[.int .i64 k, v]] w fun e w' => e = .returned (.int .i64 2) ∧ Below w.heap.size w w' := by
  go_enter Try.func9, Try.ntmps9
  go_wp2
  go_ret
  exact ⟨rfl, (Below.refl _ _).alloc (Nat.le_refl _) _⟩
theorem get_nil (x : Int) (w : World) : Calls Try.prog 10 #[.pointer none, .int .i64 x] w fun e w' => e = .returned (.tuple #[.agg #[.int .i64 0, .slice none 0 0], .bool false]) ∧ Below w.heap.size w w' := by
  go_enter Try.func10, Try.ntmps10
  go_wp2
  refine bodyPost_ret (results_row_tmp rfl _ _ w.heap.size 30 #[.int .i64 0, .slice none 0 0] (0, 0) _ rfl (heap_new _ _) Try.underlying30 rfl (by kernel_rfl)) rfl ?_
  exact ⟨rfl, (Below.refl _ _).alloc (Nat.le_refl _) _⟩
theorem drop_nil (x : Int) (w : World) : Calls Try.prog 18 #[.pointer none, .int .i64 x] w fun e w' => e = .returned (.bool false) ∧ w = w' := by
  have HW := Lib.hid (which_calls x w)
  go_enter Try.func18, Try.ntmps18
  by_cases h1 : 97 ≤ x ∧ x ≤ 122
  · rw [if_pos h1] at HW
    clear h1
    go_wp2_with (go_at_call 24; refine HW.out.mono ?_; rintro e w' ⟨rfl, rfl⟩)
    go_ret
    exact ⟨rfl, rfl⟩
  · rw [if_neg h1] at HW
    by_cases h2 : 65 ≤ x ∧ x ≤ 90
    · rw [if_pos h2] at HW
      clear h1 h2
      go_wp2_with (go_at_call 24; refine HW.out.mono ?_; rintro e w' ⟨rfl, rfl⟩)
      go_ret
      exact ⟨rfl, rfl⟩
    · rw [if_neg h2] at HW
      clear h1 h2
      go_wp2_with (go_at_call 24; refine HW.out.mono ?_; rintro e w' ⟨rfl, rfl⟩)
      go_ret
      exact ⟨rfl, rfl⟩
theorem Clone_soft (w : World) (N : Nat → Prop) (v : Value) (l : List ByteArray) (hl : l.length ≤ 100000) (h : RowAt w N v l) :
    Calls Try.prog 37 #[v] w fun e w' => (∃ v', e = .returned v' ∧ RowAt w' (fun k => w.heap.size ≤ k ∧ Soft w' k) v' l) ∧ Below w.heap.size w w' := by
  obtain ⟨a, c, rfl, h1, h2, h⟩ := h
  obtain ⟨i0, hi0, hz0, hz1, hz2⟩ := info_parts info9
  have he : ∀ l, (binOp .eql 55 (.slice a l c) (.slice none 0 0)).run Try.prog w = .ok (.bool a.isNone) w := fun l => by apply Lib.run_eql_slice_nil; exact Try.underlying55
  obtain ⟨n, hn⟩ : ∃ n, l.length = n := ⟨_, rfl⟩
  have HN := Lib.hid hn
  rw [hn] at h1 hl ⊢
  have he := he n
  cases a with
  | none =>
    obtain rfl : n = 0 := by
      rcases Nat.eq_zero_or_pos n with h0 | h0
      · exact h0
      · obtain ⟨b, off, e, -⟩ := h 0 (by omega); cases e
    have he : (binOp .eql 55 (.slice none 0 c) (.slice none 0 0)).run Try.prog w = .ok (.bool true) w := he
    clear h hn
    go_enter Try.func37, Try.ntmps37
    go_wp2_with fail
    go_ret
    exact ⟨⟨_, rfl, _, 0, by rw [HN.out]; rfl, by rw [HN.out]; exact Nat.le_refl _, by decide, fun i hi => by rw [HN.out] at hi; omega⟩, Below.refl _ _⟩
  | some a =>
    have he : (binOp .eql 55 (.slice (some a) n c) (.slice none 0 0)).run Try.prog w = .ok (.bool false) w := he
    have H := Lib.hid h
    clear h hn
    by_cases h0 : n = 0
    · subst h0
      go_enter Try.func37, Try.ntmps37
      go_wp2_with fail
      go_ret
      exact ⟨⟨_, rfl, _, 0, by rw [HN.out]; rfl, by rw [HN.out]; exact Nat.le_refl _, by decide, fun i hi => by rw [HN.out] at hi; omega⟩, (Below.refl _ _).alloc (Nat.le_refl _) _⟩
    · have HE := Lib.hid (show (w.alloc (.cells #[] 9)).ownsRow w.heap.size 9 1 (.slice (some ⟨w.heap.size, 0, none⟩) 0 0) 0 [] from ⟨rfl, .inr ⟨w.heap.size, 0, #[], rfl, Nat.le_refl _, by simp [World.alloc, -World.alloc_eq], Nat.le_refl _, by decide, rfl, rfl⟩⟩)
      have HS := Lib.hid (show ∀ j u, (sv l)[j]? = some u → (w.alloc (.cells #[] 9)).cell? (a.add j) = some u by
        intro j u hu
        have hj : j < l.length := by
          rcases Nat.lt_or_ge j l.length with h' | h'
          · exact h'
          · rw [List.getElem?_eq_none (by simp [sv]; omega)] at hu; cases hu
        obtain ⟨b, off, e, -, hc⟩ := H.out j hj
        obtain rfl : a = ⟨b, off, none⟩ := by simpa using e
        rw [show (⟨b, off, none⟩ : Addr).add j = ⟨b, off + j, none⟩ by unfold Addr.add; split <;> simp_all, World.cell?_alloc_old (h := Nat.ne_of_lt (World.block_lt_of_cell? _ _ hc)), hc, ← hu]
        simp [sv, List.getD_eq_getElem?_getD, List.getElem?_eq_getElem hj])
      have HI := Lib.hid hi0
      have HZ0 := Lib.hid hz0
      have HZ1 := Lib.hid hz1
      have HZ2 := Lib.hid hz2
      have HL := Lib.hid (show (sv l).length = n * 1 by simp [sv, HN.out])
      have h1' : ∀ u ∈ sv l, u.oneCell' = true := by
        intro u hu; simp only [sv, List.mem_map] at hu; obtain ⟨x, -, rfl⟩ := hu; rfl
      have H1 := Lib.hid h1'
      have HM := Lib.hid (show 0 + n ≤ maxLen by unfold maxLen; omega)
      clear hi0 hz0 hz1 hz2 h1'
      go_enter Try.func37, Try.ntmps37
      go_wp2_with (at_builtin; refine wpList_append_lies _ rfl (.tmp 5) (.tmp 6) 55 rfl w.heap.size 9 i0 (.string ByteArray.empty) 1 16 Try.underlying55 HI.out HZ0.out HZ1.out HZ2.out rfl (by decide) (.slice (some ⟨w.heap.size, 0, none⟩) 0 0) 0 [] rfl HE.out a n c (sv l) rfl HL.out HS.out H1.out (by omega) HM.out (by omega) (by simp) (w.heap.size + 1) (by simp) ?_; intro g cap w2 hown hgrow hat hlt; have HO := Lib.hid hown; have HG := Lib.hid hgrow; clear hown hgrow hat hlt)
      go_ret
      refine ⟨⟨_, rfl, ?_⟩, ?_⟩
      · have ho := HO.out
        rw [show 0 + n = n by omega, List.nil_append] at ho
        exact (rowAt_own HN.out ho).keep fun k hk _ => ⟨⟨hk.1.1, hk.2⟩, rfl⟩
      · have hg := HG.out
        exact ⟨hg.os, hg.tape, hg.output, by have := hg.size; simp at this; omega, fun k hk => (hg.block k (by simp; omega) (by simp [Value.ownBlock]; omega)).trans (Below.heap_alloc _ _ _ hk)⟩
end Go.Proofs.Ythalpbbjcagnnaa
