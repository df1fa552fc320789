/- The walk of Drop: all packs are gone through, key by key; what it does to the world. -/
import Derived.Test.YthfdoififonflaaWalk2
set_option linter.unusedSimpArgs false
set_option linter.unusedVariables false
namespace Go.Proofs.Ythfdoififonflaa
open Go.RowKit Go.Conc Go.Proofs.Ythfdoififonflaa.Ch
structure DropTo (n : Nat) (cs : Nat → Nat) (w wm : World) : Prop where
  os : wm.os = w.os
  tape : wm.tape = w.tape
  output : wm.output = w.output
  size : wm.heap.size = w.heap.size
  block : ∀ k, (∀ j, j < n → k ≠ cs j) → wm.heap[k]? = w.heap[k]?
def tot (L : Nat → List Int) : Nat → Nat
  | 0 => 0
  | i + 1 => tot L i + (L i).length
theorem tot_le (L : Nat → List Int) (n : Nat) (h : ∀ i, i < n → (L i).length ≤ 100) : ∀ i, i ≤ n → tot L i ≤ 100 * i := by
  intro i
  induction i with
  | zero => intro _; simp [tot]
  | succ i ih => intro hi; have := ih (by omega); have := h i (by omega); simp [tot]; omega
theorem setChan_same (w : World) (c cap : Nat) (buf : Array Value) (cl : Bool) (s r : Nat) (h : w.heap[c]? = some (.chan cap buf cl s r false)) : w.setChan c cap buf cl s r false = w := by
  have : w.heap.setIfInBounds c (.chan cap buf cl s r false) = w.heap := by
    apply Array.ext_getElem?
    intro i
    rw [Array.getElem?_setIfInBounds]
    split
    · rename_i e; subst e; split
      · exact h.symm
      · rename_i h2; rw [Array.getElem?_eq_none (by omega)] at h; cases h
    · rfl
  unfold World.setChan
  rw [this]
theorem setChan_setChan (w : World) (c cap cap' : Nat) (buf buf' : Array Value) (cl cl' : Bool) (s r s' r' : Nat) : (w.setChan c cap buf cl s r false).setChan c cap' buf' cl' s' r' false = w.setChan c cap' buf' cl' s' r' false := by
  simp [World.setChan]
theorem setChan_heap_ne (w : World) (c cap : Nat) (buf : Array Value) (cl : Bool) (s r : Nat) (k : Nat) (h : c ≠ k) : (w.setChan c cap buf cl s r false).heap[k]? = w.heap[k]? := by
  simp only [World.setChan]; rw [Array.getElem?_setIfInBounds_ne h]
theorem setChan_heap (w : World) (c cap : Nat) (buf : Array Value) (cl : Bool) (s r : Nat) (h : (w.heap[c]?).isSome) : (w.setChan c cap buf cl s r false).heap[c]? = some (.chan cap buf cl s r false) :=
  heap_setChan w c cap buf cl s r false (by rcases Nat.lt_or_ge c w.heap.size with h' | h'; exact h'; rw [Array.getElem?_eq_none h'] at h; simp at h)
def drRel (w : World) (f n p : Nat) (a : Option Addr) (cs : Nat → Nat) (L : Nat → List Int) (ac : Act) (wr : World) : Prop :=
  ∃ i : Nat, i ≤ n ∧ ∃ u4 u5 u14 u15 u16 u17 u18 u19 u20 u21 u22 : Value, ac = { tmps := #[.pointer (some ⟨f, 0, none⟩), undef, .int .i64 0, .int .i64 (tot L i), u4, u5, .pointer (some ⟨f, 0, none⟩), .bool false, .pointer (some ⟨f, 0, none⟩), .pointer (some ⟨f, 0, none⟩), .pointer (some ⟨f, 1, none⟩), .slice a n p, .int .i64 n, .int .i64 i, u14, u15, u16, u17, u18, u19, u20, u21, u22, undef, undef, undef, undef], defers := [] } ∧ DropTo i cs w wr
def drLeft (n : Nat) (ac : Act) (_ : World) : Nat := n - (intOf (ac.tmps.getD 13 undef)).toNat
def drIn (wr : World) (f n p i g off c cap s r T : Nat) (u4 : Value) (l : List Int) (u22 : Value) (ac : Act) (wq : World) : Prop :=
  ∃ t : Nat, t ≤ l.length ∧ ∃ u18 u19 u20 u21 : Value, ac = { tmps := #[.pointer (some ⟨f, 0, none⟩), undef, .int .i64 0, .int .i64 ((T + t : Nat) : Int), u4, .chan (some c), .pointer (some ⟨f, 0, none⟩), .bool false, .pointer (some ⟨f, 0, none⟩), .pointer (some ⟨f, 0, none⟩), .pointer (some ⟨f, 1, none⟩), .slice (some ⟨g, off, none⟩) n p, .int .i64 n, .int .i64 i, .bool true, .pointer (some ⟨g, off + i, none⟩), .chan (some c), .chan (some c), u18, u19, u20, u21, u22, undef, undef, undef, undef], defers := [] } ∧ wq = wr.setChan c cap (kv (l.drop t)) true s (r + t) false
def drMore (T N : Nat) (ac : Act) (_ : World) : Nat := T + N - (intOf (ac.tmps.getD 3 undef)).toNat
theorem drop_head (l : List Int) (t : Nat) (h : t < l.length) : l.drop t = l.getD t 0 :: l.drop (t + 1) := by
  rw [List.drop_eq_getElem_cons h]; simp [List.getD_eq_getElem?_getD, List.getElem?_eq_getElem h]
theorem drop_walk (f n p : Nat) (a : Option Addr) (cs caps ss rs : Nat → Nat) (L : Nat → List Int) (w : World) (hn : n ≤ 8) (h1 : w.cell? ⟨f, 1, none⟩ = some (.slice a n p)) (hz : w.frozen? ⟨f, 1, none⟩ = false)
    (hcell : ∀ i, i < n → ∃ g off, a = some ⟨g, off, none⟩ ∧ w.cell? ⟨g, off + i, none⟩ = some (.chan (some (cs i))) ∧ ∀ j, j < n → cs j ≠ g)
    (hch : ∀ i, i < n → w.heap[cs i]? = some (chanOf (caps i) (L i) true (ss i) (rs i))) (hL : ∀ i, i < n → (L i).length ≤ 100)
    (hne : ∀ i j, i < n → j < n → i ≠ j → cs i ≠ cs j) (hf : ∀ i, i < n → cs i ≠ f) :
    Calls Try.prog 19 #[.pointer (some ⟨f, 0, none⟩)] w fun e w' => e = .returned (.int .i64 (tot L n)) ∧ ∃ wm, DropTo n cs w wm ∧ w' = wm.setCell ⟨f, 1, none⟩ (.slice none 0 0) := by
  have HCELL := Lib.hid hcell
  have HCH := Lib.hid hch
  have HL := Lib.hid hL
  have HNE := Lib.hid hne
  have HF := Lib.hid hf
  have HT := Lib.hid (tot_le L n hL)
  have H1 := Lib.hid h1
  have HZ := Lib.hid hz
  clear hcell hch hL hne hf hz
  refine calls_of_wpN Try.func19 rfl ?_
  simp only [Try.ntmps19, List.size_toArray, List.length_cons, List.length_nil, Nat.reduceAdd, Nat.reduceSub, Array.replicate_succ, Array.replicate_zero, List.push_toArray, List.append_toArray, List.nil_append, List.cons_append]
  refine wpN_seq_wp fun K hK => ?_
  go_wp2
  refine wpN_seq_wp fun K hK => ?_
  go_wp2
  refine wpN_seq_wp fun K hK => ?_
  go_wp2
  refine wpN_seq_k fun K hK => ?_
  refine wpN_seq_wp fun K' hK' => ?_
  go_wp2
  clear h1
  refine wpN_block ?_
  refine wpN_loop (drRel w f n p a cs L) (drLeft n) ⟨0, Nat.zero_le _, undef, undef, undef, undef, undef, undef, undef, undef, undef, undef, undef, rfl, ⟨rfl, rfl, rfl, rfl, fun _ _ => rfl⟩⟩ ?_
  rintro ac wr ⟨i, hi, u4, u5, u14, u15, u16, u17, u18, u19, u20, u21, u22, rfl, hdr⟩
  by_cases hlt : i < n
  · have HDR := Lib.hid hdr
    obtain ⟨g, off, rfl, hcl, hg⟩ := HCELL.out i hlt
    have hcl' : wr.cell? ⟨g, off + i, none⟩ = some (.chan (some (cs i))) := (World.cell?_of_block (hdr.block g fun j hj => (hg j (by omega)).symm)).trans hcl
    have HG := Lib.hid hg
    clear hdr hcl hg
    refine wpN_seq_wp fun K1 hK1 => ?_
    go_wp2
    refine wpN_seq_wp fun K2 hK2 => ?_
    go_wp2
    refine wpN_seq_k fun K3 hK3 => ?_
    refine wpN_block ?_
    refine wpN_seq_wp fun K4 hK4 => ?_
    go_wp2
    refine wpN_seq_wp fun K5 hK5 => ?_
    go_wp2
    refine wpN_block ?_
    have hblk : wr.heap[cs i]? = some (chanOf (caps i) (L i) true (ss i) (rs i)) := (HDR.out.block (cs i) fun j hj => HNE.out i j hlt (by omega) (by omega)).trans (HCH.out i hlt)
    have hT := HT.out i (by omega)
    have hLi := HL.out i hlt
    have HB := Lib.hid hblk
    refine wpN_loop (drIn wr f n p i g off (cs i) (caps i) (ss i) (rs i) (tot L i) u4 (L i) u22) (drMore (tot L i) (L i).length) ⟨0, Nat.zero_le _, u18, u19, u20, u21, rfl, (setChan_same wr _ _ _ _ _ _ hblk).symm⟩ ?_
    clear hblk
    rintro ac wq ⟨t, ht, u18, u19, u20, u21, rfl, rfl⟩
    have hnow := setChan_heap wr (cs i) (caps i) (kv ((L i).drop t)) true (ss i) (rs i + t) (by rw [HB.out]; rfl)
    by_cases hlt2 : t < (L i).length
    · refine wpN_seq (wpN_region ?_)
      refine runs_recv (rest := [1]) true (c := cs i) (z := .int .i64 0) rfl rfl ?_ hnow (by rw [kv_size, List.length_drop]; omega) ?_
      · simp [go_sem, execOp, rcase, Act.eval]
      rw [drop_head _ _ hlt2, kv_head, kv_tail, setChan_setChan]
      simp only [Act.put, List.getElem_toArray, List.getElem_cons_zero, List.setIfInBounds_toArray, List.set_cons_succ, List.set_cons_zero, got, if_true]
      refine runs_from 1 rfl ?_
      simp only [List.drop_succ_cons, List.drop_zero]
      clear hnow
      go_wp2
      refine wpN_seq_wp fun K6 hK6 => ?_
      go_wp2
      refine wpN_of_wp ?_
      go_wp2
      exact ⟨⟨t + 1, by omega, _, _, _, _, rfl, rfl⟩, by simp [drMore, intOf]; omega⟩
    · have : t = (L i).length := by omega
      subst this
      rw [List.drop_length] at hnow ⊢
      refine wpN_seq (wpN_region ?_)
      refine runs_recv_shut (rest := [1]) true (c := cs i) (z := .int .i64 0) rfl rfl ?_ hnow ?_
      · simp [go_sem, execOp, rcase, Act.eval]
      simp only [Act.put, List.getElem_toArray, List.getElem_cons_zero, List.setIfInBounds_toArray, List.set_cons_succ, List.set_cons_zero, got, if_true]
      refine runs_from 1 rfl ?_
      simp only [List.drop_succ_cons, List.drop_zero]
      clear hnow
      go_wp2
      refine wpN_seq_wp fun K6 hK6 => ?_
      go_wp2
      refine wpN_of_wp ?_
      go_wp2
      refine ⟨⟨i + 1, by omega, _, _, _, _, _, _, _, _, _, _, _, rfl, ?_⟩, by simp [drLeft, intOf]; omega⟩
      have hd := HDR.out
      exact ⟨hd.os, hd.tape, hd.output, (size_setChan ..).trans hd.size, fun k hk => (setChan_heap_ne _ _ _ _ _ _ _ _ (fun e => hk i (by omega) e.symm)).trans (hd.block k fun j hj => hk j (by omega))⟩
  · have : i = n := by omega
    subst this
    have hfb : wr.heap[f]? = w.heap[f]? := hdr.block f fun j hj => (HF.out j hj).symm
    have g1 : wr.cell? ⟨f, 1, none⟩ = some (.slice a i p) := (World.cell?_of_block hfb).trans H1.out
    have g2 : wr.frozen? ⟨f, 1, none⟩ = false := (World.frozen?_of_block hfb).trans HZ.out
    have HDR := Lib.hid hdr
    clear hdr hfb
    refine wpN_seq_wp fun K1 hK1 => ?_
    go_wp2
    refine wpN_seq_wp fun K2 hK2 => ?_
    go_wp2
    refine wpN_of_wp ?_
    go_wp2
    go_ret
    exact ⟨rfl, wr, HDR.out, rfl⟩
end Go.Proofs.Ythfdoififonflaa
