/- Walks: Compare, slices.Clone, Least. -/
import Derived.Test.YtankdkappcimdaaW2
import Derived.Lib.LazyBuf
set_option linter.unusedSimpArgs false
set_option linter.unusedVariables false
namespace Go.Proofs.Ytankdkappcimdaa
open Go.RowKit
def cmpBy (a b : Int × Bool) (z : Int) : Int := if a.2 = true ∧ b.2 = true then cmpI a.1 b.1 else if a.2 = true then -1 else if b.2 = true then 1 else z
theorem Compare_by (w : World) (v u : Value) (a b : Int × Bool) (z : Int)
    (ha : ∀ n, Calls Try.prog 9 #[v] (w.drewN n) fun e w' => e = .returned (.tuple #[.int .i64 a.1, .bool a.2]) ∧ ∃ m, w' = (w.drewN n).drewN m)
    (hb : ∀ n, Calls Try.prog 9 #[u] (w.drewN n) fun e w' => e = .returned (.tuple #[.int .i64 b.1, .bool b.2]) ∧ ∃ m, w' = (w.drewN n).drewN m)
    (hz : ∀ n, Calls Try.prog 26 #[v, u] (w.drewN n) fun e w' => e = .returned (.int .i64 z) ∧ (w.drewN n) = w') :
    Calls Try.prog 16 #[v, u] w fun e w' => e = .returned (.int .i64 (cmpBy a b z)) ∧ ∃ n, w' = w.drewN n := by
  have HA := Lib.hid (ha 0)
  have HB := Lib.hid hb
  have HZ := Lib.hid hz
  clear ha hb hz
  obtain ⟨a, p⟩ := a
  obtain ⟨b, q⟩ := b
  go_enter Try.func16, Try.ntmps16
  go_wp2_with fail
  refine HA.out.mono ?_
  rintro e w' ⟨rfl, n, rfl⟩
  have HB := Lib.hid (HB.out n)
  have hd : ∀ n : Nat, (w.drewN 0).drewN n = w.drewN n := fun _ => by rw [World.drewN_drewN, Nat.zero_add]
  rw [hd]
  go_wp2_with fail
  refine HB.out.mono ?_
  rintro e w' ⟨rfl, n', rfl⟩
  rw [World.drewN_drewN]
  cases p with
  | true =>
    cases q with
    | true =>
      have HE := Lib.hid (show cmpBy (a, true) (b, true) z = cmpI a b by simp [cmpBy])
      go_wp2_with (go_at_call 25; refine (cmpI_calls _ _ _).mono ?_; rintro e w' ⟨rfl, rfl⟩)
      go_ret
      exact ⟨by rw [HE.out]; rfl, _, rfl⟩
    | false =>
      have HE := Lib.hid (show cmpBy (a, true) (b, false) z = -1 by simp [cmpBy])
      go_wp2_with fail
      go_ret
      exact ⟨by rw [HE.out]; rfl, _, rfl⟩
  | false =>
    cases q with
    | true =>
      have HE := Lib.hid (show cmpBy (a, false) (b, true) z = 1 by simp [cmpBy])
      go_wp2_with fail
      go_ret
      exact ⟨by rw [HE.out]; rfl, _, rfl⟩
    | false =>
      have HE := Lib.hid (show cmpBy (a, false) (b, false) z = z by simp [cmpBy])
      go_wp2_with (go_at_call 26; refine (HZ.out _).mono ?_; rintro e w' ⟨rfl, rfl⟩)
      go_ret
      exact ⟨by rw [HE.out]; rfl, _, rfl⟩
theorem Compare_calls (w : World) (v u : Value) (l m : List Int) (hl : BytesOk l) (hm : BytesOk m) (h : BytesAt w v l) (h' : BytesAt w u m) :
    Calls Try.prog 16 #[v, u] w fun e w' => e = .returned (.int .i64 (cmpOf l m)) ∧ ∃ n, w' = w.drewN n :=
  Compare_by w v u (parseOf l) (parseOf m) (bw l m) (fun n => Parse_calls _ v l hl (h.drewN n)) (fun n => Parse_calls _ u m hm (h'.drewN n)) (fun n => bytewise_calls _ v u l m (h.drewN n) (h'.drewN n))
def bv (l : List Int) : List Value := l.map (Value.int .u8)
theorem info5b : (Try.prog.info? 5).map (fun i => (i.zero, i.size, i.bytes)) = some (some (.int .u8 0), 1, 1) := by kernel_rfl
theorem bytesAt_own {w : World} {g n cap B : Nat} {l : List Int} (hn : l.length = n) (hcap : cap ≤ maxLen) (h : w.ownsRow B 5 1 (.slice (some ⟨g, 0, none⟩) n cap) n (bv l)) : BytesAt w (.slice (some ⟨g, 0, none⟩) n cap) l := by
  obtain ⟨_, h | ⟨g', cap', cur, e, -, hg, hc1, -, hsz, hcur⟩⟩ := h
  · cases h.1
  · simp only [Value.slice.injEq, Option.some.injEq, Addr.mk.injEq, true_and, and_true] at e
    obtain ⟨rfl, rfl⟩ := e
    subst hn
    refine ⟨_, _, rfl, hc1, hcap, fun i hi => ⟨g, 0, rfl, ?_⟩⟩
    have h5 : (cur.toList.take (l.length * 1))[i]? = some (.int .u8 (l.getD i 0)) := by
      rw [hcur]; simp [bv, List.getD_eq_getElem?_getD, List.getElem?_eq_getElem hi]
    rw [List.getElem?_take, if_pos (by omega)] at h5
    simp only [World.cell?, hg, Nat.zero_add]
    simpa using h5
theorem Clone_calls (w : World) (v : Value) (l : List Int) (hl : l.length ≤ 1000) (h : BytesAt w v l) :
    Calls Try.prog 27 #[v] w fun e w' => (∃ v', e = .returned v' ∧ BytesAt w' v' l) ∧ Below w.heap.size w w' := by
  have HV := Lib.hid h
  obtain ⟨a, c, rfl, h1, h2, h⟩ := h
  obtain ⟨i0, hi0, hz0, hz1, hz2⟩ := info_parts info5b
  have he : ∀ l, (binOp .eql 25 (.slice a l c) (.slice none 0 0)).run Try.prog w = .ok (.bool a.isNone) w := fun l => by apply Lib.run_eql_slice_nil; exact Try.underlying25
  obtain ⟨n, hn⟩ : ∃ n, l.length = n := ⟨_, rfl⟩
  have HN := Lib.hid hn
  rw [hn] at h1 hl ⊢
  have he := he n
  cases a with
  | none =>
    obtain rfl : n = 0 := by
      rcases Nat.eq_zero_or_pos n with h0 | h0
      · exact h0
      · obtain ⟨b, off, e, -⟩ := h 0 (by omega); cases e
    have he : (binOp .eql 25 (.slice none 0 c) (.slice none 0 0)).run Try.prog w = .ok (.bool true) w := he
    clear h hn
    go_enter Try.func27, Try.ntmps27
    go_wp2_with fail
    go_ret
    exact ⟨⟨_, rfl, _, 0, by rw [HN.out]; rfl, by rw [HN.out]; exact Nat.le_refl _, by decide, fun i hi => by rw [HN.out] at hi; omega⟩, Below.refl _ _⟩
  | some a =>
    have he : (binOp .eql 25 (.slice (some a) n c) (.slice none 0 0)).run Try.prog w = .ok (.bool false) w := he
    have H := Lib.hid h
    clear h hn
    by_cases h0 : n = 0
    · subst h0
      go_enter Try.func27, Try.ntmps27
      go_wp2_with fail
      go_ret
      exact ⟨⟨_, rfl, _, 0, by rw [HN.out]; rfl, by rw [HN.out]; exact Nat.le_refl _, by decide, fun i hi => by rw [HN.out] at hi; omega⟩, (Below.refl _ _).alloc (Nat.le_refl _) _⟩
    · have HE := Lib.hid (show (w.alloc (.cells #[] 5)).ownsRow 0 5 1 (.slice (some ⟨w.heap.size, 0, none⟩) 0 0) 0 [] from ⟨rfl, .inr ⟨w.heap.size, 0, #[], rfl, Nat.zero_le _, by simp [World.alloc, -World.alloc_eq], Nat.le_refl _, by decide, rfl, rfl⟩⟩)
      have HS := Lib.hid (show ∀ j u, (bv l)[j]? = some u → (w.alloc (.cells #[] 5)).cell? (a.add j) = some u by
        intro j u hu
        have hj : j < l.length := by
          rcases Nat.lt_or_ge j l.length with h' | h'
          · exact h'
          · rw [List.getElem?_eq_none (by simp [bv]; omega)] at hu; cases hu
        obtain ⟨b, off, e, hc⟩ := H.out j hj
        obtain rfl : a = ⟨b, off, none⟩ := by simpa using e
        rw [show (⟨b, off, none⟩ : Addr).add j = ⟨b, off + j, none⟩ by unfold Addr.add; split <;> simp_all, World.cell?_alloc_old (h := Nat.ne_of_lt (World.block_lt_of_cell? _ _ hc)), hc, ← hu]
        simp [bv, List.getD_eq_getElem?_getD, List.getElem?_eq_getElem hj])
      have HI := Lib.hid hi0
      have HZ0 := Lib.hid hz0
      have HZ1 := Lib.hid hz1
      have HZ2 := Lib.hid hz2
      have HL := Lib.hid (show (bv l).length = n * 1 by simp [bv, HN.out])
      have h1' : ∀ u ∈ bv l, u.oneCell' = true := by
        intro u hu; simp only [bv, List.mem_map] at hu; obtain ⟨x, -, rfl⟩ := hu; rfl
      have H1 := Lib.hid h1'
      have HM := Lib.hid (show 0 + n ≤ maxLen by unfold maxLen; omega)
      clear hi0 hz0 hz1 hz2 h1'
      go_enter Try.func27, Try.ntmps27
      go_wp2_with (at_builtin; refine wpList_append_lies _ rfl (.tmp 5) (.tmp 6) 25 rfl 0 5 i0 (.int .u8 0) 1 1 Try.underlying25 HI.out HZ0.out HZ1.out HZ2.out rfl (by decide) (.slice (some ⟨w.heap.size, 0, none⟩) 0 0) 0 [] rfl HE.out a n c (bv l) rfl HL.out HS.out H1.out (by omega) HM.out (by omega) (by omega) (w.heap.size + 1) (by simp) ?_; intro g cap w2 hown hgrow hat hlt; have HO := Lib.hid hown; have HG := Lib.hid hgrow; clear hown hgrow hat hlt)
      go_ret
      refine ⟨⟨_, rfl, ?_⟩, ?_⟩
      · have ho := HO.out
        have hcap : cap ≤ maxLen := by
          obtain ⟨-, h | ⟨g', cap', cur, e, -, hg, hc1, hc2, hsz, hcur⟩⟩ := ho
          · cases h.1
          · simp only [Value.slice.injEq] at e; omega
        rw [show 0 + n = n by omega, List.nil_append] at ho
        exact bytesAt_own HN.out hcap ho
      · have hg := HG.out
        exact ⟨hg.os, hg.tape, hg.output, by have := hg.size; simp at this; omega, fun k hk => (hg.block k (by simp; omega) (by simp [Value.ownBlock]; omega)).trans (Below.heap_alloc _ _ _ hk)⟩
theorem below_drewN {B : Nat} {w w' : World} (h : Below B w w') (n : Nat) : Below B w (w'.drewN n) := ⟨h.os, h.tape, h.output, h.size, fun k hk => h.block k hk⟩
def leastOf (l m : List Int) : List Int := if cmpOf l m > 0 then m else l
theorem Least_calls (w : World) (v u : Value) (l m : List Int) (hl : BytesOk l) (hm : BytesOk m) (hl2 : l.length ≤ 1000) (hm2 : m.length ≤ 1000) (h : BytesAt w v l) (h' : BytesAt w u m) :
    Calls Try.prog 18 #[v, u] w fun e w' => (∃ v', e = .returned v' ∧ BytesAt w' v' (leastOf l m)) ∧ Below w.heap.size w w' := by
  have HC := Lib.hid (Compare_calls w v u l m hl hm h h')
  have H1 := Lib.hid fun n => Clone_calls (w.drewN n) v l hl2 (h.drewN n)
  have H2 := Lib.hid fun n => Clone_calls (w.drewN n) u m hm2 (h'.drewN n)
  obtain ⟨z, hz⟩ : ∃ z, cmpOf l m = z := ⟨_, rfl⟩
  have hL : leastOf l m = if z > 0 then m else l := by unfold leastOf; rw [hz]
  rw [hz] at HC
  have HB : ∀ n (w' : World), Below (w.drewN n).heap.size (w.drewN n) w' → Below w.heap.size w w' := fun n w' h => (below_drewN (Below.refl _ _) n).trans h
  have HB := Lib.hid HB
  clear h h' hz hl hm
  by_cases h0 : z > 0
  · rw [if_pos h0] at hL
    have HL := Lib.hid hL
    clear hL
    go_enter Try.func18, Try.ntmps18
    go_wp2_with (first | (go_at_call 16; refine HC.out.mono ?_; rintro e w' ⟨rfl, n, rfl⟩) | (go_at_call 27; refine (H2.out _).mono ?_; rintro e w2 ⟨⟨v', rfl, hv⟩, hb⟩))
    go_ret
    exact ⟨⟨_, rfl, by rw [HL.out]; exact hv⟩, HB.out _ _ hb⟩
  · rw [if_neg h0] at hL
    have HL := Lib.hid hL
    clear hL
    go_enter Try.func18, Try.ntmps18
    go_wp2_with (first | (go_at_call 16; refine HC.out.mono ?_; rintro e w' ⟨rfl, n, rfl⟩) | (go_at_call 27; refine (H1.out _).mono ?_; rintro e w2 ⟨⟨v', rfl, hv⟩, hb⟩))
    go_ret
    exact ⟨⟨_, rfl, by rw [HL.out]; exact hv⟩, HB.out _ _ hb⟩
end Go.Proofs.Ytankdkappcimdaa
