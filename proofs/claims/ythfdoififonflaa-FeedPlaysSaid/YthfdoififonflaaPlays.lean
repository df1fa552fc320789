/- FeedPlays: whatever is typed, and pushed, a feed hands over, and has, what the document's has: the walk. -/
import Derived.Test.YthfdoififonflaaOpen2
import Derived.Deep.DeepCutAuto
import Derived.Deep.CutBlock
import Derived.BigQuiet
import Derived.RegionTactic
set_option linter.unusedSimpArgs false
set_option linter.unusedVariables false
namespace Go.Proofs.Ythfdoififonflaa
open Go.RowKit
section
variable {w0 w : World} {f r : Nat} {s t : St} {X : Nat → Option Obj}
theorem BothAt.waits (h : BothAt w0 w f r s t X) : Calls Try.prog 15 #[fp f] w fun e w' => e = .returned (.int .i64 s.typed.length) ∧ w = w' := by obtain ⟨Nf, Nr, h⟩ := h; exact waits_calls h.feed
theorem BothAt.packs (h : BothAt w0 w f r s t X) : Calls Try.prog 11 #[fp f] w fun e w' => e = .returned (.int .i64 s.packs.length) ∧ w = w' := by obtain ⟨Nf, Nr, h⟩ := h; exact packs_calls h.feed
theorem BothAt.fuel (h : BothAt w0 w f r s t X) : Calls Try.prog 18 #[fp f] w fun e w' => e = .returned (.int .i64 (200 - (s.used : Int))) ∧ w = w' := by obtain ⟨Nf, Nr, h⟩ := h; exact fuel_calls h.feed h.sok.used
theorem BothAt.rcells (h : BothAt w0 w f r s t X) : (∃ a c, w.cell? ⟨r, 1, none⟩ = some (.slice a t.typed.length c)) ∧ (∃ a c, w.cell? ⟨r, 2, none⟩ = some (.slice a t.packs.length c)) ∧ w.cell? ⟨r, 3, none⟩ = some (.int .i64 (200 - (t.used : Int))) := by
  obtain ⟨Nf, Nr, h⟩ := h
  obtain ⟨tv, pv, ys, h⟩ := h.ref
  obtain ⟨a, c, e⟩ := h.typed.len
  obtain ⟨a', c', e'⟩ := h.slice
  exact ⟨⟨a, c, by rw [h.c1, e]⟩, ⟨a', c', by rw [h.c2, e', h.len]⟩, h.c3⟩
theorem BothAt.drewN (h : BothAt w0 w f r s t X) (n : Nat) : BothAt w0 (w.drewN n) f r s t X := h.grow (Keep.same _ _ n)
end
/-- A region that draws its order: from operation k on all are quiet, and all before have come up. -/
theorem wpAny_tail {P : Program} {md : Region.Mode} {ops : Array Oper} {listed : Array Bool} {Q : Exit → Act → World → Prop} {a : Act} {w : World} (k : Nat) (C : World → Prop) (hs : Region.noSelect ops = true)
    (hB : Region.lexFrom md ops (ops.toList.drop k).length k listed = true) (hC : C w) (h : wpQuiet P ops C (fun a' => ∀ w', C w' → Q .normal a' w') (ops.toList.drop k) a) : wpAny P md ops Q (ops.toList.drop k).length listed a w :=
  wpAny_of_quiet (Q := fun a' => ∀ w', C w' → Q .normal a' w') (fun _ w' hw' h => h w' hw') _ _ _ _ hC (wpAnyQ_lex hs (ops.toList.drop k) k listed a (by simp) hB h)
def PlRel (w0 : World) (f r n : Nat) (i : Value) (wr : World) : Prop := ∃ (j : Nat) (s : St), i = .int .i64 j ∧ j ≤ n ∧ BothAt w0 wr f r s s (fun _ => none)
set_option maxRecDepth 100000 in
set_option maxHeartbeats 2000000 in
theorem feedPlays_walk (room : Int) (x : Value) (ops : List OpL) (w : World) (hx : OpsB w x ops) : Calls Try.prog 5 #[.int .i64 room, x] w fun e w' => e = .returned (.bool true) ∧ Below w.heap.size w w' := by
  have HX := Lib.hid hx
  obtain ⟨a, c, rfl, hc, hlc, -⟩ := hx
  obtain ⟨n, hn⟩ : ∃ n, ops.length = n := ⟨_, rfl⟩
  rw [hn] at hlc HX ⊢
  have HN := Lib.hid hn
  clear hn
  unfold maxLen at hc
  go_enter Try.func5, Try.ntmps5
  go_wp2_with fail
  refine (new_calls room _).mono ?_
  rintro e w1 ⟨f, rfl, hf, hk⟩
  have HF := Lib.hid hf
  have HK := Lib.hid hk
  have HR := Lib.hid (rnew_calls room w1 w.heap.size hk.size)
  clear hf hk
  go_wp2_with fail
  refine HR.out.mono ?_
  rintro e w2 ⟨r, rfl, hr, hk2⟩
  have h0 : PlRel w f r n (.int .i64 0) w2 := by
    have h1 := HK.out.size
    have h2 := hk2.size
    have hb : Below w.heap.size w w2 := (HK.out.below (B := w.heap.size) (fun _ h => h) (Nat.le_refl _)).trans (hk2.below (B := w.heap.size) (fun k h => by omega) h1)
    refine ⟨0, ⟨(min (max room 1) 1000).toNat, [], [], 0⟩, rfl, Nat.zero_le _, fun k => w.heap.size ≤ k ∧ k < w1.heap.size, fun k => w1.heap.size ≤ k ∧ k < w2.heap.size, ?_⟩
    exact {
      bel := hb
      feed := HF.out.lt.keep fun k hk hl => hk2.block k hl (by omega)
      ref := by obtain ⟨tv, pv, ys, h⟩ := hr; exact ⟨tv, pv, ys, h.to (fun k hk hl => ⟨hk, hl⟩) (fun k hk => by omega)⟩
      fB := fun k hk => ⟨hk.1, by omega⟩
      rB := fun k hk => ⟨by omega, hk.2, by omega⟩
      sok := St.new_ok _
      tok := St.new_ok _
      xs := fun k o e => by cases e
      few := ⟨by simp, by show (min (max room 1) 1000).toNat ≤ 1000; omega, by simp, by show (min (max room 1) 1000).toNat ≤ 1000; omega⟩ }
  have H0 := Lib.hid h0
  clear h0 hr hk2
  go_wp2_with fail
  go_loopw [15] (fun i wr => PlRel w f r n i wr) (fun i _ => n - (intOf i).toNat)
  case atStart => exact H0.out
  case round =>
    obtain ⟨j, s, rfl, hj, hb⟩ := hrel
    have HB := Lib.hid hb
    clear hb
    by_cases hjn : j < n
    · have hbel := HB.out.below
      obtain ⟨a', c', e, -, -, hop⟩ := HX.out
      obtain ⟨b, off, e2, hop2⟩ := hop j (by rw [HN.out]; exact hjn)
      clear hop
      obtain ⟨rfl, -⟩ : a = a' ∧ c = c' := by simp at e; exact ⟨e.1, e.2.2⟩
      subst e2
      have HO := Lib.hid hop2
      have hblt : b < w.heap.size := World.block_lt_of_cell? _ _ HO.out.c0
      have hcb : ∀ x, wr.cell? ⟨b, x, none⟩ = w.cell? ⟨b, x, none⟩ := fun x => hbel.cell (p := ⟨b, x, none⟩) hblt
      have c0 := (hcb _).trans HO.out.c0
      have c1 := (hcb _).trans HO.out.c1
      have c2 := (hcb _).trans HO.out.c2
      obtain ⟨y, c3, hy⟩ := HO.out.c3
      have c3 := (hcb _).trans c3
      have hy2 := hy.keep fun k hk _ => hbel.block k hk
      have HR2 := Lib.hid HO.out.r2
      clear hop2 e hcb HO hbel
      generalize ops.getD j default = o at *
      obtain ⟨ya, m, yc, rfl⟩ : ∃ a m c, y = .slice a m c := by obtain ⟨a, c, e, -⟩ := hy; exact ⟨_, _, _, e⟩
      have HS := Lib.hid (step_calls w ((wr.alloc (.cells #[.int .i64 o.kind, .int .i64 o.k, .int .i64 o.n, .slice ya m yc] 35)).drew) f r s _ o ya m yc ((HB.out.grow (Keep.alloc wr _)).grow (Keep.same _ _ 1)) (hy2.keep fun k hk hl => Below.heap_alloc _ _ _ hl) HR2.out)
      clear hy hy2
      have HW := Lib.hid ((HB.out.below).alloc HB.out.size (.cells #[.int .i64 o.kind, .int .i64 o.k, .int .i64 o.n, .slice ya m yc] 35))
      by_cases hj40 : 40 ≤ j
      · go_wp2_with fail
        refine (awake_calls _).mono ?_
        rintro e w3 ⟨rfl, hb3⟩
        go_wp2_with fail
        go_ret
        exact ⟨rfl, HW.out.trans (hb3.mono HW.out.size)⟩
      · go_wp2_with fail
        clear c0 c1 c2 c3
        have hW8 : (wr.alloc (.cells #[.int .i64 o.kind, .int .i64 o.k, .int .i64 o.n, .slice ya m yc] 35)).cell? ⟨wr.heap.size, 0, none⟩ = some (.int .i64 o.kind) := (World.cell?_alloc_at _ _ _ _ rfl).trans rfl
        refine wp_region_any (by kernel_rfl) ?_
        change wpAny _ _ _ _ _ _ _ (World.drew _)
        refine wpAny_take (i := 0) (v := fp f) rfl (by kernel_rfl) (by kernel_rfl) (by kernel_rfl) (fun _ _ _ h => h) (Or.inl ⟨by rfl, fun wz => by go_simp⟩) ?_
        refine wpAny_take (i := 1) (v := fp r) rfl (by kernel_rfl) (by kernel_rfl) (by kernel_rfl) (fun _ _ _ h => h) (Or.inl ⟨by rfl, fun wz => by go_simp⟩) ?_
        refine wpAny_ready (rs := [2]) (by kernel_rfl) (by simp) ?_
        refine AllReady.cons rfl (fun K hK => ?_) AllReady.nil
        go_simp
        refine hK _ _ ?_
        clear hK K
        refine wpAny_ready (rs := [3]) (by kernel_rfl) (by simp) ?_
        refine AllReady.cons rfl (fun K hK => ?_) AllReady.nil
        go_simp
        refine HS.out.mono ?_
        rintro e w3 ⟨rfl, s3, h3⟩
        go_simp
        refine hK _ _ ?_
        clear hK K HS
        obtain ⟨q1, q2, q3⟩ := h3.rcells
        have H3 := Lib.hid h3
        clear h3
        obtain ⟨qa1, qc1, q1⟩ := q1
        obtain ⟨qa2, qc2, q2⟩ := q2
        refine wpAny_tail (k := 4) (C := fun w' => ∃ n, w' = w3.drewN n) (by kernel_rfl) (by kernel_rfl) ⟨0, rfl⟩ ?_
        simp only [List.drop_succ_cons, List.drop_zero]
        repeat (quiet_step (first
          | (go_at_call 15; exact Calls.quiet_of_same ((H3.out.drewN _).waits.mono fun _ _ h => ⟨h.1, h.2.symm⟩))
          | (go_at_call 11; exact Calls.quiet_of_same ((H3.out.drewN _).packs.mono fun _ _ h => ⟨h.1, h.2.symm⟩))
          | (go_at_call 18; exact Calls.quiet_of_same ((H3.out.drewN _).fuel.mono fun _ _ h => ⟨h.1, h.2.symm⟩))))
        refine wpQuiet_nil ?_
        intro _ hw'
        obtain ⟨nq, rfl⟩ := hw'
        clear q1 q2 q3 hW8
        go_wp2_with fail
        go_roundw
        · exact ⟨j + 1, s3, by go_num, by omega, H3.out.drewN nq⟩
        · simp [intOf]; omega
    · go_wp2_with fail
      refine (awake_calls _).mono ?_
      rintro e w3 ⟨rfl, hb3⟩
      go_wp2_with fail
      go_ret
      exact ⟨rfl, HB.out.below.trans (hb3.mono HB.out.size)⟩
end Go.Proofs.Ythfdoififonflaa
