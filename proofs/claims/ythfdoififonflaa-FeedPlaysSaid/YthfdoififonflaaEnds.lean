/- FeedEnds: between two typed keys never more than 200 pushed ones come, whatever is pushed again: the walk. -/
import Derived.Test.YthfdoififonflaaAwake
import Derived.LoopTactic
import Derived.Deep.LoopGhost
set_option linter.unusedSimpArgs false
set_option linter.unusedVariables false
namespace Go.Proofs.Ythfdoififonflaa
open Go.RowKit Go.Conc Go.Proofs.Ythfdoififonflaa.Ch
theorem IntsAt.below {w w' : World} {x : Value} {l : List Int} (h : IntsAt w x l) (hb : Below w.heap.size w w') : IntsAt w' x l := by
  obtain ⟨a, c, rfl, h⟩ := h
  refine ⟨a, c, rfl, fun i hi => ?_⟩
  obtain ⟨b, off, rfl, hc⟩ := h i hi
  exact ⟨b, off, rfl, (hb.cell (p := ⟨b, off + i, none⟩) (World.block_lt_of_cell? _ _ hc)).trans hc⟩
def EndsRel (w : World) (f : Nat) (n i : Value) (wr : World) : Prop :=
  ∃ (j : Nat) (st : St), n = .int .i64 j ∧ i = .int .i64 j ∧ j ≤ 200 ∧ st.used = j ∧ st.typed = [2] ∧ st.ok ∧ FeedAt wr (fun k => w.heap.size ≤ k) f st ∧ Below w.heap.size w wr
theorem st_push_used (st : St) (l : List Int) : (st.push l).2.used = st.used ∧ (st.push l).2.typed = st.typed := by
  unfold St.push; split
  · exact ⟨rfl, rfl⟩
  · split
    · exact ⟨rfl, rfl⟩
    · split <;> exact ⟨rfl, rfl⟩
/-- What Next does, where one key typed waits. -/
theorem st_next_cases (st : St) (h : st.ok) (ht : st.typed = [2]) :
    st.next = ((2, false, 0), { st with typed := [], used := 0 }) ∨ (st.used = 200 ∧ st.next = ((0, false, 12), { st with packs := [] })) ∨
    (st.used < 200 ∧ ∃ k, st.next.1 = (k, true, 0) ∧ st.next.2.used = st.used + 1 ∧ st.next.2.typed = [2]) := by
  rcases hp : st.packs.getLast? with _ | top
  · left; simp only [St.next, hp, ht]
  · by_cases hu : 200 ≤ st.used
    · refine .inr (.inl ⟨by have := h.used; omega, ?_⟩)
      simp only [St.next, hp]; rw [if_pos hu]
    · refine .inr (.inr ⟨by omega, top.headD 0, ?_⟩)
      simp only [St.next, hp]; rw [if_neg hu]; exact ⟨rfl, rfl, ht⟩
set_option maxRecDepth 100000 in
theorem feedEnds_walk (a : Option Addr) (n c : Nat) (l : List Int) (u : Int) (w : World) (hu : 0 ≤ u) (hu2 : u ≤ 255) (hn : n ≤ 100) (hl : IntsAt w (.slice a n c) l) :
    Calls Try.prog 3 #[.slice a n c, .int .u8 u] w fun e w' => e = .returned (.bool true) ∧ Below w.heap.size w w' := by
  have HL := Lib.hid hl
  clear hl
  go_enter Try.func3, Try.ntmps3
  go_wp2_with fail
  refine (new_calls 2 _).mono ?_
  rintro e w1 ⟨f, rfl, hf, hk⟩
  have b1 := hk.below (B := w.heap.size) (fun _ h => h) (Nat.le_refl _)
  have h1 : Calls Try.prog 8 #[fp f, .int .i64 1] w1 fun e w' => e = .returned (.bool true) ∧ FeedAt w' (fun k => w.heap.size ≤ k) f ⟨2, [1], [], 0⟩ ∧ Keep (fun k => w.heap.size ≤ k) w1 w' := type_calls hf 1
  have B1 := Lib.hid b1
  clear hf hk b1
  go_wp2_with fail
  refine h1.mono ?_
  rintro e w2 ⟨rfl, hf, hk⟩
  clear h1
  have B2 := Lib.hid (B1.out.trans (hk.below (B := w.heap.size) (fun _ h => h) B1.out.size))
  have h2 : Calls Try.prog 8 #[fp f, .int .i64 2] w2 fun e w' => e = .returned (.bool true) ∧ FeedAt w' (fun k => w.heap.size ≤ k) f ⟨2, [1, 2], [], 0⟩ ∧ Keep (fun k => w.heap.size ≤ k) w2 w' := type_calls hf 2
  clear hf hk
  go_wp2_with fail
  refine h2.mono ?_
  rintro e w3 ⟨rfl, hf, hk⟩
  clear h2
  have B3 := Lib.hid (B2.out.trans (hk.below (B := w.heap.size) (fun _ h => h) B2.out.size))
  have h3 : Calls Try.prog 9 #[fp f] w3 fun e w' => e = .returned (.tuple #[.int .i64 1, .bool false, .int .i64 0]) ∧ FeedAt w' (fun k => w.heap.size ≤ k) f ⟨2, [2], [], 0⟩ ∧ Keep (fun k => w.heap.size ≤ k) w3 w' := next_calls hf ⟨by decide, by decide, by decide⟩
  clear hf hk
  go_wp2_with fail
  refine h3.mono ?_
  rintro e w4 ⟨rfl, hf, hk⟩
  clear h3
  have B4 := Lib.hid (B3.out.trans (hk.below (B := w.heap.size) (fun _ h => h) B3.out.size))
  have h4 := push_calls hf (HL.out.below B4.out)
  have HF := Lib.hid hf
  clear hf hk
  have H4 := Lib.hid h4
  clear h4
  go_wp2_with fail
  refine H4.out.mono ?_
  rintro e w5 ⟨rfl, hf, hk⟩
  have B5 := Lib.hid (B4.out.trans (hk.below (B := w.heap.size) (fun _ h => h) B4.out.size))
  have hr : ∀ v, v = Value.int .i64 0 → EndsRel w f v v w5 := by
    rintro v rfl
    have := st_push_used ⟨2, [2], [], 0⟩ l
    exact ⟨0, _, rfl, rfl, by omega, this.1, this.2, St.push_ok ⟨by decide, by decide, by decide⟩ l, hf.mono (by rintro k (h | h); exact h; have := B4.out.size; omega), B5.out⟩
  have HR := Lib.hid (hr _ rfl)
  clear hf hk hr
  go_wp2_with fail
  go_loopw [9, 10] (fun n i wr => EndsRel w f n i wr) (fun _ i _ => 1000 - (intOf i).toNat)
  case atStart => exact HR.out
  case round =>
    obtain ⟨j, st, rfl, rfl, hj, hju, hjt, hjk, hjf, hjb⟩ := hrel
    have BJ := Lib.hid hjb
    have hju' := Lib.hid hju
    rcases st_next_cases st hjk hjt with e | ⟨e0, e⟩ | ⟨e0, k, e, eu, et⟩
    · have hc := next_calls hjf hjk
      rw [e] at hc
      have HC := Lib.hid hc
      clear hc e hjf hju hjb hjt hjk
      go_wp2_with fail
      refine HC.out.mono ?_
      rintro e w6 ⟨rfl, hf, hk⟩
      have b6 := BJ.out.trans (hk.below (B := w.heap.size) (fun _ h => h) BJ.out.size)
      have B6 := Lib.hid b6
      clear hf hk b6
      simp only [tup]
      go_wp2_with (go_at_call 12; refine (awake_calls _).mono ?_; rintro e w7 ⟨rfl, hb7⟩)
      go_ret
      exact ⟨rfl, B6.out.trans (hb7.mono B6.out.size)⟩
    · have hc := next_calls hjf hjk
      rw [e] at hc
      have HC := Lib.hid hc
      have h200 : ((j : Int) == 200) = true := by rw [beq_iff_eq]; omega
      clear hc e hjf hju hjb hjt hjk e0
      go_wp2_with fail
      refine HC.out.mono ?_
      rintro e w6 ⟨rfl, hf, hk⟩
      have b6 := BJ.out.trans (hk.below (B := w.heap.size) (fun _ h => h) BJ.out.size)
      have B6 := Lib.hid b6
      have hp : Calls Try.prog 11 #[fp f] w6 fun e w' => e = .returned (.int .i64 0) ∧ w6 = w' := packs_calls hf
      have HP := Lib.hid hp
      clear hf hk b6 hp
      simp only [tup]
      go_wp2_with (first | (go_at_call 11; refine HP.out.mono ?_; rintro e w7 ⟨rfl, rfl⟩) | (go_at_call 12; refine (awake_calls _).mono ?_; rintro e w7 ⟨rfl, hb7⟩))
      go_ret
      exact ⟨rfl, B6.out.trans (hb7.mono B6.out.size)⟩
    · have hc := next_calls hjf hjk
      rw [e] at hc
      have HC := Lib.hid hc
      have HN := Lib.hid (st.next_ok hjk)
      have EU := Lib.hid eu
      have ET := Lib.hid et
      clear hc e hjf hju hjb hjt hjk eu et
      have hjl : j < 200 := by have := hju'.out; omega
      go_wp2_with fail
      refine HC.out.mono ?_
      rintro e w6 ⟨rfl, hf, hk⟩
      have b6 := BJ.out.trans (hk.below (B := w.heap.size) (fun _ h => h) BJ.out.size)
      have B6 := Lib.hid b6
      have HF := Lib.hid hf
      clear hf hk b6
      simp only [tup]
      go_wp2_with fail
      · refine (push_calls HF.out (HL.out.below B6.out)).mono ?_
        rintro e w7 ⟨rfl, hf, hk⟩
        have fin : EndsRel w f (.int .i64 ((j : Int) + 1)) (.int .i64 ((j : Int) + 1)) w7 := by
          have hp := st_push_used st.next.2 l
          exact ⟨j + 1, _, rfl, rfl, by omega, by rw [hp.1, EU.out, hju'.out], hp.2.trans ET.out, St.push_ok HN.out l, hf.mono (by rintro k (h | h); exact h; have := B6.out.size; omega), B6.out.trans (hk.below (B := w.heap.size) (fun _ h => h) B6.out.size)⟩
        clear hf hk
        go_wp2_with fail
        go_roundw
        case rel => exact fin
        case measure => simp [intOf]; omega
      · have fin : EndsRel w f (.int .i64 ((j : Int) + 1)) (.int .i64 ((j : Int) + 1)) w6 :=
          ⟨j + 1, _, rfl, rfl, by omega, by rw [EU.out, hju'.out], ET.out, HN.out, HF.out, B6.out⟩
        go_roundw
        case rel => exact fin
        case measure => simp [intOf]; omega
set_option maxRecDepth 100000 in
theorem feedEnds_long (a : Option Addr) (n c : Nat) (l : List Int) (u : Int) (w : World) (hu : 0 ≤ u) (hu2 : u ≤ 255) (hn : 100 < n) (hnc : 100 ≤ c) (hl : IntsAt w (.slice a 100 c) l) :
    Calls Try.prog 3 #[.slice a n c, .int .u8 u] w fun e w' => e = .returned (.bool true) ∧ Below w.heap.size w w' := by
  have HL := Lib.hid hl
  clear hl
  go_enter Try.func3, Try.ntmps3
  go_wp2_with fail
  refine (new_calls 2 _).mono ?_
  rintro e w1 ⟨f, rfl, hf, hk⟩
  have b1 := hk.below (B := w.heap.size) (fun _ h => h) (Nat.le_refl _)
  have h1 : Calls Try.prog 8 #[fp f, .int .i64 1] w1 fun e w' => e = .returned (.bool true) ∧ FeedAt w' (fun k => w.heap.size ≤ k) f ⟨2, [1], [], 0⟩ ∧ Keep (fun k => w.heap.size ≤ k) w1 w' := type_calls hf 1
  have B1 := Lib.hid b1
  clear hf hk b1
  go_wp2_with fail
  refine h1.mono ?_
  rintro e w2 ⟨rfl, hf, hk⟩
  clear h1
  have B2 := Lib.hid (B1.out.trans (hk.below (B := w.heap.size) (fun _ h => h) B1.out.size))
  have h2 : Calls Try.prog 8 #[fp f, .int .i64 2] w2 fun e w' => e = .returned (.bool true) ∧ FeedAt w' (fun k => w.heap.size ≤ k) f ⟨2, [1, 2], [], 0⟩ ∧ Keep (fun k => w.heap.size ≤ k) w2 w' := type_calls hf 2
  clear hf hk
  go_wp2_with fail
  refine h2.mono ?_
  rintro e w3 ⟨rfl, hf, hk⟩
  clear h2
  have B3 := Lib.hid (B2.out.trans (hk.below (B := w.heap.size) (fun _ h => h) B2.out.size))
  have h3 : Calls Try.prog 9 #[fp f] w3 fun e w' => e = .returned (.tuple #[.int .i64 1, .bool false, .int .i64 0]) ∧ FeedAt w' (fun k => w.heap.size ≤ k) f ⟨2, [2], [], 0⟩ ∧ Keep (fun k => w.heap.size ≤ k) w3 w' := next_calls hf ⟨by decide, by decide, by decide⟩
  clear hf hk
  go_wp2_with fail
  refine h3.mono ?_
  rintro e w4 ⟨rfl, hf, hk⟩
  clear h3
  have B4 := Lib.hid (B3.out.trans (hk.below (B := w.heap.size) (fun _ h => h) B3.out.size))
  have h4 := push_calls hf (HL.out.below B4.out)
  have HF := Lib.hid hf
  clear hf hk
  have H4 := Lib.hid h4
  clear h4
  go_wp2_with fail
  refine H4.out.mono ?_
  rintro e w5 ⟨rfl, hf, hk⟩
  have B5 := Lib.hid (B4.out.trans (hk.below (B := w.heap.size) (fun _ h => h) B4.out.size))
  have hr : ∀ v, v = Value.int .i64 0 → EndsRel w f v v w5 := by
    rintro v rfl
    have := st_push_used ⟨2, [2], [], 0⟩ l
    exact ⟨0, _, rfl, rfl, by omega, this.1, this.2, St.push_ok ⟨by decide, by decide, by decide⟩ l, hf.mono (by rintro k (h | h); exact h; have := B4.out.size; omega), B5.out⟩
  have HR := Lib.hid (hr _ rfl)
  clear hf hk hr
  go_wp2_with fail
  go_loopw [9, 10] (fun n i wr => EndsRel w f n i wr) (fun _ i _ => 1000 - (intOf i).toNat)
  case atStart => exact HR.out
  case round =>
    obtain ⟨j, st, rfl, rfl, hj, hju, hjt, hjk, hjf, hjb⟩ := hrel
    have BJ := Lib.hid hjb
    have hju' := Lib.hid hju
    rcases st_next_cases st hjk hjt with e | ⟨e0, e⟩ | ⟨e0, k, e, eu, et⟩
    · have hc := next_calls hjf hjk
      rw [e] at hc
      have HC := Lib.hid hc
      clear hc e hjf hju hjb hjt hjk
      go_wp2_with fail
      refine HC.out.mono ?_
      rintro e w6 ⟨rfl, hf, hk⟩
      have b6 := BJ.out.trans (hk.below (B := w.heap.size) (fun _ h => h) BJ.out.size)
      have B6 := Lib.hid b6
      clear hf hk b6
      simp only [tup]
      go_wp2_with (go_at_call 12; refine (awake_calls _).mono ?_; rintro e w7 ⟨rfl, hb7⟩)
      go_ret
      exact ⟨rfl, B6.out.trans (hb7.mono B6.out.size)⟩
    · have hc := next_calls hjf hjk
      rw [e] at hc
      have HC := Lib.hid hc
      have h200 : ((j : Int) == 200) = true := by rw [beq_iff_eq]; omega
      clear hc e hjf hju hjb hjt hjk e0
      go_wp2_with fail
      refine HC.out.mono ?_
      rintro e w6 ⟨rfl, hf, hk⟩
      have b6 := BJ.out.trans (hk.below (B := w.heap.size) (fun _ h => h) BJ.out.size)
      have B6 := Lib.hid b6
      have hp : Calls Try.prog 11 #[fp f] w6 fun e w' => e = .returned (.int .i64 0) ∧ w6 = w' := packs_calls hf
      have HP := Lib.hid hp
      clear hf hk b6 hp
      simp only [tup]
      go_wp2_with (first | (go_at_call 11; refine HP.out.mono ?_; rintro e w7 ⟨rfl, rfl⟩) | (go_at_call 12; refine (awake_calls _).mono ?_; rintro e w7 ⟨rfl, hb7⟩))
      go_ret
      exact ⟨rfl, B6.out.trans (hb7.mono B6.out.size)⟩
    · have hc := next_calls hjf hjk
      rw [e] at hc
      have HC := Lib.hid hc
      have HN := Lib.hid (st.next_ok hjk)
      have EU := Lib.hid eu
      have ET := Lib.hid et
      clear hc e hjf hju hjb hjt hjk eu et
      have hjl : j < 200 := by have := hju'.out; omega
      go_wp2_with fail
      refine HC.out.mono ?_
      rintro e w6 ⟨rfl, hf, hk⟩
      have b6 := BJ.out.trans (hk.below (B := w.heap.size) (fun _ h => h) BJ.out.size)
      have B6 := Lib.hid b6
      have HF := Lib.hid hf
      clear hf hk b6
      simp only [tup]
      go_wp2_with fail
      · refine (push_calls HF.out (HL.out.below B6.out)).mono ?_
        rintro e w7 ⟨rfl, hf, hk⟩
        have fin : EndsRel w f (.int .i64 ((j : Int) + 1)) (.int .i64 ((j : Int) + 1)) w7 := by
          have hp := st_push_used st.next.2 l
          exact ⟨j + 1, _, rfl, rfl, by omega, by rw [hp.1, EU.out, hju'.out], hp.2.trans ET.out, St.push_ok HN.out l, hf.mono (by rintro k (h | h); exact h; have := B6.out.size; omega), B6.out.trans (hk.below (B := w.heap.size) (fun _ h => h) B6.out.size)⟩
        clear hf hk
        go_wp2_with fail
        go_roundw
        case rel => exact fin
        case measure => simp [intOf]; omega
      · have fin : EndsRel w f (.int .i64 ((j : Int) + 1)) (.int .i64 ((j : Int) + 1)) w6 :=
          ⟨j + 1, _, rfl, rfl, by omega, by rw [EU.out, hju'.out], ET.out, HN.out, HF.out, B6.out⟩
        go_roundw
        case rel => exact fin
        case measure => simp [intOf]; omega
end Go.Proofs.Ythfdoififonflaa
