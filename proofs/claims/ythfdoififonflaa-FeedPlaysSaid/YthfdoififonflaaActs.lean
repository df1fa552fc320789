/- The contracts of a feed's methods over its state: each is one step of a plain function on states. -/
import Derived.Test.YthfdoififonflaaState
set_option linter.unusedSimpArgs false
set_option linter.unusedVariables false
namespace Go.Proofs.Ythfdoififonflaa
open Go.RowKit Go.Conc Go.Proofs.Ythfdoififonflaa.Ch
def St.type (st : St) (k : Int) : Bool × St := if st.typed.length < st.room then (true, { st with typed := st.typed ++ [k] }) else (false, st)
def St.push (st : St) (l : List Int) : Int × St :=
  if 100 < l.length then (7, st) else if l.length = 0 then (0, st) else if 8 ≤ st.packs.length then (6, st) else (0, { st with packs := st.packs ++ [l] })
def St.next (st : St) : (Int × Bool × Int) × St :=
  match st.packs.getLast? with
  | none => match st.typed with
    | [] => ((0, false, 4), st)
    | k :: l => ((k, false, 0), { st with typed := l, used := 0 })
  | some top =>
    if 200 ≤ st.used then ((0, false, 12), { st with packs := [] })
    else ((top.headD 0, true, 0), { st with packs := if top.tail = [] then st.packs.dropLast else st.packs.dropLast ++ [top.tail], used := st.used + 1 })
abbrev fp (f : Nat) : Value := .pointer (some ⟨f, 0, none⟩)
section
variable {w : World} {N : Nat → Prop} {f : Nat} {st : St}
theorem new_calls (n : Int) (w : World) : Calls Try.prog 7 #[.int .i64 n] w fun e w' => ∃ f, e = .returned (fp f) ∧ FeedAt w' (fun k => w.heap.size ≤ k) f ⟨(min (max n 1) 1000).toNat, [], [], 0⟩ ∧ Keep (fun k => w.heap.size ≤ k) w w' := by
  refine (new_walk n w).mono ?_
  rintro e w' ⟨rfl, rfl⟩
  have hs : (w.alloc (chanOf (min (max n 1) 1000).toNat [] false 0 0)).heap.size = w.heap.size + 1 := by simp
  have hT := (Below.heap_alloc (w.alloc (chanOf (min (max n 1) 1000).toNat [] false 0 0)) (.cells #[.chan (some w.heap.size), .slice none 0 0, .int .i64 0] 49) w.heap.size (by omega)).trans (heap_alloc_new w _)
  have hF := heap_alloc_new (w.alloc (chanOf (min (max n 1) 1000).toNat [] false 0 0)) (.cells #[.chan (some w.heap.size), .slice none 0 0, .int .i64 0] 49)
  rw [hs] at hF
  refine ⟨w.heap.size + 1, rfl, ⟨w.heap.size, .slice none 0 0, [], ?_⟩, ⟨rfl, rfl, rfl, by simp; omega, fun k hk _ => (Below.heap_alloc _ _ k (by omega)).trans (Below.heap_alloc _ _ k hk)⟩⟩
  exact { cell := hF, typed := ⟨0, 0, hT⟩, row := World.ownsRow_nil _ _ _ _, len := rfl, packs := fun i hi => by simp at hi, nodup := fun i j hi => by simp at hi, nf := by omega, nT := Nat.le_refl _, nv := fun k hk => by simp [Value.ownBlock] at hk, ncs := fun i hi => by simp at hi }
theorem FeedIn.ne {T : Nat} {v : Value} {cs : List Nat} (h : FeedIn w N f T v cs st) : T ≠ f := by
  rintro rfl; obtain ⟨s, r, e⟩ := h.typed; rw [h.cell] at e; cases e
theorem FeedIn.cne {T : Nat} {v : Value} {cs : List Nat} (h : FeedIn w N f T v cs st) {i : Nat} (hi : i < cs.length) : cs.getD i 0 ≠ f ∧ cs.getD i 0 ≠ T := by
  obtain ⟨cap, s, r, e⟩ := h.packs i hi
  constructor
  · intro e'; rw [e', h.cell] at e; cases e
  · intro e'; obtain ⟨s', r', e2⟩ := h.typed; rw [e', e2] at e; simp [chanOf] at e
theorem FeedIn.vT {T : Nat} {v : Value} {cs : List Nat} (h : FeedIn w N f T v cs st) : ∀ k, v.ownBlock = some k → k ≠ T ∧ ∀ i, i < cs.length → k ≠ cs.getD i 0 := by
  intro k hk
  rcases h.row.2 with ⟨rfl, _⟩ | ⟨g, cap, cur, rfl, hb, hgg, rest⟩
  · simp [Value.ownBlock] at hk
  · obtain rfl : g = k := by simpa [Value.ownBlock] using hk
    constructor
    · rintro rfl; obtain ⟨s, r, e⟩ := h.typed; rw [hgg] at e; cases e
    · rintro i hi rfl; obtain ⟨cap, s, r, e⟩ := h.packs i hi; rw [hgg] at e; cases e
theorem type_calls (h : FeedAt w N f st) (k : Int) : Calls Try.prog 8 #[fp f, .int .i64 k] w fun e w' => e = .returned (.bool (st.type k).1) ∧ FeedAt w' N f (st.type k).2 ∧ Keep N w w' := by
  obtain ⟨T, v, cs, h⟩ := h
  obtain ⟨s, r, hT⟩ := h.typed
  by_cases hr : st.typed.length < st.room
  · refine (type_room f T st.room s r st.typed k w h.c0 hT hr).mono ?_
    rintro e w' ⟨rfl, rfl⟩
    have e1 : st.type k = (true, { st with typed := st.typed ++ [k] }) := by simp [St.type, hr]
    rw [e1]
    refine ⟨rfl, ⟨T, v, cs, ?_⟩, Keep.setChan w h.nT _ _ _ _ _⟩
    have hne := h.ne
    exact { h with
      cell := (setChan_heap_ne _ _ _ _ _ _ _ _ hne).trans h.cell
      typed := ⟨s + 1, r, setChan_heap _ _ _ _ _ _ _ (by rw [hT]; rfl)⟩
      row := ownsRow_of h.row fun k hk => setChan_heap_ne _ _ _ _ _ _ _ _ ((h.vT k hk).1.symm)
      packs := fun i hi => by obtain ⟨cap, hc⟩ := h.packs i hi; exact ⟨cap, hc.of (setChan_heap_ne _ _ _ _ _ _ _ _ (h.cne hi).2.symm)⟩ }
  · refine (type_full f T st.room s r st.typed k w h.c0 hT (by omega)).mono ?_
    rintro e w' ⟨rfl, rfl⟩
    have e1 : st.type k = (false, st) := by simp [St.type, hr]
    rw [e1]
    exact ⟨rfl, ⟨T, v, cs, h⟩, Keep.refl _ _⟩
theorem packs_calls (h : FeedAt w N f st) : Calls Try.prog 11 #[fp f] w fun e w' => e = .returned (.int .i64 st.packs.length) ∧ w = w' := by
  obtain ⟨T, v, cs, h⟩ := h
  obtain ⟨a, p, rfl⟩ := h.slice
  have := packs_walk f cs.length p a w h.c1
  rw [h.len] at this
  exact this
theorem waits_calls (h : FeedAt w N f st) : Calls Try.prog 15 #[fp f] w fun e w' => e = .returned (.int .i64 st.typed.length) ∧ w = w' := by
  obtain ⟨T, v, cs, h⟩ := h
  obtain ⟨s, r, hT⟩ := h.typed
  exact waits_walk f T _ s r st.typed w h.c0 hT
theorem fuel_calls (h : FeedAt w N f st) (hu : st.used ≤ 200) : Calls Try.prog 18 #[fp f] w fun e w' => e = .returned (.int .i64 (200 - (st.used : Int))) ∧ w = w' := by
  obtain ⟨T, v, cs, h⟩ := h
  exact fuel_walk f st.used w h.c2 hu
end
end Go.Proofs.Ythfdoififonflaa
