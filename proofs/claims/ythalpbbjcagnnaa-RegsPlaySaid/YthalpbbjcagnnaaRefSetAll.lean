/- Walk: the document's Set, whatever is set: as setR says. -/
import Derived.Test.YthalpbbjcagnnaaRefJoin
set_option linter.unusedSimpArgs false
set_option linter.unusedVariables false
namespace Go.Proofs.Ythalpbbjcagnnaa
open Go.RowKit
theorem refSet_calls (w : World) (N : Nat → Prop) (r : Nat) (R : RegsT) (x k : Int) (y : Value) (Y : Txt) (h : RefIn w N r R) (hok : RegsOk R) (hy : TxtAt w (fun b => N b ∧ b ≠ r) y Y) (hs : Small Y) :
    Calls Try.prog 29 #[.pointer (some ⟨r, 0, none⟩), .int .i64 x, .agg #[.int .i64 k, y]] w fun e w' => e = .returned (.int .i64 (setR R x k Y).1) ∧ RefIn w' (fun b => N b ∨ w.heap.size ≤ b) r (setR R x k Y).2 ∧ KeepR r w w' := by
  have hbel : ∀ {w' : World}, Below w.heap.size w w' → RefIn w' (fun b => N b ∨ w.heap.size ≤ b) r R ∧ KeepR r w w' := fun hb =>
    ⟨(h.below hb).keep fun b hb _ => ⟨.inl hb, rfl⟩, KeepR.of hb⟩
  have hnil : Y.length = 0 ↔ Y = [] := by simp
  have hsz := hs.size
  have hlen := hs.len
  rcases letR_idx x with ⟨hidx, hl⟩ | ⟨i, g, hi, hidx, hl, hx0, hg⟩
  · have hnew : newTxt R x k Y = Y := by simp only [newTxt, hidx]
    unfold setR
    rw [hnew, hidx]
    by_cases hb : ((none : Option (Nat × Bool)) = none ∧ x ≠ 0) ∨ k < 0 ∨ 2 < k ∨ Y = []
    · rw [if_pos hb]
      refine (refSet_arg w _ r x k y Y hy (by rw [hnil]; exact hb.imp (fun h => ⟨hl, h.2⟩) id) (.inl hl)).mono fun e w' he => ⟨he.1, hbel he.2⟩
    · rw [if_neg hb]
      have hx0 : x = 0 := Decidable.byContradiction fun h => hb (.inl ⟨rfl, h⟩)
      subst hx0
      have hY : 0 < Y.length := Nat.pos_of_ne_zero fun h => hb (.inr (.inr (.inr (hnil.1 h))))
      have hk0 : 0 ≤ k := Int.not_lt.1 fun h => hb (.inr (.inl h))
      have hk2 : k ≤ 2 := Int.not_lt.1 fun h => hb (.inr (.inr (.inl h)))
      by_cases hf : 4096 < sizeL Y
      · rw [if_pos (.inl hf)]
        exact (refSet_last_full w N r R k y Y h hy hk0 hk2 hY hf (by omega)).mono fun e w' he => ⟨he.1, hbel he.2⟩
      · rw [if_neg (by omega)]
        exact refSet_last_ok w N r R k y Y h hy hk0 hk2 hY (by omega) (by omega) (by omega)
  · unfold setR
    rw [hidx]
    by_cases hb : k < 0 ∨ 2 < k ∨ Y = []
    · rw [if_pos (.inr hb)]
      refine (refSet_arg w _ r x k y Y hy (.inr (by rw [hnil]; exact hb)) (.inr ⟨i, hl⟩)).mono fun e w' he => ⟨he.1, hbel he.2⟩
    · rw [if_neg (fun h => h.elim (fun h => by simp at h) hb)]
      have hY : 0 < Y.length := Nat.pos_of_ne_zero fun h => hb (.inr (.inr (hnil.1 h)))
      have hk0 : 0 ≤ k := by omega
      have hk2 : k ≤ 2 := by omega
      have plain : ∀ (hnew : newTxt R x k Y = Y) (full : 4096 < sizeL Y → Calls Try.prog 29 #[.pointer (some ⟨r, 0, none⟩), .int .i64 x, .agg #[.int .i64 k, y]] w fun e w' => e = .returned (.int .i64 6) ∧ Below w.heap.size w w')
          (ok : sizeL Y ≤ 4096 → Y.length ≤ 400 → Calls Try.prog 29 #[.pointer (some ⟨r, 0, none⟩), .int .i64 x, .agg #[.int .i64 k, y]] w fun e w' => e = .returned (.int .i64 0) ∧ RefIn w' (fun b => N b ∨ w.heap.size ≤ b) r (putR (putR R i (k, Y)) 26 (k, Y)) ∧ KeepR r w w'),
          Calls Try.prog 29 #[.pointer (some ⟨r, 0, none⟩), .int .i64 x, .agg #[.int .i64 k, y]] w fun e w' => e = .returned (.int .i64 (if 4096 < sizeL (newTxt R x k Y) ∨ 400 < (newTxt R x k Y).length then ((6 : Int), R) else (0, putR (putR R i (k, newTxt R x k Y)) 26 (k, newTxt R x k Y))).1) ∧ RefIn w' (fun b => N b ∨ w.heap.size ≤ b) r (if 4096 < sizeL (newTxt R x k Y) ∨ 400 < (newTxt R x k Y).length then ((6 : Int), R) else (0, putR (putR R i (k, newTxt R x k Y)) 26 (k, newTxt R x k Y))).2 ∧ KeepR r w w' := by
        intro hnew full ok
        rw [hnew]
        by_cases hf : 4096 < sizeL Y
        · rw [if_pos (.inl hf)]
          exact (full hf).mono fun e w' he => ⟨he.1, hbel he.2⟩
        · rw [if_neg (by omega)]
          exact ok (by omega) (by omega)
      cases g with
      | false =>
        have hg97 : 97 ≤ x := Int.not_lt.1 fun h => by have := hg.2 h; cases this
        exact plain (by simp only [newTxt, hidx]) (fun hf => refSet_low_full w N r x i hi hl R k y Y h hy hk0 hk2 hY hf (by omega) hg97)
          (fun h1 h2 => refSet_low_ok w N r x i hi hl R k y Y h hy hk0 hk2 hY h1 h2 (by omega) hg97)
      | true =>
        have hg97 : x < 97 := hg.1 rfl
        have hnew0 : newTxt R x k Y = joinL (R i).1 (R i).2 k Y := by simp only [newTxt, hidx]
        by_cases hkk : (R i).1 = k
        · by_cases hk2' : k = 2
          · exact plain (by rw [hnew0, joinL, if_pos (.inr (.inr (hkk.trans hk2')))]) (fun hf => refSet_cols_full w N r x i hi hl R k y Y h hy hk0 hk2 hY hf (by omega) hg97 hkk hk2')
              (fun h1 h2 => refSet_cols_ok w N r x i hi hl R k y Y h hy hk0 hk2 hY h1 h2 (by omega) hg97 hkk hk2')
          · have hnew : newTxt R x k Y = (R i).2 ++ Y := by
              rw [hnew0, joinL]
              split
              · rename_i hc
                rcases hc with hc | hc | hc
                · rw [hc]; rfl
                · exact absurd hkk hc
                · exact absurd (hkk.symm.trans hc) hk2'
              · rfl
            obtain ⟨o1, o2, o3⟩ := hok i
            have hS2 : sizeL ((R i).2 ++ Y) ≤ 1000000 := by rw [sizeL_append]; omega
            rw [hnew]
            by_cases hf : 4096 < sizeL ((R i).2 ++ Y) ∨ 400 < ((R i).2 ++ Y).length
            · rw [if_pos hf]
              exact (refSet_join_full w N r x i hi hl R k y Y h hy hk0 hk2 hY hf hS2 hg97 hkk (by omega) o2 (by omega)).mono fun e w' he => ⟨he.1, hbel he.2⟩
            · rw [if_neg hf]
              exact refSet_join_ok w N r x i hi hl R k y Y h hy hk0 hk2 hY (by omega) (by omega) hS2 hg97 hkk (by omega) o2 (by omega)
        · exact plain (by rw [hnew0, joinL, if_pos (.inr (.inl hkk))]) (fun hf => refSet_kind_full w N r x i hi hl R k y Y h hy hk0 hk2 hY hf (by omega) hg97 hkk)
            (fun h1 h2 => refSet_kind_ok w N r x i hi hl R k y Y h hy hk0 hk2 hY h1 h2 (by omega) hg97 hkk)
end Go.Proofs.Ythalpbbjcagnnaa
