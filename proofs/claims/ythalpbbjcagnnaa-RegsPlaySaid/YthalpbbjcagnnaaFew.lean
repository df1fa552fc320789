/- Walk: Few: small texts of their own; small ones as they are. -/
import Derived.Test.YthalpbbjcagnnaaTxts
set_option linter.unusedSimpArgs false
set_option linter.unusedVariables false
namespace Go.Proofs.Ythalpbbjcagnnaa
open Go.RowKit
def bytesR (l : List ByteArray) : Nat := (l.map ByteArray.size).sum
def total (L : Txt) : Nat := (L.map bytesR).sum
theorem bytesR_snoc (l : List ByteArray) (s : ByteArray) : bytesR (l ++ [s]) = bytesR l + s.size := by simp [bytesR]
theorem total_snoc (L : Txt) (l : List ByteArray) : total (L ++ [l]) = total L + bytesR l := by simp [total]
theorem bytesR_take (l : List ByteArray) (j : Nat) (h : j < l.length) : bytesR (l.take j) + (l.getD j ByteArray.empty).size ≤ bytesR l := by
  have h1 : bytesR l = bytesR (l.take j) + bytesR (l.drop j) := by unfold bytesR; rw [← List.sum_append, ← List.map_append, List.take_append_drop]
  have h2 : bytesR (l.drop j) = l[j].size + bytesR (l.drop (j + 1)) := by rw [List.drop_eq_getElem_cons h]; simp only [bytesR, List.map_cons, List.sum_cons]
  have h3 : l.getD j ByteArray.empty = l[j] := by simp [List.getD_eq_getElem?_getD, List.getElem?_eq_getElem h]
  rw [h1, h2, h3]; omega
theorem total_take (L : Txt) (j : Nat) (h : j < L.length) : total (L.take j) + bytesR (L.getD j []) ≤ total L := by
  have h1 : total L = total (L.take j) + total (L.drop j) := by unfold total; rw [← List.sum_append, ← List.map_append, List.take_append_drop]
  have h2 : total (L.drop j) = bytesR L[j] + total (L.drop (j + 1)) := by rw [List.drop_eq_getElem_cons h]; simp only [total, List.map_cons, List.sum_cons]
  have h3 : L.getD j [] = L[j] := by simp [List.getD_eq_getElem?_getD, List.getElem?_eq_getElem h]
  rw [h1, h2, h3]; omega
def rowOk (l : List ByteArray) : Prop := l.length ≤ 45 ∧ ∀ s ∈ l, s.size ≤ 410
/-- Few texts. -/
structure Small (L : Txt) : Prop where
  len : L.length ≤ 12
  row : ∀ l ∈ L, rowOk l
  all : total L ≤ 6000
theorem takeD' {α : Type} (l : List α) (d : α) (i : Nat) (h : i < l.length) : l.take (i + 1) = l.take i ++ [l.getD i d] := by
  rw [List.take_succ_eq_append_getElem h]; simp [List.getD_eq_getElem?_getD, List.getElem?_eq_getElem h]
theorem getD_mem'' {α : Type} (l : List α) (d : α) (i : Nat) (h : i < l.length) : l.getD i d ∈ l := by
  simp [List.getD_eq_getElem?_getD, List.getElem?_eq_getElem h]
theorem own_slice {w : World} {B n e : Nat} {v : Value} {xs : List Value} (h : w.ownsRow B e 1 v n xs) : ∃ a p, v = .slice a n p := by
  rcases h.2 with ⟨rfl, h0⟩ | ⟨g, cap, cur, rfl, _⟩
  · exact ⟨none, 0, by rw [h0]⟩
  · exact ⟨_, _, rfl⟩
theorem OutAt.slice {w : World} {B : Nat} {v : Value} {L : Txt} (h : OutAt w B v L) : ∃ a p, v = .slice a L.length p := by obtain ⟨ys, h, _⟩ := h; exact own_slice h
theorem news_one (w : World) (x : Value) (t : TypeId) : ∀ j u, [x][j]? = some u → (w.alloc (.cells #[x] t)).cell? ((⟨w.heap.size, 0, none⟩ : Addr).add j) = some u := by
  intro j u hu
  match j, hu with
  | 0, hu => simp at hu; subst hu; rw [show (⟨w.heap.size, 0, none⟩ : Addr).add 0 = ⟨w.heap.size, 0, none⟩ from rfl, World.cell?_alloc_at _ _ _ _ rfl]; rfl
  | j + 1, hu => simp at hu
/-- One text more of a row. -/
theorem fewRow_step {l l' : List ByteArray} {j left left0 : Nat} {s s' : ByteArray} (hj : j < l.length) (hj45 : j < 45) (hs : l.getD j ByteArray.empty = s) (hs' : cutT (cutT s 410) left = s') (hleft : left + bytesR l' = left0) (hlen : l'.length = min j 45) (hok : ∀ s ∈ l', s.size ≤ 410) (hsm : rowOk l → bytesR l ≤ left0 → l' = l.take j) :
    (left - s'.size) + bytesR (l' ++ [s']) = left0 ∧ (l' ++ [s']).length = min (j + 1) 45 ∧ (∀ s ∈ l' ++ [s'], s.size ≤ 410) ∧ (rowOk l → bytesR l ≤ left0 → l' ++ [s'] = l.take (j + 1)) ∧ s'.size ≤ left := by
  have q1 : s'.size ≤ left := hs' ▸ cutT_size _ _
  have q2 : s'.size ≤ 410 := by
    rw [← hs']; unfold cutT
    split
    · split
      · assumption
      · simp; omega
    · simp
      split <;> simp <;> omega
  refine ⟨by rw [bytesR_snoc]; omega, by simp [hlen]; omega, ?_, ?_, q1⟩
  · intro t ht
    rcases List.mem_append.mp ht with h | h
    · exact hok t h
    · rw [List.mem_singleton.mp h]; exact q2
  · intro h1 h2
    have e := hsm h1 h2
    have h3 := bytesR_take l j hj
    rw [takeD' l ByteArray.empty j hj, ← e, hs]
    congr 2
    rw [← hs', cutT_same (h1.2 s (hs ▸ getD_mem'' l ByteArray.empty j hj))]
    apply cutT_same
    rw [hs, ← e] at h3
    omega
theorem takeD {α : Type} (l : List α) (d : α) (i : Nat) (h : i < l.length) : l.take (i + 1) = l.take i ++ [l.getD i d] := by
  rw [List.take_succ_eq_append_getElem h]; simp [List.getD_eq_getElem?_getD, List.getElem?_eq_getElem h]
theorem getD_mem' {α : Type} (l : List α) (d : α) (i : Nat) (h : i < l.length) : l.getD i d ∈ l := by
  simp [List.getD_eq_getElem?_getD, List.getElem?_eq_getElem h]
def FewRow (w1 : World) (left0 : Nat) (l : List ByteArray) (lv rv kv : Value) (wr : World) : Prop :=
  ∃ (j : Nat) (l' : List ByteArray) (left : Nat), kv = .int .i64 j ∧ j ≤ l.length ∧ lv = .int .i64 left ∧ left + bytesR l' = left0 ∧ l'.length = min j 45 ∧ (∀ s ∈ l', s.size ≤ 410) ∧
    (rowOk l → bytesR l ≤ left0 → l' = l.take j) ∧ wr.ownsRow w1.heap.size 9 1 rv l'.length (sv l') ∧ Below w1.heap.size w1 wr
def FewRel (w0 : World) (L : Txt) (ov lv iv : Value) (wr : World) : Prop :=
  ∃ (j : Nat) (L' : Txt) (left : Nat), iv = .int .i64 j ∧ j ≤ L.length ∧ j ≤ 12 ∧ lv = .int .i64 left ∧ left + total L' = 6000 ∧ L'.length = j ∧ (∀ l ∈ L', rowOk l) ∧ (Small L → L' = L.take j) ∧ OutAt wr w0.heap.size ov L' ∧ Below w0.heap.size w0 wr
set_option maxRecDepth 100000 in
set_option maxHeartbeats 1000000 in
theorem Few_soft (w : World) (N : Nat → Prop) (v : Value) (L : Txt) (h : TxtAt w N v L) :
    Calls Try.prog 7 #[v] w fun e w' => (∃ v' L', e = .returned v' ∧ TxtAt w' (fun k => w.heap.size ≤ k ∧ Soft w' k) v' L' ∧ Small L' ∧ (Small L → L' = L)) ∧ Below w.heap.size w w' := by
  have HT := Lib.hid h
  obtain ⟨a, c, rfl, h1, h2, h⟩ := h
  obtain ⟨n, hn⟩ : ∃ n, L.length = n := ⟨_, rfl⟩
  have HN := Lib.hid hn
  rw [hn] at h1 ⊢
  unfold maxLen at h2
  have H := Lib.hid h
  clear h hn
  obtain ⟨i0, hi0, hz0, hz1, hz2⟩ := info_parts info9
  obtain ⟨i1, ji0, jz0, jz1, jz2⟩ := info_parts info55
  have HI := Lib.hid (And.intro hi0 (And.intro hz0 (And.intro hz1 hz2)))
  have HJ := Lib.hid (And.intro ji0 (And.intro jz0 (And.intro jz1 jz2)))
  clear hi0 hz0 hz1 hz2 ji0 jz0 jz1 jz2
  have H0 := Lib.hid (show FewRel w L (.slice none 0 0) (.int .i64 6000) (.int .i64 0) w from ⟨0, [], 6000, rfl, Nat.zero_le _, Nat.zero_le _, rfl, rfl, rfl, fun l hl => by simp at hl, fun _ => rfl, OutAt.nil w _, Below.refl _ _⟩)
  go_enter Try.func7, Try.ntmps7
  go_wp2_with fail
  go_loopw [3, 4, 12] (fun o l i wr => FewRel w L o l i wr) (fun _ _ i _ => n - (intOf i).toNat)
  case atStart => exact H0.out
  case round =>
    obtain ⟨j, L', left, rfl, hj, hj12, rfl, hleft, hlen, hok, hsm, hout, hbel⟩ := hrel
    rw [HN.out] at hj
    have HB := Lib.hid hbel
    have HO := Lib.hid hout
    obtain ⟨oa, op, rfl⟩ := hout.slice
    have HL := Lib.hid (And.intro hleft (And.intro hlen (And.intro hok hsm)))
    have hl6 : left ≤ 6000 := by omega
    clear hbel hout hleft hlen hok hsm
    by_cases hjn : j < n
    · obtain ⟨b, off, x, rfl, hNb, hc, hr⟩ := H.out j (by rw [HN.out]; exact hjn)
      obtain ⟨l, hl⟩ : ∃ l, L.getD j [] = l := ⟨_, rfl⟩
      rw [hl] at hr
      have hr := hr.below HB.out
      have hc := (HB.out.cell (p := ⟨b, off + j, none⟩) (World.block_lt_of_cell? _ _ hc)).trans hc
      by_cases hj2 : 12 ≤ j
      · clear hr
        go_wp2_with fail
        go_ret
        exact ⟨⟨_, L', rfl, HO.out.txt, ⟨by have := HL.out.2.1; omega, HL.out.2.2.1, by have := HL.out.1; omega⟩, fun hS => by have := hS.len; rw [HN.out] at this; omega⟩, HB.out⟩
      · obtain ⟨ra, rc, rfl, g1, g2, gr⟩ := hr
        obtain ⟨m, hm⟩ : ∃ m, l.length = m := ⟨_, rfl⟩
        have HM := Lib.hid hm
        rw [hm] at hc g1
        unfold maxLen at g2
        have GR := Lib.hid gr
        have HLE := Lib.hid hl
        generalize wr = w1 at *
        have R0 := Lib.hid (show FewRow w1 left l (.int .i64 left) (.slice none 0 0) (.int .i64 0) w1 from ⟨0, [], left, rfl, Nat.zero_le _, rfl, rfl, rfl, fun s hs => by simp at hs, fun _ _ => rfl, ⟨rfl, .inl ⟨rfl, rfl⟩⟩, Below.refl _ _⟩)
        clear gr hm hl
        go_wp2_with fail
        go_loopw [4, 7, 21] (fun lf r k w2 => FewRow w1 left l lf r k w2) (fun _ _ k _ => m - (intOf k).toNat)
        case atStart => exact R0.out
        case round =>
          obtain ⟨k, l', left2, rfl, hk, rfl, hq1, hq2, hq3, hq4, hrow, hb2⟩ := hrel
          rw [HM.out] at hk
          have HB2 := Lib.hid hb2
          have HR := Lib.hid hrow
          obtain ⟨ra2, rp, rfl⟩ := own_slice hrow
          have HQ := Lib.hid (And.intro hq1 (And.intro hq2 (And.intro hq3 hq4)))
          have hl62 : left2 ≤ 6000 := by omega
          clear hrow hb2 hq1 hq2 hq3 hq4
          by_cases hkm : k < m
          · obtain ⟨rb, roff, rfl, -, rc2⟩ := GR.out k (by rw [HM.out]; exact hkm)
            obtain ⟨t, ht⟩ : ∃ t, l.getD k ByteArray.empty = t := ⟨_, rfl⟩
            rw [ht] at rc2
            have rc2 := (HB2.out.cell (p := ⟨rb, roff + k, none⟩) (World.block_lt_of_cell? _ _ rc2)).trans rc2
            by_cases hk45 : k < 45
            · have hk45' : ¬ (45 : Int) ≤ k := by omega
              obtain ⟨t', ht'⟩ : ∃ t', cutT (cutT t 410) left2 = t' := ⟨_, rfl⟩
              have HS := Lib.hid (fewRow_step (by rw [HM.out]; exact hkm) hk45 ht ht' HQ.out.1 HQ.out.2.1 HQ.out.2.2.1 HQ.out.2.2.2)
              have C1 := Lib.hid (show Calls Try.prog 23 #[.string t, .int .i64 410] wr fun e w' => e = .returned (.string (cutT t 410)) ∧ wr = w' from Cut_calls t 410 wr (by decide))
              have C2 := Lib.hid (Cut_calls (cutT t 410) left2 wr (by omega))
              rw [ht'] at C2
              generalize cutT t 410 = t1 at *
              have hts := HS.out.2.2.2.2
              have HOWN := Lib.hid (HR.out.alloc (.cells #[.string t'] 9))
              have HNEWS := Lib.hid (news_one wr (.string t') 9)
              have HSZ := Lib.hid (show w1.heap.size ≤ (wr.alloc (.cells #[.string t'] 9)).heap.size by have := HB2.out.size; simp; omega)
              have hlen := HQ.out.2.1
              have HMAX := Lib.hid (show l'.length + 1 ≤ maxLen by unfold maxLen; omega)
              have HBYTES := Lib.hid (show (l'.length + 1) * 16 ≤ 140737488355328 by omega)
              clear ht ht' hlen
              go_wp2_with (first | (go_at_call 23; with_reducible refine C1.out.mono ?_; rintro e w' ⟨rfl, rfl⟩) | (go_at_call 23; with_reducible refine C2.out.mono ?_; rintro e w' ⟨rfl, rfl⟩) | (at_builtin; go_must (refine wpList_append_lies _ rfl (.tmp 36) (.tmp 38) 55 rfl w1.heap.size 9 i0 (.string ByteArray.empty) 1 16 Try.underlying55 HI.out.1 HI.out.2.1 HI.out.2.2.1 HI.out.2.2.2 rfl (by decide) (.slice ra2 l'.length rp) l'.length (sv l') rfl HOWN.out ⟨wr.heap.size, 0, none⟩ 1 1 [.string t'] rfl rfl HNEWS.out (by simp [Value.oneCell']) (by decide) HMAX.out HBYTES.out HSZ.out (wr.heap.size + 1) (by simp) ?_); intro g cap w3 hown hgrow hat hlt; have HO3 := Lib.hid hown; have HG3 := Lib.hid hgrow; clear hown hgrow hat hlt))
              go_roundw
              · have h5 := HO3.out
                have hs := HS.out
                refine ⟨k + 1, l' ++ [t'], left2 - t'.size, by go_num, by rw [HM.out]; omega, congrArg _ (by omega), hs.1, hs.2.1, hs.2.2.1, hs.2.2.2.1, by simpa [sv] using h5, ?_⟩
                exact Below.grown (HB2.out.alloc HB2.out.size _) HG3.out (by have := HB2.out.size; simp; omega) (fun x hx => (HR.out.lt x hx).1)
              · simp [intOf]; omega
            · have hk45' : (45 : Int) ≤ k := by omega
              go_wp2_with fail
              go_roundw
              · exact ⟨k + 1, l', left2, by go_num, by rw [HM.out]; omega, rfl, HQ.out.1, by have := HQ.out.2.1; omega, HQ.out.2.2.1, fun h => by have := h.1; rw [HM.out] at this; omega, HR.out, HB2.out⟩
              · simp [intOf]; omega
          · obtain rfl : k = m := by omega
            have HO2 := Lib.hid ((HO.out.keep (fun x hx => HB2.out.block x hx)).keep (w' := wr.alloc (.cells #[.slice ra2 l'.length rp] 55)) (fun x hx => Below.heap_alloc _ _ _ hx))
            obtain ⟨ys, hown2, hys⟩ := HO2.out
            have hblk : ∀ x, (Value.slice oa L'.length op).ownBlock = some x → x < w1.heap.size := by
              obtain ⟨ys1, h1, _⟩ := HO.out; exact fun x hx => (h1.lt x hx).2
            have hrx : RowAt (wr.alloc (.cells #[.slice ra2 l'.length rp] 55)) (fun x => w.heap.size ≤ x ∧ (Value.slice oa L'.length op).ownBlock ≠ some x ∧ Soft (wr.alloc (.cells #[.slice ra2 l'.length rp] 55)) x) (.slice ra2 l'.length rp) l' :=
              (rowAt_own rfl HR.out).keep fun x hx hl => ⟨⟨Nat.le_trans HB.out.size hx.1.1, fun e => by have := hblk x e; have := hx.1.1; omega, hx.2.to (Below.heap_alloc _ _ _ hl)⟩, Below.heap_alloc _ _ _ hl⟩
            have HX := Lib.hid hrx
            have HYS := Lib.hid hys
            have HOWN := Lib.hid hown2
            have HNEWS := Lib.hid (news_one wr (.slice ra2 l'.length rp) 55)
            have hlen := HL.out.2.1
            have HMAX := Lib.hid (show L'.length + 1 ≤ maxLen by unfold maxLen; omega)
            have HBYTES := Lib.hid (show (L'.length + 1) * 24 ≤ 140737488355328 by omega)
            have HSZ := Lib.hid (show w.heap.size ≤ (wr.alloc (.cells #[.slice ra2 l'.length rp] 55)).heap.size by have := HB.out.size; have := HB2.out.size; simp; omega)
            have HBB := Lib.hid (HB.out.trans (HB2.out.mono HB.out.size))
            clear hown2 hys hblk hrx hlen
            go_wp2_with (at_builtin; go_must (refine wpList_append_lies _ rfl (.tmp 41) (.tmp 43) 22 rfl w.heap.size 55 i1 (.slice none 0 0) 1 24 Try.underlying22 HJ.out.1 HJ.out.2.1 HJ.out.2.2.1 HJ.out.2.2.2 rfl (by decide) (.slice oa L'.length op) L'.length ys rfl HOWN.out ⟨wr.heap.size, 0, none⟩ 1 1 [.slice ra2 l'.length rp] rfl rfl HNEWS.out (by simp [Value.oneCell']) (by decide) HMAX.out HBYTES.out HSZ.out (wr.heap.size + 1) (by simp) ?_); intro g cap w3 hown hgrow hat hlt; have HO3 := Lib.hid hown; have HG3 := Lib.hid hgrow; have HA3 := Lib.hid hat; clear hown hgrow hat hlt)
            go_roundw
            · have hl := HL.out
              have hq := HQ.out
              refine ⟨j + 1, L' ++ [l'], left2, by go_num, by rw [HN.out]; omega, by omega, rfl, by rw [total_snoc]; omega, by simp; omega, ?_, ?_, ?_, ?_⟩
              · intro x hx
                rcases List.mem_append.mp hx with h | h
                · exact hl.2.2.1 x h
                · rw [List.mem_singleton.mp h]; exact ⟨by omega, hq.2.2.1⟩
              · intro hS
                have e := hl.2.2.2 hS
                have h3 := total_take L j (by rw [HN.out]; exact hjn)
                rw [HLE.out, ← e] at h3
                have := hS.all
                rw [takeD' L [] j (by rw [HN.out]; exact hjn), ← e, HLE.out]
                have hro : rowOk l := hS.row l (HLE.out ▸ getD_mem'' L [] j (by rw [HN.out]; exact hjn))
                rw [hq.2.2.2 hro (by omega), List.take_of_length_le (by rw [HM.out]; exact Nat.le_refl _)]
              · exact OutAt.push HYS.out (by have := HOWN.out.1; simpa using this) HX.out HO3.out HG3.out (by
                  rcases HA3.out with h | h
                  · exact .inl h
                  · exact .inr (by rw [h]; simp))
              · exact Below.grown (HBB.out.alloc HBB.out.size _) HG3.out (by have := HBB.out.size; simp; omega) (fun x hx => (HOWN.out.lt x hx).1)
            · simp [intOf]; omega
    · obtain rfl : j = n := by omega
      go_wp2_with fail
      go_ret
      exact ⟨⟨_, L', rfl, HO.out.txt, ⟨by have := HL.out.2.1; omega, HL.out.2.2.1, by have := HL.out.1; omega⟩, fun hS => by rw [HL.out.2.2.2 hS, List.take_of_length_le (by rw [HN.out]; exact Nat.le_refl _)]⟩, HB.out⟩
theorem Few_calls (w : World) (N : Nat → Prop) (v : Value) (L : Txt) (h : TxtAt w N v L) :
    Calls Try.prog 7 #[v] w fun e w' => (∃ v' L', e = .returned v' ∧ TxtAt w' (fun k => w.heap.size ≤ k) v' L' ∧ Small L' ∧ (Small L → L' = L)) ∧ Below w.heap.size w w' :=
  (Few_soft w N v L h).mono fun e w' ⟨⟨v', L', h1, h2, h3⟩, h4⟩ => ⟨⟨v', L', h1, h2.keep fun k hk _ => ⟨hk.1, rfl⟩, h3⟩, h4⟩
end Go.Proofs.Ythalpbbjcagnnaa
