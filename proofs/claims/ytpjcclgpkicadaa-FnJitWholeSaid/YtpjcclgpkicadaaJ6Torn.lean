import Derived.Test.YtpjcclgpkicadaaJ6SaveU
import Derived.Test.YtpjcclgpkicadaaJ6Pair2
namespace Go.Av
open Go.Proofs Go.RowKit
set_option linter.unusedVariables false
set_option linter.unusedSimpArgs false
set_option maxRecDepth 100000
set_option maxHeartbeats 4000000
theorem runW_seq : ∀ (l : List Int) (i : Nat) (s : Slot), 1 ≤ i → i + l.length ≤ 8 → (runW i s l).seq = s.seq
  | [], _, _, _, _ => rfl
  | v :: l, i, s, h1, h2 => by
    simp only [List.length_cons] at h2
    show (runW (i + 1) (stepW s i v) l).seq = s.seq
    rw [runW_seq l (i + 1) _ (by omega) (by omega)]
    unfold stepW
    rw [if_neg (by omega)]
    split <;> rfl
theorem run_part (s : Slot) (a : Int) (l : List Int) (h : l.length ≤ 7) : (runI 0 s (a :: l)).seq = a := by
  rw [runs_same]
  show (runW 1 (stepW _ 0 a) l).seq = a
  rw [runW_seq l 1 _ (by omega) (by omega)]
  unfold stepW
  rw [if_pos (.inl rfl)]
theorem run_full (s : Slot) (w : List Int) (m q : Int) (h : w.length = 6) : runI 0 s (0 :: (w ++ [m, q])) = ⟨q, w, m⟩ := by
  rw [runs_same, if_pos (by simp)]
  match w, h with
  | [a, b, c, d, e, f], _ =>
    have hy := fixW_len s
    generalize fixW s = z at hy
    obtain ⟨q0, y, m0⟩ := z
    have hy : y.length = 6 := hy
    match y, hy with
    | [y0, y1, y2, y3, y4, y5], _ => simp [runW, stepW]
theorem slotOk_zero {s : Slot} (h : s.seq = 0) : slotOk s = false := by simp [slotOk, h]
theorem which_cases (p : Pair) : whichM p = 0 ∨ whichM p = 1 ∨ whichM p = -1 := by
  unfold whichM; split
  · exact .inl rfl
  · split
    · exact .inr (.inl rfl)
    · exact .inr (.inr rfl)
theorem saveSlot_eq {p : Pair} {ws : List Int} (h : saveOk p ws = true) : saveSlot p ws = if whichM p = 0 then 1 else 0 := by
  unfold saveSlot bitI
  rw [if_pos h]
  by_cases h0 : whichM p = 0 <;> simp [h0]
theorem newest_of0 {p : Pair} (h : whichM p = 0) : newestM p = p.a ∧ isNewM p = true := by simp [newestM, isNewM, h]
theorem newest_of1 {p : Pair} (h : whichM p = 1) : newestM p = p.b ∧ isNewM p = true := by simp [newestM, isNewM, h]
theorem newest_ofN {p : Pair} (h : whichM p = -1) : newestM p = emptySlot ∧ isNewM p = false := by simp [newestM, isNewM, h]
theorem which_N {p : Pair} (h : whichM p = -1) : slotOk p.a = false ∧ slotOk p.b = false := by
  unfold whichM at h
  by_cases hb : slotOk p.b = true
  · split at h
    · omega
    · first | omega | (rw [if_pos hb] at h; omega)
  · have hb' : slotOk p.b = false := by simpa using hb
    refine ⟨?_, hb'⟩
    by_cases ha : slotOk p.a = true
    · rw [if_pos ⟨ha, .inl hb'⟩] at h; omega
    · simpa using ha
theorem torn_full {p : Pair} {ws : List Int} {n : Int} (hk : saveOk p ws = true) (hn : 9 ≤ n) : newestM (savedP p ws n) = ⟨(newestM p).seq + 1, ws, sumOf ((newestM p).seq + 1) ws⟩ ∧ isNewM (savedP p ws n) = true := by
  have h6 : ws.length = 6 := by simp [saveOk] at hk; exact hk.1
  have h9 := saveList_len hk
  have hl : (saveList p ws).take n.toNat = 0 :: (ws ++ [sumOf ((newestM p).seq + 1) ws, (newestM p).seq + 1]) := by
    rw [List.take_of_length_le (by omega)]
    simp [saveList, hk]
  have hs := newest_seq p
  have ht : slotOk ⟨(newestM p).seq + 1, ws, sumOf ((newestM p).seq + 1) ws⟩ = true := by simp [slotOk, h6]; omega
  unfold savedP
  rw [if_pos ⟨hk, by omega⟩, saveSlot_eq hk, hl]
  simp only [run_full _ ws _ _ h6]
  rcases which_cases p with h0 | h0 | h0
  · have e := (newest_of0 h0).1
    rw [if_pos h0, if_neg (by omega)]
    have hw : whichM ⟨p.a, ⟨(newestM p).seq + 1, ws, sumOf ((newestM p).seq + 1) ws⟩⟩ = 1 := by
      unfold whichM
      rw [if_neg (fun c => by rcases c.2 with c | c <;> first | (rw [ht] at c; cases c) | (rw [e] at c; simp only at c; omega)), if_pos ht]
    exact newest_of1 hw
  · rw [if_pos (show (if whichM p = 0 then (1 : Int) else 0) = 0 by rw [if_neg (by omega)])]
    have e := (newest_of1 h0).1
    have hw : whichM ⟨⟨(newestM p).seq + 1, ws, sumOf ((newestM p).seq + 1) ws⟩, p.b⟩ = 0 := by
      unfold whichM
      rw [if_pos ⟨ht, .inr (by rw [e]; simp only; omega)⟩]
    exact newest_of0 hw
  · rw [if_pos (show (if whichM p = 0 then (1 : Int) else 0) = 0 by rw [if_neg (by omega)])]
    have hw : whichM ⟨⟨(newestM p).seq + 1, ws, sumOf ((newestM p).seq + 1) ws⟩, p.b⟩ = 0 := by
      unfold whichM
      rw [if_pos ⟨ht, .inl (which_N h0).2⟩]
    exact newest_of0 hw
theorem torn_part {p : Pair} {ws : List Int} {n : Int} (hk : saveOk p ws = true) (h0n : 0 ≤ n) (hn : n < 9) : newestM (savedP p ws n) = newestM p ∧ isNewM (savedP p ws n) = isNewM p := by
  by_cases hz : n = 0
  · subst hz
    have : savedP p ws 0 = p := by
      unfold savedP; split
      · split <;> rfl
      · rfl
    rw [this]; exact ⟨rfl, rfl⟩
  have h9 := saveList_len hk
  obtain ⟨l, hl, hll⟩ : ∃ l, (saveList p ws).take n.toNat = 0 :: l ∧ l.length ≤ 7 := by
    obtain ⟨k, hk'⟩ : ∃ k : Nat, n.toNat = k + 1 := ⟨n.toNat - 1, by omega⟩
    have e : saveList p ws = 0 :: (ws ++ [sumOf ((newestM p).seq + 1) ws, (newestM p).seq + 1]) := by simp [saveList, hk]
    rw [e, hk', List.take_succ_cons]
    exact ⟨_, rfl, by simp only [List.length_take]; omega⟩
  have hz0 : ∀ s, slotOk (runI 0 s (0 :: l)) = false := fun s => slotOk_zero (run_part s 0 l hll)
  unfold savedP
  rw [if_pos ⟨hk, by omega⟩, saveSlot_eq hk, hl]
  rcases which_cases p with h0 | h0 | h0
  · rw [if_pos h0, if_neg (by omega)]
    have hw : whichM ⟨p.a, runI 0 p.b (0 :: l)⟩ = 0 := by
      unfold whichM
      rw [if_pos ⟨which_0 (p := p) h0, .inl (hz0 _)⟩]
    rw [(newest_of0 hw).1, (newest_of0 hw).2, (newest_of0 h0).1, (newest_of0 h0).2]
    exact ⟨rfl, rfl⟩
  · rw [if_pos (show (if whichM p = 0 then (1 : Int) else 0) = 0 by rw [if_neg (by omega)])]
    have hw : whichM ⟨runI 0 p.a (0 :: l), p.b⟩ = 1 := by
      unfold whichM
      rw [if_neg (fun c => by rw [hz0] at c; exact Bool.noConfusion c.1), if_pos (which_1 (p := p) h0)]
    rw [(newest_of1 hw).1, (newest_of1 hw).2, (newest_of1 h0).1, (newest_of1 h0).2]
    exact ⟨rfl, rfl⟩
  · rw [if_pos (show (if whichM p = 0 then (1 : Int) else 0) = 0 by rw [if_neg (by omega)])]
    have hw : whichM ⟨runI 0 p.a (0 :: l), p.b⟩ = -1 := by
      unfold whichM
      rw [if_neg (fun c => by rw [hz0] at c; exact Bool.noConfusion c.1), if_neg (by rw [(which_N h0).2]; exact Bool.noConfusion)]
    rw [(newest_ofN hw).1, (newest_ofN hw).2, (newest_ofN h0).1, (newest_ofN h0).2]
    exact ⟨rfl, rfl⟩
end Go.Av
