import Derived.Test.YtpjcclgpkicadaaJ6Save
namespace Go.Av
open Go.Proofs Go.RowKit
set_option linter.unusedVariables false
set_option linter.unusedSimpArgs false
set_option maxRecDepth 100000
set_option maxHeartbeats 4000000
def zeros6 : List Int := List.replicate 6 0
def stepW (s : Slot) (i : Nat) (v : Int) : Slot := if i = 0 ∨ i = 8 then ⟨v, s.words, s.sum⟩ else if i = 7 then ⟨s.seq, s.words, v⟩ else ⟨s.seq, s.words.set (i - 1) v, s.sum⟩
def fixW (s : Slot) : Slot := if s.words.length = 6 then s else ⟨s.seq, zeros6, s.sum⟩
def stepI (s : Slot) (i : Nat) (v : Int) : Slot := stepW (if i = 1 then fixW s else s) i v
def runI : Nat → Slot → List Int → Slot
  | _, s, [] => s
  | i, s, v :: vs => runI (i + 1) (stepI s i v) vs
def runW : Nat → Slot → List Int → Slot
  | _, s, [] => s
  | i, s, v :: vs => runW (i + 1) (stepW s i v) vs
theorem runI_app : ∀ (l : List Int) (i : Nat) (s : Slot) (v : Int), runI i s (l ++ [v]) = stepI (runI i s l) (i + l.length) v
  | [], i, s, v => rfl
  | x :: l, i, s, v => by
    show runI (i + 1) _ (l ++ [v]) = _
    rw [runI_app l (i + 1) _ v]
    show stepI (runI (i + 1) (stepI s i x) l) _ v = stepI (runI (i + 1) (stepI s i x) l) _ v
    congr 1; simp; omega
theorem runW_app : ∀ (l : List Int) (i : Nat) (s : Slot) (v : Int), runW i s (l ++ [v]) = stepW (runW i s l) (i + l.length) v
  | [], i, s, v => rfl
  | x :: l, i, s, v => by
    show runW (i + 1) _ (l ++ [v]) = _
    rw [runW_app l (i + 1) _ v]
    show stepW (runW (i + 1) (stepW s i x) l) _ v = stepW (runW (i + 1) (stepW s i x) l) _ v
    congr 1; simp; omega
theorem runI_take {zs : List Int} {k : Nat} (h : k < zs.length) (s : Slot) : runI 0 s (zs.take (k + 1)) = stepI (runI 0 s (zs.take k)) k zs[k] := by
  rw [List.take_succ_eq_append_getElem h, runI_app]
  congr 1; simp; omega
theorem runW_take {zs : List Int} {k : Nat} (h : k < zs.length) (s : Slot) : runW 0 s (zs.take (k + 1)) = stepW (runW 0 s (zs.take k)) k zs[k] := by
  rw [List.take_succ_eq_append_getElem h, runW_app]
  congr 1; simp; omega
theorem fixW_len (s : Slot) : (fixW s).words.length = 6 := by
  unfold fixW; split <;> first | assumption | rfl
theorem stepW_len (s : Slot) (i : Nat) (v : Int) : (stepW s i v).words.length = s.words.length := by
  unfold stepW; split <;> (try split) <;> simp
theorem runI_len (zs : List Int) (s : Slot) : ∀ k, 2 ≤ k → k ≤ zs.length → (runI 0 s (zs.take k)).words.length = 6
  | 0, h, _ => absurd h (by omega)
  | 1, h, _ => absurd h (by omega)
  | 2, _, h => by rw [runI_take (by omega)]; unfold stepI; rw [stepW_len, if_pos rfl]; exact fixW_len _
  | k + 3, _, h => by rw [runI_take (by omega)]; unfold stepI; rw [stepW_len, if_neg (by omega)]; exact runI_len zs s (k + 2) (by omega) (by omega)
theorem runW_len (zs : List Int) (s : Slot) : ∀ k, k ≤ zs.length → (runW 0 s (zs.take k)).words.length = s.words.length
  | 0, _ => by simp [runW]
  | k + 1, h => by rw [runW_take (by omega), stepW_len]; exact runW_len zs s k (by omega)
theorem runs_far : ∀ (l : List Int) (i : Nat) (s : Slot), 2 ≤ i → runI i s l = runW i s l
  | [], _, _, _ => rfl
  | v :: l, i, s, h => by
    show runI (i + 1) (stepI s i v) l = runW (i + 1) (stepW s i v) l
    rw [runs_far l (i + 1) _ (by omega)]
    unfold stepI; rw [if_neg (by omega)]
/-- Both ways of writing come to the same. -/
theorem runs_same (l : List Int) (s : Slot) : runI 0 s l = runW 0 (if 2 ≤ l.length then fixW s else s) l := by
  match l with
  | [] => rfl
  | [a] => rfl
  | a :: b :: r =>
    rw [if_pos (by simp)]
    show runI 2 (stepI (stepI s 0 a) 1 b) r = runW 2 (stepW (stepW (fixW s) 0 a) 1 b) r
    rw [runs_far r 2 _ (Nat.le_refl _)]
    congr 2
    simp only [stepI, Nat.zero_ne_one, if_false, if_true]
    unfold fixW stepW
    by_cases h : s.words.length = 6 <;> simp [h]
/-- A slot inside a block of six cells. -/
def SlotAt (h : Heap) (id off : Nat) (s : Slot) (v : V) (ids : List Nat) (o0 o1 o2 : V) : Prop := h[id]? = some [if off = 0 then [.int .i64 s.seq, v, .int .i64 s.sum, o0, o1, o2] else [o0, o1, o2, .int .i64 s.seq, v, .int .i64 s.sum]] ∧ Owns h (.lst 1 (s.words.map encI)) v ids ∧ ids.Nodup ∧ id ∉ ids
theorem flat_own {h : Heap} {ws : List Int} {v : V} {ids : List Nat} {n : Nat} (o : Owns h (.lst 1 (ws.map encI)) v ids) (hn : ws.length = n) (h0 : 0 < n) : ∃ l, v = .own l 1 0 n n ∧ h[l]? = some (ws.map encI) ∧ ids = [l] := by
  rcases (Owns.flat_ (flat_encI ws)).1 o with ⟨_, h1, _⟩ | ⟨l, rfl, h1, rfl⟩
  · have : (ws.map encI).length = 0 := by rw [h1]; rfl
    simp at this; subst this; simp at hn; omega
  · exact ⟨l, by simp [hn], h1, rfl⟩
theorem saveSome0_c (h : Heap) (id ll n tot : Nat) (zs : List Int) (s : Slot) (v0 o0 o1 o2 : V) (ids0 : List Nat) (hb : SlotAt h id 0 s v0 ids0 o0 o1 o2) (hl : h[ll]? = some (zs.map encI)) (hz : zs.length = tot) (hn : n ≤ tot) (h9 : n ≤ 9) (hne : ll ≠ id) (hni : ll ∉ ids0) :
    C Try.prog 66 [.ptr id 1 0 0, .own ll 1 0 n tot] h (fun r h' => r = .tup [] ∧ ∃ v ids, SlotAt h' id 0 (runI 0 s (zs.take n)) v ids o0 o1 o2 ∧ (∀ i ∈ ids, i ∈ ids0 ∨ h.length ≤ i) ∧ (∀ j, j < h.length → j ≠ id → j ∉ ids0 → h'[j]? = h[j]?) ∧ h.length ≤ h'.length) := by
  have hid0 := heap_lt hb.1
  have hll := heap_lt hl
  refine C.by mixed (cfn_ok Try.func66 ok66) rfl ?_
  simp (disch := omega) only [s66, go_sem, Nat.reduceEqDiff, Nat.reduceAdd, Nat.reduceSub, Nat.reduceLeDiff, Nat.reduceLT, Nat.reduceMul, Nat.reduceBEq, Int.reduceEq, Int.reduceLT, Int.reduceLE, Int.reduceNeg, Int.reduceToNat, Int.reduceSub, Int.reduceAdd, reduceIte]
  refine loopP_intro (fun m q => ∃ (k : Nat), k ≤ n ∧ m = n - k ∧ q.e 0 = .ptr id 1 0 0 ∧ q.e 6 = .own ll 1 0 n tot ∧ q.e 7 = .int .i64 n ∧ q.e 8 = .int .i64 k ∧ ∃ v ids, SlotAt q.h id 0 (runI 0 s (zs.take k)) v ids o0 o1 o2 ∧ (∀ i ∈ ids, i ∈ ids0 ∨ h.length ≤ i) ∧ (∀ j, j < h.length → j ≠ id → j ∉ ids0 → q.h[j]? = h[j]?) ∧ h.length ≤ q.h.length) n ⟨0, by omega, by omega, by simp (disch := omega) only [go_sem, Nat.reduceEqDiff, Nat.reduceAdd, Nat.reduceSub, Nat.reduceLeDiff, Nat.reduceLT, Nat.reduceMul, Nat.reduceBEq, Int.reduceEq, Int.reduceLT, Int.reduceLE, Int.reduceNeg, Int.reduceToNat, Int.reduceSub, Int.reduceAdd, reduceIte], by simp (disch := omega) only [go_sem, Nat.reduceEqDiff, Nat.reduceAdd, Nat.reduceSub, Nat.reduceLeDiff, Nat.reduceLT, Nat.reduceMul, Nat.reduceBEq, Int.reduceEq, Int.reduceLT, Int.reduceLE, Int.reduceNeg, Int.reduceToNat, Int.reduceSub, Int.reduceAdd, reduceIte], by simp (disch := omega) only [go_sem, Nat.reduceEqDiff, Nat.reduceAdd, Nat.reduceSub, Nat.reduceLeDiff, Nat.reduceLT, Nat.reduceMul, Nat.reduceBEq, Int.reduceEq, Int.reduceLT, Int.reduceLE, Int.reduceNeg, Int.reduceToNat, Int.reduceSub, Int.reduceAdd, reduceIte], by simp (disch := omega) only [go_sem, Nat.reduceEqDiff, Nat.reduceAdd, Nat.reduceSub, Nat.reduceLeDiff, Nat.reduceLT, Nat.reduceMul, Nat.reduceBEq, Int.reduceEq, Int.reduceLT, Int.reduceLE, Int.reduceNeg, Int.reduceToNat, Int.reduceSub, Int.reduceAdd, reduceIte]; rfl, v0, ids0, hb, fun i hi => .inl hi, fun _ _ _ _ => rfl, Nat.le_refl _⟩ ?_
  rintro m e hp ⟨k, hk, rfl, e0, e6, e7, e8, v, ids, ⟨b1, ov1, nd, nid⟩, hids, hfr, hle⟩
  simp only at e0 e6 e7 e8 b1 ov1 hfr hle
  simp only [Nat.reduceEqDiff, if_true, if_false] at b1
  have hll1 : hp[ll]? = some (zs.map encI) := by rw [hfr ll hll hne hni]; exact hl
  obtain ⟨ovo, ovn, ovc⟩ := ov1.vv
  simp (disch := omega) only [go_sem, Nat.reduceEqDiff, Nat.reduceAdd, Nat.reduceSub, Nat.reduceLeDiff, Nat.reduceLT, Nat.reduceMul, Nat.reduceBEq, Int.reduceEq, Int.reduceLT, Int.reduceLE, Int.reduceNeg, Int.reduceToNat, Int.reduceSub, Int.reduceAdd, reduceIte, e0, e6, e7, e8, b1, encI]
  refine condP_dec (fun hlt => ?_) (fun hlt => ?_)
  · have hlt' : k < zs.length := by omega
    have hg : zs[k]? = some zs[k] := List.getElem?_eq_getElem hlt'
    have rt := runI_take hlt' s
    generalize ht : runI 0 s (zs.take k) = t at *
    have lt1 := ov1.lt
    have hidl := heap_lt b1
    by_cases hk0 : k = 0 ∨ k = 8
    · have hk1 : ¬ (k : Int) = 1 := by omega
      have hst : stepI t k zs[k] = ⟨zs[k], t.words, t.sum⟩ := by unfold stepI; rw [if_neg (show ¬ k = 1 by omega)]; unfold stepW; rw [if_pos hk0]
      have nx : ∀ (q : St), q.e 0 = .ptr id 1 0 0 → q.e 6 = .own ll 1 0 n tot → q.e 7 = .int .i64 n → q.e 8 = .int .i64 ((k : Int) + 1) → q.h = hp.set id [[.int .i64 (zs[k]), v, .int .i64 (t.sum), o0, o1, o2]] → ∃ (k' : Nat), k' ≤ n ∧ n - (k + 1) = n - k' ∧ q.e 0 = .ptr id 1 0 0 ∧ q.e 6 = .own ll 1 0 n tot ∧ q.e 7 = .int .i64 n ∧ q.e 8 = .int .i64 k' ∧ ∃ v ids, SlotAt q.h id 0 (runI 0 s (zs.take k')) v ids o0 o1 o2 ∧ (∀ i ∈ ids, i ∈ ids0 ∨ h.length ≤ i) ∧ (∀ j, j < h.length → j ≠ id → j ∉ ids0 → q.h[j]? = h[j]?) ∧ h.length ≤ q.h.length := fun q q0 q6 q7 q8 qh => by
        refine ⟨k + 1, by omega, rfl, q0, q6, q7, q8, v, ids, ?_, hids, fun j hj hji hjn => ?_, ?_⟩
        · rw [rt, hst, qh]
          exact ⟨heap_set _ b1, ov1.set _ nid, nd, nid⟩
        · rw [qh, List.getElem?_set_ne (by omega)]; exact hfr j hj hji hjn
        · rw [qh, List.length_set]; exact hle
      rcases hk0 with rfl | rfl
      · simp (disch := omega) only [go_sem, Nat.reduceEqDiff, Nat.reduceAdd, Nat.reduceSub, Nat.reduceLeDiff, Nat.reduceLT, Nat.reduceMul, Nat.reduceBEq, Int.reduceEq, Int.reduceLT, Int.reduceLE, Int.reduceNeg, Int.reduceToNat, Int.reduceSub, Int.reduceAdd, reduceIte, e0, e6, e7, e8, b1, hll1, hg, hz, encI, List.getElem?_map, storeH, storeB, splice, ovo, ovn, ovc]
        exact nextP_intro (n - (0 + 1)) (by omega) (nx _ (by simp (disch := omega) only [go_sem, Nat.reduceEqDiff, Nat.reduceAdd, Nat.reduceSub, Nat.reduceLeDiff, Nat.reduceLT, Nat.reduceMul, Nat.reduceBEq, Int.reduceEq, Int.reduceLT, Int.reduceLE, Int.reduceNeg, Int.reduceToNat, Int.reduceSub, Int.reduceAdd, reduceIte, e0, e6, e7, e8, b1, hll1, hg, hz, encI, List.getElem?_map, storeH, storeB, splice, ovo, ovn, ovc]) (by simp (disch := omega) only [go_sem, Nat.reduceEqDiff, Nat.reduceAdd, Nat.reduceSub, Nat.reduceLeDiff, Nat.reduceLT, Nat.reduceMul, Nat.reduceBEq, Int.reduceEq, Int.reduceLT, Int.reduceLE, Int.reduceNeg, Int.reduceToNat, Int.reduceSub, Int.reduceAdd, reduceIte, e0, e6, e7, e8, b1, hll1, hg, hz, encI, List.getElem?_map, storeH, storeB, splice, ovo, ovn, ovc]) (by simp (disch := omega) only [go_sem, Nat.reduceEqDiff, Nat.reduceAdd, Nat.reduceSub, Nat.reduceLeDiff, Nat.reduceLT, Nat.reduceMul, Nat.reduceBEq, Int.reduceEq, Int.reduceLT, Int.reduceLE, Int.reduceNeg, Int.reduceToNat, Int.reduceSub, Int.reduceAdd, reduceIte, e0, e6, e7, e8, b1, hll1, hg, hz, encI, List.getElem?_map, storeH, storeB, splice, ovo, ovn, ovc]) (by simp (disch := omega) only [go_sem, Nat.reduceEqDiff, Nat.reduceAdd, Nat.reduceSub, Nat.reduceLeDiff, Nat.reduceLT, Nat.reduceMul, Nat.reduceBEq, Int.reduceEq, Int.reduceLT, Int.reduceLE, Int.reduceNeg, Int.reduceToNat, Int.reduceSub, Int.reduceAdd, reduceIte, e0, e6, e7, e8, b1, hll1, hg, hz, encI, List.getElem?_map, storeH, storeB, splice, ovo, ovn, ovc] <;> rfl) rfl)
      · simp (disch := omega) only [go_sem, Nat.reduceEqDiff, Nat.reduceAdd, Nat.reduceSub, Nat.reduceLeDiff, Nat.reduceLT, Nat.reduceMul, Nat.reduceBEq, Int.reduceEq, Int.reduceLT, Int.reduceLE, Int.reduceNeg, Int.reduceToNat, Int.reduceSub, Int.reduceAdd, reduceIte, e0, e6, e7, e8, b1, hll1, hg, hz, encI, List.getElem?_map, storeH, storeB, splice, ovo, ovn, ovc]
        exact nextP_intro (n - (8 + 1)) (by omega) (nx _ (by simp (disch := omega) only [go_sem, Nat.reduceEqDiff, Nat.reduceAdd, Nat.reduceSub, Nat.reduceLeDiff, Nat.reduceLT, Nat.reduceMul, Nat.reduceBEq, Int.reduceEq, Int.reduceLT, Int.reduceLE, Int.reduceNeg, Int.reduceToNat, Int.reduceSub, Int.reduceAdd, reduceIte, e0, e6, e7, e8, b1, hll1, hg, hz, encI, List.getElem?_map, storeH, storeB, splice, ovo, ovn, ovc]) (by simp (disch := omega) only [go_sem, Nat.reduceEqDiff, Nat.reduceAdd, Nat.reduceSub, Nat.reduceLeDiff, Nat.reduceLT, Nat.reduceMul, Nat.reduceBEq, Int.reduceEq, Int.reduceLT, Int.reduceLE, Int.reduceNeg, Int.reduceToNat, Int.reduceSub, Int.reduceAdd, reduceIte, e0, e6, e7, e8, b1, hll1, hg, hz, encI, List.getElem?_map, storeH, storeB, splice, ovo, ovn, ovc]) (by simp (disch := omega) only [go_sem, Nat.reduceEqDiff, Nat.reduceAdd, Nat.reduceSub, Nat.reduceLeDiff, Nat.reduceLT, Nat.reduceMul, Nat.reduceBEq, Int.reduceEq, Int.reduceLT, Int.reduceLE, Int.reduceNeg, Int.reduceToNat, Int.reduceSub, Int.reduceAdd, reduceIte, e0, e6, e7, e8, b1, hll1, hg, hz, encI, List.getElem?_map, storeH, storeB, splice, ovo, ovn, ovc]) (by simp (disch := omega) only [go_sem, Nat.reduceEqDiff, Nat.reduceAdd, Nat.reduceSub, Nat.reduceLeDiff, Nat.reduceLT, Nat.reduceMul, Nat.reduceBEq, Int.reduceEq, Int.reduceLT, Int.reduceLE, Int.reduceNeg, Int.reduceToNat, Int.reduceSub, Int.reduceAdd, reduceIte, e0, e6, e7, e8, b1, hll1, hg, hz, encI, List.getElem?_map, storeH, storeB, splice, ovo, ovn, ovc] <;> rfl) rfl)
    · by_cases hk7 : k = 7
      · subst hk7
        have hst : stepI t 7 zs[7] = ⟨t.seq, t.words, zs[7]⟩ := by unfold stepI; rw [if_neg (show ¬ 7 = 1 by omega)]; unfold stepW; rw [if_neg (by omega), if_pos rfl]
        simp (disch := omega) only [go_sem, Nat.reduceEqDiff, Nat.reduceAdd, Nat.reduceSub, Nat.reduceLeDiff, Nat.reduceLT, Nat.reduceMul, Nat.reduceBEq, Int.reduceEq, Int.reduceLT, Int.reduceLE, Int.reduceNeg, Int.reduceToNat, Int.reduceSub, Int.reduceAdd, reduceIte, e0, e6, e7, e8, b1, hll1, hg, hz, encI, List.getElem?_map, storeH, storeB, splice, ovo, ovn, ovc]
        refine nextP_intro (n - (7 + 1)) (by omega) ⟨7 + 1, by omega, rfl, by simp (disch := omega) only [go_sem, Nat.reduceEqDiff, Nat.reduceAdd, Nat.reduceSub, Nat.reduceLeDiff, Nat.reduceLT, Nat.reduceMul, Nat.reduceBEq, Int.reduceEq, Int.reduceLT, Int.reduceLE, Int.reduceNeg, Int.reduceToNat, Int.reduceSub, Int.reduceAdd, reduceIte, e0, e6, e7, e8, b1, hll1, hg, hz, encI, List.getElem?_map, storeH, storeB, splice, ovo, ovn, ovc], by simp (disch := omega) only [go_sem, Nat.reduceEqDiff, Nat.reduceAdd, Nat.reduceSub, Nat.reduceLeDiff, Nat.reduceLT, Nat.reduceMul, Nat.reduceBEq, Int.reduceEq, Int.reduceLT, Int.reduceLE, Int.reduceNeg, Int.reduceToNat, Int.reduceSub, Int.reduceAdd, reduceIte, e0, e6, e7, e8, b1, hll1, hg, hz, encI, List.getElem?_map, storeH, storeB, splice, ovo, ovn, ovc], by simp (disch := omega) only [go_sem, Nat.reduceEqDiff, Nat.reduceAdd, Nat.reduceSub, Nat.reduceLeDiff, Nat.reduceLT, Nat.reduceMul, Nat.reduceBEq, Int.reduceEq, Int.reduceLT, Int.reduceLE, Int.reduceNeg, Int.reduceToNat, Int.reduceSub, Int.reduceAdd, reduceIte, e0, e6, e7, e8, b1, hll1, hg, hz, encI, List.getElem?_map, storeH, storeB, splice, ovo, ovn, ovc], by simp (disch := omega) only [go_sem, Nat.reduceEqDiff, Nat.reduceAdd, Nat.reduceSub, Nat.reduceLeDiff, Nat.reduceLT, Nat.reduceMul, Nat.reduceBEq, Int.reduceEq, Int.reduceLT, Int.reduceLE, Int.reduceNeg, Int.reduceToNat, Int.reduceSub, Int.reduceAdd, reduceIte, e0, e6, e7, e8, b1, hll1, hg, hz, encI, List.getElem?_map, storeH, storeB, splice, ovo, ovn, ovc]; rfl, v, ids, ?_, hids, fun j hj hji hjn => ?_, ?_⟩
        · rw [rt, hst]
          exact ⟨heap_set _ b1, ov1.set _ nid, nd, nid⟩
        · rw [List.getElem?_set_ne (by omega)]; exact hfr j hj hji hjn
        · rw [List.length_set]; exact hle
      · have hk6 : 1 ≤ k ∧ k ≤ 6 := by omega
        have c7 : ¬ (k : Int) = 7 := by omega
        have c0 : ¬ (k : Int) = 0 := by omega
        have c8 : ¬ (k : Int) = 8 := by omega
        by_cases h6 : t.words.length = 6
        · obtain ⟨l, rfl, hl1, rfl⟩ := flat_own ov1 h6 (by omega)
          have hst : stepI t k zs[k] = ⟨t.seq, t.words.set (k - 1) zs[k], t.sum⟩ := by
            have : (if k = 1 then fixW t else t) = t := by unfold fixW; rw [if_pos h6]; split <;> rfl
            unfold stepI; rw [this]; unfold stepW; rw [if_neg hk0, if_neg hk7]
          have hlid : l ≠ id := fun e => nid (by simp [e])
          have hwl : (t.words.map encI).length = 6 := by simpa using h6
          have hrow := storeH_row (h := hp) (id := l) (n := 6) (i := k - 1) (sz := 1) (x := .int .i64 zs[k]) hl1 hwl (by omega) (fun e he => by obtain ⟨x, _, rfl⟩ := List.mem_map.1 he; rfl) rfl
          have htn : ((k : Int) - 1).toNat = k - 1 := by omega
          by_cases hk1 : k = 1
          · subst hk1
            have e8 : e 8 = .int .i64 1 := e8
            simp only [Nat.reduceSub] at hrow
            simp (disch := omega) only [go_sem, Nat.reduceEqDiff, Nat.reduceAdd, Nat.reduceSub, Nat.reduceLeDiff, Nat.reduceLT, Nat.reduceMul, Nat.reduceBEq, Int.reduceEq, Int.reduceLT, Int.reduceLE, Int.reduceNeg, Int.reduceToNat, Int.reduceSub, Int.reduceAdd, reduceIte, e0, e6, e7, e8, b1, hll1, hg, hz, encI, List.getElem?_map, hrow]
            refine nextP_intro (n - (1 + 1)) (by omega) ⟨1 + 1, by omega, rfl, by simp (disch := omega) only [go_sem, Nat.reduceEqDiff, Nat.reduceAdd, Nat.reduceSub, Nat.reduceLeDiff, Nat.reduceLT, Nat.reduceMul, Nat.reduceBEq, Int.reduceEq, Int.reduceLT, Int.reduceLE, Int.reduceNeg, Int.reduceToNat, Int.reduceSub, Int.reduceAdd, reduceIte, e0, e6, e7, e8, b1, hll1, hg, hz, encI, List.getElem?_map, hrow], by simp (disch := omega) only [go_sem, Nat.reduceEqDiff, Nat.reduceAdd, Nat.reduceSub, Nat.reduceLeDiff, Nat.reduceLT, Nat.reduceMul, Nat.reduceBEq, Int.reduceEq, Int.reduceLT, Int.reduceLE, Int.reduceNeg, Int.reduceToNat, Int.reduceSub, Int.reduceAdd, reduceIte, e0, e6, e7, e8, b1, hll1, hg, hz, encI, List.getElem?_map, hrow], by simp (disch := omega) only [go_sem, Nat.reduceEqDiff, Nat.reduceAdd, Nat.reduceSub, Nat.reduceLeDiff, Nat.reduceLT, Nat.reduceMul, Nat.reduceBEq, Int.reduceEq, Int.reduceLT, Int.reduceLE, Int.reduceNeg, Int.reduceToNat, Int.reduceSub, Int.reduceAdd, reduceIte, e0, e6, e7, e8, b1, hll1, hg, hz, encI, List.getElem?_map, hrow], by simp (disch := omega) only [go_sem, Nat.reduceEqDiff, Nat.reduceAdd, Nat.reduceSub, Nat.reduceLeDiff, Nat.reduceLT, Nat.reduceMul, Nat.reduceBEq, Int.reduceEq, Int.reduceLT, Int.reduceLE, Int.reduceNeg, Int.reduceToNat, Int.reduceSub, Int.reduceAdd, reduceIte, e0, e6, e7, e8, b1, hll1, hg, hz, encI, List.getElem?_map, hrow]; rfl, .own l 1 0 6 6, [l], ?_, hids, fun j hj hji hjn => ?_, ?_⟩
            · rw [rt, hst]
              exact ⟨heap_set_ne _ (Ne.symm hlid) b1, Owns.own_flat (by rw [heap_set _ hl1, List.map_set]; rfl) (by simpa using h6) (flat_encI _), nd, nid⟩
            · rw [List.getElem?_set_ne (fun e => by subst e; rcases hids l (by simp) with h1 | h1 <;> first | exact hjn h1 | omega)]; exact hfr j hj hji hjn
            · rw [List.length_set]; exact hle
          · have c1 : ¬ (k : Int) = 1 := by omega
            simp (disch := omega) only [go_sem, Nat.reduceEqDiff, Nat.reduceAdd, Nat.reduceSub, Nat.reduceLeDiff, Nat.reduceLT, Nat.reduceMul, Nat.reduceBEq, Int.reduceEq, Int.reduceLT, Int.reduceLE, Int.reduceNeg, Int.reduceToNat, Int.reduceSub, Int.reduceAdd, reduceIte, e0, e6, e7, e8, b1, hll1, hg, hz, encI, List.getElem?_map, htn, hrow]
            refine nextP_intro (n - (k + 1)) (by omega) ⟨k + 1, by omega, rfl, by simp (disch := omega) only [go_sem, Nat.reduceEqDiff, Nat.reduceAdd, Nat.reduceSub, Nat.reduceLeDiff, Nat.reduceLT, Nat.reduceMul, Nat.reduceBEq, Int.reduceEq, Int.reduceLT, Int.reduceLE, Int.reduceNeg, Int.reduceToNat, Int.reduceSub, Int.reduceAdd, reduceIte, e0, e6, e7, e8, b1, hll1, hg, hz, encI, List.getElem?_map, htn, hrow], by simp (disch := omega) only [go_sem, Nat.reduceEqDiff, Nat.reduceAdd, Nat.reduceSub, Nat.reduceLeDiff, Nat.reduceLT, Nat.reduceMul, Nat.reduceBEq, Int.reduceEq, Int.reduceLT, Int.reduceLE, Int.reduceNeg, Int.reduceToNat, Int.reduceSub, Int.reduceAdd, reduceIte, e0, e6, e7, e8, b1, hll1, hg, hz, encI, List.getElem?_map, htn, hrow], by simp (disch := omega) only [go_sem, Nat.reduceEqDiff, Nat.reduceAdd, Nat.reduceSub, Nat.reduceLeDiff, Nat.reduceLT, Nat.reduceMul, Nat.reduceBEq, Int.reduceEq, Int.reduceLT, Int.reduceLE, Int.reduceNeg, Int.reduceToNat, Int.reduceSub, Int.reduceAdd, reduceIte, e0, e6, e7, e8, b1, hll1, hg, hz, encI, List.getElem?_map, htn, hrow], by simp (disch := omega) only [go_sem, Nat.reduceEqDiff, Nat.reduceAdd, Nat.reduceSub, Nat.reduceLeDiff, Nat.reduceLT, Nat.reduceMul, Nat.reduceBEq, Int.reduceEq, Int.reduceLT, Int.reduceLE, Int.reduceNeg, Int.reduceToNat, Int.reduceSub, Int.reduceAdd, reduceIte, e0, e6, e7, e8, b1, hll1, hg, hz, encI, List.getElem?_map, htn, hrow]; rfl, .own l 1 0 6 6, [l], ?_, hids, fun j hj hji hjn => ?_, ?_⟩
            · rw [rt, hst]
              exact ⟨heap_set_ne _ (Ne.symm hlid) b1, Owns.own_flat (by rw [heap_set _ hl1, List.map_set]; rfl) (by simpa using h6) (flat_encI _), nd, nid⟩
            · rw [List.getElem?_set_ne (fun e => by subst e; rcases hids l (by simp) with h1 | h1 <;> first | exact hjn h1 | omega)]; exact hfr j hj hji hjn
            · rw [List.length_set]; exact hle
        · have hk1 : k = 1 := by
            by_cases e : k = 1
            · exact e
            · exact absurd (ht ▸ runI_len zs s k (by omega) (by omega)) h6
          subst hk1
          have e8 : e 8 = .int .i64 1 := e8
          have hst : stepI t 1 zs[1] = ⟨t.seq, zeros6.set 0 zs[1], t.sum⟩ := by
            unfold stepI fixW; rw [if_pos rfl, if_neg h6]; unfold stepW; rw [if_neg (by omega), if_neg (by omega)]
          have h6i : ¬ (t.words.length : Int) = 6 := by omega
          have lenv := Owns.len_ ov1
          simp only [List.length_map] at lenv
          have s1 : ∀ c x, (hp ++ x).set id c = hp.set id c ++ x := fun c x => set_appL _ _ _ (by omega)
          have r1 : ∀ c x, (hp.set id c ++ x)[id]? = some c := fun c x => heap_app (heap_set c b1)
          have r2 : ∀ c x, (hp.set id c ++ [x])[hp.length]? = some x := fun c x => by simp
          have s2 : ∀ c x y, (hp.set id c ++ [x]).set hp.length y = hp.set id c ++ [y] := fun c x y => by simp
          have b1' := fun x => heap_app (h' := x) b1
          simp (disch := omega) only [go_sem, Nat.reduceEqDiff, Nat.reduceAdd, Nat.reduceSub, Nat.reduceLeDiff, Nat.reduceLT, Nat.reduceMul, Nat.reduceBEq, Int.reduceEq, Int.reduceLT, Int.reduceLE, Int.reduceNeg, Int.reduceToNat, Int.reduceSub, Int.reduceAdd, reduceIte, e0, e6, e7, e8, b1, b1', hll1, hg, hz, encI, List.getElem?_map, lenv, storeH, storeB, splice, ovo, ovn, ovc, s1, r1, r2, s2]
          refine nextP_intro (n - (1 + 1)) (by omega) ⟨1 + 1, by omega, rfl, by simp (disch := omega) only [go_sem, Nat.reduceEqDiff, Nat.reduceAdd, Nat.reduceSub, Nat.reduceLeDiff, Nat.reduceLT, Nat.reduceMul, Nat.reduceBEq, Int.reduceEq, Int.reduceLT, Int.reduceLE, Int.reduceNeg, Int.reduceToNat, Int.reduceSub, Int.reduceAdd, reduceIte, e0, e6, e7, e8, b1, b1', hll1, hg, hz, encI, List.getElem?_map, lenv, storeH, storeB, splice, ovo, ovn, ovc, s1, r1, r2, s2], by simp (disch := omega) only [go_sem, Nat.reduceEqDiff, Nat.reduceAdd, Nat.reduceSub, Nat.reduceLeDiff, Nat.reduceLT, Nat.reduceMul, Nat.reduceBEq, Int.reduceEq, Int.reduceLT, Int.reduceLE, Int.reduceNeg, Int.reduceToNat, Int.reduceSub, Int.reduceAdd, reduceIte, e0, e6, e7, e8, b1, b1', hll1, hg, hz, encI, List.getElem?_map, lenv, storeH, storeB, splice, ovo, ovn, ovc, s1, r1, r2, s2], by simp (disch := omega) only [go_sem, Nat.reduceEqDiff, Nat.reduceAdd, Nat.reduceSub, Nat.reduceLeDiff, Nat.reduceLT, Nat.reduceMul, Nat.reduceBEq, Int.reduceEq, Int.reduceLT, Int.reduceLE, Int.reduceNeg, Int.reduceToNat, Int.reduceSub, Int.reduceAdd, reduceIte, e0, e6, e7, e8, b1, b1', hll1, hg, hz, encI, List.getElem?_map, lenv, storeH, storeB, splice, ovo, ovn, ovc, s1, r1, r2, s2], by simp (disch := omega) only [go_sem, Nat.reduceEqDiff, Nat.reduceAdd, Nat.reduceSub, Nat.reduceLeDiff, Nat.reduceLT, Nat.reduceMul, Nat.reduceBEq, Int.reduceEq, Int.reduceLT, Int.reduceLE, Int.reduceNeg, Int.reduceToNat, Int.reduceSub, Int.reduceAdd, reduceIte, e0, e6, e7, e8, b1, b1', hll1, hg, hz, encI, List.getElem?_map, lenv, storeH, storeB, splice, ovo, ovn, ovc, s1, r1, r2, s2]; rfl, .own hp.length 1 0 6 6, [hp.length], ?_, fun i hi => ?_, fun j hj hji hjn => ?_, ?_⟩
          · rw [rt, hst]
            refine ⟨r1 _ _, Owns.own_flat (r2 _ _) rfl (flat_encI _), by simp, by simp; omega⟩
          · simp at hi; subst hi
            exact .inr hle
          · rw [List.getElem?_append_left (by simp; omega), List.getElem?_set_ne (by omega)]; exact hfr j hj hji hjn
          · simp; omega
  · simp (disch := omega) only [go_sem, Nat.reduceEqDiff, Nat.reduceAdd, Nat.reduceSub, Nat.reduceLeDiff, Nat.reduceLT, Nat.reduceMul, Nat.reduceBEq, Int.reduceEq, Int.reduceLT, Int.reduceLE, Int.reduceNeg, Int.reduceToNat, Int.reduceSub, Int.reduceAdd, reduceIte, e0, e6, e7, e8, b1, encI]
    have : k = n := by omega
    subst this
    exact ⟨v, ids, ⟨b1, ov1, nd, nid⟩, hids, hfr, hle⟩
theorem saveSome3_c (h : Heap) (id ll n tot : Nat) (zs : List Int) (s : Slot) (v0 o0 o1 o2 : V) (ids0 : List Nat) (hb : SlotAt h id 3 s v0 ids0 o0 o1 o2) (hl : h[ll]? = some (zs.map encI)) (hz : zs.length = tot) (hn : n ≤ tot) (h9 : n ≤ 9) (hne : ll ≠ id) (hni : ll ∉ ids0) :
    C Try.prog 66 [.ptr id 1 0 3, .own ll 1 0 n tot] h (fun r h' => r = .tup [] ∧ ∃ v ids, SlotAt h' id 3 (runI 0 s (zs.take n)) v ids o0 o1 o2 ∧ (∀ i ∈ ids, i ∈ ids0 ∨ h.length ≤ i) ∧ (∀ j, j < h.length → j ≠ id → j ∉ ids0 → h'[j]? = h[j]?) ∧ h.length ≤ h'.length) := by
  have hid0 := heap_lt hb.1
  have hll := heap_lt hl
  refine C.by mixed (cfn_ok Try.func66 ok66) rfl ?_
  simp (disch := omega) only [s66, go_sem, Nat.reduceEqDiff, Nat.reduceAdd, Nat.reduceSub, Nat.reduceLeDiff, Nat.reduceLT, Nat.reduceMul, Nat.reduceBEq, Int.reduceEq, Int.reduceLT, Int.reduceLE, Int.reduceNeg, Int.reduceToNat, Int.reduceSub, Int.reduceAdd, reduceIte]
  refine loopP_intro (fun m q => ∃ (k : Nat), k ≤ n ∧ m = n - k ∧ q.e 0 = .ptr id 1 0 3 ∧ q.e 6 = .own ll 1 0 n tot ∧ q.e 7 = .int .i64 n ∧ q.e 8 = .int .i64 k ∧ ∃ v ids, SlotAt q.h id 3 (runI 0 s (zs.take k)) v ids o0 o1 o2 ∧ (∀ i ∈ ids, i ∈ ids0 ∨ h.length ≤ i) ∧ (∀ j, j < h.length → j ≠ id → j ∉ ids0 → q.h[j]? = h[j]?) ∧ h.length ≤ q.h.length) n ⟨0, by omega, by omega, by simp (disch := omega) only [go_sem, Nat.reduceEqDiff, Nat.reduceAdd, Nat.reduceSub, Nat.reduceLeDiff, Nat.reduceLT, Nat.reduceMul, Nat.reduceBEq, Int.reduceEq, Int.reduceLT, Int.reduceLE, Int.reduceNeg, Int.reduceToNat, Int.reduceSub, Int.reduceAdd, reduceIte], by simp (disch := omega) only [go_sem, Nat.reduceEqDiff, Nat.reduceAdd, Nat.reduceSub, Nat.reduceLeDiff, Nat.reduceLT, Nat.reduceMul, Nat.reduceBEq, Int.reduceEq, Int.reduceLT, Int.reduceLE, Int.reduceNeg, Int.reduceToNat, Int.reduceSub, Int.reduceAdd, reduceIte], by simp (disch := omega) only [go_sem, Nat.reduceEqDiff, Nat.reduceAdd, Nat.reduceSub, Nat.reduceLeDiff, Nat.reduceLT, Nat.reduceMul, Nat.reduceBEq, Int.reduceEq, Int.reduceLT, Int.reduceLE, Int.reduceNeg, Int.reduceToNat, Int.reduceSub, Int.reduceAdd, reduceIte], by simp (disch := omega) only [go_sem, Nat.reduceEqDiff, Nat.reduceAdd, Nat.reduceSub, Nat.reduceLeDiff, Nat.reduceLT, Nat.reduceMul, Nat.reduceBEq, Int.reduceEq, Int.reduceLT, Int.reduceLE, Int.reduceNeg, Int.reduceToNat, Int.reduceSub, Int.reduceAdd, reduceIte]; rfl, v0, ids0, hb, fun i hi => .inl hi, fun _ _ _ _ => rfl, Nat.le_refl _⟩ ?_
  rintro m e hp ⟨k, hk, rfl, e0, e6, e7, e8, v, ids, ⟨b1, ov1, nd, nid⟩, hids, hfr, hle⟩
  simp only at e0 e6 e7 e8 b1 ov1 hfr hle
  simp only [Nat.reduceEqDiff, if_true, if_false] at b1
  have hll1 : hp[ll]? = some (zs.map encI) := by rw [hfr ll hll hne hni]; exact hl
  obtain ⟨ovo, ovn, ovc⟩ := ov1.vv
  simp (disch := omega) only [go_sem, Nat.reduceEqDiff, Nat.reduceAdd, Nat.reduceSub, Nat.reduceLeDiff, Nat.reduceLT, Nat.reduceMul, Nat.reduceBEq, Int.reduceEq, Int.reduceLT, Int.reduceLE, Int.reduceNeg, Int.reduceToNat, Int.reduceSub, Int.reduceAdd, reduceIte, e0, e6, e7, e8, b1, encI]
  refine condP_dec (fun hlt => ?_) (fun hlt => ?_)
  · have hlt' : k < zs.length := by omega
    have hg : zs[k]? = some zs[k] := List.getElem?_eq_getElem hlt'
    have rt := runI_take hlt' s
    generalize ht : runI 0 s (zs.take k) = t at *
    have lt1 := ov1.lt
    have hidl := heap_lt b1
    by_cases hk0 : k = 0 ∨ k = 8
    · have hk1 : ¬ (k : Int) = 1 := by omega
      have hst : stepI t k zs[k] = ⟨zs[k], t.words, t.sum⟩ := by unfold stepI; rw [if_neg (show ¬ k = 1 by omega)]; unfold stepW; rw [if_pos hk0]
      have nx : ∀ (q : St), q.e 0 = .ptr id 1 0 3 → q.e 6 = .own ll 1 0 n tot → q.e 7 = .int .i64 n → q.e 8 = .int .i64 ((k : Int) + 1) → q.h = hp.set id [[o0, o1, o2, .int .i64 (zs[k]), v, .int .i64 (t.sum)]] → ∃ (k' : Nat), k' ≤ n ∧ n - (k + 1) = n - k' ∧ q.e 0 = .ptr id 1 0 3 ∧ q.e 6 = .own ll 1 0 n tot ∧ q.e 7 = .int .i64 n ∧ q.e 8 = .int .i64 k' ∧ ∃ v ids, SlotAt q.h id 3 (runI 0 s (zs.take k')) v ids o0 o1 o2 ∧ (∀ i ∈ ids, i ∈ ids0 ∨ h.length ≤ i) ∧ (∀ j, j < h.length → j ≠ id → j ∉ ids0 → q.h[j]? = h[j]?) ∧ h.length ≤ q.h.length := fun q q0 q6 q7 q8 qh => by
        refine ⟨k + 1, by omega, rfl, q0, q6, q7, q8, v, ids, ?_, hids, fun j hj hji hjn => ?_, ?_⟩
        · rw [rt, hst, qh]
          exact ⟨heap_set _ b1, ov1.set _ nid, nd, nid⟩
        · rw [qh, List.getElem?_set_ne (by omega)]; exact hfr j hj hji hjn
        · rw [qh, List.length_set]; exact hle
      rcases hk0 with rfl | rfl
      · simp (disch := omega) only [go_sem, Nat.reduceEqDiff, Nat.reduceAdd, Nat.reduceSub, Nat.reduceLeDiff, Nat.reduceLT, Nat.reduceMul, Nat.reduceBEq, Int.reduceEq, Int.reduceLT, Int.reduceLE, Int.reduceNeg, Int.reduceToNat, Int.reduceSub, Int.reduceAdd, reduceIte, e0, e6, e7, e8, b1, hll1, hg, hz, encI, List.getElem?_map, storeH, storeB, splice, ovo, ovn, ovc]
        exact nextP_intro (n - (0 + 1)) (by omega) (nx _ (by simp (disch := omega) only [go_sem, Nat.reduceEqDiff, Nat.reduceAdd, Nat.reduceSub, Nat.reduceLeDiff, Nat.reduceLT, Nat.reduceMul, Nat.reduceBEq, Int.reduceEq, Int.reduceLT, Int.reduceLE, Int.reduceNeg, Int.reduceToNat, Int.reduceSub, Int.reduceAdd, reduceIte, e0, e6, e7, e8, b1, hll1, hg, hz, encI, List.getElem?_map, storeH, storeB, splice, ovo, ovn, ovc]) (by simp (disch := omega) only [go_sem, Nat.reduceEqDiff, Nat.reduceAdd, Nat.reduceSub, Nat.reduceLeDiff, Nat.reduceLT, Nat.reduceMul, Nat.reduceBEq, Int.reduceEq, Int.reduceLT, Int.reduceLE, Int.reduceNeg, Int.reduceToNat, Int.reduceSub, Int.reduceAdd, reduceIte, e0, e6, e7, e8, b1, hll1, hg, hz, encI, List.getElem?_map, storeH, storeB, splice, ovo, ovn, ovc]) (by simp (disch := omega) only [go_sem, Nat.reduceEqDiff, Nat.reduceAdd, Nat.reduceSub, Nat.reduceLeDiff, Nat.reduceLT, Nat.reduceMul, Nat.reduceBEq, Int.reduceEq, Int.reduceLT, Int.reduceLE, Int.reduceNeg, Int.reduceToNat, Int.reduceSub, Int.reduceAdd, reduceIte, e0, e6, e7, e8, b1, hll1, hg, hz, encI, List.getElem?_map, storeH, storeB, splice, ovo, ovn, ovc]) (by simp (disch := omega) only [go_sem, Nat.reduceEqDiff, Nat.reduceAdd, Nat.reduceSub, Nat.reduceLeDiff, Nat.reduceLT, Nat.reduceMul, Nat.reduceBEq, Int.reduceEq, Int.reduceLT, Int.reduceLE, Int.reduceNeg, Int.reduceToNat, Int.reduceSub, Int.reduceAdd, reduceIte, e0, e6, e7, e8, b1, hll1, hg, hz, encI, List.getElem?_map, storeH, storeB, splice, ovo, ovn, ovc] <;> rfl) rfl)
      · simp (disch := omega) only [go_sem, Nat.reduceEqDiff, Nat.reduceAdd, Nat.reduceSub, Nat.reduceLeDiff, Nat.reduceLT, Nat.reduceMul, Nat.reduceBEq, Int.reduceEq, Int.reduceLT, Int.reduceLE, Int.reduceNeg, Int.reduceToNat, Int.reduceSub, Int.reduceAdd, reduceIte, e0, e6, e7, e8, b1, hll1, hg, hz, encI, List.getElem?_map, storeH, storeB, splice, ovo, ovn, ovc]
        exact nextP_intro (n - (8 + 1)) (by omega) (nx _ (by simp (disch := omega) only [go_sem, Nat.reduceEqDiff, Nat.reduceAdd, Nat.reduceSub, Nat.reduceLeDiff, Nat.reduceLT, Nat.reduceMul, Nat.reduceBEq, Int.reduceEq, Int.reduceLT, Int.reduceLE, Int.reduceNeg, Int.reduceToNat, Int.reduceSub, Int.reduceAdd, reduceIte, e0, e6, e7, e8, b1, hll1, hg, hz, encI, List.getElem?_map, storeH, storeB, splice, ovo, ovn, ovc]) (by simp (disch := omega) only [go_sem, Nat.reduceEqDiff, Nat.reduceAdd, Nat.reduceSub, Nat.reduceLeDiff, Nat.reduceLT, Nat.reduceMul, Nat.reduceBEq, Int.reduceEq, Int.reduceLT, Int.reduceLE, Int.reduceNeg, Int.reduceToNat, Int.reduceSub, Int.reduceAdd, reduceIte, e0, e6, e7, e8, b1, hll1, hg, hz, encI, List.getElem?_map, storeH, storeB, splice, ovo, ovn, ovc]) (by simp (disch := omega) only [go_sem, Nat.reduceEqDiff, Nat.reduceAdd, Nat.reduceSub, Nat.reduceLeDiff, Nat.reduceLT, Nat.reduceMul, Nat.reduceBEq, Int.reduceEq, Int.reduceLT, Int.reduceLE, Int.reduceNeg, Int.reduceToNat, Int.reduceSub, Int.reduceAdd, reduceIte, e0, e6, e7, e8, b1, hll1, hg, hz, encI, List.getElem?_map, storeH, storeB, splice, ovo, ovn, ovc]) (by simp (disch := omega) only [go_sem, Nat.reduceEqDiff, Nat.reduceAdd, Nat.reduceSub, Nat.reduceLeDiff, Nat.reduceLT, Nat.reduceMul, Nat.reduceBEq, Int.reduceEq, Int.reduceLT, Int.reduceLE, Int.reduceNeg, Int.reduceToNat, Int.reduceSub, Int.reduceAdd, reduceIte, e0, e6, e7, e8, b1, hll1, hg, hz, encI, List.getElem?_map, storeH, storeB, splice, ovo, ovn, ovc] <;> rfl) rfl)
    · by_cases hk7 : k = 7
      · subst hk7
        have hst : stepI t 7 zs[7] = ⟨t.seq, t.words, zs[7]⟩ := by unfold stepI; rw [if_neg (show ¬ 7 = 1 by omega)]; unfold stepW; rw [if_neg (by omega), if_pos rfl]
        simp (disch := omega) only [go_sem, Nat.reduceEqDiff, Nat.reduceAdd, Nat.reduceSub, Nat.reduceLeDiff, Nat.reduceLT, Nat.reduceMul, Nat.reduceBEq, Int.reduceEq, Int.reduceLT, Int.reduceLE, Int.reduceNeg, Int.reduceToNat, Int.reduceSub, Int.reduceAdd, reduceIte, e0, e6, e7, e8, b1, hll1, hg, hz, encI, List.getElem?_map, storeH, storeB, splice, ovo, ovn, ovc]
        refine nextP_intro (n - (7 + 1)) (by omega) ⟨7 + 1, by omega, rfl, by simp (disch := omega) only [go_sem, Nat.reduceEqDiff, Nat.reduceAdd, Nat.reduceSub, Nat.reduceLeDiff, Nat.reduceLT, Nat.reduceMul, Nat.reduceBEq, Int.reduceEq, Int.reduceLT, Int.reduceLE, Int.reduceNeg, Int.reduceToNat, Int.reduceSub, Int.reduceAdd, reduceIte, e0, e6, e7, e8, b1, hll1, hg, hz, encI, List.getElem?_map, storeH, storeB, splice, ovo, ovn, ovc], by simp (disch := omega) only [go_sem, Nat.reduceEqDiff, Nat.reduceAdd, Nat.reduceSub, Nat.reduceLeDiff, Nat.reduceLT, Nat.reduceMul, Nat.reduceBEq, Int.reduceEq, Int.reduceLT, Int.reduceLE, Int.reduceNeg, Int.reduceToNat, Int.reduceSub, Int.reduceAdd, reduceIte, e0, e6, e7, e8, b1, hll1, hg, hz, encI, List.getElem?_map, storeH, storeB, splice, ovo, ovn, ovc], by simp (disch := omega) only [go_sem, Nat.reduceEqDiff, Nat.reduceAdd, Nat.reduceSub, Nat.reduceLeDiff, Nat.reduceLT, Nat.reduceMul, Nat.reduceBEq, Int.reduceEq, Int.reduceLT, Int.reduceLE, Int.reduceNeg, Int.reduceToNat, Int.reduceSub, Int.reduceAdd, reduceIte, e0, e6, e7, e8, b1, hll1, hg, hz, encI, List.getElem?_map, storeH, storeB, splice, ovo, ovn, ovc], by simp (disch := omega) only [go_sem, Nat.reduceEqDiff, Nat.reduceAdd, Nat.reduceSub, Nat.reduceLeDiff, Nat.reduceLT, Nat.reduceMul, Nat.reduceBEq, Int.reduceEq, Int.reduceLT, Int.reduceLE, Int.reduceNeg, Int.reduceToNat, Int.reduceSub, Int.reduceAdd, reduceIte, e0, e6, e7, e8, b1, hll1, hg, hz, encI, List.getElem?_map, storeH, storeB, splice, ovo, ovn, ovc]; rfl, v, ids, ?_, hids, fun j hj hji hjn => ?_, ?_⟩
        · rw [rt, hst]
          exact ⟨heap_set _ b1, ov1.set _ nid, nd, nid⟩
        · rw [List.getElem?_set_ne (by omega)]; exact hfr j hj hji hjn
        · rw [List.length_set]; exact hle
      · have hk6 : 1 ≤ k ∧ k ≤ 6 := by omega
        have c7 : ¬ (k : Int) = 7 := by omega
        have c0 : ¬ (k : Int) = 0 := by omega
        have c8 : ¬ (k : Int) = 8 := by omega
        by_cases h6 : t.words.length = 6
        · obtain ⟨l, rfl, hl1, rfl⟩ := flat_own ov1 h6 (by omega)
          have hst : stepI t k zs[k] = ⟨t.seq, t.words.set (k - 1) zs[k], t.sum⟩ := by
            have : (if k = 1 then fixW t else t) = t := by unfold fixW; rw [if_pos h6]; split <;> rfl
            unfold stepI; rw [this]; unfold stepW; rw [if_neg hk0, if_neg hk7]
          have hlid : l ≠ id := fun e => nid (by simp [e])
          have hwl : (t.words.map encI).length = 6 := by simpa using h6
          have hrow := storeH_row (h := hp) (id := l) (n := 6) (i := k - 1) (sz := 1) (x := .int .i64 zs[k]) hl1 hwl (by omega) (fun e he => by obtain ⟨x, _, rfl⟩ := List.mem_map.1 he; rfl) rfl
          have htn : ((k : Int) - 1).toNat = k - 1 := by omega
          by_cases hk1 : k = 1
          · subst hk1
            have e8 : e 8 = .int .i64 1 := e8
            simp only [Nat.reduceSub] at hrow
            simp (disch := omega) only [go_sem, Nat.reduceEqDiff, Nat.reduceAdd, Nat.reduceSub, Nat.reduceLeDiff, Nat.reduceLT, Nat.reduceMul, Nat.reduceBEq, Int.reduceEq, Int.reduceLT, Int.reduceLE, Int.reduceNeg, Int.reduceToNat, Int.reduceSub, Int.reduceAdd, reduceIte, e0, e6, e7, e8, b1, hll1, hg, hz, encI, List.getElem?_map, hrow]
            refine nextP_intro (n - (1 + 1)) (by omega) ⟨1 + 1, by omega, rfl, by simp (disch := omega) only [go_sem, Nat.reduceEqDiff, Nat.reduceAdd, Nat.reduceSub, Nat.reduceLeDiff, Nat.reduceLT, Nat.reduceMul, Nat.reduceBEq, Int.reduceEq, Int.reduceLT, Int.reduceLE, Int.reduceNeg, Int.reduceToNat, Int.reduceSub, Int.reduceAdd, reduceIte, e0, e6, e7, e8, b1, hll1, hg, hz, encI, List.getElem?_map, hrow], by simp (disch := omega) only [go_sem, Nat.reduceEqDiff, Nat.reduceAdd, Nat.reduceSub, Nat.reduceLeDiff, Nat.reduceLT, Nat.reduceMul, Nat.reduceBEq, Int.reduceEq, Int.reduceLT, Int.reduceLE, Int.reduceNeg, Int.reduceToNat, Int.reduceSub, Int.reduceAdd, reduceIte, e0, e6, e7, e8, b1, hll1, hg, hz, encI, List.getElem?_map, hrow], by simp (disch := omega) only [go_sem, Nat.reduceEqDiff, Nat.reduceAdd, Nat.reduceSub, Nat.reduceLeDiff, Nat.reduceLT, Nat.reduceMul, Nat.reduceBEq, Int.reduceEq, Int.reduceLT, Int.reduceLE, Int.reduceNeg, Int.reduceToNat, Int.reduceSub, Int.reduceAdd, reduceIte, e0, e6, e7, e8, b1, hll1, hg, hz, encI, List.getElem?_map, hrow], by simp (disch := omega) only [go_sem, Nat.reduceEqDiff, Nat.reduceAdd, Nat.reduceSub, Nat.reduceLeDiff, Nat.reduceLT, Nat.reduceMul, Nat.reduceBEq, Int.reduceEq, Int.reduceLT, Int.reduceLE, Int.reduceNeg, Int.reduceToNat, Int.reduceSub, Int.reduceAdd, reduceIte, e0, e6, e7, e8, b1, hll1, hg, hz, encI, List.getElem?_map, hrow]; rfl, .own l 1 0 6 6, [l], ?_, hids, fun j hj hji hjn => ?_, ?_⟩
            · rw [rt, hst]
              exact ⟨heap_set_ne _ (Ne.symm hlid) b1, Owns.own_flat (by rw [heap_set _ hl1, List.map_set]; rfl) (by simpa using h6) (flat_encI _), nd, nid⟩
            · rw [List.getElem?_set_ne (fun e => by subst e; rcases hids l (by simp) with h1 | h1 <;> first | exact hjn h1 | omega)]; exact hfr j hj hji hjn
            · rw [List.length_set]; exact hle
          · have c1 : ¬ (k : Int) = 1 := by omega
            simp (disch := omega) only [go_sem, Nat.reduceEqDiff, Nat.reduceAdd, Nat.reduceSub, Nat.reduceLeDiff, Nat.reduceLT, Nat.reduceMul, Nat.reduceBEq, Int.reduceEq, Int.reduceLT, Int.reduceLE, Int.reduceNeg, Int.reduceToNat, Int.reduceSub, Int.reduceAdd, reduceIte, e0, e6, e7, e8, b1, hll1, hg, hz, encI, List.getElem?_map, htn, hrow]
            refine nextP_intro (n - (k + 1)) (by omega) ⟨k + 1, by omega, rfl, by simp (disch := omega) only [go_sem, Nat.reduceEqDiff, Nat.reduceAdd, Nat.reduceSub, Nat.reduceLeDiff, Nat.reduceLT, Nat.reduceMul, Nat.reduceBEq, Int.reduceEq, Int.reduceLT, Int.reduceLE, Int.reduceNeg, Int.reduceToNat, Int.reduceSub, Int.reduceAdd, reduceIte, e0, e6, e7, e8, b1, hll1, hg, hz, encI, List.getElem?_map, htn, hrow], by simp (disch := omega) only [go_sem, Nat.reduceEqDiff, Nat.reduceAdd, Nat.reduceSub, Nat.reduceLeDiff, Nat.reduceLT, Nat.reduceMul, Nat.reduceBEq, Int.reduceEq, Int.reduceLT, Int.reduceLE, Int.reduceNeg, Int.reduceToNat, Int.reduceSub, Int.reduceAdd, reduceIte, e0, e6, e7, e8, b1, hll1, hg, hz, encI, List.getElem?_map, htn, hrow], by simp (disch := omega) only [go_sem, Nat.reduceEqDiff, Nat.reduceAdd, Nat.reduceSub, Nat.reduceLeDiff, Nat.reduceLT, Nat.reduceMul, Nat.reduceBEq, Int.reduceEq, Int.reduceLT, Int.reduceLE, Int.reduceNeg, Int.reduceToNat, Int.reduceSub, Int.reduceAdd, reduceIte, e0, e6, e7, e8, b1, hll1, hg, hz, encI, List.getElem?_map, htn, hrow], by simp (disch := omega) only [go_sem, Nat.reduceEqDiff, Nat.reduceAdd, Nat.reduceSub, Nat.reduceLeDiff, Nat.reduceLT, Nat.reduceMul, Nat.reduceBEq, Int.reduceEq, Int.reduceLT, Int.reduceLE, Int.reduceNeg, Int.reduceToNat, Int.reduceSub, Int.reduceAdd, reduceIte, e0, e6, e7, e8, b1, hll1, hg, hz, encI, List.getElem?_map, htn, hrow]; rfl, .own l 1 0 6 6, [l], ?_, hids, fun j hj hji hjn => ?_, ?_⟩
            · rw [rt, hst]
              exact ⟨heap_set_ne _ (Ne.symm hlid) b1, Owns.own_flat (by rw [heap_set _ hl1, List.map_set]; rfl) (by simpa using h6) (flat_encI _), nd, nid⟩
            · rw [List.getElem?_set_ne (fun e => by subst e; rcases hids l (by simp) with h1 | h1 <;> first | exact hjn h1 | omega)]; exact hfr j hj hji hjn
            · rw [List.length_set]; exact hle
        · have hk1 : k = 1 := by
            by_cases e : k = 1
            · exact e
            · exact absurd (ht ▸ runI_len zs s k (by omega) (by omega)) h6
          subst hk1
          have e8 : e 8 = .int .i64 1 := e8
          have hst : stepI t 1 zs[1] = ⟨t.seq, zeros6.set 0 zs[1], t.sum⟩ := by
            unfold stepI fixW; rw [if_pos rfl, if_neg h6]; unfold stepW; rw [if_neg (by omega), if_neg (by omega)]
          have h6i : ¬ (t.words.length : Int) = 6 := by omega
          have lenv := Owns.len_ ov1
          simp only [List.length_map] at lenv
          have s1 : ∀ c x, (hp ++ x).set id c = hp.set id c ++ x := fun c x => set_appL _ _ _ (by omega)
          have r1 : ∀ c x, (hp.set id c ++ x)[id]? = some c := fun c x => heap_app (heap_set c b1)
          have r2 : ∀ c x, (hp.set id c ++ [x])[hp.length]? = some x := fun c x => by simp
          have s2 : ∀ c x y, (hp.set id c ++ [x]).set hp.length y = hp.set id c ++ [y] := fun c x y => by simp
          have b1' := fun x => heap_app (h' := x) b1
          simp (disch := omega) only [go_sem, Nat.reduceEqDiff, Nat.reduceAdd, Nat.reduceSub, Nat.reduceLeDiff, Nat.reduceLT, Nat.reduceMul, Nat.reduceBEq, Int.reduceEq, Int.reduceLT, Int.reduceLE, Int.reduceNeg, Int.reduceToNat, Int.reduceSub, Int.reduceAdd, reduceIte, e0, e6, e7, e8, b1, b1', hll1, hg, hz, encI, List.getElem?_map, lenv, storeH, storeB, splice, ovo, ovn, ovc, s1, r1, r2, s2]
          refine nextP_intro (n - (1 + 1)) (by omega) ⟨1 + 1, by omega, rfl, by simp (disch := omega) only [go_sem, Nat.reduceEqDiff, Nat.reduceAdd, Nat.reduceSub, Nat.reduceLeDiff, Nat.reduceLT, Nat.reduceMul, Nat.reduceBEq, Int.reduceEq, Int.reduceLT, Int.reduceLE, Int.reduceNeg, Int.reduceToNat, Int.reduceSub, Int.reduceAdd, reduceIte, e0, e6, e7, e8, b1, b1', hll1, hg, hz, encI, List.getElem?_map, lenv, storeH, storeB, splice, ovo, ovn, ovc, s1, r1, r2, s2], by simp (disch := omega) only [go_sem, Nat.reduceEqDiff, Nat.reduceAdd, Nat.reduceSub, Nat.reduceLeDiff, Nat.reduceLT, Nat.reduceMul, Nat.reduceBEq, Int.reduceEq, Int.reduceLT, Int.reduceLE, Int.reduceNeg, Int.reduceToNat, Int.reduceSub, Int.reduceAdd, reduceIte, e0, e6, e7, e8, b1, b1', hll1, hg, hz, encI, List.getElem?_map, lenv, storeH, storeB, splice, ovo, ovn, ovc, s1, r1, r2, s2], by simp (disch := omega) only [go_sem, Nat.reduceEqDiff, Nat.reduceAdd, Nat.reduceSub, Nat.reduceLeDiff, Nat.reduceLT, Nat.reduceMul, Nat.reduceBEq, Int.reduceEq, Int.reduceLT, Int.reduceLE, Int.reduceNeg, Int.reduceToNat, Int.reduceSub, Int.reduceAdd, reduceIte, e0, e6, e7, e8, b1, b1', hll1, hg, hz, encI, List.getElem?_map, lenv, storeH, storeB, splice, ovo, ovn, ovc, s1, r1, r2, s2], by simp (disch := omega) only [go_sem, Nat.reduceEqDiff, Nat.reduceAdd, Nat.reduceSub, Nat.reduceLeDiff, Nat.reduceLT, Nat.reduceMul, Nat.reduceBEq, Int.reduceEq, Int.reduceLT, Int.reduceLE, Int.reduceNeg, Int.reduceToNat, Int.reduceSub, Int.reduceAdd, reduceIte, e0, e6, e7, e8, b1, b1', hll1, hg, hz, encI, List.getElem?_map, lenv, storeH, storeB, splice, ovo, ovn, ovc, s1, r1, r2, s2]; rfl, .own hp.length 1 0 6 6, [hp.length], ?_, fun i hi => ?_, fun j hj hji hjn => ?_, ?_⟩
          · rw [rt, hst]
            refine ⟨r1 _ _, Owns.own_flat (r2 _ _) rfl (flat_encI _), by simp, by simp; omega⟩
          · simp at hi; subst hi
            exact .inr hle
          · rw [List.getElem?_append_left (by simp; omega), List.getElem?_set_ne (by omega)]; exact hfr j hj hji hjn
          · simp; omega
  · simp (disch := omega) only [go_sem, Nat.reduceEqDiff, Nat.reduceAdd, Nat.reduceSub, Nat.reduceLeDiff, Nat.reduceLT, Nat.reduceMul, Nat.reduceBEq, Int.reduceEq, Int.reduceLT, Int.reduceLE, Int.reduceNeg, Int.reduceToNat, Int.reduceSub, Int.reduceAdd, reduceIte, e0, e6, e7, e8, b1, encI]
    have : k = n := by omega
    subst this
    exact ⟨v, ids, ⟨b1, ov1, nd, nid⟩, hids, hfr, hle⟩
end Go.Av
