import Derived.Test.YtpjcclgpkicadaaJ6Some
namespace Go.Av
open Go.Proofs Go.RowKit
set_option linter.unusedVariables false
set_option linter.unusedSimpArgs false
set_option maxRecDepth 100000
set_option maxHeartbeats 4000000
def z3 : List V := [.int .i64 0, .nils, .int .i64 0]
/-- A slot in a box, behind a heap that stays but for what the slot owned. -/
structure WSt (h H : Heap) (ids0 : List Nat) (s : Slot) (v : V) (ids : List Nat) : Prop where
  box : H[h.length]? = some [[.int .i64 s.seq, v, .int .i64 s.sum]]
  res : H[h.length + 1]? = some [z3]
  own : Owns H (.lst 1 (s.words.map encI)) v ids
  nd : ids.Nodup
  new : ∀ i ∈ ids, i ∈ ids0 ∨ h.length + 2 ≤ i
  fr : ∀ j, j < h.length → j ∉ ids0 → H[j]? = h[j]?
  len : h.length + 2 ≤ H.length
theorem WSt.nin {h H : Heap} {ids0 : List Nat} {s : Slot} {v : V} {ids : List Nat} (w : WSt h H ids0 s v ids) (lt0 : ∀ i ∈ ids0, i < h.length) : h.length ∉ ids ∧ h.length + 1 ∉ ids := by
  constructor <;> intro hm <;> rcases w.new _ hm with h1 | h1 <;> first | (have := lt0 _ h1; omega) | omega
theorem write_s (h : Heap) (ll tot : Nat) (zs : List Int) (s : Slot) (v0 : V) (ids0 : List Nat) (count : Int) (ho : Owns h (.lst 1 (s.words.map encI)) v0 ids0) (hnd : ids0.Nodup) (hl : h[ll]? = some (zs.map encI)) (hz : zs.length = tot) (h9 : tot = 9) (hni : ll ∉ ids0) (hc0 : 0 ≤ count) :
    C Try.prog 84 [.agg [.int .i64 s.seq, v0, .int .i64 s.sum], .own ll 1 0 tot tot, .int .i64 count] h (fun r h' => ∃ v ids, r = .agg [.int .i64 (runI 0 s (zs.take count.toNat)).seq, v, .int .i64 (runI 0 s (zs.take count.toNat)).sum] ∧ Owns h' (.lst 1 ((runI 0 s (zs.take count.toNat)).words.map encI)) v ids ∧ ids.Nodup ∧ (∀ i ∈ ids, i ∈ ids0 ∨ h.length ≤ i) ∧ (∀ j, j < h.length → j ∉ ids0 → h'[j]? = h[j]?) ∧ h.length ≤ h'.length) := by
  have hll := heap_lt hl
  have hlt0 := ho.lt
  obtain ⟨ovo, ovn, ovc⟩ := ho.vv
  have lenv := Owns.len_ ho
  simp only [List.length_map] at lenv
  have hnh : [V.agg [.int .i64 s.seq, v0, .int .i64 s.sum], .own ll 1 0 tot tot, .int .i64 count].all V.noHole = true := rfl
  have hfin : runI 0 s (zs.take count.toNat) = runW 0 (if 2 ≤ count then fixW s else s) (zs.take count.toNat) := by
    rw [runs_same]
    have : (2 ≤ (zs.take count.toNat).length) = (2 ≤ count) := by
      simp only [List.length_take, eq_iff_iff]; omega
    simp only [this]
  obtain ⟨s1, hs1⟩ : ∃ s1, s1 = if 2 ≤ count then fixW s else s := ⟨_, rfl⟩
  rw [← hs1] at hfin
  have h61 : 2 ≤ count → s1.words.length = 6 := fun c => by rw [hs1, if_pos c]; exact fixW_len s
  refine C.by mixed (cfn_ok Try.func84 ok84) hnh ?_
  simp (disch := omega) only [s84, go_sem, Nat.reduceEqDiff, Nat.reduceAdd, Nat.reduceSub, Nat.reduceLeDiff, Nat.reduceLT, Nat.reduceMul, Nat.reduceBEq, Int.reduceEq, Int.reduceLT, Int.reduceLE, Int.reduceNeg, Int.reduceToNat, Int.reduceSub, Int.reduceAdd, reduceIte, ovo, ovn, ovc, lenv]
  have st0 : s1 = s → WSt h (h ++ [[[.int .i64 s.seq, v0, .int .i64 s.sum]], [z3]]) ids0 s1 v0 ids0 := fun e => by
    subst e
    exact ⟨at_app0 _ _, at_app _ _ 1, ho.up (Ext.app _ _), hnd, fun i hi => .inl hi, fun j hj _ => List.getElem?_append_left hj, by simp⟩
  refine condP_dec (fun h6 => ?_) (fun h6 => ?_)
  case' refine_1 =>
    simp (disch := omega) only [go_sem, Nat.reduceEqDiff, Nat.reduceAdd, Nat.reduceSub, Nat.reduceLeDiff, Nat.reduceLT, Nat.reduceMul, Nat.reduceBEq, Int.reduceEq, Int.reduceLT, Int.reduceLE, Int.reduceNeg, Int.reduceToNat, Int.reduceSub, Int.reduceAdd, reduceIte, ovo, ovn, ovc, lenv, storeH, storeB, splice]
    have st : ∃ v1 ids1, WSt h (h ++ [[[.int .i64 s.seq, v0, .int .i64 s.sum]], [z3]]) ids0 s1 v1 ids1 := ⟨_, _, st0 (by rw [hs1]; split <;> first | rfl | (unfold fixW; rw [if_pos (by omega)]))⟩
    simp only [z3] at st
  case' refine_2 =>
    simp (disch := omega) only [go_sem, Nat.reduceEqDiff, Nat.reduceAdd, Nat.reduceSub, Nat.reduceLeDiff, Nat.reduceLT, Nat.reduceMul, Nat.reduceBEq, Int.reduceEq, Int.reduceLT, Int.reduceLE, Int.reduceNeg, Int.reduceToNat, Int.reduceSub, Int.reduceAdd, reduceIte, ovo, ovn, ovc, lenv, storeH, storeB, splice]
    refine condP_dec (fun h2 => ?_) (fun h2 => ?_)
    case' refine_1 =>
      simp (disch := omega) only [go_sem, Nat.reduceEqDiff, Nat.reduceAdd, Nat.reduceSub, Nat.reduceLeDiff, Nat.reduceLT, Nat.reduceMul, Nat.reduceBEq, Int.reduceEq, Int.reduceLT, Int.reduceLE, Int.reduceNeg, Int.reduceToNat, Int.reduceSub, Int.reduceAdd, reduceIte, ovo, ovn, ovc, lenv, storeH, storeB, splice]
      have e1 : s1 = ⟨s.seq, zeros6, s.sum⟩ := by rw [hs1, if_pos h2]; unfold fixW; rw [if_neg (by omega)]
      have st : ∃ v1 ids1, WSt h (h ++ [[[.int .i64 s.seq, .own (h.length + 2) 1 0 6 6, .int .i64 s.sum]], [z3], zeros6.map encI]) ids0 s1 v1 ids1 := ⟨.own (h.length + 2) 1 0 6 6, [h.length + 2], by rw [e1]; exact at_app0 _ _, at_app _ _ 1, by rw [e1]; exact Owns.own_flat (at_app _ _ 2) rfl (flat_encI _), by simp, fun i hi => by simp at hi; omega, fun j hj _ => List.getElem?_append_left hj, by simp⟩
      simp only [z3, zeros6, encI, List.map_replicate, List.replicate_succ, List.replicate_zero] at st
    case' refine_2 =>
      simp (disch := omega) only [go_sem, Nat.reduceEqDiff, Nat.reduceAdd, Nat.reduceSub, Nat.reduceLeDiff, Nat.reduceLT, Nat.reduceMul, Nat.reduceBEq, Int.reduceEq, Int.reduceLT, Int.reduceLE, Int.reduceNeg, Int.reduceToNat, Int.reduceSub, Int.reduceAdd, reduceIte, ovo, ovn, ovc, lenv, storeH, storeB, splice]
      have st : ∃ v1 ids1, WSt h (h ++ [[[.int .i64 s.seq, v0, .int .i64 s.sum]], [z3]]) ids0 s1 v1 ids1 := ⟨_, _, st0 (by rw [hs1]; rw [if_neg h2])⟩
      simp only [z3] at st
  all_goals
    clear st0
    obtain ⟨v1, ids1, st⟩ := st
    refine loopP_intro (fun m q => ∃ (k : Nat), k ≤ tot ∧ (k : Int) ≤ count ∧ m = tot - k ∧ q.e 1 = .own ll 1 0 tot tot ∧ q.e 2 = .int .i64 count ∧ q.e 3 = .ptr h.length 1 0 0 ∧ q.e 6 = .ptr (h.length + 1) 1 0 0 ∧ q.e 7 = .int .i64 k ∧ ∃ v ids, WSt h q.h ids0 (runW 0 s1 (zs.take k)) v ids) tot ⟨0, by omega, by omega, by omega, by simp (disch := omega) only [go_sem, Nat.reduceEqDiff, Nat.reduceAdd, Nat.reduceSub, Nat.reduceLeDiff, Nat.reduceLT, Nat.reduceMul, Nat.reduceBEq, Int.reduceEq, Int.reduceLT, Int.reduceLE, Int.reduceNeg, Int.reduceToNat, Int.reduceSub, Int.reduceAdd, reduceIte, ovo, ovn, ovc, lenv], by simp (disch := omega) only [go_sem, Nat.reduceEqDiff, Nat.reduceAdd, Nat.reduceSub, Nat.reduceLeDiff, Nat.reduceLT, Nat.reduceMul, Nat.reduceBEq, Int.reduceEq, Int.reduceLT, Int.reduceLE, Int.reduceNeg, Int.reduceToNat, Int.reduceSub, Int.reduceAdd, reduceIte, ovo, ovn, ovc, lenv], by simp (disch := omega) only [go_sem, Nat.reduceEqDiff, Nat.reduceAdd, Nat.reduceSub, Nat.reduceLeDiff, Nat.reduceLT, Nat.reduceMul, Nat.reduceBEq, Int.reduceEq, Int.reduceLT, Int.reduceLE, Int.reduceNeg, Int.reduceToNat, Int.reduceSub, Int.reduceAdd, reduceIte, ovo, ovn, ovc, lenv], by simp (disch := omega) only [go_sem, Nat.reduceEqDiff, Nat.reduceAdd, Nat.reduceSub, Nat.reduceLeDiff, Nat.reduceLT, Nat.reduceMul, Nat.reduceBEq, Int.reduceEq, Int.reduceLT, Int.reduceLE, Int.reduceNeg, Int.reduceToNat, Int.reduceSub, Int.reduceAdd, reduceIte, ovo, ovn, ovc, lenv], by simp (disch := omega) only [go_sem, Nat.reduceEqDiff, Nat.reduceAdd, Nat.reduceSub, Nat.reduceLeDiff, Nat.reduceLT, Nat.reduceMul, Nat.reduceBEq, Int.reduceEq, Int.reduceLT, Int.reduceLE, Int.reduceNeg, Int.reduceToNat, Int.reduceSub, Int.reduceAdd, reduceIte, ovo, ovn, ovc, lenv]; rfl, v1, ids1, st⟩ ?_
    rintro m e hp ⟨k, hk, hkc, rfl, e1, e2, e3, e6, e7, v, ids, w⟩
    simp only at e1 e2 e3 e6 e7 w
    obtain ⟨n0, n1⟩ := w.nin hlt0
    have hll1 : hp[ll]? = some (zs.map encI) := by rw [w.fr ll hll hni]; exact hl
    obtain ⟨wo, wn, wc⟩ := w.own.vv
    have b1 := w.box
    have b2 := w.res
    simp only [z3] at b2
    have wlen := runW_len zs s1 k (by omega)
    have fin : ¬ ((k : Int) < tot ∧ (k : Int) < count) → zs.take count.toNat = zs.take k := fun c => by
      rcases Nat.lt_or_ge k tot with c1 | c1
      · have : count.toNat = k := by omega
        rw [this]
      · rw [List.take_of_length_le (by omega), List.take_of_length_le (by omega)]
    have done : ¬ ((k : Int) < tot ∧ (k : Int) < count) → ∃ v_1 ids, V.agg [.int .i64 (runW 0 s1 (zs.take k)).seq, v, .int .i64 (runW 0 s1 (zs.take k)).sum] = .agg [.int .i64 (runI 0 s (zs.take count.toNat)).seq, v_1, .int .i64 (runI 0 s (zs.take count.toNat)).sum] ∧ Owns (hp.set (h.length + 1) [[.int .i64 (runW 0 s1 (zs.take k)).seq, v, .int .i64 (runW 0 s1 (zs.take k)).sum]]) (.lst 1 ((runI 0 s (zs.take count.toNat)).words.map encI)) v_1 ids ∧ ids.Nodup ∧ (∀ i ∈ ids, i ∈ ids0 ∨ h.length ≤ i) ∧ (∀ j, j < h.length → j ∉ ids0 → (hp.set (h.length + 1) [[.int .i64 (runW 0 s1 (zs.take k)).seq, v, .int .i64 (runW 0 s1 (zs.take k)).sum]])[j]? = h[j]?) ∧ h.length ≤ (hp.set (h.length + 1) [[.int .i64 (runW 0 s1 (zs.take k)).seq, v, .int .i64 (runW 0 s1 (zs.take k)).sum]]).length := fun c => by
      rw [hfin, fin c]
      exact ⟨v, ids, rfl, w.own.set _ n1, w.nd, fun i hi => (w.new i hi).imp id (fun q => by omega), fun j hj hjn => by rw [List.getElem?_set_ne (by omega)]; exact w.fr j hj hjn, by rw [List.length_set]; have := w.len; omega⟩
    have c2 : ∀ c, (hp.set (h.length + 1) c)[h.length + 1]? = some c := fun c => heap_set _ b2
    by_cases hc : ¬ ((k : Int) < tot ∧ (k : Int) < count)
    case' pos =>
      have d := done hc
      by_cases hlt : (k : Int) < tot
      all_goals first
        | (exfalso; omega)
        | (simp (disch := omega) only [go_sem, Nat.reduceEqDiff, Nat.reduceAdd, Nat.reduceSub, Nat.reduceLeDiff, Nat.reduceLT, Nat.reduceMul, Nat.reduceBEq, Int.reduceEq, Int.reduceLT, Int.reduceLE, Int.reduceNeg, Int.reduceToNat, Int.reduceSub, Int.reduceAdd, reduceIte, e1, e2, e3, e6, e7, b1, b2, c2, wo, wn, wc, storeH, storeB, splice]
           exact d)
    obtain ⟨hlt, hcl⟩ : (k : Int) < tot ∧ (k : Int) < count := by omega
    have hlt' : k < zs.length := by omega
    have hg : zs[k]? = some zs[k] := List.getElem?_eq_getElem hlt'
    have rt := runW_take hlt' s1
    generalize ht : runW 0 s1 (zs.take k) = t at *
    have lt1 := w.own.lt
    by_cases hk0 : k = 0 ∨ k = 8
    · have hst : stepW t k zs[k] = ⟨zs[k], t.words, t.sum⟩ := by unfold stepW; rw [if_pos hk0]
      have nx : ∀ (q : St), q.e 1 = .own ll 1 0 tot tot → q.e 2 = .int .i64 count → q.e 3 = .ptr h.length 1 0 0 → q.e 6 = .ptr (h.length + 1) 1 0 0 → q.e 7 = .int .i64 ((k : Int) + 1) → q.h = hp.set h.length [[.int .i64 zs[k], v, .int .i64 t.sum]] → ∃ (k' : Nat), k' ≤ tot ∧ (k' : Int) ≤ count ∧ tot - (k + 1) = tot - k' ∧ q.e 1 = .own ll 1 0 tot tot ∧ q.e 2 = .int .i64 count ∧ q.e 3 = .ptr h.length 1 0 0 ∧ q.e 6 = .ptr (h.length + 1) 1 0 0 ∧ q.e 7 = .int .i64 k' ∧ ∃ v ids, WSt h q.h ids0 (runW 0 s1 (zs.take k')) v ids := fun q q1 q2 q3 q6 q7 qh => by
        refine ⟨k + 1, by omega, by omega, rfl, q1, q2, q3, q6, q7, v, ids, ?_⟩
        rw [rt, hst, qh]
        exact ⟨heap_set _ b1, heap_set_ne _ (by omega) w.res, w.own.set _ n0, w.nd, w.new, fun j hj hjn => by rw [List.getElem?_set_ne (by omega)]; exact w.fr j hj hjn, by rw [List.length_set]; exact w.len⟩
      rcases hk0 with rfl | rfl
      · have e7 : e 7 = .int .i64 0 := e7
        have hcl : 0 < count := hcl
        simp (disch := omega) only [go_sem, Nat.reduceEqDiff, Nat.reduceAdd, Nat.reduceSub, Nat.reduceLeDiff, Nat.reduceLT, Nat.reduceMul, Nat.reduceBEq, Int.reduceEq, Int.reduceLT, Int.reduceLE, Int.reduceNeg, Int.reduceToNat, Int.reduceSub, Int.reduceAdd, reduceIte, e1, e2, e3, e6, e7, b1, hll1, hg, hz, h9, encI, List.getElem?_map, storeH, storeB, splice, wo, wn, wc]
        exact nextP_intro (tot - (0 + 1)) (by omega) (nx _ (by simp (disch := omega) only [go_sem, Nat.reduceEqDiff, Nat.reduceAdd, Nat.reduceSub, Nat.reduceLeDiff, Nat.reduceLT, Nat.reduceMul, Nat.reduceBEq, Int.reduceEq, Int.reduceLT, Int.reduceLE, Int.reduceNeg, Int.reduceToNat, Int.reduceSub, Int.reduceAdd, reduceIte, e1, e2, e3, e6, e7, b1, hll1, hg, hz, h9, encI, List.getElem?_map, storeH, storeB, splice, wo, wn, wc]) (by simp (disch := omega) only [go_sem, Nat.reduceEqDiff, Nat.reduceAdd, Nat.reduceSub, Nat.reduceLeDiff, Nat.reduceLT, Nat.reduceMul, Nat.reduceBEq, Int.reduceEq, Int.reduceLT, Int.reduceLE, Int.reduceNeg, Int.reduceToNat, Int.reduceSub, Int.reduceAdd, reduceIte, e1, e2, e3, e6, e7, b1, hll1, hg, hz, h9, encI, List.getElem?_map, storeH, storeB, splice, wo, wn, wc]) (by simp (disch := omega) only [go_sem, Nat.reduceEqDiff, Nat.reduceAdd, Nat.reduceSub, Nat.reduceLeDiff, Nat.reduceLT, Nat.reduceMul, Nat.reduceBEq, Int.reduceEq, Int.reduceLT, Int.reduceLE, Int.reduceNeg, Int.reduceToNat, Int.reduceSub, Int.reduceAdd, reduceIte, e1, e2, e3, e6, e7, b1, hll1, hg, hz, h9, encI, List.getElem?_map, storeH, storeB, splice, wo, wn, wc]) (by simp (disch := omega) only [go_sem, Nat.reduceEqDiff, Nat.reduceAdd, Nat.reduceSub, Nat.reduceLeDiff, Nat.reduceLT, Nat.reduceMul, Nat.reduceBEq, Int.reduceEq, Int.reduceLT, Int.reduceLE, Int.reduceNeg, Int.reduceToNat, Int.reduceSub, Int.reduceAdd, reduceIte, e1, e2, e3, e6, e7, b1, hll1, hg, hz, h9, encI, List.getElem?_map, storeH, storeB, splice, wo, wn, wc]) (by simp (disch := omega) only [go_sem, Nat.reduceEqDiff, Nat.reduceAdd, Nat.reduceSub, Nat.reduceLeDiff, Nat.reduceLT, Nat.reduceMul, Nat.reduceBEq, Int.reduceEq, Int.reduceLT, Int.reduceLE, Int.reduceNeg, Int.reduceToNat, Int.reduceSub, Int.reduceAdd, reduceIte, e1, e2, e3, e6, e7, b1, hll1, hg, hz, h9, encI, List.getElem?_map, storeH, storeB, splice, wo, wn, wc] <;> rfl) rfl)
      · have e7 : e 7 = .int .i64 8 := e7
        have hcl : 8 < count := hcl
        simp (disch := omega) only [go_sem, Nat.reduceEqDiff, Nat.reduceAdd, Nat.reduceSub, Nat.reduceLeDiff, Nat.reduceLT, Nat.reduceMul, Nat.reduceBEq, Int.reduceEq, Int.reduceLT, Int.reduceLE, Int.reduceNeg, Int.reduceToNat, Int.reduceSub, Int.reduceAdd, reduceIte, e1, e2, e3, e6, e7, b1, hll1, hg, hz, encI, List.getElem?_map, storeH, storeB, splice, wo, wn, wc]
        exact nextP_intro (tot - (8 + 1)) (by omega) (nx _ (by simp (disch := omega) only [go_sem, Nat.reduceEqDiff, Nat.reduceAdd, Nat.reduceSub, Nat.reduceLeDiff, Nat.reduceLT, Nat.reduceMul, Nat.reduceBEq, Int.reduceEq, Int.reduceLT, Int.reduceLE, Int.reduceNeg, Int.reduceToNat, Int.reduceSub, Int.reduceAdd, reduceIte, e1, e2, e3, e6, e7, b1, hll1, hg, hz, encI, List.getElem?_map, storeH, storeB, splice, wo, wn, wc]) (by simp (disch := omega) only [go_sem, Nat.reduceEqDiff, Nat.reduceAdd, Nat.reduceSub, Nat.reduceLeDiff, Nat.reduceLT, Nat.reduceMul, Nat.reduceBEq, Int.reduceEq, Int.reduceLT, Int.reduceLE, Int.reduceNeg, Int.reduceToNat, Int.reduceSub, Int.reduceAdd, reduceIte, e1, e2, e3, e6, e7, b1, hll1, hg, hz, encI, List.getElem?_map, storeH, storeB, splice, wo, wn, wc]) (by simp (disch := omega) only [go_sem, Nat.reduceEqDiff, Nat.reduceAdd, Nat.reduceSub, Nat.reduceLeDiff, Nat.reduceLT, Nat.reduceMul, Nat.reduceBEq, Int.reduceEq, Int.reduceLT, Int.reduceLE, Int.reduceNeg, Int.reduceToNat, Int.reduceSub, Int.reduceAdd, reduceIte, e1, e2, e3, e6, e7, b1, hll1, hg, hz, encI, List.getElem?_map, storeH, storeB, splice, wo, wn, wc]) (by simp (disch := omega) only [go_sem, Nat.reduceEqDiff, Nat.reduceAdd, Nat.reduceSub, Nat.reduceLeDiff, Nat.reduceLT, Nat.reduceMul, Nat.reduceBEq, Int.reduceEq, Int.reduceLT, Int.reduceLE, Int.reduceNeg, Int.reduceToNat, Int.reduceSub, Int.reduceAdd, reduceIte, e1, e2, e3, e6, e7, b1, hll1, hg, hz, encI, List.getElem?_map, storeH, storeB, splice, wo, wn, wc]) (by simp (disch := omega) only [go_sem, Nat.reduceEqDiff, Nat.reduceAdd, Nat.reduceSub, Nat.reduceLeDiff, Nat.reduceLT, Nat.reduceMul, Nat.reduceBEq, Int.reduceEq, Int.reduceLT, Int.reduceLE, Int.reduceNeg, Int.reduceToNat, Int.reduceSub, Int.reduceAdd, reduceIte, e1, e2, e3, e6, e7, b1, hll1, hg, hz, encI, List.getElem?_map, storeH, storeB, splice, wo, wn, wc] <;> rfl) rfl)
    · have c0 : ¬ (k : Int) = 0 := by omega
      have c8 : ¬ (k : Int) = 8 := by omega
      by_cases hk7 : k = 7
      · subst hk7
        have e7 : e 7 = .int .i64 7 := e7
        have hcl : 7 < count := hcl
        have hst : stepW t 7 zs[7] = ⟨t.seq, t.words, zs[7]⟩ := by unfold stepW; rw [if_neg (by omega), if_pos rfl]
        simp (disch := omega) only [go_sem, Nat.reduceEqDiff, Nat.reduceAdd, Nat.reduceSub, Nat.reduceLeDiff, Nat.reduceLT, Nat.reduceMul, Nat.reduceBEq, Int.reduceEq, Int.reduceLT, Int.reduceLE, Int.reduceNeg, Int.reduceToNat, Int.reduceSub, Int.reduceAdd, reduceIte, e1, e2, e3, e6, e7, b1, hll1, hg, hz, encI, List.getElem?_map, storeH, storeB, splice, wo, wn, wc]
        refine nextP_intro (tot - (7 + 1)) (by omega) ⟨7 + 1, by omega, by omega, rfl, by simp (disch := omega) only [go_sem, Nat.reduceEqDiff, Nat.reduceAdd, Nat.reduceSub, Nat.reduceLeDiff, Nat.reduceLT, Nat.reduceMul, Nat.reduceBEq, Int.reduceEq, Int.reduceLT, Int.reduceLE, Int.reduceNeg, Int.reduceToNat, Int.reduceSub, Int.reduceAdd, reduceIte, e1, e2, e3, e6, e7, b1, hll1, hg, hz, encI, List.getElem?_map, storeH, storeB, splice, wo, wn, wc], by simp (disch := omega) only [go_sem, Nat.reduceEqDiff, Nat.reduceAdd, Nat.reduceSub, Nat.reduceLeDiff, Nat.reduceLT, Nat.reduceMul, Nat.reduceBEq, Int.reduceEq, Int.reduceLT, Int.reduceLE, Int.reduceNeg, Int.reduceToNat, Int.reduceSub, Int.reduceAdd, reduceIte, e1, e2, e3, e6, e7, b1, hll1, hg, hz, encI, List.getElem?_map, storeH, storeB, splice, wo, wn, wc], by simp (disch := omega) only [go_sem, Nat.reduceEqDiff, Nat.reduceAdd, Nat.reduceSub, Nat.reduceLeDiff, Nat.reduceLT, Nat.reduceMul, Nat.reduceBEq, Int.reduceEq, Int.reduceLT, Int.reduceLE, Int.reduceNeg, Int.reduceToNat, Int.reduceSub, Int.reduceAdd, reduceIte, e1, e2, e3, e6, e7, b1, hll1, hg, hz, encI, List.getElem?_map, storeH, storeB, splice, wo, wn, wc], by simp (disch := omega) only [go_sem, Nat.reduceEqDiff, Nat.reduceAdd, Nat.reduceSub, Nat.reduceLeDiff, Nat.reduceLT, Nat.reduceMul, Nat.reduceBEq, Int.reduceEq, Int.reduceLT, Int.reduceLE, Int.reduceNeg, Int.reduceToNat, Int.reduceSub, Int.reduceAdd, reduceIte, e1, e2, e3, e6, e7, b1, hll1, hg, hz, encI, List.getElem?_map, storeH, storeB, splice, wo, wn, wc], by simp (disch := omega) only [go_sem, Nat.reduceEqDiff, Nat.reduceAdd, Nat.reduceSub, Nat.reduceLeDiff, Nat.reduceLT, Nat.reduceMul, Nat.reduceBEq, Int.reduceEq, Int.reduceLT, Int.reduceLE, Int.reduceNeg, Int.reduceToNat, Int.reduceSub, Int.reduceAdd, reduceIte, e1, e2, e3, e6, e7, b1, hll1, hg, hz, encI, List.getElem?_map, storeH, storeB, splice, wo, wn, wc] <;> rfl, v, ids, ?_⟩
        rw [rt, hst]
        exact ⟨heap_set _ b1, heap_set_ne _ (by omega) w.res, w.own.set _ n0, w.nd, w.new, fun j hj hjn => by rw [List.getElem?_set_ne (by omega)]; exact w.fr j hj hjn, by rw [List.length_set]; exact w.len⟩
      · first
        | (exfalso; omega)
        | (have h6t : t.words.length = 6 := by rw [wlen]; exact h61 (by omega)
           obtain ⟨l, rfl, hl1, rfl⟩ := flat_own w.own h6t (by omega)
           have hst : stepW t k zs[k] = ⟨t.seq, t.words.set (k - 1) zs[k], t.sum⟩ := by unfold stepW; rw [if_neg hk0, if_neg hk7]
           have hlid : l ≠ h.length := fun e => n0 (by simp [e])
           have hlid1 : l ≠ h.length + 1 := fun e => n1 (by simp [e])
           have hwl : (t.words.map encI).length = 6 := by simpa using h6t
           have hrow := storeH_row (h := hp) (id := l) (n := 6) (i := k - 1) (sz := 1) (x := .int .i64 zs[k]) hl1 hwl (by omega) (fun e he => by obtain ⟨x, _, rfl⟩ := List.mem_map.1 he; rfl) rfl
           have htn : ((k : Int) - 1).toNat = k - 1 := by omega
           simp (disch := omega) only [go_sem, Nat.reduceEqDiff, Nat.reduceAdd, Nat.reduceSub, Nat.reduceLeDiff, Nat.reduceLT, Nat.reduceMul, Nat.reduceBEq, Int.reduceEq, Int.reduceLT, Int.reduceLE, Int.reduceNeg, Int.reduceToNat, Int.reduceSub, Int.reduceAdd, reduceIte, e1, e2, e3, e6, e7, b1, hll1, hg, hz, encI, List.getElem?_map, htn, hrow]
           refine nextP_intro (tot - (k + 1)) (by omega) ⟨k + 1, by omega, by omega, rfl, by simp (disch := omega) only [go_sem, Nat.reduceEqDiff, Nat.reduceAdd, Nat.reduceSub, Nat.reduceLeDiff, Nat.reduceLT, Nat.reduceMul, Nat.reduceBEq, Int.reduceEq, Int.reduceLT, Int.reduceLE, Int.reduceNeg, Int.reduceToNat, Int.reduceSub, Int.reduceAdd, reduceIte, e1, e2, e3, e6, e7, b1, hll1, hg, hz, encI, List.getElem?_map, htn, hrow], by simp (disch := omega) only [go_sem, Nat.reduceEqDiff, Nat.reduceAdd, Nat.reduceSub, Nat.reduceLeDiff, Nat.reduceLT, Nat.reduceMul, Nat.reduceBEq, Int.reduceEq, Int.reduceLT, Int.reduceLE, Int.reduceNeg, Int.reduceToNat, Int.reduceSub, Int.reduceAdd, reduceIte, e1, e2, e3, e6, e7, b1, hll1, hg, hz, encI, List.getElem?_map, htn, hrow], by simp (disch := omega) only [go_sem, Nat.reduceEqDiff, Nat.reduceAdd, Nat.reduceSub, Nat.reduceLeDiff, Nat.reduceLT, Nat.reduceMul, Nat.reduceBEq, Int.reduceEq, Int.reduceLT, Int.reduceLE, Int.reduceNeg, Int.reduceToNat, Int.reduceSub, Int.reduceAdd, reduceIte, e1, e2, e3, e6, e7, b1, hll1, hg, hz, encI, List.getElem?_map, htn, hrow], by simp (disch := omega) only [go_sem, Nat.reduceEqDiff, Nat.reduceAdd, Nat.reduceSub, Nat.reduceLeDiff, Nat.reduceLT, Nat.reduceMul, Nat.reduceBEq, Int.reduceEq, Int.reduceLT, Int.reduceLE, Int.reduceNeg, Int.reduceToNat, Int.reduceSub, Int.reduceAdd, reduceIte, e1, e2, e3, e6, e7, b1, hll1, hg, hz, encI, List.getElem?_map, htn, hrow], by simp (disch := omega) only [go_sem, Nat.reduceEqDiff, Nat.reduceAdd, Nat.reduceSub, Nat.reduceLeDiff, Nat.reduceLT, Nat.reduceMul, Nat.reduceBEq, Int.reduceEq, Int.reduceLT, Int.reduceLE, Int.reduceNeg, Int.reduceToNat, Int.reduceSub, Int.reduceAdd, reduceIte, e1, e2, e3, e6, e7, b1, hll1, hg, hz, encI, List.getElem?_map, htn, hrow] <;> rfl, .own l 1 0 6 6, [l], ?_⟩
           rw [rt, hst]
           exact ⟨heap_set_ne _ (Ne.symm hlid) b1, heap_set_ne _ (Ne.symm hlid1) w.res, Owns.own_flat (by rw [heap_set _ hl1, List.map_set]; rfl) (by simpa using h6t) (flat_encI _), w.nd, w.new, fun j hj hjn => by
             rw [List.getElem?_set_ne (fun e => by subst e; rcases w.new l (by simp) with h1 | h1 <;> first | exact hjn h1 | omega)]; exact w.fr j hj hjn, by rw [List.length_set]; exact w.len⟩)
end Go.Av
