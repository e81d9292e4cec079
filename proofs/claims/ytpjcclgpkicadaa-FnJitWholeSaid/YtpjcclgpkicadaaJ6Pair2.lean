import Derived.Test.YtpjcclgpkicadaaJ6Pair
namespace Go.Av
open Go.Proofs Go.RowKit
set_option linter.unusedVariables false
set_option linter.unusedSimpArgs false
set_option maxRecDepth 100000
set_option maxHeartbeats 4000000
theorem big_c (bs : List Int) (hb : bs.length ≤ 9223372036854775807) : CP Try.prog 12 [.lst 1 (bs.map encB)] (.bool (decide (1048576 < (bs.length : Int)))) [] := by
  refine CP.by rfl mixed (cfn_ok Try.func12 ok12) rfl ?_
  simp (disch := omega) only [s12, go_sem, Nat.reduceEqDiff, Nat.reduceAdd, Nat.reduceSub, Nat.reduceLeDiff, Nat.reduceLT, Nat.reduceMul, Nat.reduceBEq, Int.reduceEq, Int.reduceLT, Int.reduceLE, Int.reduceNeg, Int.reduceToNat, Int.reduceSub, Int.reduceAdd, reduceIte]
def zPair : List V := [.int .i64 0, .nils, .int .i64 0, .int .i64 0, .nils, .int .i64 0]
theorem drawPair_c (bs : List Int) (h : Heap) (hb : bs.length ≤ 1048576) : C Try.prog 13 [.lst 1 (bs.map encB)] h (fun r h' => ∃ (p : Pair) (cs : List V) (ids : List Nat) (ws : List Int) (l : Nat), r = .tup [.agg cs, .own l 1 0 6 6] ∧ OwnsL h' (encPair p) cs ids ∧ ids.Nodup ∧ (∀ i ∈ ids, h.length ≤ i) ∧ Drawn p.a ∧ Drawn p.b ∧ h'[l]? = some (ws.map encI) ∧ ws.length = 6 ∧ (∀ w ∈ ws, -500 ≤ w ∧ w < 1500) ∧ h.length ≤ l ∧ l ∉ ids ∧ Ext h h') := by
  refine C.by mixed (cfn_ok Try.func13 ok13) rfl ?_
  simp (disch := omega) only [s13, go_sem, Nat.reduceEqDiff, Nat.reduceAdd, Nat.reduceSub, Nat.reduceLeDiff, Nat.reduceLT, Nat.reduceMul, Nat.reduceBEq, Int.reduceEq, Int.reduceLT, Int.reduceLE, Int.reduceNeg, Int.reduceToNat, Int.reduceSub, Int.reduceAdd, reduceIte]
  refine C.go (new_c bs _ hb) ?_
  rintro r h1 ⟨rfl, e1, c1⟩
  have b0 : h1[h.length]? = some [zPair] := e1.get (at_app0 _ _)
  have g1 := c1.lt
  have e1' : Ext h h1 := (Ext.app _ _).trans e1
  simp only [List.length_append, List.length_cons, List.length_nil, Nat.zero_add] at c1 g1
  simp (disch := omega) only [go_sem, Nat.reduceEqDiff, Nat.reduceAdd, Nat.reduceSub, Nat.reduceLeDiff, Nat.reduceLT, Nat.reduceMul, Nat.reduceBEq, Int.reduceEq, Int.reduceLT, Int.reduceLE, Int.reduceNeg, Int.reduceToNat, Int.reduceSub, Int.reduceAdd, reduceIte]
  refine C.go (pair_c _ _ c1) ?_
  rintro r h2 ⟨p, cs, ids, rfl, o2, n2, g2, da, db, c2, x2⟩
  have g12 := x2.len c2
  have b0 := x2.get b0 (by omega)
  obtain ⟨va, vb, ia, ib, rfl, rfl, oa, ob⟩ := o2.pair
  have ov := oa.one
  have ow := ob.one
  simp (disch := omega) only [go_sem, Nat.reduceEqDiff, Nat.reduceAdd, Nat.reduceSub, Nat.reduceLeDiff, Nat.reduceLT, Nat.reduceMul, Nat.reduceBEq, Int.reduceEq, Int.reduceLT, Int.reduceLE, Int.reduceNeg, Int.reduceToNat, Int.reduceSub, Int.reduceAdd, reduceIte, ov, ow]
  refine C.go (words_c _ _ (c2.app _)) ?_
  rintro r h3 ⟨ws, l, rfl, hl, hw, hws, hlh, c3, x3⟩
  have g23 := x3.len c3
  simp only [List.length_append, List.length_cons, List.length_nil, Nat.zero_add] at g23 hlh
  have b1 : h3[h2.length]? = some [[.int .i64 p.a.seq, va, .int .i64 p.a.sum, .int .i64 p.b.seq, vb, .int .i64 p.b.sum]] := x3.get (at_app0 _ _) (by omega)
  have b0 := x3.get (heap_app b0) (by omega)
  have o3 : OwnsL h3 (encPair p) [.int .i64 p.a.seq, va, .int .i64 p.a.sum, .int .i64 p.b.seq, vb, .int .i64 p.b.sum] (ia ++ ib) := OwnsL.mkPair ((oa.up (Ext.app _ _)).upX x3 fun i hi => by have := g2 i (by simp [hi]); omega) ((ob.up (Ext.app _ _)).upX x3 fun i hi => by have := g2 i (by simp [hi]); omega)
  have lt2 := o2.lt
  have q0 : ∀ d, (h3.set h.length d)[h.length]? = some d := fun d => heap_set _ b0
  simp (disch := omega) only [go_sem, Nat.reduceEqDiff, Nat.reduceAdd, Nat.reduceSub, Nat.reduceLeDiff, Nat.reduceLT, Nat.reduceMul, Nat.reduceBEq, Int.reduceEq, Int.reduceLT, Int.reduceLE, Int.reduceNeg, Int.reduceToNat, Int.reduceSub, Int.reduceAdd, reduceIte, ov, ow, b1, b0, zPair, storeH, storeB, splice, q0]
  refine ⟨p, _, ia ++ ib, ws, l, rfl, ?_, n2, fun i hi => by have := g2 i hi; omega, da, db, heap_set_ne _ (by omega) hl, hw, hws, by omega, fun hm => by have := lt2 l hm; omega, fun j hj => ?_⟩
  · exact o3.keep fun i hi => List.getElem?_set_ne (by have := g2 i hi; omega)
  · rw [List.getElem?_set_ne (by omega), x3 j (by simp; omega) (by omega), List.getElem?_append_left (by omega), x2 j (by omega) (by omega), e1' j hj]
theorem drawPlaces_c (bs : List Int) (h : Heap) (hb : bs.length ≤ 1048576) : C Try.prog 14 [.lst 1 (bs.map encB)] h (fun r h' => ∃ (ws : List Int) (l : Nat), r = .own l 1 0 12 12 ∧ h'[l]? = some (ws.map encI) ∧ ws.length = 12 ∧ (∀ w ∈ ws, 0 ≤ w ∧ w < 10000) ∧ h.length ≤ l ∧ Ext h h') := by
  refine C.by mixed (cfn_ok Try.func14 ok14) rfl ?_
  simp (disch := omega) only [s14, go_sem, Nat.reduceEqDiff, Nat.reduceAdd, Nat.reduceSub, Nat.reduceLeDiff, Nat.reduceLT, Nat.reduceMul, Nat.reduceBEq, Int.reduceEq, Int.reduceLT, Int.reduceLE, Int.reduceNeg, Int.reduceToNat, Int.reduceSub, Int.reduceAdd, reduceIte]
  refine C.go (new_c bs _ hb) ?_
  rintro r h1 ⟨rfl, e1, c1⟩
  have hid := c1.lt
  simp (disch := omega) only [go_sem, Nat.reduceEqDiff, Nat.reduceAdd, Nat.reduceSub, Nat.reduceLeDiff, Nat.reduceLT, Nat.reduceMul, Nat.reduceBEq, Int.reduceEq, Int.reduceLT, Int.reduceLE, Int.reduceNeg, Int.reduceToNat, Int.reduceSub, Int.reduceAdd, reduceIte]
  refine loopP_intro (fun m s => ∃ (k : Nat), k ≤ 12 ∧ m = 12 - k ∧ s.e 3 = .ptr h.length 1 0 0 ∧ s.e 5 = .int .i64 k ∧ ∃ (ws : List Int) (l : Nat), s.e 4 = .own l 1 0 k k ∧ s.h[l]? = some (ws.map encI) ∧ ws.length = k ∧ (∀ w ∈ ws, 0 ≤ w ∧ w < 10000) ∧ h1.length ≤ l ∧ Cur s.h h.length ∧ ExtX h.length h1 s.h) 12 ⟨0, by omega, by omega, by simp (disch := omega) only [go_sem, Nat.reduceEqDiff, Nat.reduceAdd, Nat.reduceSub, Nat.reduceLeDiff, Nat.reduceLT, Nat.reduceMul, Nat.reduceBEq, Int.reduceEq, Int.reduceLT, Int.reduceLE, Int.reduceNeg, Int.reduceToNat, Int.reduceSub, Int.reduceAdd, reduceIte], by simp (disch := omega) only [go_sem, Nat.reduceEqDiff, Nat.reduceAdd, Nat.reduceSub, Nat.reduceLeDiff, Nat.reduceLT, Nat.reduceMul, Nat.reduceBEq, Int.reduceEq, Int.reduceLT, Int.reduceLE, Int.reduceNeg, Int.reduceToNat, Int.reduceSub, Int.reduceAdd, reduceIte]; rfl, [], h1.length, by simp (disch := omega) only [go_sem, Nat.reduceEqDiff, Nat.reduceAdd, Nat.reduceSub, Nat.reduceLeDiff, Nat.reduceLT, Nat.reduceMul, Nat.reduceBEq, Int.reduceEq, Int.reduceLT, Int.reduceLE, Int.reduceNeg, Int.reduceToNat, Int.reduceSub, Int.reduceAdd, reduceIte], by simp (disch := omega) only [go_sem, Nat.reduceEqDiff, Nat.reduceAdd, Nat.reduceSub, Nat.reduceLeDiff, Nat.reduceLT, Nat.reduceMul, Nat.reduceBEq, Int.reduceEq, Int.reduceLT, Int.reduceLE, Int.reduceNeg, Int.reduceToNat, Int.reduceSub, Int.reduceAdd, reduceIte], rfl, by simp, by omega, c1.app _, (Ext.app _ _).x _⟩ ?_
  rintro m e hp ⟨k, hk, rfl, e0, e4, ws, l, e3, hl, hw, hws, hlh, hcp, hxp⟩
  simp only at e0 e4 e3 hl hcp hxp
  simp (disch := omega) only [go_sem, Nat.reduceEqDiff, Nat.reduceAdd, Nat.reduceSub, Nat.reduceLeDiff, Nat.reduceLT, Nat.reduceMul, Nat.reduceBEq, Int.reduceEq, Int.reduceLT, Int.reduceLE, Int.reduceNeg, Int.reduceToNat, Int.reduceSub, Int.reduceAdd, reduceIte, e0, e4, e3]
  refine condP_dec (fun hlt => ?_) (fun hlt => ?_)
  · simp (disch := omega) only [go_sem, Nat.reduceEqDiff, Nat.reduceAdd, Nat.reduceSub, Nat.reduceLeDiff, Nat.reduceLT, Nat.reduceMul, Nat.reduceBEq, Int.reduceEq, Int.reduceLT, Int.reduceLE, Int.reduceNeg, Int.reduceToNat, Int.reduceSub, Int.reduceAdd, reduceIte, e0, e4, e3]
    refine DI.go (below_c _ _ _ hcp (by omega)) fun z h1 z0 z1 c1 x1 => ?_
    simp (disch := omega) only [go_sem, Nat.reduceEqDiff, Nat.reduceAdd, Nat.reduceSub, Nat.reduceLeDiff, Nat.reduceLT, Nat.reduceMul, Nat.reduceBEq, Int.reduceEq, Int.reduceLT, Int.reduceLE, Int.reduceNeg, Int.reduceToNat, Int.reduceSub, Int.reduceAdd, reduceIte, e0, e4, e3]
    rw [append1 (x1.get hl (by omega)) (by simpa using hw) (by omega)]
    simp (disch := omega) only [go_sem, Nat.reduceEqDiff, Nat.reduceAdd, Nat.reduceSub, Nat.reduceLeDiff, Nat.reduceLT, Nat.reduceMul, Nat.reduceBEq, Int.reduceEq, Int.reduceLT, Int.reduceLE, Int.reduceNeg, Int.reduceToNat, Int.reduceSub, Int.reduceAdd, reduceIte, e0, e4, e3]
    have hlen := x1.len c1
    have hlt := heap_lt hl
    refine nextP_intro (12 - (k + 1)) (by omega) ⟨k + 1, by omega, rfl, ?_, ?_, ws ++ [z], l, ?_, ?_, ?_, ?_, hlh, ?_, ?_⟩
    · simp (disch := omega) only [go_sem, Nat.reduceEqDiff, Nat.reduceAdd, Nat.reduceSub, Nat.reduceLeDiff, Nat.reduceLT, Nat.reduceMul, Nat.reduceBEq, Int.reduceEq, Int.reduceLT, Int.reduceLE, Int.reduceNeg, Int.reduceToNat, Int.reduceSub, Int.reduceAdd, reduceIte, e0, e4, e3]
    · simp (disch := omega) only [go_sem, Nat.reduceEqDiff, Nat.reduceAdd, Nat.reduceSub, Nat.reduceLeDiff, Nat.reduceLT, Nat.reduceMul, Nat.reduceBEq, Int.reduceEq, Int.reduceLT, Int.reduceLE, Int.reduceNeg, Int.reduceToNat, Int.reduceSub, Int.reduceAdd, reduceIte, e0, e4, e3]; rfl
    · simp (disch := omega) only [go_sem, Nat.reduceEqDiff, Nat.reduceAdd, Nat.reduceSub, Nat.reduceLeDiff, Nat.reduceLT, Nat.reduceMul, Nat.reduceBEq, Int.reduceEq, Int.reduceLT, Int.reduceLE, Int.reduceNeg, Int.reduceToNat, Int.reduceSub, Int.reduceAdd, reduceIte, e0, e4, e3]
    · simp only [List.map_append]; exact heap_set _ (heap_app (x1.get hl (by omega)))
    · simp [hw]
    · intro w hm
      rcases List.mem_append.1 hm with hm | hm
      · exact hws w hm
      · simp at hm; omega
    · exact (c1.app _).set _ (by omega)
    · exact ((hxp.trans hcp x1).app c1 _).setNew _ hlh
  · simp (disch := omega) only [go_sem, Nat.reduceEqDiff, Nat.reduceAdd, Nat.reduceSub, Nat.reduceLeDiff, Nat.reduceLT, Nat.reduceMul, Nat.reduceBEq, Int.reduceEq, Int.reduceLT, Int.reduceLE, Int.reduceNeg, Int.reduceToNat, Int.reduceSub, Int.reduceAdd, reduceIte, e0, e4, e3]
    have : k = 12 := by omega
    subst this
    exact ⟨ws, l, rfl, hl, hw, hws, by omega, fun j hj => by rw [hxp j (by omega) (by omega), e1 j hj]⟩
end Go.Av
