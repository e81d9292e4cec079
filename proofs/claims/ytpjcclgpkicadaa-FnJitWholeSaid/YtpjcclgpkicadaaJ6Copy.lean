import Derived.Test.YtpjcclgpkicadaaJ6Slot
import Derived.Test.YtpjcclgpkicadaaAv24
namespace Go.Av
open Go.Proofs Go.RowKit
set_option linter.unusedVariables false
set_option linter.unusedSimpArgs false
set_option maxRecDepth 100000
set_option maxHeartbeats 4000000
theorem OwnsL.slot {h : Heap} {s : Slot} {cs : List V} {ids : List Nat} (o : OwnsL h (encSlot s) cs ids) : ∃ va, cs = [.int .i64 s.seq, va, .int .i64 s.sum] ∧ Owns h (.lst 1 (s.words.map encI)) va ids := by
  unfold encSlot at o
  simp only [OwnsL.cons_, OwnsL.nil_, Owns.int_] at o
  obtain ⟨_, _, _, _, rfl, rfl, ⟨rfl, rfl⟩, va, _, ia, _, rfl, rfl, oa, _, _, _, _, rfl, rfl, ⟨rfl, rfl⟩, rfl, rfl⟩ := o
  exact ⟨va, rfl, by simpa using oa⟩
theorem OwnsL.mkSlot {h : Heap} {s : Slot} {va : V} {ia : List Nat} (oa : Owns h (.lst 1 (s.words.map encI)) va ia) : OwnsL h (encSlot s) [.int .i64 s.seq, va, .int .i64 s.sum] ia := by
  have := OwnsL.i (k := .i64) (n := s.seq) (.o oa (.i (k := .i64) (n := s.sum) .e))
  unfold encSlot; simpa using this
theorem OwnsL.pair {h : Heap} {p : Pair} {cs : List V} {ids : List Nat} (o : OwnsL h (encPair p) cs ids) : ∃ va vb ia ib, cs = [.int .i64 p.a.seq, va, .int .i64 p.a.sum, .int .i64 p.b.seq, vb, .int .i64 p.b.sum] ∧ ids = ia ++ ib ∧ Owns h (.lst 1 (p.a.words.map encI)) va ia ∧ Owns h (.lst 1 (p.b.words.map encI)) vb ib := by
  unfold encPair at o
  simp only [OwnsL.cons_, OwnsL.nil_, Owns.int_] at o
  obtain ⟨_, _, _, _, rfl, rfl, ⟨rfl, rfl⟩, va, _, ia, _, rfl, rfl, oa, _, _, _, _, rfl, rfl, ⟨rfl, rfl⟩, _, _, _, _, rfl, rfl, ⟨rfl, rfl⟩, vb, _, ib, _, rfl, rfl, ob, _, _, _, _, rfl, rfl, ⟨rfl, rfl⟩, rfl, rfl⟩ := o
  exact ⟨va, vb, ia, ib, rfl, by simp, oa, ob⟩
theorem OwnsL.mkPair {h : Heap} {p : Pair} {va vb : V} {ia ib : List Nat} (oa : Owns h (.lst 1 (p.a.words.map encI)) va ia) (ob : Owns h (.lst 1 (p.b.words.map encI)) vb ib) : OwnsL h (encPair p) [.int .i64 p.a.seq, va, .int .i64 p.a.sum, .int .i64 p.b.seq, vb, .int .i64 p.b.sum] (ia ++ ib) := by
  have := OwnsL.i (k := .i64) (n := p.a.seq) (.o oa (.i (k := .i64) (n := p.a.sum) (.i (k := .i64) (n := p.b.seq) (.o ob (.i (k := .i64) (n := p.b.sum) .e)))))
  unfold encPair; simpa using this
theorem nin_ge {ids : List Nat} {n j : Nat} (h : ∀ i ∈ ids, n ≤ i) (hj : j < n) : j ∉ ids := fun hm => by have := h j hm; omega
theorem copySlot_c (s : Slot) (hx : s.words.length ≤ 1048576) : F Try.prog 64 [.agg (encSlot s)] (.agg (encSlot s)) := by
  obtain ⟨seq, words, sum⟩ := s
  refine C.by mixed (cfn_ok Try.func64 ok64) rfl ?_
  simp (disch := omega) only [s64, go_sem, Nat.reduceEqDiff, Nat.reduceAdd, Nat.reduceSub, Nat.reduceLeDiff, Nat.reduceLT, Nat.reduceMul, Nat.reduceBEq, Int.reduceEq, Int.reduceLT, Int.reduceLE, Int.reduceNeg, Int.reduceToNat, Int.reduceSub, Int.reduceAdd, reduceIte, encSlot]
  refine F.go (cloneI_f words hx) (.same (refs_ints1 _ _)) fun r h1 ids x1 n1 g1 o1 => ?_
  have o1 := Owns.lstR.1 o1
  obtain ⟨ov, on, oc⟩ := o1.vv
  have b0 := x1.get (i := 0) rfl
  have b1 := x1.get (i := 1) rfl
  have c0 : ∀ c, (h1.set 0 c)[0]? = some c := fun c => heap_set _ b0
  have c1 : ∀ c, (h1.set 0 c)[1]? = some [[.int .i64 0, .nils, .int .i64 0]] := fun c => heap_set_ne _ (by omega) b1
  have c2 : ∀ c d, ((h1.set 0 c).set 1 d)[1]? = some d := fun c d => heap_set _ (c1 c)
  simp (disch := omega) only [go_sem, Nat.reduceEqDiff, Nat.reduceAdd, Nat.reduceSub, Nat.reduceLeDiff, Nat.reduceLT, Nat.reduceMul, Nat.reduceBEq, Int.reduceEq, Int.reduceLT, Int.reduceLE, Int.reduceNeg, Int.reduceToNat, Int.reduceSub, Int.reduceAdd, reduceIte, ov, on, oc, b0, b1, c0, c1, c2, storeH, storeB, splice]
  exact ⟨ids, n1, Owns.aggR.2 ⟨_, rfl, OwnsL.mkSlot (s := ⟨seq, words, sum⟩) ((o1.set _ (nin_ge g1 (by simp))).set _ (nin_ge g1 (by simp)))⟩⟩
theorem copySlot_s (s : Slot) (hx : s.words.length ≤ 1048576) : F Try.prog 82 [.agg (encSlot s)] (.agg (encSlot s)) := by
  obtain ⟨seq, words, sum⟩ := s
  refine C.by mixed (cfn_ok Try.func82 ok82) rfl ?_
  have ha : ∀ h : Heap, appendH (h ++ [[]]) 1 8 (.own h.length 1 0 0 0) (.lst 1 (words.map encI)) = some (.own h.length 1 0 words.length words.length, h ++ [words.map encI]) := fun h => by
    have := appendH_n (sz := 1) (bytes := 8) (n := 0) (m := words.length) (b := []) (xs := words.map encI) (x := .lst 1 (words.map encI)) (at_app0 h [[]]) rfl (by simp [elemsOf]) (by simp) (by simp only at hx; omega)
    simpa using this
  simp (disch := omega) only [s82, go_sem, Nat.reduceEqDiff, Nat.reduceAdd, Nat.reduceSub, Nat.reduceLeDiff, Nat.reduceLT, Nat.reduceMul, Nat.reduceBEq, Int.reduceEq, Int.reduceLT, Int.reduceLE, Int.reduceNeg, Int.reduceToNat, Int.reduceSub, Int.reduceAdd, reduceIte, encSlot, storeH, storeB, splice]
  have ha' := ha [[[.int .i64 seq, .lst 1 (words.map encI), .int .i64 sum]], [[.int .i64 0, .nils, .int .i64 0]]]
  simp only [List.length_cons, List.length_nil, List.cons_append, List.nil_append] at ha'
  simp (disch := omega) only [go_sem, Nat.reduceEqDiff, Nat.reduceAdd, Nat.reduceSub, Nat.reduceLeDiff, Nat.reduceLT, Nat.reduceMul, Nat.reduceBEq, Int.reduceEq, Int.reduceLT, Int.reduceLE, Int.reduceNeg, Int.reduceToNat, Int.reduceSub, Int.reduceAdd, reduceIte, storeH, storeB, splice, ha']
  exact ⟨[2], by simp, Owns.aggR.2 ⟨_, rfl, OwnsL.mkSlot (s := ⟨seq, words, sum⟩) (Owns.own_flat rfl (by simp) (flat_encI _))⟩⟩
theorem copyPair_c (p : Pair) (hp : PairIn p) : F Try.prog 65 [.agg (encPair p)] (.agg (encPair p)) := by
  obtain ⟨⟨qa, wa, ma⟩, ⟨qb, wb, mb⟩⟩ := p
  obtain ⟨ha, hb⟩ := hp
  refine C.by mixed (cfn_ok Try.func65 ok65) rfl ?_
  simp (disch := omega) only [s65, go_sem, Nat.reduceEqDiff, Nat.reduceAdd, Nat.reduceSub, Nat.reduceLeDiff, Nat.reduceLT, Nat.reduceMul, Nat.reduceBEq, Int.reduceEq, Int.reduceLT, Int.reduceLE, Int.reduceNeg, Int.reduceToNat, Int.reduceSub, Int.reduceAdd, reduceIte, encPair]
  refine F.go (copySlot_c ⟨qa, wa, ma⟩ ha) (.same (refs_slot1 _ ⟨qa, wa, ma⟩)) fun r h1 ids x1 n1 g1 o1 => ?_
  obtain ⟨cs, rfl, p1⟩ := Owns.aggR.1 o1
  clear o1
  obtain ⟨va, rfl, o1⟩ := p1.slot
  clear p1
  obtain ⟨ov, on, oc⟩ := o1.vv
  have b0 := x1.get (i := 0) rfl
  have b1 := x1.get (i := 1) rfl
  simp (disch := omega) only [go_sem, Nat.reduceEqDiff, Nat.reduceAdd, Nat.reduceSub, Nat.reduceLeDiff, Nat.reduceLT, Nat.reduceMul, Nat.reduceBEq, Int.reduceEq, Int.reduceLT, Int.reduceLE, Int.reduceNeg, Int.reduceToNat, Int.reduceSub, Int.reduceAdd, reduceIte, ov, b0, b1, storeH, storeB, splice]
  refine F.go (copySlot_c ⟨qb, wb, mb⟩ hb) (.same (refs_slot1 _ ⟨qb, wb, mb⟩)) fun r h2 ids2 x2 n2 g2 o2 => ?_
  obtain ⟨cs, rfl, p2⟩ := Owns.aggR.1 o2
  clear o2
  obtain ⟨vb, rfl, o2⟩ := p2.slot
  clear p2
  obtain ⟨ow, own, owc⟩ := o2.vv
  have b0 := x2.get b0
  have b1 := x2.get b1
  have lt1 := o1.lt
  have o1 := o1.up x2
  have c1 : ∀ c, (h2.set 1 c)[1]? = some c := fun c => heap_set _ b1
  simp (disch := omega) only [go_sem, Nat.reduceEqDiff, Nat.reduceAdd, Nat.reduceSub, Nat.reduceLeDiff, Nat.reduceLT, Nat.reduceMul, Nat.reduceBEq, Int.reduceEq, Int.reduceLT, Int.reduceLE, Int.reduceNeg, Int.reduceToNat, Int.reduceSub, Int.reduceAdd, reduceIte, ov, ow, b0, b1, c1, storeH, storeB, splice]
  refine ⟨ids ++ ids2, ?_, Owns.aggR.2 ⟨_, rfl, OwnsL.mkPair (p := ⟨⟨qa, wa, ma⟩, ⟨qb, wb, mb⟩⟩) (o1.set _ (nin_ge g1 (by simp))) (o2.set _ (nin_ge g2 (by have := heap_lt b1; have := x1.len; simp at this; omega)))⟩⟩
  rw [List.nodup_append]
  exact ⟨n1, n2, fun x hx y hy e => by subst e; have := lt1 x hx; have := g2 x hy; omega⟩
def emptySlot : Slot := ⟨0, [], 0⟩
/-- The valid slot with the greater number. -/
def newestM (p : Pair) : Slot := if whichM p = 0 then p.a else if whichM p = 1 then p.b else emptySlot
def isNewM (p : Pair) : Bool := decide (whichM p = 0) || decide (whichM p = 1)
theorem newest_c (p : Pair) (hp : PairIn p) : F Try.prog 21 [.agg (encPair p)] (.tup [.agg (encSlot (newestM p)), .bool (isNewM p)]) := by
  have hq := hp
  obtain ⟨⟨qa, wa, ma⟩, ⟨qb, wb, mb⟩⟩ := p
  obtain ⟨ha, hb⟩ := hp
  refine C.by mixed (cfn_ok Try.func21 ok21) rfl ?_
  simp (disch := omega) only [s21, go_sem, Nat.reduceEqDiff, Nat.reduceAdd, Nat.reduceSub, Nat.reduceLeDiff, Nat.reduceLT, Nat.reduceMul, Nat.reduceBEq, Int.reduceEq, Int.reduceLT, Int.reduceLE, Int.reduceNeg, Int.reduceToNat, Int.reduceSub, Int.reduceAdd, reduceIte, encPair]
  refine CP.go (which_c ⟨⟨qa, wa, ma⟩, ⟨qb, wb, mb⟩⟩ hq) rfl (refs_pair1 _ ⟨⟨qa, wa, ma⟩, ⟨qb, wb, mb⟩⟩) ?_
  simp (disch := omega) only [go_sem, Nat.reduceEqDiff, Nat.reduceAdd, Nat.reduceSub, Nat.reduceLeDiff, Nat.reduceLT, Nat.reduceMul, Nat.reduceBEq, Int.reduceEq, Int.reduceLT, Int.reduceLE, Int.reduceNeg, Int.reduceToNat, Int.reduceSub, Int.reduceAdd, reduceIte]
  refine condP_dec (fun h0 => ?_) (fun h0 => ?_)
  · simp (disch := omega) only [go_sem, Nat.reduceEqDiff, Nat.reduceAdd, Nat.reduceSub, Nat.reduceLeDiff, Nat.reduceLT, Nat.reduceMul, Nat.reduceBEq, Int.reduceEq, Int.reduceLT, Int.reduceLE, Int.reduceNeg, Int.reduceToNat, Int.reduceSub, Int.reduceAdd, reduceIte]
    refine F.go (copySlot_c ⟨qa, wa, ma⟩ ha) (.same (refs_slot1 _ ⟨qa, wa, ma⟩)) fun r h1 ids x1 n1 g1 o1 => ?_
    obtain ⟨cs, rfl, p1⟩ := Owns.aggR.1 o1
    clear o1
    obtain ⟨va, rfl, o1⟩ := p1.slot
    clear p1
    obtain ⟨ov, on, oc⟩ := o1.vv
    have b1 := x1.get (i := 1) rfl
    have c1 : ∀ c, (h1.set 1 c)[1]? = some c := fun c => heap_set _ b1
    simp (disch := omega) only [go_sem, Nat.reduceEqDiff, Nat.reduceAdd, Nat.reduceSub, Nat.reduceLeDiff, Nat.reduceLT, Nat.reduceMul, Nat.reduceBEq, Int.reduceEq, Int.reduceLT, Int.reduceLE, Int.reduceNeg, Int.reduceToNat, Int.reduceSub, Int.reduceAdd, reduceIte, ov, on, oc, b1, c1, storeH, storeB, splice]
    have e1 : newestM ⟨⟨qa, wa, ma⟩, ⟨qb, wb, mb⟩⟩ = ⟨qa, wa, ma⟩ := by simp [newestM, h0]
    have e2 : isNewM ⟨⟨qa, wa, ma⟩, ⟨qb, wb, mb⟩⟩ = true := by simp [isNewM, h0]
    rw [e1, e2]
    have := OwnsL.mkSlot (s := ⟨qa, wa, ma⟩) (o1.set (j := 1) [[.int .i64 qa, va, .int .i64 ma]] (nin_ge g1 (by simp)))
    exact ⟨ids ++ [], by simpa using n1, OwnsR.tup.2 ⟨_, rfl, .o (.a this) (.b .e)⟩⟩
  · simp (disch := omega) only [go_sem, Nat.reduceEqDiff, Nat.reduceAdd, Nat.reduceSub, Nat.reduceLeDiff, Nat.reduceLT, Nat.reduceMul, Nat.reduceBEq, Int.reduceEq, Int.reduceLT, Int.reduceLE, Int.reduceNeg, Int.reduceToNat, Int.reduceSub, Int.reduceAdd, reduceIte]
    refine condP_dec (fun h2 => ?_) (fun h2 => ?_)
    · simp (disch := omega) only [go_sem, Nat.reduceEqDiff, Nat.reduceAdd, Nat.reduceSub, Nat.reduceLeDiff, Nat.reduceLT, Nat.reduceMul, Nat.reduceBEq, Int.reduceEq, Int.reduceLT, Int.reduceLE, Int.reduceNeg, Int.reduceToNat, Int.reduceSub, Int.reduceAdd, reduceIte]
      refine F.go (copySlot_c ⟨qb, wb, mb⟩ hb) (.same (refs_slot1 _ ⟨qb, wb, mb⟩)) fun r h1 ids x1 n1 g1 o1 => ?_
      obtain ⟨cs, rfl, p1⟩ := Owns.aggR.1 o1
      clear o1
      obtain ⟨va, rfl, o1⟩ := p1.slot
      clear p1
      obtain ⟨ov, on, oc⟩ := o1.vv
      have b1 := x1.get (i := 1) rfl
      have c1 : ∀ c, (h1.set 1 c)[1]? = some c := fun c => heap_set _ b1
      simp (disch := omega) only [go_sem, Nat.reduceEqDiff, Nat.reduceAdd, Nat.reduceSub, Nat.reduceLeDiff, Nat.reduceLT, Nat.reduceMul, Nat.reduceBEq, Int.reduceEq, Int.reduceLT, Int.reduceLE, Int.reduceNeg, Int.reduceToNat, Int.reduceSub, Int.reduceAdd, reduceIte, ov, on, oc, b1, c1, storeH, storeB, splice]
      have e1 : newestM ⟨⟨qa, wa, ma⟩, ⟨qb, wb, mb⟩⟩ = ⟨qb, wb, mb⟩ := by simp [newestM, h2]
      have e2 : isNewM ⟨⟨qa, wa, ma⟩, ⟨qb, wb, mb⟩⟩ = true := by simp [isNewM, h2]
      rw [e1, e2]
      have := OwnsL.mkSlot (s := ⟨qb, wb, mb⟩) (o1.set (j := 1) [[.int .i64 qb, va, .int .i64 mb]] (nin_ge g1 (by simp)))
      exact ⟨ids ++ [], by simpa using n1, OwnsR.tup.2 ⟨_, rfl, .o (.a this) (.b .e)⟩⟩
    · simp (disch := omega) only [go_sem, Nat.reduceEqDiff, Nat.reduceAdd, Nat.reduceSub, Nat.reduceLeDiff, Nat.reduceLT, Nat.reduceMul, Nat.reduceBEq, Int.reduceEq, Int.reduceLT, Int.reduceLE, Int.reduceNeg, Int.reduceToNat, Int.reduceSub, Int.reduceAdd, reduceIte, storeH, storeB, splice]
      have e1 : newestM ⟨⟨qa, wa, ma⟩, ⟨qb, wb, mb⟩⟩ = emptySlot := by simp [newestM, h0, h2]
      have e2 : isNewM ⟨⟨qa, wa, ma⟩, ⟨qb, wb, mb⟩⟩ = false := by simp [isNewM, h0, h2]
      rw [e1, e2]
      exact ⟨[] ++ [], by simp, OwnsR.tup.2 ⟨_, rfl, .o (.a (OwnsL.mkSlot (s := emptySlot) Owns.nils_)) (.b .e)⟩⟩
theorem newest_s (p : Pair) (hp : PairIn p) : F Try.prog 124 [.agg (encPair p)] (.tup [.agg (encSlot (newestM p)), .bool (isNewM p)]) := by
  have hq := hp
  obtain ⟨⟨qa, wa, ma⟩, ⟨qb, wb, mb⟩⟩ := p
  obtain ⟨ha, hb⟩ := hp
  refine C.by mixed (cfn_ok Try.func124 ok124) rfl ?_
  simp (disch := omega) only [s124, go_sem, Nat.reduceEqDiff, Nat.reduceAdd, Nat.reduceSub, Nat.reduceLeDiff, Nat.reduceLT, Nat.reduceMul, Nat.reduceBEq, Int.reduceEq, Int.reduceLT, Int.reduceLE, Int.reduceNeg, Int.reduceToNat, Int.reduceSub, Int.reduceAdd, reduceIte, encPair]
  refine CP.go (which_s ⟨⟨qa, wa, ma⟩, ⟨qb, wb, mb⟩⟩ hq) rfl (refs_pair1 _ ⟨⟨qa, wa, ma⟩, ⟨qb, wb, mb⟩⟩) ?_
  simp (disch := omega) only [go_sem, Nat.reduceEqDiff, Nat.reduceAdd, Nat.reduceSub, Nat.reduceLeDiff, Nat.reduceLT, Nat.reduceMul, Nat.reduceBEq, Int.reduceEq, Int.reduceLT, Int.reduceLE, Int.reduceNeg, Int.reduceToNat, Int.reduceSub, Int.reduceAdd, reduceIte]
  refine condP_dec (fun h0 => ?_) (fun h0 => ?_)
  · simp (disch := omega) only [go_sem, Nat.reduceEqDiff, Nat.reduceAdd, Nat.reduceSub, Nat.reduceLeDiff, Nat.reduceLT, Nat.reduceMul, Nat.reduceBEq, Int.reduceEq, Int.reduceLT, Int.reduceLE, Int.reduceNeg, Int.reduceToNat, Int.reduceSub, Int.reduceAdd, reduceIte]
    refine F.go (copySlot_s ⟨qa, wa, ma⟩ ha) (.same (refs_slot1 _ ⟨qa, wa, ma⟩)) fun r h1 ids x1 n1 g1 o1 => ?_
    obtain ⟨cs, rfl, p1⟩ := Owns.aggR.1 o1
    clear o1
    obtain ⟨va, rfl, o1⟩ := p1.slot
    clear p1
    obtain ⟨ov, on, oc⟩ := o1.vv
    have b1 := x1.get (i := 1) rfl
    have c1 : ∀ c, (h1.set 1 c)[1]? = some c := fun c => heap_set _ b1
    simp (disch := omega) only [go_sem, Nat.reduceEqDiff, Nat.reduceAdd, Nat.reduceSub, Nat.reduceLeDiff, Nat.reduceLT, Nat.reduceMul, Nat.reduceBEq, Int.reduceEq, Int.reduceLT, Int.reduceLE, Int.reduceNeg, Int.reduceToNat, Int.reduceSub, Int.reduceAdd, reduceIte, ov, on, oc, b1, c1, storeH, storeB, splice]
    have e1 : newestM ⟨⟨qa, wa, ma⟩, ⟨qb, wb, mb⟩⟩ = ⟨qa, wa, ma⟩ := by simp [newestM, h0]
    have e2 : isNewM ⟨⟨qa, wa, ma⟩, ⟨qb, wb, mb⟩⟩ = true := by simp [isNewM, h0]
    rw [e1, e2]
    have := OwnsL.mkSlot (s := ⟨qa, wa, ma⟩) (o1.set (j := 1) [[.int .i64 qa, va, .int .i64 ma]] (nin_ge g1 (by simp)))
    exact ⟨ids ++ [], by simpa using n1, OwnsR.tup.2 ⟨_, rfl, .o (.a this) (.b .e)⟩⟩
  · simp (disch := omega) only [go_sem, Nat.reduceEqDiff, Nat.reduceAdd, Nat.reduceSub, Nat.reduceLeDiff, Nat.reduceLT, Nat.reduceMul, Nat.reduceBEq, Int.reduceEq, Int.reduceLT, Int.reduceLE, Int.reduceNeg, Int.reduceToNat, Int.reduceSub, Int.reduceAdd, reduceIte]
    refine condP_dec (fun h2 => ?_) (fun h2 => ?_)
    · simp (disch := omega) only [go_sem, Nat.reduceEqDiff, Nat.reduceAdd, Nat.reduceSub, Nat.reduceLeDiff, Nat.reduceLT, Nat.reduceMul, Nat.reduceBEq, Int.reduceEq, Int.reduceLT, Int.reduceLE, Int.reduceNeg, Int.reduceToNat, Int.reduceSub, Int.reduceAdd, reduceIte]
      refine F.go (copySlot_s ⟨qb, wb, mb⟩ hb) (.same (refs_slot1 _ ⟨qb, wb, mb⟩)) fun r h1 ids x1 n1 g1 o1 => ?_
      obtain ⟨cs, rfl, p1⟩ := Owns.aggR.1 o1
      clear o1
      obtain ⟨va, rfl, o1⟩ := p1.slot
      clear p1
      obtain ⟨ov, on, oc⟩ := o1.vv
      have b1 := x1.get (i := 1) rfl
      have c1 : ∀ c, (h1.set 1 c)[1]? = some c := fun c => heap_set _ b1
      simp (disch := omega) only [go_sem, Nat.reduceEqDiff, Nat.reduceAdd, Nat.reduceSub, Nat.reduceLeDiff, Nat.reduceLT, Nat.reduceMul, Nat.reduceBEq, Int.reduceEq, Int.reduceLT, Int.reduceLE, Int.reduceNeg, Int.reduceToNat, Int.reduceSub, Int.reduceAdd, reduceIte, ov, on, oc, b1, c1, storeH, storeB, splice]
      have e1 : newestM ⟨⟨qa, wa, ma⟩, ⟨qb, wb, mb⟩⟩ = ⟨qb, wb, mb⟩ := by simp [newestM, h2]
      have e2 : isNewM ⟨⟨qa, wa, ma⟩, ⟨qb, wb, mb⟩⟩ = true := by simp [isNewM, h2]
      rw [e1, e2]
      have := OwnsL.mkSlot (s := ⟨qb, wb, mb⟩) (o1.set (j := 1) [[.int .i64 qb, va, .int .i64 mb]] (nin_ge g1 (by simp)))
      exact ⟨ids ++ [], by simpa using n1, OwnsR.tup.2 ⟨_, rfl, .o (.a this) (.b .e)⟩⟩
    · simp (disch := omega) only [go_sem, Nat.reduceEqDiff, Nat.reduceAdd, Nat.reduceSub, Nat.reduceLeDiff, Nat.reduceLT, Nat.reduceMul, Nat.reduceBEq, Int.reduceEq, Int.reduceLT, Int.reduceLE, Int.reduceNeg, Int.reduceToNat, Int.reduceSub, Int.reduceAdd, reduceIte, storeH, storeB, splice]
      have e1 : newestM ⟨⟨qa, wa, ma⟩, ⟨qb, wb, mb⟩⟩ = emptySlot := by simp [newestM, h0, h2]
      have e2 : isNewM ⟨⟨qa, wa, ma⟩, ⟨qb, wb, mb⟩⟩ = false := by simp [isNewM, h0, h2]
      rw [e1, e2]
      exact ⟨[] ++ [], by simp, OwnsR.tup.2 ⟨_, rfl, .o (.a (OwnsL.mkSlot (s := emptySlot) Owns.nils_)) (.b .e)⟩⟩
end Go.Av
