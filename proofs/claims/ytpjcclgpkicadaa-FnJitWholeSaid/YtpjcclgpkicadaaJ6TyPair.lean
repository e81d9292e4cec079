import Derived.Test.YtpjcclgpkicadaaJ6Types
namespace Go.Av
open Go.Proofs Go.RowKit
set_option linter.unusedVariables false
set_option linter.unusedSimpArgs false
set_option maxRecDepth 100000
set_option maxHeartbeats 4000000
theorem refs_intsI (n : Nat) (xs : List Int) (k : Int) : V.refsL n [.lst 1 (xs.map encI), .int .i64 k] = true := by simp [V.refsL, V.refs, refsLL_map encI (fun _ => rfl) xs]
theorem refs_slotI (n : Nat) (s : Slot) (k : Int) : V.refsL n [.agg (encSlot s), .int .i64 k] = true := by simp [V.refsL, V.refs, refs_slot]
theorem refs_pairI (n : Nat) (p : Pair) (k : Int) : V.refsL n [.agg (encPair p), .int .i64 k] = true := by simp [V.refsL, V.refs, refs_pair]
theorem refs_slot2 (n : Nat) (s t : Slot) : V.refsL n [.agg (encSlot s), .agg (encSlot t)] = true := by simp [V.refsL, V.refs, refs_slot]
theorem refs_ints22 (n : Nat) (s t : List Int) : V.refsL n [.lst 1 (s.map encI), .lst 1 (t.map encI)] = true := by simp [V.refsL, V.refs, refsLL_map encI (fun _ => rfl) s, refsLL_map encI (fun _ => rfl) t]
theorem szSlot_c (s : Slot) (left : Int) (hx : s.words.length ≤ 9223372036854775807) (hl : 0 ≤ left ∧ left ≤ 1048576) : CP Try.prog 81 [.agg (encSlot s), .int .i64 left] (.int .i64 (szM s.words.length left)) [] := by
  obtain ⟨seq, words, sum⟩ := s
  simp only at hx
  have hb := szM_bd words.length left hl
  refine CP.by rfl mixed (cfn_ok Try.func81 ok81) rfl ?_
  simp (disch := omega) only [s81, go_sem, Nat.reduceEqDiff, Nat.reduceAdd, Nat.reduceSub, Nat.reduceLeDiff, Nat.reduceLT, Nat.reduceMul, Nat.reduceBEq, Int.reduceEq, Int.reduceLT, Int.reduceLE, Int.reduceNeg, Int.reduceToNat, Int.reduceSub, Int.reduceAdd, reduceIte, encSlot]
  refine CP.go (szIntS_c words left hx hl) rfl (refs_intsI _ _ _) ?_
  simp (disch := omega) only [go_sem, Nat.reduceEqDiff, Nat.reduceAdd, Nat.reduceSub, Nat.reduceLeDiff, Nat.reduceLT, Nat.reduceMul, Nat.reduceBEq, Int.reduceEq, Int.reduceLT, Int.reduceLE, Int.reduceNeg, Int.reduceToNat, Int.reduceSub, Int.reduceAdd, reduceIte]
  refine condP_dec (fun h => ?_) (fun h => ?_)
  · simp (disch := omega) only [go_sem, Nat.reduceEqDiff, Nat.reduceAdd, Nat.reduceSub, Nat.reduceLeDiff, Nat.reduceLT, Nat.reduceMul, Nat.reduceBEq, Int.reduceEq, Int.reduceLT, Int.reduceLE, Int.reduceNeg, Int.reduceToNat, Int.reduceSub, Int.reduceAdd, reduceIte]
    congr 1; omega
  · simp (disch := omega) only [go_sem, Nat.reduceEqDiff, Nat.reduceAdd, Nat.reduceSub, Nat.reduceLeDiff, Nat.reduceLT, Nat.reduceMul, Nat.reduceBEq, Int.reduceEq, Int.reduceLT, Int.reduceLE, Int.reduceNeg, Int.reduceToNat, Int.reduceSub, Int.reduceAdd, reduceIte]
def szPairM (p : Pair) (left : Int) : Int := if szM p.a.words.length left < 0 then -1 else szM p.b.words.length (szM p.a.words.length left)
theorem szPair_in {p : Pair} (h : ¬ szPairM p 1048576 < 0) : PairIn p := by
  unfold szPairM at h
  split at h
  · omega
  · rename_i h1
    have hb := szM_bd p.a.words.length 1048576 (by omega)
    exact ⟨szM_ok (by omega) h1, szM_ok (by omega) h⟩
theorem szPair_c (p : Pair) (left : Int) (ha : p.a.words.length ≤ 9223372036854775807) (hb : p.b.words.length ≤ 9223372036854775807) (hl : 0 ≤ left ∧ left ≤ 1048576) : CP Try.prog 32 [.agg (encPair p), .int .i64 left] (.int .i64 (szPairM p left)) [] := by
  obtain ⟨⟨qa, wa, ma⟩, ⟨qb, wb, mb⟩⟩ := p
  simp only at ha hb
  have b1 := szM_bd wa.length left hl
  refine CP.by rfl mixed (cfn_ok Try.func32 ok32) rfl ?_
  simp (disch := omega) only [s32, go_sem, Nat.reduceEqDiff, Nat.reduceAdd, Nat.reduceSub, Nat.reduceLeDiff, Nat.reduceLT, Nat.reduceMul, Nat.reduceBEq, Int.reduceEq, Int.reduceLT, Int.reduceLE, Int.reduceNeg, Int.reduceToNat, Int.reduceSub, Int.reduceAdd, reduceIte, encPair]
  refine CP.go (szSlot_c ⟨qa, wa, ma⟩ left ha hl) rfl (refs_slotI _ ⟨qa, wa, ma⟩ _) ?_
  simp (disch := omega) only [go_sem, Nat.reduceEqDiff, Nat.reduceAdd, Nat.reduceSub, Nat.reduceLeDiff, Nat.reduceLT, Nat.reduceMul, Nat.reduceBEq, Int.reduceEq, Int.reduceLT, Int.reduceLE, Int.reduceNeg, Int.reduceToNat, Int.reduceSub, Int.reduceAdd, reduceIte]
  refine condP_dec (fun h => ?_) (fun h => ?_)
  · simp (disch := omega) only [go_sem, Nat.reduceEqDiff, Nat.reduceAdd, Nat.reduceSub, Nat.reduceLeDiff, Nat.reduceLT, Nat.reduceMul, Nat.reduceBEq, Int.reduceEq, Int.reduceLT, Int.reduceLE, Int.reduceNeg, Int.reduceToNat, Int.reduceSub, Int.reduceAdd, reduceIte]
    simp only [szPairM]; rw [if_pos h]
  · simp (disch := omega) only [go_sem, Nat.reduceEqDiff, Nat.reduceAdd, Nat.reduceSub, Nat.reduceLeDiff, Nat.reduceLT, Nat.reduceMul, Nat.reduceBEq, Int.reduceEq, Int.reduceLT, Int.reduceLE, Int.reduceNeg, Int.reduceToNat, Int.reduceSub, Int.reduceAdd, reduceIte]
    have b2 := szM_bd wb.length (szM wa.length left) (by omega)
    refine CP.go (szSlot_c ⟨qb, wb, mb⟩ _ hb (by omega)) rfl (refs_slotI _ ⟨qb, wb, mb⟩ _) ?_
    simp (disch := omega) only [go_sem, Nat.reduceEqDiff, Nat.reduceAdd, Nat.reduceSub, Nat.reduceLeDiff, Nat.reduceLT, Nat.reduceMul, Nat.reduceBEq, Int.reduceEq, Int.reduceLT, Int.reduceLE, Int.reduceNeg, Int.reduceToNat, Int.reduceSub, Int.reduceAdd, reduceIte]
    refine condP_dec (fun h2 => ?_) (fun h2 => ?_)
    · simp (disch := omega) only [go_sem, Nat.reduceEqDiff, Nat.reduceAdd, Nat.reduceSub, Nat.reduceLeDiff, Nat.reduceLT, Nat.reduceMul, Nat.reduceBEq, Int.reduceEq, Int.reduceLT, Int.reduceLE, Int.reduceNeg, Int.reduceToNat, Int.reduceSub, Int.reduceAdd, reduceIte]
      simp only [szPairM]; rw [if_neg h]
      congr 1; omega
    · simp (disch := omega) only [go_sem, Nat.reduceEqDiff, Nat.reduceAdd, Nat.reduceSub, Nat.reduceLeDiff, Nat.reduceLT, Nat.reduceMul, Nat.reduceBEq, Int.reduceEq, Int.reduceLT, Int.reduceLE, Int.reduceNeg, Int.reduceToNat, Int.reduceSub, Int.reduceAdd, reduceIte]
      simp only [szPairM]; rw [if_neg h]
theorem toSlot_f (s : Slot) (hx : s.words.length ≤ 1048576) : F Try.prog 85 [.agg (encSlot s)] (.agg (encSlot s)) := by
  obtain ⟨seq, words, sum⟩ := s
  refine C.by mixed (cfn_ok Try.func85 ok85) rfl ?_
  simp (disch := omega) only [s85, go_sem, Nat.reduceEqDiff, Nat.reduceAdd, Nat.reduceSub, Nat.reduceLeDiff, Nat.reduceLT, Nat.reduceMul, Nat.reduceBEq, Int.reduceEq, Int.reduceLT, Int.reduceLE, Int.reduceNeg, Int.reduceToNat, Int.reduceSub, Int.reduceAdd, reduceIte, encSlot, storeH, storeB, splice]
  refine F.go (toIntS_f words hx) (.same (refs_ints1 _ _)) fun r h1 ids x1 n1 g1 o1 => ?_
  have o1 := Owns.lstR.1 o1
  obtain ⟨ov, on, oc⟩ := o1.vv
  have b0 := x1.get (i := 0) rfl
  have b1 := x1.get (i := 1) rfl
  have b2 := x1.get (i := 2) rfl
  have c0 : ∀ c, (h1.set 2 c)[2]? = some c := fun c => heap_set _ b2
  have c1 : ∀ c, (h1.set 2 c)[0]? = some [[.int .i64 seq, .lst 1 (words.map encI), .int .i64 sum]] := fun c => heap_set_ne _ (by omega) b0
  have c2 : ∀ c, (h1.set 2 c)[1]? = some [[.int .i64 0, .nils, .int .i64 0]] := fun c => heap_set_ne _ (by omega) b1
  have c3 : ∀ c d, ((h1.set 2 c).set 1 d)[1]? = some d := fun c d => heap_set _ (c2 c)
  have ss : ∀ c d, (h1.set 2 c).set 2 d = h1.set 2 d := fun c d => List.set_set ..
  simp (disch := omega) only [go_sem, Nat.reduceEqDiff, Nat.reduceAdd, Nat.reduceSub, Nat.reduceLeDiff, Nat.reduceLT, Nat.reduceMul, Nat.reduceBEq, Int.reduceEq, Int.reduceLT, Int.reduceLE, Int.reduceNeg, Int.reduceToNat, Int.reduceSub, Int.reduceAdd, reduceIte, ov, on, oc, b0, b1, b2, c0, c1, c2, c3, ss, storeH, storeB, splice]
  exact ⟨ids, n1, Owns.aggR.2 ⟨_, rfl, OwnsL.mkSlot (s := ⟨seq, words, sum⟩) ((o1.set _ (nin_ge g1 (by simp))).set _ (nin_ge g1 (by simp)))⟩⟩
theorem toPair_f (p : Pair) (hp : PairIn p) : F Try.prog 34 [.agg (encPair p)] (.agg (encPair p)) := by
  obtain ⟨⟨qa, wa, ma⟩, ⟨qb, wb, mb⟩⟩ := p
  obtain ⟨ha, hb⟩ := hp
  refine C.by mixed (cfn_ok Try.func34 ok34) rfl ?_
  simp (disch := omega) only [s34, go_sem, Nat.reduceEqDiff, Nat.reduceAdd, Nat.reduceSub, Nat.reduceLeDiff, Nat.reduceLT, Nat.reduceMul, Nat.reduceBEq, Int.reduceEq, Int.reduceLT, Int.reduceLE, Int.reduceNeg, Int.reduceToNat, Int.reduceSub, Int.reduceAdd, reduceIte, encPair]
  refine F.go (toSlot_f ⟨qa, wa, ma⟩ ha) (.same (refs_slot1 _ ⟨qa, wa, ma⟩)) fun r h1 ids x1 n1 g1 o1 => ?_
  obtain ⟨cs, rfl, p1⟩ := Owns.aggR.1 o1
  clear o1
  obtain ⟨va, rfl, o1⟩ := p1.slot
  clear p1
  obtain ⟨ov, on, oc⟩ := o1.vv
  have b0 := x1.get (i := 0) rfl
  have b1 := x1.get (i := 1) rfl
  have b2 := x1.get (i := 2) rfl
  have l1 := x1.len
  simp only [List.length_cons, List.length_nil] at l1
  have c2 : ∀ c, (h1.set 2 c)[2]? = some c := fun c => heap_set _ b2
  have c0 : ∀ c, (h1.set 2 c)[0]? = some [[.int .i64 qa, .lst 1 (wa.map encI), .int .i64 ma, .int .i64 qb, .lst 1 (wb.map encI), .int .i64 mb]] := fun c => heap_set_ne _ (by omega) b0
  have c1 : ∀ c, (h1.set 2 c)[1]? = some [[.int .i64 0, .nils, .int .i64 0, .int .i64 0, .nils, .int .i64 0]] := fun c => heap_set_ne _ (by omega) b1
  have lt1 := o1.lt
  simp (disch := omega) only [go_sem, Nat.reduceEqDiff, Nat.reduceAdd, Nat.reduceSub, Nat.reduceLeDiff, Nat.reduceLT, Nat.reduceMul, Nat.reduceBEq, Int.reduceEq, Int.reduceLT, Int.reduceLE, Int.reduceNeg, Int.reduceToNat, Int.reduceSub, Int.reduceAdd, reduceIte, ov, on, oc, b0, b1, b2, c0, c1, c2, storeH, storeB, splice]
  have o1' := o1.set (j := 2) [[.int .i64 qa, va, .int .i64 ma, .int .i64 0, .nils, .int .i64 0]] (nin_ge g1 (by simp))
  refine F.go (toSlot_f ⟨qb, wb, mb⟩ hb) (.same (refs_slot1 _ ⟨qb, wb, mb⟩)) fun r h2 ids2 x2 n2 g2 o2 => ?_
  obtain ⟨cs, rfl, p2⟩ := Owns.aggR.1 o2
  clear o2
  obtain ⟨vb, rfl, o2⟩ := p2.slot
  clear p2
  obtain ⟨ow, own, owc⟩ := o2.vv
  have d1 := x2.get (c1 _)
  have d2 := x2.get (c2 _)
  have o1 := o1'.up x2
  have e1 : ∀ c, (h2.set 2 c)[1]? = some [[.int .i64 0, .nils, .int .i64 0, .int .i64 0, .nils, .int .i64 0]] := fun c => heap_set_ne _ (by omega) d1
  have e2 : ∀ c, (h2.set 2 c)[2]? = some c := fun c => heap_set _ d2
  have e3 : ∀ c d, ((h2.set 2 c).set 1 d)[1]? = some d := fun c d => heap_set _ (e1 c)
  have g2' : ∀ i ∈ ids2, h1.length ≤ i := fun i hi => by have := g2 i hi; simpa using this
  simp (disch := omega) only [go_sem, Nat.reduceEqDiff, Nat.reduceAdd, Nat.reduceSub, Nat.reduceLeDiff, Nat.reduceLT, Nat.reduceMul, Nat.reduceBEq, Int.reduceEq, Int.reduceLT, Int.reduceLE, Int.reduceNeg, Int.reduceToNat, Int.reduceSub, Int.reduceAdd, reduceIte, ov, on, oc, ow, own, owc, d1, d2, e1, e2, e3, storeH, storeB, splice]
  refine ⟨ids ++ ids2, ?_, Owns.aggR.2 ⟨_, rfl, OwnsL.mkPair (p := ⟨⟨qa, wa, ma⟩, ⟨qb, wb, mb⟩⟩) ((o1.set _ (nin_ge g1 (by simp))).set _ (nin_ge g1 (by simp))) ((o2.set _ (nin_ge g2' (by omega))).set _ (nin_ge g2' (by omega)))⟩⟩
  rw [List.nodup_append]
  exact ⟨n1, n2, fun x hx y hy e => by subst e; have := lt1 x hx; have := g2' x hy; omega⟩
theorem eqSlot_c (s : Slot) (hx : s.words.length ≤ 1048576) : CP Try.prog 86 [.agg (encSlot s), .agg (encSlot s)] (.bool true) [] := by
  obtain ⟨seq, words, sum⟩ := s
  simp only at hx
  refine CP.by rfl mixed (cfn_ok Try.func86 ok86) rfl ?_
  simp (disch := omega) only [s86, go_sem, Nat.reduceEqDiff, Nat.reduceAdd, Nat.reduceSub, Nat.reduceLeDiff, Nat.reduceLT, Nat.reduceMul, Nat.reduceBEq, Int.reduceEq, Int.reduceLT, Int.reduceLE, Int.reduceNeg, Int.reduceToNat, Int.reduceSub, Int.reduceAdd, reduceIte, encSlot]
  refine CP.go (eqIntS_c words words (by omega)) rfl (refs_ints22 _ _ _) ?_
  simp (disch := omega) only [go_sem, Nat.reduceEqDiff, Nat.reduceAdd, Nat.reduceSub, Nat.reduceLeDiff, Nat.reduceLT, Nat.reduceMul, Nat.reduceBEq, Int.reduceEq, Int.reduceLT, Int.reduceLE, Int.reduceNeg, Int.reduceToNat, Int.reduceSub, Int.reduceAdd, reduceIte, decide_eq_true_eq]
theorem eqPair_c (p : Pair) (hp : PairIn p) : CP Try.prog 35 [.agg (encPair p), .agg (encPair p)] (.bool true) [] := by
  obtain ⟨⟨qa, wa, ma⟩, ⟨qb, wb, mb⟩⟩ := p
  obtain ⟨ha, hb⟩ := hp
  refine CP.by rfl mixed (cfn_ok Try.func35 ok35) rfl ?_
  simp (disch := omega) only [s35, go_sem, Nat.reduceEqDiff, Nat.reduceAdd, Nat.reduceSub, Nat.reduceLeDiff, Nat.reduceLT, Nat.reduceMul, Nat.reduceBEq, Int.reduceEq, Int.reduceLT, Int.reduceLE, Int.reduceNeg, Int.reduceToNat, Int.reduceSub, Int.reduceAdd, reduceIte, encPair]
  refine CP.go (eqSlot_c ⟨qa, wa, ma⟩ ha) rfl (refs_slot2 _ ⟨qa, wa, ma⟩ ⟨qa, wa, ma⟩) ?_
  simp (disch := omega) only [go_sem, Nat.reduceEqDiff, Nat.reduceAdd, Nat.reduceSub, Nat.reduceLeDiff, Nat.reduceLT, Nat.reduceMul, Nat.reduceBEq, Int.reduceEq, Int.reduceLT, Int.reduceLE, Int.reduceNeg, Int.reduceToNat, Int.reduceSub, Int.reduceAdd, reduceIte]
  refine CP.go (eqSlot_c ⟨qb, wb, mb⟩ hb) rfl (refs_slot2 _ ⟨qb, wb, mb⟩ ⟨qb, wb, mb⟩) ?_
  simp (disch := omega) only [go_sem, Nat.reduceEqDiff, Nat.reduceAdd, Nat.reduceSub, Nat.reduceLeDiff, Nat.reduceLT, Nat.reduceMul, Nat.reduceBEq, Int.reduceEq, Int.reduceLT, Int.reduceLE, Int.reduceNeg, Int.reduceToNat, Int.reduceSub, Int.reduceAdd, reduceIte]
theorem heldSlot_c (s : Slot) (n : Nat) (k : Int) (hx : n ≤ 1048576) (hk : 0 ≤ k ∧ k ≤ 1000000000000) : CP Try.prog 88 [.agg (encSlot ⟨s.seq, mkI k n, s.sum⟩), .int .i64 k] (.int .i64 (k + n)) [] := by
  refine CP.by rfl mixed (cfn_ok Try.func88 ok88) rfl ?_
  simp (disch := omega) only [s88, go_sem, Nat.reduceEqDiff, Nat.reduceAdd, Nat.reduceSub, Nat.reduceLeDiff, Nat.reduceLT, Nat.reduceMul, Nat.reduceBEq, Int.reduceEq, Int.reduceLT, Int.reduceLE, Int.reduceNeg, Int.reduceToNat, Int.reduceSub, Int.reduceAdd, reduceIte, encSlot]
  refine CP.go (heldIntS_c n k hx hk) rfl (refs_intsI _ _ _) ?_
  simp (disch := omega) only [go_sem, Nat.reduceEqDiff, Nat.reduceAdd, Nat.reduceSub, Nat.reduceLeDiff, Nat.reduceLT, Nat.reduceMul, Nat.reduceBEq, Int.reduceEq, Int.reduceLT, Int.reduceLE, Int.reduceNeg, Int.reduceToNat, Int.reduceSub, Int.reduceAdd, reduceIte]
def markP (p : Pair) (k : Int) : Pair := ⟨⟨p.a.seq, mkI k p.a.words.length, p.a.sum⟩, ⟨p.b.seq, mkI (k + p.a.words.length) p.b.words.length, p.b.sum⟩⟩
theorem heldPair_c (p : Pair) (k : Int) (hp : PairIn p) (hk : 0 ≤ k ∧ k ≤ 10000000) : CP Try.prog 38 [.agg (encPair (markP p k)), .int .i64 k] (.int .i64 (k + p.a.words.length + p.b.words.length)) [] := by
  obtain ⟨⟨qa, wa, ma⟩, ⟨qb, wb, mb⟩⟩ := p
  obtain ⟨ha, hb⟩ := hp
  simp only at ha hb
  refine CP.by rfl mixed (cfn_ok Try.func38 ok38) rfl ?_
  simp (disch := omega) only [s38, go_sem, Nat.reduceEqDiff, Nat.reduceAdd, Nat.reduceSub, Nat.reduceLeDiff, Nat.reduceLT, Nat.reduceMul, Nat.reduceBEq, Int.reduceEq, Int.reduceLT, Int.reduceLE, Int.reduceNeg, Int.reduceToNat, Int.reduceSub, Int.reduceAdd, reduceIte, encPair, markP]
  refine CP.go (heldSlot_c ⟨qa, wa, ma⟩ wa.length k ha (by omega)) rfl (refs_slotI _ ⟨qa, _, ma⟩ _) ?_
  simp (disch := omega) only [go_sem, Nat.reduceEqDiff, Nat.reduceAdd, Nat.reduceSub, Nat.reduceLeDiff, Nat.reduceLT, Nat.reduceMul, Nat.reduceBEq, Int.reduceEq, Int.reduceLT, Int.reduceLE, Int.reduceNeg, Int.reduceToNat, Int.reduceSub, Int.reduceAdd, reduceIte]
  refine CP.go (heldSlot_c ⟨qb, wb, mb⟩ wb.length (k + wa.length) hb (by omega)) rfl (refs_slotI _ ⟨qb, _, mb⟩ _) ?_
  simp (disch := omega) only [go_sem, Nat.reduceEqDiff, Nat.reduceAdd, Nat.reduceSub, Nat.reduceLeDiff, Nat.reduceLT, Nat.reduceMul, Nat.reduceBEq, Int.reduceEq, Int.reduceLT, Int.reduceLE, Int.reduceNeg, Int.reduceToNat, Int.reduceSub, Int.reduceAdd, reduceIte]
theorem markSlot_c (h : Heap) (s : Slot) (v : V) (ids : List Nat) (k : Int) (o : Owns h (.lst 1 (s.words.map encI)) v ids) (hx : s.words.length ≤ 1048576) (hk : 0 ≤ k ∧ k ≤ 1000000000000) :
    C Try.prog 87 [.agg [.int .i64 s.seq, v, .int .i64 s.sum], .int .i64 k] h (fun r h' => r = .int .i64 (k + s.words.length) ∧ (∀ j, j < h.length → j ∉ ids → h'[j]? = h[j]?) ∧ Owns h' (.lst 1 ((mkI k s.words.length).map encI)) v ids ∧ h.length ≤ h'.length) := by
  obtain ⟨ov, on, oc⟩ := o.vv
  refine C.by mixed (cfn_ok Try.func87 ok87) rfl ?_
  simp (disch := omega) only [s87, go_sem, Nat.reduceEqDiff, Nat.reduceAdd, Nat.reduceSub, Nat.reduceLeDiff, Nat.reduceLT, Nat.reduceMul, Nat.reduceBEq, Int.reduceEq, Int.reduceLT, Int.reduceLE, Int.reduceNeg, Int.reduceToNat, Int.reduceSub, Int.reduceAdd, reduceIte, ov, on, oc]
  refine C.go (markIntS_c _ s.words v ids k (o.up (Ext.app _ _)) hx hk) ?_
  rintro r h1 ⟨rfl, off, o1, hl⟩
  simp (disch := omega) only [go_sem, Nat.reduceEqDiff, Nat.reduceAdd, Nat.reduceSub, Nat.reduceLeDiff, Nat.reduceLT, Nat.reduceMul, Nat.reduceBEq, Int.reduceEq, Int.reduceLT, Int.reduceLE, Int.reduceNeg, Int.reduceToNat, Int.reduceSub, Int.reduceAdd, reduceIte, ov, on, oc]
  refine ⟨fun j hj hn => by rw [off j hn, List.getElem?_append_left hj], o1, by rw [hl]; simp⟩
theorem markPair_c (h : Heap) (p : Pair) (va vb : V) (ia ib : List Nat) (k : Int) (oa : Owns h (.lst 1 (p.a.words.map encI)) va ia) (ob : Owns h (.lst 1 (p.b.words.map encI)) vb ib) (nd : (ia ++ ib).Nodup) (hp : PairIn p) (hk : 0 ≤ k ∧ k ≤ 10000000) :
    C Try.prog 36 [.agg [.int .i64 p.a.seq, va, .int .i64 p.a.sum, .int .i64 p.b.seq, vb, .int .i64 p.b.sum], .int .i64 k] h (fun r h' => r = .int .i64 (k + p.a.words.length + p.b.words.length) ∧ (∀ j, j < h.length → j ∉ ia ++ ib → h'[j]? = h[j]?) ∧ Owns h' (.lst 1 ((mkI k p.a.words.length).map encI)) va ia ∧ Owns h' (.lst 1 ((mkI (k + p.a.words.length) p.b.words.length).map encI)) vb ib ∧ h.length ≤ h'.length) := by
  obtain ⟨ao, an, ac⟩ := oa.vv
  obtain ⟨bo, bn, bc⟩ := ob.vv
  have ha := hp.a
  have hb := hp.b
  have nd' := List.nodup_append.1 nd
  have lta := oa.lt
  have ltb := ob.lt
  refine C.by mixed (cfn_ok Try.func36 ok36) rfl ?_
  simp (disch := omega) only [s36, go_sem, Nat.reduceEqDiff, Nat.reduceAdd, Nat.reduceSub, Nat.reduceLeDiff, Nat.reduceLT, Nat.reduceMul, Nat.reduceBEq, Int.reduceEq, Int.reduceLT, Int.reduceLE, Int.reduceNeg, Int.reduceToNat, Int.reduceSub, Int.reduceAdd, reduceIte, ao, an, ac, bo, bn, bc]
  refine C.go (markSlot_c _ p.a va ia k (oa.up (Ext.app _ _)) ha (by omega)) ?_
  rintro r h1 ⟨rfl, off1, o1, hl1⟩
  have b0 := (off1 h.length (by simp) (fun hm => by have := lta _ hm; omega)).trans (at_app0 _ _)
  have l1 : h.length + 1 ≤ h1.length := by simpa using hl1
  have ob1 : Owns h1 (.lst 1 (p.b.words.map encI)) vb ib := (ob.up (Ext.app h _)).keep fun i hi => off1 i (by have := ltb i hi; simp; omega) (fun hm => nd'.2.2 i hm i hi rfl)
  simp (disch := omega) only [go_sem, Nat.reduceEqDiff, Nat.reduceAdd, Nat.reduceSub, Nat.reduceLeDiff, Nat.reduceLT, Nat.reduceMul, Nat.reduceBEq, Int.reduceEq, Int.reduceLT, Int.reduceLE, Int.reduceNeg, Int.reduceToNat, Int.reduceSub, Int.reduceAdd, reduceIte, ao, an, ac, bo, bn, bc, b0]
  refine C.go (markSlot_c _ p.b vb ib _ ob1 hb (by omega)) ?_
  rintro r h2 ⟨rfl, off2, o2, hl2⟩
  simp (disch := omega) only [go_sem, Nat.reduceEqDiff, Nat.reduceAdd, Nat.reduceSub, Nat.reduceLeDiff, Nat.reduceLT, Nat.reduceMul, Nat.reduceBEq, Int.reduceEq, Int.reduceLT, Int.reduceLE, Int.reduceNeg, Int.reduceToNat, Int.reduceSub, Int.reduceAdd, reduceIte, ao, an, ac, bo, bn, bc, b0]
  refine ⟨fun j hj hn => ?_, o1.keep fun i hi => off2 i (by have := lta i hi; omega) (fun hm => nd'.2.2 i hi i hm rfl), o2, by omega⟩
  rw [off2 j (by omega) (fun hm => hn (by simp [hm])), off1 j (by simp; omega) (fun hm => hn (by simp [hm])), List.getElem?_append_left hj]
end Go.Av
