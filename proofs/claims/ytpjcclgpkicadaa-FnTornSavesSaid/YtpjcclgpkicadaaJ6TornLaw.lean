import Derived.Test.YtpjcclgpkicadaaJ6Torn
namespace Go.Av
open Go.Proofs Go.RowKit
set_option linter.unusedVariables false
set_option linter.unusedSimpArgs false
set_option maxRecDepth 100000
set_option maxHeartbeats 4000000
theorem drawn_in {s : Slot} (h : Drawn s) : s.words.length ≤ 1048576 ∧ s.seq ≤ 6 := by
  rcases h with rfl | ⟨h1, h2, h3, h4⟩
  · simp
  · omega
theorem drawn_newest {p : Pair} (ha : Drawn p.a) (hb : Drawn p.b) : (newestM p).seq ≤ 6 := by
  unfold newestM
  split
  · exact (drawn_in ha).2
  · split
    · exact (drawn_in hb).2
    · show (0 : Int) ≤ 6; omega
theorem newest_words {p : Pair} (hp : PairIn p) : (newestM p).words.length ≤ 1048576 := by
  unfold newestM
  split
  · exact hp.a
  · split
    · exact hp.b
    · exact Nat.zero_le _
theorem sameInts_c (xs ys : List Int) (hx : xs.length ≤ 9223372036854775807) : CP Try.prog 24 [.lst 1 (xs.map encI), .lst 1 (ys.map encI)] (.bool (decide (xs = ys))) [] := by
  refine CP.by rfl mixed (cfn_ok Try.func24 ok24) rfl ?_
  simp (disch := omega) only [s24, go_sem, Nat.reduceEqDiff, Nat.reduceAdd, Nat.reduceSub, Nat.reduceLeDiff, Nat.reduceLT, Nat.reduceMul, Nat.reduceBEq, Int.reduceEq, Int.reduceLT, Int.reduceLE, Int.reduceNeg, Int.reduceToNat, Int.reduceSub, Int.reduceAdd, reduceIte, encI]
  refine condP_dec (fun hl => ?_) (fun hl => ?_)
  · simp (disch := omega) only [go_sem, Nat.reduceEqDiff, Nat.reduceAdd, Nat.reduceSub, Nat.reduceLeDiff, Nat.reduceLT, Nat.reduceMul, Nat.reduceBEq, Int.reduceEq, Int.reduceLT, Int.reduceLE, Int.reduceNeg, Int.reduceToNat, Int.reduceSub, Int.reduceAdd, reduceIte, encI]
    have hl' : xs.length = ys.length := by omega
    refine loopP_intro (fun m s => ∃ k : Nat, k ≤ xs.length ∧ m = xs.length - k ∧ s.e 0 = .lst 1 (xs.map encI) ∧ s.e 1 = .lst 1 (ys.map encI) ∧ s.e 5 = .int .i64 k ∧ xs.take k = ys.take k) xs.length ⟨0, by omega, by omega, rfl, rfl, rfl, rfl⟩ ?_
    rintro m e hp ⟨k, hk, rfl, e0, e1, e5, ht⟩
    simp only at e0 e1 e5
    simp (disch := omega) only [go_sem, Nat.reduceEqDiff, Nat.reduceAdd, Nat.reduceSub, Nat.reduceLeDiff, Nat.reduceLT, Nat.reduceMul, Nat.reduceBEq, Int.reduceEq, Int.reduceLT, Int.reduceLE, Int.reduceNeg, Int.reduceToNat, Int.reduceSub, Int.reduceAdd, reduceIte, e0, e1, e5, encI]
    refine condP_dec (fun hlt => ?_) (fun hlt => ?_)
    · have hlt' : k < xs.length := by omega
      have hlt2 : k < ys.length := by omega
      simp (disch := omega) only [go_sem, Nat.reduceEqDiff, Nat.reduceAdd, Nat.reduceSub, Nat.reduceLeDiff, Nat.reduceLT, Nat.reduceMul, Nat.reduceBEq, Int.reduceEq, Int.reduceLT, Int.reduceLE, Int.reduceNeg, Int.reduceToNat, Int.reduceSub, Int.reduceAdd, reduceIte, e0, e1, e5, encI]
      refine condP_dec (fun hq => ?_) (fun hq => ?_)
      · simp (disch := omega) only [go_sem, Nat.reduceEqDiff, Nat.reduceAdd, Nat.reduceSub, Nat.reduceLeDiff, Nat.reduceLT, Nat.reduceMul, Nat.reduceBEq, Int.reduceEq, Int.reduceLT, Int.reduceLE, Int.reduceNeg, Int.reduceToNat, Int.reduceSub, Int.reduceAdd, reduceIte, e0, e1, e5, encI]
        refine nextP_intro (xs.length - (k + 1)) (by omega) ⟨k + 1, by omega, rfl, ?_, ?_, ?_, ?_⟩
        · simp (disch := omega) only [go_sem, Nat.reduceEqDiff, Nat.reduceAdd, Nat.reduceSub, Nat.reduceLeDiff, Nat.reduceLT, Nat.reduceMul, Nat.reduceBEq, Int.reduceEq, Int.reduceLT, Int.reduceLE, Int.reduceNeg, Int.reduceToNat, Int.reduceSub, Int.reduceAdd, reduceIte, e0, e1, e5, encI]
        · simp (disch := omega) only [go_sem, Nat.reduceEqDiff, Nat.reduceAdd, Nat.reduceSub, Nat.reduceLeDiff, Nat.reduceLT, Nat.reduceMul, Nat.reduceBEq, Int.reduceEq, Int.reduceLT, Int.reduceLE, Int.reduceNeg, Int.reduceToNat, Int.reduceSub, Int.reduceAdd, reduceIte, e0, e1, e5, encI]
        · simp (disch := omega) only [go_sem, Nat.reduceEqDiff, Nat.reduceAdd, Nat.reduceSub, Nat.reduceLeDiff, Nat.reduceLT, Nat.reduceMul, Nat.reduceBEq, Int.reduceEq, Int.reduceLT, Int.reduceLE, Int.reduceNeg, Int.reduceToNat, Int.reduceSub, Int.reduceAdd, reduceIte, e0, e1, e5, encI]; rfl
        · rw [List.take_succ_eq_append_getElem hlt', List.take_succ_eq_append_getElem hlt2, ht, hq]
      · simp (disch := omega) only [go_sem, Nat.reduceEqDiff, Nat.reduceAdd, Nat.reduceSub, Nat.reduceLeDiff, Nat.reduceLT, Nat.reduceMul, Nat.reduceBEq, Int.reduceEq, Int.reduceLT, Int.reduceLE, Int.reduceNeg, Int.reduceToNat, Int.reduceSub, Int.reduceAdd, reduceIte, e0, e1, e5, encI]
        have : xs ≠ ys := fun e => by subst e; exact hq rfl
        simp [this]
    · simp (disch := omega) only [go_sem, Nat.reduceEqDiff, Nat.reduceAdd, Nat.reduceSub, Nat.reduceLeDiff, Nat.reduceLT, Nat.reduceMul, Nat.reduceBEq, Int.reduceEq, Int.reduceLT, Int.reduceLE, Int.reduceNeg, Int.reduceToNat, Int.reduceSub, Int.reduceAdd, reduceIte, e0, e1, e5, encI]
      have : k = xs.length := by omega
      subst this
      rw [List.take_length] at ht
      have : xs = ys := by rw [ht, hl', List.take_length]
      simp [this]
  · simp (disch := omega) only [go_sem, Nat.reduceEqDiff, Nat.reduceAdd, Nat.reduceSub, Nat.reduceLeDiff, Nat.reduceLT, Nat.reduceMul, Nat.reduceBEq, Int.reduceEq, Int.reduceLT, Int.reduceLE, Int.reduceNeg, Int.reduceToNat, Int.reduceSub, Int.reduceAdd, reduceIte, encI]
    have : xs ≠ ys := fun e => by subst e; exact hl rfl
    simp [this]
theorem F.goSlotB {P : Program} {f : FuncId} {args args' : List V} {s : Slot} {b : Bool} {h : Heap} {K : V → Heap → Prop} (hf : F P f args' (.tup [.agg (encSlot s), .bool b])) (hs : Snaps h args args')
    (hk : ∀ v ids h', Ext h h' → ids.Nodup → (∀ i ∈ ids, h.length ≤ i) → Owns h' (.lst 1 (s.words.map encI)) v ids → V.one v = true → V.nohole v = v → V.cells v = [v] → K (.tup [.agg [.int .i64 s.seq, v, .int .i64 s.sum], .bool b]) h') : @callP P f args h ⟨K⟩ :=
  F.go hf hs fun r h' ids x n g o => by
    obtain ⟨cs, rfl, p1⟩ := OwnsR.aggB o
    obtain ⟨v, rfl, oa⟩ := p1.slot
    exact hk v ids h' x n g oa oa.one oa.nohole oa.cells
theorem F.goListIB {P : Program} {f : FuncId} {args args' : List V} {xs : List Int} {i : Int} {b : Bool} {h : Heap} {K : V → Heap → Prop} (hf : F P f args' (.tup [.lst 1 (xs.map encI), .int .i64 i, .bool b])) (hs : Snaps h args args')
    (hk : ∀ v ids h', Ext h h' → Owns h' (.lst 1 (xs.map encI)) v ids → V.one v = true → V.nohole v = v → V.cells v = [v] → (∀ G : Int → Prop, @onLen v ⟨G⟩ = G xs.length) → K (.tup [v, .int .i64 i, .bool b]) h') : @callP P f args h ⟨K⟩ :=
  F.go hf hs fun r h' ids x n g o => by
    obtain ⟨v, rfl, oa⟩ := OwnsR.lstIB o
    exact hk v ids h' x oa oa.one oa.nohole oa.cells (fun G => by have := Owns.len_ oa G; simpa using this)
theorem law_c (bs : List Int) (hb : bs.length ≤ 9223372036854775807) : CP Try.prog 5 [.lst 1 (bs.map encB)] (.bool true) [] := by
  refine CP.by rfl mixed (cfn_ok Try.func5 ok5) rfl ?_
  simp (disch := omega) only [s5, go_sem, Nat.reduceEqDiff, Nat.reduceAdd, Nat.reduceSub, Nat.reduceLeDiff, Nat.reduceLT, Nat.reduceMul, Nat.reduceBEq, Int.reduceEq, Int.reduceLT, Int.reduceLE, Int.reduceNeg, Int.reduceToNat, Int.reduceSub, Int.reduceAdd, reduceIte]
  refine CP.go (big_c bs hb) rfl (by simp [V.refsL, V.refs, refsLL_map encB (fun _ => rfl) bs]) ?_
  simp (disch := omega) only [go_sem, Nat.reduceEqDiff, Nat.reduceAdd, Nat.reduceSub, Nat.reduceLeDiff, Nat.reduceLT, Nat.reduceMul, Nat.reduceBEq, Int.reduceEq, Int.reduceLT, Int.reduceLE, Int.reduceNeg, Int.reduceToNat, Int.reduceSub, Int.reduceAdd, reduceIte]
  refine condP_dec (fun hbig => ?_) (fun hbig => ?_)
  · simp (disch := omega) only [go_sem, Nat.reduceEqDiff, Nat.reduceAdd, Nat.reduceSub, Nat.reduceLeDiff, Nat.reduceLT, Nat.reduceMul, Nat.reduceBEq, Int.reduceEq, Int.reduceLT, Int.reduceLE, Int.reduceNeg, Int.reduceToNat, Int.reduceSub, Int.reduceAdd, reduceIte]
  simp (disch := omega) only [go_sem, Nat.reduceEqDiff, Nat.reduceAdd, Nat.reduceSub, Nat.reduceLeDiff, Nat.reduceLT, Nat.reduceMul, Nat.reduceBEq, Int.reduceEq, Int.reduceLT, Int.reduceLE, Int.reduceNeg, Int.reduceToNat, Int.reduceSub, Int.reduceAdd, reduceIte]
  refine C.go (drawPair_c bs _ (by omega)) ?_
  rintro r h1 ⟨p, cs, ids, ws, l, rfl, op, np, gp, da, db, hl, hw, hws, hlg, hni, e1⟩
  obtain ⟨va, vb, ia, ib, rfl, rfl, oa, ob⟩ := op.pair
  obtain ⟨ao, an, ac⟩ := oa.vv
  obtain ⟨bo, bn, bc⟩ := ob.vv
  have hp : PairIn p := ⟨(drawn_in da).1, (drawn_in db).1⟩
  have hseq := drawn_newest da db
  have hk : saveOk p ws = true := by simp [saveOk, hw]; omega
  have A := PSt.mk' oa ob np
  have hl := heap_app (h' := [[[.int .i64 p.a.seq, va, .int .i64 p.a.sum, .int .i64 p.b.seq, vb, .int .i64 p.b.sum]]]) hl
  simp (disch := omega) only [go_sem, Nat.reduceEqDiff, Nat.reduceAdd, Nat.reduceSub, Nat.reduceLeDiff, Nat.reduceLT, Nat.reduceMul, Nat.reduceBEq, Int.reduceEq, Int.reduceLT, Int.reduceLE, Int.reduceNeg, Int.reduceToNat, Int.reduceSub, Int.reduceAdd, reduceIte, ao, an, ac, bo, bn, bc]
  refine C.go (drawPlaces_c bs _ (by omega)) ?_
  intro r h2 z
  refine Exists.elim z fun xs z => ?_
  refine Exists.elim z fun l2 z => ?_
  have z1 := z.1
  have hl2 := z.2.1
  have hx := z.2.2.1
  have hxs := z.2.2.2.1
  have e2 := z.2.2.2.2.2
  clear z
  subst z1
  have A := PSt.up A e2
  have hl := e2.get hl
  have h0 : xs[0]? = some (xs[0]'(by omega)) := List.getElem?_eq_getElem (by omega)
  generalize xs[0]'(by omega) = x0 at h0
  have b0 := hxs x0 (List.mem_of_getElem? h0)
  have t0 := tmod_bd (n := 11) b0.1 (by omega)
  have Ab := A.box
  simp (disch := omega) only [go_sem, Nat.reduceEqDiff, Nat.reduceAdd, Nat.reduceSub, Nat.reduceLeDiff, Nat.reduceLT, Nat.reduceMul, Nat.reduceBEq, Int.reduceEq, Int.reduceLT, Int.reduceLE, Int.reduceNeg, Int.reduceToNat, Int.reduceSub, Int.reduceAdd, reduceIte, Ab]
  refine F.goSlotB (newest_c p hp) (.cons A.snap (.nil _)) fun v3 j3 h3 x3 n3 g3 o3 co cn cc => ?_
  have A := PSt.up (PSt.up A x3) (Ext.app _ [[[.int .i64 (newestM p).seq, v3, .int .i64 (newestM p).sum]]])
  have o3 := Owns.up o3 (Ext.app _ [[[.int .i64 (newestM p).seq, v3, .int .i64 (newestM p).sum]]])
  have hl := heap_app (h' := [[[.int .i64 (newestM p).seq, v3, .int .i64 (newestM p).sum]]]) (x3.get hl)
  have hl2 := heap_app (h' := [[[.int .i64 (newestM p).seq, v3, .int .i64 (newestM p).sum]]]) (x3.get hl2)
  have c3 : (h3 ++ [[[.int .i64 (newestM p).seq, v3, .int .i64 (newestM p).sum]]])[h3.length]? = some [[.int .i64 (newestM p).seq, v3, .int .i64 (newestM p).sum]] := at_app0 _ _
  have Ab := A.box
  simp (disch := omega) only [go_sem, Nat.reduceEqDiff, Nat.reduceAdd, Nat.reduceSub, Nat.reduceLeDiff, Nat.reduceLT, Nat.reduceMul, Nat.reduceBEq, Int.reduceEq, Int.reduceLT, Int.reduceLE, Int.reduceNeg, Int.reduceToNat, Int.reduceSub, Int.reduceAdd, reduceIte, co, cn, cc, Ab, hl2, hx, h0, List.getElem?_map, encI]
  refine F.goPairB (saveSome_f p ws (x0.tmod 11) hp (by omega)) (.cons A.snap (.cons (Snap.flatN hl (by simpa using hw) (flat_encI _)) (.cons (.int _ _) (.nil _)))) fun ga gb la lb h4 x4 n4 g4 lt4 oga ogb hao han hac hbo hbn hbc => ?_
  have G := PSt.mk' oga ogb n4
  have e4 := x4.trans (Ext.app _ [[[.int .i64 (savedP p ws (x0.tmod 11)).a.seq, ga, .int .i64 (savedP p ws (x0.tmod 11)).a.sum, .int .i64 (savedP p ws (x0.tmod 11)).b.seq, gb, .int .i64 (savedP p ws (x0.tmod 11)).b.sum]]])
  have A := PSt.up A e4
  have o3 := Owns.up o3 e4
  have c3 := e4.get c3
  have hl := e4.get hl
  have hq := saved_in hp ws (x0.tmod 11)
  have Gb := G.box
  simp (disch := omega) only [go_sem, Nat.reduceEqDiff, Nat.reduceAdd, Nat.reduceSub, Nat.reduceLeDiff, Nat.reduceLT, Nat.reduceMul, Nat.reduceBEq, Int.reduceEq, Int.reduceLT, Int.reduceLE, Int.reduceNeg, Int.reduceToNat, Int.reduceSub, Int.reduceAdd, reduceIte, hao, han, hac, hbo, hbn, hbc, Gb]
  refine F.goSlotB (newest_c _ hq) (.cons G.snap (.nil _)) fun v5 j5 h5 x5 n5 g5 o5 eo en ec => ?_
  have e5 := x5.trans (Ext.app _ [[[.int .i64 (newestM (savedP p ws (x0.tmod 11))).seq, v5, .int .i64 (newestM (savedP p ws (x0.tmod 11))).sum]]])
  have A := PSt.up A e5
  have o3 := Owns.up o3 e5
  have c3 := e5.get c3
  have hl := e5.get hl
  have o5 := Owns.up o5 (Ext.app _ [[[.int .i64 (newestM (savedP p ws (x0.tmod 11))).seq, v5, .int .i64 (newestM (savedP p ws (x0.tmod 11))).sum]]])
  have c5 : (h5 ++ [[[.int .i64 (newestM (savedP p ws (x0.tmod 11))).seq, v5, .int .i64 (newestM (savedP p ws (x0.tmod 11))).sum]]])[h5.length]? = some [[.int .i64 (newestM (savedP p ws (x0.tmod 11))).seq, v5, .int .i64 (newestM (savedP p ws (x0.tmod 11))).sum]] := at_app0 _ _
  have Ab := A.box
  simp (disch := omega) only [go_sem, Nat.reduceEqDiff, Nat.reduceAdd, Nat.reduceSub, Nat.reduceLeDiff, Nat.reduceLT, Nat.reduceMul, Nat.reduceBEq, Int.reduceEq, Int.reduceLT, Int.reduceLE, Int.reduceNeg, Int.reduceToNat, Int.reduceSub, Int.reduceAdd, reduceIte, eo, en, ec, Ab]
  refine F.goListIB (saveWrites_c p ws hp (by omega)) (.cons A.snap (.cons (Snap.flatN hl (by simpa using hw) (flat_encI _)) (.nil _))) fun v6 j6 h6 x6 o6 fo fn fc len6 => ?_
  have c3 := x6.get c3
  have c5 := x6.get c5
  have hl := x6.get hl
  have o3 := Owns.up o3 x6
  have o5 := Owns.up o5 x6
  have h9 := saveList_len hk
  have hK : savedK p ws (x0.tmod 11) = true := by unfold savedK; rw [hk]; simp; omega
  rw [h9] at len6
  simp (disch := omega) only [go_sem, Nat.reduceEqDiff, Nat.reduceAdd, Nat.reduceSub, Nat.reduceLeDiff, Nat.reduceLT, Nat.reduceMul, Nat.reduceBEq, Int.reduceEq, Int.reduceLT, Int.reduceLE, Int.reduceNeg, Int.reduceToNat, Int.reduceSub, Int.reduceAdd, reduceIte, fo, fn, fc, len6, hK, hk, c3, c5]
  have hnw := newest_words hq
  refine condP_dec (fun hn => ?_) (fun hn => ?_)
  · have hn : 9 ≤ x0.tmod 11 := hn
    have f1 := (torn_full hk hn).1
    have f2 := (torn_full hk hn).2
    have w1 : (newestM (savedP p ws (x0.tmod 11))).words = ws := by rw [f1]
    have s1 : (newestM (savedP p ws (x0.tmod 11))).seq = (newestM p).seq + 1 := by rw [f1]
    clear f1
    simp (disch := omega) only [go_sem, Nat.reduceEqDiff, Nat.reduceAdd, Nat.reduceSub, Nat.reduceLeDiff, Nat.reduceLT, Nat.reduceMul, Nat.reduceBEq, Int.reduceEq, Int.reduceLT, Int.reduceLE, Int.reduceNeg, Int.reduceToNat, Int.reduceSub, Int.reduceAdd, reduceIte, f2, c3, c5, en]
    refine CP.goS (sameInts_c _ ws (by omega)) rfl rfl (.cons (Owns.snap o5) (.cons (Snap.flatN hl (by simpa using hw) (flat_encI _)) (.nil _))) ?_
    simp (disch := omega) only [go_sem, Nat.reduceEqDiff, Nat.reduceAdd, Nat.reduceSub, Nat.reduceLeDiff, Nat.reduceLT, Nat.reduceMul, Nat.reduceBEq, Int.reduceEq, Int.reduceLT, Int.reduceLE, Int.reduceNeg, Int.reduceToNat, Int.reduceSub, Int.reduceAdd, reduceIte, f2, c3, c5, en, w1, s1, decide_eq_true_eq]
    have hge := newest_seq p
    rw [wrap64 (by omega) (by omega)]
    simp
  · have f1 := (torn_part hk t0.1 (by omega)).1
    have f2 := (torn_part hk t0.1 (by omega)).2
    have w1 : (newestM (savedP p ws (x0.tmod 11))).words = (newestM p).words := by rw [f1]
    have s1 : (newestM (savedP p ws (x0.tmod 11))).seq = (newestM p).seq := by rw [f1]
    clear f1
    simp (disch := omega) only [go_sem, Nat.reduceEqDiff, Nat.reduceAdd, Nat.reduceSub, Nat.reduceLeDiff, Nat.reduceLT, Nat.reduceMul, Nat.reduceBEq, Int.reduceEq, Int.reduceLT, Int.reduceLE, Int.reduceNeg, Int.reduceToNat, Int.reduceSub, Int.reduceAdd, reduceIte, f2, c3, c5, en, cn, s1, beq_self_eq_true]
    refine CP.goS (sameInts_c _ _ (by omega)) rfl rfl (.cons (Owns.snap o5) (.cons (Owns.snap o3) (.nil _))) ?_
    simp (disch := omega) only [go_sem, Nat.reduceEqDiff, Nat.reduceAdd, Nat.reduceSub, Nat.reduceLeDiff, Nat.reduceLT, Nat.reduceMul, Nat.reduceBEq, Int.reduceEq, Int.reduceLT, Int.reduceLE, Int.reduceNeg, Int.reduceToNat, Int.reduceSub, Int.reduceAdd, reduceIte, f2, c3, c5, en, w1, s1, decide_eq_true_eq]
end Go.Av
