import Derived.Test.YtpjcclgpkicadaaJ6SaveT
import Derived.Test.YtpjcclgpkicadaaJ6TyPair
namespace Go.Av
open Go.Proofs Go.RowKit
set_option linter.unusedVariables false
set_option linter.unusedSimpArgs false
set_option maxRecDepth 100000
set_option maxHeartbeats 4000000
theorem run_len (s : Slot) (l : List Int) (h : s.words.length ≤ 1048576) : (runI 0 s l).words.length ≤ 1048576 := by
  rw [runs_same]
  have := runW_len l (if 2 ≤ l.length then fixW s else s) l.length (Nat.le_refl _)
  rw [List.take_length] at this
  rw [this]
  split
  · rw [fixW_len]; omega
  · exact h
theorem saved_in {p : Pair} (hp : PairIn p) (ws : List Int) (c : Int) : PairIn (savedP p ws c) := by
  unfold savedP
  split
  · split
    · exact ⟨run_len _ _ hp.a, hp.b⟩
    · exact ⟨hp.a, run_len _ _ hp.b⟩
  · exact hp
theorem PSt.snap {h : Heap} {id : Nat} {p : Pair} {va vb : V} {ia ib : List Nat} (w : PSt h id p va vb ia ib) : Snap h (.agg [.int .i64 p.a.seq, va, .int .i64 p.a.sum, .int .i64 p.b.seq, vb, .int .i64 p.b.sum]) (.agg (encPair p)) := .ofSnaps (OwnsL.snap (OwnsL.mkPair w.oa w.ob))
theorem PSt.lt {h : Heap} {id : Nat} {p : Pair} {va vb : V} {ia ib : List Nat} (w : PSt h id p va vb ia ib) : ∀ i ∈ ia ++ ib, i < h.length := fun i hi => by
  rcases List.mem_append.1 hi with q | q
  · exact w.oa.lt i q
  · exact w.ob.lt i q
theorem PSt.keep {h h' : Heap} {id : Nat} {p : Pair} {va vb : V} {ia ib js : List Nat} (w : PSt h id p va vb ia ib) (f : ∀ j, j < h.length → j ∉ js → h'[j]? = h[j]?) (hid : id ∉ js) (hd : ∀ i ∈ ia ++ ib, i ∉ js) : PSt h' id p va vb ia ib :=
  ⟨by rw [f id (heap_lt w.box) hid]; exact w.box, w.oa.keep fun i hi => f i (w.oa.lt i hi) (hd i (by simp [hi])), w.ob.keep fun i hi => f i (w.ob.lt i hi) (hd i (by simp [hi])), w.nd, w.ni⟩
/-- A pair just made, laid into a box. -/
theorem PSt.mk' {h : Heap} {p : Pair} {va vb : V} {ia ib : List Nat} (oa : Owns h (.lst 1 (p.a.words.map encI)) va ia) (ob : Owns h (.lst 1 (p.b.words.map encI)) vb ib) (nd : (ia ++ ib).Nodup) : PSt (h ++ [[[.int .i64 p.a.seq, va, .int .i64 p.a.sum, .int .i64 p.b.seq, vb, .int .i64 p.b.sum]]]) h.length p va vb ia ib :=
  ⟨at_app0 _ _, oa.up (Ext.app _ _), ob.up (Ext.app _ _), nd, fun hm => by
    rcases List.mem_append.1 hm with q | q
    · have := oa.lt _ q; omega
    · have := ob.lt _ q; omega⟩
theorem F.goPair {P : Program} {f : FuncId} {args args' : List V} {p : Pair} {h : Heap} {K : V → Heap → Prop} (hf : F P f args' (.agg (encPair p))) (hs : Snaps h args args')
    (hk : ∀ va vb ia ib h', Ext h h' → (ia ++ ib).Nodup → (∀ i ∈ ia ++ ib, h.length ≤ i) → (∀ i ∈ ia ++ ib, i < h'.length) → Owns h' (.lst 1 (p.a.words.map encI)) va ia → Owns h' (.lst 1 (p.b.words.map encI)) vb ib → V.one va = true → V.nohole va = va → V.cells va = [va] → V.one vb = true → V.nohole vb = vb → V.cells vb = [vb] → K (.agg [.int .i64 p.a.seq, va, .int .i64 p.a.sum, .int .i64 p.b.seq, vb, .int .i64 p.b.sum]) h') : @callP P f args h ⟨K⟩ :=
  F.go hf hs fun r h' ids x n g o => by
    obtain ⟨cs, rfl, p1⟩ := Owns.aggR.1 o
    have lt := p1.lt
    obtain ⟨va, vb, ia, ib, rfl, rfl, oa, ob⟩ := p1.pair
    exact hk va vb ia ib h' x n g lt oa ob oa.one oa.nohole oa.cells ob.one ob.nohole ob.cells
theorem F.goPairB {P : Program} {f : FuncId} {args args' : List V} {p : Pair} {b : Bool} {h : Heap} {K : V → Heap → Prop} (hf : F P f args' (.tup [.agg (encPair p), .bool b])) (hs : Snaps h args args')
    (hk : ∀ va vb ia ib h', Ext h h' → (ia ++ ib).Nodup → (∀ i ∈ ia ++ ib, h.length ≤ i) → (∀ i ∈ ia ++ ib, i < h'.length) → Owns h' (.lst 1 (p.a.words.map encI)) va ia → Owns h' (.lst 1 (p.b.words.map encI)) vb ib → V.one va = true → V.nohole va = va → V.cells va = [va] → V.one vb = true → V.nohole vb = vb → V.cells vb = [vb] → K (.tup [.agg [.int .i64 p.a.seq, va, .int .i64 p.a.sum, .int .i64 p.b.seq, vb, .int .i64 p.b.sum], .bool b]) h') : @callP P f args h ⟨K⟩ :=
  F.go hf hs fun r h' ids x n g o => by
    obtain ⟨cs, rfl, p1⟩ := OwnsR.aggB o
    have lt := p1.lt
    obtain ⟨va, vb, ia, ib, rfl, rfl, oa, ob⟩ := p1.pair
    exact hk va vb ia ib h' x n g lt oa ob oa.one oa.nohole oa.cells ob.one ob.nohole ob.cells
theorem F.goInts {P : Program} {f : FuncId} {args args' : List V} {xs : List Int} {h : Heap} {K : V → Heap → Prop} (hf : F P f args' (.lst 1 (xs.map encI))) (hs : Snaps h args args')
    (hk : ∀ v ids h', Ext h h' → ids.Nodup → (∀ i ∈ ids, h.length ≤ i) → (∀ i ∈ ids, i < h'.length) → Owns h' (.lst 1 (xs.map encI)) v ids → V.one v = true → V.nohole v = v → V.cells v = [v] → K v h') : @callP P f args h ⟨K⟩ :=
  F.go hf hs fun r h' ids x n g o => hk r ids h' x n g (Owns.lt (Owns.lstR.1 o)) (Owns.lstR.1 o) (Owns.one (Owns.lstR.1 o)) (Owns.nohole (Owns.lstR.1 o)) (Owns.cells (Owns.lstR.1 o))
theorem dis_lt {A B : List Nat} {a : Nat} (h1 : ∀ i ∈ A, i < a) (h2 : ∀ i ∈ B, a ≤ i) : ∀ i ∈ A, i ∉ B := fun i hi hm => by have := h1 i hi; have := h2 i hm; omega
theorem dis_ge {A B : List Nat} {a : Nat} (h1 : ∀ i ∈ A, a ≤ i) (h2 : ∀ i ∈ B, i < a) : ∀ i ∈ A, i ∉ B := fun i hi hm => by have := h1 i hi; have := h2 i hm; omega
theorem app1_len (h : Heap) (b : Blk) : (h ++ [b]).length = h.length + 1 := by simp
theorem law_c (p : Pair) (ws : List Int) (count : Int) (ha : p.a.words.length ≤ 9223372036854775807) (hb : p.b.words.length ≤ 9223372036854775807) (hw : ws.length ≤ 9223372036854775807) : CP Try.prog 9 [.agg (encPair p), .lst 1 (ws.map encI), .int .i64 count] (.bool true) [] := by
  refine CP.by rfl mixed (cfn_ok Try.func9 ok9) rfl ?_
  simp (disch := omega) only [s9, go_sem, Nat.reduceEqDiff, Nat.reduceAdd, Nat.reduceSub, Nat.reduceLeDiff, Nat.reduceLT, Nat.reduceMul, Nat.reduceBEq, Int.reduceEq, Int.reduceLT, Int.reduceLE, Int.reduceNeg, Int.reduceToNat, Int.reduceSub, Int.reduceAdd, reduceIte, encPair]
  refine condP_dec (fun hbig => ?_) (fun hbig => ?_)
  · simp (disch := omega) only [go_sem, Nat.reduceEqDiff, Nat.reduceAdd, Nat.reduceSub, Nat.reduceLeDiff, Nat.reduceLT, Nat.reduceMul, Nat.reduceBEq, Int.reduceEq, Int.reduceLT, Int.reduceLE, Int.reduceNeg, Int.reduceToNat, Int.reduceSub, Int.reduceAdd, reduceIte]
  have hw' : ws.length ≤ 1048576 := by omega
  simp (disch := omega) only [go_sem, Nat.reduceEqDiff, Nat.reduceAdd, Nat.reduceSub, Nat.reduceLeDiff, Nat.reduceLT, Nat.reduceMul, Nat.reduceBEq, Int.reduceEq, Int.reduceLT, Int.reduceLE, Int.reduceNeg, Int.reduceToNat, Int.reduceSub, Int.reduceAdd, reduceIte]
  refine CP.go (szPair_c p 1048576 ha hb (by omega)) rfl (refs_pairI _ p _) ?_
  simp (disch := omega) only [go_sem, Nat.reduceEqDiff, Nat.reduceAdd, Nat.reduceSub, Nat.reduceLeDiff, Nat.reduceLT, Nat.reduceMul, Nat.reduceBEq, Int.reduceEq, Int.reduceLT, Int.reduceLE, Int.reduceNeg, Int.reduceToNat, Int.reduceSub, Int.reduceAdd, reduceIte]
  refine condP_dec (fun hz => ?_) (fun hz => ?_)
  · simp (disch := omega) only [go_sem, Nat.reduceEqDiff, Nat.reduceAdd, Nat.reduceSub, Nat.reduceLeDiff, Nat.reduceLT, Nat.reduceMul, Nat.reduceBEq, Int.reduceEq, Int.reduceLT, Int.reduceLE, Int.reduceNeg, Int.reduceToNat, Int.reduceSub, Int.reduceAdd, reduceIte]
  have hp := szPair_in hz
  have hq := saved_in hp ws count
  simp (disch := omega) only [go_sem, Nat.reduceEqDiff, Nat.reduceAdd, Nat.reduceSub, Nat.reduceLeDiff, Nat.reduceLT, Nat.reduceMul, Nat.reduceBEq, Int.reduceEq, Int.reduceLT, Int.reduceLE, Int.reduceNeg, Int.reduceToNat, Int.reduceSub, Int.reduceAdd, reduceIte]
  refine F.goPair (toPair_f p hp) (.same (refs_pair1 _ p)) fun va vb ia ib h1 x1 n1 g1 lt1 oa ob ao an ac bo bn bc => ?_
  simp (disch := omega) only [go_sem, Nat.reduceEqDiff, Nat.reduceAdd, Nat.reduceSub, Nat.reduceLeDiff, Nat.reduceLT, Nat.reduceMul, Nat.reduceBEq, Int.reduceEq, Int.reduceLT, Int.reduceLE, Int.reduceNeg, Int.reduceToNat, Int.reduceSub, Int.reduceAdd, reduceIte, an, bn]
  refine F.goInts (toIntS_f ws hw') (.same (refs_ints1 _ _)) fun v2 j2 h2 x2 n2 g2 lt2 o2 co cn cc => ?_
  simp (disch := omega) only [go_sem, Nat.reduceEqDiff, Nat.reduceAdd, Nat.reduceSub, Nat.reduceLeDiff, Nat.reduceLT, Nat.reduceMul, Nat.reduceBEq, Int.reduceEq, Int.reduceLT, Int.reduceLE, Int.reduceNeg, Int.reduceToNat, Int.reduceSub, Int.reduceAdd, reduceIte, an, bn, cn]
  refine F.goPairB (saveSome_g p ws count hp hw') (.cons (Snap.ofSnaps (OwnsL.snap (OwnsL.mkPair (oa.up x2) (ob.up x2)))) (.cons (Owns.snap o2) (.cons (.int _ _) (.nil _)))) fun wa wb ja jb h3 x3 n3 g3 ltW owa owb dao dan dac dbo dbn dbc => ?_
  have W := PSt.mk' owa owb n3
  have b0 := x3.get (x2.get (x1.get (i := 0) rfl))
  have b0' := fun t => heap_app (h' := t) b0
  simp (disch := omega) only [go_sem, Nat.reduceEqDiff, Nat.reduceAdd, Nat.reduceSub, Nat.reduceLeDiff, Nat.reduceLT, Nat.reduceMul, Nat.reduceBEq, Int.reduceEq, Int.reduceLT, Int.reduceLE, Int.reduceNeg, Int.reduceToNat, Int.reduceSub, Int.reduceAdd, reduceIte, dao, dan, dac, dbo, dbn, dbc, b0']
  refine F.goPair (toPair_f p hp) (.same (refs_pair1 _ p)) fun xa xb ka kb h4 x4 n4 g4 ltX oxa oxb eao ean eac ebo ebn ebc => ?_
  have X := PSt.mk' oxa oxb n4
  have W := PSt.up W x4
  have b0 := x4.get (b0' _)
  have l4 := x4.len
  rw [app1_len] at l4
  simp only [app1_len] at g4
  simp (disch := omega) only [go_sem, Nat.reduceEqDiff, Nat.reduceAdd, Nat.reduceSub, Nat.reduceLeDiff, Nat.reduceLT, Nat.reduceMul, Nat.reduceBEq, Int.reduceEq, Int.reduceLT, Int.reduceLE, Int.reduceNeg, Int.reduceToNat, Int.reduceSub, Int.reduceAdd, reduceIte, eao, ean, eac, ebo, ebn, ebc]
  refine F.goInts (toIntS_f ws hw') (.same (refs_ints1 _ _)) fun v5 j5 h5 x5 n5 g5 lt5 o5 fo fn fc => ?_
  have W := PSt.up (PSt.up W (Ext.app _ _)) x5
  have X := PSt.up X x5
  have b0 := x5.get (heap_app b0)
  have l5 := x5.len
  rw [app1_len] at l5
  simp only [app1_len] at g5
  have Xb := X.box
  simp (disch := omega) only [go_sem, Nat.reduceEqDiff, Nat.reduceAdd, Nat.reduceSub, Nat.reduceLeDiff, Nat.reduceLT, Nat.reduceMul, Nat.reduceBEq, Int.reduceEq, Int.reduceLT, Int.reduceLE, Int.reduceNeg, Int.reduceToNat, Int.reduceSub, Int.reduceAdd, reduceIte, eao, ean, eac, ebo, ebn, ebc, fo, fn, fc, Xb]
  refine F.goPairB (saveSome_f p ws count hp hw') (.cons X.snap (.cons (Owns.snap o5) (.cons (.int _ _) (.nil _)))) fun ga gb la lb h6 x6 n6 g6 ltG oga ogb hao han hac hbo hbn hbc => ?_
  have G := PSt.mk' oga ogb n6
  have e6 : Ext h5 (h6 ++ [[[.int .i64 (savedP p ws count).a.seq, ga, .int .i64 (savedP p ws count).a.sum, .int .i64 (savedP p ws count).b.seq, gb, .int .i64 (savedP p ws count).b.sum]]]) := x6.trans (Ext.app _ _)
  have W := PSt.up W e6
  have X := PSt.up X e6
  have o5 := Owns.up o5 e6
  have b0 := e6.get b0
  have l6 := x6.len
  have Wb := W.box
  have Xb := X.box
  have Gb := G.box
  simp (disch := omega) only [go_sem, Nat.reduceEqDiff, Nat.reduceAdd, Nat.reduceSub, Nat.reduceLeDiff, Nat.reduceLT, Nat.reduceMul, Nat.reduceBEq, Int.reduceEq, Int.reduceLT, Int.reduceLE, Int.reduceNeg, Int.reduceToNat, Int.reduceSub, Int.reduceAdd, reduceIte, hao, han, hac, hbo, hbn, hbc, Wb, Xb, Gb, b0, beq_self_eq_true]
  refine CP.goS (eqPair_c _ hq) rfl rfl (.cons G.snap (.cons W.snap (.nil _))) ?_
  simp (disch := omega) only [go_sem, Nat.reduceEqDiff, Nat.reduceAdd, Nat.reduceSub, Nat.reduceLeDiff, Nat.reduceLT, Nat.reduceMul, Nat.reduceBEq, Int.reduceEq, Int.reduceLT, Int.reduceLE, Int.reduceNeg, Int.reduceToNat, Int.reduceSub, Int.reduceAdd, reduceIte, hao, han, hac, hbo, hbn, hbc, Wb, Xb, Gb, b0, beq_self_eq_true]
  refine F.goPair (toPair_f p hp) (.same (refs_pair1 _ p)) fun ya yb ma mb h7 x7 n7 g7 ltY oya oyb iao ian iac ibo ibn ibc => ?_
  have W := PSt.up W x7
  have X := PSt.up X x7
  have G := PSt.up G x7
  have o5 := Owns.up o5 x7
  have b0 := x7.get b0
  have l7 := x7.len
  rw [app1_len] at l7
  have Wb := W.box
  have Xb := X.box
  have Gb := G.box
  simp (disch := omega) only [go_sem, Nat.reduceEqDiff, Nat.reduceAdd, Nat.reduceSub, Nat.reduceLeDiff, Nat.reduceLT, Nat.reduceMul, Nat.reduceBEq, Int.reduceEq, Int.reduceLT, Int.reduceLE, Int.reduceNeg, Int.reduceToNat, Int.reduceSub, Int.reduceAdd, reduceIte, iao, ian, iac, ibo, ibn, ibc, Wb, Xb, Gb, b0, beq_self_eq_true]
  refine CP.goS (eqPair_c p hp) rfl rfl (.cons X.snap (.cons (Snap.ofSnaps (OwnsL.snap (OwnsL.mkPair oya oyb))) (.nil _))) ?_
  simp (disch := omega) only [go_sem, Nat.reduceEqDiff, Nat.reduceAdd, Nat.reduceSub, Nat.reduceLeDiff, Nat.reduceLT, Nat.reduceMul, Nat.reduceBEq, Int.reduceEq, Int.reduceLT, Int.reduceLE, Int.reduceNeg, Int.reduceToNat, Int.reduceSub, Int.reduceAdd, reduceIte, iao, ian, iac, ibo, ibn, ibc, Wb, Xb, Gb, b0, beq_self_eq_true]
  refine F.goInts (toIntS_f ws hw') (.same (refs_ints1 _ _)) fun v8 j8 h8 x8 n8 g8 lt8 o8 jo jn jc => ?_
  have W := PSt.up W x8
  have X := PSt.up X x8
  have G := PSt.up G x8
  have o5 := Owns.up o5 x8
  have b0 := x8.get b0
  have l8 := x8.len
  simp (disch := omega) only [go_sem, Nat.reduceEqDiff, Nat.reduceAdd, Nat.reduceSub, Nat.reduceLeDiff, Nat.reduceLT, Nat.reduceMul, Nat.reduceBEq, Int.reduceEq, Int.reduceLT, Int.reduceLE, Int.reduceNeg, Int.reduceToNat, Int.reduceSub, Int.reduceAdd, reduceIte, fn, jn, dec_true, beq_self_eq_true]
  refine CP.goS (eqIntS_c ws ws hw) rfl rfl (.cons (Owns.snap o5) (.cons (Owns.snap o8) (.nil _))) ?_
  have Xb := X.box
  simp (disch := omega) only [go_sem, Nat.reduceEqDiff, Nat.reduceAdd, Nat.reduceSub, Nat.reduceLeDiff, Nat.reduceLT, Nat.reduceMul, Nat.reduceBEq, Int.reduceEq, Int.reduceLT, Int.reduceLE, Int.reduceNeg, Int.reduceToNat, Int.reduceSub, Int.reduceAdd, reduceIte, Xb, decide_eq_true_eq, beq_self_eq_true]
  have hpa := hp.a
  have hpb := hp.b
  have hqa := hq.a
  have hqb := hq.b
  refine C.go (markPair_c h8 p xa xb ka kb 1 X.oa X.ob X.nd hp (by omega)) ?_
  intro r h9 z
  have z1 := z.1
  have off9 := z.2.1
  have l9 := z.2.2.2.2
  clear z
  subst z1
  have W := PSt.keep W off9 (fun hm => by have := g4 _ hm; omega) (dis_lt (a := h3.length) ltW (fun i hi => by have := g4 i hi; omega))
  have G := PSt.keep G off9 (fun hm => by have := ltX _ hm; omega) (dis_ge (a := h4.length) (fun i hi => by have := g6 i hi; omega) ltX)
  have o5 : Owns h9 (.lst 1 (ws.map encI)) v5 j5 := Owns.keep (fun i hi => off9 i (Owns.lt o5 i hi) (dis_ge (a := h4.length) (fun i hi => by have := g5 i hi; omega) ltX i hi)) o5
  have b0 : h9[0]? = some [[V.int .i64 p.a.seq, .lst 1 (p.a.words.map encI), .int .i64 p.a.sum, V.int .i64 p.b.seq, .lst 1 (p.b.words.map encI), .int .i64 p.b.sum]] := by
    rw [off9 0 (heap_lt b0) (fun hm => by have := g4 _ hm; omega)]; exact b0
  simp (disch := omega) only [go_sem, Nat.reduceEqDiff, Nat.reduceAdd, Nat.reduceSub, Nat.reduceLeDiff, Nat.reduceLT, Nat.reduceMul, Nat.reduceBEq, Int.reduceEq, Int.reduceLT, Int.reduceLE, Int.reduceNeg, Int.reduceToNat, Int.reduceSub, Int.reduceAdd, reduceIte, fn]
  refine C.go (markIntS_c h9 ws v5 j5 _ o5 hw' (by omega)) ?_
  intro r h10 z
  have z1 := z.1
  have off10 := z.2.1
  have l10 := z.2.2.2
  clear z
  subst z1
  have off10' : ∀ j, j < h9.length → j ∉ j5 → h10[j]? = h9[j]? := fun j _ hn => off10 j hn
  have W := PSt.keep W off10' (fun hm => by have := g5 _ hm; omega) (dis_lt (a := h3.length) ltW (fun i hi => by have := g5 i hi; omega))
  have G := PSt.keep G off10' (fun hm => by have := lt5 _ hm; omega) (dis_ge (a := h5.length) (fun i hi => by have := g6 i hi; omega) lt5)
  have b0 : h10[0]? = some [[V.int .i64 p.a.seq, .lst 1 (p.a.words.map encI), .int .i64 p.a.sum, V.int .i64 p.b.seq, .lst 1 (p.b.words.map encI), .int .i64 p.b.sum]] := by
    rw [off10' 0 (heap_lt b0) (fun hm => by have := g5 _ hm; omega)]; exact b0
  have Wb := W.box
  have Gb := G.box
  simp (disch := omega) only [go_sem, Nat.reduceEqDiff, Nat.reduceAdd, Nat.reduceSub, Nat.reduceLeDiff, Nat.reduceLT, Nat.reduceMul, Nat.reduceBEq, Int.reduceEq, Int.reduceLT, Int.reduceLE, Int.reduceNeg, Int.reduceToNat, Int.reduceSub, Int.reduceAdd, reduceIte, Wb, Gb, b0, beq_self_eq_true]
  refine CP.goS (eqPair_c _ hq) rfl rfl (.cons G.snap (.cons W.snap (.nil _))) ?_
  simp (disch := omega) only [go_sem, Nat.reduceEqDiff, Nat.reduceAdd, Nat.reduceSub, Nat.reduceLeDiff, Nat.reduceLT, Nat.reduceMul, Nat.reduceBEq, Int.reduceEq, Int.reduceLT, Int.reduceLE, Int.reduceNeg, Int.reduceToNat, Int.reduceSub, Int.reduceAdd, reduceIte, Wb, Gb, b0, beq_self_eq_true]
  refine C.go (markPair_c h10 (savedP p ws count) ga gb la lb 1 G.oa G.ob G.nd hq (by omega)) ?_
  intro r h11 z
  have z1 := z.1
  have off11 := z.2.1
  have ma1 := z.2.2.1
  have ma2 := z.2.2.2.1
  have l11 := z.2.2.2.2
  clear z
  subst z1
  have W := PSt.keep W off11 (fun hm => by have := g6 _ hm; omega) (dis_lt (a := h3.length) ltW (fun i hi => by have := g6 i hi; omega))
  have Gb : h11[h6.length]? = _ := (off11 _ (heap_lt Gb) (fun hm => by have := ltG _ hm; omega)).trans Gb
  have b0 : h11[0]? = some [[V.int .i64 p.a.seq, .lst 1 (p.a.words.map encI), .int .i64 p.a.sum, V.int .i64 p.b.seq, .lst 1 (p.b.words.map encI), .int .i64 p.b.sum]] := by
    rw [off11 0 (heap_lt b0) (fun hm => by have := g6 _ hm; omega)]; exact b0
  have M : PSt h11 h6.length (markP (savedP p ws count) 1) ga gb la lb := ⟨Gb, ma1, ma2, G.nd, G.ni⟩
  simp (disch := omega) only [go_sem, Nat.reduceEqDiff, Nat.reduceAdd, Nat.reduceSub, Nat.reduceLeDiff, Nat.reduceLT, Nat.reduceMul, Nat.reduceBEq, Int.reduceEq, Int.reduceLT, Int.reduceLE, Int.reduceNeg, Int.reduceToNat, Int.reduceSub, Int.reduceAdd, reduceIte, Gb, b0]
  refine CP.goS (heldPair_c (savedP p ws count) 1 hq (by omega)) rfl rfl (.cons M.snap (.cons (.int _ _) (.nil _))) ?_
  simp (disch := omega) only [go_sem, Nat.reduceEqDiff, Nat.reduceAdd, Nat.reduceSub, Nat.reduceLeDiff, Nat.reduceLT, Nat.reduceMul, Nat.reduceBEq, Int.reduceEq, Int.reduceLT, Int.reduceLE, Int.reduceNeg, Int.reduceToNat, Int.reduceSub, Int.reduceAdd, reduceIte, Gb, b0]
  refine F.goPair (toPair_f p hp) (.same (refs_pair1 _ p)) fun ya yb ma mb h12 x12 n12 g12 lt12 oya oyb iao ian iac ibo ibn ibc => ?_
  have W := PSt.up W x12
  have M := PSt.up M x12
  simp (disch := omega) only [go_sem, Nat.reduceEqDiff, Nat.reduceAdd, Nat.reduceSub, Nat.reduceLeDiff, Nat.reduceLT, Nat.reduceMul, Nat.reduceBEq, Int.reduceEq, Int.reduceLT, Int.reduceLE, Int.reduceNeg, Int.reduceToNat, Int.reduceSub, Int.reduceAdd, reduceIte, iao, ian, iac, ibo, ibn, ibc]
  refine F.goInts (toIntS_f ws hw') (.same (refs_ints1 _ _)) fun v13 j13 h13 x13 n13 g13 lt13 o13 ko kn kc => ?_
  have W := PSt.up W x13
  have M := PSt.up M x13
  simp (disch := omega) only [go_sem, Nat.reduceEqDiff, Nat.reduceAdd, Nat.reduceSub, Nat.reduceLeDiff, Nat.reduceLT, Nat.reduceMul, Nat.reduceBEq, Int.reduceEq, Int.reduceLT, Int.reduceLE, Int.reduceNeg, Int.reduceToNat, Int.reduceSub, Int.reduceAdd, reduceIte, iao, ian, iac, ibo, ibn, ibc, ko, kn, kc]
  refine F.goPairB (saveSome_f p ws count hp hw') (.cons (Snap.ofSnaps (OwnsL.snap (OwnsL.mkPair (Owns.up oya x13) (Owns.up oyb x13)))) (.cons (Owns.snap o13) (.cons (.int _ _) (.nil _)))) fun ua ub na nb h14 x14 n14 g14 lt14 oua oub mao man mac mbo mbn mbc => ?_
  have U := PSt.mk' oua oub n14
  have e14 : Ext h13 (h14 ++ [[[.int .i64 (savedP p ws count).a.seq, ua, .int .i64 (savedP p ws count).a.sum, .int .i64 (savedP p ws count).b.seq, ub, .int .i64 (savedP p ws count).b.sum]]]) := x14.trans (Ext.app _ _)
  have W := PSt.up W e14
  have M := PSt.up M e14
  have Wb := W.box
  have Mb := M.box
  simp only [markP] at Mb
  have Ub := U.box
  simp (disch := omega) only [go_sem, Nat.reduceEqDiff, Nat.reduceAdd, Nat.reduceSub, Nat.reduceLeDiff, Nat.reduceLT, Nat.reduceMul, Nat.reduceBEq, Int.reduceEq, Int.reduceLT, Int.reduceLE, Int.reduceNeg, Int.reduceToNat, Int.reduceSub, Int.reduceAdd, reduceIte, mao, man, mac, mbo, mbn, mbc, Wb, Mb, Ub, beq_self_eq_true]
  refine CP.goS (eqPair_c _ hq) rfl rfl (.cons U.snap (.cons W.snap (.nil _))) ?_
  simp (disch := omega) only [go_sem, Nat.reduceEqDiff, Nat.reduceAdd, Nat.reduceSub, Nat.reduceLeDiff, Nat.reduceLT, Nat.reduceMul, Nat.reduceBEq, Int.reduceEq, Int.reduceLT, Int.reduceLE, Int.reduceNeg, Int.reduceToNat, Int.reduceSub, Int.reduceAdd, reduceIte, mao, man, mac, mbo, mbn, mbc, Wb, Mb, Ub, beq_self_eq_true]
  refine CP.goS (heldPair_c (savedP p ws count) 1 hq (by omega)) rfl rfl (.cons M.snap (.cons (.int _ _) (.nil _))) ?_
  simp (disch := omega) only [go_sem, Nat.reduceEqDiff, Nat.reduceAdd, Nat.reduceSub, Nat.reduceLeDiff, Nat.reduceLT, Nat.reduceMul, Nat.reduceBEq, Int.reduceEq, Int.reduceLT, Int.reduceLE, Int.reduceNeg, Int.reduceToNat, Int.reduceSub, Int.reduceAdd, reduceIte, mao, man, mac, mbo, mbn, mbc, Wb, Mb, Ub, beq_self_eq_true]
end Go.Av
