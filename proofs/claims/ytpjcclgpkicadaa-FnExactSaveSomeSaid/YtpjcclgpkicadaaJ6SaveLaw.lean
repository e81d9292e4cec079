import Derived.Test.YtpjcclgpkicadaaJ6SaveU
namespace Go.Av
open Go.Proofs Go.RowKit
set_option linter.unusedVariables false
set_option linter.unusedSimpArgs false
set_option maxRecDepth 100000
set_option maxHeartbeats 4000000
theorem law_c (p : Pair) (ws : List Int) (count : Int) (ha : p.a.words.length ≤ 9223372036854775807) (hb : p.b.words.length ≤ 9223372036854775807) (hw : ws.length ≤ 9223372036854775807) : CP Try.prog 9 [.agg (encPair p), .lst 1 (ws.map encI), .int .i64 count] (.bool true) [] := by
  refine CP.by rfl mixed (cfn_ok Try.func9 ok9) rfl ?_
  simp (disch := omega) only [s9, go_sem, Nat.reduceEqDiff, Nat.reduceAdd, Nat.reduceSub, Nat.reduceLeDiff, Nat.reduceLT, Nat.reduceMul, Nat.reduceBEq, Int.reduceEq, Int.reduceLT, Int.reduceLE, Int.reduceNeg, Int.reduceToNat, Int.reduceSub, Int.reduceAdd, reduceIte, encPair]
  refine condP_dec (fun hbig => ?_) (fun hbig => ?_)
  · simp (disch := omega) only [go_sem, Nat.reduceEqDiff, Nat.reduceAdd, Nat.reduceSub, Nat.reduceLeDiff, Nat.reduceLT, Nat.reduceMul, Nat.reduceBEq, Int.reduceEq, Int.reduceLT, Int.reduceLE, Int.reduceNeg, Int.reduceToNat, Int.reduceSub, Int.reduceAdd, reduceIte]
  have hw' : ws.length ≤ 1048576 := by omega
  simp (disch := omega) only [go_sem, Nat.reduceEqDiff, Nat.reduceAdd, Nat.reduceSub, Nat.reduceLeDiff, Nat.reduceLT, Nat.reduceMul, Nat.reduceBEq, Int.reduceEq, Int.reduceLT, Int.reduceLE, Int.reduceNeg, Int.reduceToNat, Int.reduceSub, Int.reduceAdd, reduceIte]
  refine CP.go (szPair_c p 1048576 ha hb (by omega)) rfl (refs_pairI _ p _) ?_
  simp (disch := omega) only [go_sem, Nat.reduceEqDiff, Nat.reduceAdd, Nat.reduceSub, Nat.reduceLeDiff, Nat.reduceLT, Nat.reduceMul, Nat.reduceBEq, Int.reduceEq, Int.reduceLT, Int.reduceLE, Int.reduceNeg, Int.reduceToNat, Int.reduceSub, Int.reduceAdd, reduceIte]
  refine condP_dec (fun hz => ?_) (fun hz => ?_)
  · simp (disch := omega) only [go_sem, Nat.reduceEqDiff, Nat.reduceAdd, Nat.reduceSub, Nat.reduceLeDiff, Nat.reduceLT, Nat.reduceMul, Nat.reduceBEq, Int.reduceEq, Int.reduceLT, Int.reduceLE, Int.reduceNeg, Int.reduceToNat, Int.reduceSub, Int.reduceAdd, reduceIte]
  have hp := szPair_in hz
  have hq := saved_in hp ws count
  simp (disch := omega) only [go_sem, Nat.reduceEqDiff, Nat.reduceAdd, Nat.reduceSub, Nat.reduceLeDiff, Nat.reduceLT, Nat.reduceMul, Nat.reduceBEq, Int.reduceEq, Int.reduceLT, Int.reduceLE, Int.reduceNeg, Int.reduceToNat, Int.reduceSub, Int.reduceAdd, reduceIte]
  refine F.goPair (toPair_f p hp) (.same (refs_pair1 _ p)) fun va vb ia ib h1 x1 n1 g1 lt1 oa ob ao an ac bo bn bc => ?_
  simp (disch := omega) only [go_sem, Nat.reduceEqDiff, Nat.reduceAdd, Nat.reduceSub, Nat.reduceLeDiff, Nat.reduceLT, Nat.reduceMul, Nat.reduceBEq, Int.reduceEq, Int.reduceLT, Int.reduceLE, Int.reduceNeg, Int.reduceToNat, Int.reduceSub, Int.reduceAdd, reduceIte, an, bn]
  refine F.goInts (toIntS_f ws hw') (.same (refs_ints1 _ _)) fun v2 j2 h2 x2 n2 g2 lt2 o2 co cn cc => ?_
  simp (disch := omega) only [go_sem, Nat.reduceEqDiff, Nat.reduceAdd, Nat.reduceSub, Nat.reduceLeDiff, Nat.reduceLT, Nat.reduceMul, Nat.reduceBEq, Int.reduceEq, Int.reduceLT, Int.reduceLE, Int.reduceNeg, Int.reduceToNat, Int.reduceSub, Int.reduceAdd, reduceIte, an, bn, cn]
  refine F.goPairB (saveSome_g p ws count hp hw') (.cons (Snap.ofSnaps (OwnsL.snap (OwnsL.mkPair (oa.up x2) (ob.up x2)))) (.cons (Owns.snap o2) (.cons (.int _ _) (.nil _)))) fun wa wb ja jb h3 x3 n3 g3 ltW owa owb dao dan dac dbo dbn dbc => ?_
  have W := PSt.mk' owa owb n3
  have b0 := x3.get (x2.get (x1.get (i := 0) rfl))
  have b0' := fun t => heap_app (h' := t) b0
  simp (disch := omega) only [go_sem, Nat.reduceEqDiff, Nat.reduceAdd, Nat.reduceSub, Nat.reduceLeDiff, Nat.reduceLT, Nat.reduceMul, Nat.reduceBEq, Int.reduceEq, Int.reduceLT, Int.reduceLE, Int.reduceNeg, Int.reduceToNat, Int.reduceSub, Int.reduceAdd, reduceIte, dao, dan, dac, dbo, dbn, dbc, b0']
  refine F.goPair (toPair_f p hp) (.same (refs_pair1 _ p)) fun xa xb ka kb h4 x4 n4 g4 ltX oxa oxb eao ean eac ebo ebn ebc => ?_
  have X := PSt.mk' oxa oxb n4
  have W := PSt.up W x4
  have b0 := x4.get (b0' _)
  have l4 := x4.len
  rw [app1_len] at l4
  simp only [app1_len] at g4
  simp (disch := omega) only [go_sem, Nat.reduceEqDiff, Nat.reduceAdd, Nat.reduceSub, Nat.reduceLeDiff, Nat.reduceLT, Nat.reduceMul, Nat.reduceBEq, Int.reduceEq, Int.reduceLT, Int.reduceLE, Int.reduceNeg, Int.reduceToNat, Int.reduceSub, Int.reduceAdd, reduceIte, eao, ean, eac, ebo, ebn, ebc]
  refine F.goInts (toIntS_f ws hw') (.same (refs_ints1 _ _)) fun v5 j5 h5 x5 n5 g5 lt5 o5 fo fn fc => ?_
  have W := PSt.up (PSt.up W (Ext.app _ _)) x5
  have X := PSt.up X x5
  have b0 := x5.get (heap_app b0)
  have l5 := x5.len
  rw [app1_len] at l5
  simp only [app1_len] at g5
  have Xb := X.box
  simp (disch := omega) only [go_sem, Nat.reduceEqDiff, Nat.reduceAdd, Nat.reduceSub, Nat.reduceLeDiff, Nat.reduceLT, Nat.reduceMul, Nat.reduceBEq, Int.reduceEq, Int.reduceLT, Int.reduceLE, Int.reduceNeg, Int.reduceToNat, Int.reduceSub, Int.reduceAdd, reduceIte, eao, ean, eac, ebo, ebn, ebc, fo, fn, fc, Xb]
  refine F.goPairB (saveSome_f p ws count hp hw') (.cons X.snap (.cons (Owns.snap o5) (.cons (.int _ _) (.nil _)))) fun ga gb la lb h6 x6 n6 g6 ltG oga ogb hao han hac hbo hbn hbc => ?_
  have G := PSt.mk' oga ogb n6
  have e6 : Ext h5 (h6 ++ [[[.int .i64 (savedP p ws count).a.seq, ga, .int .i64 (savedP p ws count).a.sum, .int .i64 (savedP p ws count).b.seq, gb, .int .i64 (savedP p ws count).b.sum]]]) := x6.trans (Ext.app _ _)
  have W := PSt.up W e6
  have X := PSt.up X e6
  have o5 := Owns.up o5 e6
  have b0 := e6.get b0
  have l6 := x6.len
  have Wb := W.box
  have Xb := X.box
  have Gb := G.box
  simp (disch := omega) only [go_sem, Nat.reduceEqDiff, Nat.reduceAdd, Nat.reduceSub, Nat.reduceLeDiff, Nat.reduceLT, Nat.reduceMul, Nat.reduceBEq, Int.reduceEq, Int.reduceLT, Int.reduceLE, Int.reduceNeg, Int.reduceToNat, Int.reduceSub, Int.reduceAdd, reduceIte, hao, han, hac, hbo, hbn, hbc, Wb, Xb, Gb, b0, beq_self_eq_true]
  refine CP.goS (eqPair_c _ hq) rfl rfl (.cons G.snap (.cons W.snap (.nil _))) ?_
  simp (disch := omega) only [go_sem, Nat.reduceEqDiff, Nat.reduceAdd, Nat.reduceSub, Nat.reduceLeDiff, Nat.reduceLT, Nat.reduceMul, Nat.reduceBEq, Int.reduceEq, Int.reduceLT, Int.reduceLE, Int.reduceNeg, Int.reduceToNat, Int.reduceSub, Int.reduceAdd, reduceIte, hao, han, hac, hbo, hbn, hbc, Wb, Xb, Gb, b0, beq_self_eq_true]
  refine F.goPair (toPair_f p hp) (.same (refs_pair1 _ p)) fun ya yb ma mb h7 x7 n7 g7 ltY oya oyb iao ian iac ibo ibn ibc => ?_
  have W := PSt.up W x7
  have X := PSt.up X x7
  have G := PSt.up G x7
  have o5 := Owns.up o5 x7
  have b0 := x7.get b0
  have l7 := x7.len
  rw [app1_len] at l7
  have Wb := W.box
  have Xb := X.box
  have Gb := G.box
  simp (disch := omega) only [go_sem, Nat.reduceEqDiff, Nat.reduceAdd, Nat.reduceSub, Nat.reduceLeDiff, Nat.reduceLT, Nat.reduceMul, Nat.reduceBEq, Int.reduceEq, Int.reduceLT, Int.reduceLE, Int.reduceNeg, Int.reduceToNat, Int.reduceSub, Int.reduceAdd, reduceIte, iao, ian, iac, ibo, ibn, ibc, Wb, Xb, Gb, b0, beq_self_eq_true]
  refine CP.goS (eqPair_c p hp) rfl rfl (.cons X.snap (.cons (Snap.ofSnaps (OwnsL.snap (OwnsL.mkPair oya oyb))) (.nil _))) ?_
  simp (disch := omega) only [go_sem, Nat.reduceEqDiff, Nat.reduceAdd, Nat.reduceSub, Nat.reduceLeDiff, Nat.reduceLT, Nat.reduceMul, Nat.reduceBEq, Int.reduceEq, Int.reduceLT, Int.reduceLE, Int.reduceNeg, Int.reduceToNat, Int.reduceSub, Int.reduceAdd, reduceIte, iao, ian, iac, ibo, ibn, ibc, Wb, Xb, Gb, b0, beq_self_eq_true]
  refine F.goInts (toIntS_f ws hw') (.same (refs_ints1 _ _)) fun v8 j8 h8 x8 n8 g8 lt8 o8 jo jn jc => ?_
  have W := PSt.up W x8
  have X := PSt.up X x8
  have G := PSt.up G x8
  have o5 := Owns.up o5 x8
  have b0 := x8.get b0
  have l8 := x8.len
  simp (disch := omega) only [go_sem, Nat.reduceEqDiff, Nat.reduceAdd, Nat.reduceSub, Nat.reduceLeDiff, Nat.reduceLT, Nat.reduceMul, Nat.reduceBEq, Int.reduceEq, Int.reduceLT, Int.reduceLE, Int.reduceNeg, Int.reduceToNat, Int.reduceSub, Int.reduceAdd, reduceIte, fn, jn, dec_true, beq_self_eq_true]
  refine CP.goS (eqIntS_c ws ws hw) rfl rfl (.cons (Owns.snap o5) (.cons (Owns.snap o8) (.nil _))) ?_
  have Xb := X.box
  simp (disch := omega) only [go_sem, Nat.reduceEqDiff, Nat.reduceAdd, Nat.reduceSub, Nat.reduceLeDiff, Nat.reduceLT, Nat.reduceMul, Nat.reduceBEq, Int.reduceEq, Int.reduceLT, Int.reduceLE, Int.reduceNeg, Int.reduceToNat, Int.reduceSub, Int.reduceAdd, reduceIte, Xb, decide_eq_true_eq, beq_self_eq_true]
  have hpa := hp.a
  have hpb := hp.b
  have hqa := hq.a
  have hqb := hq.b
  refine C.go (markPair_c h8 p xa xb ka kb 1 X.oa X.ob X.nd hp (by omega)) ?_
  intro r h9 z
  have z1 := z.1
  have off9 := z.2.1
  have l9 := z.2.2.2.2
  clear z
  subst z1
  have W := PSt.keep W off9 (fun hm => by have := g4 _ hm; omega) (dis_lt (a := h3.length) ltW (fun i hi => by have := g4 i hi; omega))
  have G := PSt.keep G off9 (fun hm => by have := ltX _ hm; omega) (dis_ge (a := h4.length) (fun i hi => by have := g6 i hi; omega) ltX)
  have o5 : Owns h9 (.lst 1 (ws.map encI)) v5 j5 := Owns.keep (fun i hi => off9 i (Owns.lt o5 i hi) (dis_ge (a := h4.length) (fun i hi => by have := g5 i hi; omega) ltX i hi)) o5
  have b0 : h9[0]? = some [[V.int .i64 p.a.seq, .lst 1 (p.a.words.map encI), .int .i64 p.a.sum, V.int .i64 p.b.seq, .lst 1 (p.b.words.map encI), .int .i64 p.b.sum]] := by
    rw [off9 0 (heap_lt b0) (fun hm => by have := g4 _ hm; omega)]; exact b0
  simp (disch := omega) only [go_sem, Nat.reduceEqDiff, Nat.reduceAdd, Nat.reduceSub, Nat.reduceLeDiff, Nat.reduceLT, Nat.reduceMul, Nat.reduceBEq, Int.reduceEq, Int.reduceLT, Int.reduceLE, Int.reduceNeg, Int.reduceToNat, Int.reduceSub, Int.reduceAdd, reduceIte, fn]
  refine C.go (markIntS_c h9 ws v5 j5 _ o5 hw' (by omega)) ?_
  intro r h10 z
  have z1 := z.1
  have off10 := z.2.1
  have l10 := z.2.2.2
  clear z
  subst z1
  have off10' : ∀ j, j < h9.length → j ∉ j5 → h10[j]? = h9[j]? := fun j _ hn => off10 j hn
  have W := PSt.keep W off10' (fun hm => by have := g5 _ hm; omega) (dis_lt (a := h3.length) ltW (fun i hi => by have := g5 i hi; omega))
  have G := PSt.keep G off10' (fun hm => by have := lt5 _ hm; omega) (dis_ge (a := h5.length) (fun i hi => by have := g6 i hi; omega) lt5)
  have b0 : h10[0]? = some [[V.int .i64 p.a.seq, .lst 1 (p.a.words.map encI), .int .i64 p.a.sum, V.int .i64 p.b.seq, .lst 1 (p.b.words.map encI), .int .i64 p.b.sum]] := by
    rw [off10' 0 (heap_lt b0) (fun hm => by have := g5 _ hm; omega)]; exact b0
  have Wb := W.box
  have Gb := G.box
  simp (disch := omega) only [go_sem, Nat.reduceEqDiff, Nat.reduceAdd, Nat.reduceSub, Nat.reduceLeDiff, Nat.reduceLT, Nat.reduceMul, Nat.reduceBEq, Int.reduceEq, Int.reduceLT, Int.reduceLE, Int.reduceNeg, Int.reduceToNat, Int.reduceSub, Int.reduceAdd, reduceIte, Wb, Gb, b0, beq_self_eq_true]
  refine CP.goS (eqPair_c _ hq) rfl rfl (.cons G.snap (.cons W.snap (.nil _))) ?_
  simp (disch := omega) only [go_sem, Nat.reduceEqDiff, Nat.reduceAdd, Nat.reduceSub, Nat.reduceLeDiff, Nat.reduceLT, Nat.reduceMul, Nat.reduceBEq, Int.reduceEq, Int.reduceLT, Int.reduceLE, Int.reduceNeg, Int.reduceToNat, Int.reduceSub, Int.reduceAdd, reduceIte, Wb, Gb, b0, beq_self_eq_true]
  refine C.go (markPair_c h10 (savedP p ws count) ga gb la lb 1 G.oa G.ob G.nd hq (by omega)) ?_
  intro r h11 z
  have z1 := z.1
  have off11 := z.2.1
  have ma1 := z.2.2.1
  have ma2 := z.2.2.2.1
  have l11 := z.2.2.2.2
  clear z
  subst z1
  have W := PSt.keep W off11 (fun hm => by have := g6 _ hm; omega) (dis_lt (a := h3.length) ltW (fun i hi => by have := g6 i hi; omega))
  have Gb : h11[h6.length]? = _ := (off11 _ (heap_lt Gb) (fun hm => by have := ltG _ hm; omega)).trans Gb
  have b0 : h11[0]? = some [[V.int .i64 p.a.seq, .lst 1 (p.a.words.map encI), .int .i64 p.a.sum, V.int .i64 p.b.seq, .lst 1 (p.b.words.map encI), .int .i64 p.b.sum]] := by
    rw [off11 0 (heap_lt b0) (fun hm => by have := g6 _ hm; omega)]; exact b0
  have M : PSt h11 h6.length (markP (savedP p ws count) 1) ga gb la lb := ⟨Gb, ma1, ma2, G.nd, G.ni⟩
  simp (disch := omega) only [go_sem, Nat.reduceEqDiff, Nat.reduceAdd, Nat.reduceSub, Nat.reduceLeDiff, Nat.reduceLT, Nat.reduceMul, Nat.reduceBEq, Int.reduceEq, Int.reduceLT, Int.reduceLE, Int.reduceNeg, Int.reduceToNat, Int.reduceSub, Int.reduceAdd, reduceIte, Gb, b0]
  refine CP.goS (heldPair_c (savedP p ws count) 1 hq (by omega)) rfl rfl (.cons M.snap (.cons (.int _ _) (.nil _))) ?_
  simp (disch := omega) only [go_sem, Nat.reduceEqDiff, Nat.reduceAdd, Nat.reduceSub, Nat.reduceLeDiff, Nat.reduceLT, Nat.reduceMul, Nat.reduceBEq, Int.reduceEq, Int.reduceLT, Int.reduceLE, Int.reduceNeg, Int.reduceToNat, Int.reduceSub, Int.reduceAdd, reduceIte, Gb, b0]
  refine F.goPair (toPair_f p hp) (.same (refs_pair1 _ p)) fun ya yb ma mb h12 x12 n12 g12 lt12 oya oyb iao ian iac ibo ibn ibc => ?_
  have W := PSt.up W x12
  have M := PSt.up M x12
  simp (disch := omega) only [go_sem, Nat.reduceEqDiff, Nat.reduceAdd, Nat.reduceSub, Nat.reduceLeDiff, Nat.reduceLT, Nat.reduceMul, Nat.reduceBEq, Int.reduceEq, Int.reduceLT, Int.reduceLE, Int.reduceNeg, Int.reduceToNat, Int.reduceSub, Int.reduceAdd, reduceIte, iao, ian, iac, ibo, ibn, ibc]
  refine F.goInts (toIntS_f ws hw') (.same (refs_ints1 _ _)) fun v13 j13 h13 x13 n13 g13 lt13 o13 ko kn kc => ?_
  have W := PSt.up W x13
  have M := PSt.up M x13
  simp (disch := omega) only [go_sem, Nat.reduceEqDiff, Nat.reduceAdd, Nat.reduceSub, Nat.reduceLeDiff, Nat.reduceLT, Nat.reduceMul, Nat.reduceBEq, Int.reduceEq, Int.reduceLT, Int.reduceLE, Int.reduceNeg, Int.reduceToNat, Int.reduceSub, Int.reduceAdd, reduceIte, iao, ian, iac, ibo, ibn, ibc, ko, kn, kc]
  refine F.goPairB (saveSome_f p ws count hp hw') (.cons (Snap.ofSnaps (OwnsL.snap (OwnsL.mkPair (Owns.up oya x13) (Owns.up oyb x13)))) (.cons (Owns.snap o13) (.cons (.int _ _) (.nil _)))) fun ua ub na nb h14 x14 n14 g14 lt14 oua oub mao man mac mbo mbn mbc => ?_
  have U := PSt.mk' oua oub n14
  have e14 : Ext h13 (h14 ++ [[[.int .i64 (savedP p ws count).a.seq, ua, .int .i64 (savedP p ws count).a.sum, .int .i64 (savedP p ws count).b.seq, ub, .int .i64 (savedP p ws count).b.sum]]]) := x14.trans (Ext.app _ _)
  have W := PSt.up W e14
  have M := PSt.up M e14
  have Wb := W.box
  have Mb := M.box
  simp only [markP] at Mb
  have Ub := U.box
  simp (disch := omega) only [go_sem, Nat.reduceEqDiff, Nat.reduceAdd, Nat.reduceSub, Nat.reduceLeDiff, Nat.reduceLT, Nat.reduceMul, Nat.reduceBEq, Int.reduceEq, Int.reduceLT, Int.reduceLE, Int.reduceNeg, Int.reduceToNat, Int.reduceSub, Int.reduceAdd, reduceIte, mao, man, mac, mbo, mbn, mbc, Wb, Mb, Ub, beq_self_eq_true]
  refine CP.goS (eqPair_c _ hq) rfl rfl (.cons U.snap (.cons W.snap (.nil _))) ?_
  simp (disch := omega) only [go_sem, Nat.reduceEqDiff, Nat.reduceAdd, Nat.reduceSub, Nat.reduceLeDiff, Nat.reduceLT, Nat.reduceMul, Nat.reduceBEq, Int.reduceEq, Int.reduceLT, Int.reduceLE, Int.reduceNeg, Int.reduceToNat, Int.reduceSub, Int.reduceAdd, reduceIte, mao, man, mac, mbo, mbn, mbc, Wb, Mb, Ub, beq_self_eq_true]
  refine CP.goS (heldPair_c (savedP p ws count) 1 hq (by omega)) rfl rfl (.cons M.snap (.cons (.int _ _) (.nil _))) ?_
  simp (disch := omega) only [go_sem, Nat.reduceEqDiff, Nat.reduceAdd, Nat.reduceSub, Nat.reduceLeDiff, Nat.reduceLT, Nat.reduceMul, Nat.reduceBEq, Int.reduceEq, Int.reduceLT, Int.reduceLE, Int.reduceNeg, Int.reduceToNat, Int.reduceSub, Int.reduceAdd, reduceIte, mao, man, mac, mbo, mbn, mbc, Wb, Mb, Ub, beq_self_eq_true]
end Go.Av
