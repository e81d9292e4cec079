/- The law of JitRun: told by its contract. No condition. -/
import Derived.Test.YtpjcclgpkicadaaJ6Jit
namespace Go.Av
open Go.Proofs Go.RowKit
set_option linter.unusedVariables false
set_option linter.unusedSimpArgs false
set_option maxRecDepth 100000
set_option maxHeartbeats 4000000
/-- What becomes of the heap when a part of it is written over. -/
theorem Sep.dropOff {h : Heap} {y v : V} {L : List It} (S : Sep h (.v y v :: L)) (hy : ∀ ds, y ≠ .tup ds) : ∃ i, Owns h y v i ∧ ∀ h', (∀ j, j < h.length → j ∉ i → h'[j]? = h[j]?) → Sep h' L ∧ ∀ y', (∀ ds, y' ≠ .tup ds) → Owns h' y' v i → Sep h' (.v y' v :: L) := by
  obtain ⟨ids, n, i, j, rfl, o, s⟩ := S
  have n' := List.nodup_append.1 n
  refine ⟨i, OwnsR.owns hy o, fun h' k => ⟨⟨j, n'.2.1, s.keep fun a ha => k a (s.lt a ha) (fun hm => n'.2.2 a hm a ha rfl)⟩, fun y' hy' o' => ⟨_, n, i, j, rfl, ?_, s.keep fun a ha => k a (s.lt a ha) (fun hm => n'.2.2 a hm a ha rfl)⟩⟩⟩
  show OwnsR h' y' v i
  unfold OwnsR
  split
  · exact absurd rfl (hy' _)
  · exact o'
theorem Sep.markI {P : Program} {f : FuncId} {xs ys : List Int} {v z : V} {k : Int} {h : Heap} {L : List It} {K : V → Heap → Prop} (S : Sep h (.v (.lst 1 (xs.map encI)) v :: L))
    (hc : ∀ ids, Owns h (.lst 1 (xs.map encI)) v ids → C P f [v, .int .i64 k] h (fun r h' => r = z ∧ Off ids h h' ∧ Owns h' (.lst 1 (ys.map encI)) v ids ∧ h'.length = h.length)) (hk : ∀ h', Sep h' (.v (.lst 1 (ys.map encI)) v :: L) → K z h') : @callP P f [v, .int .i64 k] h ⟨K⟩ := by
  obtain ⟨i, o, W⟩ := S.dropOff (fun ds => V.noConfusion)
  exact C.go (hc i o) fun r h' ⟨e, off, o', _⟩ => by subst e; exact hk h' ((W h' (fun j _ hj => off j hj)).2 _ (fun ds => V.noConfusion) o')
theorem Sep.markD {P : Program} {f : FuncId} {sz : Nat} {ys : Blk} {v z : V} {k : Int} {h : Heap} {L : List It} {K : V → Heap → Prop} (S : Sep h (.v (.lst sz ys) v :: L))
    (hc : ∀ ids, Owns h (.lst sz ys) v ids → C P f [v, .int .i64 k] h (fun r h' => r = z ∧ Off ids h h' ∧ h'.length = h.length)) (hk : ∀ h', Sep h' L → K z h') : @callP P f [v, .int .i64 k] h ⟨K⟩ := by
  obtain ⟨i, o, W⟩ := S.dropOff (fun ds => V.noConfusion)
  exact C.go (hc i o) fun r h' ⟨e, off, _⟩ => by subst e; exact hk h' (W h' (fun j _ hj => off j hj)).1
theorem Sep.markP {p : Pair} {va vb : V} {k : Int} {h : Heap} {L : List It} {K : V → Heap → Prop} (S : Sep h (.v (.lst 1 (p.a.words.map encI)) va :: .v (.lst 1 (p.b.words.map encI)) vb :: L)) (hp : PairIn p) (hk : 0 ≤ k ∧ k ≤ 10000000)
    (hK : ∀ h', Sep h' (.v (.lst 1 ((markP p k).a.words.map encI)) va :: .v (.lst 1 ((markP p k).b.words.map encI)) vb :: L) → K (.int .i64 (k + p.a.words.length + p.b.words.length)) h') : @callP Try.prog 36 [.agg [.int .i64 p.a.seq, va, .int .i64 p.a.sum, .int .i64 p.b.seq, vb, .int .i64 p.b.sum], .int .i64 k] h ⟨K⟩ := by
  obtain ⟨ids, n, ia, jj, e1, oa, ib, j, e2, ob, s⟩ := S
  subst e1 e2
  rw [← List.append_assoc] at n
  have n' := List.nodup_append.1 n
  refine C.go (markPair_c h p va vb ia ib k oa ob n'.1 hp hk) fun r h' z => ?_
  have z1 := z.1
  subst z1
  exact hK h' ⟨_, by rw [List.append_assoc] at n; exact n, ia, ib ++ j, rfl, z.2.2.1, ib, j, rfl, z.2.2.2.1, s.keep fun a ha => z.2.1 a (s.lt a ha) (fun hm => n'.2.2 a hm a ha rfl)⟩
theorem Sep.pairSnap {p : Pair} {va vb : V} {h : Heap} {L : List It} (S : Sep h L) (i j : Nat) (hi : L[i]? = some (.v (.lst 1 (p.a.words.map encI)) va)) (hj : L[j]? = some (.v (.lst 1 (p.b.words.map encI)) vb)) : Snap h (.agg [.int .i64 p.a.seq, va, .int .i64 p.a.sum, .int .i64 p.b.seq, vb, .int .i64 p.b.sum]) (.agg (encPair p)) :=
  .ofSnaps (.cons (.int _ _) (.cons (S.snap i hi) (.cons (.int _ _) (.cons (.int _ _) (.cons (S.snap j hj) (.cons (.int _ _) (.nil _)))))))
theorem Sep.goJit {P : Program} {f : FuncId} {args args' : List V} {p : Pair} {ws : List Int} {b : Bool} {h : Heap} {L : List It} {K : V → Heap → Prop} (S : Sep h L) (hf : F P f args' (.tup [.agg (encPair p), .lst 1 (ws.map encI), .bool b])) (hs : Snaps h args args')
    (hk : ∀ va vb w h', Ext h h' → Sep h' (.v (.lst 1 (p.a.words.map encI)) va :: .v (.lst 1 (p.b.words.map encI)) vb :: .v (.lst 1 (ws.map encI)) w :: L) → (V.one va = true ∧ V.nohole va = va ∧ V.cells va = [va]) → (V.one vb = true ∧ V.nohole vb = vb ∧ V.cells vb = [vb]) → (V.one w = true ∧ V.nohole w = w ∧ V.cells w = [w]) → K (.tup [.agg [.int .i64 p.a.seq, va, .int .i64 p.a.sum, .int .i64 p.b.seq, vb, .int .i64 p.b.sum], w, .bool b]) h') : @callP P f args h ⟨K⟩ :=
  S.go hf hs fun r h' x S => by
    obtain ⟨_, rfl, S1⟩ := sep_tup.1 S
    obtain ⟨_, _, rfl, S2⟩ := sep_la.1 S1
    obtain ⟨va, vb, rfl, S3⟩ := S2.ofPair
    obtain ⟨w, _, rfl, S4⟩ := sep_ll.1 (S3.pull 2)
    obtain ⟨_, rfl, S5⟩ := sep_lb.1 S4
    obtain ⟨rfl, S6⟩ := sep_l0.1 S5
    have S7 := S6.rot.perm ((List.Perm.swap _ _ _).trans (.cons _ (.swap _ _ _)))
    exact hk va vb w h' x S7 (S7.vv 0 rfl) (S7.vv 1 rfl) (S7.vv 2 rfl)
theorem jitW_in {xs : List Instr} {ss : List Shot} : (jitW xs ss).length ≤ 1048576 := by
  unfold jitW; split
  · have : ∀ (l : List Shot) (p : Pair), PairIn p → PairIn (l.foldl (shotM xs) p) := fun l => by
      induction l with
      | nil => exact fun p h => h
      | cons s l ih => exact fun p h => ih _ (shot_in h)
    exact words_in (this ss _ pair0_in)
  · exact Nat.zero_le _
theorem jitM_in {xs : List Instr} {ss : List Shot} : PairIn (jitM xs ss) := by
  unfold jitM; split
  · have : ∀ (l : List Shot) (p : Pair), PairIn p → PairIn (l.foldl (shotM xs) p) := fun l => by
      induction l with
      | nil => exact fun p h => h
      | cons s l ih => exact fun p h => ih _ (shot_in h)
    exact this ss _ pair0_in
  · exact pair0_in
theorem refs_codeI (n : Nat) (xs : List Instr) (k : Int) : V.refsL n [.lst 3 (xs.map encInstr), .int .i64 k] = true := by simp only [V.refsL, refs_code]; rfl
theorem refs_shotsI (n : Nat) (xs : List Shot) (k : Int) : V.refsL n [.lst 2 (xs.map encShot), .int .i64 k] = true := by simp only [V.refsL, refs_shots]; rfl
theorem refs_shots1 (n : Nat) (xs : List Shot) : V.refsL n [.lst 2 (xs.map encShot)] = true := by simp only [V.refsL, refs_shots]; rfl
abbrev cellsP (p : Pair) (va vb : V) : List V := [.int .i64 p.a.seq, va, .int .i64 p.a.sum, .int .i64 p.b.seq, vb, .int .i64 p.b.sum]
theorem law_c (xs : List Instr) (ss : List Shot) (hx : xs.length ≤ 9223372036854775807) (hs : ss.length ≤ 9223372036854775807) : CP Try.prog 11 [.lst 3 (xs.map encInstr), .lst 2 (ss.map encShot)] (.bool true) [] := by
  refine CP.by rfl mixed (cfn_ok Try.func11 ok11) rfl ?_
  simp (disch := omega) only [s11, go_sem, Nat.reduceEqDiff, Nat.reduceAdd, Nat.reduceSub, Nat.reduceLeDiff, Nat.reduceLT, Nat.reduceMul, Nat.reduceBEq, Int.reduceEq, Int.reduceLT, Int.reduceLE, Int.reduceNeg, Int.reduceToNat, Int.reduceSub, Int.reduceAdd, reduceIte]
  refine CP.go (szInstrS_c xs 1048576 hx (by omega)) rfl (refs_codeI _ _ _) ?_
  simp (disch := omega) only [go_sem, Nat.reduceEqDiff, Nat.reduceAdd, Nat.reduceSub, Nat.reduceLeDiff, Nat.reduceLT, Nat.reduceMul, Nat.reduceBEq, Int.reduceEq, Int.reduceLT, Int.reduceLE, Int.reduceNeg, Int.reduceToNat, Int.reduceSub, Int.reduceAdd, reduceIte]
  have hb1 := szM_bd xs.length 1048576 (by omega)
  refine condP_dec (fun hz => ?_) (fun hz => ?_)
  · simp (disch := omega) only [go_sem, Nat.reduceEqDiff, Nat.reduceAdd, Nat.reduceSub, Nat.reduceLeDiff, Nat.reduceLT, Nat.reduceMul, Nat.reduceBEq, Int.reduceEq, Int.reduceLT, Int.reduceLE, Int.reduceNeg, Int.reduceToNat, Int.reduceSub, Int.reduceAdd, reduceIte]
  have hx' := szM_ok (by omega) hz
  simp (disch := omega) only [go_sem, Nat.reduceEqDiff, Nat.reduceAdd, Nat.reduceSub, Nat.reduceLeDiff, Nat.reduceLT, Nat.reduceMul, Nat.reduceBEq, Int.reduceEq, Int.reduceLT, Int.reduceLE, Int.reduceNeg, Int.reduceToNat, Int.reduceSub, Int.reduceAdd, reduceIte]
  refine CP.go (szShotS_c ss _ hs (by omega)) rfl (refs_shotsI _ _ _) ?_
  simp (disch := omega) only [go_sem, Nat.reduceEqDiff, Nat.reduceAdd, Nat.reduceSub, Nat.reduceLeDiff, Nat.reduceLT, Nat.reduceMul, Nat.reduceBEq, Int.reduceEq, Int.reduceLT, Int.reduceLE, Int.reduceNeg, Int.reduceToNat, Int.reduceSub, Int.reduceAdd, reduceIte]
  refine condP_dec (fun hz2 => ?_) (fun hz2 => ?_)
  · simp (disch := omega) only [go_sem, Nat.reduceEqDiff, Nat.reduceAdd, Nat.reduceSub, Nat.reduceLeDiff, Nat.reduceLT, Nat.reduceMul, Nat.reduceBEq, Int.reduceEq, Int.reduceLT, Int.reduceLE, Int.reduceNeg, Int.reduceToNat, Int.reduceSub, Int.reduceAdd, reduceIte]
  have hs' := szM_ok hb1.2 hz2
  have hq : PairIn (jitM xs ss) := jitM_in
  have hw : (jitW xs ss).length ≤ 1048576 := jitW_in
  have hqa := hq.a
  have hqb := hq.b
  simp (disch := omega) only [go_sem, Nat.reduceEqDiff, Nat.reduceAdd, Nat.reduceSub, Nat.reduceLeDiff, Nat.reduceLT, Nat.reduceMul, Nat.reduceBEq, Int.reduceEq, Int.reduceLT, Int.reduceLE, Int.reduceNeg, Int.reduceToNat, Int.reduceSub, Int.reduceAdd, reduceIte]
  refine (Sep.nil _).goLst (toInstrS_f xs hx') (.same (refs_code1 _ _)) fun r1 h1 X1 S1 r1o r1n r1c => ?_
  simp (disch := omega) only [go_sem, Nat.reduceEqDiff, Nat.reduceAdd, Nat.reduceSub, Nat.reduceLeDiff, Nat.reduceLT, Nat.reduceMul, Nat.reduceBEq, Int.reduceEq, Int.reduceLT, Int.reduceLE, Int.reduceNeg, Int.reduceToNat, Int.reduceSub, Int.reduceAdd, reduceIte, r1o, r1n, r1c]
  refine S1.goLst (toShotS_f ss hs') (.same (refs_shots1 _ _)) fun r2 h2 X2 S2 r2o r2n r2c => ?_
  simp (disch := omega) only [go_sem, Nat.reduceEqDiff, Nat.reduceAdd, Nat.reduceSub, Nat.reduceLeDiff, Nat.reduceLT, Nat.reduceMul, Nat.reduceBEq, Int.reduceEq, Int.reduceLT, Int.reduceLE, Int.reduceNeg, Int.reduceToNat, Int.reduceSub, Int.reduceAdd, reduceIte, r1o, r1n, r1c, r2o, r2n, r2c]
  refine (S2.drop 0).drop1.goJit (jit_s xs ss hx' hs') (.cons (S2.snap 1 rfl) (.cons (S2.snap 0 rfl) (.nil _))) fun wa wb ww h3 X3 S3 va vb vw => ?_
  have S4 := S3.newK [cellsP (jitM xs ss) wa wb]
  simp (disch := omega) only [go_sem, Nat.reduceEqDiff, Nat.reduceAdd, Nat.reduceSub, Nat.reduceLeDiff, Nat.reduceLT, Nat.reduceMul, Nat.reduceBEq, Int.reduceEq, Int.reduceLT, Int.reduceLE, Int.reduceNeg, Int.reduceToNat, Int.reduceSub, Int.reduceAdd, reduceIte, va.1, va.2.1, va.2.2, vb.1, vb.2.1, vb.2.2, vw.1, vw.2.1, vw.2.2]
  refine S4.goLst (toInstrS_f xs hx') (.same (refs_code1 _ _)) fun r5 h5 X5 S5 r5o r5n r5c => ?_
  simp (disch := omega) only [go_sem, Nat.reduceEqDiff, Nat.reduceAdd, Nat.reduceSub, Nat.reduceLeDiff, Nat.reduceLT, Nat.reduceMul, Nat.reduceBEq, Int.reduceEq, Int.reduceLT, Int.reduceLE, Int.reduceNeg, Int.reduceToNat, Int.reduceSub, Int.reduceAdd, reduceIte, r5o, r5n, r5c, vw.2.1]
  refine S5.goLst (toShotS_f ss hs') (.same (refs_shots1 _ _)) fun r6 h6 X6 S6 r6o r6n r6c => ?_
  simp (disch := omega) only [go_sem, Nat.reduceEqDiff, Nat.reduceAdd, Nat.reduceSub, Nat.reduceLeDiff, Nat.reduceLT, Nat.reduceMul, Nat.reduceBEq, Int.reduceEq, Int.reduceLT, Int.reduceLE, Int.reduceNeg, Int.reduceToNat, Int.reduceSub, Int.reduceAdd, reduceIte, r5o, r5n, r5c, r6o, r6n, r6c, vw.2.1]
  refine S6.goJit (jit_c xs ss hx' hs') (.cons (S6.snap 1 rfl) (.cons (S6.snap 0 rfl) (.nil _))) fun ga gb gw h7 X7 S7 ua ub uw => ?_
  have S8 := S7.newK [cellsP (jitM xs ss) ga gb]
  have G8 := S8.blk 0 rfl
  have W8 := S8.blk 6 rfl
  simp (disch := omega) only [go_sem, Nat.reduceEqDiff, Nat.reduceAdd, Nat.reduceSub, Nat.reduceLeDiff, Nat.reduceLT, Nat.reduceMul, Nat.reduceBEq, Int.reduceEq, Int.reduceLT, Int.reduceLE, Int.reduceNeg, Int.reduceToNat, Int.reduceSub, Int.reduceAdd, reduceIte, ua.1, ua.2.1, ua.2.2, ub.1, ub.2.1, ub.2.2, uw.1, uw.2.1, uw.2.2, vw.2.1, r5n, r6n, G8, W8, beq_self_eq_true]
  refine CP.goS (eqPair_c _ hq) rfl rfl (.cons (S8.pairSnap 1 2 rfl rfl) (.cons (S8.pairSnap 7 8 rfl rfl) (.nil _))) ?_
  simp (disch := omega) only [go_sem, Nat.reduceEqDiff, Nat.reduceAdd, Nat.reduceSub, Nat.reduceLeDiff, Nat.reduceLT, Nat.reduceMul, Nat.reduceBEq, Int.reduceEq, Int.reduceLT, Int.reduceLE, Int.reduceNeg, Int.reduceToNat, Int.reduceSub, Int.reduceAdd, reduceIte, uw.2.1, vw.2.1, r5n, r6n, decide_eq_true_eq, beq_self_eq_true]
  refine CP.goS (eqIntS_c (jitW xs ss) (jitW xs ss) (by omega)) rfl rfl (.cons (S8.snap 3 rfl) (.cons (S8.snap 9 rfl) (.nil _))) ?_
  simp (disch := omega) only [go_sem, Nat.reduceEqDiff, Nat.reduceAdd, Nat.reduceSub, Nat.reduceLeDiff, Nat.reduceLT, Nat.reduceMul, Nat.reduceBEq, Int.reduceEq, Int.reduceLT, Int.reduceLE, Int.reduceNeg, Int.reduceToNat, Int.reduceSub, Int.reduceAdd, reduceIte, uw.2.1, vw.2.1, r5n, r6n, decide_eq_true_eq, beq_self_eq_true]
  refine S8.goLst (toInstrS_f xs hx') (.same (refs_code1 _ _)) fun r9 h9 X9 S9 r9o r9n r9c => ?_
  simp (disch := omega) only [go_sem, Nat.reduceEqDiff, Nat.reduceAdd, Nat.reduceSub, Nat.reduceLeDiff, Nat.reduceLT, Nat.reduceMul, Nat.reduceBEq, Int.reduceEq, Int.reduceLT, Int.reduceLE, Int.reduceNeg, Int.reduceToNat, Int.reduceSub, Int.reduceAdd, reduceIte, uw.2.1, vw.2.1, r5n, r6n, r9n]
  refine CP.goS (eqInstrS_c xs hx) rfl rfl (.cons (S9.snap 6 rfl) (.cons (S9.snap 0 rfl) (.nil _))) ?_
  simp (disch := omega) only [go_sem, Nat.reduceEqDiff, Nat.reduceAdd, Nat.reduceSub, Nat.reduceLeDiff, Nat.reduceLT, Nat.reduceMul, Nat.reduceBEq, Int.reduceEq, Int.reduceLT, Int.reduceLE, Int.reduceNeg, Int.reduceToNat, Int.reduceSub, Int.reduceAdd, reduceIte, uw.2.1, vw.2.1, r5n, r6n, r9n]
  refine (S9.drop 0).goLst (toShotS_f ss hs') (.same (refs_shots1 _ _)) fun r10 h10 X10 S10 r10o r10n r10c => ?_
  simp (disch := omega) only [go_sem, Nat.reduceEqDiff, Nat.reduceAdd, Nat.reduceSub, Nat.reduceLeDiff, Nat.reduceLT, Nat.reduceMul, Nat.reduceBEq, Int.reduceEq, Int.reduceLT, Int.reduceLE, Int.reduceNeg, Int.reduceToNat, Int.reduceSub, Int.reduceAdd, reduceIte, uw.2.1, vw.2.1, r5n, r6n, r10n]
  refine CP.goS (eqShotS_c ss hs) rfl rfl (.cons (S10.snap 5 rfl) (.cons (S10.snap 0 rfl) (.nil _))) ?_
  simp (disch := omega) only [go_sem, Nat.reduceEqDiff, Nat.reduceAdd, Nat.reduceSub, Nat.reduceLeDiff, Nat.reduceLT, Nat.reduceMul, Nat.reduceBEq, Int.reduceEq, Int.reduceLT, Int.reduceLE, Int.reduceNeg, Int.reduceToNat, Int.reduceSub, Int.reduceAdd, reduceIte, uw.2.1, vw.2.1, r5n, r6n, r10n]
  refine ((S10.drop 0).pull 5).markD (fun ids o => markInstrS_c _ xs r5 ids 1 o hx' (by omega)) fun h11 S11 => ?_
  simp (disch := omega) only [go_sem, Nat.reduceEqDiff, Nat.reduceAdd, Nat.reduceSub, Nat.reduceLeDiff, Nat.reduceLT, Nat.reduceMul, Nat.reduceBEq, Int.reduceEq, Int.reduceLT, Int.reduceLE, Int.reduceNeg, Int.reduceToNat, Int.reduceSub, Int.reduceAdd, reduceIte, uw.2.1, vw.2.1, r6n]
  refine (S11.pull 4).markD (fun ids o => markShotS_c _ ss r6 ids _ o hs' (by omega)) fun h12 S12 => ?_
  have G12 := S12.blk 0 rfl
  have W12 := S12.blk 4 rfl
  simp (disch := omega) only [go_sem, Nat.reduceEqDiff, Nat.reduceAdd, Nat.reduceSub, Nat.reduceLeDiff, Nat.reduceLT, Nat.reduceMul, Nat.reduceBEq, Int.reduceEq, Int.reduceLT, Int.reduceLE, Int.reduceNeg, Int.reduceToNat, Int.reduceSub, Int.reduceAdd, reduceIte, uw.2.1, vw.2.1, G12, W12, beq_self_eq_true]
  refine CP.goS (eqPair_c _ hq) rfl rfl (.cons (S12.pairSnap 1 2 rfl rfl) (.cons (S12.pairSnap 5 6 rfl rfl) (.nil _))) ?_
  simp (disch := omega) only [go_sem, Nat.reduceEqDiff, Nat.reduceAdd, Nat.reduceSub, Nat.reduceLeDiff, Nat.reduceLT, Nat.reduceMul, Nat.reduceBEq, Int.reduceEq, Int.reduceLT, Int.reduceLE, Int.reduceNeg, Int.reduceToNat, Int.reduceSub, Int.reduceAdd, reduceIte, uw.2.1, vw.2.1, G12, decide_eq_true_eq, beq_self_eq_true]
  refine CP.goS (eqIntS_c (jitW xs ss) (jitW xs ss) (by omega)) rfl rfl (.cons (S12.snap 3 rfl) (.cons (S12.snap 7 rfl) (.nil _))) ?_
  simp (disch := omega) only [go_sem, Nat.reduceEqDiff, Nat.reduceAdd, Nat.reduceSub, Nat.reduceLeDiff, Nat.reduceLT, Nat.reduceMul, Nat.reduceBEq, Int.reduceEq, Int.reduceLT, Int.reduceLE, Int.reduceNeg, Int.reduceToNat, Int.reduceSub, Int.reduceAdd, reduceIte, uw.2.1, vw.2.1, G12, decide_eq_true_eq, beq_self_eq_true]
  refine (S12.pick [1, 2, 0, 3, 4, 5, 6, 7] (by decide)).markP hq (by omega) fun h13 S13 => ?_
  simp (disch := omega) only [go_sem, Nat.reduceEqDiff, Nat.reduceAdd, Nat.reduceSub, Nat.reduceLeDiff, Nat.reduceLT, Nat.reduceMul, Nat.reduceBEq, Int.reduceEq, Int.reduceLT, Int.reduceLE, Int.reduceNeg, Int.reduceToNat, Int.reduceSub, Int.reduceAdd, reduceIte, uw.2.1, vw.2.1]
  refine (S13.pull 3).markI (fun ids o => markIntS_c _ (jitW xs ss) gw ids _ o hw (by omega)) fun h14 S14 => ?_
  have G14 := S14.blk 3 rfl
  simp (disch := omega) only [go_sem, Nat.reduceEqDiff, Nat.reduceAdd, Nat.reduceSub, Nat.reduceLeDiff, Nat.reduceLT, Nat.reduceMul, Nat.reduceBEq, Int.reduceEq, Int.reduceLT, Int.reduceLE, Int.reduceNeg, Int.reduceToNat, Int.reduceSub, Int.reduceAdd, reduceIte, uw.2.1, vw.2.1, G14]
  refine CP.goS (heldPair_c (jitM xs ss) 1 hq (by omega)) rfl rfl (.cons (S14.pairSnap (p := Av.markP (jitM xs ss) 1) 1 2 rfl rfl) (.cons (.int _ _) (.nil _))) ?_
  simp (disch := omega) only [go_sem, Nat.reduceEqDiff, Nat.reduceAdd, Nat.reduceSub, Nat.reduceLeDiff, Nat.reduceLT, Nat.reduceMul, Nat.reduceBEq, Int.reduceEq, Int.reduceLT, Int.reduceLE, Int.reduceNeg, Int.reduceToNat, Int.reduceSub, Int.reduceAdd, reduceIte, uw.2.1, vw.2.1, G14]
  refine CP.goS (heldIntS_c (jitW xs ss).length _ hw (by omega)) rfl rfl (.cons (S14.snap 0 rfl) (.cons (.int _ _) (.nil _))) ?_
  simp (disch := omega) only [go_sem, Nat.reduceEqDiff, Nat.reduceAdd, Nat.reduceSub, Nat.reduceLeDiff, Nat.reduceLT, Nat.reduceMul, Nat.reduceBEq, Int.reduceEq, Int.reduceLT, Int.reduceLE, Int.reduceNeg, Int.reduceToNat, Int.reduceSub, Int.reduceAdd, reduceIte, uw.2.1, vw.2.1, G14]
  refine S14.goLst (toInstrS_f xs hx') (.same (refs_code1 _ _)) fun r15 h15 X15 S15 r15o r15n r15c => ?_
  simp (disch := omega) only [go_sem, Nat.reduceEqDiff, Nat.reduceAdd, Nat.reduceSub, Nat.reduceLeDiff, Nat.reduceLT, Nat.reduceMul, Nat.reduceBEq, Int.reduceEq, Int.reduceLT, Int.reduceLE, Int.reduceNeg, Int.reduceToNat, Int.reduceSub, Int.reduceAdd, reduceIte, r15o, r15n, r15c, vw.2.1, uw.2.1]
  refine S15.goLst (toShotS_f ss hs') (.same (refs_shots1 _ _)) fun r16 h16 X16 S16 r16o r16n r16c => ?_
  simp (disch := omega) only [go_sem, Nat.reduceEqDiff, Nat.reduceAdd, Nat.reduceSub, Nat.reduceLeDiff, Nat.reduceLT, Nat.reduceMul, Nat.reduceBEq, Int.reduceEq, Int.reduceLT, Int.reduceLE, Int.reduceNeg, Int.reduceToNat, Int.reduceSub, Int.reduceAdd, reduceIte, r15n, r16o, r16n, r16c, vw.2.1, uw.2.1]
  refine S16.goJit (jit_c xs ss hx' hs') (.cons (S16.snap 1 rfl) (.cons (S16.snap 0 rfl) (.nil _))) fun ya yb yw h17 X17 S17 za zb zw => ?_
  have S18 := S17.newK [cellsP (jitM xs ss) ya yb]
  have Y18 := S18.blk 0 rfl
  have W18 := S18.blk 10 rfl
  have G18 := S18.blk 9 rfl
  simp (disch := omega) only [go_sem, Nat.reduceEqDiff, Nat.reduceAdd, Nat.reduceSub, Nat.reduceLeDiff, Nat.reduceLT, Nat.reduceMul, Nat.reduceBEq, Int.reduceEq, Int.reduceLT, Int.reduceLE, Int.reduceNeg, Int.reduceToNat, Int.reduceSub, Int.reduceAdd, reduceIte, za.1, za.2.1, za.2.2, zb.1, zb.2.1, zb.2.2, zw.1, zw.2.1, zw.2.2, vw.2.1, uw.2.1, Y18, W18, beq_self_eq_true]
  refine CP.goS (eqPair_c _ hq) rfl rfl (.cons (S18.pairSnap 1 2 rfl rfl) (.cons (S18.pairSnap 11 12 rfl rfl) (.nil _))) ?_
  simp (disch := omega) only [go_sem, Nat.reduceEqDiff, Nat.reduceAdd, Nat.reduceSub, Nat.reduceLeDiff, Nat.reduceLT, Nat.reduceMul, Nat.reduceBEq, Int.reduceEq, Int.reduceLT, Int.reduceLE, Int.reduceNeg, Int.reduceToNat, Int.reduceSub, Int.reduceAdd, reduceIte, zw.2.1, vw.2.1, uw.2.1, G18, decide_eq_true_eq, beq_self_eq_true]
  refine CP.goS (eqIntS_c (jitW xs ss) (jitW xs ss) (by omega)) rfl rfl (.cons (S18.snap 3 rfl) (.cons (S18.snap 13 rfl) (.nil _))) ?_
  simp (disch := omega) only [go_sem, Nat.reduceEqDiff, Nat.reduceAdd, Nat.reduceSub, Nat.reduceLeDiff, Nat.reduceLT, Nat.reduceMul, Nat.reduceBEq, Int.reduceEq, Int.reduceLT, Int.reduceLE, Int.reduceNeg, Int.reduceToNat, Int.reduceSub, Int.reduceAdd, reduceIte, uw.2.1, G18, decide_eq_true_eq, beq_self_eq_true]
  refine CP.goS (heldPair_c (jitM xs ss) 1 hq (by omega)) rfl rfl (.cons (S18.pairSnap (p := Av.markP (jitM xs ss) 1) 7 8 rfl rfl) (.cons (.int _ _) (.nil _))) ?_
  simp (disch := omega) only [go_sem, Nat.reduceEqDiff, Nat.reduceAdd, Nat.reduceSub, Nat.reduceLeDiff, Nat.reduceLT, Nat.reduceMul, Nat.reduceBEq, Int.reduceEq, Int.reduceLT, Int.reduceLE, Int.reduceNeg, Int.reduceToNat, Int.reduceSub, Int.reduceAdd, reduceIte, uw.2.1, G18, decide_eq_true_eq, beq_self_eq_true]
  refine CP.goS (heldIntS_c (jitW xs ss).length _ hw (by omega)) rfl rfl (.cons (S18.snap 6 rfl) (.cons (.int _ _) (.nil _))) ?_
  simp (disch := omega) only [go_sem, Nat.reduceEqDiff, Nat.reduceAdd, Nat.reduceSub, Nat.reduceLeDiff, Nat.reduceLT, Nat.reduceMul, Nat.reduceBEq, Int.reduceEq, Int.reduceLT, Int.reduceLE, Int.reduceNeg, Int.reduceToNat, Int.reduceSub, Int.reduceAdd, reduceIte, uw.2.1, G18, decide_eq_true_eq, beq_self_eq_true]
end Go.Av
