import Derived.Test.YtjfmbdigfnablaaCpCut
namespace Go.Av
open Go.Proofs Go.RowKit
set_option linter.unusedVariables false
set_option linter.unusedSimpArgs false
set_option maxRecDepth 100000
set_option maxHeartbeats 4000000
theorem cutPoints_n (xs : List Stmt) (hx : xs.length ≤ 1048576) (hb : blockOk xs = false) : CP Try.prog 8 [.lst 6 (xs.map encStmt)] .nils [] := by
  refine CP.by rfl mixed (cfn_ok Try.func8 ok8) rfl ?_
  simp (disch := omega) only [s8, go_sem, Nat.reduceEqDiff, Nat.reduceAdd, Nat.reduceSub, Nat.reduceLeDiff, Nat.reduceLT, Nat.reduceMul, Nat.reduceBEq, Int.reduceEq, Int.reduceLT, Int.reduceLE, Int.reduceNeg, reduceIte]
  refine CP.go (blockOk_c xs (by omega)) rfl (refs_arg _ _) ?_
  simp (disch := omega) only [go_sem, Nat.reduceEqDiff, Nat.reduceAdd, Nat.reduceSub, Nat.reduceLeDiff, Nat.reduceLT, Nat.reduceMul, Nat.reduceBEq, Int.reduceEq, Int.reduceLT, Int.reduceLE, Int.reduceNeg, reduceIte, hb]
theorem cutPoints_s (xs : List Stmt) (hx : xs.length ≤ 1048576) : CP Try.prog 6 [.lst 6 (xs.map encStmt)] (.own 0 1 0 (cutsM xs).length (cutsM xs).length) [(cutsM xs).map encI] := by
  refine C.cpOwn (flat_encI _) (C.by mixed (cfn_ok Try.func6 ok6) rfl ?_)
  simp (disch := omega) only [s6, go_sem, Nat.reduceEqDiff, Nat.reduceAdd, Nat.reduceSub, Nat.reduceLeDiff, Nat.reduceLT, Nat.reduceMul, Nat.reduceBEq, Int.reduceEq, Int.reduceLT, Int.reduceLE, Int.reduceNeg, reduceIte]
  cases hb : blockOk xs
  · have hcm : cutsM xs = [] := by unfold cutsM; rw [hb]; rfl
    rw [hcm]
    refine loopP_intro (fun m s => m = 0 ∧ s.e 0 = .lst 6 (xs.map encStmt) ∧ s.e 4 = .int .i64 1 ∧ s.e 3 = .own 0 1 0 0 0 ∧ s.h[0]? = some []) 0 ⟨rfl, rfl, rfl, rfl, rfl⟩ ?_
    rintro m e hp ⟨rfl, e0, e4, e3, hid⟩
    simp only at e0 e4 e3 hid
    simp (disch := omega) only [go_sem, Nat.reduceEqDiff, Nat.reduceAdd, Nat.reduceSub, Nat.reduceLeDiff, Nat.reduceLT, Nat.reduceMul, Nat.reduceBEq, Int.reduceEq, Int.reduceLT, Int.reduceLE, Int.reduceNeg, reduceIte, e0, e4, e3, encStmt]
    refine condP_dec (fun hlt => ?_) (fun hlt => ?_)
    · simp (disch := omega) only [go_sem, Nat.reduceEqDiff, Nat.reduceAdd, Nat.reduceSub, Nat.reduceLeDiff, Nat.reduceLT, Nat.reduceMul, Nat.reduceBEq, Int.reduceEq, Int.reduceLT, Int.reduceLE, Int.reduceNeg, reduceIte, e0, e4, e3, encStmt]
      refine CP.go (blockOk_s xs (by omega)) rfl (refs_arg _ _) ?_
      simp (disch := omega) only [go_sem, Nat.reduceEqDiff, Nat.reduceAdd, Nat.reduceSub, Nat.reduceLeDiff, Nat.reduceLT, Nat.reduceMul, Nat.reduceBEq, Int.reduceEq, Int.reduceLT, Int.reduceLE, Int.reduceNeg, reduceIte, hb, e0, e4, e3, encStmt]
      exact ⟨0, rfl, hid⟩
    · simp (disch := omega) only [go_sem, Nat.reduceEqDiff, Nat.reduceAdd, Nat.reduceSub, Nat.reduceLeDiff, Nat.reduceLT, Nat.reduceMul, Nat.reduceBEq, Int.reduceEq, Int.reduceLT, Int.reduceLE, Int.reduceNeg, reduceIte, e0, e4, e3, encStmt]
      exact ⟨0, rfl, hid⟩
  · have hcm : cutsM xs = cutM xs (xs.length - 1) 1 := by unfold cutsM; rw [if_pos hb]
    refine loopP_intro (cutInv xs 3 4) (xs.length - 1) ⟨1, 0, [], by omega, by omega, rfl, by simp, rfl, rfl, rfl, rfl, rfl⟩ ?_
    rintro m e hp ⟨k, id, cs, hk1, hk2, rfl, hcl, e0, e4, e3, hid, hcs⟩
    simp only at e0 e4 e3 hid
    simp (disch := omega) only [go_sem, Nat.reduceEqDiff, Nat.reduceAdd, Nat.reduceSub, Nat.reduceLeDiff, Nat.reduceLT, Nat.reduceMul, Nat.reduceBEq, Int.reduceEq, Int.reduceLT, Int.reduceLE, Int.reduceNeg, reduceIte, e0, e4, e3, encStmt]
    have fin : ¬ (k < xs.length) → ∃ id', V.own id 1 0 cs.length cs.length = .own id' 1 0 (cutsM xs).length (cutsM xs).length ∧ hp[id']? = some ((cutsM xs).map encI) := fun hlt => by
      have : xs.length - k = 0 := by omega
      rw [this] at hcs
      have hcs' : cs = cutM xs (xs.length - 1) 1 := by rw [← hcs]; simp [cutM]
      rw [hcm, ← hcs']
      exact ⟨id, rfl, hid⟩
    refine condP_dec (fun hlt => ?_) (fun hlt => ?_)
    · have hlt' : k < xs.length := by omega
      rw [cut_step hlt'] at hcs
      simp (disch := omega) only [go_sem, Nat.reduceEqDiff, Nat.reduceAdd, Nat.reduceSub, Nat.reduceLeDiff, Nat.reduceLT, Nat.reduceMul, Nat.reduceBEq, Int.reduceEq, Int.reduceLT, Int.reduceLE, Int.reduceNeg, reduceIte, e0, e4, e3, encStmt]
      refine CP.go (blockOk_s xs (by omega)) rfl (refs_arg _ _) ?_
      simp (disch := omega) only [go_sem, Nat.reduceEqDiff, Nat.reduceAdd, Nat.reduceSub, Nat.reduceLeDiff, Nat.reduceLT, Nat.reduceMul, Nat.reduceBEq, Int.reduceEq, Int.reduceLT, Int.reduceLE, Int.reduceNeg, reduceIte, hb, e0, e4, e3, encStmt]
      repeat' (first | (refine CP.go (depthOf_s xs k (by omega)) rfl (refs_args _ _ _) ?_ <;> simp (disch := omega) only [go_sem, Nat.reduceEqDiff, Nat.reduceAdd, Nat.reduceSub, Nat.reduceLeDiff, Nat.reduceLT, Nat.reduceMul, Nat.reduceBEq, Int.reduceEq, Int.reduceLT, Int.reduceLE, Int.reduceNeg, reduceIte, e0, e4, e3, encStmt]) | (refine condP_t (by assumption) ?_ <;> (try simp (disch := omega) only [go_sem, Nat.reduceEqDiff, Nat.reduceAdd, Nat.reduceSub, Nat.reduceLeDiff, Nat.reduceLT, Nat.reduceMul, Nat.reduceBEq, Int.reduceEq, Int.reduceLT, Int.reduceLE, Int.reduceNeg, reduceIte, e0, e4, e3, encStmt])) | (refine condP_f (by assumption) ?_ <;> (try simp (disch := omega) only [go_sem, Nat.reduceEqDiff, Nat.reduceAdd, Nat.reduceSub, Nat.reduceLeDiff, Nat.reduceLT, Nat.reduceMul, Nat.reduceBEq, Int.reduceEq, Int.reduceLT, Int.reduceLE, Int.reduceNeg, reduceIte, e0, e4, e3, encStmt])) | (refine condP_dec (fun h => ?_) (fun h => ?_) <;> (try simp (disch := omega) only [go_sem, Nat.reduceEqDiff, Nat.reduceAdd, Nat.reduceSub, Nat.reduceLeDiff, Nat.reduceLT, Nat.reduceMul, Nat.reduceBEq, Int.reduceEq, Int.reduceLT, Int.reduceLE, Int.reduceNeg, reduceIte, e0, e4, e3, encStmt])) | (refine condP_split (fun h => ?_) (fun h => ?_) <;> (try simp (disch := omega) only [go_sem, Nat.reduceEqDiff, Nat.reduceAdd, Nat.reduceSub, Nat.reduceLeDiff, Nat.reduceLT, Nat.reduceMul, Nat.reduceBEq, Int.reduceEq, Int.reduceLT, Int.reduceLE, Int.reduceNeg, reduceIte, e0, e4, e3, encStmt])))
      all_goals first
        | (rw [append1 hid (List.length_map ..) (by omega)]
           simp (disch := omega) only [go_sem, Nat.reduceEqDiff, Nat.reduceAdd, Nat.reduceSub, Nat.reduceLeDiff, Nat.reduceLT, Nat.reduceMul, Nat.reduceBEq, Int.reduceEq, Int.reduceLT, Int.reduceLE, Int.reduceNeg, reduceIte, e0, e4, e3, encStmt]
           refine nextP_intro (xs.length - (k + 1)) (by omega) ⟨k + 1, id, cs ++ [(k : Int)], by omega, by omega, rfl, by simp; omega, ?_, ?_, ?_, ?_, ?_⟩
           · simp (disch := omega) only [go_sem, Nat.reduceEqDiff, Nat.reduceAdd, Nat.reduceSub, Nat.reduceLeDiff, Nat.reduceLT, Nat.reduceMul, Nat.reduceBEq, Int.reduceEq, Int.reduceLT, Int.reduceLE, Int.reduceNeg, reduceIte, e0, e4, e3, encStmt]
           · simp (disch := omega) only [go_sem, Nat.reduceEqDiff, Nat.reduceAdd, Nat.reduceSub, Nat.reduceLeDiff, Nat.reduceLT, Nat.reduceMul, Nat.reduceBEq, Int.reduceEq, Int.reduceLT, Int.reduceLE, Int.reduceNeg, reduceIte, e0, e4, e3, encStmt]; rfl
           · simp (disch := omega) only [go_sem, Nat.reduceEqDiff, Nat.reduceAdd, Nat.reduceSub, Nat.reduceLeDiff, Nat.reduceLT, Nat.reduceMul, Nat.reduceBEq, Int.reduceEq, Int.reduceLT, Int.reduceLE, Int.reduceNeg, reduceIte, e0, e4, e3, encStmt]; simp
           · simp only [List.map_append]; exact heap_set _ (heap_app hid)
           · rw [← hcs, if_pos ⟨by assumption, by assumption⟩]; simp)
        | (refine nextP_intro (xs.length - (k + 1)) (by omega) ⟨k + 1, id, cs, by omega, by omega, rfl, by omega, ?_, ?_, ?_, ?_, ?_⟩
           · simp (disch := omega) only [go_sem, Nat.reduceEqDiff, Nat.reduceAdd, Nat.reduceSub, Nat.reduceLeDiff, Nat.reduceLT, Nat.reduceMul, Nat.reduceBEq, Int.reduceEq, Int.reduceLT, Int.reduceLE, Int.reduceNeg, reduceIte, e0, e4, e3, encStmt]
           · simp (disch := omega) only [go_sem, Nat.reduceEqDiff, Nat.reduceAdd, Nat.reduceSub, Nat.reduceLeDiff, Nat.reduceLT, Nat.reduceMul, Nat.reduceBEq, Int.reduceEq, Int.reduceLT, Int.reduceLE, Int.reduceNeg, reduceIte, e0, e4, e3, encStmt]; rfl
           · simp (disch := omega) only [go_sem, Nat.reduceEqDiff, Nat.reduceAdd, Nat.reduceSub, Nat.reduceLeDiff, Nat.reduceLT, Nat.reduceMul, Nat.reduceBEq, Int.reduceEq, Int.reduceLT, Int.reduceLE, Int.reduceNeg, reduceIte, e0, e4, e3, encStmt]
           · exact hid
           · rw [← hcs, if_neg (by simp_all)]; simp)
    · simp (disch := omega) only [go_sem, Nat.reduceEqDiff, Nat.reduceAdd, Nat.reduceSub, Nat.reduceLeDiff, Nat.reduceLT, Nat.reduceMul, Nat.reduceBEq, Int.reduceEq, Int.reduceLT, Int.reduceLE, Int.reduceNeg, reduceIte, e0, e4, e3, encStmt]
      exact fin (by omega)
theorem toExpr_c (e : Expr) : CP Try.prog 40 [.agg (encExpr e)] (.agg (encExpr e)) [] := by
  obtain ⟨op, a, b⟩ := e
  refine CP.by rfl mixed (cfn_ok Try.func40 ok40) rfl ?_
  simp (disch := omega) only [s40, go_sem, Nat.reduceEqDiff, Nat.reduceAdd, Nat.reduceSub, Nat.reduceLeDiff, Nat.reduceLT, Nat.reduceMul, Nat.reduceBEq, Int.reduceEq, Int.reduceLT, Int.reduceLE, Int.reduceNeg, reduceIte, encExpr, storeH, storeB, splice]
theorem toStmt_c (s : Stmt) : CP Try.prog 21 [.agg (encStmt s)] (.agg (encStmt s)) [] := by
  obtain ⟨kind, var, n, ⟨op, a, b⟩⟩ := s
  refine CP.by rfl mixed (cfn_ok Try.func21 ok21) rfl ?_
  simp (disch := omega) only [s21, go_sem, Nat.reduceEqDiff, Nat.reduceAdd, Nat.reduceSub, Nat.reduceLeDiff, Nat.reduceLT, Nat.reduceMul, Nat.reduceBEq, Int.reduceEq, Int.reduceLT, Int.reduceLE, Int.reduceNeg, reduceIte, encStmt, encExpr, storeH, storeB, splice]
  refine CP.go (toExpr_c ⟨op, a, b⟩) rfl rfl ?_
  simp (disch := omega) only [go_sem, Nat.reduceEqDiff, Nat.reduceAdd, Nat.reduceSub, Nat.reduceLeDiff, Nat.reduceLT, Nat.reduceMul, Nat.reduceBEq, Int.reduceEq, Int.reduceLT, Int.reduceLE, Int.reduceNeg, reduceIte, encStmt, encExpr, storeH, storeB, splice]
def eqExprB (x y : Expr) : Bool := decide (x.op = y.op) && decide (x.a = y.a) && decide (x.b = y.b)
def eqStmtB (x y : Stmt) : Bool := decide (x.kind = y.kind) && decide (x.var = y.var) && decide (x.n = y.n) && eqExprB x.e y.e
theorem eqExpr_c (x y : Expr) : CP Try.prog 43 [.agg (encExpr x), .agg (encExpr y)] (.bool (eqExprB x y)) [] := by
  obtain ⟨op, a, b⟩ := x
  obtain ⟨op', a', b'⟩ := y
  refine CP.by rfl mixed (cfn_ok Try.func43 ok43) rfl ?_
  simp (disch := omega) only [s43, go_sem, Nat.reduceEqDiff, Nat.reduceAdd, Nat.reduceSub, Nat.reduceLeDiff, Nat.reduceLT, Nat.reduceMul, Nat.reduceBEq, Int.reduceEq, Int.reduceLT, Int.reduceLE, Int.reduceNeg, reduceIte, encStmt, encExpr, storeH, storeB, splice]
  repeat' (first | (refine condP_t (by assumption) ?_ <;> (try simp (disch := omega) only [go_sem, Nat.reduceEqDiff, Nat.reduceAdd, Nat.reduceSub, Nat.reduceLeDiff, Nat.reduceLT, Nat.reduceMul, Nat.reduceBEq, Int.reduceEq, Int.reduceLT, Int.reduceLE, Int.reduceNeg, reduceIte, encStmt, encExpr, storeH, storeB, splice])) | (refine condP_f (by assumption) ?_ <;> (try simp (disch := omega) only [go_sem, Nat.reduceEqDiff, Nat.reduceAdd, Nat.reduceSub, Nat.reduceLeDiff, Nat.reduceLT, Nat.reduceMul, Nat.reduceBEq, Int.reduceEq, Int.reduceLT, Int.reduceLE, Int.reduceNeg, reduceIte, encStmt, encExpr, storeH, storeB, splice])) | (refine condP_dec (fun h => ?_) (fun h => ?_) <;> (try simp (disch := omega) only [go_sem, Nat.reduceEqDiff, Nat.reduceAdd, Nat.reduceSub, Nat.reduceLeDiff, Nat.reduceLT, Nat.reduceMul, Nat.reduceBEq, Int.reduceEq, Int.reduceLT, Int.reduceLE, Int.reduceNeg, reduceIte, encStmt, encExpr, storeH, storeB, splice])) | (refine condP_split (fun h => ?_) (fun h => ?_) <;> (try simp (disch := omega) only [go_sem, Nat.reduceEqDiff, Nat.reduceAdd, Nat.reduceSub, Nat.reduceLeDiff, Nat.reduceLT, Nat.reduceMul, Nat.reduceBEq, Int.reduceEq, Int.reduceLT, Int.reduceLE, Int.reduceNeg, reduceIte, encStmt, encExpr, storeH, storeB, splice])))
  all_goals simp_all [eqExprB]
theorem eqStmt_c (x y : Stmt) : CP Try.prog 24 [.agg (encStmt x), .agg (encStmt y)] (.bool (eqStmtB x y)) [] := by
  obtain ⟨kind, var, n, ⟨op, a, b⟩⟩ := x
  obtain ⟨kind', var', n', ⟨op', a', b'⟩⟩ := y
  refine CP.by rfl mixed (cfn_ok Try.func24 ok24) rfl ?_
  simp (disch := omega) only [s24, go_sem, Nat.reduceEqDiff, Nat.reduceAdd, Nat.reduceSub, Nat.reduceLeDiff, Nat.reduceLT, Nat.reduceMul, Nat.reduceBEq, Int.reduceEq, Int.reduceLT, Int.reduceLE, Int.reduceNeg, reduceIte, encStmt, encExpr, storeH, storeB, splice]
  repeat' (first | (refine CP.go (eqExpr_c ⟨op, a, b⟩ ⟨op', a', b'⟩) rfl rfl ?_ <;> (try simp (disch := omega) only [go_sem, Nat.reduceEqDiff, Nat.reduceAdd, Nat.reduceSub, Nat.reduceLeDiff, Nat.reduceLT, Nat.reduceMul, Nat.reduceBEq, Int.reduceEq, Int.reduceLT, Int.reduceLE, Int.reduceNeg, reduceIte, encStmt, encExpr, storeH, storeB, splice])) | (refine condP_t (by assumption) ?_ <;> (try simp (disch := omega) only [go_sem, Nat.reduceEqDiff, Nat.reduceAdd, Nat.reduceSub, Nat.reduceLeDiff, Nat.reduceLT, Nat.reduceMul, Nat.reduceBEq, Int.reduceEq, Int.reduceLT, Int.reduceLE, Int.reduceNeg, reduceIte, encStmt, encExpr, storeH, storeB, splice])) | (refine condP_f (by assumption) ?_ <;> (try simp (disch := omega) only [go_sem, Nat.reduceEqDiff, Nat.reduceAdd, Nat.reduceSub, Nat.reduceLeDiff, Nat.reduceLT, Nat.reduceMul, Nat.reduceBEq, Int.reduceEq, Int.reduceLT, Int.reduceLE, Int.reduceNeg, reduceIte, encStmt, encExpr, storeH, storeB, splice])) | (refine condP_dec (fun h => ?_) (fun h => ?_) <;> (try simp (disch := omega) only [go_sem, Nat.reduceEqDiff, Nat.reduceAdd, Nat.reduceSub, Nat.reduceLeDiff, Nat.reduceLT, Nat.reduceMul, Nat.reduceBEq, Int.reduceEq, Int.reduceLT, Int.reduceLE, Int.reduceNeg, reduceIte, encStmt, encExpr, storeH, storeB, splice])) | (refine condP_split (fun h => ?_) (fun h => ?_) <;> (try simp (disch := omega) only [go_sem, Nat.reduceEqDiff, Nat.reduceAdd, Nat.reduceSub, Nat.reduceLeDiff, Nat.reduceLT, Nat.reduceMul, Nat.reduceBEq, Int.reduceEq, Int.reduceLT, Int.reduceLE, Int.reduceNeg, reduceIte, encStmt, encExpr, storeH, storeB, splice])))
  all_goals simp_all [eqStmtB]
end Go.Av
