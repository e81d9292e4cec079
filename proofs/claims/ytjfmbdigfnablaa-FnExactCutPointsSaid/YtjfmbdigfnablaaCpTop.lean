import Derived.Test.YtjfmbdigfnablaaCpLaw
namespace Go.Av
open Go.Proofs Go.RowKit
set_option linter.unusedVariables false
set_option linter.unusedSimpArgs false
set_option maxRecDepth 100000
set_option maxHeartbeats 4000000
theorem flat_encStmt (xs : List Stmt) : flat (xs.map encStmt) = true := by simp [flat, encStmt, V.scalar]
theorem szStmtS_ok (xs : List Stmt) (hx : xs.length ≤ 1048576) : CP Try.prog 5 [.lst 6 (xs.map encStmt), .int .i64 1048576] (.int .i64 (1048576 - xs.length)) [] := by
  have := szStmtS_c xs (by omega)
  rwa [if_neg (by omega)] at this
theorem szStmtS_big (xs : List Stmt) (hx : xs.length ≤ 9223372036854775807) (hb : 1048576 < xs.length) : CP Try.prog 5 [.lst 6 (xs.map encStmt), .int .i64 1048576] (.int .i64 (-1)) [] := by
  have := szStmtS_c xs hx
  rwa [if_pos (by omega)] at this
theorem law_c (xs : List Stmt) (hx : xs.length ≤ 9223372036854775807) : CP Try.prog 3 [.lst 6 (xs.map encStmt)] (.bool true) [] := by
  refine CP.by rfl mixed (cfn_ok Try.func3 ok3) rfl ?_
  simp (disch := omega) only [s3, go_sem, Nat.reduceEqDiff, Nat.reduceAdd, Nat.reduceSub, Nat.reduceLeDiff, Nat.reduceLT, Nat.reduceMul, Nat.reduceBEq, Int.reduceEq, Int.reduceLT, Int.reduceLE, Int.reduceNeg, reduceIte, dec_true, dec_false, decide_eq_true_eq, Bool.not_true, Bool.not_false]
  rcases Nat.lt_or_ge 1048576 xs.length with hbig | hx'
  · refine CP.go (szStmtS_big xs hx hbig) rfl (refs_args _ _ _) ?_
    simp (disch := omega) only [go_sem, Nat.reduceEqDiff, Nat.reduceAdd, Nat.reduceSub, Nat.reduceLeDiff, Nat.reduceLT, Nat.reduceMul, Nat.reduceBEq, Int.reduceEq, Int.reduceLT, Int.reduceLE, Int.reduceNeg, reduceIte, dec_true, dec_false, decide_eq_true_eq, Bool.not_true, Bool.not_false]
  · refine CP.go (szStmtS_ok xs hx') rfl (refs_args _ _ _) ?_
    simp (disch := omega) only [go_sem, Nat.reduceEqDiff, Nat.reduceAdd, Nat.reduceSub, Nat.reduceLeDiff, Nat.reduceLT, Nat.reduceMul, Nat.reduceBEq, Int.reduceEq, Int.reduceLT, Int.reduceLE, Int.reduceNeg, reduceIte, dec_true, dec_false, decide_eq_true_eq, Bool.not_true, Bool.not_false]
    have hfs := flat_encStmt xs
    have hsl : (xs.map encStmt).length = xs.length := by simp
    have hcl : (cutsM xs).length ≤ 1048576 := by
      unfold cutsM; split
      · have := cutM_len xs (xs.length - 1) 1; omega
      · simp
    have hcs : ((cutsM xs).map encI).length = (cutsM xs).length := by simp
    have hfc := flat_encI (cutsM xs)
    have hml : ((marked (cutsM xs).length).map encI).length = (cutsM xs).length := by simp [marked]
    refine CP.goOwn (toStmtS_c xs hx') hfs (refs_arg _ _) ?_
    simp (disch := omega) only [go_sem, Nat.reduceEqDiff, Nat.reduceAdd, Nat.reduceSub, Nat.reduceLeDiff, Nat.reduceLT, Nat.reduceMul, Nat.reduceBEq, Int.reduceEq, Int.reduceLT, Int.reduceLE, Int.reduceNeg, reduceIte, dec_true, dec_false, decide_eq_true_eq, Bool.not_true, Bool.not_false]
    refine CP.goOwnS (cutPoints_s xs hx') hfc (.cons (Snap.flatN rfl hsl hfs) (.nil _)) ?_
    simp (disch := omega) only [go_sem, Nat.reduceEqDiff, Nat.reduceAdd, Nat.reduceSub, Nat.reduceLeDiff, Nat.reduceLT, Nat.reduceMul, Nat.reduceBEq, Int.reduceEq, Int.reduceLT, Int.reduceLE, Int.reduceNeg, reduceIte, dec_true, dec_false, decide_eq_true_eq, Bool.not_true, Bool.not_false]
    refine CP.goOwn (toStmtS_c xs hx') hfs (refs_arg _ _) ?_
    simp (disch := omega) only [go_sem, Nat.reduceEqDiff, Nat.reduceAdd, Nat.reduceSub, Nat.reduceLeDiff, Nat.reduceLT, Nat.reduceMul, Nat.reduceBEq, Int.reduceEq, Int.reduceLT, Int.reduceLE, Int.reduceNeg, reduceIte, dec_true, dec_false, decide_eq_true_eq, Bool.not_true, Bool.not_false]
    cases hb : blockOk xs
    · have hc0 : cutsM xs = [] := by unfold cutsM; rw [hb]; rfl
      have hd : decide (([] : List Int) = cutsM xs) = true := by rw [hc0]; rfl
      have hm0 : (marked 0).map encI = [] := rfl
      refine CP.goS (cutPoints_n xs hx' hb) rfl rfl (.cons (Snap.flatN rfl hsl hfs) (.nil _)) ?_
      simp (disch := omega) only [go_sem, Nat.reduceEqDiff, Nat.reduceAdd, Nat.reduceSub, Nat.reduceLeDiff, Nat.reduceLT, Nat.reduceMul, Nat.reduceBEq, Int.reduceEq, Int.reduceLT, Int.reduceLE, Int.reduceNeg, reduceIte, dec_true, dec_false, decide_eq_true_eq, Bool.not_true, Bool.not_false]
      refine CP.goS (eqIntS_c [] (cutsM xs) (by simp)) rfl rfl (.cons (.nils 1) (.cons (Snap.flatN rfl hcs hfc) (.nil _))) ?_
      simp (disch := omega) only [go_sem, Nat.reduceEqDiff, Nat.reduceAdd, Nat.reduceSub, Nat.reduceLeDiff, Nat.reduceLT, Nat.reduceMul, Nat.reduceBEq, Int.reduceEq, Int.reduceLT, Int.reduceLE, Int.reduceNeg, reduceIte, hd, dec_true, dec_false, decide_eq_true_eq, Bool.not_true, Bool.not_false]
      refine CP.goOwn (toStmtS_c xs hx') hfs (refs_arg _ _) ?_
      simp (disch := omega) only [go_sem, Nat.reduceEqDiff, Nat.reduceAdd, Nat.reduceSub, Nat.reduceLeDiff, Nat.reduceLT, Nat.reduceMul, Nat.reduceBEq, Int.reduceEq, Int.reduceLT, Int.reduceLE, Int.reduceNeg, reduceIte, dec_true, dec_false, decide_eq_true_eq, Bool.not_true, Bool.not_false]
      refine CP.goS (eqStmtS_c xs hx') rfl rfl (.cons (Snap.flatN rfl hsl hfs) (.cons (Snap.flatN rfl hsl hfs) (.nil _))) ?_
      simp (disch := omega) only [go_sem, Nat.reduceEqDiff, Nat.reduceAdd, Nat.reduceSub, Nat.reduceLeDiff, Nat.reduceLT, Nat.reduceMul, Nat.reduceBEq, Int.reduceEq, Int.reduceLT, Int.reduceLE, Int.reduceNeg, reduceIte, dec_true, dec_false, decide_eq_true_eq, Bool.not_true, Bool.not_false]
      refine C.go (markStmtS_c _ _ _ _ rfl hsl (fun e he => by obtain ⟨s, _, rfl⟩ := List.mem_map.1 he; rfl) hx') ?_
      rintro r h' ⟨rfl, b', rfl⟩
      simp (disch := omega) only [go_sem, Nat.reduceEqDiff, Nat.reduceAdd, Nat.reduceSub, Nat.reduceLeDiff, Nat.reduceLT, Nat.reduceMul, Nat.reduceBEq, Int.reduceEq, Int.reduceLT, Int.reduceLE, Int.reduceNeg, reduceIte, dec_true, dec_false, decide_eq_true_eq, Bool.not_true, Bool.not_false]
      refine CP.goS (eqIntS_c [] (cutsM xs) (by simp)) rfl rfl (.cons (.nils 1) (.cons (Snap.flatN rfl hcs hfc) (.nil _))) ?_
      simp (disch := omega) only [go_sem, Nat.reduceEqDiff, Nat.reduceAdd, Nat.reduceSub, Nat.reduceLeDiff, Nat.reduceLT, Nat.reduceMul, Nat.reduceBEq, Int.reduceEq, Int.reduceLT, Int.reduceLE, Int.reduceNeg, reduceIte, hd, dec_true, dec_false, decide_eq_true_eq, Bool.not_true, Bool.not_false]
      refine C.go (markIntS_n _) ?_
      rintro r h' ⟨rfl, rfl⟩
      simp (disch := omega) only [go_sem, Nat.reduceEqDiff, Nat.reduceAdd, Nat.reduceSub, Nat.reduceLeDiff, Nat.reduceLT, Nat.reduceMul, Nat.reduceBEq, Int.reduceEq, Int.reduceLT, Int.reduceLE, Int.reduceNeg, reduceIte, dec_true, dec_false, decide_eq_true_eq, Bool.not_true, Bool.not_false]
      refine CP.goS (heldIntS_c 0 (by omega)) rfl rfl (.cons (.nils 1) (.cons (.int _ _) (.nil _))) ?_
      simp (disch := omega) only [go_sem, Nat.reduceEqDiff, Nat.reduceAdd, Nat.reduceSub, Nat.reduceLeDiff, Nat.reduceLT, Nat.reduceMul, Nat.reduceBEq, Int.reduceEq, Int.reduceLT, Int.reduceLE, Int.reduceNeg, reduceIte, dec_true, dec_false, decide_eq_true_eq, Bool.not_true, Bool.not_false]
      refine CP.goOwn (toStmtS_c xs hx') hfs (refs_arg _ _) ?_
      simp (disch := omega) only [go_sem, Nat.reduceEqDiff, Nat.reduceAdd, Nat.reduceSub, Nat.reduceLeDiff, Nat.reduceLT, Nat.reduceMul, Nat.reduceBEq, Int.reduceEq, Int.reduceLT, Int.reduceLE, Int.reduceNeg, reduceIte, dec_true, dec_false, decide_eq_true_eq, Bool.not_true, Bool.not_false]
      refine CP.goS (cutPoints_n xs hx' hb) rfl rfl (.cons (Snap.flatN rfl hsl hfs) (.nil _)) ?_
      simp (disch := omega) only [go_sem, Nat.reduceEqDiff, Nat.reduceAdd, Nat.reduceSub, Nat.reduceLeDiff, Nat.reduceLT, Nat.reduceMul, Nat.reduceBEq, Int.reduceEq, Int.reduceLT, Int.reduceLE, Int.reduceNeg, reduceIte, dec_true, dec_false, decide_eq_true_eq, Bool.not_true, Bool.not_false]
      refine CP.goS (eqIntS_c [] (cutsM xs) (by simp)) rfl rfl (.cons (.nils 1) (.cons (Snap.flatN rfl hcs hfc) (.nil _))) ?_
      simp (disch := omega) only [go_sem, Nat.reduceEqDiff, Nat.reduceAdd, Nat.reduceSub, Nat.reduceLeDiff, Nat.reduceLT, Nat.reduceMul, Nat.reduceBEq, Int.reduceEq, Int.reduceLT, Int.reduceLE, Int.reduceNeg, reduceIte, hd, dec_true, dec_false, decide_eq_true_eq, Bool.not_true, Bool.not_false]
      refine CP.goS (heldIntS_c 0 (by omega)) rfl rfl (.cons (.nils 1) (.cons (.int _ _) (.nil _))) ?_
      simp (disch := omega) only [go_sem, Nat.reduceEqDiff, Nat.reduceAdd, Nat.reduceSub, Nat.reduceLeDiff, Nat.reduceLT, Nat.reduceMul, Nat.reduceBEq, Int.reduceEq, Int.reduceLT, Int.reduceLE, Int.reduceNeg, reduceIte, dec_true, dec_false, decide_eq_true_eq, Bool.not_true, Bool.not_false]
    · refine CP.goOwnS (cutPoints_c xs hx' hb) hfc (.cons (Snap.flatN rfl hsl hfs) (.nil _)) ?_
      simp (disch := omega) only [go_sem, Nat.reduceEqDiff, Nat.reduceAdd, Nat.reduceSub, Nat.reduceLeDiff, Nat.reduceLT, Nat.reduceMul, Nat.reduceBEq, Int.reduceEq, Int.reduceLT, Int.reduceLE, Int.reduceNeg, reduceIte, dec_true, dec_false, decide_eq_true_eq, Bool.not_true, Bool.not_false]
      refine CP.goS (eqIntS_c (cutsM xs) (cutsM xs) hcl) rfl rfl (.cons (Snap.flatN rfl hcs hfc) (.cons (Snap.flatN rfl hcs hfc) (.nil _))) ?_
      simp (disch := omega) only [go_sem, Nat.reduceEqDiff, Nat.reduceAdd, Nat.reduceSub, Nat.reduceLeDiff, Nat.reduceLT, Nat.reduceMul, Nat.reduceBEq, Int.reduceEq, Int.reduceLT, Int.reduceLE, Int.reduceNeg, reduceIte, dec_true, dec_false, decide_eq_true_eq, Bool.not_true, Bool.not_false]
      refine CP.goOwn (toStmtS_c xs hx') hfs (refs_arg _ _) ?_
      simp (disch := omega) only [go_sem, Nat.reduceEqDiff, Nat.reduceAdd, Nat.reduceSub, Nat.reduceLeDiff, Nat.reduceLT, Nat.reduceMul, Nat.reduceBEq, Int.reduceEq, Int.reduceLT, Int.reduceLE, Int.reduceNeg, reduceIte, dec_true, dec_false, decide_eq_true_eq, Bool.not_true, Bool.not_false]
      refine CP.goS (eqStmtS_c xs hx') rfl rfl (.cons (Snap.flatN rfl hsl hfs) (.cons (Snap.flatN rfl hsl hfs) (.nil _))) ?_
      simp (disch := omega) only [go_sem, Nat.reduceEqDiff, Nat.reduceAdd, Nat.reduceSub, Nat.reduceLeDiff, Nat.reduceLT, Nat.reduceMul, Nat.reduceBEq, Int.reduceEq, Int.reduceLT, Int.reduceLE, Int.reduceNeg, reduceIte, dec_true, dec_false, decide_eq_true_eq, Bool.not_true, Bool.not_false]
      refine C.go (markStmtS_c _ _ _ _ rfl hsl (fun e he => by obtain ⟨s, _, rfl⟩ := List.mem_map.1 he; rfl) hx') ?_
      rintro r h' ⟨rfl, b', rfl⟩
      simp (disch := omega) only [go_sem, Nat.reduceEqDiff, Nat.reduceAdd, Nat.reduceSub, Nat.reduceLeDiff, Nat.reduceLT, Nat.reduceMul, Nat.reduceBEq, Int.reduceEq, Int.reduceLT, Int.reduceLE, Int.reduceNeg, reduceIte, dec_true, dec_false, decide_eq_true_eq, Bool.not_true, Bool.not_false]
      refine CP.goS (eqIntS_c (cutsM xs) (cutsM xs) hcl) rfl rfl (.cons (Snap.flatN rfl hcs hfc) (.cons (Snap.flatN rfl hcs hfc) (.nil _))) ?_
      simp (disch := omega) only [go_sem, Nat.reduceEqDiff, Nat.reduceAdd, Nat.reduceSub, Nat.reduceLeDiff, Nat.reduceLT, Nat.reduceMul, Nat.reduceBEq, Int.reduceEq, Int.reduceLT, Int.reduceLE, Int.reduceNeg, reduceIte, dec_true, dec_false, decide_eq_true_eq, Bool.not_true, Bool.not_false]
      refine C.go (markIntS_c _ _ _ _ rfl hcs (fun e he => by obtain ⟨s, _, rfl⟩ := List.mem_map.1 he; rfl) hcl) ?_
      rintro r h' ⟨rfl, rfl⟩
      simp (disch := omega) only [go_sem, Nat.reduceEqDiff, Nat.reduceAdd, Nat.reduceSub, Nat.reduceLeDiff, Nat.reduceLT, Nat.reduceMul, Nat.reduceBEq, Int.reduceEq, Int.reduceLT, Int.reduceLE, Int.reduceNeg, reduceIte, dec_true, dec_false, decide_eq_true_eq, Bool.not_true, Bool.not_false]
      refine CP.goS (heldIntS_c _ hcl) rfl rfl (.cons (Snap.flatN rfl hml (flat_encI _)) (.cons (.int _ _) (.nil _))) ?_
      simp (disch := omega) only [go_sem, Nat.reduceEqDiff, Nat.reduceAdd, Nat.reduceSub, Nat.reduceLeDiff, Nat.reduceLT, Nat.reduceMul, Nat.reduceBEq, Int.reduceEq, Int.reduceLT, Int.reduceLE, Int.reduceNeg, reduceIte, dec_true, dec_false, decide_eq_true_eq, Bool.not_true, Bool.not_false]
      refine CP.goOwn (toStmtS_c xs hx') hfs (refs_arg _ _) ?_
      simp (disch := omega) only [go_sem, Nat.reduceEqDiff, Nat.reduceAdd, Nat.reduceSub, Nat.reduceLeDiff, Nat.reduceLT, Nat.reduceMul, Nat.reduceBEq, Int.reduceEq, Int.reduceLT, Int.reduceLE, Int.reduceNeg, reduceIte, dec_true, dec_false, decide_eq_true_eq, Bool.not_true, Bool.not_false]
      refine CP.goOwnS (cutPoints_c xs hx' hb) hfc (.cons (Snap.flatN rfl hsl hfs) (.nil _)) ?_
      simp (disch := omega) only [go_sem, Nat.reduceEqDiff, Nat.reduceAdd, Nat.reduceSub, Nat.reduceLeDiff, Nat.reduceLT, Nat.reduceMul, Nat.reduceBEq, Int.reduceEq, Int.reduceLT, Int.reduceLE, Int.reduceNeg, reduceIte, dec_true, dec_false, decide_eq_true_eq, Bool.not_true, Bool.not_false]
      refine CP.goS (eqIntS_c (cutsM xs) (cutsM xs) hcl) rfl rfl (.cons (Snap.flatN rfl hcs hfc) (.cons (Snap.flatN rfl hcs hfc) (.nil _))) ?_
      simp (disch := omega) only [go_sem, Nat.reduceEqDiff, Nat.reduceAdd, Nat.reduceSub, Nat.reduceLeDiff, Nat.reduceLT, Nat.reduceMul, Nat.reduceBEq, Int.reduceEq, Int.reduceLT, Int.reduceLE, Int.reduceNeg, reduceIte, dec_true, dec_false, decide_eq_true_eq, Bool.not_true, Bool.not_false]
      refine CP.goS (heldIntS_c _ hcl) rfl rfl (.cons (Snap.flatN rfl hml (flat_encI _)) (.cons (.int _ _) (.nil _))) ?_
      simp (disch := omega) only [go_sem, Nat.reduceEqDiff, Nat.reduceAdd, Nat.reduceSub, Nat.reduceLeDiff, Nat.reduceLT, Nat.reduceMul, Nat.reduceBEq, Int.reduceEq, Int.reduceLT, Int.reduceLE, Int.reduceNeg, reduceIte, dec_true, dec_false, decide_eq_true_eq, Bool.not_true, Bool.not_false]
end Go.Av
