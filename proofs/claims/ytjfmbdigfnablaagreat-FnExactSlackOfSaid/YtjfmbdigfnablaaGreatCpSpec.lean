import Derived.Test.YtjfmbdigfnablaaGreatCpLeaf
namespace Go.Av
open Go.Proofs Go.RowKit
set_option linter.unusedVariables false
set_option linter.unusedSimpArgs false
set_option maxRecDepth 100000
def plain (s : Stmt) : Stmt :=
  if s.kind = 1 then ⟨s.kind, s.var, 0, s.e⟩ else if s.kind = 2 then ⟨s.kind, s.var, s.n, ⟨0, 0, 0⟩⟩
  else if s.kind = 3 then ⟨s.kind, 0, 0, s.e⟩ else if s.kind = 4 then ⟨s.kind, 0, 0, s.e⟩ else if s.kind = 5 then ⟨s.kind, 0, s.n, ⟨0, 0, 0⟩⟩ else ⟨s.kind, 0, 0, ⟨0, 0, 0⟩⟩
theorem plain_c (s : Stmt) : CP Tryz.prog 193 [.agg (encStmt s)] (.agg (encStmt (plain s))) [] := by
  obtain ⟨kind, var, n, ⟨op, ea, eb⟩⟩ := s
  refine CP.by rfl mixed (cfn_ok Tryz.func193 ok193) rfl ?_
  simp (disch := omega) only [s193, go_sem, encStmt, storeH, storeB, splice]
  repeat' (first | (refine condP_t (by assumption) ?_ <;> (try simp (disch := omega) only [go_sem, storeH, storeB, splice])) | (refine condP_f (by assumption) ?_ <;> (try simp (disch := omega) only [go_sem, storeH, storeB, splice])) | (refine condP_dec (fun h => ?_) (fun h => ?_) <;> (try simp (disch := omega) only [go_sem, storeH, storeB, splice])) | (refine condP_split (fun h => ?_) (fun h => ?_) <;> (try simp (disch := omega) only [go_sem, storeH, storeB, splice])))
  all_goals simp_all [plain, encStmt]
def fields (s : Stmt) : List Int := [s.kind, s.var, s.n, s.e.op, s.e.a, s.e.b]
def stmtOkS (s : Stmt) : Bool :=
  if !(fields s == fields (plain s)) then false
  else if s.kind = 1 then within s.var 0 7 && exprOk s.e else if s.kind = 2 then within s.var 0 7 && within s.n 0 3
  else if s.kind = 3 then exprOk s.e else if s.kind = 4 then exprOk s.e else if s.kind = 5 then within s.n 1 5 else decide (s.kind = 6)
set_option maxHeartbeats 4000000 in
theorem stmtOkS_eq (s : Stmt) : stmtOkS s = stmtOk s := by
  obtain ⟨kind, var, n, ⟨op, ea, eb⟩⟩ := s
  simp only [stmtOkS, stmtOk, plain, fields, hasVar, hasExpr, isVar, isSensor]
  rw [Bool.eq_iff_iff]
  cases exprOk ⟨op, ea, eb⟩ <;> (by_cases h1 : kind = 1; · subst h1; simp [within]; try omega) <;> (by_cases h2 : kind = 2; · subst h2; simp [within]; try omega) <;> (by_cases h3 : kind = 3; · subst h3; simp [within]; try omega) <;> (by_cases h4 : kind = 4; · subst h4; simp [within]; try omega) <;> (by_cases h5 : kind = 5; · subst h5; simp [within]; try omega) <;> (by_cases h6 : kind = 6; · subst h6; simp [within]; try omega) <;> (have : within kind 1 6 = false := by simp [within]; omega) <;> simp [h1, h2, h3, h4, h5, h6, this]
set_option maxHeartbeats 4000000 in
theorem stmtOk_s (s : Stmt) : CP Tryz.prog 135 [.agg (encStmt s)] (.bool (stmtOk s)) [] := by
  rw [← stmtOkS_eq]
  obtain ⟨kind, var, n, ⟨op, ea, eb⟩⟩ := s
  refine CP.by rfl mixed (cfn_ok Tryz.func135 ok135) rfl ?_
  simp (disch := omega) only [s135, go_sem, encStmt]
  refine CP.go (plain_c ⟨kind, var, n, ⟨op, ea, eb⟩⟩) rfl rfl ?_
  simp (disch := omega) only [go_sem]
  refine eqsP_true eqTy48 (fields ⟨kind, var, n, ⟨op, ea, eb⟩⟩) (fields (plain ⟨kind, var, n, ⟨op, ea, eb⟩⟩)) rfl rfl rfl rfl ?_
  simp (disch := omega) only [go_sem]
  repeat' (first | (refine CP.go (l01In_c _ _ _) rfl rfl ?_ <;> (try simp (disch := omega) only [go_sem])) | (refine CP.go (exprOk_s ⟨op, ea, eb⟩) rfl rfl ?_ <;> (try simp (disch := omega) only [go_sem])) | (refine condP_t (by assumption) ?_ <;> (try simp (disch := omega) only [go_sem])) | (refine condP_f (by assumption) ?_ <;> (try simp (disch := omega) only [go_sem])) | (refine condP_dec (fun h => ?_) (fun h => ?_) <;> (try simp (disch := omega) only [go_sem])) | (refine condP_split (fun h => ?_) (fun h => ?_) <;> (try simp (disch := omega) only [go_sem])))
  all_goals simp_all [stmtOkS]
end Go.Av
