import Derived.Test.YtjfmbdigfnablaaGreatCpCode
namespace Go.Av
open Go.Proofs Go.RowKit
set_option linter.unusedVariables false
set_option linter.unusedSimpArgs false
set_option maxRecDepth 100000
theorem mixed : Tryz.prog.follows .mixedOrders = true := by kernel_rfl
structure Expr where
  op : Int
  a : Int
  b : Int
structure Stmt where
  kind : Int
  var : Int
  n : Int
  e : Expr
def encExpr (e : Expr) : List V := [.int .i64 e.op, .int .i64 e.a, .int .i64 e.b]
def encStmt (s : Stmt) : List V := [.int .i64 s.kind, .int .i64 s.var, .int .i64 s.n, .int .i64 s.e.op, .int .i64 s.e.a, .int .i64 s.e.b]
def within (a b c : Int) : Bool := decide (b ≤ a) && decide (a ≤ c)
def operandOk (a : Int) : Bool := within a (-8) 999
def exprOk (e : Expr) : Bool := within e.op 1 7 && operandOk e.a && operandOk e.b
def hasVar (k : Int) : Bool := decide (k = 1) || decide (k = 2)
def isVar (a : Int) : Bool := within a 0 7
def hasExpr (k : Int) : Bool := decide (k = 1) || decide (k = 3) || decide (k = 4)
def isSensor (a : Int) : Bool := within a 0 3
def isOpening (k : Int) : Bool := decide (k = 4) || decide (k = 5)
theorem within_c (a b c : Int) : CP Tryz.prog 114 [.int .i64 a, .int .i64 b, .int .i64 c] (.bool (within a b c)) [] := by
  refine CP.by rfl mixed (cfn_ok Tryz.func114 ok114) rfl ?_
  simp (disch := omega) only [s114, go_sem]
  refine condP_dec (fun h => ?_) (fun h => ?_) <;> simp (disch := omega) only [go_sem] <;> simp [within, h]
theorem l01In_c (a b c : Int) : CP Tryz.prog 99 [.int .i64 a, .int .i64 b, .int .i64 c] (.bool (within a b c)) [] := by
  refine CP.by rfl mixed (cfn_ok Tryz.func99 ok99) rfl ?_
  simp (disch := omega) only [s99, go_sem]
  refine condP_dec (fun h => ?_) (fun h => ?_) <;> simp (disch := omega) only [go_sem] <;> simp [within, h]
theorem operandOk_c (a : Int) : CP Tryz.prog 200 [.int .i64 a] (.bool (operandOk a)) [] := by
  refine CP.by rfl mixed (cfn_ok Tryz.func200 ok200) rfl ?_
  simp (disch := omega) only [s200, go_sem]
  refine CP.go (within_c _ _ _) rfl rfl ?_
  simp (disch := omega) only [go_sem]
  rfl
theorem operandOk_s (a : Int) : CP Tryz.prog 216 [.int .i64 a] (.bool (operandOk a)) [] := by
  refine CP.by rfl mixed (cfn_ok Tryz.func216 ok216) rfl ?_
  simp (disch := omega) only [s216, go_sem]
  refine CP.go (l01In_c _ _ _) rfl rfl ?_
  simp (disch := omega) only [go_sem]
  rfl
theorem exprOk_c (e : Expr) : CP Tryz.prog 160 [.agg (encExpr e)] (.bool (exprOk e)) [] := by
  refine CP.by rfl mixed (cfn_ok Tryz.func160 ok160) rfl ?_
  simp (disch := omega) only [s160, go_sem, encExpr]
  repeat' (first | (refine CP.go (within_c _ _ _) rfl rfl ?_ <;> (try simp (disch := omega) only [go_sem])) | (refine CP.go (operandOk_c _) rfl rfl ?_ <;> (try simp (disch := omega) only [go_sem])) | (refine condP_t (by assumption) ?_ <;> (try simp (disch := omega) only [go_sem])) | (refine condP_f (by assumption) ?_ <;> (try simp (disch := omega) only [go_sem])) | (refine condP_dec (fun h => ?_) (fun h => ?_) <;> (try simp (disch := omega) only [go_sem])) | (refine condP_split (fun h => ?_) (fun h => ?_) <;> (try simp (disch := omega) only [go_sem])))
  all_goals simp [exprOk, *]
theorem exprOk_s (e : Expr) : CP Tryz.prog 174 [.agg (encExpr e)] (.bool (exprOk e)) [] := by
  refine CP.by rfl mixed (cfn_ok Tryz.func174 ok174) rfl ?_
  simp (disch := omega) only [s174, go_sem, encExpr]
  repeat' (first | (refine CP.go (l01In_c _ _ _) rfl rfl ?_ <;> (try simp (disch := omega) only [go_sem])) | (refine CP.go (operandOk_s _) rfl rfl ?_ <;> (try simp (disch := omega) only [go_sem])) | (refine condP_t (by assumption) ?_ <;> (try simp (disch := omega) only [go_sem])) | (refine condP_f (by assumption) ?_ <;> (try simp (disch := omega) only [go_sem])) | (refine condP_dec (fun h => ?_) (fun h => ?_) <;> (try simp (disch := omega) only [go_sem])) | (refine condP_split (fun h => ?_) (fun h => ?_) <;> (try simp (disch := omega) only [go_sem])))
  all_goals simp [exprOk, *]
theorem hasVar_c (k : Int) : CP Tryz.prog 190 [.int .i64 k] (.bool (hasVar k)) [] := by
  refine CP.by rfl mixed (cfn_ok Tryz.func190 ok190) rfl ?_
  simp (disch := omega) only [s190, go_sem]
  repeat' (first | (refine condP_t (by assumption) ?_ <;> (try simp (disch := omega) only [go_sem])) | (refine condP_f (by assumption) ?_ <;> (try simp (disch := omega) only [go_sem])) | (refine condP_dec (fun h => ?_) (fun h => ?_) <;> (try simp (disch := omega) only [go_sem])) | (refine condP_split (fun h => ?_) (fun h => ?_) <;> (try simp (disch := omega) only [go_sem])))
  all_goals simp [hasVar, *]
theorem hasExpr_c (k : Int) : CP Tryz.prog 191 [.int .i64 k] (.bool (hasExpr k)) [] := by
  refine CP.by rfl mixed (cfn_ok Tryz.func191 ok191) rfl ?_
  simp (disch := omega) only [s191, go_sem]
  repeat' (first | (refine condP_t (by assumption) ?_ <;> (try simp (disch := omega) only [go_sem])) | (refine condP_f (by assumption) ?_ <;> (try simp (disch := omega) only [go_sem])) | (refine condP_dec (fun h => ?_) (fun h => ?_) <;> (try simp (disch := omega) only [go_sem])) | (refine condP_split (fun h => ?_) (fun h => ?_) <;> (try simp (disch := omega) only [go_sem])))
  all_goals simp [hasExpr, *]
theorem isOpening_c (k : Int) : CP Tryz.prog 134 [.int .i64 k] (.bool (isOpening k)) [] := by
  refine CP.by rfl mixed (cfn_ok Tryz.func134 ok134) rfl ?_
  simp (disch := omega) only [s134, go_sem]
  repeat' (first | (refine condP_t (by assumption) ?_ <;> (try simp (disch := omega) only [go_sem])) | (refine condP_f (by assumption) ?_ <;> (try simp (disch := omega) only [go_sem])) | (refine condP_dec (fun h => ?_) (fun h => ?_) <;> (try simp (disch := omega) only [go_sem])) | (refine condP_split (fun h => ?_) (fun h => ?_) <;> (try simp (disch := omega) only [go_sem])))
  all_goals simp [isOpening, *]
theorem isVar_c (a : Int) : CP Tryz.prog 150 [.int .i64 a] (.bool (isVar a)) [] := by
  refine CP.by rfl mixed (cfn_ok Tryz.func150 ok150) rfl ?_
  simp (disch := omega) only [s150, go_sem]
  repeat' (first | (refine CP.go (within_c _ _ _) rfl rfl ?_ <;> (try simp (disch := omega) only [go_sem])))
  all_goals rfl
theorem isSensor_c (a : Int) : CP Tryz.prog 192 [.int .i64 a] (.bool (isSensor a)) [] := by
  refine CP.by rfl mixed (cfn_ok Tryz.func192 ok192) rfl ?_
  simp (disch := omega) only [s192, go_sem]
  repeat' (first | (refine CP.go (within_c _ _ _) rfl rfl ?_ <;> (try simp (disch := omega) only [go_sem])))
  all_goals rfl
theorem opens_c (s : Stmt) : CP Tryz.prog 136 [.agg (encStmt s)] (.bool (isOpening s.kind)) [] := by
  refine CP.by rfl mixed (cfn_ok Tryz.func136 ok136) rfl ?_
  simp (disch := omega) only [s136, go_sem, encStmt]
  repeat' (first | (refine condP_t (by assumption) ?_ <;> (try simp (disch := omega) only [go_sem])) | (refine condP_f (by assumption) ?_ <;> (try simp (disch := omega) only [go_sem])) | (refine condP_dec (fun h => ?_) (fun h => ?_) <;> (try simp (disch := omega) only [go_sem])) | (refine condP_split (fun h => ?_) (fun h => ?_) <;> (try simp (disch := omega) only [go_sem])))
  all_goals simp [isOpening, *]
theorem eqTy46 : EqTy Tryz.prog 46 3 := by
  intro k xs ys x y W hx hy
  match xs, hx, ys, hy with
  | [x0, x1, x2], _, [y0, y1, y2], _ =>
    simp only [List.map_cons, List.map_nil]
    constructor
    · go_simp
      by_cases h0 : x0 = y0 <;> by_cases h1 : x1 = y1 <;> by_cases h2 : x2 = y2 <;> simp [h0, h1, h2]
    · go_simp
      by_cases h0 : x0 = y0 <;> by_cases h1 : x1 = y1 <;> by_cases h2 : x2 = y2 <;> simp [h0, h1, h2]
theorem eqTy48 : EqTy Tryz.prog 109 6 := by
  intro k xs ys x y W hx hy
  match xs, hx, ys, hy with
  | [x0, x1, x2, x3, x4, x5], _, [y0, y1, y2, y3, y4, y5], _ =>
    simp only [List.map_cons, List.map_nil]
    constructor
    · go_simp
      by_cases h0 : x0 = y0 <;> by_cases h1 : x1 = y1 <;> by_cases h2 : x2 = y2 <;> by_cases h3 : x3 = y3 <;> by_cases h4 : x4 = y4 <;> by_cases h5 : x5 = y5 <;> simp [h0, h1, h2, h3, h4, h5]
    · go_simp
      by_cases h0 : x0 = y0 <;> by_cases h1 : x1 = y1 <;> by_cases h2 : x2 = y2 <;> by_cases h3 : x3 = y3 <;> by_cases h4 : x4 = y4 <;> by_cases h5 : x5 = y5 <;> simp [h0, h1, h2, h3, h4, h5]

def stmtOk (s : Stmt) : Bool :=
  if !within s.kind 1 6 || (hasVar s.kind && !isVar s.var) || (!hasVar s.kind && !decide (s.var = 0)) then false
  else if (hasExpr s.kind && !exprOk s.e) || (!hasExpr s.kind && !([s.e.op, s.e.a, s.e.b] == [0, 0, 0])) then false
  else if s.kind = 2 then isSensor s.n else if s.kind = 5 then within s.n 1 5 else decide (s.n = 0)
set_option maxHeartbeats 4000000 in
theorem stmtOk_c (s : Stmt) : CP Tryz.prog 133 [.agg (encStmt s)] (.bool (stmtOk s)) [] := by
  obtain ⟨kind, var, n, ⟨op, ea, eb⟩⟩ := s
  refine CP.by rfl mixed (cfn_ok Tryz.func133 ok133) rfl ?_
  simp (disch := omega) only [s133, go_sem, encStmt]
  repeat' (first | (refine CP.go (within_c _ _ _) rfl rfl ?_ <;> (try simp (disch := omega) only [go_sem])) | (refine CP.go (hasVar_c _) rfl rfl ?_ <;> (try simp (disch := omega) only [go_sem])) | (refine CP.go (isVar_c _) rfl rfl ?_ <;> (try simp (disch := omega) only [go_sem])) | (refine CP.go (hasExpr_c _) rfl rfl ?_ <;> (try simp (disch := omega) only [go_sem])) | (refine CP.go (isSensor_c _) rfl rfl ?_ <;> (try simp (disch := omega) only [go_sem])) | (refine CP.go (exprOk_c ⟨op, ea, eb⟩) rfl rfl ?_ <;> (try simp (disch := omega) only [go_sem])) | (refine eqsP_true eqTy46 [_, _, _] [0, 0, 0] rfl rfl rfl rfl ?_ <;> simp (disch := omega) only [go_sem]) | (refine condP_t (by assumption) ?_ <;> (try simp (disch := omega) only [go_sem])) | (refine condP_f (by assumption) ?_ <;> (try simp (disch := omega) only [go_sem])) | (refine condP_dec (fun h => ?_) (fun h => ?_) <;> (try simp (disch := omega) only [go_sem])) | (refine condP_split (fun h => ?_) (fun h => ?_) <;> (try simp (disch := omega) only [go_sem])))
  all_goals simp_all [stmtOk]
end Go.Av
