import Derived.Test.YtjfmbdigfnablaaGreatCpCode
import Derived.Test.YtjfmbdigfnablaaGreatAv26
import Derived.Shelf.Sort.Plain
import Derived.Shelf.Slices.In.SortNone
import Derived.Test.YtjfmbdigfnablaaGreatAv27
import Derived.Test.YtjfmbdigfnablaaGreatAv19
import Derived.Test.YtjfmbdigfnablaaGreatAv24
namespace Go.Av
open Go.Proofs Go.RowKit
set_option linter.unusedVariables false
set_option linter.unusedSimpArgs false
set_option maxRecDepth 100000
theorem mixed : Tryz.prog.follows .mixedOrders = true := by kernel_rfl
structure Expr where
  op : Int
  a : Int
  b : Int
structure Stmt where
  kind : Int
  var : Int
  n : Int
  e : Expr
def encExpr (e : Expr) : List V := [.int .i64 e.op, .int .i64 e.a, .int .i64 e.b]
def encStmt (s : Stmt) : List V := [.int .i64 s.kind, .int .i64 s.var, .int .i64 s.n, .int .i64 s.e.op, .int .i64 s.e.a, .int .i64 s.e.b]
def within (a b c : Int) : Bool := decide (b ≤ a) && decide (a ≤ c)
def operandOk (a : Int) : Bool := within a (-8) 999
def exprOk (e : Expr) : Bool := within e.op 1 7 && operandOk e.a && operandOk e.b
def hasVar (k : Int) : Bool := decide (k = 1) || decide (k = 2)
def isVar (a : Int) : Bool := within a 0 7
def hasExpr (k : Int) : Bool := decide (k = 1) || decide (k = 3) || decide (k = 4)
def isSensor (a : Int) : Bool := within a 0 3
def isOpening (k : Int) : Bool := decide (k = 4) || decide (k = 5)
theorem within_c (a b c : Int) : CP Tryz.prog 114 [.int .i64 a, .int .i64 b, .int .i64 c] (.bool (within a b c)) [] := by
  refine CP.by rfl mixed (cfn_ok Tryz.func114 ok114) rfl ?_
  simp (disch := omega) only [s114, go_sem]
  refine condP_dec (fun h => ?_) (fun h => ?_) <;> simp (disch := omega) only [go_sem] <;> simp [within, h]
theorem l01In_c (a b c : Int) : CP Tryz.prog 99 [.int .i64 a, .int .i64 b, .int .i64 c] (.bool (within a b c)) [] := by
  refine CP.by rfl mixed (cfn_ok Tryz.func99 ok99) rfl ?_
  simp (disch := omega) only [s99, go_sem]
  refine condP_dec (fun h => ?_) (fun h => ?_) <;> simp (disch := omega) only [go_sem] <;> simp [within, h]
theorem operandOk_c (a : Int) : CP Tryz.prog 200 [.int .i64 a] (.bool (operandOk a)) [] := by
  refine CP.by rfl mixed (cfn_ok Tryz.func200 ok200) rfl ?_
  simp (disch := omega) only [s200, go_sem]
  refine CP.go (within_c _ _ _) rfl rfl ?_
  simp (disch := omega) only [go_sem]
  rfl
theorem operandOk_s (a : Int) : CP Tryz.prog 216 [.int .i64 a] (.bool (operandOk a)) [] := by
  refine CP.by rfl mixed (cfn_ok Tryz.func216 ok216) rfl ?_
  simp (disch := omega) only [s216, go_sem]
  refine CP.go (l01In_c _ _ _) rfl rfl ?_
  simp (disch := omega) only [go_sem]
  rfl
theorem exprOk_c (e : Expr) : CP Tryz.prog 160 [.agg (encExpr e)] (.bool (exprOk e)) [] := by
  refine CP.by rfl mixed (cfn_ok Tryz.func160 ok160) rfl ?_
  simp (disch := omega) only [s160, go_sem, encExpr]
  repeat' (first | (refine CP.go (within_c _ _ _) rfl rfl ?_ <;> (try simp (disch := omega) only [go_sem])) | (refine CP.go (operandOk_c _) rfl rfl ?_ <;> (try simp (disch := omega) only [go_sem])) | (refine condP_t (by assumption) ?_ <;> (try simp (disch := omega) only [go_sem])) | (refine condP_f (by assumption) ?_ <;> (try simp (disch := omega) only [go_sem])) | (refine condP_dec (fun h => ?_) (fun h => ?_) <;> (try simp (disch := omega) only [go_sem])) | (refine condP_split (fun h => ?_) (fun h => ?_) <;> (try simp (disch := omega) only [go_sem])))
  all_goals simp [exprOk, *]
theorem exprOk_s (e : Expr) : CP Tryz.prog 174 [.agg (encExpr e)] (.bool (exprOk e)) [] := by
  refine CP.by rfl mixed (cfn_ok Tryz.func174 ok174) rfl ?_
  simp (disch := omega) only [s174, go_sem, encExpr]
  repeat' (first | (refine CP.go (l01In_c _ _ _) rfl rfl ?_ <;> (try simp (disch := omega) only [go_sem])) | (refine CP.go (operandOk_s _) rfl rfl ?_ <;> (try simp (disch := omega) only [go_sem])) | (refine condP_t (by assumption) ?_ <;> (try simp (disch := omega) only [go_sem])) | (refine condP_f (by assumption) ?_ <;> (try simp (disch := omega) only [go_sem])) | (refine condP_dec (fun h => ?_) (fun h => ?_) <;> (try simp (disch := omega) only [go_sem])) | (refine condP_split (fun h => ?_) (fun h => ?_) <;> (try simp (disch := omega) only [go_sem])))
  all_goals simp [exprOk, *]
theorem hasVar_c (k : Int) : CP Tryz.prog 190 [.int .i64 k] (.bool (hasVar k)) [] := by
  refine CP.by rfl mixed (cfn_ok Tryz.func190 ok190) rfl ?_
  simp (disch := omega) only [s190, go_sem]
  repeat' (first | (refine condP_t (by assumption) ?_ <;> (try simp (disch := omega) only [go_sem])) | (refine condP_f (by assumption) ?_ <;> (try simp (disch := omega) only [go_sem])) | (refine condP_dec (fun h => ?_) (fun h => ?_) <;> (try simp (disch := omega) only [go_sem])) | (refine condP_split (fun h => ?_) (fun h => ?_) <;> (try simp (disch := omega) only [go_sem])))
  all_goals simp [hasVar, *]
theorem hasExpr_c (k : Int) : CP Tryz.prog 191 [.int .i64 k] (.bool (hasExpr k)) [] := by
  refine CP.by rfl mixed (cfn_ok Tryz.func191 ok191) rfl ?_
  simp (disch := omega) only [s191, go_sem]
  repeat' (first | (refine condP_t (by assumption) ?_ <;> (try simp (disch := omega) only [go_sem])) | (refine condP_f (by assumption) ?_ <;> (try simp (disch := omega) only [go_sem])) | (refine condP_dec (fun h => ?_) (fun h => ?_) <;> (try simp (disch := omega) only [go_sem])) | (refine condP_split (fun h => ?_) (fun h => ?_) <;> (try simp (disch := omega) only [go_sem])))
  all_goals simp [hasExpr, *]
theorem isOpening_c (k : Int) : CP Tryz.prog 134 [.int .i64 k] (.bool (isOpening k)) [] := by
  refine CP.by rfl mixed (cfn_ok Tryz.func134 ok134) rfl ?_
  simp (disch := omega) only [s134, go_sem]
  repeat' (first | (refine condP_t (by assumption) ?_ <;> (try simp (disch := omega) only [go_sem])) | (refine condP_f (by assumption) ?_ <;> (try simp (disch := omega) only [go_sem])) | (refine condP_dec (fun h => ?_) (fun h => ?_) <;> (try simp (disch := omega) only [go_sem])) | (refine condP_split (fun h => ?_) (fun h => ?_) <;> (try simp (disch := omega) only [go_sem])))
  all_goals simp [isOpening, *]
theorem isVar_c (a : Int) : CP Tryz.prog 150 [.int .i64 a] (.bool (isVar a)) [] := by
  refine CP.by rfl mixed (cfn_ok Tryz.func150 ok150) rfl ?_
  simp (disch := omega) only [s150, go_sem]
  repeat' (first | (refine CP.go (within_c _ _ _) rfl rfl ?_ <;> (try simp (disch := omega) only [go_sem])))
  all_goals rfl
theorem isSensor_c (a : Int) : CP Tryz.prog 192 [.int .i64 a] (.bool (isSensor a)) [] := by
  refine CP.by rfl mixed (cfn_ok Tryz.func192 ok192) rfl ?_
  simp (disch := omega) only [s192, go_sem]
  repeat' (first | (refine CP.go (within_c _ _ _) rfl rfl ?_ <;> (try simp (disch := omega) only [go_sem])))
  all_goals rfl
theorem opens_c (s : Stmt) : CP Tryz.prog 136 [.agg (encStmt s)] (.bool (isOpening s.kind)) [] := by
  refine CP.by rfl mixed (cfn_ok Tryz.func136 ok136) rfl ?_
  simp (disch := omega) only [s136, go_sem, encStmt]
  repeat' (first | (refine condP_t (by assumption) ?_ <;> (try simp (disch := omega) only [go_sem])) | (refine condP_f (by assumption) ?_ <;> (try simp (disch := omega) only [go_sem])) | (refine condP_dec (fun h => ?_) (fun h => ?_) <;> (try simp (disch := omega) only [go_sem])) | (refine condP_split (fun h => ?_) (fun h => ?_) <;> (try simp (disch := omega) only [go_sem])))
  all_goals simp [isOpening, *]
theorem eqTy46 : EqTy Tryz.prog 46 3 := by
  intro k xs ys x y W hx hy
  match xs, hx, ys, hy with
  | [x0, x1, x2], _, [y0, y1, y2], _ =>
    simp only [List.map_cons, List.map_nil]
    constructor
    · go_simp
      by_cases h0 : x0 = y0 <;> by_cases h1 : x1 = y1 <;> by_cases h2 : x2 = y2 <;> simp [h0, h1, h2]
    · go_simp
      by_cases h0 : x0 = y0 <;> by_cases h1 : x1 = y1 <;> by_cases h2 : x2 = y2 <;> simp [h0, h1, h2]
theorem eqTy48 : EqTy Tryz.prog 109 6 := by
  intro k xs ys x y W hx hy
  match xs, hx, ys, hy with
  | [x0, x1, x2, x3, x4, x5], _, [y0, y1, y2, y3, y4, y5], _ =>
    simp only [List.map_cons, List.map_nil]
    constructor
    · go_simp
      by_cases h0 : x0 = y0 <;> by_cases h1 : x1 = y1 <;> by_cases h2 : x2 = y2 <;> by_cases h3 : x3 = y3 <;> by_cases h4 : x4 = y4 <;> by_cases h5 : x5 = y5 <;> simp [h0, h1, h2, h3, h4, h5]
    · go_simp
      by_cases h0 : x0 = y0 <;> by_cases h1 : x1 = y1 <;> by_cases h2 : x2 = y2 <;> by_cases h3 : x3 = y3 <;> by_cases h4 : x4 = y4 <;> by_cases h5 : x5 = y5 <;> simp [h0, h1, h2, h3, h4, h5]

def stmtOk (s : Stmt) : Bool :=
  if !within s.kind 1 6 || (hasVar s.kind && !isVar s.var) || (!hasVar s.kind && !decide (s.var = 0)) then false
  else if (hasExpr s.kind && !exprOk s.e) || (!hasExpr s.kind && !([s.e.op, s.e.a, s.e.b] == [0, 0, 0])) then false
  else if s.kind = 2 then isSensor s.n else if s.kind = 5 then within s.n 1 5 else decide (s.n = 0)
set_option maxHeartbeats 4000000 in
theorem stmtOk_c (s : Stmt) : CP Tryz.prog 133 [.agg (encStmt s)] (.bool (stmtOk s)) [] := by
  obtain ⟨kind, var, n, ⟨op, ea, eb⟩⟩ := s
  refine CP.by rfl mixed (cfn_ok Tryz.func133 ok133) rfl ?_
  simp (disch := omega) only [s133, go_sem, encStmt]
  repeat' (first | (refine CP.go (within_c _ _ _) rfl rfl ?_ <;> (try simp (disch := omega) only [go_sem])) | (refine CP.go (hasVar_c _) rfl rfl ?_ <;> (try simp (disch := omega) only [go_sem])) | (refine CP.go (isVar_c _) rfl rfl ?_ <;> (try simp (disch := omega) only [go_sem])) | (refine CP.go (hasExpr_c _) rfl rfl ?_ <;> (try simp (disch := omega) only [go_sem])) | (refine CP.go (isSensor_c _) rfl rfl ?_ <;> (try simp (disch := omega) only [go_sem])) | (refine CP.go (exprOk_c ⟨op, ea, eb⟩) rfl rfl ?_ <;> (try simp (disch := omega) only [go_sem])) | (refine eqsP_true eqTy46 [_, _, _] [0, 0, 0] rfl rfl rfl rfl ?_ <;> simp (disch := omega) only [go_sem]) | (refine condP_t (by assumption) ?_ <;> (try simp (disch := omega) only [go_sem])) | (refine condP_f (by assumption) ?_ <;> (try simp (disch := omega) only [go_sem])) | (refine condP_dec (fun h => ?_) (fun h => ?_) <;> (try simp (disch := omega) only [go_sem])) | (refine condP_split (fun h => ?_) (fun h => ?_) <;> (try simp (disch := omega) only [go_sem])))
  all_goals simp_all [stmtOk]
end Go.Av

namespace Go.Av
open Go.Proofs Go.RowKit
set_option linter.unusedVariables false
set_option linter.unusedSimpArgs false
set_option maxRecDepth 100000
def plain (s : Stmt) : Stmt :=
  if s.kind = 1 then ⟨s.kind, s.var, 0, s.e⟩ else if s.kind = 2 then ⟨s.kind, s.var, s.n, ⟨0, 0, 0⟩⟩
  else if s.kind = 3 then ⟨s.kind, 0, 0, s.e⟩ else if s.kind = 4 then ⟨s.kind, 0, 0, s.e⟩ else if s.kind = 5 then ⟨s.kind, 0, s.n, ⟨0, 0, 0⟩⟩ else ⟨s.kind, 0, 0, ⟨0, 0, 0⟩⟩
theorem plain_c (s : Stmt) : CP Tryz.prog 193 [.agg (encStmt s)] (.agg (encStmt (plain s))) [] := by
  obtain ⟨kind, var, n, ⟨op, ea, eb⟩⟩ := s
  refine CP.by rfl mixed (cfn_ok Tryz.func193 ok193) rfl ?_
  simp (disch := omega) only [s193, go_sem, encStmt, storeH, storeB, splice]
  repeat' (first | (refine condP_t (by assumption) ?_ <;> (try simp (disch := omega) only [go_sem, storeH, storeB, splice])) | (refine condP_f (by assumption) ?_ <;> (try simp (disch := omega) only [go_sem, storeH, storeB, splice])) | (refine condP_dec (fun h => ?_) (fun h => ?_) <;> (try simp (disch := omega) only [go_sem, storeH, storeB, splice])) | (refine condP_split (fun h => ?_) (fun h => ?_) <;> (try simp (disch := omega) only [go_sem, storeH, storeB, splice])))
  all_goals simp_all [plain, encStmt]
def fields (s : Stmt) : List Int := [s.kind, s.var, s.n, s.e.op, s.e.a, s.e.b]
def stmtOkS (s : Stmt) : Bool :=
  if !(fields s == fields (plain s)) then false
  else if s.kind = 1 then within s.var 0 7 && exprOk s.e else if s.kind = 2 then within s.var 0 7 && within s.n 0 3
  else if s.kind = 3 then exprOk s.e else if s.kind = 4 then exprOk s.e else if s.kind = 5 then within s.n 1 5 else decide (s.kind = 6)
set_option maxHeartbeats 4000000 in
theorem stmtOkS_eq (s : Stmt) : stmtOkS s = stmtOk s := by
  obtain ⟨kind, var, n, ⟨op, ea, eb⟩⟩ := s
  simp only [stmtOkS, stmtOk, plain, fields, hasVar, hasExpr, isVar, isSensor]
  rw [Bool.eq_iff_iff]
  cases exprOk ⟨op, ea, eb⟩ <;> (by_cases h1 : kind = 1; · subst h1; simp [within]; try omega) <;> (by_cases h2 : kind = 2; · subst h2; simp [within]; try omega) <;> (by_cases h3 : kind = 3; · subst h3; simp [within]; try omega) <;> (by_cases h4 : kind = 4; · subst h4; simp [within]; try omega) <;> (by_cases h5 : kind = 5; · subst h5; simp [within]; try omega) <;> (by_cases h6 : kind = 6; · subst h6; simp [within]; try omega) <;> (have : within kind 1 6 = false := by simp [within]; omega) <;> simp [h1, h2, h3, h4, h5, h6, this]
set_option maxHeartbeats 4000000 in
theorem stmtOk_s (s : Stmt) : CP Tryz.prog 135 [.agg (encStmt s)] (.bool (stmtOk s)) [] := by
  rw [← stmtOkS_eq]
  obtain ⟨kind, var, n, ⟨op, ea, eb⟩⟩ := s
  refine CP.by rfl mixed (cfn_ok Tryz.func135 ok135) rfl ?_
  simp (disch := omega) only [s135, go_sem, encStmt]
  refine CP.go (plain_c ⟨kind, var, n, ⟨op, ea, eb⟩⟩) rfl rfl ?_
  simp (disch := omega) only [go_sem]
  refine eqsP_true eqTy48 (fields ⟨kind, var, n, ⟨op, ea, eb⟩⟩) (fields (plain ⟨kind, var, n, ⟨op, ea, eb⟩⟩)) rfl rfl rfl rfl ?_
  simp (disch := omega) only [go_sem]
  repeat' (first | (refine CP.go (l01In_c _ _ _) rfl rfl ?_ <;> (try simp (disch := omega) only [go_sem])) | (refine CP.go (exprOk_s ⟨op, ea, eb⟩) rfl rfl ?_ <;> (try simp (disch := omega) only [go_sem])) | (refine condP_t (by assumption) ?_ <;> (try simp (disch := omega) only [go_sem])) | (refine condP_f (by assumption) ?_ <;> (try simp (disch := omega) only [go_sem])) | (refine condP_dec (fun h => ?_) (fun h => ?_) <;> (try simp (disch := omega) only [go_sem])) | (refine condP_split (fun h => ?_) (fun h => ?_) <;> (try simp (disch := omega) only [go_sem])))
  all_goals simp_all [stmtOkS]
end Go.Av

namespace Go.Av
open Go.Proofs Go.RowKit
set_option linter.unusedVariables false
set_option linter.unusedSimpArgs false
set_option maxRecDepth 100000
def delta (k : Int) : Int := (if isOpening k = true then 1 else 0) - (if k = 6 then 1 else 0)
def blockFrom : Int → List Stmt → Bool
  | o, [] => decide (o = 0)
  | o, s :: r => if stmtOk s = true ∧ 0 ≤ o + delta s.kind ∧ o + delta s.kind ≤ 3 then blockFrom (o + delta s.kind) r else false
def blockOk (xs : List Stmt) : Bool := blockFrom 0 xs && decide ((xs.length : Int) ≤ 24)
theorem blockFrom_drop {xs : List Stmt} {k : Nat} (h : k < xs.length) (o : Int) : blockFrom o (xs.drop k) = if stmtOk xs[k] = true ∧ 0 ≤ o + delta xs[k].kind ∧ o + delta xs[k].kind ≤ 3 then blockFrom (o + delta xs[k].kind) (xs.drop (k + 1)) else false := by
  rw [List.drop_eq_getElem_cons h]; rfl
set_option maxHeartbeats 4000000 in
theorem blockOk_c (xs : List Stmt) (hx : xs.length ≤ 9223372036854775807) : CP Tryz.prog 75 [.lst 6 (xs.map encStmt)] (.bool (blockOk xs)) [] := by
  refine CP.by rfl mixed (cfn_ok Tryz.func75 ok75) rfl ?_
  simp (disch := omega) only [s75, go_sem]
  refine loopP_intro (fun m s => ∃ (k : Nat) (o : Int), k ≤ xs.length ∧ m = xs.length - k ∧ 0 ≤ o ∧ o ≤ 3 ∧ s.e 0 = .lst 6 (xs.map encStmt) ∧ s.e 6 = .lst 6 (xs.map encStmt) ∧ s.e 7 = .int .i64 xs.length ∧ s.e 8 = .int .i64 k ∧ s.e 3 = .int .i64 o ∧ blockFrom 0 xs = blockFrom o (xs.drop k)) xs.length ⟨0, 0, by omega, by omega, by omega, by omega, rfl, rfl, by simp (disch := omega) only [go_sem], by simp (disch := omega) only [go_sem]; rfl, rfl, rfl⟩ ?_
  rintro m e h ⟨k, o, hk, rfl, ho1, ho2, e0, e6, e7, e8, e3, hb⟩
  simp only at e0 e6 e7 e8 e3
  simp (disch := omega) only [go_sem, e0, e6, e7, e8, e3]
  refine condP_dec (fun hlt => ?_) (fun hlt => ?_)
  · have hlt' : k < xs.length := by omega
    rw [blockFrom_drop hlt'] at hb
    simp (disch := omega) only [go_sem, encStmt, e0, e6, e7, e8, e3]
    refine CP.go (stmtOk_c xs[k]) rfl rfl ?_
    simp (disch := omega) only [go_sem, e0, e6, e7, e8, e3]
    cases hO : isOpening xs[k].kind <;> by_cases h6 : xs[k].kind = 6
    all_goals
      have hd : delta xs[k].kind = (if isOpening xs[k].kind = true then 1 else 0) - (if xs[k].kind = 6 then 1 else 0) := rfl
      rw [hO] at hd
      first | rw [if_pos h6] at hd | rw [if_neg h6] at hd
      simp only [if_true, if_false, Bool.false_eq_true] at hd
    all_goals repeat' (first | (refine CP.go (isOpening_c _) rfl rfl ?_ <;> (try simp (disch := omega) only [go_sem, e0, e6, e7, e8, e3])) | (refine condP_t (by assumption) ?_ <;> (try simp (disch := omega) only [go_sem, e0, e6, e7, e8, e3])) | (refine condP_f (by assumption) ?_ <;> (try simp (disch := omega) only [go_sem, e0, e6, e7, e8, e3])) | (refine condP_dec (fun h => ?_) (fun h => ?_) <;> (try simp (disch := omega) only [go_sem, e0, e6, e7, e8, e3])) | (refine condP_split (fun h => ?_) (fun h => ?_) <;> (try simp (disch := omega) only [go_sem, e0, e6, e7, e8, e3])))
    all_goals first
      | (refine nextP_intro (xs.length - (k + 1)) (by omega) ⟨k + 1, o + delta xs[k].kind, by omega, rfl, by omega, by omega, ?_, ?_, ?_, ?_, ?_, ?_⟩
         · simp (disch := omega) only [go_sem, e0, e6, e7, e8, e3]
         · simp (disch := omega) only [go_sem, e0, e6, e7, e8, e3]
         · simp (disch := omega) only [go_sem, e0, e6, e7, e8, e3]
         · simp (disch := omega) only [go_sem, e0, e6, e7, e8, e3]; rfl
         · simp (disch := omega) only [go_sem, e0, e6, e7, e8, e3]; congr 1; omega
         · rw [hb, if_pos ⟨by assumption, by omega, by omega⟩])
      | (simp only [blockOk, hb]; rw [if_neg (fun c => by first | omega | simp_all)]; rfl)
  · simp (disch := omega) only [go_sem, e0, e6, e7, e8, e3]
    have hk' : k = xs.length := by omega
    subst hk'
    rw [List.drop_length] at hb
    refine condP_dec (fun h0 => ?_) (fun h0 => ?_)
    · simp (disch := omega) only [go_sem, e0, e6, e7, e8, e3]
      simp only [blockOk, hb, blockFrom]; simp [h0]
    · simp (disch := omega) only [go_sem, e0, e6, e7, e8, e3]
      simp only [blockOk, hb, blockFrom]; simp [h0]
end Go.Av

namespace Go.Av
set_option linter.unusedVariables false
def dlt (x : Stmt) : Int := delta x.kind
theorem dlt_def (x : Stmt) : dlt x = (if x.kind = 4 ∨ x.kind = 5 then 1 else 0) - (if x.kind = 6 then 1 else 0) := by
  simp [dlt, delta, isOpening]
theorem dlt_bd (x : Stmt) : -1 ≤ dlt x ∧ dlt x ≤ 1 := by rw [dlt_def]; split <;> split <;> omega
def depM (l : List Stmt) : Int := l.foldl (fun d x => d + dlt x) 0
theorem dep_from : ∀ (l : List Stmt) (d : Int), l.foldl (fun d x => d + dlt x) d = d + depM l
  | [], d => by simp [depM]
  | x :: l, d => by
    rw [List.foldl_cons, dep_from l (d + dlt x)]
    have := dep_from l (0 + dlt x)
    unfold depM at *
    rw [List.foldl_cons, this]
    omega
theorem depM_cons (x : Stmt) (l : List Stmt) : depM (x :: l) = dlt x + depM l := by
  have := dep_from l (0 + dlt x)
  unfold depM at *
  rw [List.foldl_cons, this]
  omega
theorem depM_bd : ∀ (l : List Stmt), -(l.length : Int) ≤ depM l ∧ depM l ≤ l.length
  | [] => by simp [depM]
  | x :: l => by
    have h1 := depM_bd l
    have h2 := dlt_bd x
    rw [depM_cons]
    have : ((x :: l).length : Int) = l.length + 1 := by simp
    omega
def endM : Int → Int → List Stmt → Int
  | _, _, [] => -1
  | c, p, x :: s => if x.kind = 6 ∧ c + dlt x = 0 then p else endM (c + dlt x) (p + 1) s
def mp : List Stmt → Int
  | [] => 0
  | x :: s => min 0 (dlt x + mp s)
theorem mp_le (l : List Stmt) : mp l ≤ 0 := by
  cases l with
  | nil => exact Int.le_refl _
  | cons x s => unfold mp; omega
theorem mp_dep : ∀ (l : List Stmt), mp l ≤ depM l
  | [] => by simp [mp, depM]
  | x :: s => by
    have := mp_dep s
    rw [depM_cons]; unfold mp; omega
theorem mp_app : ∀ (q v : List Stmt), mp (q ++ v) ≤ mp q
  | [], v => mp_le v
  | x :: q, v => by
    have := mp_app q v
    show mp (x :: (q ++ v)) ≤ mp (x :: q)
    unfold mp; omega
theorem dep_app (q v : List Stmt) : depM (q ++ v) = depM q + depM v := by
  induction q with
  | nil => simp [depM]
  | cons x q ih => rw [List.cons_append, depM_cons, depM_cons, ih]; omega
theorem dlt_end {x : Stmt} (h : dlt x = -1) : x.kind = 6 := by
  rw [dlt_def] at h
  by_cases h6 : x.kind = 6
  · exact h6
  · rw [if_neg h6] at h; split at h <;> omega
theorem endM_far : ∀ (q v : List Stmt) (c p : Int), 1 ≤ c + mp q → endM c p (q ++ v) = endM (c + depM q) (p + q.length) v
  | [], v, c, p, h => by simp [depM]
  | x :: q, v, c, p, h => by
    have hm := mp_le q
    unfold mp at h
    rw [depM_cons, List.cons_append]
    show (if x.kind = 6 ∧ c + dlt x = 0 then p else endM (c + dlt x) (p + 1) (q ++ v)) = _
    rw [if_neg (fun g => by omega), endM_far q v (c + dlt x) (p + 1) (by omega), show c + dlt x + depM q = c + (dlt x + depM q) from by omega, show p + 1 + (q.length : Int) = p + ((x :: q).length : Int) from by simp; omega]
theorem endM_near : ∀ (q v : List Stmt) (c p : Int), 1 ≤ c → c + mp q ≤ 0 → p ≤ endM c p (q ++ v) ∧ endM c p (q ++ v) < p + q.length
  | [], v, c, p, hc, h => by simp [mp] at h; omega
  | x :: q, v, c, p, hc, h => by
    have hd := dlt_bd x
    unfold mp at h
    rw [List.cons_append]
    unfold endM
    by_cases g : x.kind = 6 ∧ c + dlt x = 0
    · rw [if_pos g]; simp; omega
    · rw [if_neg g]
      have hc' : 1 ≤ c + dlt x := by
        by_cases h1 : dlt x = -1
        · have := dlt_end h1
          omega
        · omega
      have := endM_near q v (c + dlt x) (p + 1) hc' (by omega)
      simp only [List.length_cons]
      omega
def cntM (i : Int) : Int → List Stmt → List Stmt → Int
  | _, [], _ => 0
  | p, x :: q, v => (if (x.kind = 4 ∨ x.kind = 5) ∧ i ≤ endM 0 p (x :: q ++ v) then 1 else 0) + cntM i (p + 1) q v
theorem cnt_eq (i : Int) (v : List Stmt) (hi0 : 0 ≤ i) : ∀ (q : List Stmt) (p D : Int), p + q.length = i → 0 ≤ p → 0 ≤ D + mp q → D + depM q + depM v = 0 → cntM i p q v = depM q - mp q
  | [], p, D, hp, h0, hD, ht => by simp [cntM, depM, mp]
  | x :: q, p, D, hp, h0, hD, ht => by
    have hd := dlt_bd x
    have hmq := mp_le q
    rw [depM_cons] at ht ⊢
    have hD' := hD
    unfold mp at hD'
    have hlen : ((x :: q).length : Int) = q.length + 1 := by simp
    have ih := cnt_eq i v hi0 q (p + 1) (D + dlt x) (by omega) (by omega) (by omega) (by omega)
    unfold cntM mp
    rw [ih]
    by_cases ho : x.kind = 4 ∨ x.kind = 5
    · have h1 : dlt x = 1 := by rw [dlt_def]; rw [if_pos ho, if_neg (by omega)]; rfl
      have he : endM 0 p (x :: q ++ v) = endM 1 (p + 1) (q ++ v) := by
        rw [List.cons_append]
        show (if x.kind = 6 ∧ 0 + dlt x = 0 then p else endM (0 + dlt x) (p + 1) (q ++ v)) = _
        rw [if_neg (by omega), h1]; rfl
      by_cases hm : mp q = 0
      · have hf := endM_far q v 1 (p + 1) (by omega)
        have hvd := mp_dep v
        have hqd := mp_dep q
        have hn := endM_near v [] (1 + depM q) (p + 1 + q.length) (by omega) (by omega)
        rw [List.append_nil] at hn
        rw [if_pos ⟨ho, by rw [he, hf]; omega⟩]
        omega
      · have hn := endM_near q v 1 (p + 1) (by omega) (by omega)
        rw [if_neg (fun g => by rw [he] at g; omega)]
        omega
    · have h1 : dlt x ≤ 0 := by rw [dlt_def]; rw [if_neg ho]; split <;> omega
      rw [if_neg (fun g => ho g.1)]
      omega
theorem blk_mp : ∀ (s : List Stmt) (d : Int), 0 ≤ d → blockFrom d s = true → 0 ≤ d + mp s ∧ d + depM s = 0
  | [], d, hd, h => by
    unfold blockFrom at h
    simp at h
    simp [mp, depM]; omega
  | x :: s, d, hd, h => by
    unfold blockFrom at h
    split at h
    · rename_i hc
      have := blk_mp s (d + dlt x) hc.2.1 h
      rw [depM_cons]; unfold mp
      omega
    · cases h
def depthOf (l : List Stmt) (i : Int) : Int := if blockOk l = true ∧ (0 ≤ i ∧ i ≤ (l.length : Int) - 1) then depM (l.take i.toNat) else -1
theorem cnt_depth (l : List Stmt) (i : Int) (hb : blockOk l = true) (hi : 0 ≤ i ∧ i ≤ (l.length : Int) - 1) : cntM i 0 (l.take i.toNat) (l.drop i.toNat) = depM (l.take i.toNat) := by
  unfold blockOk at hb
  simp only [Bool.and_eq_true, decide_eq_true_eq] at hb
  obtain ⟨hm, hd0⟩ := blk_mp l 0 (by omega) hb.1
  have hsplit : l.take i.toNat ++ l.drop i.toNat = l := List.take_append_drop _ _
  have hma := mp_app (l.take i.toNat) (l.drop i.toNat)
  have hda := dep_app (l.take i.toNat) (l.drop i.toNat)
  rw [hsplit] at hma hda
  have hml := mp_le (l.take i.toNat)
  have hlt : (l.take i.toNat).length = i.toNat := by simp; omega
  rw [cnt_eq i (l.drop i.toNat) hi.1 (l.take i.toNat) 0 0 (by omega) (by omega) (by omega) (by omega)]
  omega
def cutM (l : List Stmt) : Nat → Nat → List Int
  | 0, _ => []
  | d + 1, i => (if depthOf l i = 0 ∧ ¬ (∀ h : i < l.length, l[i].kind = 6) then [(i : Int)] else []) ++ cutM l d (i + 1)
def cutsM (l : List Stmt) : List Int := if blockOk l = true then cutM l (l.length - 1) 1 else []
theorem cutM_len (l : List Stmt) : ∀ (d : Nat) (i : Nat), (cutM l d i).length ≤ d
  | 0, _ => Nat.le_refl _
  | d + 1, i => by
    have := cutM_len l d (i + 1)
    unfold cutM
    rw [List.length_append]
    split <;> simp <;> omega
end Go.Av

namespace Go.Av
open Go.Proofs Go.RowKit
set_option linter.unusedVariables false
set_option linter.unusedSimpArgs false
set_option maxRecDepth 100000
theorem within_dec (a b c : Int) : within a b c = decide (b ≤ a ∧ a ≤ c) := by simp [within]
theorem delta_facts (k : Int) : (k = 4 → delta k = 1) ∧ (k = 5 → delta k = 1) ∧ (k = 6 → delta k = -1) ∧ (k ≠ 4 → k ≠ 5 → k ≠ 6 → delta k = 0) := by
  refine ⟨?_, ?_, ?_, ?_⟩ <;> intros <;> simp_all [delta, isOpening]
set_option maxHeartbeats 4000000 in
theorem blockOk_s (xs : List Stmt) (hx : xs.length ≤ 9223372036854775807) : CP Tryz.prog 77 [.lst 6 (xs.map encStmt)] (.bool (blockOk xs)) [] := by
  refine CP.by rfl mixed (cfn_ok Tryz.func77 ok77) rfl ?_
  simp (disch := omega) only [s77, go_sem]
  refine loopP_intro (fun m s => ∃ (k : Nat) (o : Int), k ≤ xs.length ∧ m = xs.length - k ∧ 0 ≤ o ∧ o ≤ 3 ∧ s.e 0 = .lst 6 (xs.map encStmt) ∧ s.e 4 = .int .i64 k ∧ s.e 3 = .int .i64 o ∧ blockFrom 0 xs = blockFrom o (xs.drop k)) xs.length ⟨0, 0, by omega, by omega, by omega, by omega, rfl, rfl, rfl, rfl⟩ ?_
  rintro m e h ⟨k, o, hk, rfl, ho1, ho2, e0, e4, e3, hb⟩
  simp only at e0 e4 e3
  simp (disch := omega) only [go_sem, e0, e4, e3, encStmt, within_dec]
  refine condP_dec (fun hlt => ?_) (fun hlt => ?_)
  · have hlt' : k < xs.length := by omega
    rw [blockFrom_drop hlt'] at hb
    simp (disch := omega) only [go_sem, e0, e4, e3, encStmt, within_dec]
    refine CP.go (stmtOk_s xs[k]) rfl rfl ?_
    simp (disch := omega) only [go_sem, e0, e4, e3, encStmt, within_dec]
    obtain ⟨hd4, hd5, hd6, hd0⟩ := delta_facts xs[k].kind
    repeat' (first | (refine CP.go (l01In_c _ _ _) rfl rfl ?_ <;> (try simp (disch := omega) only [go_sem, e0, e4, e3, encStmt, within_dec])) | (refine condP_t (by assumption) ?_ <;> (try simp (disch := omega) only [go_sem, e0, e4, e3, encStmt, within_dec])) | (refine condP_f (by assumption) ?_ <;> (try simp (disch := omega) only [go_sem, e0, e4, e3, encStmt, within_dec])) | (refine condP_dec (fun h => ?_) (fun h => ?_) <;> (try simp (disch := omega) only [go_sem, e0, e4, e3, encStmt, within_dec])) | (refine condP_split (fun h => ?_) (fun h => ?_) <;> (try simp (disch := omega) only [go_sem, e0, e4, e3, encStmt, within_dec])))
    all_goals first
      | (refine nextP_intro (xs.length - (k + 1)) (by omega) ⟨k + 1, o + delta xs[k].kind, by omega, rfl, by omega, by omega, ?_, ?_, ?_, ?_⟩
         · simp (disch := omega) only [go_sem, e0, e4, e3, encStmt, within_dec]
         · simp (disch := omega) only [go_sem, e0, e4, e3, encStmt, within_dec]; rfl
         · simp (disch := omega) only [go_sem, e0, e4, e3, encStmt, within_dec]; congr 1; omega
         · rw [hb, if_pos ⟨by assumption, by omega, by omega⟩])
      | (simp only [blockOk, hb]; rw [if_neg (fun c => by first | omega | simp_all)]; rfl)
  · simp (disch := omega) only [go_sem, e0, e4, e3, encStmt, within_dec]
    have hk' : k = xs.length := by omega
    subst hk'
    rw [List.drop_length] at hb
    refine condP_dec (fun h0 => ?_) (fun h0 => ?_)
    · simp (disch := omega) only [go_sem, e0, e4, e3, encStmt, within_dec]
      simp only [blockOk, hb, blockFrom]; simp [h0]
    · simp (disch := omega) only [go_sem, e0, e4, e3, encStmt, within_dec]
      simp only [blockOk, hb, blockFrom]; simp [h0]
end Go.Av

namespace Go.Av
open Go.Proofs Go.RowKit
set_option linter.unusedVariables false
set_option linter.unusedSimpArgs false
set_option maxRecDepth 100000
theorem depM_take {xs : List Stmt} {k : Nat} (h : k < xs.length) : depM (xs.take (k + 1)) = depM (xs.take k) + delta xs[k].kind := by
  rw [List.take_succ_eq_append_getElem h, dep_app, depM_cons]
  have : depM [] = 0 := rfl
  show _ + (delta xs[k].kind + depM []) = _
  omega
@[simp] theorem refs_stmt (n : Nat) (s : Stmt) : V.refsL n (encStmt s) = true := rfl
theorem refs_args (n : Nat) (xs : List Stmt) (i : Int) : V.refsL n [.lst 6 (xs.map encStmt), .int .i64 i] = true := by simp [V.refsL, V.refs, refsLL_map encStmt (refs_stmt n) xs]
theorem refs_arg (n : Nat) (xs : List Stmt) : V.refsL n [.lst 6 (xs.map encStmt)] = true := by simp [V.refsL, V.refs, refsLL_map encStmt (refs_stmt n) xs]
set_option maxHeartbeats 4000000 in
theorem depthOf_c (xs : List Stmt) (i : Int) (hx : xs.length ≤ 9223372036854775807) : CP Tryz.prog 76 [.lst 6 (xs.map encStmt), .int .i64 i] (.int .i64 (depthOf xs i)) [] := by
  refine CP.by rfl mixed (cfn_ok Tryz.func76 ok76) rfl ?_
  simp (disch := omega) only [s76, go_sem, within_dec]
  refine CP.go (blockOk_c xs hx) rfl (refs_arg _ _) ?_
  simp (disch := omega) only [go_sem, within_dec]
  repeat' (first | (refine CP.go (within_c _ _ _) rfl rfl ?_ <;> (try simp (disch := omega) only [go_sem, within_dec])) | (refine condP_t (by assumption) ?_ <;> (try simp (disch := omega) only [go_sem, within_dec])) | (refine condP_f (by assumption) ?_ <;> (try simp (disch := omega) only [go_sem, within_dec])) | (refine condP_dec (fun h => ?_) (fun h => ?_) <;> (try simp (disch := omega) only [go_sem, within_dec])) | (refine condP_split (fun h => ?_) (fun h => ?_) <;> (try simp (disch := omega) only [go_sem, within_dec])))
  · rename_i hbk
    have hi := h
    clear h
    have hys : (xs.take i.toNat).length = i.toNat := by simp; omega
    have hr : depthOf xs i = depM (xs.take i.toNat) := by simp [depthOf, hbk, hi.1, hi.2]
    rw [hr]
    generalize xs.take i.toNat = ys at hys
    refine loopP_intro (fun m s => ∃ (k : Nat), k ≤ ys.length ∧ m = ys.length - k ∧ s.e 21 = .lst 6 (ys.map encStmt) ∧ s.e 22 = .int .i64 ys.length ∧ s.e 23 = .int .i64 k ∧ s.e 5 = .int .i64 (depM (ys.take k))) ys.length ⟨0, by omega, by omega, by simp (disch := omega) only [go_sem, within_dec], by simp (disch := omega) only [go_sem, within_dec], by simp (disch := omega) only [go_sem, within_dec]; rfl, by simp (disch := omega) only [go_sem, within_dec]; rfl⟩ ?_
    rintro m e h ⟨k, hk, rfl, e21, e22, e23, e5⟩
    simp only at e21 e22 e23 e5
    simp (disch := omega) only [go_sem, e21, e22, e23, e5, encStmt]
    refine condP_dec (fun hlt => ?_) (fun hlt => ?_)
    · have hlt' : k < ys.length := by omega
      have hdt := depM_take hlt'
      have hbd := depM_bd (ys.take k)
      have hkl : (ys.take k).length = k := by simp; omega
      obtain ⟨hd4, hd5, hd6, hd0⟩ := delta_facts ys[k].kind
      have hO : isOpening ys[k].kind = decide (ys[k].kind = 4 ∨ ys[k].kind = 5) := by simp [isOpening]
      simp (disch := omega) only [go_sem, e21, e22, e23, e5, encStmt]
      refine CP.go (isOpening_c ys[k].kind) rfl rfl ?_
      simp only [hO]
      simp (disch := omega) only [go_sem, e21, e22, e23, e5, encStmt]
      repeat' (first | (refine condP_t (by assumption) ?_ <;> (try simp (disch := omega) only [go_sem, e21, e22, e23, e5, encStmt])) | (refine condP_f (by assumption) ?_ <;> (try simp (disch := omega) only [go_sem, e21, e22, e23, e5, encStmt])) | (refine condP_dec (fun h => ?_) (fun h => ?_) <;> (try simp (disch := omega) only [go_sem, e21, e22, e23, e5, encStmt])) | (refine condP_split (fun h => ?_) (fun h => ?_) <;> (try simp (disch := omega) only [go_sem, e21, e22, e23, e5, encStmt])))
      all_goals
        (refine nextP_intro (ys.length - (k + 1)) (by omega) ⟨k + 1, by omega, rfl, ?_, ?_, ?_, ?_⟩
         · simp (disch := omega) only [go_sem, e21, e22, e23, e5, encStmt]
         · simp (disch := omega) only [go_sem, e21, e22, e23, e5, encStmt]
         · simp (disch := omega) only [go_sem, e21, e22, e23, e5, encStmt]; rfl
         · simp (disch := omega) only [go_sem, e21, e22, e23, e5, encStmt]; congr 1; omega)
    · simp (disch := omega) only [go_sem, e21, e22, e23, e5, encStmt]
      have hk' : k = ys.length := by omega
      subst hk'
      rw [List.take_length]
  · rename_i hbk
    have hi := h
    have : depthOf xs i = -1 := by unfold depthOf; rw [if_neg (fun c => hi c.2)]
    rw [this]
  · have hbk := h
    have : depthOf xs i = -1 := by unfold depthOf; rw [if_neg (fun c => by rw [hbk] at c; exact Bool.noConfusion c.1)]
    rw [this]
set_option maxHeartbeats 4000000 in
theorem end_s (xs : List Stmt) (j : Nat) (hj : j ≤ xs.length) (hx : xs.length ≤ 9223372036854775807) : CP Tryz.prog 137 [.lst 6 (xs.map encStmt), .int .i64 j] (.int .i64 (endM 0 j (xs.drop j))) [] := by
  refine CP.by rfl mixed (cfn_ok Tryz.func137 ok137) rfl ?_
  simp (disch := omega) only [s137, go_sem]
  refine loopP_intro (fun m s => ∃ (k : Nat) (c : Int), k ≤ xs.length ∧ m = xs.length - k ∧ -(k : Int) ≤ c ∧ c ≤ k ∧ s.e 0 = .lst 6 (xs.map encStmt) ∧ s.e 6 = .int .i64 k ∧ s.e 5 = .int .i64 c ∧ endM 0 j (xs.drop j) = endM c k (xs.drop k)) (xs.length - j) ⟨j, 0, by omega, by omega, by omega, by omega, rfl, rfl, rfl, rfl⟩ ?_
  rintro m e h ⟨k, c, hk, rfl, hc1, hc2, e0, e6, e5, hb⟩
  simp only at e0 e6 e5
  simp (disch := omega) only [go_sem, e0, e6, e5, encStmt]
  refine condP_dec (fun hlt => ?_) (fun hlt => ?_)
  · have hlt' : k < xs.length := by omega
    obtain ⟨hd4, hd5, hd6, hd0⟩ := delta_facts xs[k].kind
    have hO : isOpening xs[k].kind = decide (xs[k].kind = 4 ∨ xs[k].kind = 5) := by simp [isOpening]
    have hs : endM c k (xs.drop k) = if xs[k].kind = 6 ∧ c + delta xs[k].kind = 0 then (k : Int) else endM (c + delta xs[k].kind) (k + 1) (xs.drop (k + 1)) := by
      rw [List.drop_eq_getElem_cons hlt']; rfl
    simp (disch := omega) only [go_sem, e0, e6, e5, encStmt]
    refine CP.go (opens_c xs[k]) rfl rfl ?_
    simp only [hO]
    simp (disch := omega) only [go_sem, e0, e6, e5, encStmt]
    repeat' (first | (refine condP_t (by assumption) ?_ <;> (try simp (disch := omega) only [go_sem, e0, e6, e5, encStmt])) | (refine condP_f (by assumption) ?_ <;> (try simp (disch := omega) only [go_sem, e0, e6, e5, encStmt])) | (refine condP_dec (fun h => ?_) (fun h => ?_) <;> (try simp (disch := omega) only [go_sem, e0, e6, e5, encStmt])) | (refine condP_split (fun h => ?_) (fun h => ?_) <;> (try simp (disch := omega) only [go_sem, e0, e6, e5, encStmt])))
    all_goals first
      | (refine nextP_intro (xs.length - (k + 1)) (by omega) ⟨k + 1, c + delta xs[k].kind, by omega, rfl, by omega, by omega, ?_, ?_, ?_, ?_⟩
         · simp (disch := omega) only [go_sem, e0, e6, e5, encStmt]
         · simp (disch := omega) only [go_sem, e0, e6, e5, encStmt]; rfl
         · simp (disch := omega) only [go_sem, e0, e6, e5, encStmt]; congr 1; omega
         · rw [hb, hs, if_neg (by omega)]; rfl)
      | (rw [hb, hs, if_pos (by omega)])
  · simp (disch := omega) only [go_sem, e0, e6, e5, encStmt]
    have hk' : k = xs.length := by omega
    subst hk'
    rw [hb, List.drop_length]
    rfl
end Go.Av

namespace Go.Av
open Go.Proofs Go.RowKit
set_option linter.unusedVariables false
set_option linter.unusedSimpArgs false
set_option maxRecDepth 100000
theorem cnt_step {xs : List Stmt} {m j : Nat} (i : Int) (h : j < m) (hm : m ≤ xs.length) : cntM i j ((xs.take m).drop j) (xs.drop m) = (if (xs[j].kind = 4 ∨ xs[j].kind = 5) ∧ i ≤ endM 0 j (xs.drop j) then 1 else 0) + cntM i (j + 1) ((xs.take m).drop (j + 1)) (xs.drop m) := by
  have hl : (xs.take m).length = m := by simp; omega
  have e : (xs.take m).drop j = xs[j] :: (xs.take m).drop (j + 1) := by
    rw [List.drop_eq_getElem_cons (by omega)]; simp
  have e2 : (xs.take m).drop j ++ xs.drop m = xs.drop j := by
    rw [← List.drop_append_of_le_length (by omega), List.take_append_drop]
  rw [← e2]
  rw [e]
  rfl
set_option maxHeartbeats 4000000 in
theorem depthOf_s (xs : List Stmt) (i : Int) (hx : xs.length ≤ 9223372036854775807) : CP Tryz.prog 78 [.lst 6 (xs.map encStmt), .int .i64 i] (.int .i64 (depthOf xs i)) [] := by
  refine CP.by rfl mixed (cfn_ok Tryz.func78 ok78) rfl ?_
  simp (disch := omega) only [s78, go_sem, within_dec]
  refine CP.go (blockOk_s xs hx) rfl (refs_arg _ _) ?_
  simp (disch := omega) only [go_sem, within_dec]
  repeat' (first | (refine CP.go (l01In_c _ _ _) rfl rfl ?_ <;> (try simp (disch := omega) only [go_sem, within_dec])) | (refine condP_t (by assumption) ?_ <;> (try simp (disch := omega) only [go_sem, within_dec])) | (refine condP_f (by assumption) ?_ <;> (try simp (disch := omega) only [go_sem, within_dec])) | (refine condP_dec (fun h => ?_) (fun h => ?_) <;> (try simp (disch := omega) only [go_sem, within_dec])) | (refine condP_split (fun h => ?_) (fun h => ?_) <;> (try simp (disch := omega) only [go_sem, within_dec])))
  · rename_i hbk
    have hi := h
    clear h
    have hr : depthOf xs i = cntM i 0 (xs.take i.toNat) (xs.drop i.toNat) := by rw [cnt_depth xs i hbk hi]; simp [depthOf, hbk, hi.1, hi.2]
    obtain ⟨m, rfl⟩ : ∃ m : Nat, i = m := ⟨i.toNat, by omega⟩
    have hm : m < xs.length := by omega
    rw [Int.toNat_natCast] at hr
    rw [hr]
    refine loopP_intro (fun t s => ∃ (j : Nat) (c : Int), j ≤ m ∧ t = m - j ∧ 0 ≤ c ∧ c ≤ j ∧ s.e 0 = .lst 6 (xs.map encStmt) ∧ s.e 1 = .int .i64 m ∧ s.e 6 = .int .i64 j ∧ s.e 5 = .int .i64 c ∧ cntM m 0 (xs.take m) (xs.drop m) = c + cntM m j ((xs.take m).drop j) (xs.drop m)) m ⟨0, 0, by omega, by omega, by omega, by omega, by simp (disch := omega) only [go_sem, within_dec], by simp (disch := omega) only [go_sem, within_dec], by simp (disch := omega) only [go_sem, within_dec]; rfl, by simp (disch := omega) only [go_sem, within_dec], by simp⟩ ?_
    rintro t e h ⟨j, c, hj, rfl, hc1, hc2, e0, e1, e6, e5, hb⟩
    simp only at e0 e1 e6 e5
    simp (disch := omega) only [go_sem, e0, e1, e6, e5, encStmt]
    refine condP_dec (fun hlt => ?_) (fun hlt => ?_)
    · have hlt' : j < xs.length := by omega
      have hO : isOpening xs[j].kind = decide (xs[j].kind = 4 ∨ xs[j].kind = 5) := by simp [isOpening]
      rw [cnt_step (m : Int) (by omega) (by omega)] at hb
      simp (disch := omega) only [go_sem, e0, e1, e6, e5, encStmt]
      refine CP.go (opens_c xs[j]) rfl rfl ?_
      simp only [hO]
      simp (disch := omega) only [go_sem, e0, e1, e6, e5, encStmt]
      repeat' (first | (refine CP.go (end_s xs j (by omega) hx) rfl (refs_args _ _ _) ?_ <;> simp (disch := omega) only [go_sem, e0, e1, e6, e5, encStmt]) | (refine condP_t (by assumption) ?_ <;> (try simp (disch := omega) only [go_sem, e0, e1, e6, e5, encStmt])) | (refine condP_f (by assumption) ?_ <;> (try simp (disch := omega) only [go_sem, e0, e1, e6, e5, encStmt])) | (refine condP_dec (fun h => ?_) (fun h => ?_) <;> (try simp (disch := omega) only [go_sem, e0, e1, e6, e5, encStmt])) | (refine condP_split (fun h => ?_) (fun h => ?_) <;> (try simp (disch := omega) only [go_sem, e0, e1, e6, e5, encStmt])))
      all_goals first
        | (refine nextP_intro (m - (j + 1)) (by omega) ⟨j + 1, c + 1, by omega, rfl, by omega, by omega, ?_, ?_, ?_, ?_, ?_⟩
           · simp (disch := omega) only [go_sem, e0, e1, e6, e5, encStmt]
           · simp (disch := omega) only [go_sem, e0, e1, e6, e5, encStmt]
           · simp (disch := omega) only [go_sem, e0, e1, e6, e5, encStmt]; rfl
           · simp (disch := omega) only [go_sem, e0, e1, e6, e5, encStmt]
           · rw [hb, if_pos ⟨by assumption, by assumption⟩]; push_cast; omega)
        | (refine nextP_intro (m - (j + 1)) (by omega) ⟨j + 1, c, by omega, rfl, by omega, by omega, ?_, ?_, ?_, ?_, ?_⟩
           · simp (disch := omega) only [go_sem, e0, e1, e6, e5, encStmt]
           · simp (disch := omega) only [go_sem, e0, e1, e6, e5, encStmt]
           · simp (disch := omega) only [go_sem, e0, e1, e6, e5, encStmt]; rfl
           · simp (disch := omega) only [go_sem, e0, e1, e6, e5, encStmt]
           · rw [hb, if_neg (by omega)]; push_cast; omega)
    · simp (disch := omega) only [go_sem, e0, e1, e6, e5, encStmt]
      have hk' : j = m := by omega
      subst hk'
      rw [hb]
      have : (xs.take j).drop j = [] := List.drop_eq_nil_of_le (by simp; omega)
      rw [this]
      simp [cntM]
  · rename_i hbk
    have hi := h
    have : depthOf xs i = -1 := by unfold depthOf; rw [if_neg (fun c => hi c.2)]
    rw [this]
  · have hbk := h
    have : depthOf xs i = -1 := by unfold depthOf; rw [if_neg (fun c => by rw [hbk] at c; exact Bool.noConfusion c.1)]
    rw [this]
end Go.Av

namespace Go.Av
open Go.Proofs Go.RowKit Go.Shelf
set_option linter.unusedVariables false
set_option linter.unusedSimpArgs false
set_option maxRecDepth 100000
set_option maxHeartbeats 4000000
def sortRen : Go.Shelf.Ren := ⟨fun | 189 => 194 | 125 => 236 | 257 => 235 | 128 => 262 | 129 => 263 | 294 => 253 | 295 => 254 | 296 => 255 | 297 => 256 | 298 => 257 | 299 => 258 | 216 => 259 | 300 => 260 | 301 => 261 | 328 => 271 | 329 => 272 | 330 => 273 | 331 => 274 | 332 => 275 | 215 => 276 | 343 => 279 | n => n, fun | 28 => 27 | 3 => 3 | 46 => 175 | 0 => 0 | 51 => 222 | 53 => 224 | 4 => 4 | 183 => 214 | 182 => 213 | 131 => 219 | 5 => 5 | 9 => 9 | 218 => 233 | 222 => 237 | 228 => 241 | 229 => 242 | n => n, fun n => n⟩
theorem sortLays : Lays.n189 Tryz.prog sortRen where
  mixed := by kernel_rfl
  f125 := Tryz.func236.trans (congrArg some (by kernel_rfl))
  f128 := Tryz.func262.trans (congrArg some (by kernel_rfl))
  f129 := Tryz.func263.trans (congrArg some (by kernel_rfl))
  f189 := Tryz.func194.trans (congrArg some (by kernel_rfl))
  f215 := Tryz.func276.trans (congrArg some (by kernel_rfl))
  f216 := Tryz.func259.trans (congrArg some (by kernel_rfl))
  f257 := Tryz.func235.trans (congrArg some (by kernel_rfl))
  f294 := Tryz.func253.trans (congrArg some (by kernel_rfl))
  f295 := Tryz.func254.trans (congrArg some (by kernel_rfl))
  f296 := Tryz.func255.trans (congrArg some (by kernel_rfl))
  f297 := Tryz.func256.trans (congrArg some (by kernel_rfl))
  f298 := Tryz.func257.trans (congrArg some (by kernel_rfl))
  f299 := Tryz.func258.trans (congrArg some (by kernel_rfl))
  f300 := Tryz.func260.trans (congrArg some (by kernel_rfl))
  f301 := Tryz.func261.trans (congrArg some (by kernel_rfl))
  f328 := Tryz.func271.trans (congrArg some (by kernel_rfl))
  f329 := Tryz.func272.trans (congrArg some (by kernel_rfl))
  f330 := Tryz.func273.trans (congrArg some (by kernel_rfl))
  f331 := Tryz.func274.trans (congrArg some (by kernel_rfl))
  f332 := Tryz.func275.trans (congrArg some (by kernel_rfl))
  f343 := Tryz.func279.trans (congrArg some (by kernel_rfl))
  t0 := Tryz.underlying0
  a0 := Tryz.isAgg0
  z0 := Tryz.sizeOf0
  v0 := Tryz.zeroValue0
  t3 := Tryz.underlying3
  a3 := Tryz.isAgg3
  z3 := Tryz.sizeOf3
  v3 := Tryz.zeroValue3
  t4 := Tryz.underlying4
  a4 := Tryz.isAgg4
  z4 := Tryz.sizeOf4
  v4 := Tryz.zeroValue4
  t5 := Tryz.underlying5
  a5 := Tryz.isAgg5
  z5 := Tryz.sizeOf5
  v5 := Tryz.zeroValue5
  t9 := Tryz.underlying9
  a9 := Tryz.isAgg9
  z9 := Tryz.sizeOf9
  v9 := Tryz.zeroValue9
  t28 := Tryz.underlying27
  a28 := Tryz.isAgg27
  z28 := Tryz.sizeOf27
  v28 := Tryz.zeroValue27
  t46 := Tryz.underlying175
  a46 := Tryz.isAgg175
  z46 := Tryz.sizeOf175
  v46 := Tryz.zeroValue175
  t51 := Tryz.underlying222
  a51 := Tryz.isAgg222
  z51 := Tryz.sizeOf222
  v51 := Tryz.zeroValue222
  t53 := Tryz.underlying224
  a53 := Tryz.isAgg224
  z53 := Tryz.sizeOf224
  v53 := Tryz.zeroValue224
  t131 := Tryz.underlying219
  a131 := Tryz.isAgg219
  z131 := Tryz.sizeOf219
  v131 := Tryz.zeroValue219
  t182 := Tryz.underlying213
  a182 := Tryz.isAgg213
  z182 := Tryz.sizeOf213
  v182 := Tryz.zeroValue213
  t183 := Tryz.underlying214
  a183 := Tryz.isAgg214
  z183 := Tryz.sizeOf214
  v183 := Tryz.zeroValue214
  t218 := Tryz.underlying233
  a218 := Tryz.isAgg233
  z218 := Tryz.sizeOf233
  v218 := Tryz.zeroValue233
  t222 := Tryz.underlying237
  a222 := Tryz.isAgg237
  z222 := Tryz.sizeOf237
  v222 := Tryz.zeroValue237
  t228 := Tryz.underlying241
  a228 := Tryz.isAgg241
  z228 := Tryz.sizeOf241
  v228 := Tryz.zeroValue241
  t229 := Tryz.underlying242
  a229 := Tryz.isAgg242
  z229 := Tryz.sizeOf242
  v229 := Tryz.zeroValue242
theorem sort_c {h : Heap} {id n : Nat} {zs : List Int} (hb : h[id]? = some (zs.map encI)) (hn : zs.length = n) (hm : n ≤ 1048576) : C Tryz.prog 194 [.own id 1 0 n n] h (fun r h' => r = .tup [] ∧ h' = h.set id ((srt zs).map encI)) :=
  sort_own (f := 194) (fun args w => by
      have hb : (Tryz.f194.name == "runtime.NumGoroutine") = false := by kernel_rfl
      have hb' : ¬ Tryz.f194.name = "runtime.NumGoroutine" := by simpa using hb
      have hc : Tryz.f194.body.isSome = true := by kernel_rfl
      obtain ⟨c, hc⟩ := Option.isSome_iff_exists.1 hc
      simp [callFunc, Tryz.func194, hb', hc])
    (fun blk off cap zs w h1 h2 h3 => Any.slices_Sort_int sortLays blk off cap zs w h1 h2 h3) (fun p cap w => Any.slices_Sort_int_none sortLays p cap w) hb hn (by omega)
def ddStep (acc : List Int) (z : Int) : List Int := if acc.getLast? = some z then acc else acc ++ [z]
def ddup (zs : List Int) : List Int := zs.foldl ddStep []
theorem ddup_succ {zs : List Int} {q : Nat} (h : q < zs.length) : ddup (zs.take (q + 1)) = ddStep (ddup (zs.take q)) zs[q] := by
  unfold ddup
  rw [List.take_succ_eq_append_getElem h, List.foldl_append]; rfl
theorem ddStep_last (acc : List Int) (z : Int) : (ddStep acc z).getLast? = some z := by
  unfold ddStep
  split
  · assumption
  · simp
theorem ddup_last {zs : List Int} {q : Nat} (h : q < zs.length) : (ddup (zs.take (q + 1))).getLast? = some zs[q] := by rw [ddup_succ h]; exact ddStep_last _ _
theorem ddup_next {zs : List Int} {q : Nat} (h : q + 1 < zs.length) : ddup (zs.take (q + 1 + 1)) = if zs[q + 1] = zs[q] then ddup (zs.take (q + 1)) else ddup (zs.take (q + 1)) ++ [zs[q + 1]] := by
  rw [ddup_succ h, ddStep, ddup_last (by omega)]
  by_cases e : zs[q + 1] = zs[q]
  · rw [if_pos (by rw [e]), if_pos e]
  · rw [if_neg (fun c => e (by simpa using c.symm)), if_neg e]
theorem ddup_len : ∀ (q : Nat) (zs : List Int), q ≤ zs.length → (ddup (zs.take q)).length ≤ q
  | 0, zs, _ => by simp [ddup]
  | q + 1, zs, h => by
    have := ddup_len q zs (by omega)
    rw [ddup_succ (by omega), ddStep]
    split
    · omega
    · simp; omega
theorem ddup_le (zs : List Int) : (ddup zs).length ≤ zs.length := by
  have := ddup_len zs.length zs (Nat.le_refl _)
  rwa [List.take_length] at this
theorem mem_ddStep {acc : List Int} {z x : Int} : x ∈ ddStep acc z ↔ x ∈ acc ∨ x = z := by
  unfold ddStep
  split
  · rename_i h
    have : z ∈ acc := List.mem_of_getLast? h
    constructor
    · exact .inl
    · rintro (h | rfl) <;> assumption
  · simp
theorem mem_ddFold {x : Int} : ∀ (zs acc : List Int), x ∈ zs.foldl ddStep acc ↔ x ∈ acc ∨ x ∈ zs
  | [], acc => by simp
  | z :: zs, acc => by rw [List.foldl_cons, mem_ddFold zs, mem_ddStep]; simp [or_assoc]
theorem mem_ddup {x : Int} {zs : List Int} : x ∈ ddup zs ↔ x ∈ zs := by simp [ddup, mem_ddFold]
theorem mem_srt {x : Int} {zs : List Int} : x ∈ srt zs ↔ x ∈ zs := List.mem_mergeSort
theorem storeH_row {h : Heap} {id n i sz : Nat} {b : Blk} {x : V} (hb : h[id]? = some b) (hn : b.length = n) (hi : i < n) (he : ∀ e ∈ b, e.length = sz) (hf : fit sz x.cells = true) : storeH h sz (.ptr id n i 0) x = some (h.set id (b.set i x.cells)) := by
  subst hn
  have h1 : b[i]? = some b[i] := List.getElem?_eq_getElem hi
  have h2 := he b[i] (List.getElem_mem hi)
  simp only [fit, Bool.and_eq_true, decide_eq_true_eq] at hf
  have h3 : splice b[i] 0 x.cells = x.cells := by
    have : b[i].drop x.cells.length = [] := List.drop_eq_nil_of_le (by omega)
    simp [splice, this]
  simp [storeH, storeB, hb, h1, hf.1, h2, h3]
  simpa using hf.2
def gtI (zs : List Int) (i : Nat) : Int := (zs[i]?).getD 0
theorem gtI_some {zs : List Int} {i : Nat} (h : i < zs.length) : zs[i]? = some (gtI zs i) := by simp [gtI, h]
theorem gtI_get {zs : List Int} {i : Nat} (h : i < zs.length) : zs[i] = gtI zs i := by simp [gtI, h]
theorem store_at {h : Heap} {id n i : Nat} {b c : Blk} {z : Int} (hb : h[id]? = some b) (hn : c.length = n) (hi : i < n) (hf : ∀ e ∈ c, e.length = 1) : storeH (h.set id c) 1 (.ptr id n i 0) (.int .i64 z) = some (h.set id (c.set i (encI z))) := by
  rw [storeH_row (heap_set c hb) hn hi hf rfl, List.set_set]; rfl
theorem compact_c {h : Heap} {id n : Nat} {zs : List Int} (hb : h[id]? = some (zs.map encI)) (hn : zs.length = n) (hm : n ≤ 1048576) : C Tryz.prog 195 [.own id 1 0 n n] h (fun r h' => r = .own id 1 0 (ddup zs).length n ∧ h' = h.set id ((ddup zs).map encI ++ List.replicate (n - (ddup zs).length) (encI 0))) := by
  subst hn
  have hself : h = h.set id (zs.map encI) := by
    obtain ⟨hl, he⟩ := List.getElem?_eq_some_iff.1 hb
    rw [← he, List.set_getElem_self]
  have hfull : ddup zs = zs → h = h.set id ((ddup zs).map encI ++ List.replicate (zs.length - (ddup zs).length) (encI 0)) := fun e => by rw [e]; simpa using hself
  refine C.by mixed (cfn_ok Tryz.func195 ok195) rfl ?_
  simp (disch := omega) only [s195, go_sem]
  refine condP_dec (fun hlt => ?_) (fun hlt => ?_)
  · simp (disch := omega) only [go_sem]
    have e : ddup zs = zs := by
      match zs, hlt with
      | [], _ => rfl
      | [x], _ => rfl
      | x :: y :: r, h => simp at h; omega
    rw [e]
    refine ⟨rfl, ?_⟩
    have := hfull e
    rwa [e] at this
  simp (disch := omega) only [go_sem]
  refine loopP_intro (fun m s => ∃ k : Nat, 1 ≤ k ∧ k ≤ zs.length ∧ m = zs.length - k ∧ s.e 0 = .own id 1 0 zs.length zs.length ∧ s.e 3 = .int .i64 k ∧ s.h = h ∧ ddup (zs.take k) = zs.take k) (zs.length - 1) ⟨1, by omega, by omega, by omega, by simp (disch := omega) only [go_sem], by simp (disch := omega) only [go_sem]; rfl, rfl, ?_⟩ ?_
  · match zs, hlt with
    | [], h => simp at h
    | x :: r, _ => rfl
  rintro m e hp ⟨k, hk1, hk2, rfl, e0, e3, rfl, hdd⟩
  simp only at e0 e3
  simp (disch := omega) only [go_sem, e0, e3]
  refine condP_dec (fun hlk => ?_) (fun hlk => ?_)
  · have hlk' : k < zs.length := by omega
    have hgk := gtI_some hlk'
    have hgk1 := gtI_some (zs := zs) (i := k - 1) (by omega)
    have tk1 : ((k : Int) - 1).toNat = k - 1 := by omega
    have hbl : (zs.map encI).length = zs.length := by simp
    simp (disch := omega) only [go_sem, e0, e3, hb, hgk, hgk1, tk1, hbl, List.getElem?_map, encI]
    refine condP_dec (fun heq => ?_) (fun heq => ?_)
    case' refine_2 =>
      simp (disch := omega) only [go_sem, e0, e3, hb, hgk, hgk1, tk1, hbl, List.getElem?_map, encI]
      refine nextP_intro (zs.length - (k + 1)) (by omega) ⟨k + 1, by omega, by omega, rfl, by simp (disch := omega) only [go_sem, e0, e3, hb, hgk, hgk1, tk1, hbl, List.getElem?_map, encI], by simp (disch := omega) only [go_sem, e0, e3, hb, hgk, hgk1, tk1, hbl, List.getElem?_map, encI]; rfl, rfl, ?_⟩
      obtain ⟨q, rfl⟩ : ∃ q, k = q + 1 := ⟨k - 1, by omega⟩
      rw [ddup_next hlk', if_neg (by rw [gtI_get, gtI_get]; exact heq), hdd, List.take_succ_eq_append_getElem hlk']
    simp (disch := omega) only [go_sem, e0, e3, hb, hgk, hgk1, tk1, hbl, List.getElem?_map, encI]
    refine loopP_intro (fun m s => ∃ (q i : Nat) (c : Blk), k + 1 ≤ q ∧ q ≤ zs.length ∧ m = zs.length - q ∧ i ≤ q - 1 ∧ i = (ddup (zs.take q)).length ∧ s.e 0 = .own id 1 0 zs.length zs.length ∧ s.e 3 = .int .i64 i ∧ s.e 4 = .own id 1 k (zs.length - k) zs.length ∧ s.e 5 = .int .i64 ((q : Int) - k) ∧ s.h = hp.set id c ∧ c.length = zs.length ∧ (∀ e ∈ c, e.length = 1) ∧ c.take i = (ddup (zs.take q)).map encI ∧ ∀ j, i ≤ j → j < zs.length → c[j]? = some (encI (gtI zs j))) (zs.length - (k + 1)) ⟨k + 1, k, zs.map encI, by omega, by omega, rfl, by omega, ?_, by simp (disch := omega) only [go_sem, e0, e3, hb, hgk, hgk1, tk1, hbl, List.getElem?_map, encI], by simp (disch := omega) only [go_sem, e0, e3, hb, hgk, hgk1, tk1, hbl, List.getElem?_map, encI], by simp (disch := omega) only [go_sem, e0, e3, hb, hgk, hgk1, tk1, hbl, List.getElem?_map, encI], ?_, hself, hbl, fun e he => by obtain ⟨x, _, rfl⟩ := List.mem_map.1 he; rfl, ?_, fun j _ hj => by rw [List.getElem?_map, gtI_some hj]; rfl⟩ ?_
    · obtain ⟨q, rfl⟩ : ∃ q, k = q + 1 := ⟨k - 1, by omega⟩
      rw [ddup_next hlk', if_pos (by rw [gtI_get, gtI_get]; exact heq), hdd]; simp; omega
    · simp (disch := omega) only [go_sem, e0, e3, hb, hgk, hgk1, tk1, hbl, List.getElem?_map, encI]
      exact congrArg (V.int .i64) (by omega)
    · obtain ⟨q, rfl⟩ : ∃ q, k = q + 1 := ⟨k - 1, by omega⟩
      rw [ddup_next hlk', if_pos (by rw [gtI_get, gtI_get]; exact heq), hdd, List.map_take]
    rintro m e h' ⟨q, i, c, hq1, hq2, rfl, hi1, hi2, e0, e3, e4, e5, rfl, hcn, hce, hct, hcj⟩
    simp only at e0 e3 e4 e5
    have hc := heap_set c hb
    simp (disch := omega) only [go_sem, e0, e3, e4, e5, hc]
    refine condP_dec (fun hlq => ?_) (fun hlq => ?_)
    · have hlq' : q < zs.length := by omega
      have hcq := hcj q (by omega) hlq'
      have hcq1 := hcj (q - 1) (by omega) (by omega)
      have tq : k + ((q : Int) - k).toNat = q := by omega
      have tq1 : k + ((q : Int) - k - 1).toNat = q - 1 := by omega
      have st := store_at (z := gtI zs q) hb hcn (show i < zs.length by omega) hce
      simp (disch := omega) only [go_sem, e0, e3, e4, e5, hc, hcq, hcq1, tq, tq1, hcn, st, encI]
      have hnx : ddup (zs.take (q + 1)) = if gtI zs q = gtI zs (q - 1) then ddup (zs.take q) else ddup (zs.take q) ++ [gtI zs q] := by
        obtain ⟨p, rfl⟩ : ∃ p, q = p + 1 := ⟨q - 1, by omega⟩
        rw [ddup_next hlq', gtI_get, gtI_get]; rfl
      have t5 : (q : Int) - k + 1 = ((q + 1 : Nat) : Int) - k := by omega
      refine condP_dec (fun hne => ?_) (fun hne => ?_)
      · rw [if_pos hne] at hnx
        simp (disch := omega) only [go_sem, e0, e3, e4, e5, hc, hcq, hcq1, tq, tq1, hcn, st, encI]
        refine nextP_intro (zs.length - (q + 1)) (by omega) ⟨q + 1, i, c, by omega, by omega, rfl, by omega, by rw [hnx]; exact hi2, by simp (disch := omega) only [go_sem, e0, e3, e4, e5, hc, hcq, hcq1, tq, tq1, hcn, st, encI], by simp (disch := omega) only [go_sem, e0, e3, e4, e5, hc, hcq, hcq1, tq, tq1, hcn, st, encI], by simp (disch := omega) only [go_sem, e0, e3, e4, e5, hc, hcq, hcq1, tq, tq1, hcn, st, encI], ?_, rfl, hcn, hce, by rw [hnx]; exact hct, hcj⟩
        simp (disch := omega) only [go_sem, e0, e3, e4, e5, hc, hcq, hcq1, tq, tq1, hcn, st, encI]
        exact congrArg (V.int .i64) t5
      · rw [if_neg hne] at hnx
        simp (disch := omega) only [go_sem, e0, e3, e4, e5, hc, hcq, hcq1, tq, tq1, hcn, st, encI]
        refine nextP_intro (zs.length - (q + 1)) (by omega) ⟨q + 1, i + 1, c.set i [.int .i64 (gtI zs q)], by omega, by omega, rfl, by omega, by rw [hnx]; simp [← hi2], by simp (disch := omega) only [go_sem, e0, e3, e4, e5, hc, hcq, hcq1, tq, tq1, hcn, st, encI], by simp (disch := omega) only [go_sem, e0, e3, e4, e5, hc, hcq, hcq1, tq, tq1, hcn, st, encI] <;> rfl, by simp (disch := omega) only [go_sem, e0, e3, e4, e5, hc, hcq, hcq1, tq, tq1, hcn, st, encI], ?_, rfl, by simpa using hcn, fun e he => ?_, ?_, fun j hj1 hj2 => ?_⟩
        · simp (disch := omega) only [go_sem, e0, e3, e4, e5, hc, hcq, hcq1, tq, tq1, hcn, st, encI]
          exact congrArg (V.int .i64) t5
        · rcases List.mem_or_eq_of_mem_set he with h4 | h4
          · exact hce e h4
          · rw [h4]; rfl
        · rw [hnx, List.map_append, ← hct, List.take_set, List.take_succ_eq_append_getElem (by omega), List.set_append_right _ _ (by simp; omega)]
          simp [hcn]
          have : min i zs.length = i := by omega
          rw [this]; simp [encI]
        · rw [List.getElem?_set_ne (by omega)]
          exact hcj j (by omega) hj2
    · simp (disch := omega) only [go_sem, e0, e3, e4, e5, hc]
      have hqe : q = zs.length := by omega
      subst hqe
      rw [List.take_length] at hi2 hct
      subst hi2
      have hdl := ddup_le zs
      have hcl : (ddup zs).length + (zs.length - (ddup zs).length) ≤ zs.length := by omega
      have hdr : c.drop ((ddup zs).length + (zs.length - (ddup zs).length)) = [] := List.drop_eq_nil_of_le (by omega)
      simp (disch := omega) only [go_sem, e0, e3, e4, e5, hc, hcn, hcl, hdr, hct, List.set_set]
      first | rfl | exact ⟨rfl, rfl⟩
  · simp (disch := omega) only [go_sem, e0, e3]
    have : k = zs.length := by omega
    subst this
    rw [List.take_length] at hdd
    rw [hdd]
    refine ⟨rfl, ?_⟩
    have := hfull hdd
    rwa [hdd] at this
def idxI {α : Type} (p : α → Bool) (ts : List α) : Int := if ts.any p = true then (ts.findIdx p : Int) else -1
theorem idxI_found {α : Type} {p : α → Bool} {ts : List α} {k : Nat} (hk : k < ts.length) (h : p ts[k] = true) (ha : ∀ j (hj : j < ts.length), j < k → p ts[j] = false) : idxI p ts = k := by
  have h1 : ts.findIdx p = k := (List.findIdx_eq hk).2 ⟨h, fun j hj => ha j (by omega) hj⟩
  have h2 : ts.any p = true := List.any_eq_true.2 ⟨ts[k], List.getElem_mem hk, h⟩
  rw [idxI, if_pos h2, h1]
theorem idxI_none {α : Type} {p : α → Bool} {ts : List α} (ha : ∀ j (hj : j < ts.length), p ts[j] = false) : idxI p ts = -1 := by
  rw [idxI, if_neg (fun c => by
    obtain ⟨t, ht, hn⟩ := List.any_eq_true.1 c
    obtain ⟨j, hj, rfl⟩ := List.getElem_of_mem ht
    rw [ha j hj] at hn; cases hn)]
theorem idxI_ge {α : Type} (p : α → Bool) (ts : List α) : decide (0 ≤ idxI p ts) = ts.any p := by
  unfold idxI
  cases h : ts.any p <;> simp
structure Hd (h : Heap) (id n : Nat) (b : Blk) (zs : List Int) : Prop where
  hb : h[id]? = some b
  hn : b.length = n
  hz : zs.length ≤ n
  ht : b.take zs.length = zs.map encI
  hf : flat b = true
  he : ∀ e ∈ b, e.length = 1
theorem Hd.at {h : Heap} {id n : Nat} {b : Blk} {zs : List Int} (H : Hd h id n b zs) {i : Nat} (hi : i < zs.length) : b[i]? = some (encI (gtI zs i)) := by
  have : (b.take zs.length)[i]? = some (encI (gtI zs i)) := by rw [H.ht, List.getElem?_map, gtI_some hi]; rfl
  rwa [List.getElem?_take_of_lt hi] at this
theorem refs_intsx (n : Nat) (zs : List Int) (x : V) (hx : V.refs n x = true) : V.refsL n [.lst 1 (zs.map encI), x] = true := by simp [V.refsL, V.refs, refsLL_map encI (fun _ => rfl) zs, hx]
theorem contains_c (zs : List Int) (x : Int) (hl : zs.length ≤ 9223372036854775807) : CP Tryz.prog 80 [.lst 1 (zs.map encI), .int .i64 x] (.bool (decide (x ∈ zs))) [] := by
  have ix : CP Tryz.prog 138 [.lst 1 (zs.map encI), .int .i64 x] (.int .i64 (idxI (fun z => decide (x = z)) zs)) [] := by
    refine CP.by rfl mixed (cfn_ok Tryz.func138 ok138) rfl ?_
    simp (disch := omega) only [s138, go_sem]
    refine loopP_intro (fun m s => ∃ k : Nat, k ≤ zs.length ∧ m = zs.length - k ∧ s.e 0 = .lst 1 (zs.map encI) ∧ s.e 1 = .int .i64 x ∧ s.e 7 = .int .i64 zs.length ∧ s.e 8 = .int .i64 k ∧ ∀ j (hj : j < zs.length), j < k → decide (x = zs[j]) = false) zs.length ⟨0, by omega, by omega, rfl, rfl, by simp (disch := omega) only [go_sem], rfl, fun j _ h => absurd h (by omega)⟩ ?_
    rintro m e hp ⟨k, hk, rfl, e0, e1, e7, e8, hall⟩
    simp only at e0 e1 e7 e8
    simp (disch := omega) only [go_sem, e0, e1, e7, e8, encI]
    refine condP_dec (fun hlt => ?_) (fun hlt => ?_)
    · have hlt' : k < zs.length := by omega
      simp (disch := omega) only [go_sem, e0, e1, e7, e8, encI]
      refine condP_dec (fun h => ?_) (fun h => ?_)
      · simp (disch := omega) only [go_sem, e0, e1, e7, e8, encI]
        rw [idxI_found hlt' (by simpa using h) hall]
      · simp (disch := omega) only [go_sem, e0, e1, e7, e8, encI]
        refine nextP_intro (zs.length - (k + 1)) (by omega) ⟨k + 1, by omega, rfl, ?_, ?_, ?_, ?_, fun j hj hjk => ?_⟩
        · simp (disch := omega) only [go_sem, e0, e1, e7, e8, encI]
        · simp (disch := omega) only [go_sem, e0, e1, e7, e8, encI]
        · simp (disch := omega) only [go_sem, e0, e1, e7, e8, encI]
        · simp (disch := omega) only [go_sem, e0, e1, e7, e8, encI]; rfl
        · by_cases e : j = k
          · subst e; simpa using h
          · exact hall j hj (by omega)
    · simp (disch := omega) only [go_sem, e0, e1, e7, e8, encI]
      rw [idxI_none (fun j hj => hall j hj (by omega))]
  refine CP.by rfl mixed (cfn_ok Tryz.func80 ok80) rfl ?_
  simp (disch := omega) only [s80, go_sem]
  refine CP.go ix rfl (refs_intsx _ _ _ rfl) ?_
  simp (disch := omega) only [go_sem, idxI_ge]
  have : zs.any (fun z => decide (x = z)) = decide (x ∈ zs) := by
    rw [Bool.eq_iff_iff]; simp
  rw [this]
end Go.Av

namespace Go.Av
open Go.Proofs Go.RowKit
set_option linter.unusedVariables false
set_option linter.unusedSimpArgs false
set_option maxRecDepth 100000
set_option maxHeartbeats 4000000
theorem exprOk_facts {e : Expr} (h : exprOk e = true) : (1 ≤ e.op ∧ e.op ≤ 7) ∧ (-8 ≤ e.a ∧ e.a ≤ 999) ∧ (-8 ≤ e.b ∧ e.b ≤ 999) := by
  simp only [exprOk, operandOk, within, Bool.and_eq_true, decide_eq_true_eq] at h
  exact ⟨h.1.1, h.1.2, h.2⟩
def readsK (e : Expr) (k : Int) : Prop := 0 ≤ k ∧ (e.a = -1 - k ∨ e.b = -1 - k)
def colE (e : Expr) : Nat → List Int
  | 0 => []
  | 1 => if e.a < 0 then [-1 - e.a] else []
  | _ => (if e.a < 0 then [-1 - e.a] else []) ++ (if e.b < 0 then [-1 - e.b] else [])
def readsI (e : Expr) : List Int := if exprOk e = true then ddup (srt (colE e 2)) else []
theorem mem_readsI {e : Expr} (h : exprOk e = true) {k : Int} : k ∈ readsI e ↔ readsK e k := by
  unfold readsI readsK
  rw [if_pos h, mem_ddup, mem_srt]
  simp only [colE, List.mem_append]
  have ha : ∀ x : Int, k ∈ (if x < 0 then [-1 - x] else []) ↔ 0 ≤ k ∧ x = -1 - k := fun x => by
    split
    · simp; omega
    · simp; omega
  rw [ha, ha]
  constructor
  · rintro (⟨h1, h2⟩ | ⟨h1, h2⟩)
    · exact ⟨h1, .inl h2⟩
    · exact ⟨h1, .inr h2⟩
  · rintro ⟨h1, h2 | h2⟩
    · exact .inl ⟨h1, h2⟩
    · exact .inr ⟨h1, h2⟩
theorem col_len (e : Expr) (k : Nat) : (colE e k).length ≤ 2 := by
  unfold colE
  split
  · simp
  · split <;> simp
  · split <;> split <;> simp
theorem readsOf_c (e : Expr) : Pt Tryz.prog 140 [.agg (encExpr e)] (readsI e) := by
  refine C.by mixed (cfn_ok Tryz.func140 ok140) rfl ?_
  simp (disch := omega) only [s140, go_sem, encExpr]
  refine CP.go (exprOk_c e) rfl rfl ?_
  simp (disch := omega) only [go_sem]
  refine condP_split (fun hk => ?_) (fun hk => ?_)
  case' refine_2 =>
    simp (disch := omega) only [go_sem]
    have : readsI e = [] := by simp [readsI, hk]
    rw [this]
    exact ⟨[], .inl ⟨rfl, rfl, rfl⟩⟩
  have hf := exprOk_facts hk
  simp (disch := omega) only [go_sem]
  refine loopP_intro (fun m s => ∃ (k l : Nat), k ≤ 2 ∧ m = 2 - k ∧ s.e 3 = .own l 1 0 (colE e k).length (colE e k).length ∧ s.e 14 = .own 2 1 0 2 2 ∧ s.e 15 = .int .i64 2 ∧ s.e 16 = .int .i64 k ∧ Sep s.h [.k l ((colE e k).map encI), .k 2 [encI e.a, encI e.b]]) 2 ⟨0, 1, by omega, by omega, by simp (disch := omega) only [go_sem]; rfl, by simp (disch := omega) only [go_sem], by simp (disch := omega) only [go_sem]; rfl, by simp (disch := omega) only [go_sem]; rfl, ⟨[1, 2], by simp, [1], [2], rfl, ⟨rfl, rfl⟩, [2], [], rfl, ⟨rfl, rfl⟩, rfl⟩⟩ ?_
  rintro m e' hp ⟨k, l, hk2, rfl, e3, e14, e15, e16, S⟩
  simp only at e3 e14 e15 e16 S
  have hq := S.blk 1 rfl
  simp (disch := omega) only [go_sem, e3, e14, e15, e16, hq, encI]
  refine condP_dec (fun hlt => ?_) (fun hlt => ?_)
  · have hv : ∃ v : Int, ([encI e.a, encI e.b] : Blk)[k]? = some (encI v) ∧ colE e (k + 1) = colE e k ++ (if v < 0 then [-1 - v] else []) ∧ (-8 ≤ v ∧ v ≤ 999) := by
      have : k = 0 ∨ k = 1 := by omega
      rcases this with rfl | rfl
      · exact ⟨e.a, rfl, by simp [colE], hf.2.1⟩
      · exact ⟨e.b, rfl, by simp [colE], hf.2.2⟩
    refine Exists.elim hv fun v z => ?_
    have hv1 := z.1
    have hv2 := z.2.1
    have hv3 := z.2.2
    clear z hv
    simp only [encI] at hv1
    simp (disch := omega) only [go_sem, e3, e14, e15, e16, hq, hv1, encI]
    refine condP_dec (fun hneg => ?_) (fun hneg => ?_)
    · rw [if_pos hneg] at hv2
      have hcl := col_len e k
      have ha := append1 (sz := 1) (bytes := 8) (c := encI (-1 - v)) (S.blk 0 rfl) (n := (colE e k).length) (by simp) (by omega)
      simp only [encI] at ha
      simp (disch := omega) only [go_sem, e3, e14, e15, e16, hq, hv1, ha, encI]
      have hl1 : (colE e (k + 1)).length = (colE e k).length + 1 := by rw [hv2]; simp
      refine nextP_intro (2 - (k + 1)) (by omega) ⟨k + 1, l, by omega, rfl, ?_, by simp (disch := omega) only [go_sem, e3, e14, e15, e16, hq, hv1, ha, encI], by simp (disch := omega) only [go_sem, e3, e14, e15, e16, hq, hv1, ha, encI], by simp (disch := omega) only [go_sem, e3, e14, e15, e16, hq, hv1, ha, encI]; rfl, ?_⟩
      · rw [hl1]; simp (disch := omega) only [go_sem, e3, e14, e15, e16, hq, hv1, ha, encI]
      · have := (S.app [[encI (-1 - v)]]).setK ((colE e k).map encI ++ [encI (-1 - v)])
        rw [hv2, List.map_append]
        exact this
    · rw [if_neg hneg, List.append_nil] at hv2
      simp (disch := omega) only [go_sem, e3, e14, e15, e16, hq, hv1, encI]
      refine nextP_intro (2 - (k + 1)) (by omega) ⟨k + 1, l, by omega, rfl, ?_, by simp (disch := omega) only [go_sem, e3, e14, e15, e16, hq, hv1, encI], by simp (disch := omega) only [go_sem, e3, e14, e15, e16, hq, hv1, encI], by simp (disch := omega) only [go_sem, e3, e14, e15, e16, hq, hv1, encI]; rfl, ?_⟩
      · rw [hv2]; simp (disch := omega) only [go_sem, e3, e14, e15, e16, hq, hv1, encI]
      · rw [hv2]; exact S
  · have : k = 2 := by omega
    subst this
    have hcl := col_len e 2
    simp (disch := omega) only [go_sem, e3, e14, e15, e16, hq, encI]
    refine C.go (sort_c (S.blk 0 rfl) rfl (by omega)) ?_
    rintro r h' ⟨rfl, rfl⟩
    have S1 := S.setK ((srt (colE e 2)).map encI)
    simp (disch := omega) only [go_sem, e3, e14, e15, e16, hq, encI]
    refine C.go (compact_c (zs := srt (colE e 2)) (S1.blk 0 rfl) (srt_len _) (by omega)) ?_
    rintro r h' ⟨rfl, rfl⟩
    have S2 := S1.setK ((ddup (srt (colE e 2))).map encI ++ List.replicate ((colE e 2).length - (ddup (srt (colE e 2))).length) (encI 0))
    simp (disch := omega) only [go_sem, e3, e14, e15, e16, hq, encI]
    have hdl := ddup_le (srt (colE e 2))
    rw [srt_len] at hdl
    have he : readsI e = ddup (srt (colE e 2)) := by simp [readsI, hk]
    rw [he]
    refine (S2.toP (n := (colE e 2).length) (by simp; omega) hdl (List.take_left' (by simp)) ?_).pret
    simp [rows1, encI, V.scalar]
end Go.Av

namespace Go.Av
set_option linter.unusedVariables false
set_option linter.unusedSimpArgs false
inductive Tr where
  | nil
  | one (s : Stmt) (r : Tr)
  | grp (s : Stmt) (a r : Tr)
def endS : Stmt := ⟨6, 0, 0, ⟨0, 0, 0⟩⟩
def Tr.flat : Tr → List Stmt
  | .nil => []
  | .one s r => s :: r.flat
  | .grp s a r => s :: (a.flat ++ endS :: r.flat)
def Tr.ok : Tr → Bool
  | .nil => true
  | .one s r => stmtOk s && (decide (s.kind = 1) || decide (s.kind = 2) || decide (s.kind = 3)) && r.ok
  | .grp s a r => stmtOk s && (decide (s.kind = 4) || decide (s.kind = 5)) && a.ok && r.ok
def Tr.size : Tr → Nat
  | .nil => 0
  | .one s r => 1 + r.size
  | .grp s a r => 1 + a.size + r.size
theorem Tr.one_ok {s : Stmt} {r : Tr} (h : (Tr.one s r).ok = true) : stmtOk s = true ∧ (s.kind = 1 ∨ s.kind = 2 ∨ s.kind = 3) ∧ r.ok = true := by
  simp only [Tr.ok, Bool.and_eq_true, Bool.or_eq_true, decide_eq_true_eq] at h
  exact ⟨h.1.1, by rcases h.1.2 with (h | h) | h <;> simp [h], h.2⟩
theorem Tr.grp_ok {s : Stmt} {a r : Tr} (h : (Tr.grp s a r).ok = true) : stmtOk s = true ∧ (s.kind = 4 ∨ s.kind = 5) ∧ a.ok = true ∧ r.ok = true := by
  simp only [Tr.ok, Bool.and_eq_true, Bool.or_eq_true, decide_eq_true_eq] at h
  exact ⟨h.1.1.1, h.1.1.2, h.1.2, h.2⟩
theorem stmt_end {s : Stmt} (h : stmtOk s = true) (hk : s.kind = 6) : s = endS := by
  obtain ⟨kind, var, n, ⟨op, a, b⟩⟩ := s
  simp only at hk
  subst hk
  simp [stmtOk, hasVar, hasExpr, within] at h
  obtain ⟨⟨h1, h2, h3, h4⟩, h5⟩ : (var = 0 ∧ op = 0 ∧ a = 0 ∧ b = 0) ∧ n = 0 := by simpa [and_assoc] using h
  subst h1 h2 h3 h4 h5; rfl
theorem stmt_kinds {s : Stmt} (h : stmtOk s = true) : 1 ≤ s.kind ∧ s.kind ≤ 6 := by
  unfold stmtOk at h
  split at h
  · cases h
  · rename_i hc
    simp only [Bool.or_eq_true, not_or, within] at hc
    have := hc.1.1
    simp at this
    exact this
theorem delta_of (s : Stmt) : delta s.kind = if s.kind = 4 ∨ s.kind = 5 then 1 else if s.kind = 6 then -1 else 0 := by
  have := dlt_def s
  unfold dlt at this
  rw [this]
  split
  · rw [if_neg (by omega)]; rfl
  · split <;> rfl
theorem tree_of : ∀ (n : Nat) (xs : List Stmt) (d : Int), xs.length ≤ n → 0 ≤ d → blockFrom d xs = true →
    ∃ t : Tr, t.ok = true ∧ ((d = 0 ∧ xs = t.flat) ∨ ∃ rest, xs = t.flat ++ endS :: rest ∧ 0 < d ∧ blockFrom (d - 1) rest = true)
  | n, [], d, hn, hd, h => by
    unfold blockFrom at h
    exact ⟨.nil, rfl, .inl ⟨by simpa using h, rfl⟩⟩
  | 0, s :: xs, d, hn, hd, h => by simp at hn
  | n + 1, s :: xs, d, hn, hd, h => by
    simp only [List.length_cons] at hn
    unfold blockFrom at h
    split at h
    case isFalse => cases h
    rename_i hc
    obtain ⟨hs, h0, h3⟩ := hc
    have hk := stmt_kinds hs
    rw [delta_of] at h h0 h3
    by_cases h45 : s.kind = 4 ∨ s.kind = 5
    · rw [if_pos h45] at h
      obtain ⟨a, ha, hb⟩ := tree_of n xs (d + 1) (by omega) (by omega) h
      rcases hb with ⟨e, _⟩ | ⟨rest, e, _, hr⟩
      · omega
      · have hl : rest.length ≤ n := by
          have := congrArg List.length e
          simp only [List.length_append, List.length_cons] at this
          omega
        obtain ⟨r, hr1, hr2⟩ := tree_of n rest (d + 1 - 1) hl (by omega) hr
        have hok : (Tr.grp s a r).ok = true := by simp [Tr.ok, hs, ha, hr1, h45]
        refine ⟨.grp s a r, hok, ?_⟩
        rcases hr2 with ⟨e1, e2⟩ | ⟨rest', e1, e2, e3⟩
        · refine .inl ⟨by omega, ?_⟩
          rw [e, e2]; rfl
        · refine .inr ⟨rest', ?_, by omega, by rw [show d + 1 - 1 - 1 = d - 1 by omega] at e3; exact e3⟩
          rw [e, e1]; simp [Tr.flat]
    · rw [if_neg h45] at h h0 h3
      by_cases h6 : s.kind = 6
      · rw [if_pos h6] at h h0
        refine ⟨.nil, rfl, .inr ⟨xs, ?_, by omega, by rw [show d - 1 = d + -1 by omega]; exact h⟩⟩
        rw [stmt_end hs h6]; rfl
      · rw [if_neg h6] at h
        obtain ⟨r, hr1, hr2⟩ := tree_of n xs (d + 0) (by omega) (by omega) h
        have hok : (Tr.one s r).ok = true := by
          simp only [Tr.ok, hs, hr1, Bool.true_and, Bool.and_true, Bool.or_eq_true, decide_eq_true_eq]
          omega
        refine ⟨.one s r, hok, ?_⟩
        rcases hr2 with ⟨e1, e2⟩ | ⟨rest', e1, e2, e3⟩
        · exact .inl ⟨by omega, by rw [e2]; rfl⟩
        · exact .inr ⟨rest', by rw [e1]; rfl, by omega, by rw [show d + 0 - 1 = d - 1 by omega] at e3; exact e3⟩
theorem block_tree {xs : List Stmt} (h : blockOk xs = true) : ∃ t : Tr, t.ok = true ∧ xs = t.flat ∧ xs.length ≤ 24 := by
  simp only [blockOk, Bool.and_eq_true, decide_eq_true_eq] at h
  obtain ⟨t, h1, h2⟩ := tree_of xs.length xs 0 (Nat.le_refl _) (by omega) h.1
  rcases h2 with ⟨_, e⟩ | ⟨_, _, e, _⟩
  · exact ⟨t, h1, e, by omega⟩
  · omega
end Go.Av

namespace Go.Av
open Go.Proofs Go.RowKit
set_option linter.unusedVariables false
set_option linter.unusedSimpArgs false
set_option maxRecDepth 100000
set_option maxHeartbeats 4000000
end Go.Av

namespace Go.Av
open Go.Proofs Go.RowKit
set_option linter.unusedVariables false
set_option linter.unusedSimpArgs false
set_option maxRecDepth 100000
set_option maxHeartbeats 4000000
def endO : Int → Int → List Stmt → Int
  | _, _, [] => -1
  | c, p, x :: s => if c + dlt x = 0 then p else endO (c + dlt x) (p + 1) s
theorem endO_cons (c p : Int) (x : Stmt) (s : List Stmt) : endO c p (x :: s) = if c + dlt x = 0 then p else endO (c + dlt x) (p + 1) s := rfl
theorem endO_tree : ∀ (t : Tr) (c p : Int) (v : List Stmt), t.ok = true → 1 ≤ c → endO c p (t.flat ++ v) = endO c (p + t.flat.length) v
  | .nil, c, p, v, h, hc => by simp [Tr.flat]
  | .one s r, c, p, v, h, hc => by
    obtain ⟨hs, hk, hr⟩ := Tr.one_ok h
    have hd : dlt s = 0 := by rw [dlt_def, if_neg (by omega), if_neg (by omega)]; rfl
    simp only [Tr.flat, List.cons_append, List.length_cons]
    rw [endO_cons, if_neg (by omega), hd, endO_tree r (c + 0) (p + 1) v hr (by omega)]
    congr 1 <;> push_cast <;> omega
  | .grp s a r, c, p, v, h, hc => by
    obtain ⟨hs, hk, ha, hr⟩ := Tr.grp_ok h
    have hd : dlt s = 1 := by rw [dlt_def, if_pos hk, if_neg (by omega)]; rfl
    have he : dlt endS = -1 := by rw [dlt_def]; rfl
    simp only [Tr.flat, List.cons_append, List.length_cons, List.append_assoc, List.length_append]
    rw [endO_cons, if_neg (by omega), hd, endO_tree a (c + 1) (p + 1) _ ha (by omega)]
    rw [endO_cons, if_neg (by rw [he]; omega), he, endO_tree r _ _ v hr (by omega)]
    congr 1 <;> push_cast <;> omega
theorem endO_grp {s : Stmt} {a : Tr} (p : Int) (v : List Stmt) (hk : s.kind = 4 ∨ s.kind = 5) (ha : a.ok = true) : endO 0 p (s :: (a.flat ++ endS :: v)) = p + 1 + a.flat.length := by
  have hd : dlt s = 1 := by rw [dlt_def, if_pos hk, if_neg (by omega)]; rfl
  have he : dlt endS = -1 := by rw [dlt_def]; rfl
  rw [endO_cons, if_neg (by omega), hd, endO_tree a (0 + 1) (p + 1) _ ha (by omega)]
  rw [endO_cons, if_pos (by rw [he]; rfl)]
theorem endO_c (xs : List Stmt) (j : Nat) (hj : j ≤ xs.length) (hx : xs.length ≤ 9223372036854775807) : CP Tryz.prog 161 [.lst 6 (xs.map encStmt), .int .i64 j] (.int .i64 (endO 0 j (xs.drop j))) [] := by
  refine CP.by rfl mixed (cfn_ok Tryz.func161 ok161) rfl ?_
  simp (disch := omega) only [s161, go_sem]
  refine loopP_intro (fun m s => ∃ (k : Nat) (c : Int), k ≤ xs.length ∧ m = xs.length - k ∧ -(k : Int) ≤ c ∧ c ≤ k ∧ s.e 0 = .lst 6 (xs.map encStmt) ∧ s.e 6 = .int .i64 k ∧ s.e 5 = .int .i64 c ∧ endO 0 j (xs.drop j) = endO c k (xs.drop k)) (xs.length - j) ⟨j, 0, by omega, by omega, by omega, by omega, rfl, by simp (disch := omega) only [go_sem], by simp (disch := omega) only [go_sem], rfl⟩ ?_
  rintro m e h ⟨k, c, hk, rfl, hc1, hc2, e0, e6, e5, hb⟩
  simp only at e0 e6 e5
  simp (disch := omega) only [go_sem, e0, e6, e5, encStmt]
  refine condP_dec (fun hlt => ?_) (fun hlt => ?_)
  · have hlt' : k < xs.length := by omega
    obtain ⟨hd4, hd5, hd6, hd0⟩ := delta_facts xs[k].kind
    have hO : isOpening xs[k].kind = decide (xs[k].kind = 4 ∨ xs[k].kind = 5) := by simp [isOpening]
    have hs : endO c k (xs.drop k) = if c + delta xs[k].kind = 0 then (k : Int) else endO (c + delta xs[k].kind) (k + 1) (xs.drop (k + 1)) := by
      rw [List.drop_eq_getElem_cons hlt']; rfl
    simp (disch := omega) only [go_sem, e0, e6, e5, encStmt]
    refine CP.go (isOpening_c xs[k].kind) rfl rfl ?_
    simp only [hO]
    simp (disch := omega) only [go_sem, e0, e6, e5, encStmt]
    repeat' (first | (refine condP_t (by assumption) ?_ <;> (try simp (disch := omega) only [go_sem, e0, e6, e5, encStmt])) | (refine condP_f (by assumption) ?_ <;> (try simp (disch := omega) only [go_sem, e0, e6, e5, encStmt])) | (refine condP_dec (fun h => ?_) (fun h => ?_) <;> (try simp (disch := omega) only [go_sem, e0, e6, e5, encStmt])) | (refine condP_split (fun h => ?_) (fun h => ?_) <;> (try simp (disch := omega) only [go_sem, e0, e6, e5, encStmt])))
    all_goals first
      | (refine nextP_intro (xs.length - (k + 1)) (by omega) ⟨k + 1, c + delta xs[k].kind, by omega, rfl, by omega, by omega, ?_, ?_, ?_, ?_⟩
         · simp (disch := omega) only [go_sem, e0, e6, e5, encStmt]
         · simp (disch := omega) only [go_sem, e0, e6, e5, encStmt]; rfl
         · simp (disch := omega) only [go_sem, e0, e6, e5, encStmt]; congr 1; omega
         · rw [hb, hs, if_neg (by omega)]; rfl)
      | (rw [hb, hs, if_pos (by omega)])
  · simp (disch := omega) only [go_sem, e0, e6, e5, encStmt]
    have hk' : k = xs.length := by omega
    subst hk'
    rw [hb, List.drop_length]
    rfl
end Go.Av

namespace Go.Av
open Go.Proofs Go.RowKit
set_option linter.unusedVariables false
set_option linter.unusedSimpArgs false
set_option maxRecDepth 100000
set_option maxHeartbeats 4000000
theorem stmt_var {s : Stmt} (h : stmtOk s = true) (hv : hasVar s.kind = true) : 0 ≤ s.var ∧ s.var < 8 := by
  unfold stmtOk at h
  split at h
  · cases h
  · rename_i hc
    simp only [Bool.or_eq_true, not_or, hv, Bool.true_and, Bool.not_true, Bool.false_and] at hc
    have := hc.1.2
    simp [isVar, within] at this
    omega
def vars (xs : List Stmt) : List Int := (xs.filter fun s => hasVar s.kind).map (·.var)
theorem drop_head {xs : List Stmt} {k : Nat} {s : Stmt} {v : List Stmt} (h : xs.drop k = s :: v) : ∃ hk : k < xs.length, xs[k] = s ∧ xs.drop (k + 1) = v := by
  have hk : k < xs.length := by
    rcases Nat.lt_or_ge k xs.length with h1 | h1
    · exact h1
    · rw [List.drop_eq_nil_of_le h1] at h; cases h
  rw [List.drop_eq_getElem_cons hk] at h
  cases h
  exact ⟨hk, rfl, rfl⟩
theorem drop_skip {xs : List Stmt} {k : Nat} {a v : List Stmt} (h : xs.drop k = a ++ v) : xs.drop (k + a.length) = v := by
  rw [← List.drop_drop, h, List.drop_left]
end Go.Av

namespace Go.Av
open Go.Proofs Go.RowKit
set_option linter.unusedVariables false
set_option linter.unusedSimpArgs false
set_option maxRecDepth 100000
set_option maxHeartbeats 4000000
theorem stmt_expr {s : Stmt} (h : stmtOk s = true) (hv : hasExpr s.kind = true) : exprOk s.e = true := by
  unfold stmtOk at h
  split at h
  · cases h
  · split at h
    · cases h
    · rename_i hc
      simp only [Bool.or_eq_true, not_or, hv, Bool.true_and, Bool.not_true, Bool.false_and] at hc
      simpa using hc.1
theorem Sep.sw {h : Heap} {a b : It} {L : List It} (S : Sep h (a :: b :: L)) : Sep h (b :: a :: L) := S.perm (.swap _ _ _)
theorem take_mid {xs : List Stmt} {k : Nat} {s : Stmt} {a v : List Stmt} (h : xs.drop k = s :: (a ++ v)) : (xs.take (k + 1 + a.length)).drop (k + 1) = a := by
  rw [List.drop_take, show k + 1 + a.length - (k + 1) = a.length by omega, ← List.drop_drop, h, List.drop_succ_cons, List.drop_zero, List.take_left]
end Go.Av

namespace Go.Av
open Go.Proofs Go.RowKit
set_option linter.unusedVariables false
set_option linter.unusedSimpArgs false
set_option maxRecDepth 100000
set_option maxHeartbeats 4000000
end Go.Av

namespace Go.Av
open Go.Proofs Go.RowKit
set_option linter.unusedVariables false
set_option linter.unusedSimpArgs false
set_option maxRecDepth 100000
set_option maxHeartbeats 4000000
def sat (x : Int) : Int := if x < -1000000 then -1000000 else if 1000000 < x then 1000000 else x
theorem sat_bd (x : Int) : -1000000 ≤ sat x ∧ sat x ≤ 1000000 := by unfold sat; split <;> (try split) <;> omega
theorem sat_mul (x y : Int) : -9223372036854775808 ≤ sat x * sat y ∧ sat x * sat y ≤ 9223372036854775807 := by
  have h1 := sat_bd x
  have h2 := sat_bd y
  have h3 : (sat x * sat y).natAbs ≤ 1000000 * 1000000 := by
    rw [Int.natAbs_mul]
    exact Nat.mul_le_mul (by omega) (by omega)
  omega
theorem sat_c (x : Int) : CP Tryz.prog 237 [.int .i64 x] (.int .i64 (sat x)) [] := by
  have clamp : CP Tryz.prog 234 [.int .i64 x, .int .i64 (-1000000), .int .i64 1000000] (.int .i64 (sat x)) [] := by
    refine CP.by rfl mixed (cfn_ok Tryz.func234 ok234) rfl ?_
    simp (disch := omega) only [s234, go_sem]
    refine congrArg (V.int .i64) ?_
    unfold sat; split <;> (try split) <;> omega
  refine CP.by rfl mixed (cfn_ok Tryz.func237 ok237) rfl ?_
  simp (disch := omega) only [s237, go_sem]
  refine CP.go clamp rfl rfl ?_
  simp (disch := omega) only [go_sem]
theorem add_c (x y : Int) : CP Tryz.prog 197 [.int .i64 x, .int .i64 y] (.int .i64 (sat (sat x + sat y))) [] := by
  have h1 := sat_bd x
  have h2 := sat_bd y
  refine CP.by rfl mixed (cfn_ok Tryz.func197 ok197) rfl ?_
  simp (disch := omega) only [s197, go_sem]
  refine CP.go (sat_c _) rfl rfl ?_
  simp (disch := omega) only [go_sem]
  refine CP.go (sat_c _) rfl rfl ?_
  simp (disch := omega) only [go_sem]
  refine CP.go (sat_c _) rfl rfl ?_
  simp (disch := omega) only [go_sem]
theorem sub_c (x y : Int) : CP Tryz.prog 198 [.int .i64 x, .int .i64 y] (.int .i64 (sat (sat x - sat y))) [] := by
  have h1 := sat_bd x
  have h2 := sat_bd y
  refine CP.by rfl mixed (cfn_ok Tryz.func198 ok198) rfl ?_
  simp (disch := omega) only [s198, go_sem]
  refine CP.go (sat_c _) rfl rfl ?_
  simp (disch := omega) only [go_sem]
  refine CP.go (sat_c _) rfl rfl ?_
  simp (disch := omega) only [go_sem]
  refine CP.go (sat_c _) rfl rfl ?_
  simp (disch := omega) only [go_sem]
theorem mul_c (x y : Int) : CP Tryz.prog 199 [.int .i64 x, .int .i64 y] (.int .i64 (sat (sat x * sat y))) [] := by
  have h1 := sat_bd x
  have h2 := sat_bd y
  have hw : IntKind.wrap .i64 (sat x * sat y) = sat x * sat y := wrap64 (sat_mul x y).1 (sat_mul x y).2
  refine CP.by rfl mixed (cfn_ok Tryz.func199 ok199) rfl ?_
  simp (disch := omega) only [s199, go_sem]
  refine CP.go (sat_c _) rfl rfl ?_
  simp (disch := omega) only [go_sem]
  refine CP.go (sat_c _) rfl rfl ?_
  simp (disch := omega) only [go_sem, hw]
  refine CP.go (sat_c _) rfl rfl ?_
  simp (disch := omega) only [go_sem]
def bitI (b : Bool) : Int := if b = true then 1 else 0
theorem bit_c (b : Bool) : CP Tryz.prog 71 [.bool b] (.int .i64 (bitI b)) [] := by
  refine CP.by rfl mixed (cfn_ok Tryz.func71 ok71) rfl ?_
  simp (disch := omega) only [s71, go_sem]
  cases b <;> simp (disch := omega) only [go_sem] <;> rfl
def valOf (zs : List Int) (x : Int) : Int := if x < 0 then (zs[(-1 - x).toNat]?).getD 0 else x
theorem operand_c (zs : List Int) (x : Int) (hl : -1 - x < zs.length) (hb : -1000000 ≤ x) : CP Tryz.prog 196 [.lst 1 (zs.map encI), .int .i64 x] (.int .i64 (valOf zs x)) [] := by
  refine CP.by rfl mixed (cfn_ok Tryz.func196 ok196) rfl ?_
  simp (disch := omega) only [s196, go_sem, encI]
  refine condP_dec (fun h => ?_) (fun h => ?_)
  · have hlt : (-1 - x).toNat < zs.length := by omega
    simp (disch := omega) only [go_sem, encI]
    simp [valOf, h, hlt]
  · simp (disch := omega) only [go_sem]
    simp [valOf, h]
def isValue (x : Int) : Bool := within x (-1000000) 1000000
theorem isValue_c (x : Int) : CP Tryz.prog 145 [.int .i64 x] (.bool (isValue x)) [] := by
  refine CP.by rfl mixed (cfn_ok Tryz.func145 ok145) rfl ?_
  simp (disch := omega) only [s145, go_sem]
  refine CP.go (within_c _ _ _) rfl rfl ?_
  simp (disch := omega) only [go_sem]
  rfl
theorem notValue_c (x : Int) : CP Tryz.prog 144 [.int .i64 x] (.bool (!isValue x)) [] := by
  refine CP.by rfl mixed (cfn_ok Tryz.func144 ok144) rfl ?_
  simp (disch := omega) only [s144, go_sem]
  refine CP.go (isValue_c _) rfl rfl ?_
  simp (disch := omega) only [go_sem]
def evalE (zs : List Int) (e : Expr) : Int :=
  let a := valOf zs e.a
  let b := valOf zs e.b
  if e.op = 1 then sat (sat a + sat b) else if e.op = 2 then sat (sat a - sat b) else if e.op = 3 then sat (sat a * sat b) else if e.op = 4 then min a b else if e.op = 5 then max a b else if e.op = 6 then bitI (decide (a < b)) else bitI (decide (a = b))
theorem refs_ints (n : Nat) (zs : List Int) (x : V) (hx : V.refs n x = true) : V.refsL n [.lst 1 (zs.map encI), x] = true := by
  simp [V.refsL, V.refs, refsLL_map encI (fun _ => rfl) zs, hx]
theorem index_c (zs : List Int) (hz : ∀ z ∈ zs, isValue z = true) (hl : zs.length ≤ 1048576) : CP Tryz.prog 179 [.lst 1 (zs.map encI), .fn 144 []] (.int .i64 (-1)) [] := by
  refine CP.by rfl mixed (cfn_ok Tryz.func179 ok179) rfl ?_
  simp (disch := omega) only [s179, go_sem]
  refine loopP_intro (fun m s => ∃ k : Nat, k ≤ zs.length ∧ m = zs.length - k ∧ s.e 0 = .lst 1 (zs.map encI) ∧ s.e 1 = .fn 144 [] ∧ s.e 7 = .int .i64 zs.length ∧ s.e 8 = .int .i64 k) zs.length ⟨0, by omega, by omega, rfl, rfl, by simp (disch := omega) only [go_sem], rfl⟩ ?_
  rintro m e hp ⟨k, hk, rfl, e0, e1, e7, e8⟩
  simp only at e0 e1 e7 e8
  simp (disch := omega) only [go_sem, e0, e1, e7, e8, encI]
  refine condP_dec (fun hlt => ?_) (fun hlt => ?_)
  · have hlt' : k < zs.length := by omega
    have hv := hz zs[k] (List.getElem_mem hlt')
    simp (disch := omega) only [go_sem, e0, e1, e7, e8, encI]
    refine CP.go (notValue_c zs[k]) rfl rfl ?_
    simp (disch := omega) only [go_sem, hv, e0, e1, e7, e8, encI]
    refine nextP_intro (zs.length - (k + 1)) (by omega) ⟨k + 1, by omega, rfl, ?_, ?_, ?_, ?_⟩
    · simp (disch := omega) only [go_sem, e0, e1, e7, e8, encI]
    · simp (disch := omega) only [go_sem, e0, e1, e7, e8, encI]
    · simp (disch := omega) only [go_sem, e0, e1, e7, e8, encI]
    · simp (disch := omega) only [go_sem, e0, e1, e7, e8, encI]; rfl
  · simp (disch := omega) only [go_sem, e0, e1, e7, e8, encI]
theorem varsOk_c (zs : List Int) (hz : ∀ z ∈ zs, isValue z = true) (hl : zs.length = 8) : CP Tryz.prog 84 [.lst 1 (zs.map encI)] (.bool true) [] := by
  have cont : CP Tryz.prog 112 [.lst 1 (zs.map encI), .fn 144 []] (.bool false) [] := by
    refine CP.by rfl mixed (cfn_ok Tryz.func112 ok112) rfl ?_
    simp (disch := omega) only [s112, go_sem]
    refine CP.go (index_c zs hz (by omega)) rfl (refs_ints _ _ _ rfl) ?_
    simp (disch := omega) only [go_sem]
  have are : CP Tryz.prog 85 [.lst 1 (zs.map encI)] (.bool true) [] := by
    refine CP.by rfl mixed (cfn_ok Tryz.func85 ok85) rfl ?_
    simp (disch := omega) only [s85, go_sem]
    refine CP.go cont rfl (refs_ints _ _ _ rfl) ?_
    simp (disch := omega) only [go_sem]
  refine CP.by rfl mixed (cfn_ok Tryz.func84 ok84) rfl ?_
  simp (disch := omega) only [s84, go_sem, hl]
  refine CP.go are rfl (by simp [V.refsL, V.refs, refsLL_map encI (fun _ => rfl) zs]) ?_
  simp (disch := omega) only [go_sem]
theorem eval_c (zs : List Int) (e : Expr) (hz : ∀ z ∈ zs, isValue z = true) (hl : zs.length = 8) (he : exprOk e = true) : CP Tryz.prog 141 [.lst 1 (zs.map encI), .agg (encExpr e)] (.int .i64 (evalE zs e)) [] := by
  obtain ⟨h1, h2, h3⟩ := exprOk_facts he
  obtain ⟨op, a, b⟩ := e
  simp only at h1 h2 h3
  refine CP.by rfl mixed (cfn_ok Tryz.func141 ok141) rfl ?_
  simp (disch := omega) only [s141, go_sem, encExpr]
  refine CP.go (varsOk_c zs hz hl) rfl (by simp [V.refsL, V.refs, refsLL_map encI (fun _ => rfl) zs]) ?_
  simp (disch := omega) only [go_sem]
  refine CP.go (exprOk_c ⟨op, a, b⟩) rfl rfl ?_
  simp (disch := omega) only [go_sem, he]
  refine CP.go (operand_c zs a (by omega) (by omega)) rfl (refs_ints _ _ _ rfl) ?_
  simp (disch := omega) only [go_sem]
  refine CP.go (operand_c zs b (by omega) (by omega)) rfl (refs_ints _ _ _ rfl) ?_
  simp (disch := omega) only [go_sem]
  repeat' (first | (refine CP.go (add_c _ _) rfl rfl ?_ <;> (try simp (disch := omega) only [go_sem])) | (refine CP.go (sub_c _ _) rfl rfl ?_ <;> (try simp (disch := omega) only [go_sem])) | (refine CP.go (mul_c _ _) rfl rfl ?_ <;> (try simp (disch := omega) only [go_sem])) | (refine CP.go (bit_c _) rfl rfl ?_ <;> (try simp (disch := omega) only [go_sem])) | (refine condP_t (by assumption) ?_ <;> (try simp (disch := omega) only [go_sem])) | (refine condP_f (by assumption) ?_ <;> (try simp (disch := omega) only [go_sem])) | (refine condP_dec (fun h => ?_) (fun h => ?_) <;> (try simp (disch := omega) only [go_sem])) | (refine condP_split (fun h => ?_) (fun h => ?_) <;> (try simp (disch := omega) only [go_sem])))
  all_goals simp_all [evalE]
end Go.Av

namespace Go.Av
open Go.Proofs Go.RowKit
set_option linter.unusedVariables false
set_option linter.unusedSimpArgs false
set_option maxRecDepth 100000
set_option maxHeartbeats 4000000
structure Task where
  body : List Stmt
  next : Expr
def encTask (t : Task) : List V := [.lst 6 (t.body.map encStmt), .int .i64 t.next.op, .int .i64 t.next.a, .int .i64 t.next.b]
theorem refs_task (n : Nat) (t : Task) : V.refsL n (encTask t) = true := by simp [encTask, V.refsL, V.refs, refsLL_map encStmt (refs_stmt n) t.body]
def taskOk (t : Task) : Bool := blockOk t.body && exprOk t.next
theorem refs_task1 (n : Nat) (t : Task) : V.refsL n [.agg (encTask t)] = true := by simp [V.refsL, V.refs, refs_task]
theorem taskOk_c (t : Task) (hb : t.body.length ≤ 9223372036854775807) : CP Tryz.prog 93 [.agg (encTask t)] (.bool (taskOk t)) [] := by
  obtain ⟨body, ⟨op, a, b⟩⟩ := t
  refine CP.by rfl mixed (cfn_ok Tryz.func93 ok93) rfl ?_
  simp (disch := omega) only [s93, go_sem, encTask]
  refine CP.go (blockOk_c body hb) rfl (refs_arg _ _) ?_
  simp (disch := omega) only [go_sem]
  repeat' (first | (refine CP.go (exprOk_c ⟨op, a, b⟩) rfl rfl ?_ <;> (try simp (disch := omega) only [go_sem])) | (refine condP_t (by assumption) ?_ <;> (try simp (disch := omega) only [go_sem])) | (refine condP_f (by assumption) ?_ <;> (try simp (disch := omega) only [go_sem])) | (refine condP_dec (fun h => ?_) (fun h => ?_) <;> (try simp (disch := omega) only [go_sem])) | (refine condP_split (fun h => ?_) (fun h => ?_) <;> (try simp (disch := omega) only [go_sem])))
  all_goals simp_all [taskOk]
theorem notTaskOk_c (t : Task) (hb : t.body.length ≤ 9223372036854775807) : CP Tryz.prog 131 [.agg (encTask t)] (.bool (!taskOk t)) [] := by
  refine CP.by rfl mixed (cfn_ok Tryz.func131 ok131) rfl ?_
  simp (disch := omega) only [s131, go_sem, encTask]
  refine CP.go (taskOk_c t hb) rfl (refs_task1 _ _) ?_
  simp (disch := omega) only [go_sem]
theorem indexTask_c (g : Nat) (p : Task → Bool) (zs : List Task) (hg : ∀ z ∈ zs, CP Tryz.prog g [.agg (encTask z)] (.bool (p z)) []) (hl : zs.length ≤ 9223372036854775807) : CP Tryz.prog 118 [.lst 4 (zs.map encTask), .fn g []] (.int .i64 (idxI p zs)) [] := by
  refine CP.by rfl mixed (cfn_ok Tryz.func118 ok118) rfl ?_
  simp (disch := omega) only [s118, go_sem]
  refine loopP_intro (fun m s => ∃ k : Nat, k ≤ zs.length ∧ m = zs.length - k ∧ s.e 0 = .lst 4 (zs.map encTask) ∧ s.e 1 = .fn g [] ∧ s.e 7 = .int .i64 zs.length ∧ s.e 8 = .int .i64 k ∧ ∀ j (hj : j < zs.length), j < k → p zs[j] = false) zs.length ⟨0, by omega, by omega, rfl, rfl, by simp (disch := omega) only [go_sem], rfl, fun j _ h => absurd h (by omega)⟩ ?_
  rintro m e hp ⟨k, hk, rfl, e0, e1, e7, e8, hall⟩
  simp only at e0 e1 e7 e8
  simp (disch := omega) only [go_sem, e0, e1, e7, e8, encTask]
  refine condP_dec (fun hlt => ?_) (fun hlt => ?_)
  · have hlt' : k < zs.length := by omega
    simp (disch := omega) only [go_sem, e0, e1, e7, e8, encTask]
    refine CP.go (hg zs[k] (List.getElem_mem hlt')) rfl (refs_task1 _ zs[k]) ?_
    simp (disch := omega) only [go_sem, e0, e1, e7, e8, encTask]
    refine condP_split (fun h => ?_) (fun h => ?_)
    · simp (disch := omega) only [go_sem, e0, e1, e7, e8, encTask]
      rw [idxI_found hlt' h hall]
    · simp (disch := omega) only [go_sem, e0, e1, e7, e8, encTask]
      refine nextP_intro (zs.length - (k + 1)) (by omega) ⟨k + 1, by omega, rfl, ?_, ?_, ?_, ?_, fun j hj hjk => ?_⟩
      · simp (disch := omega) only [go_sem, e0, e1, e7, e8, encTask]
      · simp (disch := omega) only [go_sem, e0, e1, e7, e8, encTask]
      · simp (disch := omega) only [go_sem, e0, e1, e7, e8, encTask]
      · simp (disch := omega) only [go_sem, e0, e1, e7, e8, encTask]; rfl
      · by_cases e : j = k
        · subst e; exact h
        · exact hall j hj (by omega)
  · simp (disch := omega) only [go_sem, e0, e1, e7, e8, encTask]
    rw [idxI_none (fun j hj => hall j hj (by omega))]
theorem containsTask_c (g : Nat) (p : Task → Bool) (zs : List Task) (hg : ∀ z ∈ zs, CP Tryz.prog g [.agg (encTask z)] (.bool (p z)) []) (hl : zs.length ≤ 9223372036854775807) (hr : V.refsL 0 [.lst 4 (zs.map encTask), .fn g []] = true) : CP Tryz.prog 69 [.lst 4 (zs.map encTask), .fn g []] (.bool (zs.any p)) [] := by
  refine CP.by rfl mixed (cfn_ok Tryz.func69 ok69) rfl ?_
  simp (disch := omega) only [s69, go_sem]
  refine CP.go (indexTask_c g p zs hg hl) rfl hr ?_
  simp (disch := omega) only [go_sem, idxI_ge]
end Go.Av

namespace Go.Av
open Go.Proofs Go.RowKit
set_option linter.unusedVariables false
set_option linter.unusedSimpArgs false
set_option maxRecDepth 100000
set_option maxHeartbeats 4000000
end Go.Av

namespace Go.Av
open Go.Proofs Go.RowKit
set_option linter.unusedVariables false
set_option linter.unusedSimpArgs false
set_option maxRecDepth 100000
set_option maxHeartbeats 4000000
def costK (k : Int) : Int := if k = 1 then 2 else if k = 2 then 5 else if k = 3 then 4 else if k = 4 then 1 else if k = 5 then 1 else 0
def timesS (s : Stmt) : Int := if s.kind = 5 then s.n else 1
theorem stmt_times {s : Stmt} (h : stmtOk s = true) (hk : s.kind = 4 ∨ s.kind = 5) : 1 ≤ timesS s ∧ timesS s ≤ 5 ∧ timesS s = max 1 s.n := by
  unfold stmtOk at h
  split at h
  · cases h
  · split at h
    · cases h
    · split at h
      · omega
      · split at h
        · rename_i h5
          simp [within] at h
          unfold timesS
          rw [if_pos h5]; omega
        · rename_i h5
          simp at h
          unfold timesS
          rw [if_neg h5]; omega
theorem costK_bd (k : Int) : 0 ≤ costK k ∧ costK k ≤ 5 := by unfold costK; repeat' split <;> omega
end Go.Av

namespace Go.Av
open Go.Proofs Go.RowKit
set_option linter.unusedVariables false
set_option linter.unusedSimpArgs false
set_option maxRecDepth 100000
set_option maxHeartbeats 4000000
theorem indexTaskF_c {h : Heap} (g : Nat) (caps : List V) (p : Task → Bool) (zs : List Task) (hg : ∀ z ∈ zs, ∀ h', Ext h h' → C Tryz.prog g (.agg (encTask z) :: caps) h' (fun r h'' => r = .bool (p z) ∧ Ext h' h'')) (hl : zs.length ≤ 9223372036854775807) : C Tryz.prog 118 [.lst 4 (zs.map encTask), .fn g caps] h (fun r h' => r = .int .i64 (idxI p zs) ∧ Ext h h') := by
  refine C.by mixed (cfn_ok Tryz.func118 ok118) rfl ?_
  simp (disch := omega) only [s118, go_sem]
  refine loopP_intro (fun m s => ∃ k : Nat, k ≤ zs.length ∧ m = zs.length - k ∧ s.e 0 = .lst 4 (zs.map encTask) ∧ s.e 1 = .fn g caps ∧ s.e 7 = .int .i64 zs.length ∧ s.e 8 = .int .i64 k ∧ Ext h s.h ∧ ∀ j (hj : j < zs.length), j < k → p zs[j] = false) zs.length ⟨0, by omega, by omega, rfl, rfl, by simp (disch := omega) only [go_sem], rfl, .refl _, fun j _ h => absurd h (by omega)⟩ ?_
  rintro m e hp ⟨k, hk, rfl, e0, e1, e7, e8, X, hall⟩
  simp only at e0 e1 e7 e8 X
  simp (disch := omega) only [go_sem, e0, e1, e7, e8, encTask]
  refine condP_dec (fun hlt => ?_) (fun hlt => ?_)
  · have hlt' : k < zs.length := by omega
    simp (disch := omega) only [go_sem, e0, e1, e7, e8, encTask]
    refine C.go (hg zs[k] (List.getElem_mem hlt') _ X) ?_
    rintro r h2 ⟨rfl, X2⟩
    simp (disch := omega) only [go_sem, e0, e1, e7, e8, encTask]
    refine condP_split (fun h => ?_) (fun h => ?_)
    · simp (disch := omega) only [go_sem, e0, e1, e7, e8, encTask]
      rw [idxI_found hlt' h hall]
      exact ⟨rfl, X.trans X2⟩
    · simp (disch := omega) only [go_sem, e0, e1, e7, e8, encTask]
      refine nextP_intro (zs.length - (k + 1)) (by omega) ⟨k + 1, by omega, rfl, ?_, ?_, ?_, ?_, X.trans X2, fun j hj hjk => ?_⟩
      · simp (disch := omega) only [go_sem, e0, e1, e7, e8, encTask]
      · simp (disch := omega) only [go_sem, e0, e1, e7, e8, encTask]
      · simp (disch := omega) only [go_sem, e0, e1, e7, e8, encTask]
      · simp (disch := omega) only [go_sem, e0, e1, e7, e8, encTask]; rfl
      · by_cases e : j = k
        · subst e; exact h
        · exact hall j hj (by omega)
  · simp (disch := omega) only [go_sem, e0, e1, e7, e8, encTask]
    rw [idxI_none (fun j hj => hall j hj (by omega))]
    exact ⟨rfl, X⟩
theorem containsTaskF_c {h : Heap} (g : Nat) (caps : List V) (p : Task → Bool) (zs : List Task) (hg : ∀ z ∈ zs, ∀ h', Ext h h' → C Tryz.prog g (.agg (encTask z) :: caps) h' (fun r h'' => r = .bool (p z) ∧ Ext h' h'')) (hl : zs.length ≤ 9223372036854775807) : C Tryz.prog 69 [.lst 4 (zs.map encTask), .fn g caps] h (fun r h' => r = .bool (zs.any p) ∧ Ext h h') := by
  refine C.by mixed (cfn_ok Tryz.func69 ok69) rfl ?_
  simp (disch := omega) only [s69, go_sem]
  refine C.go (indexTaskF_c g caps p zs hg hl) ?_
  rintro r h2 ⟨rfl, X⟩
  simp (disch := omega) only [go_sem, idxI_ge]
  exact X
noncomputable def treeOf (xs : List Stmt) : Tr := open Classical in if h : blockOk xs = true then (block_tree h).choose else .nil
theorem treeOf_ok {xs : List Stmt} (h : blockOk xs = true) : (treeOf xs).ok = true ∧ xs = (treeOf xs).flat ∧ xs.length ≤ 24 := by
  unfold treeOf
  rw [dif_pos h]
  exact (block_tree h).choose_spec
theorem task_facts {tk : Task} (h : taskOk tk = true) : blockOk tk.body = true ∧ exprOk tk.next = true := by
  simpa [taskOk] using h
theorem refs_tasks (n : Nat) (ts : List Task) (x : V) (hx : V.refs n x = true) : V.refsL n [.lst 4 (ts.map encTask), x] = true := by
  simp [V.refsL, V.refs, refsLL_map encTask (refs_task n) ts, hx]
def programOk (ts : List Task) : Bool := within ts.length 1 6 && ts.all taskOk
theorem programOk_c (ts : List Task) (hl : ts.length ≤ 1048576) (hb : ∀ t ∈ ts, t.body.length ≤ 9223372036854775807) : CP Tryz.prog 67 [.agg [.lst 4 (ts.map encTask)]] (.bool (programOk ts)) [] := by
  have hn : (ts.any fun t => !taskOk t) = !ts.all taskOk := by rw [List.not_all_eq_any_not]
  refine CP.by rfl mixed (cfn_ok Tryz.func67 ok67) rfl ?_
  simp (disch := omega) only [s67, go_sem]
  refine CP.go (within_c _ _ _) rfl rfl ?_
  simp (disch := omega) only [go_sem]
  repeat' (first | (refine CP.go (containsTask_c 131 (fun t => !taskOk t) ts (fun t ht => notTaskOk_c t (hb t ht)) (by omega) (refs_tasks _ _ _ rfl)) rfl (refs_tasks _ _ _ rfl) ?_ <;> (try simp (disch := omega) only [go_sem])) | (refine condP_t (by assumption) ?_ <;> (try simp (disch := omega) only [go_sem])) | (refine condP_f (by assumption) ?_ <;> (try simp (disch := omega) only [go_sem])) | (refine condP_dec (fun h => ?_) (fun h => ?_) <;> (try simp (disch := omega) only [go_sem])) | (refine condP_split (fun h => ?_) (fun h => ?_) <;> (try simp (disch := omega) only [go_sem])))
  all_goals simp_all [programOk]
theorem refs_prog (n : Nat) (ts : List Task) : V.refs n (.agg [.lst 4 (ts.map encTask)]) = true := by simp [V.refs, V.refsL, refsLL_map encTask (refs_task n) ts]
theorem refs_prog1 (n : Nat) (ts : List Task) : V.refsL n [.agg [.lst 4 (ts.map encTask)]] = true := by simp only [V.refsL, refs_prog]; rfl
end Go.Av

namespace Go.Av
open Go.Proofs Go.RowKit
set_option linter.unusedVariables false
set_option linter.unusedSimpArgs false
set_option maxRecDepth 100000
set_option maxHeartbeats 4000000
def itN {α : Type} (f : α → α) : Nat → α → α
  | 0, a => a
  | n + 1, a => itN f n (f a)
theorem itN_succ {α : Type} (f : α → α) : ∀ (n : Nat) (a : α), itN f (n + 1) a = f (itN f n a)
  | 0, a => rfl
  | n + 1, a => by show itN f (n + 1) (f a) = _; rw [itN_succ f n (f a)]; rfl
def rounds (s : Stmt) (b : Bool) : Nat := if s.kind = 4 then (if b = true then 1 else 0) else s.n.toNat
def runG {σ : Type} (stp : Stmt → σ → σ) (hold : Stmt → σ → Bool) : Tr → σ → σ
  | .nil, st => st
  | .one s r, st => runG stp hold r (stp s st)
  | .grp s a r, st => runG stp hold r (itN (fun x => runG stp hold a x) (rounds s (hold s st)) (stp s st))
def cntT : Tr → Nat
  | .nil => 0
  | .one _ r => 1 + cntT r
  | .grp _ a r => 1 + 5 * cntT a + cntT r
theorem pow3n_le {a b : Nat} (h : a ≤ b) : 3 ^ a ≤ 3 ^ b := Nat.pow_le_pow_right (by omega) h
theorem cntT_lt : ∀ t : Tr, cntT t + 1 ≤ 3 ^ t.flat.length
  | .nil => by simp [cntT, Tr.flat]
  | .one s r => by
    have := cntT_lt r
    simp only [cntT, Tr.flat, List.length_cons, Nat.pow_succ]
    omega
  | .grp s a r => by
    have h1 := cntT_lt a
    have h2 := cntT_lt r
    have hl : (Tr.grp s a r).flat.length = (a.flat.length + r.flat.length) + 1 + 1 := by simp [Tr.flat]; omega
    have p1 := pow3n_le (show a.flat.length ≤ a.flat.length + r.flat.length by omega)
    have p2 := pow3n_le (show r.flat.length ≤ a.flat.length + r.flat.length by omega)
    rw [hl, Nat.pow_succ, Nat.pow_succ]
    simp only [cntT]
    omega
def maxCnt : Nat := 282429536481
theorem cntT_max {t : Tr} (h : t.flat.length ≤ 24) : cntT t ≤ maxCnt := by
  have h1 := cntT_lt t
  have h2 := pow3n_le h
  have : 3 ^ 24 = maxCnt := by decide
  omega
theorem rounds_le {s : Stmt} {b : Bool} (h : stmtOk s = true) (hk : s.kind = 4 ∨ s.kind = 5) : rounds s b ≤ 5 ∧ (s.kind = 5 → (rounds s b : Int) = s.n) ∧ (s.kind = 4 → (rounds s b : Int) = bitI b) := by
  have ht := stmt_times h hk
  unfold rounds timesS at *
  rcases hk with h4 | h5
  · rw [if_pos h4]
    refine ⟨by split <;> omega, fun h => by omega, fun _ => ?_⟩
    cases b <;> simp [bitI]
  · rw [if_neg (by omega)]
    rw [if_pos h5] at ht
    exact ⟨by omega, fun _ => by omega, fun h => by omega⟩
structure Keeps {σ : Type} (R : Nat → σ → List It → Heap → Prop) : Prop where
  new : ∀ {n st L h} (b : Blk), R n st L h → R n st (.k h.length b :: L) (h ++ [b])
  get : ∀ {n st id b L h}, R n st (.k id b :: L) h → h[id]? = some b
  drop : ∀ {n st x L h}, R n st (x :: L) h → R n st L h
section
variable {σ : Type} {R : Nat → σ → List It → Heap → Prop} {stp : Stmt → σ → σ} {hold : Stmt → σ → Bool} {g : Nat} {caps : List V}
def WalkC (R : Nat → σ → List It → Heap → Prop) (stp : Stmt → σ → σ) (hold : Stmt → σ → Bool) (g : Nat) (caps : List V) (t : Tr) : Prop := ∀ (xs : List Stmt) (n : Nat) (st : σ) (L : List It) (h : Heap), t.ok = true → xs = t.flat → xs.length ≤ 24 → n + cntT t ≤ maxCnt → R n st L h →
    C Tryz.prog 146 [.lst 6 (xs.map encStmt), .fn g caps] h (fun r h' => r = .tup [] ∧ ∃ n', n' ≤ n + cntT t ∧ R n' (runG stp hold t st) L h')
theorem walk_step (K : Keeps R) (hsee : ∀ (n : Nat) (st : σ) (s : Stmt) (L : List It) (h : Heap), n < maxCnt → stmtOk s = true → s.kind ≠ 6 → R n st L h → C Tryz.prog g (.agg (encStmt s) :: caps) h (fun r h' => r = .bool (hold s st) ∧ R (n + 1) (stp s st) L h'))
    (sz : Nat) (ih : ∀ b : Tr, b.size < sz → WalkC R stp hold g caps b) (t : Tr) (hsz : t.size ≤ sz) : WalkC R stp hold g caps t := by
  intro xs n st L h ht hf hl hn hR
  refine C.by mixed (cfn_ok Tryz.func146 ok146) rfl ?_
  simp (disch := omega) only [s146, go_sem]
  refine loopP_intro (fun m s => ∃ (k : Nat) (r : Tr) (n' : Nat) (st' : σ), k ≤ xs.length ∧ m = xs.length - k ∧ r.ok = true ∧ r.size ≤ sz ∧ r.flat.length ≤ 24 ∧ xs.drop k = r.flat ∧ n' + cntT r ≤ n + cntT t ∧ runG stp hold r st' = runG stp hold t st ∧ s.e 0 = .lst 6 (xs.map encStmt) ∧ s.e 1 = .fn g caps ∧ s.e 4 = .int .i64 k ∧ R n' st' L s.h) xs.length ⟨0, t, n, st, by omega, by omega, ht, hsz, by rw [← hf]; exact hl, by simpa using hf, by omega, rfl, by simp (disch := omega) only [go_sem], by simp (disch := omega) only [go_sem], by simp (disch := omega) only [go_sem] <;> rfl, hR⟩ ?_
  intro m e hp P
  refine Exists.elim P fun k P => Exists.elim P fun r P => Exists.elim P fun n1 P => Exists.elim P fun st1 P => ?_
  have hk := P.1
  have hm := P.2.1
  have hr := P.2.2.1
  have hrs := P.2.2.2.1
  have hrl := P.2.2.2.2.1
  have hdk := P.2.2.2.2.2.1
  have hc := P.2.2.2.2.2.2.1
  have hrun := P.2.2.2.2.2.2.2.1
  have e0 := P.2.2.2.2.2.2.2.2.1
  have e1 := P.2.2.2.2.2.2.2.2.2.1
  have e4 := P.2.2.2.2.2.2.2.2.2.2.1
  have R1 := P.2.2.2.2.2.2.2.2.2.2.2
  clear P
  subst hm
  simp only at e0 e1 e4 R1
  simp (disch := omega) only [go_sem, e0, e1, e4]
  refine condP_dec (fun hlt => ?_) (fun hlt => ?_)
  case' refine_2 =>
    have hke : k = xs.length := by omega
    subst hke
    have hz : r = .nil := by
      have hlen := congrArg List.length hdk
      rw [List.drop_length, List.length_nil] at hlen
      cases r with
      | nil => rfl
      | one s r => simp [Tr.flat] at hlen
      | grp s a r => simp [Tr.flat] at hlen
    subst hz
    simp (disch := omega) only [go_sem, e0, e1, e4]
    refine ⟨n1, by simp only [cntT] at hc; omega, ?_⟩
    rw [← hrun]; exact R1
  have hlt' : k < xs.length := by omega
  have nxt : ∀ (e' : Nat → V) (hh : Heap) (q : Nat) (r' : Tr) (n' : Nat) (st' : σ), k < q → q ≤ xs.length → r'.ok = true → r'.size ≤ sz → r'.flat.length ≤ 24 → xs.drop q = r'.flat → n' + cntT r' ≤ n + cntT t → runG stp hold r' st' = runG stp hold t st → e' 0 = .lst 6 (xs.map encStmt) → e' 1 = .fn g caps → e' 4 = .int .i64 q → R n' st' L hh → @nextP (xs.length - k) ⟨e', hh⟩ ⟨fun m s => ∃ (k : Nat) (r : Tr) (n' : Nat) (st' : σ), k ≤ xs.length ∧ m = xs.length - k ∧ r.ok = true ∧ r.size ≤ sz ∧ r.flat.length ≤ 24 ∧ xs.drop k = r.flat ∧ n' + cntT r ≤ n + cntT t ∧ runG stp hold r st' = runG stp hold t st ∧ s.e 0 = .lst 6 (xs.map encStmt) ∧ s.e 1 = .fn g caps ∧ s.e 4 = .int .i64 k ∧ R n' st' L s.h⟩ := fun e' hh q r' n' st' a1 a2 a3 a4 a5 a6 a7 a8 a9 b1 b2 b3 =>
    nextP_intro (xs.length - q) (by omega) ⟨q, r', n', st', a2, rfl, a3, a4, a5, a6, a7, a8, a9, b1, b2, b3⟩
  rcases r with _ | ⟨s, r⟩ | ⟨s, b, r⟩
  · have := congrArg List.length hdk
    simp [Tr.flat] at this
    omega
  · obtain ⟨hs, hkk, hr'⟩ := Tr.one_ok hr
    simp only [Tr.flat] at hdk hrl
    simp only [List.length_cons] at hrl
    simp only [Tr.size] at hrs
    simp only [cntT] at hc
    simp only [runG] at hrun
    refine Exists.elim (drop_head hdk) fun hk0 z => ?_
    have hks := z.1
    have hd1 := z.2
    have hg : ∀ h : k < xs.length, xs[k] = s := fun _ => hks
    have R2 := K.new [encStmt s] R1
    have B2 := K.get R2
    simp only [encStmt] at R2 B2
    have hO : isOpening s.kind = false := by rcases hkk with h | h | h <;> simp [isOpening, h]
    simp (disch := omega) only [go_sem, e0, e1, e4, hg, B2, encStmt]
    refine C.go (hsee n1 st1 s _ _ (by omega) hs (by omega) R2) ?_
    rintro r h3 ⟨rfl, R3⟩
    have B3 := K.get R3
    simp (disch := omega) only [go_sem, e0, e1, e4, B3]
    refine CP.go (isOpening_c s.kind) rfl rfl ?_
    simp (disch := omega) only [go_sem, e0, e1, e4, hO, B3]
    exact nxt _ _ (k + 1) r (n1 + 1) (stp s st1) (by omega) (by omega) hr' (by omega) (by omega) hd1 (by omega) hrun (by simp (disch := omega) only [go_sem, e0, e1, e4, hO, B3]) (by simp (disch := omega) only [go_sem, e0, e1, e4, hO, B3]) (by simp (disch := omega) only [go_sem, e0, e1, e4, hO, B3]; rfl) (K.drop R3)
  · obtain ⟨hs, hkk, hb', hr'⟩ := Tr.grp_ok hr
    simp only [Tr.flat] at hdk hrl
    simp only [List.length_cons, List.length_append] at hrl
    simp only [Tr.size] at hrs
    simp only [cntT] at hc
    simp only [runG] at hrun
    refine Exists.elim (drop_head hdk) fun hk0 z => ?_
    have hks := z.1
    have hd1 := z.2
    have hd2 := drop_skip hd1
    refine Exists.elim (drop_head hd2) fun hk3 z => ?_
    have hd4 := z.2
    have hg : ∀ h : k < xs.length, xs[k] = s := fun _ => hks
    have R2 := K.new [encStmt s] R1
    have B2 := K.get R2
    simp only [encStmt] at R2 B2
    have hO : isOpening s.kind = true := by rcases hkk with h | h <;> simp [isOpening, h]
    have hen : endO 0 k (xs.drop k) = (k : Int) + 1 + b.flat.length := by rw [hdk]; exact endO_grp k _ hkk hb'
    have htm := take_mid (xs := xs) hdk
    have t1 : ((k : Int) + 1).toNat = k + 1 := by omega
    have t2 : ((k : Int) + 1 + b.flat.length).toNat = k + 1 + b.flat.length := by omega
    simp (disch := omega) only [go_sem, e0, e1, e4, hg, B2, encStmt]
    refine C.go (hsee n1 st1 s _ _ (by omega) hs (by omega) R2) ?_
    rintro r3 h3 ⟨rfl, R3⟩
    have B3 := K.get R3
    simp (disch := omega) only [go_sem, e0, e1, e4, B3]
    refine CP.go (isOpening_c s.kind) rfl rfl ?_
    simp (disch := omega) only [go_sem, e0, e1, e4, hO, B3]
    refine CP.go (endO_c xs k (by omega) (by omega)) rfl (refs_args _ _ _) ?_
    have hrd := rounds_le (b := hold s st1) hs hkk
    refine Exists.elim (show ∃ c, c = rounds s (hold s st1) from ⟨_, rfl⟩) fun c hce => ?_
    rw [← hce] at hrd hrun
    simp (disch := omega) only [go_sem, e0, e1, e4, hen, B3]
    refine condP_dec (fun h4 => ?_) (fun h4 => ?_)
    case' refine_1 =>
      have hcb := hrd.2.2 h4
      simp (disch := omega) only [go_sem, e0, e1, e4, hen, B3]
      refine CP.go (bit_c _) rfl rfl ?_
      simp (disch := omega) only [go_sem, e0, e1, e4, hen, B3, hcb.symm]
    case' refine_2 =>
      have hcb := hrd.2.1 (by omega)
      simp (disch := omega) only [go_sem, e0, e1, e4, hen, B3, hcb.symm]
    all_goals
      refine loopP_intro (fun m s' => ∃ (j n' : Nat) (st' : σ), j ≤ c ∧ m = c - j ∧ n' ≤ n1 + 1 + j * cntT b ∧ st' = itN (fun x => runG stp hold b x) j (stp s st1) ∧ s'.e 0 = .lst 6 (xs.map encStmt) ∧ s'.e 1 = .fn g caps ∧ s'.e 4 = .int .i64 k ∧ s'.e 7 = .int .i64 ((k : Int) + 1 + b.flat.length) ∧ s'.e 39 = .int .i64 c ∧ s'.e 40 = .int .i64 j ∧ R n' st' L s'.h) c ⟨0, n1 + 1, stp s st1, by omega, by omega, by omega, rfl, by simp (disch := omega) only [go_sem, e0, e1, e4, hen, B3], by simp (disch := omega) only [go_sem, e0, e1, e4, hen, B3], by simp (disch := omega) only [go_sem, e0, e1, e4, hen, B3], by simp (disch := omega) only [go_sem, e0, e1, e4, hen, B3], by simp (disch := omega) only [go_sem, e0, e1, e4, hen, B3], by simp (disch := omega) only [go_sem, e0, e1, e4, hen, B3] <;> rfl, K.drop R3⟩ ?_
      clear e0 e1 e4 R1 R2 B2 R3 B3 hcb h4
      intro m e hp P
      refine Exists.elim P fun j P => Exists.elim P fun n2 P => Exists.elim P fun st2 P => ?_
      have hj := P.1
      have hm := P.2.1
      have hn2 := P.2.2.1
      have hst := P.2.2.2.1
      have e0 := P.2.2.2.2.1
      have e1 := P.2.2.2.2.2.1
      have e4 := P.2.2.2.2.2.2.1
      have e7 := P.2.2.2.2.2.2.2.1
      have e39 := P.2.2.2.2.2.2.2.2.1
      have e40 := P.2.2.2.2.2.2.2.2.2.1
      have R1 := P.2.2.2.2.2.2.2.2.2.2
      clear P
      subst hm
      simp only at e0 e1 e4 e7 e39 e40 R1
      have hj5 : (j + 1) * cntT b ≤ 5 * cntT b ∨ c ≤ j := by
        rcases Nat.lt_or_ge j c with h | h
        · exact .inl (Nat.mul_le_mul_right _ (by omega))
        · exact .inr h
      rw [Nat.add_mul] at hj5
      simp (disch := omega) only [go_sem, e0, e1, e4, e7, e39, e40]
      refine condP_dec (fun hjc => ?_) (fun hjc => ?_)
      · simp (disch := omega) only [go_sem, e0, e1, e4, e7, e39, e40, t1, t2, htm]
        refine C.go (ih b (by omega) b.flat n2 st2 L hp hb' rfl (by omega) (by omega) R1) ?_
        intro r4 h4 P
        have hr4 := P.1
        refine Exists.elim P.2 fun n3 P => ?_
        have hn3 := P.1
        have R4 := P.2
        clear P
        subst hr4
        simp (disch := omega) only [go_sem, e0, e1, e4, e7, e39, e40]
        refine nextP_intro (c - (j + 1)) (by omega) ⟨j + 1, n3, runG stp hold b st2, by omega, rfl, by rw [Nat.add_mul]; omega, by rw [itN_succ, hst], by simp (disch := omega) only [go_sem, e0, e1, e4, e7, e39, e40], by simp (disch := omega) only [go_sem, e0, e1, e4, e7, e39, e40], by simp (disch := omega) only [go_sem, e0, e1, e4, e7, e39, e40], by simp (disch := omega) only [go_sem, e0, e1, e4, e7, e39, e40], by simp (disch := omega) only [go_sem, e0, e1, e4, e7, e39, e40], by simp (disch := omega) only [go_sem, e0, e1, e4, e7, e39, e40] <;> rfl, R4⟩
      · have hjc' : j = c := by omega
        subst hjc'
        have hcc : j * cntT b ≤ 5 * cntT b := Nat.mul_le_mul_right _ (by omega)
        simp (disch := omega) only [go_sem, e0, e1, e4, e7, e39, e40]
        exact nxt _ _ (k + 1 + b.flat.length + 1) r n2 st2 (by omega) (by omega) hr' (by omega) (by omega) hd4 (by omega) (by rw [hst]; exact hrun) (by simp (disch := omega) only [go_sem, e0, e1, e4, e7, e39, e40]) (by simp (disch := omega) only [go_sem, e0, e1, e4, e7, e39, e40]) (by simp (disch := omega) only [go_sem, e0, e1, e4, e7, e39, e40]; exact congrArg (V.int .i64) (by omega)) R1
theorem walk_c (K : Keeps R) (hsee : ∀ (n : Nat) (st : σ) (s : Stmt) (L : List It) (h : Heap), n < maxCnt → stmtOk s = true → s.kind ≠ 6 → R n st L h → C Tryz.prog g (.agg (encStmt s) :: caps) h (fun r h' => r = .bool (hold s st) ∧ R (n + 1) (stp s st) L h')) (t : Tr) : WalkC R stp hold g caps t := by
  induction hn : t.size using Nat.strongRecOn generalizing t with
  | ind n ih => exact walk_step K hsee n (fun b hb => ih b.size hb b rfl) t (by omega)
end
end Go.Av

namespace Go.Av
open Go.Proofs Go.RowKit
set_option linter.unusedVariables false
set_option linter.unusedSimpArgs false
set_option maxRecDepth 100000
set_option maxHeartbeats 4000000
theorem range_pick {α : Type} : ∀ L : List α, (List.range L.length).filterMap (L[·]?) = L
  | [] => rfl
  | x :: xs => by
    have ih := range_pick xs
    rw [List.length_cons, List.range_succ_eq_map]
    simp only [List.filterMap_cons, List.getElem?_cons_zero, List.filterMap_map]
    exact congrArg (x :: ·) ih
theorem shift_pick {α : Type} (A L : List α) : ((List.range L.length).map (· + A.length)).filterMap ((A ++ L)[·]?) = L := by
  rw [List.filterMap_map]
  have : ((fun x => (A ++ L)[x]?) ∘ fun x => x + A.length) = fun i => L[i]? := by
    funext i
    simp only [Function.comp]
    rw [List.getElem?_append_right (by omega), Nat.add_sub_cancel]
  rw [this]
  exact range_pick L
theorem fm_congr {α β : Type} {f g : α → Option β} : ∀ {l : List α}, (∀ x ∈ l, f x = g x) → l.filterMap f = l.filterMap g
  | [], _ => rfl
  | x :: xs, h => by
    have ih := fm_congr (l := xs) fun y hy => h y (by simp [hy])
    simp only [List.filterMap_cons, h x (by simp), ih]
theorem Sep.pk {h : Heap} {A L : List It} (is : List Nat) (S : Sep h (A ++ L)) (hn : (decide is.Nodup && is.all fun i => decide (i < A.length)) = true) : Sep h (is.filterMap (A[·]?) ++ L) := by
  simp only [Bool.and_eq_true, decide_eq_true_eq, List.all_eq_true] at hn
  have p := S.pick (is ++ (List.range L.length).map (· + A.length)) (by
    rw [List.nodup_append]
    refine ⟨hn.1, List.Pairwise.map _ (fun a b (e : a ≠ b) => show a + A.length ≠ b + A.length by omega) List.nodup_range, fun a ha b hb e => ?_⟩
    subst e
    obtain ⟨c, _, rfl⟩ := List.mem_map.1 hb
    have := hn.2 _ ha
    omega)
  rw [List.filterMap_append, shift_pick] at p
  have e : is.filterMap ((A ++ L)[·]?) = is.filterMap (A[·]?) := fm_congr fun i hi => List.getElem?_append_left (hn.2 i hi)
  rwa [e] at p
theorem store_i {h : Heap} {id n i : Nat} {zs : List Int} {z : Int} (hb : h[id]? = some (zs.map encI)) (hn : zs.length = n) (hi : i < n) : storeH h 1 (.ptr id n i 0) (.int .i64 z) = some (h.set id ((zs.set i z).map encI)) := by
  rw [storeH_row hb (by simpa using hn) hi (fun e he => by obtain ⟨z, _, rfl⟩ := List.mem_map.1 he; rfl) rfl, List.map_set]; rfl
theorem set_all {p : Int → Prop} {zs : List Int} {z : Int} {k : Nat} (h : ∀ x ∈ zs, p x) (hz : p z) : ∀ x ∈ zs.set k z, p x := fun x hx => by
  rcases List.mem_or_eq_of_mem_set hx with q | q
  · exact h x q
  · rw [q]; exact hz
theorem Sep.newK2 {h : Heap} {L : List It} (S : Sep h L) (b c : Blk) : Sep (h ++ [b, c]) (.k (h.length + 1) c :: .k h.length b :: L) := by
  have := (S.newK b).newK c
  simp only [List.append_assoc, List.cons_append, List.nil_append, List.length_append, List.length_cons, List.length_nil, Nat.zero_add] at this
  exact this
theorem Sep.newK3 {h : Heap} {L : List It} (S : Sep h L) (b c d : Blk) : Sep (h ++ [b, c, d]) (.k (h.length + 2) d :: .k (h.length + 1) c :: .k h.length b :: L) := by
  have := (S.newK2 b c).newK d
  simp only [List.append_assoc, List.cons_append, List.nil_append, List.length_append, List.length_cons, List.length_nil, Nat.zero_add] at this
  exact this
theorem Sep.setApp {h : Heap} {l : Nat} {b : Blk} {L : List It} (S : Sep h (.k l b :: L)) (xs : Blk) : Sep (h.set l (b ++ xs)) (.k l (b ++ xs) :: L) := S.setK _
theorem Sep.push1 {h : Heap} {l : Nat} {b : Blk} {L : List It} (S : Sep h (.k l b :: L)) (c : List V) : Sep ((h ++ [[c]]).set l (b ++ [c])) (.k l (b ++ [c]) :: L) := (S.app _).setK _
def packM (t c l : Int) : Int := if (0 ≤ t ∧ t ≤ 5) ∧ (0 ≤ c ∧ c ≤ 8) ∧ (0 ≤ l ∧ l ≤ 24) then t + 8 * (c + 16 * l) else -1
theorem packM_eq {t c l : Int} (h1 : 0 ≤ t ∧ t ≤ 5) (h2 : 0 ≤ c ∧ c ≤ 8) (h3 : 0 ≤ l ∧ l ≤ 24) : packM t c l = t + 8 * (c + 16 * l) := if_pos ⟨h1, h2, h3⟩
def unpackM (w : Int) : Int × Int × Int := if 0 ≤ w ∧ packM (w % 8) (w / 8 % 16) (w / 128) = w then (w % 8, w / 8 % 16, w / 128) else (-1, -1, -1)
theorem unpack_pack {t c l : Int} (h1 : 0 ≤ t ∧ t ≤ 5) (h2 : 0 ≤ c ∧ c ≤ 8) (h3 : 0 ≤ l ∧ l ≤ 24) : unpackM (packM t c l) = (t, c, l) := by
  rw [packM_eq h1 h2 h3]
  have a : (t + 8 * (c + 16 * l)) % 8 = t := by omega
  have b : (t + 8 * (c + 16 * l)) / 8 % 16 = c := by omega
  have d : (t + 8 * (c + 16 * l)) / 128 = l := by omega
  unfold unpackM
  rw [a, b, d, if_pos ⟨by omega, packM_eq h1 h2 h3⟩]
theorem mod_nn {a b : Int} (h : 0 ≤ a) : a.tmod b = a % b := Int.tmod_eq_emod_of_nonneg h
def vals (zs : List Int) : Bool := zs.all isValue
theorem vals_iff {zs : List Int} : vals zs = true ↔ ∀ z ∈ zs, isValue z = true := List.all_eq_true
def varsOkM (zs : List Int) : Bool := decide (zs.length = 8) && vals zs
theorem indexI_c (g : Nat) (p : Int → Bool) (zs : List Int) (hg : ∀ z ∈ zs, CP Tryz.prog g [.int .i64 z] (.bool (p z)) []) (hl : zs.length ≤ 9223372036854775807) : CP Tryz.prog 179 [.lst 1 (zs.map encI), .fn g []] (.int .i64 (idxI p zs)) [] := by
  refine CP.by rfl mixed (cfn_ok Tryz.func179 ok179) rfl ?_
  simp (disch := omega) only [s179, go_sem]
  refine loopP_intro (fun m s => ∃ k : Nat, k ≤ zs.length ∧ m = zs.length - k ∧ s.e 0 = .lst 1 (zs.map encI) ∧ s.e 1 = .fn g [] ∧ s.e 7 = .int .i64 zs.length ∧ s.e 8 = .int .i64 k ∧ ∀ j (hj : j < zs.length), j < k → p zs[j] = false) zs.length ⟨0, by omega, by omega, rfl, rfl, by simp (disch := omega) only [go_sem], rfl, fun j _ h => absurd h (by omega)⟩ ?_
  rintro m e hp ⟨k, hk, rfl, e0, e1, e7, e8, hall⟩
  simp only at e0 e1 e7 e8
  simp (disch := omega) only [go_sem, e0, e1, e7, e8, encI]
  refine condP_dec (fun hlt => ?_) (fun hlt => ?_)
  · have hlt' : k < zs.length := by omega
    simp (disch := omega) only [go_sem, e0, e1, e7, e8, encI]
    refine CP.go (hg zs[k] (List.getElem_mem hlt')) rfl rfl ?_
    simp (disch := omega) only [go_sem, e0, e1, e7, e8, encI]
    refine condP_split (fun h => ?_) (fun h => ?_)
    · simp (disch := omega) only [go_sem, e0, e1, e7, e8, encI]
      rw [idxI_found hlt' h hall]
    · simp (disch := omega) only [go_sem, e0, e1, e7, e8, encI]
      refine nextP_intro (zs.length - (k + 1)) (by omega) ⟨k + 1, by omega, rfl, by simp (disch := omega) only [go_sem, e0, e1, e7, e8, encI], by simp (disch := omega) only [go_sem, e0, e1, e7, e8, encI], by simp (disch := omega) only [go_sem, e0, e1, e7, e8, encI], by simp (disch := omega) only [go_sem, e0, e1, e7, e8, encI]; rfl, fun j hj hjk => ?_⟩
      by_cases e : j = k
      · subst e; exact h
      · exact hall j hj (by omega)
  · simp (disch := omega) only [go_sem, e0, e1, e7, e8, encI]
    rw [idxI_none (fun j hj => hall j hj (by omega))]
theorem containsI_c (g : Nat) (p : Int → Bool) (zs : List Int) (hg : ∀ z ∈ zs, CP Tryz.prog g [.int .i64 z] (.bool (p z)) []) (hl : zs.length ≤ 9223372036854775807) : CP Tryz.prog 112 [.lst 1 (zs.map encI), .fn g []] (.bool (zs.any p)) [] := by
  refine CP.by rfl mixed (cfn_ok Tryz.func112 ok112) rfl ?_
  simp (disch := omega) only [s112, go_sem]
  refine CP.go (indexI_c g p zs hg hl) rfl (refs_ints _ _ _ rfl) ?_
  simp (disch := omega) only [go_sem, idxI_ge]
theorem refs_int1 (n : Nat) (zs : List Int) : V.refsL n [.lst 1 (zs.map encI)] = true := by simp [V.refsL, V.refs, refsLL_map encI (fun _ => rfl) zs]
theorem any_not {zs : List Int} : (zs.any fun z => !isValue z) = !vals zs := by unfold vals; rw [List.not_all_eq_any_not]
theorem values_c (zs : List Int) (hl : zs.length ≤ 9223372036854775807) : CP Tryz.prog 85 [.lst 1 (zs.map encI)] (.bool (vals zs)) [] := by
  refine CP.by rfl mixed (cfn_ok Tryz.func85 ok85) rfl ?_
  simp (disch := omega) only [s85, go_sem]
  refine CP.go (containsI_c 144 (fun z => !isValue z) zs (fun z _ => notValue_c z) hl) rfl (refs_ints _ _ _ rfl) ?_
  simp (disch := omega) only [go_sem, any_not, Bool.not_not]
theorem varsOkG_c (zs : List Int) (hl : zs.length ≤ 9223372036854775807) : CP Tryz.prog 84 [.lst 1 (zs.map encI)] (.bool (varsOkM zs)) [] := by
  refine CP.by rfl mixed (cfn_ok Tryz.func84 ok84) rfl ?_
  simp (disch := omega) only [s84, go_sem]
  refine condP_dec (fun h8 => ?_) (fun h8 => ?_)
  · simp (disch := omega) only [go_sem]
    refine CP.go (values_c zs hl) rfl (refs_int1 _ _) ?_
    simp (disch := omega) only [go_sem]
    have : zs.length = 8 := by omega
    simp [varsOkM, this]
  · simp (disch := omega) only [go_sem]
    have : ¬ zs.length = 8 := by omega
    simp [varsOkM, this]
theorem hasTask_c (ts : List Task) (t : Int) (hl : ts.length ≤ 1048576) (hb : ∀ t ∈ ts, t.body.length ≤ 9223372036854775807) : CP Tryz.prog 79 [.agg [.lst 4 (ts.map encTask)], .int .i64 t] (.bool (programOk ts && within t 0 ((ts.length : Int) - 1))) [] := by
  refine CP.by rfl mixed (cfn_ok Tryz.func79 ok79) rfl ?_
  simp (disch := omega) only [s79, go_sem]
  refine CP.go (programOk_c ts hl hb) rfl (refs_prog1 _ ts) ?_
  simp (disch := omega) only [go_sem]
  repeat' (first | (refine CP.go (within_c _ _ _) rfl rfl ?_ <;> (try simp (disch := omega) only [go_sem])) | (refine condP_t (by assumption) ?_ <;> (try simp (disch := omega) only [go_sem])) | (refine condP_f (by assumption) ?_ <;> (try simp (disch := omega) only [go_sem])) | (refine condP_dec (fun h => ?_) (fun h => ?_) <;> (try simp (disch := omega) only [go_sem])) | (refine condP_split (fun h => ?_) (fun h => ?_) <;> (try simp (disch := omega) only [go_sem])))
  all_goals simp_all
theorem cloneI_f (xs : List Int) (hx : xs.length ≤ 1048576) : F Tryz.prog 115 [.lst 1 (xs.map encI)] (.lst 1 (xs.map encI)) := by
  refine C.by mixed (cfn_ok Tryz.func115 ok115) rfl ?_
  simp (disch := omega) only [s115, go_sem]
  have ha : appendH [[]] 1 8 (.own 0 1 0 0 0) (.lst 1 (xs.map encI)) = some (.own 0 1 0 (0 + xs.length) (0 + xs.length), ([[]] : Heap).set 0 ([] ++ xs.map encI)) := appendH_n (n := 0) (m := xs.length) (b := []) rfl rfl (by simp [elemsOf]) (by simp) (by omega)
  have hfin : ∃ ids : List Nat, ids.Nodup ∧ OwnsR [xs.map encI] (.lst 1 (xs.map encI)) (.own 0 1 0 xs.length xs.length) ids := ⟨[0], by simp, Owns.own_flat rfl (by simp) (flat_encI _)⟩
  cases xs with
  | nil =>
    simp only [isnilP, List.map_nil, List.isEmpty_nil, if_true]
    intro b
    cases b
    · simp (disch := omega) only [go_sem, ha]
      exact hfin
    · simp (disch := omega) only [go_sem]
      exact ⟨[], by simp, Owns.nils_⟩
  | cons x xs =>
    simp only [isnilP, List.map_cons, List.isEmpty_cons, Bool.false_eq_true, if_false]
    simp only [List.map_cons] at ha
    simp (disch := omega) only [go_sem, ha]
    exact hfin
end Go.Av

namespace Go.Av
open Go.Proofs Go.RowKit
set_option linter.unusedVariables false
set_option linter.unusedSimpArgs false
set_option maxRecDepth 100000
set_option maxHeartbeats 4000000
theorem Sep.ls {h : Heap} {L : List It} (S : Sep h L) (c : List V) (hc : c.all V.scalar = true) : Sep h (.l c c :: L) := by
  obtain ⟨ids, nd, s⟩ := S
  exact ⟨ids, nd, [], ids, rfl, (OwnsL.scalars hc).2 ⟨rfl, rfl⟩, s⟩
theorem Sep.pushS {h : Heap} {sz bytes : Nat} {ys : Blk} {v : V} {L : List It} (S : Sep h (.v (.lst sz ys) v :: L)) (c : List V) (hc : c.all V.scalar = true) (hb : (ys.length + 1) * bytes ≤ 140737488355328) :
    ∃ v' h', appendH (h ++ [[c]]) sz bytes v (.own h.length sz 0 1 1) = some (v', h') ∧ Sep h' (.v (.lst sz (ys ++ [c])) v' :: L) := by
  have S1 := ((S.app [[c]]).ls c hc).sw
  exact S1.push (at_app0 _ _) hb
structure Micro where
  cost : Int
  at_ : Int
  val : Int
section
variable {vs vu vl vv : V} {task tail sent : Int} {F : List Bool} {h : Heap} {X : Nat}
end
structure TS where
  vars : List Int
  steps : List Micro
  used : List Int
  sent : List Int
  logged : List Int
def TS.add (σ : TS) (ms : List Micro) : TS := { σ with steps := σ.steps ++ ms }
def sendT (tail : Int) (x : Int) (σ : TS) : TS := { (if tail + σ.sent.length < 24 then σ.add [⟨3, 25 + (tail + σ.sent.length), x⟩] else σ) with sent := σ.sent ++ [x] }
def logA (must : List Int) (task tail k : Int) (σ : TS) : TS := if k ∈ must ∧ k ∉ σ.logged then { σ with steps := σ.steps ++ [⟨3, 9 + 2 * σ.logged.length, k⟩, ⟨3, 9 + 2 * σ.logged.length + 1, gtI σ.vars k.toNat⟩, ⟨3, 8, packM task (σ.logged.length + 1) tail⟩], logged := σ.logged ++ [k] } else σ
def assignT (must : List Int) (task tail k v : Int) (σ : TS) : TS := { logA must task tail k σ with vars := (logA must task tail k σ).vars.set k.toNat v, steps := (logA must task tail k σ).steps ++ [⟨3, k, v⟩] }
end Go.Av

namespace Go.Av
open Go.Proofs Go.RowKit
set_option linter.unusedVariables false
set_option linter.unusedSimpArgs false
set_option maxRecDepth 100000
set_option maxHeartbeats 4000000
theorem sat_value (x : Int) : isValue (sat x) = true := by
  have := sat_bd x
  simp [isValue, within]; omega
theorem evalE_value {zs : List Int} {e : Expr} (hz : ∀ z ∈ zs, isValue z = true) (h8 : zs.length = 8) (he : exprOk e = true) : isValue (evalE zs e) = true := by
  obtain ⟨h1, h2, h3⟩ := exprOk_facts he
  have hv : ∀ x : Int, -8 ≤ x ∧ x ≤ 999 → -1000000 ≤ valOf zs x ∧ valOf zs x ≤ 1000000 := fun x hx => by
    unfold valOf
    split
    · have hl : (-1 - x).toNat < zs.length := by omega
      rw [List.getElem?_eq_getElem hl]
      have := hz _ (List.getElem_mem hl)
      simp only [isValue, within, Bool.and_eq_true, decide_eq_true_eq] at this
      simpa using this
    · omega
  have ha := hv _ h2
  have hb := hv _ h3
  have hbit : ∀ b, isValue (bitI b) = true := fun b => by cases b <;> rfl
  unfold evalE
  simp only
  split
  · exact sat_value _
  split
  · exact sat_value _
  split
  · exact sat_value _
  split
  · simp [isValue, within]; omega
  split
  · simp [isValue, within]; omega
  split <;> exact hbit _
def readM (rd : List Int) (s n : Int) : Int := if rd.length = 0 ∨ isSensor s = false ∨ n < 0 then 0 else sat (sat (gtI rd (n.toNat % rd.length)) + sat (100 * s))
theorem readM_value (rd : List Int) (s n : Int) : isValue (readM rd s n) = true := by
  unfold readM
  split
  · rfl
  · exact sat_value _
theorem mod_toNat {n : Int} {l : Nat} (hn : 0 ≤ n) (hl : l ≠ 0) : n.tmod l = ((n.toNat % l : Nat) : Int) := by
  obtain ⟨k, rfl⟩ := Int.eq_ofNat_of_zero_le hn
  rw [mod_nn (by omega), Int.toNat_natCast, Int.natCast_emod]
def stepT (must : List Int) (task tail : Int) (rd : List Int) (at_ : Int) (s : Stmt) (σ : TS) : TS :=
  if s.kind = 1 then assignT must task tail s.var (evalE σ.vars s.e) (σ.add [⟨costK s.kind, -1, 0⟩])
  else if s.kind = 2 then assignT must task tail s.var (readM rd s.n (at_ + σ.used.length)) { σ.add [⟨costK s.kind, -1, 0⟩] with used := σ.used ++ [readM rd s.n (at_ + σ.used.length)] }
  else if s.kind = 3 then sendT tail (evalE σ.vars s.e) (σ.add [⟨costK s.kind, -1, 0⟩])
  else σ.add [⟨costK s.kind, -1, 0⟩]
end Go.Av

namespace Go.Av
open Go.Proofs Go.RowKit
set_option linter.unusedVariables false
set_option linter.unusedSimpArgs false
set_option maxRecDepth 100000
set_option maxHeartbeats 4000000
def taskAt (ts : List Task) (t : Int) : Task := (ts[t.toNat]?).getD ⟨[], ⟨0, 0, 0⟩⟩
theorem taskAt_eq {ts : List Task} {t : Int} (h : t.toNat < ts.length) : ts[t.toNat] = taskAt ts t := by simp [taskAt, h]
theorem taskAt_some {ts : List Task} {t : Int} (h : t.toNat < ts.length) : ts[t.toNat]? = some (taskAt ts t) := by simp [taskAt, h]
def nextM (ts : List Task) (vars : List Int) (t : Int) : Int := evalE vars (taskAt ts t).next % (ts.length : Int)
theorem prog_facts {ts : List Task} (h : programOk ts = true) : (1 ≤ ts.length ∧ ts.length ≤ 6) ∧ ∀ t ∈ ts, taskOk t = true ∧ t.body.length ≤ 24 := by
  simp only [programOk, within, Bool.and_eq_true, decide_eq_true_eq, List.all_eq_true] at h
  refine ⟨by omega, fun t ht => ⟨h.2 t ht, ?_⟩⟩
  exact (treeOf_ok (task_facts (h.2 t ht)).1).2.2
theorem tmod_twice {a n : Int} (hn : 0 < n) : (a.tmod n + n).tmod n = a % n := by
  have h1 : -n < a.tmod n := Int.lt_tmod_of_pos a hn
  rw [mod_nn (by omega), Int.add_emod_right]
  have h2 := Int.tmod_add_mul_tdiv a n
  conv => rhs; rw [← h2]
  rw [Int.add_mul_emod_self_left]
theorem next_c (ts : List Task) (vars : List Int) (t : Int) (hp : programOk ts = true) (hv : ∀ z ∈ vars, isValue z = true) (h8 : vars.length = 8) (ht : 0 ≤ t ∧ t < ts.length) : CP Tryz.prog 148 [.agg [.lst 4 (ts.map encTask)], .lst 1 (vars.map encI), .int .i64 t] (.int .i64 (nextM ts vars t)) [] := by
  have pf := prog_facts hp
  have hmem : taskAt ts t ∈ ts := by rw [← taskAt_eq (by omega)]; exact List.getElem_mem _
  have hte := task_facts (pf.2 _ hmem).1
  have hin : within t 0 ((ts.length : Int) - 1) = true := by simp [within]; omega
  have hvo : varsOkM vars = true := by simp only [varsOkM, h8, Bool.and_eq_true, decide_eq_true_eq, true_and]; exact vals_iff.2 hv
  have hev := evalE_value hv h8 hte.2
  simp only [isValue, within, Bool.and_eq_true, decide_eq_true_eq] at hev
  refine CP.by rfl mixed (cfn_ok Tryz.func148 ok148) rfl ?_
  simp (disch := omega) only [s148, go_sem]
  refine CP.go (hasTask_c ts t (by omega) (fun u hu => by have := (pf.2 u hu).2; omega)) rfl (by simp [V.refsL, V.refs, refsLL_map encTask (refs_task 0) ts]) ?_
  simp (disch := omega) only [go_sem, hp, hin, Bool.true_and]
  refine CP.go (varsOkG_c vars (by omega)) rfl (refs_int1 _ _) ?_
  have hta := taskAt_some (ts := ts) (t := t) (by omega)
  simp (disch := omega) only [go_sem, hvo, hta, List.getElem?_map, encTask, taskAt_eq]
  refine CP.go (eval_c vars (taskAt ts t).next hv h8 hte.2) rfl (by simp [V.refsL, V.refs, refsLL_map encI (fun _ => rfl) vars]) ?_
  have hm1 : -(ts.length : Int) < (evalE vars (taskAt ts t).next).tmod ts.length := Int.lt_tmod_of_pos _ (by omega)
  have hm2 : (evalE vars (taskAt ts t).next).tmod ts.length < ts.length := Int.tmod_lt_of_pos _ (by omega)
  simp (disch := omega) only [go_sem, hvo, hta, List.getElem?_map, encTask, taskAt_eq]
  rw [tmod_twice (by omega)]; rfl
structure MemT (n : Nat) (m : List Int) (t c l : Int) : Prop where
  len : m.length = 49
  val : ∀ z ∈ m.take 8, isValue z = true
  t0 : 0 ≤ t
  t1 : t < n
  l0 : 0 ≤ l
  l1 : l ≤ 24
  ctl : unpackM (gtI m 8) = (t, c, l)
end Go.Av

namespace Go.Av
open Go.Proofs Go.RowKit
set_option linter.unusedVariables false
set_option linter.unusedSimpArgs false
set_option maxRecDepth 100000
set_option maxHeartbeats 4000000
def usedM (rd : List Int) (n : Int) : Int := if (rd.length : Int) ≤ n then 0 else gtI rd n.toNat
theorem usedM_value {rd : List Int} (h : vals rd = true) {n : Int} (hn : 0 ≤ n) : isValue (usedM rd n) = true := by
  unfold usedM
  split
  · rfl
  · have hl : n.toNat < rd.length := by omega
    rw [← gtI_get hl]
    exact vals_iff.1 h _ (List.getElem_mem hl)
theorem usedAt_c (rd : List Int) (n : Int) (hn : 0 ≤ n) (hl : rd.length ≤ 9223372036854775807) : CP Tryz.prog 88 [.lst 1 (rd.map encI), .int .i64 n] (.int .i64 (usedM rd n)) [] := by
  refine CP.by rfl mixed (cfn_ok Tryz.func88 ok88) rfl ?_
  simp (disch := omega) only [s88, go_sem]
  refine condP_dec (fun h0 => ?_) (fun h0 => ?_)
  · simp (disch := omega) only [go_sem]
    rw [usedM, if_pos (by omega)]
  · have hlt : n.toNat < rd.length := by omega
    have hg := gtI_some hlt
    simp (disch := omega) only [go_sem, List.getElem?_map, hg, encI, gtI_get]
    rw [usedM, if_neg (by omega)]
theorem eff1_c {h : Heap} {rx : Nat} (rd : List Int) (n s : Int) (hn : 0 ≤ n) (hl : rd.length ≤ 9223372036854775807) (hid : h[rx]? = some [[.lst 1 (rd.map encI)]]) : C Tryz.prog 87 [.int .i64 n, .int .i64 s, .ptr rx 1 0 0] h (fun r h' => r = .int .i64 (usedM rd n) ∧ h' = h) := by
  refine C.by mixed (cfn_ok Tryz.func87 ok87) rfl ?_
  simp (disch := omega) only [s87, go_sem, hid]
  refine CP.go (usedAt_c rd n hn hl) rfl (refs_int1 _ _) ?_
  simp (disch := omega) only [go_sem, hid]
structure EF where
  vars : List Int
  sent : List Int
  used : Nat
def stepE (rd : List Int) (s : Stmt) (σ : EF) : EF :=
  if s.kind = 2 then { σ with vars := σ.vars.set s.var.toNat (usedM rd σ.used), used := σ.used + 1 }
  else if s.kind = 1 then { σ with vars := σ.vars.set s.var.toNat (evalE σ.vars s.e) }
  else if s.kind = 3 then { σ with sent := σ.sent ++ [evalE σ.vars s.e] }
  else σ
def holdE (s : Stmt) (σ : EF) : Bool := if s.kind = 4 then !decide (evalE σ.vars s.e = 0) else true
def EffS (rd : List Int) (next : Int) (E fx rx : Nat) (σ : EF) (L : List It) (h : Heap) : Prop := ∃ (vid : Nat) (vs : V), Sep h (.k E [[.own vid 1 0 8 8, vs, .int .i64 next, .int .i64 σ.used]] :: .k vid (σ.vars.map encI) :: .v (.lst 1 (σ.sent.map encI)) vs :: .k fx [[.fn 87 [.ptr rx 1 0 0]]] :: .k rx [[.lst 1 (rd.map encI)]] :: L)
def KeepE (rd : List Int) (next : Int) (E fx rx : Nat) (n : Nat) (σ : EF) (L : List It) (h : Heap) : Prop :=
  (σ.used ≤ n ∧ σ.sent.length ≤ n ∧ σ.vars.length = 8 ∧ ∀ z ∈ σ.vars, isValue z = true) ∧ EffS rd next E fx rx σ L h
theorem keepE_keeps (rd : List Int) (next : Int) (E fx rx : Nat) : Keeps (KeepE rd next E fx rx) where
  new := fun b ⟨hn, vid, vs, S⟩ => ⟨hn, vid, vs, (S.newK b).pk (A := [_, _, _, _, _, _]) [1, 2, 3, 4, 5, 0] rfl⟩
  get := fun ⟨hn, vid, vs, S⟩ => S.blk 5 rfl
  drop := fun ⟨hn, vid, vs, S⟩ => ⟨hn, vid, vs, S.drop 5⟩
theorem seeE_c {rd : List Int} {next : Int} {E fx rx : Nat} (hv : vals rd = true) (hr : rd.length ≤ 9223372036854775807) (n : Nat) (σ : EF) (s : Stmt) (L : List It) (h : Heap) (hn : n < maxCnt) (hs : stmtOk s = true) (h6 : s.kind ≠ 6) (K0 : KeepE rd next E fx rx n σ L h) :
    C Tryz.prog 147 [.agg (encStmt s), .ptr fx 1 0 0, .ptr E 1 0 0] h (fun r' h' => r' = .bool (holdE s σ) ∧ KeepE rd next E fx rx (n + 1) (stepE rd s σ) L h') := by
  have hnn : maxCnt = 282429536481 := rfl
  have hkk := stmt_kinds hs
  have K1 := (keepE_keeps rd next E fx rx).new [encStmt s] K0
  have hb := K1.1
  refine Exists.elim K1.2 fun vid T => Exists.elim T fun vs S => ?_
  clear K1
  have E1 := S.blk 0 rfl
  have F1 := S.blk 3 rfl
  have R1 := S.blk 4 rfl
  have B1 := S.blk 5 rfl
  have zs := S.vv 2 rfl
  simp only [encStmt] at B1 E1 F1 R1
  have hvs : Snap (h ++ [[encStmt s]]) (.own vid 1 0 8 8) (.lst 1 (σ.vars.map encI)) := Snap.flatN (S.blk 1 rfl) (by rw [List.length_map]; exact hb.2.2.1) (flat_encI _)
  simp only [encStmt] at hvs
  have fin : ∀ (σ' : EF) (h3 : Heap) (vid3 : Nat) (vs3 : V), stepE rd s σ = σ' → (σ'.used ≤ n + 1 ∧ σ'.sent.length ≤ n + 1 ∧ σ'.vars.length = 8 ∧ ∀ z ∈ σ'.vars, isValue z = true) → Sep h3 (.k E [[.own vid3 1 0 8 8, vs3, .int .i64 next, .int .i64 σ'.used]] :: .k vid3 (σ'.vars.map encI) :: .v (.lst 1 (σ'.sent.map encI)) vs3 :: .k fx [[.fn 87 [.ptr rx 1 0 0]]] :: .k rx [[.lst 1 (rd.map encI)]] :: .k h.length [encStmt s] :: L) → KeepE rd next E fx rx (n + 1) (stepE rd s σ) L h3 := fun σ' h3 vid3 vs3 e a b => by
    rw [e]
    exact ⟨a, vid3, vs3, b.drop 5⟩
  refine C.by mixed (cfn_ok Tryz.func147 ok147) rfl ?_
  simp (disch := omega) only [s147, go_sem, encStmt, B1]
  refine condP_dec (fun h1 => ?_) (fun h1 => ?_)
  · have hvv : hasVar s.kind = true := by simp [hasVar, h1]
    have hsv := stmt_var hs hvv
    simp (disch := omega) only [go_sem, encStmt, B1, E1, F1, R1, zs.1, zs.2.1, zs.2.2]
    refine C.go (eff1_c rd σ.used s.n (by omega) hr R1) ?_
    rintro r0 h2 ⟨rfl, rfl⟩
    have hvar : ((s.var.toNat : Nat) : Int) = s.var := by omega
    have st := store_i (z := usedM rd σ.used) (i := s.var.toNat) (S.blk 1 rfl) hb.2.2.1 (by omega)
    simp only [encStmt] at st
    have S2 := ((S.pull 1).setK ((σ.vars.set s.var.toNat (usedM rd σ.used)).map encI)).pk (A := [_, _]) [1, 0] rfl
    have E2 := S2.blk 0 rfl
    have S3 := S2.setK [[.own vid 1 0 8 8, vs, .int .i64 next, .int .i64 (σ.used + 1)]]
    have hh : holdE s σ = true := if_neg (by omega)
    simp only [encStmt] at E2
    simp (disch := omega) only [go_sem, encStmt, B1, E1, F1, R1, zs.1, zs.2.1, zs.2.2, st, E2, Nat.zero_add, hh]
    simp (disch := omega) only [go_sem, E2, zs.1, zs.2.1, zs.2.2, storeH, storeB, splice, hh]
    refine fin { σ with vars := σ.vars.set s.var.toNat (usedM rd σ.used), used := σ.used + 1 } _ vid vs (if_pos h1) ⟨by show σ.used + 1 ≤ _; omega, by show σ.sent.length ≤ _; omega, by simpa using hb.2.2.1, set_all hb.2.2.2 (usedM_value hv (by omega))⟩ ?_
    exact S3
  have he1 : stepE rd s σ = if s.kind = 1 then { σ with vars := σ.vars.set s.var.toNat (evalE σ.vars s.e) } else if s.kind = 3 then { σ with sent := σ.sent ++ [evalE σ.vars s.e] } else σ := if_neg h1
  simp (disch := omega) only [go_sem, encStmt, B1]
  refine condP_dec (fun h2 => ?_) (fun h2 => ?_)
  · have hx : hasExpr s.kind = true := by simp [hasExpr, h2]
    have hvv : hasVar s.kind = true := by simp [hasVar, h2]
    have hsv := stmt_var hs hvv
    have hex := stmt_expr hs hx
    simp (disch := omega) only [go_sem, encStmt, B1, E1, F1, R1, zs.1, zs.2.1, zs.2.2]
    refine CP.goS (eval_c σ.vars s.e hb.2.2.2 hb.2.2.1 hex) rfl rfl (.cons hvs (.cons (.same _ (by rfl)) (.nil _))) ?_
    have st := store_i (z := evalE σ.vars s.e) (i := s.var.toNat) (S.blk 1 rfl) hb.2.2.1 (by omega)
    simp only [encStmt] at st
    have S2 := ((S.pull 1).setK ((σ.vars.set s.var.toNat (evalE σ.vars s.e)).map encI)).pk (A := [_, _]) [1, 0] rfl
    have hh : holdE s σ = true := if_neg (by omega)
    simp (disch := omega) only [go_sem, encStmt, B1, E1, F1, R1, zs.1, zs.2.1, zs.2.2, st, Nat.zero_add, hh]
    exact fin { σ with vars := σ.vars.set s.var.toNat (evalE σ.vars s.e) } _ vid vs (he1.trans (if_pos h2)) ⟨by show σ.used ≤ _; omega, by show σ.sent.length ≤ _; omega, by simpa using hb.2.2.1, set_all hb.2.2.2 (evalE_value hb.2.2.2 hb.2.2.1 hex)⟩ S2
  have he2 := he1.trans (if_neg h2)
  simp (disch := omega) only [go_sem, encStmt, B1]
  refine condP_dec (fun h3 => ?_) (fun h3 => ?_)
  · have hx : hasExpr s.kind = true := by simp [hasExpr, h3]
    have hex := stmt_expr hs hx
    simp (disch := omega) only [go_sem, encStmt, B1, E1, F1, R1, zs.1, zs.2.1, zs.2.2]
    refine CP.goS (eval_c σ.vars s.e hb.2.2.2 hb.2.2.1 hex) rfl rfl (.cons hvs (.cons (.same _ (by rfl)) (.nil _))) ?_
    refine Exists.elim ((S.pull 2).pushS (bytes := 8) [.int .i64 (evalE σ.vars s.e)] rfl (by simp; omega)) fun v' q => Exists.elim q fun h5 q => ?_
    have hap := q.1
    have S3 := q.2
    clear q
    rw [show σ.sent.map encI ++ [[V.int .i64 (evalE σ.vars s.e)]] = (σ.sent ++ [evalE σ.vars s.e]).map encI by simp [encI]] at S3
    have z3 := S3.vv 0 rfl
    have E3 := S3.blk 1 rfl
    have S4 := ((S3.pull 1).setK [[.own vid 1 0 8 8, v', .int .i64 next, .int .i64 σ.used]]).pk (A := [_, _, _]) [0, 2, 1] rfl
    simp only [encStmt] at hap
    have E1' := fun t => heap_app (h' := t) E1
    simp only [List.append_assoc, List.cons_append, List.nil_append, List.length_append, List.length_cons, List.length_nil, Nat.zero_add] at E1' hap
    have hh : holdE s σ = true := if_neg (by omega)
    simp (disch := omega) only [go_sem, encStmt, B1, E1, F1, R1, zs.1, zs.2.1, zs.2.2, E1', hap, E3, z3.1, z3.2.1, z3.2.2, storeH, storeB, splice, hh]
    exact fin { σ with sent := σ.sent ++ [evalE σ.vars s.e] } _ vid v' (he2.trans (if_pos h3)) ⟨by show σ.used ≤ _; omega, by show (σ.sent ++ [evalE σ.vars s.e]).length ≤ _; rw [List.length_append]; simp; omega, hb.2.2.1, hb.2.2.2⟩ S4
  have he := he2.trans (if_neg h3)
  simp (disch := omega) only [go_sem, encStmt, B1]
  refine condP_dec (fun h4 => ?_) (fun h4 => ?_)
  · have hx : hasExpr s.kind = true := by simp [hasExpr, h4]
    have hex := stmt_expr hs hx
    simp (disch := omega) only [go_sem, encStmt, B1, E1, F1, R1, zs.1, zs.2.1, zs.2.2]
    refine CP.goS (eval_c σ.vars s.e hb.2.2.2 hb.2.2.1 hex) rfl rfl (.cons hvs (.cons (.same _ (by rfl)) (.nil _))) ?_
    have hh : holdE s σ = !decide (evalE σ.vars s.e = 0) := if_pos h4
    simp (disch := omega) only [go_sem, hh]
    exact fin σ _ vid vs he ⟨by omega, by omega, hb.2.2.1, hb.2.2.2⟩ S
  · have hh : holdE s σ = true := if_neg h4
    simp (disch := omega) only [go_sem, hh]
    exact fin σ _ vid vs he ⟨by omega, by omega, hb.2.2.1, hb.2.2.2⟩ S
noncomputable def runE (tk : Task) (rd vars : List Int) : EF := runG (stepE rd) holdE (treeOf tk.body) ⟨vars, [], 0⟩
noncomputable def effOf (ts : List Task) (t : Int) (vars rd : List Int) : EF := runE (taskAt ts t) rd vars
theorem effect_c {h : Heap} {rx : Nat} {L : List It} (ts : List Task) (t : Int) (vars rd : List Int) (hp : programOk ts = true) (ht : 0 ≤ t ∧ t < ts.length) (hvo : varsOkM vars = true) (hv : vals rd = true) (hr : rd.length ≤ 9223372036854775807) (S : Sep h (.k rx [[.lst 1 (rd.map encI)]] :: L)) :
    C Tryz.prog 86 [.agg [.lst 4 (ts.map encTask)], .int .i64 t, .lst 1 (vars.map encI), .fn 87 [.ptr rx 1 0 0]] h (fun r h' => ((effOf ts t vars rd).vars.length = 8 ∧ (∀ z ∈ (effOf ts t vars rd).vars, isValue z = true) ∧ (effOf ts t vars rd).used ≤ maxCnt ∧ (effOf ts t vars rd).sent.length ≤ maxCnt) ∧ ∃ vv vs, r = .agg [vv, vs, .int .i64 (nextM ts (effOf ts t vars rd).vars t), .int .i64 (effOf ts t vars rd).used] ∧ Sep h' (.v (.lst 1 ((effOf ts t vars rd).vars.map encI)) vv :: .v (.lst 1 ((effOf ts t vars rd).sent.map encI)) vs :: .k rx [[.lst 1 (rd.map encI)]] :: L)) := by
  have pf := prog_facts hp
  have htl : t.toNat < ts.length := by omega
  have hta := taskAt_some htl
  have hmem : taskAt ts t ∈ ts := by rw [← taskAt_eq htl]; exact List.getElem_mem _
  have htk := pf.2 _ hmem
  have hte := task_facts htk.1
  have htr := treeOf_ok hte.1
  have hnn : maxCnt = 282429536481 := rfl
  have hvf : vars.length = 8 ∧ ∀ z ∈ vars, isValue z = true := by
    simp only [varsOkM, Bool.and_eq_true, decide_eq_true_eq] at hvo
    exact ⟨hvo.1, vals_iff.1 hvo.2⟩
  refine C.by mixed (cfn_ok Tryz.func86 ok86) rfl ?_
  simp (disch := omega) only [s86, go_sem]
  have S0 := S.newK3 [[.lst 4 (ts.map encTask)]] [[.fn 87 [.ptr rx 1 0 0]]] [[V.nils, .nils, .int .i64 0, .int .i64 0]]
  refine S0.goLst (cloneI_f vars (by omega)) (.same (refs_int1 _ _)) fun v1 h1 x1 S1 o1 n1 c1 => ?_
  have h8 : (vars.map encI).length = 8 := by simpa using hvf.1
  refine Exists.elim (show ∃ q, v1 = .own q 1 0 8 8 ∧ Sep h1 (.k q (vars.map encI) :: .k (h.length + 2) [[V.nils, .nils, .int .i64 0, .int .i64 0]] :: .k (h.length + 1) [[.fn 87 [.ptr rx 1 0 0]]] :: .k h.length [[.lst 4 (ts.map encTask)]] :: .k rx [[.lst 1 (rd.map encI)]] :: L) from ?_) fun vid z => ?_
  · rcases S1.flat_ (flat_encI _) with ⟨a, b, c⟩ | ⟨q, a, b⟩
    · rw [b] at h8; simp at h8
    · rw [h8] at a; exact ⟨q, a, b⟩
  have z1 := z.1
  have S1' := z.2
  clear z
  subst z1
  have S2 := (S1'.newK [[.own vid 1 0 8 8, .nils, .int .i64 0, .int .i64 0]]).nils (sz := 1)
  have P2 := S2.blk 5 rfl
  simp (disch := omega) only [go_sem, splice, P2, encTask, List.getElem?_map, hta, taskAt_eq]
  have hcm := cntT_max (t := treeOf (taskAt ts t).body) (by rw [← htr.2.1]; exact htr.2.2)
  have R0 : KeepE rd 0 h1.length (h.length + 1) rx 0 ⟨vars, [], 0⟩ (.k (h.length + 2) [[V.nils, .nils, .int .i64 0, .int .i64 0]] :: .k h.length [[.lst 4 (ts.map encTask)]] :: L) (h1 ++ [[[.own vid 1 0 8 8, .nils, .int .i64 0, .int .i64 0]]]) := ⟨⟨Nat.le_refl _, by simp, hvf.1, hvf.2⟩, vid, .nils, S2.pk (A := [_, _, _, _, _, _, _]) [1, 2, 0, 4, 6, 3, 5] rfl⟩
  refine C.go (walk_c (keepE_keeps rd 0 h1.length (h.length + 1) rx) (seeE_c hv hr) (treeOf (taskAt ts t).body) (taskAt ts t).body 0 _ _ _ htr.1 htr.2.1 htr.2.2 (by omega) R0) ?_
  intro r5 h5 P
  have hr5 := P.1
  refine Exists.elim P.2 fun n' P => ?_
  have hn' := P.1
  have K5 := P.2
  clear P
  subst hr5
  refine Exists.elim (show ∃ σ, σ = effOf ts t vars rd from ⟨_, rfl⟩) fun σ hσ => ?_
  have hσ' : runG (stepE rd) holdE (treeOf (taskAt ts t).body) ⟨vars, [], 0⟩ = σ := hσ.symm
  rw [hσ'] at K5
  have hb5 := K5.1
  refine Exists.elim K5.2 fun vid5 q => Exists.elim q fun vs5 S5 => ?_
  clear K5
  have E5 := S5.blk 0 rfl
  have P5 := S5.blk 6 rfl
  have z5 := S5.vv 2 rfl
  simp (disch := omega) only [go_sem, E5, P5, z5.1, z5.2.1, z5.2.2, refs_task]
  refine CP.goS (next_c ts σ.vars t hp hb5.2.2.2 hb5.2.2.1 ht) rfl rfl (.cons (.same _ (refs_prog 0 ts)) (.cons (Snap.flatN (S5.blk 1 rfl) (by rw [List.length_map]; exact hb5.2.2.1) (flat_encI _)) (.cons (.int _ _) (.nil _)))) ?_
  have S6 := S5.setK [[.own vid5 1 0 8 8, vs5, .int .i64 (nextM ts σ.vars t), .int .i64 σ.used]]
  have E6 := S6.blk 0 rfl
  have Z6 := S6.blk 5 rfl
  have C6 : ∀ d, ((h5.set h1.length [[.own vid5 1 0 8 8, vs5, .int .i64 (nextM ts σ.vars t), .int .i64 σ.used]]).set (h.length + 2) d)[h.length + 2]? = some d := fun d => heap_set _ Z6
  have S7 := ((S6.pull 5).setK [[.own vid5 1 0 8 8, vs5, .int .i64 (nextM ts σ.vars t), .int .i64 σ.used]]).pk (A := [_, _, _, _, _, _, _]) [2, 3, 5] rfl
  have S8 := Sep.ofFlat (sz := 1) (n := 8) S7 (by rw [List.length_map]; exact hb5.2.2.1) (flat_encI _)
  simp (disch := omega) only [go_sem, E5, P5, z5.1, z5.2.1, z5.2.2, E6, Z6, C6, storeH, storeB, splice]
  rw [← hσ]
  exact ⟨⟨hb5.2.2.1, hb5.2.2.2, by omega, by omega⟩, _, _, rfl, S8⟩
theorem taskEffect_f (ts : List Task) (t : Int) (vars rd : List Int) (hp : programOk ts = true) (ht : 0 ≤ t ∧ t < ts.length) (hvo : varsOkM vars = true) (hv : vals rd = true) (hr : rd.length ≤ 9223372036854775807) :
    F Tryz.prog 28 [.agg [.lst 4 (ts.map encTask)], .int .i64 t, .lst 1 (vars.map encI), .lst 1 (rd.map encI)] (.tup [.agg [.lst 1 ((effOf ts t vars rd).vars.map encI), .lst 1 ((effOf ts t vars rd).sent.map encI), .int .i64 (nextM ts (effOf ts t vars rd).vars t), .int .i64 (effOf ts t vars rd).used], .bool true]) := by
  have pf := prog_facts hp
  have hin : within t 0 ((ts.length : Int) - 1) = true := by simp [within]; omega
  have hvl : vars.length = 8 := by
    simp only [varsOkM, Bool.and_eq_true, decide_eq_true_eq] at hvo
    exact hvo.1
  refine C.by mixed (cfn_ok Tryz.func28 ok28) rfl ?_
  simp (disch := omega) only [s28, go_sem]
  refine CP.go (hasTask_c ts t (by omega) (fun u hu => by have := (pf.2 u hu).2; omega)) rfl (by simp [V.refsL, V.refs, refsLL_map encTask (refs_task 0) ts]) ?_
  simp (disch := omega) only [go_sem, hp, hin, Bool.true_and]
  refine CP.go (varsOkG_c vars (by omega)) rfl (refs_int1 _ _) ?_
  simp (disch := omega) only [go_sem, hvo]
  refine CP.go (values_c rd hr) rfl (refs_int1 _ _) ?_
  have S0 : Sep ([[[V.lst 4 (ts.map encTask)]], [[V.lst 1 (rd.map encI)]], [[V.nils, .nils, .int .i64 0, .int .i64 0]]] : Heap) [.k 1 [[V.lst 1 (rd.map encI)]], .k 2 [[V.nils, .nils, .int .i64 0, .int .i64 0]]] := ((((Sep.nil []).newK _).newK _).newK _).pk (A := [_, _, _]) (L := []) [1, 0] rfl
  simp (disch := omega) only [go_sem, hv, refs_task]
  refine C.go (effect_c ts t vars rd hp ht hvo hv hr S0) ?_
  intro r h1 P
  refine Exists.elim P.2 fun vv q => Exists.elim q fun vs q => ?_
  have hr1 := q.1
  have S1 := q.2
  clear q P
  subst hr1
  have zv := S1.vv 0 rfl
  have zs := S1.vv 1 rfl
  have K1 := S1.blk 3 rfl
  have C1 : ∀ d, (h1.set 2 d)[2]? = some d := fun d => heap_set _ K1
  simp (disch := omega) only [go_sem, zv.1, zv.2.1, zv.2.2, zs.1, zs.2.1, zs.2.2, K1, C1, storeH, storeB, splice]
  have S2 := ((S1.pull 3).setK [[vv, vs, .int .i64 (nextM ts (effOf ts t vars rd).vars t), .int .i64 (effOf ts t vars rd).used]]).pk (A := [_, _, _, _]) [2, 1] rfl
  have A1 := Sep.li (k := .i64) (z := nextM ts (effOf ts t vars rd).vars t) (Sep.li (k := .i64) (z := (effOf ts t vars rd).used) (Sep.l0 S2))
  have A2 := Sep.cons2 (fun es e => by cases e) (Sep.sw A1)
  have A3 := (Sep.cons2 (fun es e => by cases e) (Sep.sw A2)).a
  exact (Sep.cons2 (fun es e => by cases e) (Sep.sw (Sep.lb (z := true) (Sep.l0 A3)))).t.ret
end Go.Av

namespace Go.Av
open Go.Proofs Go.RowKit
set_option linter.unusedVariables false
set_option linter.unusedSimpArgs false
set_option maxRecDepth 100000
theorem cut_step {xs : List Stmt} {k : Nat} (h : k < xs.length) : cutM xs (xs.length - k) k = (if depthOf xs k = 0 ∧ ¬ xs[k].kind = 6 then [(k : Int)] else []) ++ cutM xs (xs.length - (k + 1)) (k + 1) := by
  have e : xs.length - k = (xs.length - (k + 1)) + 1 := by omega
  rw [e]
  have e2 : (∀ h : k < xs.length, xs[k].kind = 6) ↔ xs[k].kind = 6 := ⟨fun g => g h, fun g _ => g⟩
  simp only [cutM, e2]
abbrev cutInv (xs : List Stmt) (sl sk : Nat) (m : Nat) (s : St) : Prop :=
  ∃ (k id : Nat) (cs : List Int), 1 ≤ k ∧ (k ≤ xs.length ∨ k = 1) ∧ m = xs.length - k ∧ cs.length ≤ k ∧ s.e 0 = .lst 6 (xs.map encStmt) ∧ s.e sk = .int .i64 k ∧ s.e sl = .own id 1 0 cs.length cs.length ∧ s.h[id]? = some (cs.map encI) ∧ cs ++ cutM xs (xs.length - k) k = cutM xs (xs.length - 1) 1
set_option maxHeartbeats 4000000 in
theorem cutPoints_c (xs : List Stmt) (hx : xs.length ≤ 1048576) (hb : blockOk xs = true) : CP Tryz.prog 25 [.lst 6 (xs.map encStmt)] (.own 0 1 0 (cutsM xs).length (cutsM xs).length) [(cutsM xs).map encI] := by
  have hcm : cutsM xs = cutM xs (xs.length - 1) 1 := by unfold cutsM; rw [if_pos hb]
  refine C.cpOwn (flat_encI _) (C.by mixed (cfn_ok Tryz.func25 ok25) rfl ?_)
  simp (disch := omega) only [s25, go_sem]
  refine CP.go (blockOk_c xs (by omega)) rfl (refs_arg _ _) ?_
  simp (disch := omega) only [go_sem, hb]
  refine loopP_intro (cutInv xs 3 4) (xs.length - 1) ⟨1, 0, [], by omega, by omega, rfl, by simp, rfl, rfl, rfl, rfl, rfl⟩ ?_
  rintro m e hp ⟨k, id, cs, hk1, hk2, rfl, hcl, e0, e4, e3, hid, hcs⟩
  simp only at e0 e4 e3 hid
  simp (disch := omega) only [go_sem, e0, e4, e3, encStmt]
  refine condP_dec (fun hlt => ?_) (fun hlt => ?_)
  · have hlt' : k < xs.length := by omega
    rw [cut_step hlt'] at hcs
    simp (disch := omega) only [go_sem, e0, e4, e3, encStmt]
    refine CP.go (depthOf_c xs k (by omega)) rfl (refs_args _ _ _) ?_
    simp (disch := omega) only [go_sem, e0, e4, e3, encStmt]
    repeat' (first | (refine condP_t (by assumption) ?_ <;> (try simp (disch := omega) only [go_sem, e0, e4, e3, encStmt])) | (refine condP_f (by assumption) ?_ <;> (try simp (disch := omega) only [go_sem, e0, e4, e3, encStmt])) | (refine condP_dec (fun h => ?_) (fun h => ?_) <;> (try simp (disch := omega) only [go_sem, e0, e4, e3, encStmt])) | (refine condP_split (fun h => ?_) (fun h => ?_) <;> (try simp (disch := omega) only [go_sem, e0, e4, e3, encStmt])))
    · refine nextP_intro (xs.length - (k + 1)) (by omega) ⟨k + 1, id, cs, by omega, by omega, rfl, by omega, ?_, ?_, ?_, ?_, ?_⟩
      · simp (disch := omega) only [go_sem, e0, e4, e3, encStmt]
      · simp (disch := omega) only [go_sem, e0, e4, e3, encStmt] <;> rfl
      · simp (disch := omega) only [go_sem, e0, e4, e3, encStmt]
      · exact hid
      · rw [← hcs, if_neg (by simp_all)]; simp
    · rw [append1 hid (List.length_map ..) (by omega)]
      simp (disch := omega) only [go_sem, e0, e4, e3, encStmt]
      refine nextP_intro (xs.length - (k + 1)) (by omega) ⟨k + 1, id, cs ++ [(k : Int)], by omega, by omega, rfl, by simp; omega, ?_, ?_, ?_, ?_, ?_⟩
      · simp (disch := omega) only [go_sem, e0, e4, e3, encStmt]
      · simp (disch := omega) only [go_sem, e0, e4, e3, encStmt] <;> rfl
      · simp (disch := omega) only [go_sem, e0, e4, e3, encStmt] <;> simp
      · simp only [List.map_append]; exact heap_set _ (heap_app hid)
      · rw [← hcs, if_pos ⟨by assumption, by assumption⟩]; simp
    · refine nextP_intro (xs.length - (k + 1)) (by omega) ⟨k + 1, id, cs, by omega, by omega, rfl, by omega, ?_, ?_, ?_, ?_, ?_⟩
      · simp (disch := omega) only [go_sem, e0, e4, e3, encStmt]
      · simp (disch := omega) only [go_sem, e0, e4, e3, encStmt] <;> rfl
      · simp (disch := omega) only [go_sem, e0, e4, e3, encStmt]
      · exact hid
      · rw [← hcs, if_neg (by simp_all)]; simp
  · simp (disch := omega) only [go_sem, e0, e4, e3, encStmt]
    refine ⟨id, ?_, ?_⟩
    · have : xs.length - k = 0 := by omega
      rw [this] at hcs
      rw [hcm, ← hcs]; simp [cutM]
    · have : xs.length - k = 0 := by omega
      rw [this] at hcs
      rw [hcm, ← hcs]; simpa [cutM] using hid
end Go.Av

namespace Go.Av
open Go.Proofs Go.RowKit
set_option linter.unusedVariables false
set_option linter.unusedSimpArgs false
set_option maxRecDepth 100000
set_option maxHeartbeats 4000000
theorem cutPoints_n (xs : List Stmt) (hx : xs.length ≤ 1048576) (hb : blockOk xs = false) : CP Tryz.prog 25 [.lst 6 (xs.map encStmt)] .nils [] := by
  refine CP.by rfl mixed (cfn_ok Tryz.func25 ok25) rfl ?_
  simp (disch := omega) only [s25, go_sem]
  refine CP.go (blockOk_c xs (by omega)) rfl (refs_arg _ _) ?_
  simp (disch := omega) only [go_sem, hb]
theorem cutPoints_s (xs : List Stmt) (hx : xs.length ≤ 1048576) : CP Tryz.prog 26 [.lst 6 (xs.map encStmt)] (.own 0 1 0 (cutsM xs).length (cutsM xs).length) [(cutsM xs).map encI] := by
  refine C.cpOwn (flat_encI _) (C.by mixed (cfn_ok Tryz.func26 ok26) rfl ?_)
  simp (disch := omega) only [s26, go_sem]
  cases hb : blockOk xs
  · have hcm : cutsM xs = [] := by unfold cutsM; rw [hb]; rfl
    rw [hcm]
    refine loopP_intro (fun m s => m = 0 ∧ s.e 0 = .lst 6 (xs.map encStmt) ∧ s.e 4 = .int .i64 1 ∧ s.e 3 = .own 0 1 0 0 0 ∧ s.h[0]? = some []) 0 ⟨rfl, rfl, rfl, rfl, rfl⟩ ?_
    rintro m e hp ⟨rfl, e0, e4, e3, hid⟩
    simp only at e0 e4 e3 hid
    simp (disch := omega) only [go_sem, e0, e4, e3, encStmt]
    refine condP_dec (fun hlt => ?_) (fun hlt => ?_)
    · simp (disch := omega) only [go_sem, e0, e4, e3, encStmt]
      refine CP.go (blockOk_s xs (by omega)) rfl (refs_arg _ _) ?_
      simp (disch := omega) only [go_sem, hb, e0, e4, e3, encStmt]
      exact ⟨0, rfl, hid⟩
    · simp (disch := omega) only [go_sem, e0, e4, e3, encStmt]
      exact ⟨0, rfl, hid⟩
  · have hcm : cutsM xs = cutM xs (xs.length - 1) 1 := by unfold cutsM; rw [if_pos hb]
    refine loopP_intro (cutInv xs 3 4) (xs.length - 1) ⟨1, 0, [], by omega, by omega, rfl, by simp, rfl, rfl, rfl, rfl, rfl⟩ ?_
    rintro m e hp ⟨k, id, cs, hk1, hk2, rfl, hcl, e0, e4, e3, hid, hcs⟩
    simp only at e0 e4 e3 hid
    simp (disch := omega) only [go_sem, e0, e4, e3, encStmt]
    have fin : ¬ (k < xs.length) → ∃ id', V.own id 1 0 cs.length cs.length = .own id' 1 0 (cutsM xs).length (cutsM xs).length ∧ hp[id']? = some ((cutsM xs).map encI) := fun hlt => by
      have : xs.length - k = 0 := by omega
      rw [this] at hcs
      have hcs' : cs = cutM xs (xs.length - 1) 1 := by rw [← hcs]; simp [cutM]
      rw [hcm, ← hcs']
      exact ⟨id, rfl, hid⟩
    refine condP_dec (fun hlt => ?_) (fun hlt => ?_)
    · have hlt' : k < xs.length := by omega
      rw [cut_step hlt'] at hcs
      simp (disch := omega) only [go_sem, e0, e4, e3, encStmt]
      refine CP.go (blockOk_s xs (by omega)) rfl (refs_arg _ _) ?_
      simp (disch := omega) only [go_sem, hb, e0, e4, e3, encStmt]
      repeat' (first | (refine CP.go (depthOf_s xs k (by omega)) rfl (refs_args _ _ _) ?_ <;> simp (disch := omega) only [go_sem, e0, e4, e3, encStmt]) | (refine condP_t (by assumption) ?_ <;> (try simp (disch := omega) only [go_sem, e0, e4, e3, encStmt])) | (refine condP_f (by assumption) ?_ <;> (try simp (disch := omega) only [go_sem, e0, e4, e3, encStmt])) | (refine condP_dec (fun h => ?_) (fun h => ?_) <;> (try simp (disch := omega) only [go_sem, e0, e4, e3, encStmt])) | (refine condP_split (fun h => ?_) (fun h => ?_) <;> (try simp (disch := omega) only [go_sem, e0, e4, e3, encStmt])))
      all_goals first
        | (rw [append1 hid (List.length_map ..) (by omega)]
           simp (disch := omega) only [go_sem, e0, e4, e3, encStmt]
           refine nextP_intro (xs.length - (k + 1)) (by omega) ⟨k + 1, id, cs ++ [(k : Int)], by omega, by omega, rfl, by simp; omega, ?_, ?_, ?_, ?_, ?_⟩
           · simp (disch := omega) only [go_sem, e0, e4, e3, encStmt]
           · simp (disch := omega) only [go_sem, e0, e4, e3, encStmt] <;> rfl
           · simp (disch := omega) only [go_sem, e0, e4, e3, encStmt] <;> simp
           · simp only [List.map_append]; exact heap_set _ (heap_app hid)
           · rw [← hcs, if_pos ⟨by assumption, by assumption⟩]; simp)
        | (refine nextP_intro (xs.length - (k + 1)) (by omega) ⟨k + 1, id, cs, by omega, by omega, rfl, by omega, ?_, ?_, ?_, ?_, ?_⟩
           · simp (disch := omega) only [go_sem, e0, e4, e3, encStmt]
           · simp (disch := omega) only [go_sem, e0, e4, e3, encStmt] <;> rfl
           · simp (disch := omega) only [go_sem, e0, e4, e3, encStmt]
           · exact hid
           · rw [← hcs, if_neg (by simp_all)]; simp)
    · simp (disch := omega) only [go_sem, e0, e4, e3, encStmt]
      exact fin (by omega)
end Go.Av

namespace Go.Av
open Go.Proofs Go.RowKit
set_option linter.unusedVariables false
set_option linter.unusedSimpArgs false
set_option maxRecDepth 100000
set_option maxHeartbeats 4000000
theorem CP.f {P : Program} {f : FuncId} {args : List V} {sz n : Nat} {b : Blk} (hf : flat b = true) (hn : b.length = n) (h : CP P f args (.own 0 sz 0 n n) [b]) : F P f args (.lst sz b) :=
  C.mono h fun r h' ⟨_, _, g, _, e, hg⟩ => by
    subst e hn
    have := hg 0 b rfl
    rw [mapLL_refs0 (flat_refs 0 hf)] at this
    exact ⟨[g 0], by simp, Owns.own_flat this rfl hf⟩
theorem nin_ge {ids : List Nat} {n j : Nat} (h : ∀ i ∈ ids, n ≤ i) (hj : j < n) : j ∉ ids := fun hm => by have := h j hm; omega
theorem flat_Stmt (xs : List Stmt) : flat (xs.map encStmt) = true := by simp [flat, encStmt, V.scalar]
theorem refs_stmts1 (n : Nat) (xs : List Stmt) : V.refsL n [.lst 6 (xs.map encStmt)] = true := refs_arg _ _
theorem OwnsL.mkTask {h : Heap} {t : Task} {va : V} {ia : List Nat} (oa : Owns h (.lst 6 (t.body.map encStmt)) va ia) : OwnsL h (encTask t) [va, .int .i64 t.next.op, .int .i64 t.next.a, .int .i64 t.next.b] ia := by
  have := OwnsL.o oa (OwnsL.i (k := .i64) (n := t.next.op) (OwnsL.i (k := .i64) (n := t.next.a) (OwnsL.i (k := .i64) (n := t.next.b) OwnsL.e)))
  rw [List.append_nil] at this
  exact this
theorem OwnsL.task {h : Heap} {t : Task} {cs : List V} {ids : List Nat} (o : OwnsL h (encTask t) cs ids) : ∃ va, cs = [va, .int .i64 t.next.op, .int .i64 t.next.a, .int .i64 t.next.b] ∧ Owns h (.lst 6 (t.body.map encStmt)) va ids := by
  obtain ⟨c, cs', i, j, rfl, rfl, o1, o2⟩ := OwnsL.cons_.1 o
  obtain ⟨rfl, rfl⟩ := (OwnsL.scalars (by rfl)).1 o2
  exact ⟨c, rfl, by simpa using o1⟩
theorem refs_progI (n : Nat) (ts : List Task) (k : Int) : V.refsL n [.agg [.lst 4 (ts.map encTask)], .int .i64 k] = true := by simp only [V.refsL, refs_prog]; rfl
theorem Sep.progSnap {ts : List Task} {h : Heap} {L : List It} (S : Sep h L) (n : Nat) {v : V} (e : L[n]? = some (.v (.lst 4 (ts.map encTask)) v)) : Snap h (.agg [v]) (.agg [.lst 4 (ts.map encTask)]) :=
  Snap.ofSnaps (.cons (S.snap n e) (.nil _))
end Go.Av

namespace Go.Av
open Go.Proofs Go.RowKit
set_option linter.unusedVariables false
set_option linter.unusedSimpArgs false
set_option maxRecDepth 100000
set_option maxHeartbeats 4000000
def zer : List Int := List.replicate 8 0
theorem zer_ok : ∀ z ∈ zer, isValue z = true := fun z hz => by rw [List.eq_of_mem_replicate hz]; rfl
def looseB (n : Nat) (t : Task) : Bool := decide (t.next.a < 0) || decide (t.next.b < 0) || !(within (evalE zer t.next) 0 ((n : Int) - 1))
def rigidM (ts : List Task) : Bool := programOk ts && !(ts.any (looseB ts.length))
theorem reads_pos {e : Expr} (he : exprOk e = true) : 0 < (readsI e).length ↔ (e.a < 0 ∨ e.b < 0) := by
  rw [List.length_pos_iff_exists_mem]
  constructor
  · rintro ⟨k, hk⟩
    have := (mem_readsI he).1 hk
    unfold readsK at this; omega
  · rintro (h | h)
    · exact ⟨-1 - e.a, (mem_readsI he).2 ⟨by omega, .inl (by omega)⟩⟩
    · exact ⟨-1 - e.b, (mem_readsI he).2 ⟨by omega, .inr (by omega)⟩⟩
theorem refs_expr1 (n : Nat) (e : Expr) : V.refsL n [.agg (encExpr e)] = true := rfl
theorem loose_c (h : Heap) (ts : List Task) (tk : Task) (id zid jd : Nat) (he : exprOk tk.next = true) (hl : ts.length ≤ 1048576) (h1 : h[id]? = some [[.own zid 1 0 8 8]]) (h2 : h[zid]? = some (zer.map encI)) (h3 : h[jd]? = some [[.lst 4 (ts.map encTask)]]) :
    C Tryz.prog 139 [.agg (encTask tk), .ptr id 1 0 0, .ptr jd 1 0 0] h (fun r h' => r = .bool (looseB ts.length tk) ∧ Ext h h') := by
  obtain ⟨body, ⟨op, a, b⟩⟩ := tk
  simp only at he
  refine C.by mixed (cfn_ok Tryz.func139 ok139) rfl ?_
  simp (disch := omega) only [s139, go_sem, encTask]
  refine (Sep.nil _).goPt (readsOf_c ⟨op, a, b⟩) (.same (refs_expr1 _ ⟨op, a, b⟩)) fun r h' x1 S1 o1 n1 c1 l1 => ?_
  have X : Ext h h' := (Ext.app _ _).trans x1
  have b0 := x1.get (i := h.length) (b := [[.lst 6 (body.map encStmt), .int .i64 op, .int .i64 a, .int .i64 b]]) (by simp)
  have b1 := X.get h1
  have b2 := X.get h2
  have b3 := X.get h3
  have hrd := reads_pos he
  simp (disch := omega) only [go_sem, o1, n1, c1, l1, b0, b1, b2, b3]
  refine condP_dec (fun hp => ?_) (fun hp => ?_)
  · simp (disch := omega) only [go_sem, o1, n1, c1, l1, b0, b1, b2, b3]
    refine ⟨?_, X⟩
    have := hrd.1 (by omega)
    simp only [looseB]
    rcases this with q | q <;> simp only at q <;> simp [q]
  · simp (disch := omega) only [go_sem, o1, n1, c1, l1, b0, b1, b2, b3]
    refine CP.goS (eval_c zer ⟨op, a, b⟩ zer_ok rfl he) rfl rfl (.cons (Snap.flatN b2 rfl (flat_encI _)) (.cons (.same _ rfl) (.nil _))) ?_
    simp (disch := omega) only [go_sem, o1, n1, c1, l1, b0, b1, b2, b3]
    refine CP.go (within_c _ _ _) rfl rfl ?_
    simp (disch := omega) only [go_sem, o1, n1, c1, l1, b0, b1, b2, b3]
    refine ⟨?_, X⟩
    have hn : ¬ (a < 0 ∨ b < 0) := fun q => hp (by have := hrd.2 q; omega)
    simp only [looseB]
    simp [show ¬ a < 0 by omega, show ¬ b < 0 by omega]
theorem progOk_exprs {ts : List Task} (h : programOk ts = true) : ∀ t ∈ ts, exprOk t.next = true := fun t ht => by
  simp only [programOk, Bool.and_eq_true] at h
  have := List.all_eq_true.1 h.2 t ht
  simp only [taskOk, Bool.and_eq_true] at this
  exact this.2
theorem rigid_c (ts : List Task) (hl : ts.length ≤ 1048576) (hb : ∀ t ∈ ts, t.body.length ≤ 9223372036854775807) : CP Tryz.prog 81 [.agg [.lst 4 (ts.map encTask)]] (.bool (rigidM ts)) [] := by
  refine CP.by rfl mixed (cfn_ok Tryz.func81 ok81) rfl ?_
  simp (disch := omega) only [s81, go_sem]
  refine CP.go (programOk_c ts hl hb) rfl (refs_prog1 _ ts) ?_
  simp (disch := omega) only [go_sem]
  refine condP_split (fun hp => ?_) (fun hp => ?_)
  case' refine_2 =>
    simp (disch := omega) only [go_sem, hp]
    simp [rigidM, hp]
  simp (disch := omega) only [go_sem, hp]
  refine C.go (containsTaskF_c 139 [.ptr 2 1 0 0, .ptr 0 1 0 0] (looseB ts.length) ts (fun t ht h' X => loose_c h' ts t 2 1 0 (progOk_exprs hp t ht) hl (X.get rfl) (X.get rfl) (X.get rfl)) (by omega)) ?_
  rintro r h' ⟨rfl, X⟩
  simp (disch := omega) only [go_sem, hp]
  simp [rigidM, hp]
end Go.Av

namespace Go.Av
open Go.Proofs Go.RowKit
set_option linter.unusedVariables false
set_option linter.unusedSimpArgs false
set_option maxRecDepth 100000
set_option maxHeartbeats 4000000
theorem cloneS_f (xs : List Stmt) (hx : xs.length ≤ 1048576) : F Tryz.prog 143 [.lst 6 (xs.map encStmt)] (.lst 6 (xs.map encStmt)) := by
  refine C.by mixed (cfn_ok Tryz.func143 ok143) rfl ?_
  simp (disch := omega) only [s143, go_sem]
  have ha : appendH [[]] 6 48 (.own 0 6 0 0 0) (.lst 6 (xs.map encStmt)) = some (.own 0 6 0 (0 + xs.length) (0 + xs.length), ([[]] : Heap).set 0 ([] ++ xs.map encStmt)) := appendH_n (n := 0) (m := xs.length) (b := []) rfl rfl (by simp [elemsOf]) (by simp) (by omega)
  have hfin : ∃ ids : List Nat, ids.Nodup ∧ OwnsR [xs.map encStmt] (.lst 6 (xs.map encStmt)) (.own 0 6 0 xs.length xs.length) ids := ⟨[0], by simp, Owns.own_flat rfl (by simp) (flat_Stmt _)⟩
  cases xs with
  | nil =>
    simp only [isnilP, List.map_nil, List.isEmpty_nil, if_true]
    intro b
    cases b
    · simp (disch := omega) only [go_sem, ha]
      exact hfin
    · simp (disch := omega) only [go_sem]
      exact ⟨[], by simp, Owns.nils_⟩
  | cons x xs =>
    simp only [isnilP, List.map_cons, List.isEmpty_cons, Bool.false_eq_true, if_false]
    simp only [List.map_cons] at ha
    simp (disch := omega) only [go_sem, ha]
    exact hfin
theorem copyTask_f (t : Task) (hx : t.body.length ≤ 1048576) : F Tryz.prog 142 [.agg (encTask t)] (.agg (encTask t)) := by
  obtain ⟨body, ⟨op, a, b⟩⟩ := t
  refine C.by mixed (cfn_ok Tryz.func142 ok142) rfl ?_
  simp (disch := omega) only [s142, go_sem, encTask, storeH, storeB, splice]
  refine F.go (cloneS_f body hx) (.same (refs_stmts1 _ _)) fun r h1 ids x1 n1 g1 o1 => ?_
  have o1 := Owns.lstR.1 o1
  obtain ⟨ov, on, oc⟩ := o1.vv
  have b0 := x1.get (i := 0) rfl
  have b1 := x1.get (i := 1) rfl
  have c0 : ∀ c, (h1.set 0 c)[0]? = some c := fun c => heap_set _ b0
  have c1 : ∀ c, (h1.set 0 c)[1]? = some [[.nils, .int .i64 0, .int .i64 0, .int .i64 0]] := fun c => heap_set_ne _ (by omega) b1
  have c3 : ∀ c d, ((h1.set 0 c).set 1 d)[1]? = some d := fun c d => heap_set _ (c1 c)
  simp (disch := omega) only [go_sem, ov, on, oc, b0, b1, c0, c1, c3, storeH, storeB, splice]
  exact ⟨ids, n1, Owns.aggR.2 ⟨_, rfl, OwnsL.mkTask (t := ⟨body, ⟨op, a, b⟩⟩) ((o1.set _ (nin_ge g1 (by simp))).set _ (nin_ge g1 (by simp)))⟩⟩
theorem Sep.task {t : Task} {h : Heap} {L : List It} {r : V} (S : Sep h (.v (.agg (encTask t)) r :: L)) : ∃ va, r = .agg [va, .int .i64 t.next.op, .int .i64 t.next.a, .int .i64 t.next.b] ∧ Sep h (.l (encTask t) [va, .int .i64 t.next.op, .int .i64 t.next.a, .int .i64 t.next.b] :: L) ∧ (V.one va = true ∧ V.nohole va = va ∧ V.cells va = [va]) := by
  obtain ⟨cs, rfl, S1⟩ := sep_agg.1 S
  obtain ⟨i, _, o⟩ := S1.nth 0 rfl
  obtain ⟨va, rfl, o'⟩ := OwnsL.task o
  exact ⟨va, rfl, S1, o'.vv⟩
theorem Sep.goTask {P : Program} {f : FuncId} {args args' : List V} {t : Task} {h : Heap} {L : List It} {K : V → Heap → Prop} (S : Sep h L) (hf : F P f args' (.agg (encTask t))) (hs : Snaps h args args')
    (hk : ∀ va h', Ext h h' → Sep h' (.l (encTask t) [va, .int .i64 t.next.op, .int .i64 t.next.a, .int .i64 t.next.b] :: L) → V.one va = true → V.nohole va = va → V.cells va = [va] → K (.agg [va, .int .i64 t.next.op, .int .i64 t.next.a, .int .i64 t.next.b]) h') : @callP P f args h ⟨K⟩ :=
  S.go hf hs fun r h' x S1 => by
    obtain ⟨va, rfl, S2, z⟩ := S1.task
    exact hk va h' x S2 z.1 z.2.1 z.2.2
theorem Sep.prog {h : Heap} {ts : List Task} {v : V} {L : List It} (S : Sep h (.v (.lst 4 (ts.map encTask)) v :: L)) : ∃ ids : List Nat, ids.Nodup ∧ OwnsR h (.agg [.lst 4 (ts.map encTask)]) (.agg [v]) ids :=
  ((Sep.cons2 (fun es e => by cases e) ((Sep.perm (List.Perm.swap _ _ _) (Sep.l0 S)))).a).ret
theorem take_push {ts : List Task} {k : Nat} (h : k < ts.length) : (ts.take k).map encTask ++ [encTask ts[k]] = (ts.take (k + 1)).map encTask := by
  rw [List.take_succ_eq_append_getElem h, List.map_append]; rfl
theorem copyProg_f (ts : List Task) (hx : ts.length ≤ 1048576) (hb : ∀ t ∈ ts, t.body.length ≤ 1048576) : F Tryz.prog 82 [.agg [.lst 4 (ts.map encTask)]] (.agg [.lst 4 (ts.map encTask)]) := by
  refine C.by mixed (cfn_ok Tryz.func82 ok82) rfl ?_
  simp (disch := omega) only [s82, go_sem, storeH, storeB, splice]
  have S0 : Sep ([[[.lst 4 (ts.map encTask)]], [[.nils]], [[.nils]]] : Heap) [.k 2 [[.nils]], .k 1 [[.nils]], .k 0 [[.lst 4 (ts.map encTask)]]] := (((Sep.nil []).newK _).newK _).newK _
  have S0' := (S0.nils (sz := 4)).pick [1, 2, 0] (by decide)
  refine loopP_intro (fun m s => ∃ k : Nat, ∃ v : V, k ≤ ts.length ∧ m = ts.length - k ∧ s.e 8 = .lst 4 (ts.map encTask) ∧ s.e 10 = .int .i64 k ∧ s.e 9 = .int .i64 ts.length ∧ s.e 3 = .ptr 2 1 0 0 ∧ s.e 2 = .ptr 1 1 0 0 ∧ Sep s.h [.k 2 [[v]], .k 1 [[.nils]], .v (.lst 4 ((ts.take k).map encTask)) v]) ts.length ⟨0, .nils, by omega, by omega, rfl, rfl, rfl, rfl, rfl, S0'⟩ ?_
  intro m e hp P
  refine Exists.elim P fun k P => Exists.elim P fun v P => ?_
  have hk := P.1
  have hm := P.2.1
  have e8 := P.2.2.1
  have e10 := P.2.2.2.1
  have e9 := P.2.2.2.2.1
  have e3 := P.2.2.2.2.2.1
  have e2 := P.2.2.2.2.2.2.1
  have S1 := P.2.2.2.2.2.2.2
  clear P
  subst hm
  simp only at e8 e10 e9 e3 e2 S1
  simp (disch := omega) only [go_sem, e8, e10, e9, e3, e2]
  refine condP_dec (fun hlt => ?_) (fun hlt => ?_)
  · have hlt' : k < ts.length := by omega
    have S2 := S1.newK [[.lst 6 (ts[k].body.map encStmt), .int .i64 ts[k].next.op, .int .i64 ts[k].next.a, .int .i64 ts[k].next.b]]
    have K2 := S2.blk 0 rfl
    have V2 := S2.blk 1 rfl
    have z2 := (S2.vv 3 rfl)
    simp (disch := omega) only [go_sem, e8, e10, e9, e3, e2, K2, V2, encTask, z2.1, z2.2.1, z2.2.2]
    refine S2.goTask (copyTask_f ts[k] (hb _ (List.getElem_mem hlt'))) (.same (refs_task1 _ ts[k])) fun va h3 x3 S3 va1 va2 va3 => ?_
    have S4 := S3.newK [[va, .int .i64 ts[k].next.op, .int .i64 ts[k].next.a, .int .i64 ts[k].next.b]]
    have S5 := S4.pick [5, 1, 3, 4] (by decide)
    have hpu := S5.push (bytes := 48) (S4.blk 0 rfl) (by simp; omega)
    refine Exists.elim hpu fun v' q => Exists.elim q fun h5 q => ?_
    have hap := q.1
    have V3 := S3.blk 2 rfl
    have V4 := S4.blk 3 rfl
    have S6 := q.2
    clear q hpu
    have z6 := S6.vv 0 rfl
    have V6 := S6.blk 1 rfl
    simp (disch := omega) only [go_sem, e8, e10, e9, e3, e2, va1, va2, va3, hap, V3, V4, V6, z6.1, z6.2.1, z6.2.2, storeH, storeB, splice, z2.1, z2.2.1, z2.2.2]
    have e6 : (ts.take k).map encTask ++ [encTask ts[k]] = (ts.take (k + 1)).map encTask := take_push hlt'
    rw [e6] at S6
    have S7 := ((S6.pull 1).setK [[v']]).pick [0, 2, 1] (by decide)
    exact nextP_intro (ts.length - (k + 1)) (by omega) ⟨k + 1, v', by omega, rfl, by simp (disch := omega) only [go_sem, e8, e10, e9, e3, e2, va1, va2, va3, hap, V3, V4, V6, z6.1, z6.2.1, z6.2.2, storeH, storeB, splice, z2.1, z2.2.1, z2.2.2], by simp (disch := omega) only [go_sem, e8, e10, e9, e3, e2, va1, va2, va3, hap, V3, V4, V6, z6.1, z6.2.1, z6.2.2, storeH, storeB, splice, z2.1, z2.2.1, z2.2.2]; rfl, by simp (disch := omega) only [go_sem, e8, e10, e9, e3, e2, va1, va2, va3, hap, V3, V4, V6, z6.1, z6.2.1, z6.2.2, storeH, storeB, splice, z2.1, z2.2.1, z2.2.2], by simp (disch := omega) only [go_sem, e8, e10, e9, e3, e2, va1, va2, va3, hap, V3, V4, V6, z6.1, z6.2.1, z6.2.2, storeH, storeB, splice, z2.1, z2.2.1, z2.2.2], by simp (disch := omega) only [go_sem, e8, e10, e9, e3, e2, va1, va2, va3, hap, V3, V4, V6, z6.1, z6.2.1, z6.2.2, storeH, storeB, splice, z2.1, z2.2.1, z2.2.2], S7⟩
  · have : k = ts.length := by omega
    subst this
    rw [List.take_length] at S1
    have K1 := S1.blk 0 rfl
    have V1 := S1.blk 1 rfl
    have z1 := S1.vv 2 rfl
    have c1 : ∀ d, (hp.set 1 d)[1]? = some d := fun d => heap_set _ V1
    simp (disch := omega) only [go_sem, e8, e10, e9, e3, e2, K1, V1, c1, z1.1, z1.2.1, z1.2.2, storeH, storeB, splice]
    exact (((S1.pick [1, 2] (by decide)).setK [[v]]).drop1).prog
theorem Sep.mkTask {t : Task} {h : Heap} {L : List It} {va : V} (S : Sep h (.v (.lst 6 (t.body.map encStmt)) va :: L)) : Sep h (.l (encTask t) [va, .int .i64 t.next.op, .int .i64 t.next.a, .int .i64 t.next.b] :: L) :=
  Sep.cons2 (fun es e => by cases e) (Sep.perm (List.Perm.swap _ _ _) (Sep.li (Sep.li (Sep.li (Sep.l0 S)))))
end Go.Av

namespace Go.Av
open Go.Proofs Go.RowKit
set_option linter.unusedVariables false
set_option linter.unusedSimpArgs false
set_option maxRecDepth 100000
set_option maxHeartbeats 4000000
theorem Snap.part {h : Heap} {id sz n : Nat} {b : Blk} (o u : Nat) (hb : h[id]? = some b) (hn : b.length = n) (hu : o + u ≤ n) (hf : Av.flat b = true) : Snap h (.own id sz o u n) (.lst sz ((b.drop o).take u)) := by
  subst hn
  have get : ∀ (i : Nat) (d : List V), ((b.drop o).take u)[i]? = some d → b[o + i]? = some d := fun i d h2 => by
    have hi : i < u := by have := (List.getElem?_eq_some_iff.1 h2).1; simp at this; omega
    rw [List.getElem?_take_of_lt hi, List.getElem?_drop] at h2; exact h2
  refine .own hb rfl hu (by simp; omega) (fun i e d h1 h2 => ?_) (fun i e d j c x h1 h2 h3 h4 => ?_)
  · have := get i d h2
    rw [h1] at this; cases this; rfl
  · have := get i d h2
    rw [h1] at this; cases this
    rw [h3] at h4; cases h4
    exact Snap.of_scalar h (flat_get hf h1 h3)
def splitM (ts : List Task) (t k : Nat) : List Task := match ts[t]? with
  | some tk => ts.set t ⟨tk.body.take k, ⟨1, ts.length, 0⟩⟩ ++ [⟨tk.body.drop k, tk.next⟩]
  | none => ts
theorem splitM_eq {ts : List Task} {t k : Nat} (ht : t < ts.length) : splitM ts t k = ts.set t ⟨ts[t].body.take k, ⟨1, ts.length, 0⟩⟩ ++ [⟨ts[t].body.drop k, ts[t].next⟩] := by
  unfold splitM; rw [List.getElem?_eq_getElem ht]
theorem splitM_map {ts : List Task} {t k : Nat} (ht : t < ts.length) : (splitM ts t k).map encTask = (ts.map encTask).set t (encTask ⟨ts[t].body.take k, ⟨1, ts.length, 0⟩⟩) ++ [encTask ⟨ts[t].body.drop k, ts[t].next⟩] := by
  rw [splitM_eq ht, List.map_append, List.map_set]; rfl
theorem Sep.goCopy {P : Program} {f : FuncId} {args args' : List V} {ts : List Task} {h : Heap} {L : List It} {K : V → Heap → Prop} (S : Sep h L) (hf : F P f args' (.agg [.lst 4 (ts.map encTask)])) (hs : Snaps h args args')
    (hk : ∀ v h', Ext h h' → Sep h' (.v (.lst 4 (ts.map encTask)) v :: L) → V.one v = true → V.nohole v = v → V.cells v = [v] → K (.agg [v]) h') : @callP P f args h ⟨K⟩ :=
  S.go hf hs fun r h' x S1 => by
    obtain ⟨_, rfl, S2⟩ := sep_agg.1 S1
    obtain ⟨c, _, rfl, S3⟩ := sep_ll.1 S2
    obtain ⟨rfl, S4⟩ := sep_l0.1 S3
    have S5 := S4.rot
    have z := S5.vv 0 rfl
    exact hk c h' x S5 z.1 z.2.1 z.2.2
theorem Sep.taskRow {h : Heap} {L : List It} (S : Sep h L) (n : Nat) {ts : List Task} {v : V} {t : Nat} (e : L[n]? = some (.v (.lst 4 (ts.map encTask)) v)) (ht : t < ts.length) (hb : 0 < ts[t].body.length) :
    ∃ id b vid, v = .own id 4 0 ts.length ts.length ∧ h[id]? = some b ∧ b.length = ts.length ∧ b[t]? = some [.own vid 6 0 ts[t].body.length ts[t].body.length, .int .i64 ts[t].next.op, .int .i64 ts[t].next.a, .int .i64 ts[t].next.b] ∧ h[vid]? = some (ts[t].body.map encStmt) := by
  obtain ⟨id, b, c, i, e1, e2, e3, e4, o⟩ := S.row n e (k := t) (d := encTask ts[t]) (by simp [ht])
  obtain ⟨va, rfl, o'⟩ := o.task
  rcases (Owns.flat_ (flat_Stmt _)).1 o' with ⟨_, q, _⟩ | ⟨vid, q1, q2, _⟩
  · have : ts[t].body = [] := by simpa using q
    rw [this] at hb; simp at hb
  · refine ⟨id, b, vid, by simpa using e1, e2, by simpa using e3, ?_, q2⟩
    rw [q1] at e4
    simpa using e4
theorem split_f (ts : List Task) (t k : Nat) (hx : ts.length ≤ 1048576) (hb : ∀ t ∈ ts, t.body.length ≤ 1048576) (ht : t < ts.length) (hk0 : 0 < k) (hk : k < ts[t].body.length) : F Tryz.prog 83 [.agg [.lst 4 (ts.map encTask)], .int .i64 t, .int .i64 k] (.agg [.lst 4 ((splitM ts t k).map encTask)]) := by
  have hbt := hb _ (List.getElem_mem ht)
  refine C.by mixed (cfn_ok Tryz.func83 ok83) rfl ?_
  simp (disch := omega) only [s83, go_sem, storeH, storeB, splice]
  have S0 : Sep ([[[.lst 4 (ts.map encTask)]], [[.nils]]] : Heap) [.k 1 [[.nils]], .k 0 [[.lst 4 (ts.map encTask)]]] := ((Sep.nil []).newK _).newK _
  refine S0.goCopy (copyProg_f ts hx hb) (.same (refs_prog1 _ _)) fun v1 h1 x1 S1 o1 n1 c1 => ?_
  refine Exists.elim (S1.taskRow 0 rfl ht (by omega)) fun id q => Exists.elim q fun b q => Exists.elim q fun vid q => ?_
  have q1 := q.1
  have q2 := q.2.1
  have q3 := q.2.2.1
  have q4 := q.2.2.2.1
  have q5 := q.2.2.2.2
  clear q
  subst q1
  have hid := heap_lt q2
  have hvid := heap_lt q5
  have u2 := fun r => heap_app (h' := r) q2
  have u5 := fun r => heap_app (h' := r) q5
  simp (disch := omega) only [go_sem, q2, q3, q4, q5, u2, u5, o1, n1, c1, storeH, storeB, splice]
  have S3 : Sep (h1 ++ [[[.own id 4 0 ts.length ts.length]], [[.own vid 6 0 ts[t].body.length ts[t].body.length, .int .i64 ts[t].next.op, .int .i64 ts[t].next.a, .int .i64 ts[t].next.b]]]) [.k (h1.length + 1) [[.own vid 6 0 ts[t].body.length ts[t].body.length, .int .i64 ts[t].next.op, .int .i64 ts[t].next.a, .int .i64 ts[t].next.b]], .k h1.length [[.own id 4 0 ts.length ts.length]], .v (.lst 4 (ts.map encTask)) (.own id 4 0 ts.length ts.length), .k 1 [[.nils]], .k 0 [[.lst 4 (ts.map encTask)]]] := by
    have w := (S1.newK [[.own id 4 0 ts.length ts.length]]).newK [[.own vid 6 0 ts[t].body.length ts[t].body.length, .int .i64 ts[t].next.op, .int .i64 ts[t].next.a, .int .i64 ts[t].next.b]]
    rw [List.append_assoc, List.length_append] at w
    exact w
  have em : ((ts[t].body.map encStmt).drop k).take (ts[t].body.length - k) = (ts[t].body.drop k).map encStmt := by
    rw [← List.map_drop, List.take_of_length_le (by simp)]
  have sn1 := Snap.part (sz := 6) (n := ts[t].body.length) k (ts[t].body.length - k) (u5 [[[.own id 4 0 ts.length ts.length]], [[.own vid 6 0 ts[t].body.length ts[t].body.length, .int .i64 ts[t].next.op, .int .i64 ts[t].next.a, .int .i64 ts[t].next.b]]]) (by simp) (by omega) (flat_Stmt _)
  rw [em] at sn1
  refine S3.goLst (cloneS_f (ts[t].body.drop k) (by simp; omega)) (.cons sn1 (.nil _)) fun r1 h3 x3 S4 ro rn rc => ?_
  have p8 := S4.blk 1 rfl
  have p7 := S4.blk 2 rfl
  have v3 := x3.get (u5 _)
  have i3 := x3.get (u2 _)
  have S5 := S4.newK [[r1, .int .i64 ts[t].next.op, .int .i64 ts[t].next.a, .int .i64 ts[t].next.b]]
  have p8' := S5.blk 2 rfl
  have p7' := S5.blk 3 rfl
  have k0' := S5.blk 6 rfl
  have v3' := fun r => heap_app (h' := r) v3
  have i3' := fun r => heap_app (h' := r) i3
  simp (disch := omega) only [go_sem, q3, q4, ro, rn, rc, p8, p7, v3, i3, p8', p7', k0', v3', i3', storeH, storeB, splice]
  have sn2 := Snap.head (sz := 6) (n := ts[t].body.length) k (v3' [[[r1, .int .i64 ts[t].next.op, .int .i64 ts[t].next.a, .int .i64 ts[t].next.b]]]) (by simp) (by omega) (flat_Stmt _)
  rw [← List.map_take] at sn2
  refine S5.goLst (cloneS_f (ts[t].body.take k) (by simp; omega)) (.cons sn2 (.nil _)) fun r2 h5 x5 S6 r2o r2n r2c => ?_
  have k7 := S6.blk 4 rfl
  have k8 := S6.blk 3 rfl
  have k0 := S6.blk 7 rfl
  have i5 := x5.get (i3' _)
  have S7 := ((S6.pull 2).mkTask (t := ⟨ts[t].body.drop k, ts[t].next⟩)).pull 1
  have S8 := (S7.mkTask (t := ⟨ts[t].body.take k, ⟨1, ts.length, 0⟩⟩)).pull 5
  refine Exists.elim (S8.rowSet (k := t) (by simp [ht])) fun id' q => Exists.elim q fun b' q => ?_
  have w1 := q.1
  have w2 := q.2.1
  have w3 := q.2.2.1
  have w4 := q.2.2.2.1
  have S9 := q.2.2.2.2
  clear q
  injection w1 with e1
  subst e1
  have e2 := Option.some.inj (w2.symm.trans i5)
  subst e2
  have y7 := S9.blk 4 rfl
  have y9 := S9.blk 2 rfl
  have S10 := S9.newK [[r1, .int .i64 ts[t].next.op, .int .i64 ts[t].next.a, .int .i64 ts[t].next.b]]
  have S11 := S10.pick [1, 2, 5, 6] (by decide)
  have hpu := S11.push (bytes := 48) (S10.blk 0 rfl) (by simp; omega)
  refine Exists.elim hpu fun v' q => Exists.elim q fun h7 q => ?_
  have hap := q.1
  have S12 : Sep h7 [.v (.lst 4 ((splitM ts t k).map encTask)) v', .k h1.length [[.own id 4 0 ts.length ts.length]], .k 1 [[.nils]]] := by
    rw [splitM_map ht]; exact q.2
  clear q hpu
  have z12 := S12.vv 0 rfl
  have y12 := S12.blk 1 rfl
  have S13 := ((S12.pull 1).setK [[v']])
  have y13 := S13.blk 0 rfl
  have y1 := S13.blk 2 rfl
  have y1' : ∀ d, ((h7.set h1.length [[v']]).set 1 d)[1]? = some d := fun d => heap_set _ y1
  simp (disch := omega) only [go_sem, q3, r2o, r2n, r2c, k0, k7, k8, w2, q4, y7, y9, ro, rn, rc, hap, z12.1, z12.2.1, z12.2.2, y12, y13, y1, y1', storeH, storeB, splice]
  exact (((S13.pull 2).setK [[v']]).drop1.drop1).prog
end Go.Av

namespace Go.Av
open Go.Proofs Go.RowKit
set_option linter.unusedVariables false
set_option linter.unusedSimpArgs false
set_option maxRecDepth 100000
set_option maxHeartbeats 4000000
def cutsAt (ts : List Task) (t : Int) : List Int := match ts[t.toNat]? with
  | some tk => cutsM tk.body
  | none => []
def splitsB (ts : List Task) (t k : Int) : Bool := rigidM ts && within t 0 ((ts.length : Int) - 1) && decide (¬ ts.length = 6) && decide (k ∈ cutsAt ts t)
def splitTM (ts : List Task) (t k : Int) : List Task := if splitsB ts t k = true then splitM ts t.toNat k.toNat else ts
theorem cutM_mem (l : List Stmt) : ∀ (d i : Nat) (k : Int), k ∈ cutM l d i → (i : Int) ≤ k ∧ k < i + d
  | 0, i, k, h => absurd h List.not_mem_nil
  | d + 1, i, k, h => by
    rw [cutM, List.mem_append] at h
    rcases h with h | h
    · split at h
      · have := List.mem_singleton.1 h; omega
      · exact absurd h List.not_mem_nil
    · have := cutM_mem l d (i + 1) k h; omega
theorem cutsM_len (xs : List Stmt) : (cutsM xs).length ≤ xs.length := by
  unfold cutsM; split
  · have := cutM_len xs (xs.length - 1) 1; omega
  · simp
theorem cut_pos {xs : List Stmt} {k : Int} (h : k ∈ cutsM xs) : 1 ≤ k ∧ k < xs.length := by
  unfold cutsM at h
  split at h
  · have := cutM_mem xs (xs.length - 1) 1 k h; omega
  · exact absurd h List.not_mem_nil
theorem Sep.progB {h : Heap} {ts : List Task} {v : V} {b : Bool} {L : List It} (S : Sep h (.v (.lst 4 (ts.map encTask)) v :: L)) : ∃ ids : List Nat, ids.Nodup ∧ OwnsR h (.tup [.agg [.lst 4 (ts.map encTask)], .bool b]) (.tup [.agg [v], .bool b]) ids :=
  ((Sep.cons2 (fun es e => by cases e) (Sep.perm (List.Perm.swap _ _ _) (Sep.lb (Sep.l0 ((Sep.cons2 (fun es e => by cases e) ((Sep.perm (List.Perm.swap _ _ _) (Sep.l0 S)))).a))))).t).ret
theorem cutsAt_eq {ts : List Task} {t : Int} {n : Nat} (hn : t = n) (h : n < ts.length) : cutsAt ts t = cutsM ts[n].body := by
  subst hn; unfold cutsAt; rw [Int.toNat_natCast, List.getElem?_eq_getElem h]
theorem progOk_blocks {ts : List Task} (h : programOk ts = true) : ∀ t ∈ ts, blockOk t.body = true := fun t ht => by
  simp only [programOk, Bool.and_eq_true] at h
  have := List.all_eq_true.1 h.2 t ht
  simp only [taskOk, Bool.and_eq_true] at this
  exact this.1
theorem refs_progII (n : Nat) (ts : List Task) (t k : Int) : V.refsL n [.agg [.lst 4 (ts.map encTask)], .int .i64 t, .int .i64 k] = true := by simp only [V.refsL, refs_prog]; rfl
theorem splitTask_c (ts : List Task) (t k : Int) (hx : ts.length ≤ 1048576) (hb : ∀ t ∈ ts, t.body.length ≤ 1048576) : F Tryz.prog 27 [.agg [.lst 4 (ts.map encTask)], .int .i64 t, .int .i64 k] (.tup [.agg [.lst 4 ((splitTM ts t k).map encTask)], .bool (splitsB ts t k)]) := by
  have hb' : ∀ t ∈ ts, t.body.length ≤ 9223372036854775807 := fun t ht => by have := hb t ht; omega
  have S0 : Sep ([[[.lst 4 (ts.map encTask)]], [[.nils]]] : Heap) [.k 1 [[.nils]], .k 0 [[.lst 4 (ts.map encTask)]]] := ((Sep.nil []).newK _).newK _
  refine C.by mixed (cfn_ok Tryz.func27 ok27) rfl ?_
  simp (disch := omega) only [s27, go_sem]
  refine CP.go (hasTask_c ts t hx hb') rfl (refs_progI _ ts _) ?_
  simp (disch := omega) only [go_sem]
  refine condP_split (fun hT => ?_) (fun hT => ?_)
  case' refine_2 =>
    have hz : splitsB ts t k = false := by
      simp only [splitsB, rigidM]
      cases hp : programOk ts <;> cases hw : within t 0 ((ts.length : Int) - 1) <;> simp_all
    simp (disch := omega) only [go_sem, hT]
    refine S0.goCopy (copyProg_f ts hx hb) (.same (refs_prog1 _ _)) fun v1 h9 x9 S9 o1 n1 c1 => ?_
    have y1 := S9.blk 1 rfl
    have y1' : ∀ d, (h9.set 1 d)[1]? = some d := fun d => heap_set _ y1
    simp (disch := omega) only [go_sem, o1, n1, c1, y1, y1', storeH, storeB, splice]
    rw [splitTM, if_neg (by rw [hz]; simp), hz]
    exact (((S9.pull 1).setK [[v1]]).drop1).progB
  have hp : programOk ts = true := by cases hp : programOk ts <;> simp_all
  have hw : within t 0 ((ts.length : Int) - 1) = true := by cases hw : within t 0 ((ts.length : Int) - 1) <;> simp_all
  have htb : 0 ≤ t ∧ t ≤ (ts.length : Int) - 1 := by simpa [within] using hw
  refine Exists.elim (show ∃ n : Nat, t = n from ⟨t.toNat, by omega⟩) fun n hn => ?_
  have hnl : n < ts.length := by omega
  have hca := cutsAt_eq hn hnl
  subst hn
  have hbn := hb _ (List.getElem_mem hnl)
  simp (disch := omega) only [go_sem, hT, encTask]
  refine S0.goLst (CP.f (flat_encI _) (by simp) (cutPoints_c ts[n].body hbn (progOk_blocks hp _ (List.getElem_mem hnl)))) (.same (refs_arg _ _)) fun r h2 x2 S2 r1 r2 r3 => ?_
  have k2 := S2.blk 2 rfl
  simp (disch := omega) only [go_sem, hT, r1, r2, r3, k2]
  refine CP.goS (contains_c (cutsM ts[n].body) k ?_) rfl rfl (.cons (S2.snap 0 rfl) (.cons (.int _ _) (.nil _))) ?_
  · have := cutsM_len ts[n].body; omega
  simp (disch := omega) only [go_sem, hT, r1, r2, r3, k2]
  refine condP_dec (fun hk => ?_) (fun hk => ?_)
  case' refine_2 =>
    have hz : splitsB ts n k = false := by simp [splitsB, hca, hk]
    simp (disch := omega) only [go_sem, hT, r1, r2, r3, k2]
    refine S2.goCopy (copyProg_f ts hx hb) (.same (refs_prog1 _ _)) fun v1 h9 x9 S9 o1 n1 c1 => ?_
    have y1 := S9.blk 2 rfl
    have y1' : ∀ d, (h9.set 1 d)[1]? = some d := fun d => heap_set _ y1
    simp (disch := omega) only [go_sem, o1, n1, c1, y1, y1', storeH, storeB, splice]
    rw [splitTM, if_neg (by rw [hz]; simp), hz]
    exact (((S9.pull 2).setK [[v1]]).drop1).progB
  simp (disch := omega) only [go_sem, hT, r1, r2, r3, k2]
  refine condP_dec (fun h6 => ?_) (fun h6 => ?_)
  · have h6' : ts.length = 6 := by omega
    have hz : splitsB ts n k = false := by simp [splitsB, h6']
    simp (disch := omega) only [go_sem, hT, r1, r2, r3, k2]
    refine S2.goCopy (copyProg_f ts hx hb) (.same (refs_prog1 _ _)) fun v1 h9 x9 S9 o1 n1 c1 => ?_
    have y1 := S9.blk 2 rfl
    have y1' : ∀ d, (h9.set 1 d)[1]? = some d := fun d => heap_set _ y1
    simp (disch := omega) only [go_sem, o1, n1, c1, y1, y1', storeH, storeB, splice]
    rw [splitTM, if_neg (by rw [hz]; simp), hz]
    exact (((S9.pull 2).setK [[v1]]).drop1).progB
  have h6' : ¬ ts.length = 6 := by omega
  simp (disch := omega) only [go_sem, hT, r1, r2, r3, k2]
  refine CP.go (rigid_c ts hx hb') rfl (refs_prog1 _ ts) ?_
  simp (disch := omega) only [go_sem, hT, r1, r2, r3, k2]
  refine condP_split (fun hr => ?_) (fun hr => ?_)
  case' refine_2 =>
    have hz : splitsB ts n k = false := by simp [splitsB, hr]
    simp (disch := omega) only [go_sem, k2, hr]
    refine S2.goCopy (copyProg_f ts hx hb) (.same (refs_prog1 _ _)) fun v1 h9 x9 S9 o1 n1 c1 => ?_
    have y1 := S9.blk 2 rfl
    have y1' : ∀ d, (h9.set 1 d)[1]? = some d := fun d => heap_set _ y1
    simp (disch := omega) only [go_sem, o1, n1, c1, y1, y1', storeH, storeB, splice]
    rw [splitTM, if_neg (by rw [hz]; simp), hz]
    exact (((S9.pull 2).setK [[v1]]).drop1).progB
  have hz : splitsB ts n k = true := by simp [splitsB, hr, hw, h6', hca, hk]
  have hkp := cut_pos hk
  refine Exists.elim (show ∃ m : Nat, k = m from ⟨k.toNat, by omega⟩) fun m hm => ?_
  subst hm
  simp (disch := omega) only [go_sem, k2, hr]
  refine S2.goCopy (split_f ts n m hx hb hnl (by omega) (by omega)) (.same (refs_progII _ ts _ _)) fun v1 h9 x9 S9 o1 n1 c1 => ?_
  have y1 := S9.blk 2 rfl
  have y1' : ∀ d, (h9.set 1 d)[1]? = some d := fun d => heap_set _ y1
  simp (disch := omega) only [go_sem, o1, n1, c1, y1, y1', storeH, storeB, splice]
  rw [splitTM, if_pos hz, hz]
  exact (((S9.pull 2).setK [[v1]]).drop1).progB
end Go.Av

namespace Go.Av
open Go.Proofs Go.RowKit
set_option linter.unusedVariables false
set_option linter.unusedSimpArgs false
set_option maxRecDepth 100000
set_option maxHeartbeats 4000000
theorem new_c (bs : List Int) (h : Heap) (hb : bs.length ≤ 1048576) : C Tryz.prog 59 [.lst 1 (bs.map encB)] h (fun r h' => r = .ptr h.length 1 0 0 ∧ Ext h h' ∧ Cur h' h.length) := by
  refine C.by mixed (cfn_ok Tryz.func59 ok59) rfl ?_
  simp (disch := omega) only [s59, go_sem]
  refine loopP_intro (fun m s => ∃ (k : Nat), k ≤ bs.length ∧ m = bs.length - k ∧ s.e 0 = .lst 1 (bs.map encB) ∧ s.e 4 = .int .i64 k ∧ s.h = h ∧ ∃ x, s.e 3 = .int .i64 x) bs.length ⟨0, by omega, by omega, rfl, rfl, rfl, _, by simp (disch := omega) only [go_sem]; rfl⟩ ?_
  rintro m e hp ⟨k, hk, rfl, e0, e4, hh, x, e3⟩
  simp only at e0 e4 e3 hh
  subst hh
  simp (disch := omega) only [go_sem, e0, e4, e3, encB, splice]
  have hend : Ext hp (hp ++ [[[V.lst 1 (bs.map encB), .int .i64 0, .int .i64 x]]]) ∧ Cur (hp ++ [[[V.lst 1 (bs.map encB), .int .i64 0, .int .i64 x]]]) hp.length := ⟨Ext.app _ _, bs, 0, x, by simp, by omega, by omega, hb⟩
  refine condP_dec (fun hlt => ?_) (fun hlt => ?_)
  · have hlt' : k < bs.length := by omega
    simp (disch := omega) only [go_sem, e0, e4, e3, encB, splice]
    refine condP_dec (fun h4 => ?_) (fun h4 => ?_)
    · simp (disch := omega) only [go_sem, e0, e4, e3, encB, splice]
      refine nextP_intro (bs.length - (k + 1)) (by omega) ⟨k + 1, by omega, rfl, ?_, ?_, rfl, ?_⟩
      · simp (disch := omega) only [go_sem, e0, e4, e3, encB, splice]
      · simp (disch := omega) only [go_sem, e0, e4, e3, encB, splice]; rfl
      · exact ⟨_, by simp (disch := omega) only [go_sem, e0, e4, e3, encB, splice]; rfl⟩
    · simp (disch := omega) only [go_sem, e0, e4, e3, encB, splice]
      exact hend
  · simp (disch := omega) only [go_sem, e0, e4, e3, encB, splice]
    exact hend
theorem byte_c (h : Heap) (id : Nat) (hc : Cur h id) : DI Tryz.prog 132 [.ptr id 1 0 0] h id 0 256 := by
  obtain ⟨bs, i, hh, e1, hi0, hi1, hb⟩ := hc
  refine C.by mixed (cfn_ok Tryz.func132 ok132) rfl ?_
  have hs : ∀ c, (h.set id c)[id]? = some c := fun c => heap_set c e1
  simp (disch := omega) only [s132, go_sem, e1, encB, storeH, storeB, splice, hs, List.set_set]
  refine condP_dec (fun hlt => ?_) (fun hlt => ?_)
  · simp (disch := omega) only [go_sem, e1, encB, storeH, storeB, splice, hs, List.set_set]
    exact ⟨_, rfl, (and_255 _).1, and_255_lt _, ⟨bs, i + 1, _, hs _, by omega, by omega, hb⟩, ExtX.set _ _ _⟩
  · simp (disch := omega) only [go_sem, e1, encB, storeH, storeB, splice, hs, List.set_set]
    exact ⟨_, rfl, (and_255 _).1, and_255_lt _, ⟨bs, i, _, hs _, by omega, by omega, hb⟩, ExtX.set _ _ _⟩
theorem below_c (h : Heap) (id : Nat) (n : Int) (hc : Cur h id) (hn : n ≤ 4294967296) : DI Tryz.prog 74 [.ptr id 1 0 0, .int .i64 n] h id 0 (max 1 n) := by
  refine C.by mixed (cfn_ok Tryz.func74 ok74) rfl ?_
  simp (disch := omega) only [s74, go_sem]
  refine condP_dec (fun h0 => ?_) (fun h0 => ?_)
  · simp (disch := omega) only [go_sem]
    exact ⟨0, rfl, by omega, by omega, hc, ExtX.refl _ _⟩
  · simp (disch := omega) only [go_sem]
    refine condP_dec (fun h1 => ?_) (fun h1 => ?_)
    · simp (disch := omega) only [go_sem]
      refine DI.go (byte_c _ _ hc) fun z h1 z0 z1 c1 x1 => ?_
      simp (disch := omega) only [go_sem]
      have := tmod_bd (n := n) z0 (by omega)
      exact ⟨_, rfl, this.1, by omega, c1, x1⟩
    · simp (disch := omega) only [go_sem]
      refine DI.go (byte_c _ _ hc) fun a h1 a0 a1 c1 x1 => ?_
      simp (disch := omega) only [go_sem]
      refine DI.go (byte_c _ _ c1) fun b h2 b0 b1 c2 x2 => ?_
      simp (disch := omega) only [go_sem]
      refine DI.go (byte_c _ _ c2) fun c h3 c0 c1' c3 x3 => ?_
      simp (disch := omega) only [go_sem]
      refine DI.go (byte_c _ _ c3) fun d h4 d0 d1 c4 x4 => ?_
      simp (disch := omega) only [go_sem]
      have := tmod_bd (a := a * 16777216 + b * 65536 + c * 256 + d) (n := n) (by omega) (by omega)
      exact ⟨_, rfl, this.1, by omega, c4, ((x1.trans c1 x2).trans c2 x3).trans c3 x4⟩
def DB (P : Program) (f : FuncId) (args : List V) (h : Heap) (id : Nat) : Prop := C P f args h (fun r h' => ∃ b, r = .bool b ∧ Cur h' id ∧ ExtX id h h')
theorem DB.go {P : Program} {f : FuncId} {args : List V} {h : Heap} {id : Nat} {K : V → Heap → Prop} (hc : DB P f args h id) (hk : ∀ b h', Cur h' id → ExtX id h h' → K (.bool b) h') : @callP P f args h ⟨K⟩ :=
  C.go hc fun r h' ⟨z, e, c, d⟩ => by subst e; exact hk z h' c d
theorem once_c (h : Heap) (id : Nat) (n : Int) (hc : Cur h id) (hn : n ≤ 4294967296) : DB Tryz.prog 229 [.ptr id 1 0 0, .int .i64 n] h id := by
  refine C.by mixed (cfn_ok Tryz.func229 ok229) rfl ?_
  simp (disch := omega) only [s229, go_sem]
  refine DI.go (below_c _ _ _ hc hn) fun z h1 z0 z1 c1 x1 => ?_
  simp (disch := omega) only [go_sem]
  exact ⟨_, rfl, c1, x1⟩
theorem pick_c (h : Heap) (id lid : Nat) (zs : List Int) (n : Nat) (hc : Cur h id) (hl : h[lid]? = some (zs.map encI)) (hne : lid ≠ id) (hz : zs.length = n) (h0 : 0 < n) (hn : n ≤ 4294967296) : C Tryz.prog 129 [.ptr id 1 0 0, .own lid 1 0 n n] h (fun r h' => ∃ z, r = .int .i64 z ∧ z ∈ zs ∧ Cur h' id ∧ ExtX id h h') := by
  refine C.by mixed (cfn_ok Tryz.func129 ok129) rfl ?_
  simp (disch := omega) only [s129, go_sem]
  refine DI.go (below_c _ _ _ hc (by omega)) fun z h1 z0 z1 c1 x1 => ?_
  have hl1 := x1.get hl hne
  have hlt : z.toNat < zs.length := by omega
  have hg : zs[z.toNat]? = some zs[z.toNat] := List.getElem?_eq_getElem hlt
  simp (disch := omega) only [go_sem, hl1, hz, hg, List.getElem?_map, encI]
  exact ⟨_, rfl, List.getElem_mem hlt, c1, x1⟩
end Go.Av

namespace Go.Av
open Go.Proofs Go.RowKit
set_option linter.unusedVariables false
set_option linter.unusedSimpArgs false
set_option maxRecDepth 100000
set_option maxHeartbeats 4000000
def Tr.app : Tr → Tr → Tr
  | .nil, b => b
  | .one s r, b => .one s (r.app b)
  | .grp s a r, b => .grp s a (r.app b)
def Tr.dep : Tr → Nat
  | .nil => 0
  | .one _ r => r.dep
  | .grp _ a r => max (a.dep + 1) r.dep
theorem Tr.app_flat : ∀ a b : Tr, (a.app b).flat = a.flat ++ b.flat
  | .nil, b => rfl
  | .one s r, b => by simp [Tr.app, Tr.flat, Tr.app_flat r b]
  | .grp s a r, b => by simp [Tr.app, Tr.flat, Tr.app_flat r b]
theorem Tr.app_ok : ∀ {a b : Tr}, a.ok = true → b.ok = true → (a.app b).ok = true
  | .nil, b, _, h => h
  | .one s r, b, h, h' => by
    simp only [Tr.ok, Bool.and_eq_true] at h
    simp only [Tr.app, Tr.ok, Bool.and_eq_true]
    exact ⟨h.1, Tr.app_ok h.2 h'⟩
  | .grp s a r, b, h, h' => by
    simp only [Tr.ok, Bool.and_eq_true] at h
    simp only [Tr.app, Tr.ok, Bool.and_eq_true]
    exact ⟨h.1, Tr.app_ok h.2 h'⟩
theorem Tr.app_dep : ∀ (a b : Tr), (a.app b).dep = max a.dep b.dep
  | .nil, b => by simp [Tr.app, Tr.dep]
  | .one s r, b => by simp [Tr.app, Tr.dep, Tr.app_dep r b]
  | .grp s a r, b => by simp only [Tr.app, Tr.dep, Tr.app_dep r b]; omega
theorem blockFrom_cons (d : Int) (s : Stmt) (xs : List Stmt) : blockFrom d (s :: xs) = if stmtOk s = true ∧ 0 ≤ d + delta s.kind ∧ d + delta s.kind ≤ 3 then blockFrom (d + delta s.kind) xs else false := rfl
theorem blockFrom_tree : ∀ (t : Tr) (d : Int) (v : List Stmt), t.ok = true → 0 ≤ d → d + t.dep ≤ 3 → blockFrom d (t.flat ++ v) = blockFrom d v
  | .nil, d, v, _, _, _ => rfl
  | .one s r, d, v, h, h0, h3 => by
    obtain ⟨hs, hk, hr⟩ := Tr.one_ok h
    have hd : delta s.kind = 0 := by rw [delta_of, if_neg (by omega), if_neg (by omega)]
    simp only [Tr.dep] at h3
    simp only [Tr.flat, List.cons_append]
    rw [blockFrom_cons, hd, Int.add_zero, if_pos ⟨hs, h0, by omega⟩]
    exact blockFrom_tree r d v hr h0 h3
  | .grp s a r, d, v, h, h0, h3 => by
    obtain ⟨hs, hk, ha, hr⟩ := Tr.grp_ok h
    have hd : delta s.kind = 1 := by rw [delta_of, if_pos hk]
    have he : delta endS.kind = -1 := by rw [delta_of]; rfl
    have hes : stmtOk endS = true := by decide
    simp only [Tr.dep] at h3
    simp only [Tr.flat, List.cons_append, List.append_assoc]
    rw [blockFrom_cons, hd, if_pos ⟨hs, by omega, by omega⟩, blockFrom_tree a (d + 1) _ ha (by omega) (by omega), blockFrom_cons, he, if_pos ⟨hes, by omega, by omega⟩, show d + 1 + -1 = d by omega]
    exact blockFrom_tree r d v hr h0 (by omega)
theorem tree_blockOk {t : Tr} (h : t.ok = true) (hd : t.dep ≤ 3) (hl : t.flat.length ≤ 24) : blockOk t.flat = true := by
  have := blockFrom_tree t 0 [] h (by omega) (by omega)
  rw [List.append_nil] at this
  simp only [blockOk, this, Bool.and_eq_true, decide_eq_true_eq]
  exact ⟨by decide, by omega⟩
theorem Sep.goBelow {h : Heap} {id : Nat} {n : Int} {L : List It} {K : V → Heap → Prop} (S : Sep h (.c id :: L)) (hn : n ≤ 4294967296) (hk : ∀ z h', 0 ≤ z → z < max 1 n → Sep h' (.c id :: L) → K (.int .i64 z) h') : @callP Tryz.prog 74 [.ptr id 1 0 0, .int .i64 n] h ⟨K⟩ :=
  S.goDI (below_c h id n S.cur hn) hk
theorem Sep.goOnce {h : Heap} {id : Nat} {n : Int} {L : List It} {K : V → Heap → Prop} (S : Sep h (.c id :: L)) (hn : n ≤ 4294967296) (hk : ∀ b h', Sep h' (.c id :: L) → K (.bool b) h') : @callP Tryz.prog 229 [.ptr id 1 0 0, .int .i64 n] h ⟨K⟩ :=
  (once_c h id n S.cur hn).go fun b h' c x => hk b h' (S.curX c x)
theorem Sep.goPick {h : Heap} {id lid n : Nat} {zs : List Int} {L : List It} {K : V → Heap → Prop} (S : Sep h (.c id :: .k lid (zs.map encI) :: L)) (hz : zs.length = n) (h0 : 0 < n) (hn : n ≤ 4294967296) (hk : ∀ z h', z ∈ zs → Sep h' (.c id :: L) → K (.int .i64 z) h') : @callP Tryz.prog 129 [.ptr id 1 0 0, .own lid 1 0 n n] h ⟨K⟩ := by
  have hne : lid ≠ id := by
    obtain ⟨ids, nd, i, j, rfl, ⟨rfl, c⟩, i2, j2, rfl, ⟨rfl, e⟩, s⟩ := S
    intro e; subst e
    simp at nd
  refine C.go (pick_c h id lid zs n S.cur (S.blk 1 rfl) hne hz h0 hn) ?_
  rintro r h' ⟨z, rfl, hm, c, x⟩
  exact hk z h' hm ((S.curX c x).drop 1)
theorem operand_d {h : Heap} {id : Nat} {L : List It} (S : Sep h (.c id :: L)) : C Tryz.prog 186 [.ptr id 1 0 0] h (fun r h' => ∃ z, r = .int .i64 z ∧ operandOk z = true ∧ Sep h' (.c id :: L)) := by
  refine C.by mixed (cfn_ok Tryz.func186 ok186) rfl ?_
  simp (disch := omega) only [s186, go_sem]
  refine S.goOnce (by omega) fun b h1 S1 => ?_
  simp (disch := omega) only [go_sem]
  refine condP_split (fun hb => ?_) (fun hb => ?_)
  · simp (disch := omega) only [go_sem]
    refine S1.goBelow (by omega) fun z h2 z0 z1 S2 => ?_
    simp (disch := omega) only [go_sem]
    exact ⟨_, rfl, by simp [operandOk, within]; omega, S2⟩
  · simp (disch := omega) only [go_sem]
    have S2 : Sep (h1 ++ [[0, 1, 2, 3, 10, 999].map encI]) (.c id :: .k h1.length ([0, 1, 2, 3, 10, 999].map encI) :: L) := (S1.newK _).perm (.swap _ _ _)
    refine S2.goPick rfl (by omega) (by omega) fun z h3 hm S3 => ?_
    simp (disch := omega) only [go_sem]
    refine ⟨_, rfl, ?_, S3⟩
    simp only [List.mem_cons, List.not_mem_nil, or_false] at hm
    simp [operandOk, within]; omega
theorem expr_d {h : Heap} {id : Nat} {L : List It} (S : Sep h (.c id :: L)) : C Tryz.prog 127 [.ptr id 1 0 0] h (fun r h' => ∃ e : Expr, r = .agg (encExpr e) ∧ exprOk e = true ∧ Sep h' (.c id :: L)) := by
  refine C.by mixed (cfn_ok Tryz.func127 ok127) rfl ?_
  simp (disch := omega) only [s127, go_sem]
  have S0 := (S.newK [[.int .i64 0, .int .i64 0, .int .i64 0]]).perm (.swap _ _ _)
  refine S0.goBelow (by omega) fun o h1 o0 o1 S1 => ?_
  simp (disch := omega) only [go_sem]
  refine C.go (operand_d S1) ?_
  rintro r h2 ⟨a, rfl, ha, S2⟩
  simp (disch := omega) only [go_sem]
  refine C.go (operand_d S2) ?_
  rintro r h3 ⟨b, rfl, hb, S3⟩
  have K3 := S3.blk 1 rfl
  simp (disch := omega) only [go_sem, storeH, storeB, splice, K3, heap_set]
  refine ⟨⟨1 + o, a, b⟩, rfl, ?_, (S3.sw.setK _).drop1⟩
  simp [exprOk, ha, hb, within]; omega
theorem stmt_d {h : Heap} {id : Nat} {L : List It} (S : Sep h (.c id :: L)) : C Tryz.prog 230 [.ptr id 1 0 0] h (fun r h' => ∃ s : Stmt, r = .agg (encStmt s) ∧ stmtOk s = true ∧ (s.kind = 1 ∨ s.kind = 2 ∨ s.kind = 3) ∧ Sep h' (.c id :: L)) := by
  refine C.by mixed (cfn_ok Tryz.func230 ok230) rfl ?_
  simp (disch := omega) only [s230, go_sem]
  have S0 := (S.newK [[.int .i64 0, .int .i64 0, .int .i64 0, .int .i64 0, .int .i64 0, .int .i64 0]]).sw
  refine S0.goBelow (by omega) fun o h1 o0 o1 S1 => ?_
  simp (disch := omega) only [go_sem]
  have fin : ∀ (h3 : Heap) (s : Stmt), Sep h3 (.c id :: .k h.length [[.int .i64 0, .int .i64 0, .int .i64 0, .int .i64 0, .int .i64 0, .int .i64 0]] :: L) → Sep (h3.set h.length [encStmt s]) (.c id :: L) := fun h3 s S3 => (S3.sw.setK _).drop1
  have eok : ∀ {e : Expr}, exprOk e = true → exprOk e = true := fun h => h
  repeat' (first | (refine condP_t (by assumption) ?_ <;> (try simp (disch := omega) only [go_sem])) | (refine condP_f (by assumption) ?_ <;> (try simp (disch := omega) only [go_sem])) | (refine condP_dec (fun h => ?_) (fun h => ?_) <;> (try simp (disch := omega) only [go_sem])) | (refine condP_split (fun h => ?_) (fun h => ?_) <;> (try simp (disch := omega) only [go_sem])))
  all_goals first
    | (refine S1.goBelow (by omega) fun v h2 v0 v1 S2 => ?_
       simp (disch := omega) only [go_sem]
       refine S2.goBelow (by omega) fun n h3 n0 n1 S3 => ?_
       have K3 := S3.blk 1 rfl
       simp (disch := omega) only [go_sem, storeH, storeB, splice, K3, heap_set]
       exact ⟨⟨2, v, n, ⟨0, 0, 0⟩⟩, rfl, by simp [stmtOk, hasVar, hasExpr, isVar, isSensor, within]; omega, by simp, fin h3 ⟨2, v, n, ⟨0, 0, 0⟩⟩ S3⟩)
    | (refine C.go (expr_d S1) ?_
       rintro r h2 ⟨e, rfl, he, S2⟩
       have K3 := S2.blk 1 rfl
       simp (disch := omega) only [go_sem, storeH, storeB, splice, K3, heap_set, encExpr]
       exact ⟨⟨3, 0, 0, e⟩, rfl, by simp [stmtOk, hasVar, hasExpr, he, within], by simp, fin h2 ⟨3, 0, 0, e⟩ S2⟩)
    | (refine S1.goBelow (by omega) fun v h2 v0 v1 S2 => ?_
       simp (disch := omega) only [go_sem]
       refine C.go (expr_d S2) ?_
       rintro r h3 ⟨e, rfl, he, S3⟩
       have K3 := S3.blk 1 rfl
       simp (disch := omega) only [go_sem, storeH, storeB, splice, K3, heap_set, encExpr]
       exact ⟨⟨1, v, 0, e⟩, rfl, by simp [stmtOk, hasVar, hasExpr, isVar, he, within]; omega, by simp, fin h3 ⟨1, v, 0, e⟩ S3⟩)
def BlockD (d n : Nat) (lim : Nat) : Prop := ∀ (ni di : Int) (h : Heap) (id : Nat) (L : List It), ni = n → di = d → Sep h (.c id :: L) → C Tryz.prog 185 [.ptr id 1 0 0, .int .i64 ni, .int .i64 di] h (fun r h' => ∃ (t : Tr) (l : Nat), r = .own l 6 0 t.flat.length t.flat.length ∧ t.ok = true ∧ t.dep ≤ 2 - d ∧ t.flat.length ≤ lim ∧ Sep h' (.k l (t.flat.map encStmt) :: .c id :: L))
theorem flat_snoc1 (t : Tr) (s : Stmt) : (t.app (.one s .nil)).flat.map encStmt = t.flat.map encStmt ++ [encStmt s] ∧ (t.app (.one s .nil)).flat.length = t.flat.length + 1 := by simp [Tr.app_flat, Tr.flat]
theorem flat_snocG (t : Tr) (s : Stmt) (a : Tr) : (t.app (.grp s a .nil)).flat.map encStmt = ((t.flat.map encStmt ++ [encStmt s]) ++ a.flat.map encStmt) ++ [encStmt endS] ∧ (t.app (.grp s a .nil)).flat.length = t.flat.length + 1 + a.flat.length + 1 := by
  refine ⟨by simp [Tr.app_flat, Tr.flat], by simp [Tr.app_flat, Tr.flat]; omega⟩
theorem block_step (d n m : Nat) (hd : d ≤ 2) (hn : n ≤ 8) (hm : m ≤ 1000) (ih : d < 2 → ∀ n', 1 ≤ n' → n' ≤ 2 → BlockD (d + 1) n' m) : BlockD d n ((if d < 2 then 7 + m else 0) + n) := by
  intro ni di h id L hni hdi S
  subst hni hdi
  refine C.by mixed (cfn_ok Tryz.func185 ok185) rfl ?_
  simp (disch := omega) only [s185, go_sem]
  have S0 : Sep (h ++ [[]]) (.k h.length ((Tr.nil).flat.map encStmt) :: .c id :: L) := S.newK []
  refine loopP_intro (fun q s => ∃ (k l : Nat) (t : Tr), k ≤ n ∧ q = n - k ∧ s.e 0 = .ptr id 1 0 0 ∧ s.e 1 = .int .i64 n ∧ s.e 2 = .int .i64 d ∧ s.e 7 = .own l 6 0 t.flat.length t.flat.length ∧ s.e 8 = .int .i64 k ∧ t.ok = true ∧ t.dep ≤ 2 - d ∧ t.flat.length ≤ (if d < 2 then 7 + m else 0) + k ∧ Sep s.h (.k l (t.flat.map encStmt) :: .c id :: L)) n ⟨0, h.length, .nil, by omega, by omega, by simp (disch := omega) only [go_sem], by simp (disch := omega) only [go_sem], by simp (disch := omega) only [go_sem], by simp (disch := omega) only [go_sem] <;> rfl, by simp (disch := omega) only [go_sem] <;> rfl, rfl, by simp [Tr.dep], by simp [Tr.flat], S0⟩ ?_
  rintro q e hp ⟨k, l, t, hk, rfl, e0, e1, e2, e7, e8, ht, htd, htl, S1⟩
  simp only at e0 e1 e2 e7 e8 S1
  have hbig : (if d < 2 then 7 + m else 0) + k ≤ 2000 := by split <;> omega
  simp (disch := omega) only [go_sem, e0, e1, e2, e7, e8]
  refine condP_dec (fun hlt => ?_) (fun hlt => ?_)
  case' refine_2 =>
    have : k = n := by omega
    subst this
    simp (disch := omega) only [go_sem, e0, e1, e2, e7, e8]
    exact ⟨t, l, rfl, ht, htd, htl, S1⟩
  have hlt' : k < n := by omega
  refine (Nat.lt_or_ge d 2).elim (fun hd2 => ?_) (fun hd2 => ?_)
  case' refine_1 =>
    simp (disch := omega) only [go_sem, e0, e1, e2, e7, e8]
    refine condP_dec (fun h6 => ?_) (fun h6 => ?_)
    case' refine_1 =>
      simp (disch := omega) only [go_sem, e0, e1, e2, e7, e8]
      refine S1.sw.goOnce (by omega) fun b h1 S2 => ?_
      simp (disch := omega) only [go_sem, e0, e1, e2, e7, e8]
      refine condP_split (fun hb => ?_) (fun hb => ?_)
      case' refine_1 =>
        have fin : ∀ (e' : Nat → V) (hh : Heap) (s : Stmt) (a : Tr), stmtOk s = true → (s.kind = 4 ∨ s.kind = 5) → a.ok = true → a.dep ≤ 2 - (d + 1) → a.flat.length ≤ m → e' 0 = .ptr id 1 0 0 → e' 1 = .int .i64 n → e' 2 = .int .i64 d → e' 7 = .own l 6 0 (t.flat.length + 1 + a.flat.length + 1) (t.flat.length + 1 + a.flat.length + 1) → e' 8 = .int .i64 ((k : Int) + 1) → Sep hh (.k l (((t.flat.map encStmt ++ [encStmt s]) ++ a.flat.map encStmt) ++ [encStmt endS]) :: .c id :: L) → @nextP (n - k) ⟨e', hh⟩ ⟨fun q s => ∃ (k l : Nat) (t : Tr), k ≤ n ∧ q = n - k ∧ s.e 0 = .ptr id 1 0 0 ∧ s.e 1 = .int .i64 n ∧ s.e 2 = .int .i64 d ∧ s.e 7 = .own l 6 0 t.flat.length t.flat.length ∧ s.e 8 = .int .i64 k ∧ t.ok = true ∧ t.dep ≤ 2 - d ∧ t.flat.length ≤ (if d < 2 then 7 + m else 0) + k ∧ Sep s.h (.k l (t.flat.map encStmt) :: .c id :: L)⟩ := fun e' hh s a a1 a2 a3 a4 a5 a6 a7 a8 a9 b1 b2 => by
          have z := flat_snocG t s a
          have hok : (Tr.grp s a .nil).ok = true := by
            simp only [Tr.ok, a1, a3, Bool.true_and, Bool.and_true, Bool.or_eq_true, decide_eq_true_eq]; exact a2
          refine nextP_intro (n - (k + 1)) (by omega) ⟨k + 1, l, t.app (.grp s a .nil), by omega, rfl, a6, a7, a8, by rw [z.2]; exact a9, b1, Tr.app_ok ht hok, ?_, ?_, by rw [z.1]; exact b2⟩
          · rw [Tr.app_dep]; simp only [Tr.dep]; omega
          · rw [z.2, if_pos hd2]; omega
        simp (disch := omega) only [go_sem, e0, e1, e2, e7, e8]
        refine S2.goBelow (by omega) fun z h2 z0 z1 S3 => ?_
        simp (disch := omega) only [go_sem, e0, e1, e2, e7, e8, splice]
        have S4 := (S3.newK [encStmt ⟨5, 0, 1 + z, ⟨0, 0, 0⟩⟩]).sw
        simp only [encStmt] at S4
        refine S4.goOnce (n := 2) (by omega) fun b2 h3 S5 => ?_
        simp (disch := omega) only [go_sem, e0, e1, e2, e7, e8]
        refine condP_split (fun hb2 => ?_) (fun hb2 => ?_)
        case' refine_1 =>
          simp (disch := omega) only [go_sem, e0, e1, e2, e7, e8]
          refine C.go (expr_d S5) ?_
          rintro r h4 ⟨ex, rfl, hex, S6'⟩
          have K6 := S6'.blk 1 rfl
          have S6 := (S6'.sw.setK [encStmt ⟨4, 0, 0, ex⟩]).sw
          simp only [encStmt] at S6
          have hs : stmtOk ⟨4, 0, 0, ex⟩ = true := by simp [stmtOk, hasVar, hasExpr, hex, within]
          have hs4 : (⟨4, 0, 0, ex⟩ : Stmt).kind = 4 ∨ (⟨4, 0, 0, ex⟩ : Stmt).kind = 5 := .inl rfl
          have hap := append1 (sz := 6) (bytes := 48) (n := t.flat.length) (c := [.int .i64 4, .int .i64 0, .int .i64 0, .int .i64 ex.op, .int .i64 ex.a, .int .i64 ex.b]) (S6.blk 2 rfl) (by simp) (by omega)
          have S7 := (S6.drop 1).sw.push1 [.int .i64 4, .int .i64 0, .int .i64 0, .int .i64 ex.op, .int .i64 ex.a, .int .i64 ex.b]
          have fin2 := fun e' hh => fin e' hh ⟨4, 0, 0, ex⟩
          simp only [encStmt] at fin2
          simp (disch := omega) only [go_sem, storeH, storeB, splice, K6, heap_set, encExpr, hap, e0, e1, e2, e7, e8]
        case' refine_2 =>
          have S6 := S5
          have K6 := S5.blk 1 rfl
          have hs : stmtOk ⟨5, 0, 1 + z, ⟨0, 0, 0⟩⟩ = true := by simp [stmtOk, hasVar, hasExpr, within]; omega
          have hs4 : (⟨5, 0, 1 + z, ⟨0, 0, 0⟩⟩ : Stmt).kind = 4 ∨ (⟨5, 0, 1 + z, ⟨0, 0, 0⟩⟩ : Stmt).kind = 5 := .inr rfl
          have hap := append1 (sz := 6) (bytes := 48) (n := t.flat.length) (c := [.int .i64 5, .int .i64 0, .int .i64 (1 + z), .int .i64 0, .int .i64 0, .int .i64 0]) (S6.blk 2 rfl) (by simp) (by omega)
          have S7 := (S6.drop 1).sw.push1 [.int .i64 5, .int .i64 0, .int .i64 (1 + z), .int .i64 0, .int .i64 0, .int .i64 0]
          have fin2 := fun e' hh => fin e' hh ⟨5, 0, 1 + z, ⟨0, 0, 0⟩⟩
          simp only [encStmt] at fin2
          simp (disch := omega) only [go_sem, K6, hap, e0, e1, e2, e7, e8]
        all_goals
          refine S7.sw.goBelow (by omega) fun w h8 w0 w1 S8 => ?_
          simp (disch := omega) only [go_sem, e0, e1, e2, e7, e8]
          refine Exists.elim (show ∃ n' : Nat, 1 + w = n' ∧ 1 ≤ n' ∧ n' ≤ 2 from ⟨(1 + w).toNat, by omega, by omega, by omega⟩) fun n' hn' => ?_
          refine C.go (ih hd2 n' hn'.2.1 hn'.2.2 _ _ _ _ _ hn'.1 (by omega) S8) ?_
          intro r h9 P
          refine Exists.elim P fun a P => Exists.elim P fun l2 P => ?_
          have hr := P.1
          have ha := P.2.1
          have had := P.2.2.1
          have hal := P.2.2.2.1
          have S9 := P.2.2.2.2
          clear P
          subst hr
          have hap2 := appendH_n (sz := 6) (bytes := 48) (n := t.flat.length + 1) (m := a.flat.length) (S9.blk 2 rfl) (by simp) (elemsOf_n (sz := 6) (n := a.flat.length) (S9.blk 0 rfl) (by simp)) (by simp) (by omega)
          have S10 := S9.drop1.sw.setApp (a.flat.map encStmt)
          have hap3 := append1 (sz := 6) (bytes := 48) (n := t.flat.length + 1 + a.flat.length) (c := [.int .i64 6, .int .i64 0, .int .i64 0, .int .i64 0, .int .i64 0, .int .i64 0]) (S10.blk 0 rfl) (by simp; omega) (by omega)
          have S11 := S10.push1 [.int .i64 6, .int .i64 0, .int .i64 0, .int .i64 0, .int .i64 0, .int .i64 0]
          simp only [List.append_assoc, List.cons_append, List.nil_append] at hap3 S11 fin2
          simp (disch := omega) only [go_sem, hap2, hap3, splice, e0, e1, e2, e7, e8]
          exact fin2 _ _ a hs (by simp) ha had hal (by simp (disch := omega) only [go_sem, hap2, hap3, splice, e0, e1, e2, e7, e8]) (by simp (disch := omega) only [go_sem, hap2, hap3, splice, e0, e1, e2, e7, e8]) (by simp (disch := omega) only [go_sem, hap2, hap3, splice, e0, e1, e2, e7, e8]) (by simp (disch := omega) only [go_sem, hap2, hap3, splice, e0, e1, e2, e7, e8]) (by simp (disch := omega) only [go_sem, hap2, hap3, splice, e0, e1, e2, e7, e8] <;> rfl) S11
  all_goals
    have fin : ∀ (e' : Nat → V) (hh : Heap) (s : Stmt), stmtOk s = true → (s.kind = 1 ∨ s.kind = 2 ∨ s.kind = 3) → e' 0 = .ptr id 1 0 0 → e' 1 = .int .i64 n → e' 2 = .int .i64 d → e' 7 = .own l 6 0 (t.flat.length + 1) (t.flat.length + 1) → e' 8 = .int .i64 ((k : Int) + 1) → Sep hh (.k l (t.flat.map encStmt ++ [encStmt s]) :: .c id :: L) → @nextP (n - k) ⟨e', hh⟩ ⟨fun q s => ∃ (k l : Nat) (t : Tr), k ≤ n ∧ q = n - k ∧ s.e 0 = .ptr id 1 0 0 ∧ s.e 1 = .int .i64 n ∧ s.e 2 = .int .i64 d ∧ s.e 7 = .own l 6 0 t.flat.length t.flat.length ∧ s.e 8 = .int .i64 k ∧ t.ok = true ∧ t.dep ≤ 2 - d ∧ t.flat.length ≤ (if d < 2 then 7 + m else 0) + k ∧ Sep s.h (.k l (t.flat.map encStmt) :: .c id :: L)⟩ := fun e' hh s a1 a2 a6 a7 a8 a9 b1 b2 => by
      have z := flat_snoc1 t s
      have hok : (Tr.one s .nil).ok = true := by
        simp only [Tr.ok, a1, Bool.true_and, Bool.and_true, Bool.or_eq_true, decide_eq_true_eq]; omega
      refine nextP_intro (n - (k + 1)) (by omega) ⟨k + 1, l, t.app (.one s .nil), by omega, rfl, a6, a7, a8, by rw [z.2]; exact a9, b1, Tr.app_ok ht hok, ?_, ?_, by rw [z.1]; exact b2⟩
      · rw [Tr.app_dep]; simp only [Tr.dep]; omega
      · rw [z.2]; omega
  case' refine_1.refine_1.refine_1 => have S2' := S2
  case' refine_1.refine_1.refine_2 => have S2' := S1.sw
  case' refine_1.refine_2 => have S2' := S1.sw
  all_goals
    simp (disch := omega) only [go_sem, e0, e1, e2, e7, e8]
    refine C.go (stmt_d S2') ?_
    rintro r h3 ⟨s, rfl, hs, hk3, S3⟩
    have hap := append1 (sz := 6) (bytes := 48) (n := t.flat.length) (c := encStmt s) (S3.blk 1 rfl) (by simp) (by omega)
    have S4 := S3.sw.push1 (encStmt s)
    simp only [encStmt] at hap S4
    simp (disch := omega) only [go_sem, hap, encStmt, e0, e1, e2, e7, e8]
    exact fin _ _ s hs hk3 (by simp (disch := omega) only [go_sem, hap, encStmt, e0, e1, e2, e7, e8]) (by simp (disch := omega) only [go_sem, hap, encStmt, e0, e1, e2, e7, e8]) (by simp (disch := omega) only [go_sem, hap, encStmt, e0, e1, e2, e7, e8]) (by simp (disch := omega) only [go_sem, hap, encStmt, e0, e1, e2, e7, e8]) (by simp (disch := omega) only [go_sem, hap, encStmt, e0, e1, e2, e7, e8] <;> rfl) S4
end Go.Av

namespace Go.Av
open Go.Proofs Go.RowKit
set_option linter.unusedVariables false
set_option linter.unusedSimpArgs false
set_option maxRecDepth 100000
set_option maxHeartbeats 4000000
def logOk (m : List Int) (i : Nat) : Bool := isVar (gtI m (9 + 2 * i)) && isValue (gtI m (9 + 2 * i + 1))
def memOkM (ts : List Task) (m : List Int) : Bool := programOk ts && decide (m.length = 49) && vals (m.take 8) && (decide (0 ≤ (unpackM (gtI m 8)).1) && decide ((unpackM (gtI m 8)).1 < ts.length)) && vals ((m.take (25 + (unpackM (gtI m 8)).2.2).toNat).drop 25) && (List.range (unpackM (gtI m 8)).2.1.toNat).all (logOk m)
theorem log_all {m : List Int} {c : Nat} (h : ∀ j, j < c → logOk m j = true) : (List.range c).all (logOk m) = true := List.all_eq_true.2 fun j hj => h j (List.mem_range.1 hj)
end Go.Av

namespace Go.Av
open Go.Proofs Go.RowKit
set_option linter.unusedVariables false
set_option linter.unusedSimpArgs false
set_option maxRecDepth 100000
set_option maxHeartbeats 4000000
theorem nodup_len : ∀ (l m : List Int), l.Nodup → (∀ x ∈ l, x ∈ m) → l.length ≤ m.length
  | [], m, _, _ => Nat.zero_le _
  | x :: l, m, hn, hs => by
    have n' := List.nodup_cons.1 hn
    have ih := nodup_len l (m.erase x) n'.2 fun y hy => (List.mem_erase_of_ne (fun (e : y = x) => n'.1 (by rw [← e]; exact hy))).2 (hs y (by simp [hy]))
    have hx := hs x (by simp)
    have := List.length_erase_of_mem hx
    have := List.length_pos_of_mem hx
    simp only [List.length_cons]
    omega
def LogIn (must : List Int) (σ : TS) : Prop := σ.logged.Nodup ∧ ∀ k ∈ σ.logged, k ∈ must
theorem it_inv {α : Type} {p : α → Prop} {f : α → α} (hf : ∀ a, p a → p (f a)) : ∀ (n : Nat) (a : α), p a → p (itN f n a)
  | 0, a, h => h
  | n + 1, a, h => it_inv hf n (f a) (hf a h)
theorem run_inv {σ : Type} {p : σ → Prop} {stp : Stmt → σ → σ} {hold : Stmt → σ → Bool} (hs : ∀ s a, stmtOk s = true → s.kind ≠ 6 → p a → p (stp s a)) : ∀ (t : Tr) (a : σ), t.ok = true → p a → p (runG stp hold t a)
  | .nil, a, _, h => h
  | .one s r, a, ht, h => by
    obtain ⟨h1, hk, hr⟩ := Tr.one_ok ht
    exact run_inv hs r _ hr (hs s a h1 (by omega) h)
  | .grp s b r, a, ht, h => by
    obtain ⟨h1, hk, hb, hr⟩ := Tr.grp_ok ht
    exact run_inv hs r _ hr (it_inv (fun a h => run_inv hs b a hb h) _ _ (hs s a h1 (by omega) h))
theorem costK_pos {s : Stmt} (h : stmtOk s = true) (h6 : s.kind ≠ 6) : 1 ≤ costK s.kind := by
  have := stmt_kinds h
  unfold costK
  repeat' split
  all_goals omega
end Go.Av

