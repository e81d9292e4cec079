import Derived.Test.YtjfmbdigfnablaaGreatDoorCpCode
import Derived.Test.YtjfmbdigfnablaaGreatDoorAv26
import Derived.Shelf.Sort.Plain
import Derived.Shelf.Slices.In.SortNone
import Derived.Test.YtjfmbdigfnablaaGreatDoorAv19
import Derived.Test.YtjfmbdigfnablaaGreatDoorAv24
import Derived.Test.YtjfmbdigfnablaaGreatDoorAv27
import Derived.Test.YtjfmbdigfnablaaGreatDoorAv28
namespace Go.Av
open Go.Proofs Go.RowKit
set_option linter.unusedVariables false
set_option linter.unusedSimpArgs false
set_option maxRecDepth 100000
theorem mixed : Tryz.prog.follows .mixedOrders = true := by kernel_rfl
structure Expr where
  op : Int
  a : Int
  b : Int
structure Stmt where
  kind : Int
  var : Int
  n : Int
  e : Expr
def encExpr (e : Expr) : List V := [.int .i64 e.op, .int .i64 e.a, .int .i64 e.b]
def encStmt (s : Stmt) : List V := [.int .i64 s.kind, .int .i64 s.var, .int .i64 s.n, .int .i64 s.e.op, .int .i64 s.e.a, .int .i64 s.e.b]
def within (a b c : Int) : Bool := decide (b ≤ a) && decide (a ≤ c)
def operandOk (a : Int) : Bool := within a (-8) 999
def exprOk (e : Expr) : Bool := within e.op 1 7 && operandOk e.a && operandOk e.b
def hasVar (k : Int) : Bool := decide (k = 1) || decide (k = 2)
def isVar (a : Int) : Bool := within a 0 7
def hasExpr (k : Int) : Bool := decide (k = 1) || decide (k = 3) || decide (k = 4)
def isSensor (a : Int) : Bool := within a 0 3
def isOpening (k : Int) : Bool := decide (k = 4) || decide (k = 5)
theorem within_c (a b c : Int) : CP Tryz.prog 27 [.int .i64 a, .int .i64 b, .int .i64 c] (.bool (within a b c)) [] := by
  refine CP.by rfl mixed (cfn_ok Tryz.func27 ok27) rfl ?_
  simp (disch := omega) only [s27, go_sem]
  refine condP_dec (fun h => ?_) (fun h => ?_) <;> simp (disch := omega) only [go_sem] <;> simp [within, h]
theorem operandOk_c (a : Int) : CP Tryz.prog 66 [.int .i64 a] (.bool (operandOk a)) [] := by
  refine CP.by rfl mixed (cfn_ok Tryz.func66 ok66) rfl ?_
  simp (disch := omega) only [s66, go_sem]
  refine CP.go (within_c _ _ _) rfl rfl ?_
  simp (disch := omega) only [go_sem]
  rfl
theorem exprOk_c (e : Expr) : CP Tryz.prog 39 [.agg (encExpr e)] (.bool (exprOk e)) [] := by
  refine CP.by rfl mixed (cfn_ok Tryz.func39 ok39) rfl ?_
  simp (disch := omega) only [s39, go_sem, encExpr]
  repeat' (first | (refine CP.go (within_c _ _ _) rfl rfl ?_ <;> (try simp (disch := omega) only [go_sem])) | (refine CP.go (operandOk_c _) rfl rfl ?_ <;> (try simp (disch := omega) only [go_sem])) | (refine condP_t (by assumption) ?_ <;> (try simp (disch := omega) only [go_sem])) | (refine condP_f (by assumption) ?_ <;> (try simp (disch := omega) only [go_sem])) | (refine condP_dec (fun h => ?_) (fun h => ?_) <;> (try simp (disch := omega) only [go_sem])) | (refine condP_split (fun h => ?_) (fun h => ?_) <;> (try simp (disch := omega) only [go_sem])))
  all_goals simp [exprOk, *]
theorem hasVar_c (k : Int) : CP Tryz.prog 59 [.int .i64 k] (.bool (hasVar k)) [] := by
  refine CP.by rfl mixed (cfn_ok Tryz.func59 ok59) rfl ?_
  simp (disch := omega) only [s59, go_sem]
  repeat' (first | (refine condP_t (by assumption) ?_ <;> (try simp (disch := omega) only [go_sem])) | (refine condP_f (by assumption) ?_ <;> (try simp (disch := omega) only [go_sem])) | (refine condP_dec (fun h => ?_) (fun h => ?_) <;> (try simp (disch := omega) only [go_sem])) | (refine condP_split (fun h => ?_) (fun h => ?_) <;> (try simp (disch := omega) only [go_sem])))
  all_goals simp [hasVar, *]
theorem hasExpr_c (k : Int) : CP Tryz.prog 61 [.int .i64 k] (.bool (hasExpr k)) [] := by
  refine CP.by rfl mixed (cfn_ok Tryz.func61 ok61) rfl ?_
  simp (disch := omega) only [s61, go_sem]
  repeat' (first | (refine condP_t (by assumption) ?_ <;> (try simp (disch := omega) only [go_sem])) | (refine condP_f (by assumption) ?_ <;> (try simp (disch := omega) only [go_sem])) | (refine condP_dec (fun h => ?_) (fun h => ?_) <;> (try simp (disch := omega) only [go_sem])) | (refine condP_split (fun h => ?_) (fun h => ?_) <;> (try simp (disch := omega) only [go_sem])))
  all_goals simp [hasExpr, *]
theorem isOpening_c (k : Int) : CP Tryz.prog 65 [.int .i64 k] (.bool (isOpening k)) [] := by
  refine CP.by rfl mixed (cfn_ok Tryz.func65 ok65) rfl ?_
  simp (disch := omega) only [s65, go_sem]
  repeat' (first | (refine condP_t (by assumption) ?_ <;> (try simp (disch := omega) only [go_sem])) | (refine condP_f (by assumption) ?_ <;> (try simp (disch := omega) only [go_sem])) | (refine condP_dec (fun h => ?_) (fun h => ?_) <;> (try simp (disch := omega) only [go_sem])) | (refine condP_split (fun h => ?_) (fun h => ?_) <;> (try simp (disch := omega) only [go_sem])))
  all_goals simp [isOpening, *]
theorem isVar_c (a : Int) : CP Tryz.prog 82 [.int .i64 a] (.bool (isVar a)) [] := by
  refine CP.by rfl mixed (cfn_ok Tryz.func82 ok82) rfl ?_
  simp (disch := omega) only [s82, go_sem]
  repeat' (first | (refine CP.go (within_c _ _ _) rfl rfl ?_ <;> (try simp (disch := omega) only [go_sem])))
  all_goals rfl
theorem isSensor_c (a : Int) : CP Tryz.prog 83 [.int .i64 a] (.bool (isSensor a)) [] := by
  refine CP.by rfl mixed (cfn_ok Tryz.func83 ok83) rfl ?_
  simp (disch := omega) only [s83, go_sem]
  repeat' (first | (refine CP.go (within_c _ _ _) rfl rfl ?_ <;> (try simp (disch := omega) only [go_sem])))
  all_goals rfl
theorem eqTy46 : EqTy Tryz.prog 35 3 := by
  intro k xs ys x y W hx hy
  match xs, hx, ys, hy with
  | [x0, x1, x2], _, [y0, y1, y2], _ =>
    simp only [List.map_cons, List.map_nil]
    constructor
    · go_simp
      by_cases h0 : x0 = y0 <;> by_cases h1 : x1 = y1 <;> by_cases h2 : x2 = y2 <;> simp [h0, h1, h2]
    · go_simp
      by_cases h0 : x0 = y0 <;> by_cases h1 : x1 = y1 <;> by_cases h2 : x2 = y2 <;> simp [h0, h1, h2]
def stmtOk (s : Stmt) : Bool :=
  if !within s.kind 1 6 || (hasVar s.kind && !isVar s.var) || (!hasVar s.kind && !decide (s.var = 0)) then false
  else if (hasExpr s.kind && !exprOk s.e) || (!hasExpr s.kind && !([s.e.op, s.e.a, s.e.b] == [0, 0, 0])) then false
  else if s.kind = 2 then isSensor s.n else if s.kind = 5 then within s.n 1 5 else decide (s.n = 0)
set_option maxHeartbeats 4000000 in
theorem stmtOk_c (s : Stmt) : CP Tryz.prog 58 [.agg (encStmt s)] (.bool (stmtOk s)) [] := by
  obtain ⟨kind, var, n, ⟨op, ea, eb⟩⟩ := s
  refine CP.by rfl mixed (cfn_ok Tryz.func58 ok58) rfl ?_
  simp (disch := omega) only [s58, go_sem, encStmt]
  repeat' (first | (refine CP.go (within_c _ _ _) rfl rfl ?_ <;> (try simp (disch := omega) only [go_sem])) | (refine CP.go (hasVar_c _) rfl rfl ?_ <;> (try simp (disch := omega) only [go_sem])) | (refine CP.go (isVar_c _) rfl rfl ?_ <;> (try simp (disch := omega) only [go_sem])) | (refine CP.go (hasExpr_c _) rfl rfl ?_ <;> (try simp (disch := omega) only [go_sem])) | (refine CP.go (isSensor_c _) rfl rfl ?_ <;> (try simp (disch := omega) only [go_sem])) | (refine CP.go (exprOk_c ⟨op, ea, eb⟩) rfl rfl ?_ <;> (try simp (disch := omega) only [go_sem])) | (refine eqsP_true eqTy46 [_, _, _] [0, 0, 0] rfl rfl rfl rfl ?_ <;> simp (disch := omega) only [go_sem]) | (refine condP_t (by assumption) ?_ <;> (try simp (disch := omega) only [go_sem])) | (refine condP_f (by assumption) ?_ <;> (try simp (disch := omega) only [go_sem])) | (refine condP_dec (fun h => ?_) (fun h => ?_) <;> (try simp (disch := omega) only [go_sem])) | (refine condP_split (fun h => ?_) (fun h => ?_) <;> (try simp (disch := omega) only [go_sem])))
  all_goals simp_all [stmtOk]
end Go.Av

namespace Go.Av
open Go.Proofs Go.RowKit
set_option linter.unusedVariables false
set_option linter.unusedSimpArgs false
set_option maxRecDepth 100000
def plain (s : Stmt) : Stmt :=
  if s.kind = 1 then ⟨s.kind, s.var, 0, s.e⟩ else if s.kind = 2 then ⟨s.kind, s.var, s.n, ⟨0, 0, 0⟩⟩
  else if s.kind = 3 then ⟨s.kind, 0, 0, s.e⟩ else if s.kind = 4 then ⟨s.kind, 0, 0, s.e⟩ else if s.kind = 5 then ⟨s.kind, 0, s.n, ⟨0, 0, 0⟩⟩ else ⟨s.kind, 0, 0, ⟨0, 0, 0⟩⟩
end Go.Av

namespace Go.Av
open Go.Proofs Go.RowKit
set_option linter.unusedVariables false
set_option linter.unusedSimpArgs false
set_option maxRecDepth 100000
def delta (k : Int) : Int := (if isOpening k = true then 1 else 0) - (if k = 6 then 1 else 0)
def blockFrom : Int → List Stmt → Bool
  | o, [] => decide (o = 0)
  | o, s :: r => if stmtOk s = true ∧ 0 ≤ o + delta s.kind ∧ o + delta s.kind ≤ 3 then blockFrom (o + delta s.kind) r else false
def blockOk (xs : List Stmt) : Bool := blockFrom 0 xs && decide ((xs.length : Int) ≤ 24)
theorem blockFrom_drop {xs : List Stmt} {k : Nat} (h : k < xs.length) (o : Int) : blockFrom o (xs.drop k) = if stmtOk xs[k] = true ∧ 0 ≤ o + delta xs[k].kind ∧ o + delta xs[k].kind ≤ 3 then blockFrom (o + delta xs[k].kind) (xs.drop (k + 1)) else false := by
  rw [List.drop_eq_getElem_cons h]; rfl
set_option maxHeartbeats 4000000 in
theorem blockOk_c (xs : List Stmt) (hx : xs.length ≤ 9223372036854775807) : CP Tryz.prog 36 [.lst 6 (xs.map encStmt)] (.bool (blockOk xs)) [] := by
  refine CP.by rfl mixed (cfn_ok Tryz.func36 ok36) rfl ?_
  simp (disch := omega) only [s36, go_sem]
  refine loopP_intro (fun m s => ∃ (k : Nat) (o : Int), k ≤ xs.length ∧ m = xs.length - k ∧ 0 ≤ o ∧ o ≤ 3 ∧ s.e 0 = .lst 6 (xs.map encStmt) ∧ s.e 6 = .lst 6 (xs.map encStmt) ∧ s.e 7 = .int .i64 xs.length ∧ s.e 8 = .int .i64 k ∧ s.e 3 = .int .i64 o ∧ blockFrom 0 xs = blockFrom o (xs.drop k)) xs.length ⟨0, 0, by omega, by omega, by omega, by omega, rfl, rfl, by simp (disch := omega) only [go_sem], by simp (disch := omega) only [go_sem]; rfl, rfl, rfl⟩ ?_
  rintro m e h ⟨k, o, hk, rfl, ho1, ho2, e0, e6, e7, e8, e3, hb⟩
  simp only at e0 e6 e7 e8 e3
  simp (disch := omega) only [go_sem, e0, e6, e7, e8, e3]
  refine condP_dec (fun hlt => ?_) (fun hlt => ?_)
  · have hlt' : k < xs.length := by omega
    rw [blockFrom_drop hlt'] at hb
    simp (disch := omega) only [go_sem, encStmt, e0, e6, e7, e8, e3]
    refine CP.go (stmtOk_c xs[k]) rfl rfl ?_
    simp (disch := omega) only [go_sem, e0, e6, e7, e8, e3]
    cases hO : isOpening xs[k].kind <;> by_cases h6 : xs[k].kind = 6
    all_goals
      have hd : delta xs[k].kind = (if isOpening xs[k].kind = true then 1 else 0) - (if xs[k].kind = 6 then 1 else 0) := rfl
      rw [hO] at hd
      first | rw [if_pos h6] at hd | rw [if_neg h6] at hd
      simp only [if_true, if_false, Bool.false_eq_true] at hd
    all_goals repeat' (first | (refine CP.go (isOpening_c _) rfl rfl ?_ <;> (try simp (disch := omega) only [go_sem, e0, e6, e7, e8, e3])) | (refine condP_t (by assumption) ?_ <;> (try simp (disch := omega) only [go_sem, e0, e6, e7, e8, e3])) | (refine condP_f (by assumption) ?_ <;> (try simp (disch := omega) only [go_sem, e0, e6, e7, e8, e3])) | (refine condP_dec (fun h => ?_) (fun h => ?_) <;> (try simp (disch := omega) only [go_sem, e0, e6, e7, e8, e3])) | (refine condP_split (fun h => ?_) (fun h => ?_) <;> (try simp (disch := omega) only [go_sem, e0, e6, e7, e8, e3])))
    all_goals first
      | (refine nextP_intro (xs.length - (k + 1)) (by omega) ⟨k + 1, o + delta xs[k].kind, by omega, rfl, by omega, by omega, ?_, ?_, ?_, ?_, ?_, ?_⟩
         · simp (disch := omega) only [go_sem, e0, e6, e7, e8, e3]
         · simp (disch := omega) only [go_sem, e0, e6, e7, e8, e3]
         · simp (disch := omega) only [go_sem, e0, e6, e7, e8, e3]
         · simp (disch := omega) only [go_sem, e0, e6, e7, e8, e3]; rfl
         · simp (disch := omega) only [go_sem, e0, e6, e7, e8, e3]; congr 1; omega
         · rw [hb, if_pos ⟨by assumption, by omega, by omega⟩])
      | (simp only [blockOk, hb]; rw [if_neg (fun c => by first | omega | simp_all)]; rfl)
  · simp (disch := omega) only [go_sem, e0, e6, e7, e8, e3]
    have hk' : k = xs.length := by omega
    subst hk'
    rw [List.drop_length] at hb
    refine condP_dec (fun h0 => ?_) (fun h0 => ?_)
    · simp (disch := omega) only [go_sem, e0, e6, e7, e8, e3]
      simp only [blockOk, hb, blockFrom]; simp [h0]
    · simp (disch := omega) only [go_sem, e0, e6, e7, e8, e3]
      simp only [blockOk, hb, blockFrom]; simp [h0]
end Go.Av

namespace Go.Av
set_option linter.unusedVariables false
def dlt (x : Stmt) : Int := delta x.kind
theorem dlt_def (x : Stmt) : dlt x = (if x.kind = 4 ∨ x.kind = 5 then 1 else 0) - (if x.kind = 6 then 1 else 0) := by
  simp [dlt, delta, isOpening]
theorem dlt_bd (x : Stmt) : -1 ≤ dlt x ∧ dlt x ≤ 1 := by rw [dlt_def]; split <;> split <;> omega
def depM (l : List Stmt) : Int := l.foldl (fun d x => d + dlt x) 0
theorem dep_from : ∀ (l : List Stmt) (d : Int), l.foldl (fun d x => d + dlt x) d = d + depM l
  | [], d => by simp [depM]
  | x :: l, d => by
    rw [List.foldl_cons, dep_from l (d + dlt x)]
    have := dep_from l (0 + dlt x)
    unfold depM at *
    rw [List.foldl_cons, this]
    omega
theorem depM_cons (x : Stmt) (l : List Stmt) : depM (x :: l) = dlt x + depM l := by
  have := dep_from l (0 + dlt x)
  unfold depM at *
  rw [List.foldl_cons, this]
  omega
theorem depM_bd : ∀ (l : List Stmt), -(l.length : Int) ≤ depM l ∧ depM l ≤ l.length
  | [] => by simp [depM]
  | x :: l => by
    have h1 := depM_bd l
    have h2 := dlt_bd x
    rw [depM_cons]
    have : ((x :: l).length : Int) = l.length + 1 := by simp
    omega
theorem dep_app (q v : List Stmt) : depM (q ++ v) = depM q + depM v := by
  induction q with
  | nil => simp [depM]
  | cons x q ih => rw [List.cons_append, depM_cons, depM_cons, ih]; omega
def depthOf (l : List Stmt) (i : Int) : Int := if blockOk l = true ∧ (0 ≤ i ∧ i ≤ (l.length : Int) - 1) then depM (l.take i.toNat) else -1
def cutM (l : List Stmt) : Nat → Nat → List Int
  | 0, _ => []
  | d + 1, i => (if depthOf l i = 0 ∧ ¬ (∀ h : i < l.length, l[i].kind = 6) then [(i : Int)] else []) ++ cutM l d (i + 1)
def cutsM (l : List Stmt) : List Int := if blockOk l = true then cutM l (l.length - 1) 1 else []
theorem cutM_len (l : List Stmt) : ∀ (d : Nat) (i : Nat), (cutM l d i).length ≤ d
  | 0, _ => Nat.le_refl _
  | d + 1, i => by
    have := cutM_len l d (i + 1)
    unfold cutM
    rw [List.length_append]
    split <;> simp <;> omega
end Go.Av

namespace Go.Av
open Go.Proofs Go.RowKit
set_option linter.unusedVariables false
set_option linter.unusedSimpArgs false
set_option maxRecDepth 100000
theorem within_dec (a b c : Int) : within a b c = decide (b ≤ a ∧ a ≤ c) := by simp [within]
theorem delta_facts (k : Int) : (k = 4 → delta k = 1) ∧ (k = 5 → delta k = 1) ∧ (k = 6 → delta k = -1) ∧ (k ≠ 4 → k ≠ 5 → k ≠ 6 → delta k = 0) := by
  refine ⟨?_, ?_, ?_, ?_⟩ <;> intros <;> simp_all [delta, isOpening]
end Go.Av

namespace Go.Av
open Go.Proofs Go.RowKit
set_option linter.unusedVariables false
set_option linter.unusedSimpArgs false
set_option maxRecDepth 100000
theorem depM_take {xs : List Stmt} {k : Nat} (h : k < xs.length) : depM (xs.take (k + 1)) = depM (xs.take k) + delta xs[k].kind := by
  rw [List.take_succ_eq_append_getElem h, dep_app, depM_cons]
  have : depM [] = 0 := rfl
  show _ + (delta xs[k].kind + depM []) = _
  omega
@[simp] theorem refs_stmt (n : Nat) (s : Stmt) : V.refsL n (encStmt s) = true := rfl
theorem refs_args (n : Nat) (xs : List Stmt) (i : Int) : V.refsL n [.lst 6 (xs.map encStmt), .int .i64 i] = true := by simp [V.refsL, V.refs, refsLL_map encStmt (refs_stmt n) xs]
theorem refs_arg (n : Nat) (xs : List Stmt) : V.refsL n [.lst 6 (xs.map encStmt)] = true := by simp [V.refsL, V.refs, refsLL_map encStmt (refs_stmt n) xs]
set_option maxHeartbeats 4000000 in
theorem depthOf_c (xs : List Stmt) (i : Int) (hx : xs.length ≤ 9223372036854775807) : CP Tryz.prog 37 [.lst 6 (xs.map encStmt), .int .i64 i] (.int .i64 (depthOf xs i)) [] := by
  refine CP.by rfl mixed (cfn_ok Tryz.func37 ok37) rfl ?_
  simp (disch := omega) only [s37, go_sem, within_dec]
  refine CP.go (blockOk_c xs hx) rfl (refs_arg _ _) ?_
  simp (disch := omega) only [go_sem, within_dec]
  repeat' (first | (refine CP.go (within_c _ _ _) rfl rfl ?_ <;> (try simp (disch := omega) only [go_sem, within_dec])) | (refine condP_t (by assumption) ?_ <;> (try simp (disch := omega) only [go_sem, within_dec])) | (refine condP_f (by assumption) ?_ <;> (try simp (disch := omega) only [go_sem, within_dec])) | (refine condP_dec (fun h => ?_) (fun h => ?_) <;> (try simp (disch := omega) only [go_sem, within_dec])) | (refine condP_split (fun h => ?_) (fun h => ?_) <;> (try simp (disch := omega) only [go_sem, within_dec])))
  · rename_i hbk
    have hi := h
    clear h
    have hys : (xs.take i.toNat).length = i.toNat := by simp; omega
    have hr : depthOf xs i = depM (xs.take i.toNat) := by simp [depthOf, hbk, hi.1, hi.2]
    rw [hr]
    generalize xs.take i.toNat = ys at hys
    refine loopP_intro (fun m s => ∃ (k : Nat), k ≤ ys.length ∧ m = ys.length - k ∧ s.e 21 = .lst 6 (ys.map encStmt) ∧ s.e 22 = .int .i64 ys.length ∧ s.e 23 = .int .i64 k ∧ s.e 5 = .int .i64 (depM (ys.take k))) ys.length ⟨0, by omega, by omega, by simp (disch := omega) only [go_sem, within_dec], by simp (disch := omega) only [go_sem, within_dec], by simp (disch := omega) only [go_sem, within_dec]; rfl, by simp (disch := omega) only [go_sem, within_dec]; rfl⟩ ?_
    rintro m e h ⟨k, hk, rfl, e21, e22, e23, e5⟩
    simp only at e21 e22 e23 e5
    simp (disch := omega) only [go_sem, e21, e22, e23, e5, encStmt]
    refine condP_dec (fun hlt => ?_) (fun hlt => ?_)
    · have hlt' : k < ys.length := by omega
      have hdt := depM_take hlt'
      have hbd := depM_bd (ys.take k)
      have hkl : (ys.take k).length = k := by simp; omega
      obtain ⟨hd4, hd5, hd6, hd0⟩ := delta_facts ys[k].kind
      have hO : isOpening ys[k].kind = decide (ys[k].kind = 4 ∨ ys[k].kind = 5) := by simp [isOpening]
      simp (disch := omega) only [go_sem, e21, e22, e23, e5, encStmt]
      refine CP.go (isOpening_c ys[k].kind) rfl rfl ?_
      simp only [hO]
      simp (disch := omega) only [go_sem, e21, e22, e23, e5, encStmt]
      repeat' (first | (refine condP_t (by assumption) ?_ <;> (try simp (disch := omega) only [go_sem, e21, e22, e23, e5, encStmt])) | (refine condP_f (by assumption) ?_ <;> (try simp (disch := omega) only [go_sem, e21, e22, e23, e5, encStmt])) | (refine condP_dec (fun h => ?_) (fun h => ?_) <;> (try simp (disch := omega) only [go_sem, e21, e22, e23, e5, encStmt])) | (refine condP_split (fun h => ?_) (fun h => ?_) <;> (try simp (disch := omega) only [go_sem, e21, e22, e23, e5, encStmt])))
      all_goals
        (refine nextP_intro (ys.length - (k + 1)) (by omega) ⟨k + 1, by omega, rfl, ?_, ?_, ?_, ?_⟩
         · simp (disch := omega) only [go_sem, e21, e22, e23, e5, encStmt]
         · simp (disch := omega) only [go_sem, e21, e22, e23, e5, encStmt]
         · simp (disch := omega) only [go_sem, e21, e22, e23, e5, encStmt]; rfl
         · simp (disch := omega) only [go_sem, e21, e22, e23, e5, encStmt]; congr 1; omega)
    · simp (disch := omega) only [go_sem, e21, e22, e23, e5, encStmt]
      have hk' : k = ys.length := by omega
      subst hk'
      rw [List.take_length]
  · rename_i hbk
    have hi := h
    have : depthOf xs i = -1 := by unfold depthOf; rw [if_neg (fun c => hi c.2)]
    rw [this]
  · have hbk := h
    have : depthOf xs i = -1 := by unfold depthOf; rw [if_neg (fun c => by rw [hbk] at c; exact Bool.noConfusion c.1)]
    rw [this]
end Go.Av

namespace Go.Av
open Go.Proofs Go.RowKit
set_option linter.unusedVariables false
set_option linter.unusedSimpArgs false
set_option maxRecDepth 100000
end Go.Av

namespace Go.Av
open Go.Proofs Go.RowKit Go.Shelf
set_option linter.unusedVariables false
set_option linter.unusedSimpArgs false
set_option maxRecDepth 100000
set_option maxHeartbeats 4000000
def sortRen : Go.Shelf.Ren := ⟨fun | 189 => 48 | 125 => 77 | 257 => 76 | 128 => 96 | 129 => 97 | 294 => 87 | 295 => 88 | 296 => 89 | 297 => 90 | 298 => 91 | 299 => 92 | 216 => 93 | 300 => 94 | 301 => 95 | 328 => 106 | 329 => 107 | 330 => 108 | 331 => 109 | 332 => 110 | 215 => 111 | 343 => 113 | n => n, fun | 28 => 28 | 3 => 3 | 46 => 92 | 0 => 0 | 51 => 119 | 53 => 121 | 4 => 4 | 183 => 111 | 182 => 110 | 131 => 116 | 5 => 5 | 9 => 9 | 218 => 127 | 222 => 131 | 228 => 133 | 229 => 134 | n => n, fun n => n⟩
theorem sortLays : Lays.n189 Tryz.prog sortRen where
  mixed := by kernel_rfl
  f125 := Tryz.func77.trans (congrArg some (by kernel_rfl))
  f128 := Tryz.func96.trans (congrArg some (by kernel_rfl))
  f129 := Tryz.func97.trans (congrArg some (by kernel_rfl))
  f189 := Tryz.func48.trans (congrArg some (by kernel_rfl))
  f215 := Tryz.func111.trans (congrArg some (by kernel_rfl))
  f216 := Tryz.func93.trans (congrArg some (by kernel_rfl))
  f257 := Tryz.func76.trans (congrArg some (by kernel_rfl))
  f294 := Tryz.func87.trans (congrArg some (by kernel_rfl))
  f295 := Tryz.func88.trans (congrArg some (by kernel_rfl))
  f296 := Tryz.func89.trans (congrArg some (by kernel_rfl))
  f297 := Tryz.func90.trans (congrArg some (by kernel_rfl))
  f298 := Tryz.func91.trans (congrArg some (by kernel_rfl))
  f299 := Tryz.func92.trans (congrArg some (by kernel_rfl))
  f300 := Tryz.func94.trans (congrArg some (by kernel_rfl))
  f301 := Tryz.func95.trans (congrArg some (by kernel_rfl))
  f328 := Tryz.func106.trans (congrArg some (by kernel_rfl))
  f329 := Tryz.func107.trans (congrArg some (by kernel_rfl))
  f330 := Tryz.func108.trans (congrArg some (by kernel_rfl))
  f331 := Tryz.func109.trans (congrArg some (by kernel_rfl))
  f332 := Tryz.func110.trans (congrArg some (by kernel_rfl))
  f343 := Tryz.func113.trans (congrArg some (by kernel_rfl))
  t0 := Tryz.underlying0
  a0 := Tryz.isAgg0
  z0 := Tryz.sizeOf0
  v0 := Tryz.zeroValue0
  t3 := Tryz.underlying3
  a3 := Tryz.isAgg3
  z3 := Tryz.sizeOf3
  v3 := Tryz.zeroValue3
  t4 := Tryz.underlying4
  a4 := Tryz.isAgg4
  z4 := Tryz.sizeOf4
  v4 := Tryz.zeroValue4
  t5 := Tryz.underlying5
  a5 := Tryz.isAgg5
  z5 := Tryz.sizeOf5
  v5 := Tryz.zeroValue5
  t9 := Tryz.underlying9
  a9 := Tryz.isAgg9
  z9 := Tryz.sizeOf9
  v9 := Tryz.zeroValue9
  t28 := Tryz.underlying28
  a28 := Tryz.isAgg28
  z28 := Tryz.sizeOf28
  v28 := Tryz.zeroValue28
  t46 := Tryz.underlying92
  a46 := Tryz.isAgg92
  z46 := Tryz.sizeOf92
  v46 := Tryz.zeroValue92
  t51 := Tryz.underlying119
  a51 := Tryz.isAgg119
  z51 := Tryz.sizeOf119
  v51 := Tryz.zeroValue119
  t53 := Tryz.underlying121
  a53 := Tryz.isAgg121
  z53 := Tryz.sizeOf121
  v53 := Tryz.zeroValue121
  t131 := Tryz.underlying116
  a131 := Tryz.isAgg116
  z131 := Tryz.sizeOf116
  v131 := Tryz.zeroValue116
  t182 := Tryz.underlying110
  a182 := Tryz.isAgg110
  z182 := Tryz.sizeOf110
  v182 := Tryz.zeroValue110
  t183 := Tryz.underlying111
  a183 := Tryz.isAgg111
  z183 := Tryz.sizeOf111
  v183 := Tryz.zeroValue111
  t218 := Tryz.underlying127
  a218 := Tryz.isAgg127
  z218 := Tryz.sizeOf127
  v218 := Tryz.zeroValue127
  t222 := Tryz.underlying131
  a222 := Tryz.isAgg131
  z222 := Tryz.sizeOf131
  v222 := Tryz.zeroValue131
  t228 := Tryz.underlying133
  a228 := Tryz.isAgg133
  z228 := Tryz.sizeOf133
  v228 := Tryz.zeroValue133
  t229 := Tryz.underlying134
  a229 := Tryz.isAgg134
  z229 := Tryz.sizeOf134
  v229 := Tryz.zeroValue134
theorem sort_c {h : Heap} {id n : Nat} {zs : List Int} (hb : h[id]? = some (zs.map encI)) (hn : zs.length = n) (hm : n ≤ 1048576) : C Tryz.prog 48 [.own id 1 0 n n] h (fun r h' => r = .tup [] ∧ h' = h.set id ((srt zs).map encI)) :=
  sort_own (f := 48) (fun args w => by
      have hb : (Tryz.f48.name == "runtime.NumGoroutine") = false := by kernel_rfl
      have hb' : ¬ Tryz.f48.name = "runtime.NumGoroutine" := by simpa using hb
      have hc : Tryz.f48.body.isSome = true := by kernel_rfl
      obtain ⟨c, hc⟩ := Option.isSome_iff_exists.1 hc
      simp [callFunc, Tryz.func48, hb', hc])
    (fun blk off cap zs w h1 h2 h3 => Any.slices_Sort_int sortLays blk off cap zs w h1 h2 h3) (fun p cap w => Any.slices_Sort_int_none sortLays p cap w) hb hn (by omega)
def ddStep (acc : List Int) (z : Int) : List Int := if acc.getLast? = some z then acc else acc ++ [z]
def ddup (zs : List Int) : List Int := zs.foldl ddStep []
theorem ddup_succ {zs : List Int} {q : Nat} (h : q < zs.length) : ddup (zs.take (q + 1)) = ddStep (ddup (zs.take q)) zs[q] := by
  unfold ddup
  rw [List.take_succ_eq_append_getElem h, List.foldl_append]; rfl
theorem ddStep_last (acc : List Int) (z : Int) : (ddStep acc z).getLast? = some z := by
  unfold ddStep
  split
  · assumption
  · simp
theorem ddup_last {zs : List Int} {q : Nat} (h : q < zs.length) : (ddup (zs.take (q + 1))).getLast? = some zs[q] := by rw [ddup_succ h]; exact ddStep_last _ _
theorem ddup_next {zs : List Int} {q : Nat} (h : q + 1 < zs.length) : ddup (zs.take (q + 1 + 1)) = if zs[q + 1] = zs[q] then ddup (zs.take (q + 1)) else ddup (zs.take (q + 1)) ++ [zs[q + 1]] := by
  rw [ddup_succ h, ddStep, ddup_last (by omega)]
  by_cases e : zs[q + 1] = zs[q]
  · rw [if_pos (by rw [e]), if_pos e]
  · rw [if_neg (fun c => e (by simpa using c.symm)), if_neg e]
theorem ddup_len : ∀ (q : Nat) (zs : List Int), q ≤ zs.length → (ddup (zs.take q)).length ≤ q
  | 0, zs, _ => by simp [ddup]
  | q + 1, zs, h => by
    have := ddup_len q zs (by omega)
    rw [ddup_succ (by omega), ddStep]
    split
    · omega
    · simp; omega
theorem ddup_le (zs : List Int) : (ddup zs).length ≤ zs.length := by
  have := ddup_len zs.length zs (Nat.le_refl _)
  rwa [List.take_length] at this
theorem mem_ddStep {acc : List Int} {z x : Int} : x ∈ ddStep acc z ↔ x ∈ acc ∨ x = z := by
  unfold ddStep
  split
  · rename_i h
    have : z ∈ acc := List.mem_of_getLast? h
    constructor
    · exact .inl
    · rintro (h | rfl) <;> assumption
  · simp
theorem mem_ddFold {x : Int} : ∀ (zs acc : List Int), x ∈ zs.foldl ddStep acc ↔ x ∈ acc ∨ x ∈ zs
  | [], acc => by simp
  | z :: zs, acc => by rw [List.foldl_cons, mem_ddFold zs, mem_ddStep]; simp [or_assoc]
theorem mem_ddup {x : Int} {zs : List Int} : x ∈ ddup zs ↔ x ∈ zs := by simp [ddup, mem_ddFold]
theorem mem_srt {x : Int} {zs : List Int} : x ∈ srt zs ↔ x ∈ zs := List.mem_mergeSort
theorem storeH_row {h : Heap} {id n i sz : Nat} {b : Blk} {x : V} (hb : h[id]? = some b) (hn : b.length = n) (hi : i < n) (he : ∀ e ∈ b, e.length = sz) (hf : fit sz x.cells = true) : storeH h sz (.ptr id n i 0) x = some (h.set id (b.set i x.cells)) := by
  subst hn
  have h1 : b[i]? = some b[i] := List.getElem?_eq_getElem hi
  have h2 := he b[i] (List.getElem_mem hi)
  simp only [fit, Bool.and_eq_true, decide_eq_true_eq] at hf
  have h3 : splice b[i] 0 x.cells = x.cells := by
    have : b[i].drop x.cells.length = [] := List.drop_eq_nil_of_le (by omega)
    simp [splice, this]
  simp [storeH, storeB, hb, h1, hf.1, h2, h3]
  simpa using hf.2
theorem storeH_cell {h : Heap} {id n i j : Nat} {b : Blk} {e : List V} {v : V} (hb : h[id]? = some b) (hn : b.length = n) (he : b[i]? = some e) (hj : j < e.length) (hv : v.one = true) (hc : v.cells = [v]) : storeH h 1 (.ptr id n i j) v = some (h.set id (b.set i (e.set j v))) := by
  subst hn
  have h3 : splice e j [v] = e.set j v := by
    rw [List.set_eq_take_append_cons_drop, if_pos hj]
    simp [splice]
  simp [storeH, storeB, hb, he, hc, hv, h3]
  omega
def gtI (zs : List Int) (i : Nat) : Int := (zs[i]?).getD 0
theorem gtI_some {zs : List Int} {i : Nat} (h : i < zs.length) : zs[i]? = some (gtI zs i) := by simp [gtI, h]
theorem gtI_get {zs : List Int} {i : Nat} (h : i < zs.length) : zs[i] = gtI zs i := by simp [gtI, h]
theorem store_at {h : Heap} {id n i : Nat} {b c : Blk} {z : Int} (hb : h[id]? = some b) (hn : c.length = n) (hi : i < n) (hf : ∀ e ∈ c, e.length = 1) : storeH (h.set id c) 1 (.ptr id n i 0) (.int .i64 z) = some (h.set id (c.set i (encI z))) := by
  rw [storeH_row (heap_set c hb) hn hi hf rfl, List.set_set]; rfl
theorem compact_c {h : Heap} {id n : Nat} {zs : List Int} (hb : h[id]? = some (zs.map encI)) (hn : zs.length = n) (hm : n ≤ 1048576) : C Tryz.prog 49 [.own id 1 0 n n] h (fun r h' => r = .own id 1 0 (ddup zs).length n ∧ h' = h.set id ((ddup zs).map encI ++ List.replicate (n - (ddup zs).length) (encI 0))) := by
  subst hn
  have hself : h = h.set id (zs.map encI) := by
    obtain ⟨hl, he⟩ := List.getElem?_eq_some_iff.1 hb
    rw [← he, List.set_getElem_self]
  have hfull : ddup zs = zs → h = h.set id ((ddup zs).map encI ++ List.replicate (zs.length - (ddup zs).length) (encI 0)) := fun e => by rw [e]; simpa using hself
  refine C.by mixed (cfn_ok Tryz.func49 ok49) rfl ?_
  simp (disch := omega) only [s49, go_sem]
  refine condP_dec (fun hlt => ?_) (fun hlt => ?_)
  · simp (disch := omega) only [go_sem]
    have e : ddup zs = zs := by
      match zs, hlt with
      | [], _ => rfl
      | [x], _ => rfl
      | x :: y :: r, h => simp at h; omega
    rw [e]
    refine ⟨rfl, ?_⟩
    have := hfull e
    rwa [e] at this
  simp (disch := omega) only [go_sem]
  refine loopP_intro (fun m s => ∃ k : Nat, 1 ≤ k ∧ k ≤ zs.length ∧ m = zs.length - k ∧ s.e 0 = .own id 1 0 zs.length zs.length ∧ s.e 3 = .int .i64 k ∧ s.h = h ∧ ddup (zs.take k) = zs.take k) (zs.length - 1) ⟨1, by omega, by omega, by omega, by simp (disch := omega) only [go_sem], by simp (disch := omega) only [go_sem]; rfl, rfl, ?_⟩ ?_
  · match zs, hlt with
    | [], h => simp at h
    | x :: r, _ => rfl
  rintro m e hp ⟨k, hk1, hk2, rfl, e0, e3, rfl, hdd⟩
  simp only at e0 e3
  simp (disch := omega) only [go_sem, e0, e3]
  refine condP_dec (fun hlk => ?_) (fun hlk => ?_)
  · have hlk' : k < zs.length := by omega
    have hgk := gtI_some hlk'
    have hgk1 := gtI_some (zs := zs) (i := k - 1) (by omega)
    have tk1 : ((k : Int) - 1).toNat = k - 1 := by omega
    have hbl : (zs.map encI).length = zs.length := by simp
    simp (disch := omega) only [go_sem, e0, e3, hb, hgk, hgk1, tk1, hbl, List.getElem?_map, encI]
    refine condP_dec (fun heq => ?_) (fun heq => ?_)
    case' refine_2 =>
      simp (disch := omega) only [go_sem, e0, e3, hb, hgk, hgk1, tk1, hbl, List.getElem?_map, encI]
      refine nextP_intro (zs.length - (k + 1)) (by omega) ⟨k + 1, by omega, by omega, rfl, by simp (disch := omega) only [go_sem, e0, e3, hb, hgk, hgk1, tk1, hbl, List.getElem?_map, encI], by simp (disch := omega) only [go_sem, e0, e3, hb, hgk, hgk1, tk1, hbl, List.getElem?_map, encI]; rfl, rfl, ?_⟩
      obtain ⟨q, rfl⟩ : ∃ q, k = q + 1 := ⟨k - 1, by omega⟩
      rw [ddup_next hlk', if_neg (by rw [gtI_get, gtI_get]; exact heq), hdd, List.take_succ_eq_append_getElem hlk']
    simp (disch := omega) only [go_sem, e0, e3, hb, hgk, hgk1, tk1, hbl, List.getElem?_map, encI]
    refine loopP_intro (fun m s => ∃ (q i : Nat) (c : Blk), k + 1 ≤ q ∧ q ≤ zs.length ∧ m = zs.length - q ∧ i ≤ q - 1 ∧ i = (ddup (zs.take q)).length ∧ s.e 0 = .own id 1 0 zs.length zs.length ∧ s.e 3 = .int .i64 i ∧ s.e 4 = .own id 1 k (zs.length - k) zs.length ∧ s.e 5 = .int .i64 ((q : Int) - k) ∧ s.h = hp.set id c ∧ c.length = zs.length ∧ (∀ e ∈ c, e.length = 1) ∧ c.take i = (ddup (zs.take q)).map encI ∧ ∀ j, i ≤ j → j < zs.length → c[j]? = some (encI (gtI zs j))) (zs.length - (k + 1)) ⟨k + 1, k, zs.map encI, by omega, by omega, rfl, by omega, ?_, by simp (disch := omega) only [go_sem, e0, e3, hb, hgk, hgk1, tk1, hbl, List.getElem?_map, encI], by simp (disch := omega) only [go_sem, e0, e3, hb, hgk, hgk1, tk1, hbl, List.getElem?_map, encI], by simp (disch := omega) only [go_sem, e0, e3, hb, hgk, hgk1, tk1, hbl, List.getElem?_map, encI], ?_, hself, hbl, fun e he => by obtain ⟨x, _, rfl⟩ := List.mem_map.1 he; rfl, ?_, fun j _ hj => by rw [List.getElem?_map, gtI_some hj]; rfl⟩ ?_
    · obtain ⟨q, rfl⟩ : ∃ q, k = q + 1 := ⟨k - 1, by omega⟩
      rw [ddup_next hlk', if_pos (by rw [gtI_get, gtI_get]; exact heq), hdd]; simp; omega
    · simp (disch := omega) only [go_sem, e0, e3, hb, hgk, hgk1, tk1, hbl, List.getElem?_map, encI]
      exact congrArg (V.int .i64) (by omega)
    · obtain ⟨q, rfl⟩ : ∃ q, k = q + 1 := ⟨k - 1, by omega⟩
      rw [ddup_next hlk', if_pos (by rw [gtI_get, gtI_get]; exact heq), hdd, List.map_take]
    rintro m e h' ⟨q, i, c, hq1, hq2, rfl, hi1, hi2, e0, e3, e4, e5, rfl, hcn, hce, hct, hcj⟩
    simp only at e0 e3 e4 e5
    have hc := heap_set c hb
    simp (disch := omega) only [go_sem, e0, e3, e4, e5, hc]
    refine condP_dec (fun hlq => ?_) (fun hlq => ?_)
    · have hlq' : q < zs.length := by omega
      have hcq := hcj q (by omega) hlq'
      have hcq1 := hcj (q - 1) (by omega) (by omega)
      have tq : k + ((q : Int) - k).toNat = q := by omega
      have tq1 : k + ((q : Int) - k - 1).toNat = q - 1 := by omega
      have st := store_at (z := gtI zs q) hb hcn (show i < zs.length by omega) hce
      simp (disch := omega) only [go_sem, e0, e3, e4, e5, hc, hcq, hcq1, tq, tq1, hcn, st, encI]
      have hnx : ddup (zs.take (q + 1)) = if gtI zs q = gtI zs (q - 1) then ddup (zs.take q) else ddup (zs.take q) ++ [gtI zs q] := by
        obtain ⟨p, rfl⟩ : ∃ p, q = p + 1 := ⟨q - 1, by omega⟩
        rw [ddup_next hlq', gtI_get, gtI_get]; rfl
      have t5 : (q : Int) - k + 1 = ((q + 1 : Nat) : Int) - k := by omega
      refine condP_dec (fun hne => ?_) (fun hne => ?_)
      · rw [if_pos hne] at hnx
        simp (disch := omega) only [go_sem, e0, e3, e4, e5, hc, hcq, hcq1, tq, tq1, hcn, st, encI]
        refine nextP_intro (zs.length - (q + 1)) (by omega) ⟨q + 1, i, c, by omega, by omega, rfl, by omega, by rw [hnx]; exact hi2, by simp (disch := omega) only [go_sem, e0, e3, e4, e5, hc, hcq, hcq1, tq, tq1, hcn, st, encI], by simp (disch := omega) only [go_sem, e0, e3, e4, e5, hc, hcq, hcq1, tq, tq1, hcn, st, encI], by simp (disch := omega) only [go_sem, e0, e3, e4, e5, hc, hcq, hcq1, tq, tq1, hcn, st, encI], ?_, rfl, hcn, hce, by rw [hnx]; exact hct, hcj⟩
        simp (disch := omega) only [go_sem, e0, e3, e4, e5, hc, hcq, hcq1, tq, tq1, hcn, st, encI]
        exact congrArg (V.int .i64) t5
      · rw [if_neg hne] at hnx
        simp (disch := omega) only [go_sem, e0, e3, e4, e5, hc, hcq, hcq1, tq, tq1, hcn, st, encI]
        refine nextP_intro (zs.length - (q + 1)) (by omega) ⟨q + 1, i + 1, c.set i [.int .i64 (gtI zs q)], by omega, by omega, rfl, by omega, by rw [hnx]; simp [← hi2], by simp (disch := omega) only [go_sem, e0, e3, e4, e5, hc, hcq, hcq1, tq, tq1, hcn, st, encI], by simp (disch := omega) only [go_sem, e0, e3, e4, e5, hc, hcq, hcq1, tq, tq1, hcn, st, encI] <;> rfl, by simp (disch := omega) only [go_sem, e0, e3, e4, e5, hc, hcq, hcq1, tq, tq1, hcn, st, encI], ?_, rfl, by simpa using hcn, fun e he => ?_, ?_, fun j hj1 hj2 => ?_⟩
        · simp (disch := omega) only [go_sem, e0, e3, e4, e5, hc, hcq, hcq1, tq, tq1, hcn, st, encI]
          exact congrArg (V.int .i64) t5
        · rcases List.mem_or_eq_of_mem_set he with h4 | h4
          · exact hce e h4
          · rw [h4]; rfl
        · rw [hnx, List.map_append, ← hct, List.take_set, List.take_succ_eq_append_getElem (by omega), List.set_append_right _ _ (by simp; omega)]
          simp [hcn]
          have : min i zs.length = i := by omega
          rw [this]; simp [encI]
        · rw [List.getElem?_set_ne (by omega)]
          exact hcj j (by omega) hj2
    · simp (disch := omega) only [go_sem, e0, e3, e4, e5, hc]
      have hqe : q = zs.length := by omega
      subst hqe
      rw [List.take_length] at hi2 hct
      subst hi2
      have hdl := ddup_le zs
      have hcl : (ddup zs).length + (zs.length - (ddup zs).length) ≤ zs.length := by omega
      have hdr : c.drop ((ddup zs).length + (zs.length - (ddup zs).length)) = [] := List.drop_eq_nil_of_le (by omega)
      simp (disch := omega) only [go_sem, e0, e3, e4, e5, hc, hcn, hcl, hdr, hct, List.set_set]
      first | rfl | exact ⟨rfl, rfl⟩
  · simp (disch := omega) only [go_sem, e0, e3]
    have : k = zs.length := by omega
    subst this
    rw [List.take_length] at hdd
    rw [hdd]
    refine ⟨rfl, ?_⟩
    have := hfull hdd
    rwa [hdd] at this
def idxI {α : Type} (p : α → Bool) (ts : List α) : Int := if ts.any p = true then (ts.findIdx p : Int) else -1
theorem idxI_found {α : Type} {p : α → Bool} {ts : List α} {k : Nat} (hk : k < ts.length) (h : p ts[k] = true) (ha : ∀ j (hj : j < ts.length), j < k → p ts[j] = false) : idxI p ts = k := by
  have h1 : ts.findIdx p = k := (List.findIdx_eq hk).2 ⟨h, fun j hj => ha j (by omega) hj⟩
  have h2 : ts.any p = true := List.any_eq_true.2 ⟨ts[k], List.getElem_mem hk, h⟩
  rw [idxI, if_pos h2, h1]
theorem idxI_none {α : Type} {p : α → Bool} {ts : List α} (ha : ∀ j (hj : j < ts.length), p ts[j] = false) : idxI p ts = -1 := by
  rw [idxI, if_neg (fun c => by
    obtain ⟨t, ht, hn⟩ := List.any_eq_true.1 c
    obtain ⟨j, hj, rfl⟩ := List.getElem_of_mem ht
    rw [ha j hj] at hn; cases hn)]
theorem idxI_ge {α : Type} (p : α → Bool) (ts : List α) : decide (0 ≤ idxI p ts) = ts.any p := by
  unfold idxI
  cases h : ts.any p <;> simp
structure Hd (h : Heap) (id n : Nat) (b : Blk) (zs : List Int) : Prop where
  hb : h[id]? = some b
  hn : b.length = n
  hz : zs.length ≤ n
  ht : b.take zs.length = zs.map encI
  hf : flat b = true
  he : ∀ e ∈ b, e.length = 1
theorem Hd.at {h : Heap} {id n : Nat} {b : Blk} {zs : List Int} (H : Hd h id n b zs) {i : Nat} (hi : i < zs.length) : b[i]? = some (encI (gtI zs i)) := by
  have : (b.take zs.length)[i]? = some (encI (gtI zs i)) := by rw [H.ht, List.getElem?_map, gtI_some hi]; rfl
  rwa [List.getElem?_take_of_lt hi] at this
theorem indexF_c {h : Heap} {id n : Nat} {b : Blk} {zs : List Int} (g : Nat) (caps : List V) (p : Int → Bool) (H : Hd h id n b zs) (hm : zs.length ≤ 1048576) (hg : ∀ z ∈ zs, C Tryz.prog g (.int .i64 z :: caps) h (fun r h' => r = .bool (p z) ∧ h' = h)) :
    C Tryz.prog 73 [.own id 1 0 zs.length n, .fn g caps] h (fun r h' => r = .int .i64 (idxI p zs) ∧ h' = h) := by
  have hz := H.hz
  have hn := H.hn
  have hb := H.hb
  refine C.by mixed (cfn_ok Tryz.func73 ok73) rfl ?_
  simp (disch := omega) only [s73, go_sem]
  refine loopP_intro (fun m s => ∃ k : Nat, k ≤ zs.length ∧ m = zs.length - k ∧ s.e 0 = .own id 1 0 zs.length n ∧ s.e 1 = .fn g caps ∧ s.e 7 = .int .i64 zs.length ∧ s.e 8 = .int .i64 k ∧ s.h = h ∧ ∀ j (hj : j < zs.length), j < k → p zs[j] = false) zs.length ⟨0, by omega, by omega, rfl, rfl, by simp (disch := omega) only [go_sem], rfl, rfl, fun j _ h => absurd h (by omega)⟩ ?_
  rintro m e hp ⟨k, hk, rfl, e0, e1, e7, e8, rfl, hall⟩
  simp only at e0 e1 e7 e8
  simp (disch := omega) only [go_sem, e0, e1, e7, e8]
  refine condP_dec (fun hlt => ?_) (fun hlt => ?_)
  · have hlt' : k < zs.length := by omega
    have hbk := H.at hlt'
    have hgk := hg _ (List.getElem_mem hlt')
    rw [gtI_get hlt'] at hgk
    simp (disch := omega) only [go_sem, e0, e1, e7, e8, hb, hn, hbk, encI]
    refine C.go hgk ?_
    rintro r h' ⟨rfl, rfl⟩
    simp (disch := omega) only [go_sem, e0, e1, e7, e8, hb, hn, hbk, encI]
    refine condP_split (fun h => ?_) (fun h => ?_)
    · simp (disch := omega) only [go_sem, e0, e1, e7, e8, hb, hn, hbk, encI]
      rw [idxI_found hlt' (by rw [gtI_get]; exact h) hall]
    · simp (disch := omega) only [go_sem, e0, e1, e7, e8, hb, hn, hbk, encI]
      refine nextP_intro (zs.length - (k + 1)) (by omega) ⟨k + 1, by omega, rfl, ?_, ?_, ?_, ?_, rfl, fun j hj hjk => ?_⟩
      · simp (disch := omega) only [go_sem, e0, e1, e7, e8, hb, hn, hbk, encI]
      · simp (disch := omega) only [go_sem, e0, e1, e7, e8, hb, hn, hbk, encI]
      · simp (disch := omega) only [go_sem, e0, e1, e7, e8, hb, hn, hbk, encI]
      · simp (disch := omega) only [go_sem, e0, e1, e7, e8, hb, hn, hbk, encI]; rfl
      · by_cases e : j = k
        · subst e; rw [gtI_get]; exact h
        · exact hall j hj (by omega)
  · simp (disch := omega) only [go_sem, e0, e1, e7, e8]
    rw [idxI_none (fun j hj => hall j hj (by omega))]
theorem filter_take {p : Int → Bool} {zs : List Int} {q : Nat} (h : q < zs.length) : (zs.take (q + 1)).filter p = (zs.take q).filter p ++ (if p (gtI zs q) = true then [gtI zs q] else []) := by
  rw [List.take_succ_eq_append_getElem h, List.filter_append, gtI_get]
  simp only [List.filter_cons, List.filter_nil]
theorem filter_all {p : Int → Bool} {zs : List Int} {k : Nat} (ha : ∀ j (hj : j < zs.length), j < k → p zs[j] = false) : (zs.take k).filter (fun z => !p z) = zs.take k := by
  refine List.filter_eq_self.2 fun z hz => ?_
  obtain ⟨j, hj, rfl⟩ := List.getElem_of_mem hz
  simp only [List.length_take] at hj
  rw [List.getElem_take, ha j (by omega) (by omega)]; rfl
theorem idxI_cases {p : Int → Bool} {zs : List Int} : (idxI p zs = -1 ∧ ∀ j (hj : j < zs.length), p zs[j] = false) ∨ ∃ k : Nat, ∃ hk : k < zs.length, idxI p zs = k ∧ p zs[k] = true ∧ ∀ j (hj : j < zs.length), j < k → p zs[j] = false := by
  by_cases h : zs.any p = true
  · right
    obtain ⟨x, hx, hpx⟩ := List.any_eq_true.1 h
    have hlt : zs.findIdx p < zs.length := List.findIdx_lt_length_of_exists ⟨x, hx, hpx⟩
    refine ⟨zs.findIdx p, hlt, by rw [idxI, if_pos h], List.findIdx_getElem, fun j hj hjk => ?_⟩
    have := List.not_of_lt_findIdx hjk
    simpa using this
  · left
    refine ⟨by rw [idxI, if_neg h], fun j hj => ?_⟩
    have h' : zs.any p = false := by simpa using h
    have := List.any_eq_false.1 h' _ (List.getElem_mem hj)
    simpa using this
theorem deleteF_c {h : Heap} {id n : Nat} {b : Blk} {zs : List Int} (g : Nat) (caps : List V) (p : Int → Bool) (H : Hd h id n b zs) (hm : zs.length ≤ 1048576) (hcap : (V.fn g caps).noHole = true) (hg : ∀ z ∈ zs, ∀ h' : Heap, (∀ j, j ≠ id → h'[j]? = h[j]?) → C Tryz.prog g (.int .i64 z :: caps) h' (fun r h'' => r = .bool (p z) ∧ h'' = h')) :
    C Tryz.prog 43 [.own id 1 0 zs.length n, .fn g caps] h (fun r h' => ∃ b', r = .own id 1 0 (zs.filter fun z => !p z).length n ∧ h' = h.set id b' ∧ Hd (h.set id b') id n b' (zs.filter fun z => !p z)) := by
  have hz := H.hz
  have hn := H.hn
  have hb := H.hb
  have hself : h = h.set id b := by
    obtain ⟨hl, he⟩ := List.getElem?_eq_some_iff.1 hb
    rw [← he, List.set_getElem_self]
  refine C.by mixed (cfn_ok Tryz.func43 ok43) rfl ?_
  simp (disch := omega) only [s43, go_sem]
  refine C.go (indexF_c g caps p H hm (fun z hz => hg z hz h (fun _ _ => rfl))) ?_
  rintro r h' ⟨rfl, rfl⟩
  simp (disch := omega) only [go_sem]
  rcases idxI_cases (p := p) (zs := zs) with ⟨e, hall⟩ | ⟨k, hk, e, hpk, hall⟩
  · simp (disch := omega) only [go_sem, e]
    have hfe : zs.filter (fun z => !p z) = zs := by
      have := filter_all (p := p) (zs := zs) (k := zs.length) (fun j hj _ => hall j hj)
      rwa [List.take_length] at this
    rw [hfe]
    exact ⟨b, rfl, hself, by rw [← hself]; exact H⟩
  have hne : ¬ (k : Int) = -1 := by omega
  simp (disch := omega) only [go_sem, e, hne]
  refine loopP_intro (fun m s => ∃ (q i : Nat) (c : Blk), k + 1 ≤ q ∧ q ≤ zs.length ∧ m = zs.length - q ∧ i < q ∧ i = ((zs.take q).filter fun z => !p z).length ∧ s.e 0 = .own id 1 0 zs.length n ∧ s.e 1 = .fn g caps ∧ s.e 5 = .int .i64 i ∧ s.e 6 = .int .i64 q ∧ s.h = h'.set id c ∧ c.length = n ∧ (∀ e ∈ c, e.length = 1) ∧ flat c = true ∧ c.take i = ((zs.take q).filter fun z => !p z).map encI ∧ ∀ j, i ≤ j → j < zs.length → c[j]? = some (encI (gtI zs j))) (zs.length - (k + 1)) ⟨k + 1, k, b, by omega, by omega, rfl, by omega, ?_, by simp (disch := omega) only [go_sem, e, hne], by simp (disch := omega) only [go_sem, e, hne], by simp (disch := omega) only [go_sem, e, hne], by simp (disch := omega) only [go_sem, e, hne]; rfl, hself, hn, H.he, H.hf, ?_, fun j _ hj => H.at hj⟩ ?_
  · rw [filter_take hk, filter_all hall, ← gtI_get hk, hpk]; simp; omega
  · rw [filter_take hk, filter_all hall, ← gtI_get hk, hpk]
    have : b.take k = (b.take zs.length).take k := by rw [List.take_take]; congr 1; omega
    rw [this, H.ht, ← List.map_take]; simp
  rintro m e' h2 ⟨q, i, c, hq1, hq2, rfl, hi1, hi2, e0, e1, e5, e6, rfl, hcn, hce, hcf, hct, hcj⟩
  simp only at e0 e1 e5 e6
  have hc := heap_set c hb
  simp (disch := omega) only [go_sem, e0, e1, e5, e6, hc]
  refine condP_dec (fun hlq => ?_) (fun hlq => ?_)
  · have hlq' : q < zs.length := by omega
    have hcq := hcj q (by omega) hlq'
    have hgq := hg _ (List.getElem_mem hlq') (h'.set id c) (fun j hj => List.getElem?_set_ne (Ne.symm hj))
    rw [gtI_get hlq'] at hgq
    have hft := filter_take (p := fun z => !p z) hlq'
    have st := store_at (z := gtI zs q) hb hcn (show i < n by omega) hce
    simp (disch := omega) only [go_sem, e0, e1, e5, e6, hc, hcn, hcq, encI]
    refine C.go hgq ?_
    rintro r h3 ⟨rfl, rfl⟩
    simp (disch := omega) only [go_sem, e0, e1, e5, e6, hc, hcn, hcq, encI]
    refine condP_split (fun hpq => ?_) (fun hpq => ?_)
    · rw [if_neg (by simp [hpq]), List.append_nil] at hft
      simp (disch := omega) only [go_sem, e0, e1, e5, e6, hc, hcn, hcq, encI]
      refine nextP_intro (zs.length - (q + 1)) (by omega) ⟨q + 1, i, c, by omega, by omega, rfl, by omega, by rw [hft]; exact hi2, by simp (disch := omega) only [go_sem, e0, e1, e5, e6, hc, hcn, hcq, encI], by simp (disch := omega) only [go_sem, e0, e1, e5, e6, hc, hcn, hcq, encI], by simp (disch := omega) only [go_sem, e0, e1, e5, e6, hc, hcn, hcq, encI], by simp (disch := omega) only [go_sem, e0, e1, e5, e6, hc, hcn, hcq, encI]; rfl, rfl, hcn, hce, hcf, by rw [hft]; exact hct, hcj⟩
    · rw [if_pos (by simp [hpq])] at hft
      simp (disch := omega) only [go_sem, e0, e1, e5, e6, hc, hcn, hcq, st, encI]
      refine nextP_intro (zs.length - (q + 1)) (by omega) ⟨q + 1, i + 1, c.set i [.int .i64 (gtI zs q)], by omega, by omega, rfl, by omega, by rw [hft]; simp [← hi2], by simp (disch := omega) only [go_sem, e0, e1, e5, e6, hc, hcn, hcq, st, encI], by simp (disch := omega) only [go_sem, e0, e1, e5, e6, hc, hcn, hcq, st, encI], by simp (disch := omega) only [go_sem, e0, e1, e5, e6, hc, hcn, hcq, st, encI] <;> rfl, by simp (disch := omega) only [go_sem, e0, e1, e5, e6, hc, hcn, hcq, st, encI]; rfl, rfl, by simpa using hcn, fun e he => ?_, ?_, ?_, fun j hj1 hj2 => ?_⟩
      · rcases List.mem_or_eq_of_mem_set he with h4 | h4
        · exact hce e h4
        · rw [h4]; rfl
      · simp only [flat, List.all_eq_true] at hcf ⊢
        intro e he
        rcases List.mem_or_eq_of_mem_set he with h4 | h4
        · exact hcf e h4
        · rw [h4]; simp [V.scalar]
      · rw [hft, List.map_append, ← hct, List.take_set, List.take_succ_eq_append_getElem (by omega), List.set_append_right _ _ (by simp; omega)]
        simp [hcn]
        have : min i n = i := by omega
        rw [this]; simp [encI]
      · rw [List.getElem?_set_ne (by omega)]
        exact hcj j (by omega) hj2
  · simp (disch := omega) only [go_sem, e0, e1, e5, e6, hc]
    have hqe : q = zs.length := by omega
    subst hqe
    rw [List.take_length] at hi2 hct
    subst hi2
    have hwl : (zs.filter fun z => !p z).length ≤ zs.length := List.length_filter_le _ _
    have hdr : ((zs.filter fun z => !p z).length + (zs.length - (zs.filter fun z => !p z).length)) = zs.length := by omega
    have hcl : (zs.filter fun z => !p z).length + (zs.length - (zs.filter fun z => !p z).length) ≤ n := by omega
    simp (disch := omega) only [go_sem, e0, e1, e5, e6, hc, hcn, hct, hcl, hdr, hz, List.set_set]
    refine ⟨_, rfl, heap_set _ hb, ?_, by omega, ?_, ?_, fun e he => ?_⟩
    · simp [hcn]; omega
    · rw [List.take_left' (by simp)]
    · simp only [flat, List.all_eq_true] at hcf ⊢
      intro e he
      rcases List.mem_append.1 he with h1 | h1
      · exact List.all_eq_true.1 (List.all_eq_true.1 (flat_encI _) e h1)
      · rcases List.mem_append.1 h1 with h1 | h1
        · rw [(List.mem_replicate.1 h1).2]; simp [V.scalar]
        · exact hcf e (List.mem_of_mem_drop h1)
    · rcases List.mem_append.1 he with h1 | h1
      · obtain ⟨x, _, rfl⟩ := List.mem_map.1 h1; rfl
      · rcases List.mem_append.1 h1 with h1 | h1
        · rw [(List.mem_replicate.1 h1).2]; rfl
        · exact hce e (List.mem_of_mem_drop h1)
theorem refs_intsx (n : Nat) (zs : List Int) (x : V) (hx : V.refs n x = true) : V.refsL n [.lst 1 (zs.map encI), x] = true := by simp [V.refsL, V.refs, refsLL_map encI (fun _ => rfl) zs, hx]
theorem contains_c (zs : List Int) (x : Int) (hl : zs.length ≤ 9223372036854775807) : CP Tryz.prog 75 [.lst 1 (zs.map encI), .int .i64 x] (.bool (decide (x ∈ zs))) [] := by
  have ix : CP Tryz.prog 86 [.lst 1 (zs.map encI), .int .i64 x] (.int .i64 (idxI (fun z => decide (x = z)) zs)) [] := by
    refine CP.by rfl mixed (cfn_ok Tryz.func86 ok86) rfl ?_
    simp (disch := omega) only [s86, go_sem]
    refine loopP_intro (fun m s => ∃ k : Nat, k ≤ zs.length ∧ m = zs.length - k ∧ s.e 0 = .lst 1 (zs.map encI) ∧ s.e 1 = .int .i64 x ∧ s.e 7 = .int .i64 zs.length ∧ s.e 8 = .int .i64 k ∧ ∀ j (hj : j < zs.length), j < k → decide (x = zs[j]) = false) zs.length ⟨0, by omega, by omega, rfl, rfl, by simp (disch := omega) only [go_sem], rfl, fun j _ h => absurd h (by omega)⟩ ?_
    rintro m e hp ⟨k, hk, rfl, e0, e1, e7, e8, hall⟩
    simp only at e0 e1 e7 e8
    simp (disch := omega) only [go_sem, e0, e1, e7, e8, encI]
    refine condP_dec (fun hlt => ?_) (fun hlt => ?_)
    · have hlt' : k < zs.length := by omega
      simp (disch := omega) only [go_sem, e0, e1, e7, e8, encI]
      refine condP_dec (fun h => ?_) (fun h => ?_)
      · simp (disch := omega) only [go_sem, e0, e1, e7, e8, encI]
        rw [idxI_found hlt' (by simpa using h) hall]
      · simp (disch := omega) only [go_sem, e0, e1, e7, e8, encI]
        refine nextP_intro (zs.length - (k + 1)) (by omega) ⟨k + 1, by omega, rfl, ?_, ?_, ?_, ?_, fun j hj hjk => ?_⟩
        · simp (disch := omega) only [go_sem, e0, e1, e7, e8, encI]
        · simp (disch := omega) only [go_sem, e0, e1, e7, e8, encI]
        · simp (disch := omega) only [go_sem, e0, e1, e7, e8, encI]
        · simp (disch := omega) only [go_sem, e0, e1, e7, e8, encI]; rfl
        · by_cases e : j = k
          · subst e; simpa using h
          · exact hall j hj (by omega)
    · simp (disch := omega) only [go_sem, e0, e1, e7, e8, encI]
      rw [idxI_none (fun j hj => hall j hj (by omega))]
  refine CP.by rfl mixed (cfn_ok Tryz.func75 ok75) rfl ?_
  simp (disch := omega) only [s75, go_sem]
  refine CP.go ix rfl (refs_intsx _ _ _ rfl) ?_
  simp (disch := omega) only [go_sem, idxI_ge]
  have : zs.any (fun z => decide (x = z)) = decide (x ∈ zs) := by
    rw [Bool.eq_iff_iff]; simp
  rw [this]
theorem hasVar_c' (zs : List Int) (x : Int) (hl : zs.length ≤ 9223372036854775807) : CP Tryz.prog 46 [.lst 1 (zs.map encI), .int .i64 x] (.bool (decide (x ∈ zs))) [] := by
  refine CP.by rfl mixed (cfn_ok Tryz.func46 ok46) rfl ?_
  simp (disch := omega) only [s46, go_sem]
  refine CP.go (contains_c zs x hl) rfl (refs_intsx _ _ _ rfl) ?_
  simp (disch := omega) only [go_sem]
end Go.Av

namespace Go.Av
open Go.Proofs Go.RowKit
set_option linter.unusedVariables false
set_option linter.unusedSimpArgs false
set_option maxRecDepth 100000
set_option maxHeartbeats 4000000
theorem exprOk_facts {e : Expr} (h : exprOk e = true) : (1 ≤ e.op ∧ e.op ≤ 7) ∧ (-8 ≤ e.a ∧ e.a ≤ 999) ∧ (-8 ≤ e.b ∧ e.b ≤ 999) := by
  simp only [exprOk, operandOk, within, Bool.and_eq_true, decide_eq_true_eq] at h
  exact ⟨h.1.1, h.1.2, h.2⟩
def readsK (e : Expr) (k : Int) : Prop := 0 ≤ k ∧ (e.a = -1 - k ∨ e.b = -1 - k)
def colE (e : Expr) : Nat → List Int
  | 0 => []
  | 1 => if e.a < 0 then [-1 - e.a] else []
  | _ => (if e.a < 0 then [-1 - e.a] else []) ++ (if e.b < 0 then [-1 - e.b] else [])
def readsI (e : Expr) : List Int := if exprOk e = true then ddup (srt (colE e 2)) else []
theorem mem_readsI {e : Expr} (h : exprOk e = true) {k : Int} : k ∈ readsI e ↔ readsK e k := by
  unfold readsI readsK
  rw [if_pos h, mem_ddup, mem_srt]
  simp only [colE, List.mem_append]
  have ha : ∀ x : Int, k ∈ (if x < 0 then [-1 - x] else []) ↔ 0 ≤ k ∧ x = -1 - k := fun x => by
    split
    · simp; omega
    · simp; omega
  rw [ha, ha]
  constructor
  · rintro (⟨h1, h2⟩ | ⟨h1, h2⟩)
    · exact ⟨h1, .inl h2⟩
    · exact ⟨h1, .inr h2⟩
  · rintro ⟨h1, h2 | h2⟩
    · exact .inl ⟨h1, h2⟩
    · exact .inr ⟨h1, h2⟩
theorem reads_bd {e : Expr} (h : exprOk e = true) {k : Int} (hk : readsK e k) : 0 ≤ k ∧ k ≤ 7 := by
  have := exprOk_facts h
  unfold readsK at hk
  omega
theorem col_len (e : Expr) (k : Nat) : (colE e k).length ≤ 2 := by
  unfold colE
  split
  · simp
  · split <;> simp
  · split <;> split <;> simp
def readsS (e : Expr) : List Int := if exprOk e = true then ((List.range 8).filter fun (k : Nat) => decide (e.a = -1 - (k : Int)) || decide (e.b = -1 - (k : Int))).map Int.ofNat else []
theorem mem_readsS {e : Expr} (h : exprOk e = true) {k : Int} : k ∈ readsS e ↔ readsK e k := by
  unfold readsS
  rw [if_pos h]
  simp only [List.mem_map, List.mem_filter, List.mem_range, Bool.or_eq_true, decide_eq_true_eq]
  constructor
  · rintro ⟨n, ⟨h1, h2⟩, rfl⟩
    exact ⟨by simp, h2⟩
  · intro hk
    have := reads_bd h hk
    exact ⟨k.toNat, ⟨by omega, by unfold readsK at hk; omega⟩, by simp; omega⟩
theorem readsOf_c (e : Expr) : Pt Tryz.prog 26 [.agg (encExpr e)] (readsI e) := by
  refine C.by mixed (cfn_ok Tryz.func26 ok26) rfl ?_
  simp (disch := omega) only [s26, go_sem, encExpr]
  refine CP.go (exprOk_c e) rfl rfl ?_
  simp (disch := omega) only [go_sem]
  refine condP_split (fun hk => ?_) (fun hk => ?_)
  case' refine_2 =>
    simp (disch := omega) only [go_sem]
    have : readsI e = [] := by simp [readsI, hk]
    rw [this]
    exact ⟨[], .inl ⟨rfl, rfl, rfl⟩⟩
  have hf := exprOk_facts hk
  simp (disch := omega) only [go_sem]
  refine loopP_intro (fun m s => ∃ (k l : Nat), k ≤ 2 ∧ m = 2 - k ∧ s.e 3 = .own l 1 0 (colE e k).length (colE e k).length ∧ s.e 14 = .own 2 1 0 2 2 ∧ s.e 15 = .int .i64 2 ∧ s.e 16 = .int .i64 k ∧ Sep s.h [.k l ((colE e k).map encI), .k 2 [encI e.a, encI e.b]]) 2 ⟨0, 1, by omega, by omega, by simp (disch := omega) only [go_sem]; rfl, by simp (disch := omega) only [go_sem], by simp (disch := omega) only [go_sem]; rfl, by simp (disch := omega) only [go_sem]; rfl, ⟨[1, 2], by simp, [1], [2], rfl, ⟨rfl, rfl⟩, [2], [], rfl, ⟨rfl, rfl⟩, rfl⟩⟩ ?_
  rintro m e' hp ⟨k, l, hk2, rfl, e3, e14, e15, e16, S⟩
  simp only at e3 e14 e15 e16 S
  have hq := S.blk 1 rfl
  simp (disch := omega) only [go_sem, e3, e14, e15, e16, hq, encI]
  refine condP_dec (fun hlt => ?_) (fun hlt => ?_)
  · have hv : ∃ v : Int, ([encI e.a, encI e.b] : Blk)[k]? = some (encI v) ∧ colE e (k + 1) = colE e k ++ (if v < 0 then [-1 - v] else []) ∧ (-8 ≤ v ∧ v ≤ 999) := by
      have : k = 0 ∨ k = 1 := by omega
      rcases this with rfl | rfl
      · exact ⟨e.a, rfl, by simp [colE], hf.2.1⟩
      · exact ⟨e.b, rfl, by simp [colE], hf.2.2⟩
    refine Exists.elim hv fun v z => ?_
    have hv1 := z.1
    have hv2 := z.2.1
    have hv3 := z.2.2
    clear z hv
    simp only [encI] at hv1
    simp (disch := omega) only [go_sem, e3, e14, e15, e16, hq, hv1, encI]
    refine condP_dec (fun hneg => ?_) (fun hneg => ?_)
    · rw [if_pos hneg] at hv2
      have hcl := col_len e k
      have ha := append1 (sz := 1) (bytes := 8) (c := encI (-1 - v)) (S.blk 0 rfl) (n := (colE e k).length) (by simp) (by omega)
      simp only [encI] at ha
      simp (disch := omega) only [go_sem, e3, e14, e15, e16, hq, hv1, ha, encI]
      have hl1 : (colE e (k + 1)).length = (colE e k).length + 1 := by rw [hv2]; simp
      refine nextP_intro (2 - (k + 1)) (by omega) ⟨k + 1, l, by omega, rfl, ?_, by simp (disch := omega) only [go_sem, e3, e14, e15, e16, hq, hv1, ha, encI], by simp (disch := omega) only [go_sem, e3, e14, e15, e16, hq, hv1, ha, encI], by simp (disch := omega) only [go_sem, e3, e14, e15, e16, hq, hv1, ha, encI]; rfl, ?_⟩
      · rw [hl1]; simp (disch := omega) only [go_sem, e3, e14, e15, e16, hq, hv1, ha, encI]
      · have := (S.app [[encI (-1 - v)]]).setK ((colE e k).map encI ++ [encI (-1 - v)])
        rw [hv2, List.map_append]
        exact this
    · rw [if_neg hneg, List.append_nil] at hv2
      simp (disch := omega) only [go_sem, e3, e14, e15, e16, hq, hv1, encI]
      refine nextP_intro (2 - (k + 1)) (by omega) ⟨k + 1, l, by omega, rfl, ?_, by simp (disch := omega) only [go_sem, e3, e14, e15, e16, hq, hv1, encI], by simp (disch := omega) only [go_sem, e3, e14, e15, e16, hq, hv1, encI], by simp (disch := omega) only [go_sem, e3, e14, e15, e16, hq, hv1, encI]; rfl, ?_⟩
      · rw [hv2]; simp (disch := omega) only [go_sem, e3, e14, e15, e16, hq, hv1, encI]
      · rw [hv2]; exact S
  · have : k = 2 := by omega
    subst this
    have hcl := col_len e 2
    simp (disch := omega) only [go_sem, e3, e14, e15, e16, hq, encI]
    refine C.go (sort_c (S.blk 0 rfl) rfl (by omega)) ?_
    rintro r h' ⟨rfl, rfl⟩
    have S1 := S.setK ((srt (colE e 2)).map encI)
    simp (disch := omega) only [go_sem, e3, e14, e15, e16, hq, encI]
    refine C.go (compact_c (zs := srt (colE e 2)) (S1.blk 0 rfl) (srt_len _) (by omega)) ?_
    rintro r h' ⟨rfl, rfl⟩
    have S2 := S1.setK ((ddup (srt (colE e 2))).map encI ++ List.replicate ((colE e 2).length - (ddup (srt (colE e 2))).length) (encI 0))
    simp (disch := omega) only [go_sem, e3, e14, e15, e16, hq, encI]
    have hdl := ddup_le (srt (colE e 2))
    rw [srt_len] at hdl
    have he : readsI e = ddup (srt (colE e 2)) := by simp [readsI, hk]
    rw [he]
    refine (S2.toP (n := (colE e 2).length) (by simp; omega) hdl (List.take_left' (by simp)) ?_).pret
    simp [rows1, encI, V.scalar]
end Go.Av

namespace Go.Av
set_option linter.unusedVariables false
set_option linter.unusedSimpArgs false
inductive Tr where
  | nil
  | one (s : Stmt) (r : Tr)
  | grp (s : Stmt) (a r : Tr)
def endS : Stmt := ⟨6, 0, 0, ⟨0, 0, 0⟩⟩
def Tr.flat : Tr → List Stmt
  | .nil => []
  | .one s r => s :: r.flat
  | .grp s a r => s :: (a.flat ++ endS :: r.flat)
def Tr.ok : Tr → Bool
  | .nil => true
  | .one s r => stmtOk s && (decide (s.kind = 1) || decide (s.kind = 2) || decide (s.kind = 3)) && r.ok
  | .grp s a r => stmtOk s && (decide (s.kind = 4) || decide (s.kind = 5)) && a.ok && r.ok
def Tr.size : Tr → Nat
  | .nil => 0
  | .one s r => 1 + r.size
  | .grp s a r => 1 + a.size + r.size
theorem Tr.one_ok {s : Stmt} {r : Tr} (h : (Tr.one s r).ok = true) : stmtOk s = true ∧ (s.kind = 1 ∨ s.kind = 2 ∨ s.kind = 3) ∧ r.ok = true := by
  simp only [Tr.ok, Bool.and_eq_true, Bool.or_eq_true, decide_eq_true_eq] at h
  exact ⟨h.1.1, by rcases h.1.2 with (h | h) | h <;> simp [h], h.2⟩
theorem Tr.grp_ok {s : Stmt} {a r : Tr} (h : (Tr.grp s a r).ok = true) : stmtOk s = true ∧ (s.kind = 4 ∨ s.kind = 5) ∧ a.ok = true ∧ r.ok = true := by
  simp only [Tr.ok, Bool.and_eq_true, Bool.or_eq_true, decide_eq_true_eq] at h
  exact ⟨h.1.1.1, h.1.1.2, h.1.2, h.2⟩
theorem stmt_end {s : Stmt} (h : stmtOk s = true) (hk : s.kind = 6) : s = endS := by
  obtain ⟨kind, var, n, ⟨op, a, b⟩⟩ := s
  simp only at hk
  subst hk
  simp [stmtOk, hasVar, hasExpr, within] at h
  obtain ⟨⟨h1, h2, h3, h4⟩, h5⟩ : (var = 0 ∧ op = 0 ∧ a = 0 ∧ b = 0) ∧ n = 0 := by simpa [and_assoc] using h
  subst h1 h2 h3 h4 h5; rfl
theorem stmt_kinds {s : Stmt} (h : stmtOk s = true) : 1 ≤ s.kind ∧ s.kind ≤ 6 := by
  unfold stmtOk at h
  split at h
  · cases h
  · rename_i hc
    simp only [Bool.or_eq_true, not_or, within] at hc
    have := hc.1.1
    simp at this
    exact this
theorem delta_of (s : Stmt) : delta s.kind = if s.kind = 4 ∨ s.kind = 5 then 1 else if s.kind = 6 then -1 else 0 := by
  have := dlt_def s
  unfold dlt at this
  rw [this]
  split
  · rw [if_neg (by omega)]; rfl
  · split <;> rfl
theorem tree_of : ∀ (n : Nat) (xs : List Stmt) (d : Int), xs.length ≤ n → 0 ≤ d → blockFrom d xs = true →
    ∃ t : Tr, t.ok = true ∧ ((d = 0 ∧ xs = t.flat) ∨ ∃ rest, xs = t.flat ++ endS :: rest ∧ 0 < d ∧ blockFrom (d - 1) rest = true)
  | n, [], d, hn, hd, h => by
    unfold blockFrom at h
    exact ⟨.nil, rfl, .inl ⟨by simpa using h, rfl⟩⟩
  | 0, s :: xs, d, hn, hd, h => by simp at hn
  | n + 1, s :: xs, d, hn, hd, h => by
    simp only [List.length_cons] at hn
    unfold blockFrom at h
    split at h
    case isFalse => cases h
    rename_i hc
    obtain ⟨hs, h0, h3⟩ := hc
    have hk := stmt_kinds hs
    rw [delta_of] at h h0 h3
    by_cases h45 : s.kind = 4 ∨ s.kind = 5
    · rw [if_pos h45] at h
      obtain ⟨a, ha, hb⟩ := tree_of n xs (d + 1) (by omega) (by omega) h
      rcases hb with ⟨e, _⟩ | ⟨rest, e, _, hr⟩
      · omega
      · have hl : rest.length ≤ n := by
          have := congrArg List.length e
          simp only [List.length_append, List.length_cons] at this
          omega
        obtain ⟨r, hr1, hr2⟩ := tree_of n rest (d + 1 - 1) hl (by omega) hr
        have hok : (Tr.grp s a r).ok = true := by simp [Tr.ok, hs, ha, hr1, h45]
        refine ⟨.grp s a r, hok, ?_⟩
        rcases hr2 with ⟨e1, e2⟩ | ⟨rest', e1, e2, e3⟩
        · refine .inl ⟨by omega, ?_⟩
          rw [e, e2]; rfl
        · refine .inr ⟨rest', ?_, by omega, by rw [show d + 1 - 1 - 1 = d - 1 by omega] at e3; exact e3⟩
          rw [e, e1]; simp [Tr.flat]
    · rw [if_neg h45] at h h0 h3
      by_cases h6 : s.kind = 6
      · rw [if_pos h6] at h h0
        refine ⟨.nil, rfl, .inr ⟨xs, ?_, by omega, by rw [show d - 1 = d + -1 by omega]; exact h⟩⟩
        rw [stmt_end hs h6]; rfl
      · rw [if_neg h6] at h
        obtain ⟨r, hr1, hr2⟩ := tree_of n xs (d + 0) (by omega) (by omega) h
        have hok : (Tr.one s r).ok = true := by
          simp only [Tr.ok, hs, hr1, Bool.true_and, Bool.and_true, Bool.or_eq_true, decide_eq_true_eq]
          omega
        refine ⟨.one s r, hok, ?_⟩
        rcases hr2 with ⟨e1, e2⟩ | ⟨rest', e1, e2, e3⟩
        · exact .inl ⟨by omega, by rw [e2]; rfl⟩
        · exact .inr ⟨rest', by rw [e1]; rfl, by omega, by rw [show d + 0 - 1 = d - 1 by omega] at e3; exact e3⟩
theorem block_tree {xs : List Stmt} (h : blockOk xs = true) : ∃ t : Tr, t.ok = true ∧ xs = t.flat ∧ xs.length ≤ 24 := by
  simp only [blockOk, Bool.and_eq_true, decide_eq_true_eq] at h
  obtain ⟨t, h1, h2⟩ := tree_of xs.length xs 0 (Nat.le_refl _) (by omega) h.1
  rcases h2 with ⟨_, e⟩ | ⟨_, _, e, _⟩
  · exact ⟨t, h1, e, by omega⟩
  · omega
end Go.Av

namespace Go.Av
open Go.Proofs Go.RowKit
set_option linter.unusedVariables false
set_option linter.unusedSimpArgs false
set_option maxRecDepth 100000
set_option maxHeartbeats 4000000
theorem lt_lists_eq : ∀ {l m : List Int}, l.Pairwise (· < ·) → m.Pairwise (· < ·) → (∀ x, x ∈ l ↔ x ∈ m) → l = m
  | [], [], _, _, _ => rfl
  | [], y :: m, _, _, h => by have := (h y).2 (by simp); simp at this
  | x :: l, [], _, _, h => by have := (h x).1 (by simp); simp at this
  | x :: l, y :: m, hl, hm, h => by
    have hl' := List.pairwise_cons.1 hl
    have hm' := List.pairwise_cons.1 hm
    have e : x = y := by
      have h1 : x ∈ y :: m := (h x).1 (by simp)
      have h2 : y ∈ x :: l := (h y).2 (by simp)
      rcases List.mem_cons.1 h1 with e | h1
      · exact e
      · rcases List.mem_cons.1 h2 with e | h2
        · exact e.symm
        · have := hm'.1 x h1
          have := hl'.1 y h2
          omega
    subst e
    rw [lt_lists_eq hl'.2 hm'.2 fun z => ?_]
    constructor
    · intro hz
      rcases List.mem_cons.1 ((h z).1 (by simp [hz])) with e | h3
      · subst e; have := hl'.1 z hz; omega
      · exact h3
    · intro hz
      rcases List.mem_cons.1 ((h z).2 (by simp [hz])) with e | h3
      · subst e; have := hm'.1 z hz; omega
      · exact h3
theorem dd_lt : ∀ (zs acc : List Int), zs.Pairwise (· ≤ ·) → acc.Pairwise (· < ·) → (∀ a ∈ acc, ∀ z ∈ zs, a ≤ z) → (∀ a ∈ acc, ∀ g, acc.getLast? = some g → a ≤ g) → (zs.foldl ddStep acc).Pairwise (· < ·)
  | [], acc, _, ha, _, _ => ha
  | z :: zs, acc, hz, ha, hle, hlast => by
    have hz' := List.pairwise_cons.1 hz
    rw [List.foldl_cons]
    have hnew : (ddStep acc z).Pairwise (· < ·) := by
      unfold ddStep
      split
      · exact ha
      · rename_i hne
        rw [List.pairwise_append]
        refine ⟨ha, by simp, fun a h1 b h2 => ?_⟩
        simp at h2; subst h2
        have h3 := hle a h1 b (by simp)
        rcases Int.lt_or_eq_of_le h3 with h4 | h4
        · exact h4
        · exfalso
          apply hne
          cases hg : acc.getLast? with
          | none => rw [List.getLast?_eq_none_iff] at hg; subst hg; simp at h1
          | some g =>
            have h5 := hlast a h1 g hg
            have h6 := hle g (List.mem_of_getLast? hg) b (by simp)
            have : g = b := by omega
            rw [this]
    refine dd_lt zs _ hz'.2 hnew (fun a ha' y hy => ?_) (fun a ha' g hg => ?_)
    · rcases mem_ddStep.1 ha' with h1 | h1
      · exact hle a h1 y (by simp [hy])
      · subst h1; exact hz'.1 y hy
    · rw [ddStep_last] at hg
      cases hg
      rcases mem_ddStep.1 ha' with h1 | h1
      · exact hle a h1 z (by simp)
      · omega
def canon (P : Nat → Bool) : List Int := ((List.range 8).filter P).map Int.ofNat
theorem mem_canon {P : Nat → Bool} {x : Int} : x ∈ canon P ↔ (0 ≤ x ∧ x < 8) ∧ P x.toNat = true := by
  unfold canon
  simp only [List.mem_map, List.mem_filter, List.mem_range]
  constructor
  · rintro ⟨n, ⟨h1, h2⟩, rfl⟩
    exact ⟨⟨by simp, by simp; omega⟩, by simpa using h2⟩
  · rintro ⟨⟨h1, h2⟩, h3⟩
    exact ⟨x.toNat, ⟨by omega, h3⟩, by simp; omega⟩
theorem canon_lt (P : Nat → Bool) : (canon P).Pairwise (· < ·) := by
  unfold canon
  rw [List.pairwise_map]
  exact (List.pairwise_lt_range.filter _).imp fun h => by simpa using h
theorem canon_len (P : Nat → Bool) : (canon P).length ≤ 8 := by
  unfold canon
  rw [List.length_map]
  have := List.length_filter_le P (List.range 8)
  simpa using this
theorem canon_eq {zs : List Int} (hb : ∀ z ∈ zs, 0 ≤ z ∧ z < 8) : ddup (srt zs) = canon fun k => decide ((k : Int) ∈ zs) := by
  refine lt_lists_eq ?_ (canon_lt _) fun x => ?_
  · have hs : (srt zs).Pairwise (· ≤ ·) := by
      have := List.pairwise_mergeSort (le := fun (x y : Int) => decide (x ≤ y)) (fun a b c h1 h2 => by simp at *; omega) (fun a b => by simp; omega) zs
      exact this.imp fun h => by simpa using h
    exact dd_lt _ [] hs .nil (by simp) (by simp)
  · rw [mem_ddup, mem_srt, mem_canon]
    constructor
    · intro h
      have := hb x h
      exact ⟨this, by rw [decide_eq_true_eq]; rwa [show ((x.toNat : Nat) : Int) = x by omega]⟩
    · rintro ⟨h1, h2⟩
      rw [decide_eq_true_eq, show ((x.toNat : Nat) : Int) = x by omega] at h2
      exact h2
theorem canon_congr {P Q : Nat → Bool} (h : ∀ k, k < 8 → P k = Q k) : canon P = canon Q := by
  unfold canon
  rw [List.filter_congr fun k hk => h k (by simpa using hk)]
def encBo (b : Bool) : List V := [.bool b]
def bitB (W : List Bool) (k : Nat) : Bool := (W[k]?).getD false
theorem bitB_set {W : List Bool} {i k : Nat} (hi : i < W.length) : bitB (W.set i true) k = (decide (i = k) || bitB W k) := by
  unfold bitB
  by_cases e : i = k
  · subst e; simp [hi]
  · simp [e]
theorem bitB_some {W : List Bool} {k : Nat} (h : k < W.length) : W[k]? = some (bitB W k) := by simp [bitB, h]
def zero8 : List Bool := [false, false, false, false, false, false, false, false]
theorem store_bo {h : Heap} {id n i : Nat} {W : List Bool} (hb : h[id]? = some (W.map encBo)) (hn : W.length = n) (hi : i < n) : storeH h 1 (.ptr id n i 0) (.bool true) = some (h.set id ((W.set i true).map encBo)) := by
  rw [storeH_row (b := W.map encBo) hb (by simpa using hn) hi (fun e he => by obtain ⟨x, _, rfl⟩ := List.mem_map.1 he; rfl) rfl, List.map_set]; rfl
def listB (W : List Bool) : List Int := canon (bitB W)
def accB (W : List Bool) (k : Nat) : List Int := ((List.range k).filter (bitB W)).map Int.ofNat
theorem accB_succ (W : List Bool) (k : Nat) : accB W (k + 1) = accB W k ++ (if bitB W k = true then [(k : Int)] else []) := by
  unfold accB
  rw [List.range_succ, List.filter_append, List.map_append]
  congr 1
  simp only [List.filter_cons, List.filter_nil]
  split <;> rfl
theorem accB_len (W : List Bool) : ∀ k, (accB W k).length ≤ k
  | 0 => by simp [accB]
  | k + 1 => by
    have := accB_len W k
    rw [accB_succ, List.length_append]
    split <;> simp <;> omega
end Go.Av

namespace Go.Av
open Go.Proofs Go.RowKit
set_option linter.unusedVariables false
set_option linter.unusedSimpArgs false
set_option maxRecDepth 100000
set_option maxHeartbeats 4000000
def endO : Int → Int → List Stmt → Int
  | _, _, [] => -1
  | c, p, x :: s => if c + dlt x = 0 then p else endO (c + dlt x) (p + 1) s
theorem endO_cons (c p : Int) (x : Stmt) (s : List Stmt) : endO c p (x :: s) = if c + dlt x = 0 then p else endO (c + dlt x) (p + 1) s := rfl
theorem endO_tree : ∀ (t : Tr) (c p : Int) (v : List Stmt), t.ok = true → 1 ≤ c → endO c p (t.flat ++ v) = endO c (p + t.flat.length) v
  | .nil, c, p, v, h, hc => by simp [Tr.flat]
  | .one s r, c, p, v, h, hc => by
    obtain ⟨hs, hk, hr⟩ := Tr.one_ok h
    have hd : dlt s = 0 := by rw [dlt_def, if_neg (by omega), if_neg (by omega)]; rfl
    simp only [Tr.flat, List.cons_append, List.length_cons]
    rw [endO_cons, if_neg (by omega), hd, endO_tree r (c + 0) (p + 1) v hr (by omega)]
    congr 1 <;> push_cast <;> omega
  | .grp s a r, c, p, v, h, hc => by
    obtain ⟨hs, hk, ha, hr⟩ := Tr.grp_ok h
    have hd : dlt s = 1 := by rw [dlt_def, if_pos hk, if_neg (by omega)]; rfl
    have he : dlt endS = -1 := by rw [dlt_def]; rfl
    simp only [Tr.flat, List.cons_append, List.length_cons, List.append_assoc, List.length_append]
    rw [endO_cons, if_neg (by omega), hd, endO_tree a (c + 1) (p + 1) _ ha (by omega)]
    rw [endO_cons, if_neg (by rw [he]; omega), he, endO_tree r _ _ v hr (by omega)]
    congr 1 <;> push_cast <;> omega
theorem endO_grp {s : Stmt} {a : Tr} (p : Int) (v : List Stmt) (hk : s.kind = 4 ∨ s.kind = 5) (ha : a.ok = true) : endO 0 p (s :: (a.flat ++ endS :: v)) = p + 1 + a.flat.length := by
  have hd : dlt s = 1 := by rw [dlt_def, if_pos hk, if_neg (by omega)]; rfl
  have he : dlt endS = -1 := by rw [dlt_def]; rfl
  rw [endO_cons, if_neg (by omega), hd, endO_tree a (0 + 1) (p + 1) _ ha (by omega)]
  rw [endO_cons, if_pos (by rw [he]; rfl)]
theorem endO_c (xs : List Stmt) (j : Nat) (hj : j ≤ xs.length) (hx : xs.length ≤ 9223372036854775807) : CP Tryz.prog 68 [.lst 6 (xs.map encStmt), .int .i64 j] (.int .i64 (endO 0 j (xs.drop j))) [] := by
  refine CP.by rfl mixed (cfn_ok Tryz.func68 ok68) rfl ?_
  simp (disch := omega) only [s68, go_sem]
  refine loopP_intro (fun m s => ∃ (k : Nat) (c : Int), k ≤ xs.length ∧ m = xs.length - k ∧ -(k : Int) ≤ c ∧ c ≤ k ∧ s.e 0 = .lst 6 (xs.map encStmt) ∧ s.e 6 = .int .i64 k ∧ s.e 5 = .int .i64 c ∧ endO 0 j (xs.drop j) = endO c k (xs.drop k)) (xs.length - j) ⟨j, 0, by omega, by omega, by omega, by omega, rfl, by simp (disch := omega) only [go_sem], by simp (disch := omega) only [go_sem], rfl⟩ ?_
  rintro m e h ⟨k, c, hk, rfl, hc1, hc2, e0, e6, e5, hb⟩
  simp only at e0 e6 e5
  simp (disch := omega) only [go_sem, e0, e6, e5, encStmt]
  refine condP_dec (fun hlt => ?_) (fun hlt => ?_)
  · have hlt' : k < xs.length := by omega
    obtain ⟨hd4, hd5, hd6, hd0⟩ := delta_facts xs[k].kind
    have hO : isOpening xs[k].kind = decide (xs[k].kind = 4 ∨ xs[k].kind = 5) := by simp [isOpening]
    have hs : endO c k (xs.drop k) = if c + delta xs[k].kind = 0 then (k : Int) else endO (c + delta xs[k].kind) (k + 1) (xs.drop (k + 1)) := by
      rw [List.drop_eq_getElem_cons hlt']; rfl
    simp (disch := omega) only [go_sem, e0, e6, e5, encStmt]
    refine CP.go (isOpening_c xs[k].kind) rfl rfl ?_
    simp only [hO]
    simp (disch := omega) only [go_sem, e0, e6, e5, encStmt]
    repeat' (first | (refine condP_t (by assumption) ?_ <;> (try simp (disch := omega) only [go_sem, e0, e6, e5, encStmt])) | (refine condP_f (by assumption) ?_ <;> (try simp (disch := omega) only [go_sem, e0, e6, e5, encStmt])) | (refine condP_dec (fun h => ?_) (fun h => ?_) <;> (try simp (disch := omega) only [go_sem, e0, e6, e5, encStmt])) | (refine condP_split (fun h => ?_) (fun h => ?_) <;> (try simp (disch := omega) only [go_sem, e0, e6, e5, encStmt])))
    all_goals first
      | (refine nextP_intro (xs.length - (k + 1)) (by omega) ⟨k + 1, c + delta xs[k].kind, by omega, rfl, by omega, by omega, ?_, ?_, ?_, ?_⟩
         · simp (disch := omega) only [go_sem, e0, e6, e5, encStmt]
         · simp (disch := omega) only [go_sem, e0, e6, e5, encStmt]; rfl
         · simp (disch := omega) only [go_sem, e0, e6, e5, encStmt]; congr 1; omega
         · rw [hb, hs, if_neg (by omega)]; rfl)
      | (rw [hb, hs, if_pos (by omega)])
  · simp (disch := omega) only [go_sem, e0, e6, e5, encStmt]
    have hk' : k = xs.length := by omega
    subst hk'
    rw [hb, List.drop_length]
    rfl
def wr (xs : List Stmt) (q : Nat → Bool) : Nat → List Int
  | 0 => []
  | k + 1 => wr xs q k ++ (match xs[k]? with | some s => if (hasVar s.kind && q k) = true then [s.var] else [] | none => [])
theorem wr_len (xs : List Stmt) (q : Nat → Bool) : ∀ k, (wr xs q k).length ≤ k
  | 0 => Nat.le_refl _
  | k + 1 => by
    have := wr_len xs q k
    unfold wr
    rw [List.length_append]
    cases xs[k]? with
    | none => simp; omega
    | some s => simp only; split <;> simp <;> omega
theorem wr_succ {xs : List Stmt} (q : Nat → Bool) {k : Nat} (h : k < xs.length) : wr xs q (k + 1) = wr xs q k ++ (if (hasVar xs[k].kind && q k) = true then [xs[k].var] else []) := by
  rw [wr, List.getElem?_eq_getElem h]
theorem mem_wr {xs : List Stmt} {q : Nat → Bool} {x : Int} : ∀ {k : Nat}, k ≤ xs.length → (x ∈ wr xs q k ↔ ∃ i, ∃ h : i < xs.length, i < k ∧ hasVar xs[i].kind = true ∧ q i = true ∧ xs[i].var = x)
  | 0, _ => by simp [wr]
  | k + 1, h => by
    rw [wr_succ q (by omega), List.mem_append, mem_wr (by omega)]
    constructor
    · rintro (⟨i, hi, h1, h2⟩ | h1)
      · exact ⟨i, hi, by omega, h2⟩
      · split at h1
        · rename_i hc
          simp at h1 hc
          exact ⟨k, by omega, by omega, hc.1, hc.2, h1.symm⟩
        · simp at h1
    · rintro ⟨i, hi, h1, h2, h3, h4⟩
      rcases Nat.lt_or_ge i k with h5 | h5
      · exact .inl ⟨i, hi, h5, h2, h3, h4⟩
      · have : i = k := by omega
        subst this
        right
        rw [if_pos (by simp [h2, h3])]; simp [h4]
theorem written_c {h : Heap} {L : List It} (xs : List Stmt) (g : Nat) (caps : List V) (q : Nat → Bool) (S : Sep h L) (hx : xs.length ≤ 1048576)
    (hg : ∀ i, i < xs.length → ∀ h', Ext h h' → Sep h' L → C Tryz.prog g (.int .i64 i :: caps) h' (fun r h'' => r = .bool (q i) ∧ h'' = h')) :
    C Tryz.prog 71 [.lst 6 (xs.map encStmt), .fn g caps] h (fun r h' => Ext h h' ∧ Sep h' (.p (ddup (srt (wr xs q xs.length))) r :: L)) := by
  refine C.by mixed (cfn_ok Tryz.func71 ok71) rfl ?_
  simp (disch := omega) only [s71, go_sem]
  refine loopP_intro (fun m s => ∃ (k l : Nat), k ≤ xs.length ∧ m = xs.length - k ∧ s.e 1 = .fn g caps ∧ s.e 9 = .lst 6 (xs.map encStmt) ∧ s.e 10 = .int .i64 xs.length ∧ s.e 11 = .int .i64 k ∧ s.e 5 = .own l 1 0 (wr xs q k).length (wr xs q k).length ∧ Ext h s.h ∧ Sep s.h (.k l ((wr xs q k).map encI) :: L) ∧ h.length ≤ l) xs.length ⟨0, h.length, by omega, by omega, by simp (disch := omega) only [go_sem], by simp (disch := omega) only [go_sem], by simp (disch := omega) only [go_sem], by simp (disch := omega) only [go_sem]; rfl, by simp (disch := omega) only [go_sem]; rfl, Ext.app _ _, S.newK _, by omega⟩ ?_
  rintro m e hp ⟨k, l, hk, rfl, e1, e9, e10, e11, e5, X, S, hlh⟩
  simp only at e1 e9 e10 e11 e5 X S
  simp (disch := omega) only [go_sem, e1, e9, e10, e11, e5]
  refine condP_dec (fun hlt => ?_) (fun hlt => ?_)
  · have hlt' : k < xs.length := by omega
    have hnx := wr_succ q hlt'
    have S1 := S.app [[encStmt xs[k]]]
    have X1 := X.appT [[encStmt xs[k]]]
    have hz := storeBox (h := hp) (z := [V.int .i64 0, .int .i64 0, .int .i64 0, .int .i64 0, .int .i64 0, .int .i64 0]) (x := .agg (encStmt xs[k])) (sz := 6) rfl rfl
    simp only [cells_agg, encStmt] at hz
    simp (disch := omega) only [go_sem, e1, e9, e10, e11, e5, hz, encStmt]
    refine CP.go (hasVar_c xs[k].kind) rfl rfl ?_
    have stay : ∀ (e' : Nat → V), wr xs q (k + 1) = wr xs q k → e' 1 = .fn g caps → e' 9 = .lst 6 (xs.map encStmt) → e' 10 = .int .i64 xs.length → e' 11 = .int .i64 ((k : Int) + 1) → e' 5 = .own l 1 0 (wr xs q k).length (wr xs q k).length → @nextP (xs.length - k) ⟨e', hp ++ [[encStmt xs[k]]]⟩ ⟨fun m s => ∃ (k l : Nat), k ≤ xs.length ∧ m = xs.length - k ∧ s.e 1 = .fn g caps ∧ s.e 9 = .lst 6 (xs.map encStmt) ∧ s.e 10 = .int .i64 xs.length ∧ s.e 11 = .int .i64 k ∧ s.e 5 = .own l 1 0 (wr xs q k).length (wr xs q k).length ∧ Ext h s.h ∧ Sep s.h (.k l ((wr xs q k).map encI) :: L) ∧ h.length ≤ l⟩ := fun e' a0 a1 a2 a3 a4 a5 =>
      nextP_intro (xs.length - (k + 1)) (by omega) ⟨k + 1, l, by omega, rfl, a1, a2, a3, a4, by rw [a0]; exact a5, X1, by rw [a0]; exact S1, hlh⟩
    simp (disch := omega) only [go_sem, e1, e9, e10, e11, e5]
    refine condP_split (fun hv => ?_) (fun hv => ?_)
    · simp (disch := omega) only [go_sem, e1, e9, e10, e11, e5, hv]
      refine C.go (hg k hlt' _ X1 S1.drop1) ?_
      rintro r h' ⟨rfl, rfl⟩
      simp (disch := omega) only [go_sem, e1, e9, e10, e11, e5, hv]
      refine condP_split (fun hq => ?_) (fun hq => ?_)
      · rw [if_pos (by simp [hv, hq])] at hnx
        have hcl := wr_len xs q k
        have ha := append1 (sz := 1) (bytes := 8) (c := encI xs[k].var) (S1.blk 0 rfl) (n := (wr xs q k).length) (by simp) (by omega)
        simp only [encI, encStmt, List.append_assoc, List.cons_append, List.nil_append, List.length_append, List.length_cons, List.length_nil, Nat.zero_add] at ha
        simp (disch := omega) only [go_sem, e1, e9, e10, e11, e5, hv, hq, ha, encI]
        have hl1 : (wr xs q (k + 1)).length = (wr xs q k).length + 1 := by rw [hnx]; simp
        refine nextP_intro (xs.length - (k + 1)) (by omega) ⟨k + 1, l, by omega, rfl, by simp (disch := omega) only [go_sem, e1, e9, e10, e11, e5, hv, hq, ha, encI], by simp (disch := omega) only [go_sem, e1, e9, e10, e11, e5, hv, hq, ha, encI], by simp (disch := omega) only [go_sem, e1, e9, e10, e11, e5, hv, hq, ha, encI], by simp (disch := omega) only [go_sem, e1, e9, e10, e11, e5, hv, hq, ha, encI]; rfl, ?_, ?_, ?_, hlh⟩
        · rw [hl1]; simp (disch := omega) only [go_sem, e1, e9, e10, e11, e5, hv, hq, ha, encI]
        · exact (X.appT _).setNew _ hlh
        · have := (S1.app [[encI xs[k].var]]).setK ((wr xs q k).map encI ++ [encI xs[k].var])
          simp only [List.append_assoc, List.cons_append, List.nil_append] at this
          rw [hnx, List.map_append]
          exact this
      · rw [if_neg (by simp [hq]), List.append_nil] at hnx
        simp (disch := omega) only [go_sem, e1, e9, e10, e11, e5, hv, hq]
        exact stay _ hnx (by simp (disch := omega) only [go_sem, e1, e9, e10, e11, e5, hv, hq]) (by simp (disch := omega) only [go_sem, e1, e9, e10, e11, e5, hv, hq]) (by simp (disch := omega) only [go_sem, e1, e9, e10, e11, e5, hv, hq]) (by simp (disch := omega) only [go_sem, e1, e9, e10, e11, e5, hv, hq]) (by simp (disch := omega) only [go_sem, e1, e9, e10, e11, e5, hv, hq])
    · rw [if_neg (by simp [hv]), List.append_nil] at hnx
      simp (disch := omega) only [go_sem, e1, e9, e10, e11, e5, hv]
      exact stay _ hnx (by simp (disch := omega) only [go_sem, e1, e9, e10, e11, e5, hv]) (by simp (disch := omega) only [go_sem, e1, e9, e10, e11, e5, hv]) (by simp (disch := omega) only [go_sem, e1, e9, e10, e11, e5, hv]) (by simp (disch := omega) only [go_sem, e1, e9, e10, e11, e5, hv]) (by simp (disch := omega) only [go_sem, e1, e9, e10, e11, e5, hv])
  · have : k = xs.length := by omega
    subst this
    have hcl := wr_len xs q xs.length
    simp (disch := omega) only [go_sem, e1, e9, e10, e11, e5]
    refine C.go (sort_c (S.blk 0 rfl) rfl (by omega)) ?_
    rintro r h' ⟨rfl, rfl⟩
    have S1 := S.setK ((srt (wr xs q xs.length)).map encI)
    simp (disch := omega) only [go_sem, e1, e9, e10, e11, e5]
    refine C.go (compact_c (zs := srt (wr xs q xs.length)) (S1.blk 0 rfl) (srt_len _) (by omega)) ?_
    rintro r h' ⟨rfl, rfl⟩
    have S2 := S1.setK ((ddup (srt (wr xs q xs.length))).map encI ++ List.replicate ((wr xs q xs.length).length - (ddup (srt (wr xs q xs.length))).length) (encI 0))
    simp (disch := omega) only [go_sem, e1, e9, e10, e11, e5]
    have hdl := ddup_le (srt (wr xs q xs.length))
    rw [srt_len] at hdl
    refine ⟨(X.setNew _ hlh).setNew _ hlh, S2.toP (n := (wr xs q xs.length).length) (by simp; omega) hdl (List.take_left' (by simp)) ?_⟩
    simp [rows1, encI, V.scalar]
end Go.Av

namespace Go.Av
open Go.Proofs Go.RowKit
set_option linter.unusedVariables false
set_option linter.unusedSimpArgs false
set_option maxRecDepth 100000
set_option maxHeartbeats 4000000
theorem stmt_var {s : Stmt} (h : stmtOk s = true) (hv : hasVar s.kind = true) : 0 ≤ s.var ∧ s.var < 8 := by
  unfold stmtOk at h
  split at h
  · cases h
  · rename_i hc
    simp only [Bool.or_eq_true, not_or, hv, Bool.true_and, Bool.not_true, Bool.false_and] at hc
    have := hc.1.2
    simp [isVar, within] at this
    omega
theorem block_all {xs : List Stmt} (h : blockOk xs = true) : ∀ s ∈ xs, stmtOk s = true := by
  have key : ∀ (l : List Stmt) (d : Int), blockFrom d l = true → ∀ s ∈ l, stmtOk s = true := fun l => by
    induction l with
    | nil => intro d _ s hs; simp at hs
    | cons x l ih =>
      intro d h s hs
      unfold blockFrom at h
      split at h
      · rename_i hc
        rcases List.mem_cons.1 hs with rfl | hs
        · exact hc.1
        · exact ih _ h s hs
      · cases h
  simp only [blockOk, Bool.and_eq_true] at h
  exact key xs 0 h.1
theorem block_len {xs : List Stmt} (h : blockOk xs = true) : xs.length ≤ 24 := by
  simp only [blockOk, Bool.and_eq_true, decide_eq_true_eq] at h
  omega
def vars (xs : List Stmt) : List Int := (xs.filter fun s => hasVar s.kind).map (·.var)
theorem vars_bd {xs : List Stmt} (h : ∀ s ∈ xs, stmtOk s = true) : ∀ v ∈ vars xs, 0 ≤ v ∧ v < 8 := fun v hv => by
  obtain ⟨s, hs, rfl⟩ := List.mem_map.1 hv
  rw [List.mem_filter] at hs
  exact stmt_var (h s hs.1) hs.2
def mayL (xs : List Stmt) : List Int := canon fun k => decide ((k : Int) ∈ vars xs)
theorem true_c (h : Heap) (i : Int) : C Tryz.prog 74 [.int .i64 i] h (fun r h' => r = .bool true ∧ h' = h) := by
  refine C.by mixed (cfn_ok Tryz.func74 ok74) rfl ?_
  simp (disch := omega) only [s74, go_sem]
theorem mem_wr_true {xs : List Stmt} {x : Int} : x ∈ wr xs (fun _ => true) xs.length ↔ x ∈ vars xs := by
  rw [mem_wr (Nat.le_refl _)]
  unfold vars
  simp only [List.mem_map, List.mem_filter]
  constructor
  · rintro ⟨i, hi, _, h1, _, rfl⟩
    exact ⟨xs[i], ⟨List.getElem_mem hi, h1⟩, rfl⟩
  · rintro ⟨s, ⟨h1, h2⟩, rfl⟩
    obtain ⟨i, hi, rfl⟩ := List.getElem_of_mem h1
    exact ⟨i, hi, hi, h2, trivial, rfl⟩
theorem canon_mem {zs vs : List Int} (hb : ∀ v ∈ vs, 0 ≤ v ∧ v < 8) (h : ∀ x, x ∈ zs ↔ x ∈ vs) : ddup (srt zs) = canon fun k => decide ((k : Int) ∈ vs) := by
  rw [canon_eq fun z hz => hb z ((h z).1 hz)]
  exact canon_congr fun k _ => by rw [decide_eq_decide]; exact h _
theorem may_c (xs : List Stmt) (hb : blockOk xs = true) : Pt Tryz.prog 44 [.lst 6 (xs.map encStmt)] (mayL xs) := by
  have hl := block_len hb
  refine C.by mixed (cfn_ok Tryz.func44 ok44) rfl ?_
  simp (disch := omega) only [s44, go_sem]
  refine CP.go (blockOk_c xs (by omega)) rfl (refs_arg _ _) ?_
  simp (disch := omega) only [go_sem, hb]
  refine C.go (written_c xs 74 [] (fun _ => true) (Sep.nil _) (by omega) (fun i _ h' _ _ => true_c h' i)) ?_
  rintro r h' ⟨X, S⟩
  have z := (S.pvv 0 rfl).1
  simp (disch := omega) only [go_sem, hb, z.2.1]
  have e : mayL xs = ddup (srt (wr xs (fun _ => true) xs.length)) := (canon_mem (vars_bd (block_all hb)) fun x => mem_wr_true).symm
  rw [e]
  exact S.pret
def mvT : Tr → List Int
  | .nil => []
  | .one s r => (if hasVar s.kind = true then [s.var] else []) ++ mvT r
  | .grp s a r => (if s.kind = 4 then [] else mvT a) ++ mvT r
def mustT (t : Tr) : List Int := canon fun k => decide ((k : Int) ∈ mvT t)
theorem mvT_bd : ∀ {t : Tr}, t.ok = true → ∀ v ∈ mvT t, 0 ≤ v ∧ v < 8
  | .nil, _, v, hv => by simp [mvT] at hv
  | .one s r, h, v, hv => by
    obtain ⟨hs, hk, hr⟩ := Tr.one_ok h
    rcases List.mem_append.1 hv with h1 | h1
    · split at h1
      · simp at h1; subst h1; exact stmt_var hs (by assumption)
      · simp at h1
    · exact mvT_bd hr v h1
  | .grp s a r, h, v, hv => by
    obtain ⟨hs, hk, ha, hr⟩ := Tr.grp_ok h
    rcases List.mem_append.1 hv with h1 | h1
    · split at h1
      · simp at h1
      · exact mvT_bd ha v h1
    · exact mvT_bd hr v h1
def tailE : List Tr → List Stmt
  | [] => []
  | t :: ts => endS :: (t.flat ++ tailE ts)
def allOk (ts : List Tr) : Prop := ∀ t ∈ ts, t.ok = true
theorem drop_head {xs : List Stmt} {k : Nat} {s : Stmt} {v : List Stmt} (h : xs.drop k = s :: v) : ∃ hk : k < xs.length, xs[k] = s ∧ xs.drop (k + 1) = v := by
  have hk : k < xs.length := by
    rcases Nat.lt_or_ge k xs.length with h1 | h1
    · exact h1
    · rw [List.drop_eq_nil_of_le h1] at h; cases h
  rw [List.drop_eq_getElem_cons hk] at h
  cases h
  exact ⟨hk, rfl, rfl⟩
theorem drop_skip {xs : List Stmt} {k : Nat} {a v : List Stmt} (h : xs.drop k = a ++ v) : xs.drop (k + a.length) = v := by
  rw [← List.drop_drop, h, List.drop_left]
def gT (g : Bool) : Tr → List Bool
  | .nil => []
  | .one _ r => g :: gT g r
  | .grp s a r => (g || decide (s.kind = 4)) :: (gT (g || decide (s.kind = 4)) a ++ (g || decide (s.kind = 4)) :: gT g r)
theorem gT_len : ∀ (g : Bool) (t : Tr), (gT g t).length = t.flat.length
  | g, .nil => rfl
  | g, .one s r => by simp [gT, Tr.flat, gT_len g r]
  | g, .grp s a r => by simp [gT, Tr.flat, gT_len _ a, gT_len g r]
theorem gT_must : ∀ (t : Tr) (g : Bool) (x : Int), t.ok = true → ((∃ p ∈ t.flat.zip (gT g t), p.2 = false ∧ hasVar p.1.kind = true ∧ p.1.var = x) ↔ g = false ∧ x ∈ mvT t)
  | .nil, g, x, _ => by simp [Tr.flat, gT, mvT]
  | .one s r, g, x, h => by
    obtain ⟨hs, hk, hr⟩ := Tr.one_ok h
    have ih := gT_must r g x hr
    simp only [Tr.flat, gT, List.zip_cons_cons, List.mem_cons, exists_eq_or_imp, mvT, List.mem_append]
    rw [ih]
    cases g
    · by_cases hv : hasVar s.kind = true
      · rw [if_pos hv]; simp [hv, eq_comm]
      · rw [if_neg hv]; simp [hv]
    · simp
  | .grp s a r, g, x, h => by
    obtain ⟨hs, hk, ha, hr⟩ := Tr.grp_ok h
    have ih1 := gT_must a (g || decide (s.kind = 4)) x ha
    have ih2 := gT_must r g x hr
    have hv0 : hasVar s.kind = false := by rcases hk with h1 | h1 <;> simp [hasVar, h1]
    have he0 : hasVar endS.kind = false := rfl
    simp only [Tr.flat, gT, List.zip_cons_cons, List.mem_cons, exists_eq_or_imp, mvT, List.mem_append]
    rw [List.zip_append (by rw [gT_len])]
    simp only [List.zip_cons_cons, List.mem_append, List.mem_cons, or_and_right, exists_or, exists_eq_left]
    rw [ih1, ih2]
    simp only [hv0, he0, Bool.false_eq_true, false_and, and_false, false_or]
    cases g
    · by_cases h4 : s.kind = 4
      · simp [h4]
      · simp [h4]
    · simp
def tailF : Bool → List (Tr × Bool) → List Bool
  | _, [] => []
  | g, (r, gr) :: ts => g :: (List.replicate r.flat.length gr ++ tailF gr ts)
def tailG : Bool → List (Tr × Bool) → List Bool
  | _, [] => []
  | g, (r, gr) :: ts => g :: (gT gr r ++ tailG gr ts)
theorem tailF_len : ∀ (g : Bool) (ts : List (Tr × Bool)), (tailF g ts).length = (tailE (ts.map (·.1))).length
  | g, [] => rfl
  | g, (r, gr) :: ts => by simp [tailF, tailE, tailF_len gr ts]
theorem set_mid {done rest : List Bool} {j k : Nat} (hd : done.length = k) (hj : k ≤ j) (hr : j - k < rest.length) : (done ++ (List.replicate (j - k) true ++ rest.drop (j - k))).set j true = done ++ (List.replicate (j + 1 - k) true ++ rest.drop (j + 1 - k)) := by
  rw [List.set_append_right _ _ (by omega), List.set_append_right _ _ (by simp; omega), hd, List.length_replicate, show j - k - (j - k) = 0 by omega, List.drop_eq_getElem_cons hr, List.set_cons_zero]
  rw [show j + 1 - k = (j - k) + 1 by omega, List.replicate_succ', List.append_assoc]; rfl
theorem guard_c (h : Heap) (F : List Bool) (n i : Nat) (hF : F.length = n) (hi : i < n) (h0 : h[0]? = some (F.map encBo)) (h1 : h[1]? = some [[.own 0 1 0 n n]]) : C Tryz.prog 72 [.int .i64 i, .ptr 1 1 0 0] h (fun r h' => r = .bool (!bitB F i) ∧ h' = h) := by
  have hb := bitB_some (W := F) (k := i) (by omega)
  refine C.by mixed (cfn_ok Tryz.func72 ok72) rfl ?_
  simp (disch := omega) only [s72, go_sem, h0, h1, hb, hF, List.getElem?_map, List.length_map, encBo]
theorem must_c (xs : List Stmt) (t : Tr) (ht : t.ok = true) (hf : xs = t.flat) (hb : blockOk xs = true) : Pt Tryz.prog 42 [.lst 6 (xs.map encStmt)] (mustT t) := by
  have hl := block_len hb
  have hall := block_all hb
  refine C.by mixed (cfn_ok Tryz.func42 ok42) rfl ?_
  simp (disch := omega) only [s42, go_sem]
  refine CP.go (blockOk_c xs (by omega)) rfl (refs_arg _ _) ?_
  simp (disch := omega) only [go_sem, hb, storeH, storeB, splice]
  refine loopP_intro (fun m s => ∃ (k : Nat) (r : Tr) (g : Bool) (ts : List (Tr × Bool)) (done : List Bool), k ≤ xs.length ∧ m = xs.length - k ∧ r.ok = true ∧ allOk (ts.map (·.1)) ∧ xs.drop k = r.flat ++ tailE (ts.map (·.1)) ∧ done.length = k ∧ done ++ (gT g r ++ tailG g ts) = gT false t ∧ s.e 0 = .lst 6 (xs.map encStmt) ∧ s.e 3 = .ptr 1 1 0 0 ∧ s.e 13 = .lst 6 (xs.map encStmt) ∧ s.e 14 = .int .i64 xs.length ∧ s.e 15 = .int .i64 k ∧
    Sep s.h [.k 0 ((done ++ (List.replicate r.flat.length g ++ tailF g ts)).map encBo), .k 1 [[.own 0 1 0 xs.length xs.length]]]) xs.length ⟨0, t, false, [], [], by omega, by omega, ht, fun _ h => by simp at h, by simp [tailE, hf], rfl, by simp [tailG], by simp (disch := omega) only [go_sem, hb, storeH, storeB, splice], by simp (disch := omega) only [go_sem, hb, storeH, storeB, splice], by simp (disch := omega) only [go_sem, hb, storeH, storeB, splice], by simp (disch := omega) only [go_sem, hb, storeH, storeB, splice], by simp (disch := omega) only [go_sem, hb, storeH, storeB, splice]; rfl, ⟨[0, 1], by simp, [0], [1], rfl, ⟨rfl, by rw [← hf]; simp [tailF, encBo]⟩, [1], [], rfl, ⟨rfl, rfl⟩, rfl⟩⟩ ?_
  rintro m e hp ⟨k, r, g, ts, done, hk, rfl, hr, hts, hdr, hdn, hfin, e0, e3, e13, e14, e15, S⟩
  simp only at e0 e3 e13 e14 e15 S
  simp (disch := omega) only [go_sem, e0, e3, e13, e14, e15]
  refine condP_dec (fun hlt => ?_) (fun hlt => ?_)
  · have hlt' : k < xs.length := by omega
    have hz := storeBox (h := hp) (z := [V.int .i64 0, .int .i64 0, .int .i64 0, .int .i64 0, .int .i64 0, .int .i64 0]) (x := .agg (encStmt xs[k])) (sz := 6) rfl rfl
    simp only [cells_agg, encStmt] at hz
    have S1 := S.app [[encStmt xs[k]]]
    simp only [encStmt] at S1
    simp (disch := omega) only [go_sem, e0, e3, e13, e14, e15, hz, encStmt]
    have nxt : ∀ (e' : Nat → V) (hh : Heap) (r' : Tr) (g' : Bool) (ts' : List (Tr × Bool)) (done' : List Bool), r'.ok = true → allOk (ts'.map (·.1)) → xs.drop (k + 1) = r'.flat ++ tailE (ts'.map (·.1)) → done'.length = k + 1 → done' ++ (gT g' r' ++ tailG g' ts') = gT false t → e' 0 = .lst 6 (xs.map encStmt) → e' 3 = .ptr 1 1 0 0 → e' 13 = .lst 6 (xs.map encStmt) → e' 14 = .int .i64 xs.length → e' 15 = .int .i64 ((k : Int) + 1) →
      Sep hh [.k 0 ((done' ++ (List.replicate r'.flat.length g' ++ tailF g' ts')).map encBo), .k 1 [[.own 0 1 0 xs.length xs.length]]] → @nextP (xs.length - k) ⟨e', hh⟩ ⟨fun m s => ∃ (k : Nat) (r : Tr) (g : Bool) (ts : List (Tr × Bool)) (done : List Bool), k ≤ xs.length ∧ m = xs.length - k ∧ r.ok = true ∧ allOk (ts.map (·.1)) ∧ xs.drop k = r.flat ++ tailE (ts.map (·.1)) ∧ done.length = k ∧ done ++ (gT g r ++ tailG g ts) = gT false t ∧ s.e 0 = .lst 6 (xs.map encStmt) ∧ s.e 3 = .ptr 1 1 0 0 ∧ s.e 13 = .lst 6 (xs.map encStmt) ∧ s.e 14 = .int .i64 xs.length ∧ s.e 15 = .int .i64 k ∧
    Sep s.h [.k 0 ((done ++ (List.replicate r.flat.length g ++ tailF g ts)).map encBo), .k 1 [[.own 0 1 0 xs.length xs.length]]]⟩ := fun e' hh r' g' ts' done' a1 a2 a3 a4 a5 a6 a7 a8 a9 b1 b2 =>
      nextP_intro (xs.length - (k + 1)) (by omega) ⟨k + 1, r', g', ts', done', by omega, rfl, a1, a2, a3, a4, a5, a6, a7, a8, a9, b1, b2⟩
    rcases r with _ | ⟨s, r⟩ | ⟨s, a, r⟩
    · match ts, hts, hdr, hfin, S1 with
      | [], _, hdr, _, _ =>
        have := congrArg List.length hdr
        simp [Tr.flat, tailE] at this
        omega
      | (t', g') :: ts', hts, hdr, hfin, S1 =>
        simp only [Tr.flat, List.map_cons, tailE, List.nil_append] at hdr
        refine Exists.elim (drop_head hdr) fun hk0 z => ?_
        have hks := z.1
        have hd1 := z.2
        have hk4 : ¬ xs[k].kind = 4 := by rw [hks]; decide
        simp (disch := omega) only [go_sem, e0, e3, e13, e14, e15, hk4]
        refine nxt _ _ t' g' ts' (done ++ [g]) (hts t' (by simp)) (fun x hx => hts x (by simp at hx ⊢; exact .inr hx)) hd1 (by simp [hdn]) ?_ (by simp (disch := omega) only [go_sem, e0, e3, e13, e14, e15, hk4]) (by simp (disch := omega) only [go_sem, e0, e3, e13, e14, e15, hk4]) (by simp (disch := omega) only [go_sem, e0, e3, e13, e14, e15, hk4]) (by simp (disch := omega) only [go_sem, e0, e3, e13, e14, e15, hk4]) (by simp (disch := omega) only [go_sem, e0, e3, e13, e14, e15, hk4]) ?_
        · rw [← hfin]; simp [gT, tailG]
        · simpa [Tr.flat, tailF] using S1
    · obtain ⟨hs, hkk, hr'⟩ := Tr.one_ok hr
      simp only [Tr.flat, List.cons_append] at hdr
      refine Exists.elim (drop_head hdr) fun hk0 z => ?_
      have hks := z.1
      have hd1 := z.2
      have hk4 : ¬ xs[k].kind = 4 := by rw [hks]; omega
      simp (disch := omega) only [go_sem, e0, e3, e13, e14, e15, hk4]
      refine nxt _ _ r g ts (done ++ [g]) hr' hts hd1 (by simp [hdn]) ?_ (by simp (disch := omega) only [go_sem, e0, e3, e13, e14, e15, hk4]) (by simp (disch := omega) only [go_sem, e0, e3, e13, e14, e15, hk4]) (by simp (disch := omega) only [go_sem, e0, e3, e13, e14, e15, hk4]) (by simp (disch := omega) only [go_sem, e0, e3, e13, e14, e15, hk4]) (by simp (disch := omega) only [go_sem, e0, e3, e13, e14, e15, hk4]) ?_
      · rw [← hfin]; simp [gT]
      · simpa [Tr.flat, List.replicate_succ] using S1
    · obtain ⟨hs, hkk, ha, hr'⟩ := Tr.grp_ok hr
      simp only [Tr.flat, List.cons_append, List.append_assoc] at hdr
      refine Exists.elim (drop_head hdr) fun hk0 z => ?_
      have hks := z.1
      have hd1 := z.2
      have hts' : allOk (((r, g) :: ts).map (·.1)) := fun x hx => by
        simp only [List.map_cons, List.mem_cons] at hx
        rcases hx with rfl | hx
        · exact hr'
        · exact hts x hx
      refine condP_dec (fun h4 => ?_) (fun h4 => ?_)
      · have hen : endO 0 k (xs.drop k) = (k : Int) + 1 + a.flat.length := by rw [hdr]; exact endO_grp k _ hkk ha
        have hlen : xs.length - k = a.flat.length + 2 + (r.flat.length + (tailE (ts.map (·.1))).length) := by
          have := congrArg List.length hdr
          simp only [List.length_drop, List.length_cons, List.length_append] at this
          omega
        have hrest : (List.replicate (Tr.grp s a r).flat.length g ++ tailF g ts).length = xs.length - k := by
          simp only [List.length_append, List.length_replicate, tailF_len, Tr.flat, List.length_cons]; omega
        simp (disch := omega) only [go_sem, e0, e3, e13, e14, e15]
        refine loopP_intro (fun m s' => ∃ (j : Nat), k ≤ j ∧ j ≤ k + 1 + a.flat.length + 1 ∧ m = k + 1 + a.flat.length + 1 - j ∧ s'.e 0 = .lst 6 (xs.map encStmt) ∧ s'.e 3 = .ptr 1 1 0 0 ∧ s'.e 4 = .int .i64 k ∧ s'.e 6 = .int .i64 j ∧ s'.e 13 = .lst 6 (xs.map encStmt) ∧ s'.e 14 = .int .i64 xs.length ∧ s'.e 15 = .int .i64 k ∧
          Sep s'.h [.k 0 ((done ++ (List.replicate (j - k) true ++ (List.replicate (Tr.grp s a r).flat.length g ++ tailF g ts).drop (j - k))).map encBo), .k 1 [[.own 0 1 0 xs.length xs.length]]]) (1 + a.flat.length + 1) ⟨k, by omega, by omega, by omega, by simp (disch := omega) only [go_sem, e0, e3, e13, e14, e15], by simp (disch := omega) only [go_sem, e0, e3, e13, e14, e15], by simp (disch := omega) only [go_sem, e0, e3, e13, e14, e15], by simp (disch := omega) only [go_sem, e0, e3, e13, e14, e15], by simp (disch := omega) only [go_sem, e0, e3, e13, e14, e15], by simp (disch := omega) only [go_sem, e0, e3, e13, e14, e15], by simp (disch := omega) only [go_sem, e0, e3, e13, e14, e15], by simpa using S1⟩ ?_
        rintro m e h2 ⟨j, hj1, hj2, rfl, e0, e3, e4, e6, e13, e14, e15, S2⟩
        simp only at e0 e3 e4 e6 e13 e14 e15 S2
        simp (disch := omega) only [go_sem, e0, e3, e4, e6, e13, e14, e15]
        refine CP.go (endO_c xs k (by omega) (by omega)) rfl (refs_args _ _ _) ?_
        simp (disch := omega) only [go_sem, e0, e3, e4, e6, e13, e14, e15, hen]
        refine condP_dec (fun hj => ?_) (fun hj => ?_)
        · have hbx := S2.blk 1 rfl
          have hml : (done ++ (List.replicate (j - k) true ++ (List.replicate (Tr.grp s a r).flat.length g ++ tailF g ts).drop (j - k))).length = xs.length := by
            simp only [List.length_append, List.length_replicate, List.length_drop] at hrest ⊢
            omega
          have st := store_bo (S2.blk 0 rfl) hml (show j < xs.length by omega)
          rw [set_mid hdn hj1 (by omega)] at st
          have S3 := S2.setK ((done ++ (List.replicate (j + 1 - k) true ++ (List.replicate (Tr.grp s a r).flat.length g ++ tailF g ts).drop (j + 1 - k))).map encBo)
          simp (disch := omega) only [go_sem, e0, e3, e4, e6, e13, e14, e15, hbx, st]
          exact nextP_intro (k + 1 + a.flat.length + 1 - (j + 1)) (by omega) ⟨j + 1, by omega, by omega, rfl, by simp (disch := omega) only [go_sem, e0, e3, e4, e6, e13, e14, e15, hbx, st], by simp (disch := omega) only [go_sem, e0, e3, e4, e6, e13, e14, e15, hbx, st], by simp (disch := omega) only [go_sem, e0, e3, e4, e6, e13, e14, e15, hbx, st], by simp (disch := omega) only [go_sem, e0, e3, e4, e6, e13, e14, e15, hbx, st]; rfl, by simp (disch := omega) only [go_sem, e0, e3, e4, e6, e13, e14, e15, hbx, st], by simp (disch := omega) only [go_sem, e0, e3, e4, e6, e13, e14, e15, hbx, st], by simp (disch := omega) only [go_sem, e0, e3, e4, e6, e13, e14, e15, hbx, st], S3⟩
        · have hje : j = k + 1 + a.flat.length + 1 := by omega
          subst hje
          simp (disch := omega) only [go_sem, e0, e3, e4, e6, e13, e14, e15, hen]
          refine nxt _ _ a true ((r, g) :: ts) (done ++ [true]) ha hts' (by simpa [tailE] using hd1) (by simp [hdn]) ?_ (by simp (disch := omega) only [go_sem, e0, e3, e4, e6, e13, e14, e15, hen]) (by simp (disch := omega) only [go_sem, e0, e3, e4, e6, e13, e14, e15, hen]) (by simp (disch := omega) only [go_sem, e0, e3, e4, e6, e13, e14, e15, hen]) (by simp (disch := omega) only [go_sem, e0, e3, e4, e6, e13, e14, e15, hen]) (by simp (disch := omega) only [go_sem, e0, e3, e4, e6, e13, e14, e15, hen]) ?_
          · have h4' : s.kind = 4 := by rw [← hks]; exact h4
            rw [← hfin]; simp [gT, tailG, h4']
          · have e1 : k + 1 + a.flat.length + 1 - k = a.flat.length + 2 := by omega
            have e2 : (List.replicate (Tr.grp s a r).flat.length g ++ tailF g ts).drop (a.flat.length + 2) = List.replicate r.flat.length g ++ tailF g ts := by
              rw [List.drop_append_of_le_length (by simp [Tr.flat]), List.drop_replicate]
              congr 2
              simp [Tr.flat]; omega
            rw [e1, e2] at S2
            have e3 : List.replicate (a.flat.length + 2) true = true :: (List.replicate a.flat.length true ++ [true]) := by
              rw [← List.replicate_succ', ← List.replicate_succ]
            rw [e3] at S2
            simpa [tailF] using S2
      · simp (disch := omega) only [go_sem, e0, e3, e13, e14, e15]
        have h4' : ¬ s.kind = 4 := by rw [← hks]; exact h4
        refine nxt _ _ a g ((r, g) :: ts) (done ++ [g]) ha hts' (by simpa [tailE] using hd1) (by simp [hdn]) ?_ (by simp (disch := omega) only [go_sem, e0, e3, e13, e14, e15]) (by simp (disch := omega) only [go_sem, e0, e3, e13, e14, e15]) (by simp (disch := omega) only [go_sem, e0, e3, e13, e14, e15]) (by simp (disch := omega) only [go_sem, e0, e3, e13, e14, e15]) (by simp (disch := omega) only [go_sem, e0, e3, e13, e14, e15]) ?_
        · rw [← hfin]; simp [gT, tailG, h4']
        · have e3 : List.replicate (Tr.grp s a r).flat.length g = g :: (List.replicate a.flat.length g ++ g :: List.replicate r.flat.length g) := by
            rw [← List.replicate_succ, ← List.replicate_append_replicate.symm, ← List.replicate_succ]
            congr 1
            simp [Tr.flat]
          rw [e3] at S1
          simpa [tailF] using S1
  · have hke : k = xs.length := by omega
    subst hke
    have hz : r = .nil ∧ ts = [] := by
      have hlen := congrArg List.length hdr
      rw [List.drop_length, List.length_append, List.length_nil] at hlen
      have h1 : r.flat.length = 0 := by omega
      have h2 : (tailE (ts.map (·.1))).length = 0 := by omega
      cases r with
      | nil =>
        cases ts with
        | nil => exact ⟨rfl, rfl⟩
        | cons t' ts' => simp [tailE] at h2
      | one s r => simp [Tr.flat] at h1
      | grp s a r => simp [Tr.flat] at h1
    obtain ⟨rfl, rfl⟩ := hz
    simp only [gT, tailG, List.append_nil] at hfin
    have S1 : Sep hp [.k 0 ((gT false t).map encBo), .k 1 [[.own 0 1 0 xs.length xs.length]]] := by
      rw [← hfin]; simpa [Tr.flat, tailF] using S
    have hgl : (gT false t).length = xs.length := by rw [gT_len, ← hf]
    simp (disch := omega) only [go_sem, e0, e3, e13, e14, e15]
    refine C.go (written_c xs 72 [.ptr 1 1 0 0] (fun i => !bitB (gT false t) i) S1 (by omega) (fun i hi h' X S' => guard_c h' (gT false t) xs.length i hgl hi (S'.blk 0 rfl) (S'.blk 1 rfl))) ?_
    rintro r h' ⟨X, S2⟩
    have z := (S2.pvv 0 rfl).1
    simp (disch := omega) only [go_sem, z.2.1]
    have em : mustT t = ddup (srt (wr xs (fun i => !bitB (gT false t) i) xs.length)) := by
      refine (canon_mem (mvT_bd ht) fun x => ?_).symm
      rw [mem_wr (Nat.le_refl _)]
      have key := gT_must t false x ht
      simp only [true_and] at key
      rw [← key]
      constructor
      · rintro ⟨i, hi, _, h1, h2, h3⟩
        have hgi : i < (gT false t).length := by omega
        refine ⟨(xs[i], (gT false t)[i]), ?_, ?_, h1, h3⟩
        · subst hf
          rw [List.mem_iff_getElem]
          exact ⟨i, by simp [hgl]; omega, by simp⟩
        · simpa [bitB, hgi] using h2
      · rintro ⟨p, hp, h1, h2, h3⟩
        obtain ⟨i, hi, rfl⟩ := List.mem_iff_getElem.1 hp
        simp only [List.length_zip] at hi
        simp only [List.getElem_zip] at h1 h2 h3
        subst hf
        refine ⟨i, by omega, by omega, h2, ?_, h3⟩
        have hgi : i < (gT false t).length := by omega
        simpa [bitB, hgi] using h1
    rw [em]
    exact S2.pret
end Go.Av

namespace Go.Av
open Go.Proofs Go.RowKit
set_option linter.unusedVariables false
set_option linter.unusedSimpArgs false
set_option maxRecDepth 100000
set_option maxHeartbeats 4000000
def noteL (W F : List Bool) (ks : List Int) : List Bool := ks.foldl (fun F k => if bitB W k.toNat = true then F else F.set k.toNat true) F
theorem noteL_len (W : List Bool) : ∀ (ks : List Int) (F : List Bool), (noteL W F ks).length = F.length
  | [], F => rfl
  | k :: ks, F => by
    show (noteL W (if bitB W k.toNat = true then F else F.set k.toNat true) ks).length = _
    rw [noteL_len W ks]; split <;> simp
theorem bit_noteL (W : List Bool) : ∀ (ks : List Int) (F : List Bool), F.length = 8 → (∀ k ∈ ks, 0 ≤ k ∧ k ≤ 7) → ∀ j, j < 8 → bitB (noteL W F ks) j = (bitB F j || (decide ((j : Int) ∈ ks) && !bitB W j))
  | [], F, _, _, j, hj => by simp [noteL]
  | k :: ks, F, hF, hk, j, hj => by
    have h0 := hk k (by simp)
    show bitB (noteL W (if bitB W k.toNat = true then F else F.set k.toNat true) ks) j = _
    rw [bit_noteL W ks _ (by split <;> simp [hF]) (fun x hx => hk x (by simp [hx])) j hj]
    by_cases hw : bitB W k.toNat = true
    · rw [if_pos hw]
      by_cases e : (j : Int) = k
      · have : k.toNat = j := by omega
        rw [this] at hw
        simp [hw]
      · simp [e]
    · rw [if_neg hw, bitB_set (by omega)]
      have e2 : decide (k.toNat = j) = decide ((j : Int) = k) := by rw [decide_eq_decide]; omega
      rw [e2]
      by_cases e : (j : Int) = k
      · have : k.toNat = j := by omega
        rw [this] at hw
        simp [e, hw]
      · simp [e]
theorem bits_eq {A B : List Bool} (hA : A.length = 8) (hB : B.length = 8) (h : ∀ j, j < 8 → bitB A j = bitB B j) : A = B := by
  apply List.ext_getElem (by omega)
  intro j h1 h2
  have := h j (by omega)
  simpa [bitB, h1, h2] using this
def noteE (W F : List Bool) (e : Expr) : List Bool := noteL W F (readsS e)
theorem noteE_len (W F : List Bool) (e : Expr) : (noteE W F e).length = F.length := noteL_len _ _ _
theorem note_same {W F : List Bool} {e : Expr} (h : exprOk e = true) (hF : F.length = 8) : noteL W F (readsI e) = noteE W F e := by
  refine bits_eq (by rw [noteL_len, hF]) (by rw [noteE_len, hF]) fun j hj => ?_
  unfold noteE
  rw [bit_noteL W _ F hF (fun k hk => reads_bd h ((mem_readsI h).1 hk)) j hj, bit_noteL W _ F hF (fun k hk => reads_bd h ((mem_readsS h).1 hk)) j hj]
  have : decide ((j : Int) ∈ readsI e) = decide ((j : Int) ∈ readsS e) := by rw [decide_eq_decide, mem_readsI h, mem_readsS h]
  rw [this]
def passT : Tr → List Bool × List Bool → List Bool × List Bool
  | .nil, st => st
  | .one s r, (W, F) => passT r (if hasVar s.kind = true then W.set s.var.toNat true else W, if hasExpr s.kind = true then noteE W F s.e else F)
  | .grp s a r, (W, F) => if s.kind = 4 then passT r (W, (passT a (W, noteE W F s.e)).2) else passT r (passT a (W, F))
theorem passT_len : ∀ (t : Tr) (W F : List Bool), (passT t (W, F)).1.length = W.length ∧ (passT t (W, F)).2.length = F.length
  | .nil, W, F => ⟨rfl, rfl⟩
  | .one s r, W, F => by
    unfold passT
    have := passT_len r (if hasVar s.kind = true then W.set s.var.toNat true else W) (if hasExpr s.kind = true then noteE W F s.e else F)
    refine ⟨this.1.trans (by split <;> simp), this.2.trans (by split <;> simp [noteE_len])⟩
  | .grp s a r, W, F => by
    unfold passT
    split
    · have h1 := passT_len a W (noteE W F s.e)
      have h2 := passT_len r W (passT a (W, noteE W F s.e)).2
      exact ⟨h2.1, h2.2.trans (h1.2.trans (noteE_len _ _ _))⟩
    · have h1 := passT_len a W F
      have h2 := passT_len r (passT a (W, F)).1 (passT a (W, F)).2
      exact ⟨h2.1.trans h1.1, h2.2.trans h1.2⟩
def firstT (t : Tr) (e : Expr) : List Int := listB (noteE (passT t (zero8, zero8)).1 (passT t (zero8, zero8)).2 e)
theorem stmt_expr {s : Stmt} (h : stmtOk s = true) (hv : hasExpr s.kind = true) : exprOk s.e = true := by
  unfold stmtOk at h
  split at h
  · cases h
  · split at h
    · cases h
    · rename_i hc
      simp only [Bool.or_eq_true, not_or, hv, Bool.true_and, Bool.not_true, Bool.false_and] at hc
      simpa using hc.1
theorem Sep.sw {h : Heap} {a b : It} {L : List It} (S : Sep h (a :: b :: L)) : Sep h (b :: a :: L) := S.perm (.swap _ _ _)
theorem take_mid {xs : List Stmt} {k : Nat} {s : Stmt} {a v : List Stmt} (h : xs.drop k = s :: (a ++ v)) : (xs.take (k + 1 + a.length)).drop (k + 1) = a := by
  rw [List.drop_take, show k + 1 + a.length - (k + 1) = a.length by omega, ← List.drop_drop, h, List.drop_succ_cons, List.drop_zero, List.take_left]
end Go.Av

namespace Go.Av
open Go.Proofs Go.RowKit
set_option linter.unusedVariables false
set_option linter.unusedSimpArgs false
set_option maxRecDepth 100000
set_option maxHeartbeats 4000000
def rowR (W F : List Bool) : List V := (W ++ F).map V.bool
theorem rowR_len {W F : List Bool} (hW : W.length = 8) (hF : F.length = 8) : (rowR W F).length = 16 := by simp [rowR, hW, hF]
theorem rowR_W {W F : List Bool} (hW : W.length = 8) {k : Nat} (hk : k < 8) : rdc false 1 ((rowR W F).drop k) = some (.bool (bitB W k)) := by
  have h1 : k < (rowR W F).length := by simp [rowR]; omega
  rw [List.drop_eq_getElem_cons h1, rdc_one]
  simp [rowR, bitB, hW, hk, List.getElem_append]
theorem rowR_setF {h : Heap} {id : Nat} {W F : List Bool} (hb : h[id]? = some [rowR W F]) (hW : W.length = 8) (hF : F.length = 8) {k : Nat} (hk : k < 8) : storeH h 1 (.ptr id 1 0 (8 + k)) (.bool true) = some (h.set id [rowR W (F.set k true)]) := by
  rw [storeH_cell (n := 1) (i := 0) (b := [rowR W F]) (e := rowR W F) hb rfl rfl (by rw [rowR_len hW hF]; omega) rfl rfl]
  congr 3
  simp only [rowR, List.map_append, List.set_cons_zero]
  rw [List.set_append_right _ _ (by simp [hW]), List.length_map, hW, show 8 + k - 8 = k by omega, List.map_set]
theorem rowR_setW {h : Heap} {id : Nat} {W F : List Bool} (hb : h[id]? = some [rowR W F]) (hW : W.length = 8) (hF : F.length = 8) {k : Nat} (hk : k < 8) : storeH h 1 (.ptr id 1 0 k) (.bool true) = some (h.set id [rowR (W.set k true) F]) := by
  rw [storeH_cell (n := 1) (i := 0) (b := [rowR W F]) (e := rowR W F) hb rfl rfl (by rw [rowR_len hW hF]; omega) rfl rfl]
  congr 3
  simp only [rowR, List.map_append, List.set_cons_zero]
  rw [List.set_append_left _ _ (by simp [hW]; omega), List.map_set]
theorem rowR_take {W F : List Bool} (hW : W.length = 8) : (rowR W F).take 8 = W.map V.bool := by
  simp only [rowR, List.map_append]
  rw [List.take_left' (by simp [hW])]
theorem rowR_dropF {W F : List Bool} (hW : W.length = 8) : (rowR W F).drop 8 = F.map V.bool := by
  simp only [rowR, List.map_append]
  rw [List.drop_left' (by simp [hW])]
theorem rowR_putW {h : Heap} {id : Nat} {W W' F : List Bool} (hb : h[id]? = some [rowR W F]) (hW : W.length = 8) (hW' : W'.length = 8) (hF : F.length = 8) : storeH h 8 (.ptr id 1 0 0) (.agg (W'.map V.bool)) = some (h.set id [rowR W' F]) := by
  have h1 := rowR_len hW hF
  have h2 : splice (rowR W F) 0 (W'.map V.bool) = rowR W' F := by
    simp only [splice, List.take_zero, List.nil_append, List.length_map, hW', Nat.zero_add, rowR_dropF hW]
    simp [rowR]
  have h3 : (W'.map V.bool).all V.one = true := by simp [V.one]
  simp [storeH, storeB, hb, V.cells, hW', h1, h2, h3]
theorem Sep.pat {h : Heap} {L : List It} (S : Sep h L) (n : Nat) {zs : List Int} {r : V} (e : L[n]? = some (.p zs r)) {k : Nat} (hk : k < zs.length) : ∃ id m b, r = .own id 1 0 zs.length m ∧ h[id]? = some b ∧ b.length = m ∧ b[k]? = some [.int .i64 (gtI zs k)] := by
  obtain ⟨i, _, o⟩ := S.nth n e
  rcases o with ⟨_, e, _⟩ | ⟨id, m, b, e1, e2, e3, e4, e5, e6, _⟩
  · subst e; simp at hk
  · refine ⟨id, m, b, e1, e2, e3, ?_⟩
    have : (b.take zs.length)[k]? = some (encI (gtI zs k)) := by rw [e5, List.getElem?_map, gtI_some hk]; rfl
    rwa [List.getElem?_take_of_lt hk] at this
theorem readsI_len {e : Expr} : (readsI e).length ≤ 2 := by
  unfold readsI
  split
  · have := ddup_le (srt (colE e 2))
    rw [srt_len] at this
    have := col_len e 2
    omega
  · simp
theorem read_c {h : Heap} {L : List It} (id : Nat) (W F : List Bool) (e : Expr) (hW : W.length = 8) (hF : F.length = 8) (he : exprOk e = true) (S : Sep h (.k id [rowR W F] :: L)) :
    C Tryz.prog 70 [.ptr id 1 0 0, .agg (encExpr e)] h (fun r h' => r = .tup [] ∧ Sep h' (.k id [rowR W (noteE W F e)] :: L)) := by
  refine C.by mixed (cfn_ok Tryz.func70 ok70) rfl ?_
  simp (disch := omega) only [s70, go_sem, encExpr]
  have S0 := S.app [[encExpr e]]
  simp only [encExpr] at S0
  refine S0.goPt (readsOf_c e) (.same rfl) fun r h1 X1 S1 ro rn rc rl => ?_
  have hlr := readsI_len (e := e)
  have hsame := note_same (W := W) (F := F) he hF
  simp (disch := omega) only [go_sem, rn, rl]
  refine loopP_intro (fun m s => ∃ (k : Nat) (F1 : List Bool), k ≤ (readsI e).length ∧ m = (readsI e).length - k ∧ F1.length = 8 ∧ noteL W F1 ((readsI e).drop k) = noteE W F e ∧ s.e 0 = .ptr id 1 0 0 ∧ s.e 7 = r ∧ s.e 8 = .int .i64 (readsI e).length ∧ s.e 9 = .int .i64 k ∧ Sep s.h (.k id [rowR W F1] :: .p (readsI e) r :: L)) (readsI e).length ⟨0, F, by omega, by omega, hF, hsame, by simp (disch := omega) only [go_sem, rn, rl], by simp (disch := omega) only [go_sem, rn, rl], by simp (disch := omega) only [go_sem, rn, rl], by simp (disch := omega) only [go_sem, rn, rl]; rfl, S1.sw⟩ ?_
  rintro m e' hp ⟨k, F1, hk, rfl, hF1, hnt, e0, e7, e8, e9, S2⟩
  simp only at e0 e7 e8 e9 S2
  simp (disch := omega) only [go_sem, e0, e7, e8, e9, rn]
  refine condP_dec (fun hlt => ?_) (fun hlt => ?_)
  · have hlt' : k < (readsI e).length := by omega
    refine Exists.elim (S2.pat 1 rfl hlt') fun q z => Exists.elim z fun n z => Exists.elim z fun b z => ?_
    have z1 := z.1
    have hq := z.2.1
    have hqn := z.2.2.1
    have hqk := z.2.2.2
    clear z
    subst z1
    have hbd := reads_bd he ((mem_readsI he).1 (List.getElem_mem hlt'))
    rw [gtI_get hlt'] at hbd
    rw [List.drop_eq_getElem_cons hlt', gtI_get hlt'] at hnt
    have hin : 0 ≤ gtI (readsI e) k ∧ gtI (readsI e) k < ((8 : Nat) : Int) := by omega
    have hrow := S2.blk 0 rfl
    have hrd := rowR_W (F := F1) hW (show (gtI (readsI e) k).toNat < 8 by omega)
    have st := rowR_setF hrow hW hF1 (show (gtI (readsI e) k).toNat < 8 by omega)
    simp (disch := omega) only [go_sem, e0, e7, e8, e9, hq, hqn, hqk, hrow, hrd, hin, Nat.mul_one]
    refine condP_split (fun hb => ?_) (fun hb => ?_)
    · simp (disch := omega) only [go_sem, e0, e7, e8, e9, hq, hqn, hqk, hrow, hrd, hin, Nat.mul_one]
      refine nextP_intro ((readsI e).length - (k + 1)) (by omega) ⟨k + 1, F1, by omega, rfl, hF1, ?_, by simp (disch := omega) only [go_sem, e0, e7, e8, e9, hq, hqn, hqk, hrow, hrd, hin, Nat.mul_one], by simp (disch := omega) only [go_sem, e0, e7, e8, e9, hq, hqn, hqk, hrow, hrd, hin, Nat.mul_one], by simp (disch := omega) only [go_sem, e0, e7, e8, e9, hq, hqn, hqk, hrow, hrd, hin, Nat.mul_one], by simp (disch := omega) only [go_sem, e0, e7, e8, e9, hq, hqn, hqk, hrow, hrd, hin, Nat.mul_one]; rfl, S2⟩
      rw [← hnt]
      show _ = noteL W (if bitB W (gtI (readsI e) k).toNat = true then F1 else _) _
      rw [if_pos hb]
    · simp (disch := omega) only [go_sem, e0, e7, e8, e9, hq, hqn, hqk, hrow, hrd, hin, st, Nat.mul_one]
      refine nextP_intro ((readsI e).length - (k + 1)) (by omega) ⟨k + 1, F1.set (gtI (readsI e) k).toNat true, by omega, rfl, by simpa using hF1, ?_, by simp (disch := omega) only [go_sem, e0, e7, e8, e9, hq, hqn, hqk, hrow, hrd, hin, st, Nat.mul_one], by simp (disch := omega) only [go_sem, e0, e7, e8, e9, hq, hqn, hqk, hrow, hrd, hin, st, Nat.mul_one], by simp (disch := omega) only [go_sem, e0, e7, e8, e9, hq, hqn, hqk, hrow, hrd, hin, st, Nat.mul_one], by simp (disch := omega) only [go_sem, e0, e7, e8, e9, hq, hqn, hqk, hrow, hrd, hin, st, Nat.mul_one]; rfl, S2.setK _⟩
      rw [← hnt]
      show _ = noteL W (if bitB W (gtI (readsI e) k).toNat = true then F1 else _) _
      rw [if_neg (by simp [hb])]
  · have : k = (readsI e).length := by omega
    subst this
    rw [List.drop_length] at hnt
    have hnt' : F1 = noteE W F e := hnt
    subst hnt'
    simp (disch := omega) only [go_sem, e0, e7, e8, e9, rn]
    exact S2.drop 1
def passS2 (r : Tr) (ts : List Tr) (st : List Bool × List Bool) : List Bool × List Bool := ts.foldl (fun st t => passT t st) (passT r st)
def PassC (t : Tr) : Prop := ∀ (xs : List Stmt) (id : Nat) (W F : List Bool) (h : Heap) (L : List It), t.ok = true → xs = t.flat → xs.length ≤ 24 → W.length = 8 → F.length = 8 → Sep h (.k id [rowR W F] :: L) →
    C Tryz.prog 69 [.ptr id 1 0 0, .lst 6 (xs.map encStmt)] h (fun r h' => r = .tup [] ∧ Sep h' (.k id [rowR (passT t (W, F)).1 (passT t (W, F)).2] :: L))
theorem passC_step (sz : Nat) (ih : ∀ b : Tr, b.size < sz → PassC b) (t : Tr) (hsz : t.size ≤ sz) : PassC t := by
  intro xs id W F h L ht hf hl hW hF S
  refine C.by mixed (cfn_ok Tryz.func69 ok69) rfl ?_
  simp (disch := omega) only [s69, go_sem]
  refine loopP_intro (fun m s => ∃ (k : Nat) (r : Tr) (ts : List Tr) (W1 F1 : List Bool), k ≤ xs.length ∧ m = xs.length - k ∧ r.ok = true ∧ allOk ts ∧ r.size ≤ sz ∧ (∀ x ∈ ts, x.size ≤ sz) ∧ xs.drop k = r.flat ++ tailE ts ∧ W1.length = 8 ∧ F1.length = 8 ∧ passS2 r ts (W1, F1) = passT t (W, F) ∧ s.e 0 = .ptr id 1 0 0 ∧ s.e 1 = .lst 6 (xs.map encStmt) ∧ s.e 4 = .int .i64 k ∧ Sep s.h (.k id [rowR W1 F1] :: L)) xs.length ⟨0, t, [], W, F, by omega, by omega, ht, fun _ h => by simp at h, hsz, fun _ h => by simp at h, by simp [tailE, hf], hW, hF, rfl, by simp (disch := omega) only [go_sem], by simp (disch := omega) only [go_sem], by simp (disch := omega) only [go_sem]; rfl, S⟩ ?_
  rintro m e hp ⟨k, r, ts, W1, F1, hk, rfl, hr, hts, hrs, htz, hdk, hW1, hF1, hps, e0, e1, e4, S⟩
  simp only at e0 e1 e4 S
  simp (disch := omega) only [go_sem, e0, e1, e4]
  refine condP_dec (fun hlt => ?_) (fun hlt => ?_)
  · have hlt' : k < xs.length := by omega
    have nxt : ∀ (e' : Nat → V) (hh : Heap) (q : Nat) (r' : Tr) (ts' : List Tr) (W2 F2 : List Bool), k < q → q ≤ xs.length → r'.ok = true → allOk ts' → r'.size ≤ sz → (∀ x ∈ ts', x.size ≤ sz) → xs.drop q = r'.flat ++ tailE ts' → W2.length = 8 → F2.length = 8 → passS2 r' ts' (W2, F2) = passT t (W, F) → e' 0 = .ptr id 1 0 0 → e' 1 = .lst 6 (xs.map encStmt) → e' 4 = .int .i64 q → Sep hh (.k id [rowR W2 F2] :: L) → @nextP (xs.length - k) ⟨e', hh⟩ ⟨fun m s => ∃ (k : Nat) (r : Tr) (ts : List Tr) (W1 F1 : List Bool), k ≤ xs.length ∧ m = xs.length - k ∧ r.ok = true ∧ allOk ts ∧ r.size ≤ sz ∧ (∀ x ∈ ts, x.size ≤ sz) ∧ xs.drop k = r.flat ++ tailE ts ∧ W1.length = 8 ∧ F1.length = 8 ∧ passS2 r ts (W1, F1) = passT t (W, F) ∧ s.e 0 = .ptr id 1 0 0 ∧ s.e 1 = .lst 6 (xs.map encStmt) ∧ s.e 4 = .int .i64 k ∧ Sep s.h (.k id [rowR W1 F1] :: L)⟩ := fun e' hh q r' ts' W2 F2 a1 a2 a3 a4 a5 a6 a7 a8 a9 b1 b2 b3 b4 b5 =>
      nextP_intro (xs.length - q) (by omega) ⟨q, r', ts', W2, F2, a2, rfl, a3, a4, a5, a6, a7, a8, a9, b1, b2, b3, b4, b5⟩
    have main : ∀ s : Stmt, xs[k] = s → storeH (hp ++ [[[V.int .i64 0, .int .i64 0, .int .i64 0, .int .i64 0, .int .i64 0, .int .i64 0]]]) 6 (.ptr hp.length 1 0 0) (.agg [.int .i64 s.kind, .int .i64 s.var, .int .i64 s.n, .int .i64 s.e.op, .int .i64 s.e.a, .int .i64 s.e.b]) = some (hp ++ [[[.int .i64 s.kind, .int .i64 s.var, .int .i64 s.n, .int .i64 s.e.op, .int .i64 s.e.a, .int .i64 s.e.b]]]) := fun s _ => storeBox rfl rfl
    rcases r with _ | ⟨s, r⟩ | ⟨s, b, r⟩
    · match ts, hts, htz, hdk, hps with
      | [], _, _, hdk, _ =>
        have := congrArg List.length hdk
        simp [Tr.flat, tailE] at this
        omega
      | t' :: ts', hts, htz, hdk, hps =>
        simp only [Tr.flat, tailE, List.nil_append] at hdk
        refine Exists.elim (drop_head hdk) fun hk0 z => ?_
        have hks := z.1
        have hd1 := z.2
        have hg : ∀ h : k < xs.length, xs[k] = endS := fun _ => hks
        have hz := main endS hks
        have S1 := S.newK [encStmt endS]
        simp only [encStmt] at S1
        have hbx := S1.blk 0 rfl
        simp (disch := omega) only [go_sem, e0, e1, e4, hg, hz, hbx, encStmt, endS]
        refine CP.go (hasExpr_c 6) rfl rfl ?_
        have hx : hasExpr 6 = false := rfl
        have hv : hasVar 6 = false := rfl
        simp (disch := omega) only [go_sem, e0, e1, e4, hx, hbx, endS]
        refine CP.go (hasVar_c 6) rfl rfl ?_
        simp (disch := omega) only [go_sem, e0, e1, e4, hv, hbx, endS]
        exact nxt _ _ (k + 1) t' ts' W1 F1 (by omega) (by omega) (hts t' (by simp)) (fun x hx => hts x (by simp [hx])) (htz t' (by simp)) (fun x hx => htz x (by simp [hx])) hd1 hW1 hF1 (by simpa [passS2, passT] using hps) (by simp (disch := omega) only [go_sem, e0, e1, e4, hv, hbx, endS]) (by simp (disch := omega) only [go_sem, e0, e1, e4, hv, hbx, endS]) (by simp (disch := omega) only [go_sem, e0, e1, e4, hv, hbx, endS]; rfl) S1.drop1
    · obtain ⟨hs, hkk, hr'⟩ := Tr.one_ok hr
      simp only [Tr.flat, List.cons_append] at hdk
      simp only [Tr.size] at hrs
      refine Exists.elim (drop_head hdk) fun hk0 z => ?_
      have hks := z.1
      have hd1 := z.2
      have hg : ∀ h : k < xs.length, xs[k] = s := fun _ => hks
      have hz := main s hks
      have S1 := S.newK [encStmt s]
      simp only [encStmt] at S1
      have hbx := S1.blk 0 rfl
      have hk4 : ¬ s.kind = 4 := by omega
      have hpe : passT (.one s r) (W1, F1) = passT r (if hasVar s.kind = true then W1.set s.var.toNat true else W1, if hasExpr s.kind = true then noteE W1 F1 s.e else F1) := rfl
      unfold passS2 at hps
      rw [hpe] at hps
      simp (disch := omega) only [go_sem, e0, e1, e4, hg, hz, hbx, encStmt]
      refine CP.go (hasExpr_c s.kind) rfl rfl ?_
      have fin : ∀ (e' : Nat → V) (hh : Heap) (F2 : List Bool) (B : Blk) (hbb : B = [[.int .i64 s.kind, .int .i64 s.var, .int .i64 s.n, .int .i64 s.e.op, .int .i64 s.e.a, .int .i64 s.e.b]]), F2.length = 8 → True := fun _ _ _ _ _ _ => trivial
      simp (disch := omega) only [go_sem, e0, e1, e4]
      refine condP_split (fun hx => ?_) (fun hx => ?_)
      · rw [if_pos hx] at hps
        simp (disch := omega) only [go_sem, e0, e1, e4, hbx]
        refine C.go (read_c id W1 F1 s.e hW1 hF1 (stmt_expr hs hx) S1.sw) ?_
        rintro r0 h2 ⟨rfl, S2⟩
        have hb2 := S2.blk 1 rfl
        simp (disch := omega) only [go_sem, e0, e1, e4, hb2]
        refine CP.go (hasVar_c s.kind) rfl rfl ?_
        simp (disch := omega) only [go_sem, e0, e1, e4, hb2]
        refine condP_split (fun hv => ?_) (fun hv => ?_)
        · rw [if_pos hv] at hps
          have hsv := stmt_var hs hv
          have hin : 0 ≤ s.var ∧ s.var < ((8 : Nat) : Int) := by omega
          have st := rowR_setW (S2.blk 0 rfl) hW1 (show (noteE W1 F1 s.e).length = 8 by rw [noteE_len, hF1]) (show s.var.toNat < 8 by omega)
          have S3 := S2.setK [rowR (W1.set s.var.toNat true) (noteE W1 F1 s.e)]
          have hb3 := S3.blk 1 rfl
          simp (disch := omega) only [go_sem, e0, e1, e4, hb2, hb3, st, hin, hk4, Nat.mul_one]
          exact nxt _ _ (k + 1) r ts _ _ (by omega) (by omega) hr' hts (by omega) htz hd1 (by simpa using hW1) (by rw [noteE_len, hF1]) hps (by simp (disch := omega) only [go_sem, e0, e1, e4, hb2, hb3, st, hin, hk4, Nat.mul_one]) (by simp (disch := omega) only [go_sem, e0, e1, e4, hb2, hb3, st, hin, hk4, Nat.mul_one]) (by simp (disch := omega) only [go_sem, e0, e1, e4, hb2, hb3, st, hin, hk4, Nat.mul_one]; rfl) (S3.drop 1)
        · rw [if_neg (by simp [hv])] at hps
          simp (disch := omega) only [go_sem, e0, e1, e4, hb2, hk4]
          exact nxt _ _ (k + 1) r ts _ _ (by omega) (by omega) hr' hts (by omega) htz hd1 hW1 (by rw [noteE_len, hF1]) hps (by simp (disch := omega) only [go_sem, e0, e1, e4, hb2, hk4]) (by simp (disch := omega) only [go_sem, e0, e1, e4, hb2, hk4]) (by simp (disch := omega) only [go_sem, e0, e1, e4, hb2, hk4]; rfl) (S2.drop 1)
      · rw [if_neg (show ¬ hasExpr s.kind = true by simp [hx])] at hps
        simp (disch := omega) only [go_sem, e0, e1, e4, hbx]
        refine CP.go (hasVar_c s.kind) rfl rfl ?_
        simp (disch := omega) only [go_sem, e0, e1, e4, hbx]
        refine condP_split (fun hv => ?_) (fun hv => ?_)
        · rw [if_pos hv] at hps
          have hsv := stmt_var hs hv
          have hin : 0 ≤ s.var ∧ s.var < ((8 : Nat) : Int) := by omega
          have S2 := S1.sw
          have st := rowR_setW (S2.blk 0 rfl) hW1 hF1 (show s.var.toNat < 8 by omega)
          have S3 := S2.setK [rowR (W1.set s.var.toNat true) F1]
          have hb3 := S3.blk 1 rfl
          simp (disch := omega) only [go_sem, e0, e1, e4, hbx, hb3, st, hin, hk4, Nat.mul_one]
          exact nxt _ _ (k + 1) r ts _ _ (by omega) (by omega) hr' hts (by omega) htz hd1 (by simpa using hW1) hF1 hps (by simp (disch := omega) only [go_sem, e0, e1, e4, hbx, hb3, st, hin, hk4, Nat.mul_one]) (by simp (disch := omega) only [go_sem, e0, e1, e4, hbx, hb3, st, hin, hk4, Nat.mul_one]) (by simp (disch := omega) only [go_sem, e0, e1, e4, hbx, hb3, st, hin, hk4, Nat.mul_one]; rfl) (S3.drop 1)
        · rw [if_neg (by simp [hv])] at hps
          simp (disch := omega) only [go_sem, e0, e1, e4, hbx, hk4]
          exact nxt _ _ (k + 1) r ts _ _ (by omega) (by omega) hr' hts (by omega) htz hd1 hW1 hF1 hps (by simp (disch := omega) only [go_sem, e0, e1, e4, hbx, hk4]) (by simp (disch := omega) only [go_sem, e0, e1, e4, hbx, hk4]) (by simp (disch := omega) only [go_sem, e0, e1, e4, hbx, hk4]; rfl) S1.drop1
    · obtain ⟨hs, hkk, hb', hr'⟩ := Tr.grp_ok hr
      simp only [Tr.flat, List.cons_append, List.append_assoc] at hdk
      simp only [Tr.size] at hrs
      refine Exists.elim (drop_head hdk) fun hk0 z => ?_
      have hks := z.1
      have hd1 := z.2
      have hg : ∀ h : k < xs.length, xs[k] = s := fun _ => hks
      have hz := main s hks
      have S1 := S.newK [encStmt s]
      simp only [encStmt] at S1
      have hbx := S1.blk 0 rfl
      simp (disch := omega) only [go_sem, e0, e1, e4, hg, hz, hbx, encStmt]
      refine CP.go (hasExpr_c s.kind) rfl rfl ?_
      have hv : hasVar s.kind = false := by rcases hkk with h1 | h1 <;> simp [hasVar, h1]
      rcases hkk with h4 | h5
      · have hx : hasExpr s.kind = true := by simp [hasExpr, h4]
        have hpe : passT (.grp s b r) (W1, F1) = passT r (W1, (passT b (W1, noteE W1 F1 s.e)).2) := by simp [passT, h4]
        unfold passS2 at hps
        rw [hpe] at hps
        have hd2 := drop_skip hd1
        refine Exists.elim (drop_head hd2) fun hk3 z => ?_
        have hd4 := z.2
        have hen : endO 0 k (xs.drop k) = (k : Int) + 1 + b.flat.length := by rw [hdk]; exact endO_grp k _ (.inl h4) hb'
        have htm := take_mid (xs := xs) hdk
        have t1 : ((k : Int) + 1).toNat = k + 1 := by omega
        have t2 : ((k : Int) + 1 + b.flat.length).toNat = k + 1 + b.flat.length := by omega
        have hbl : b.flat.length ≤ 24 := by
          have := congrArg List.length hd1
          simp only [List.length_drop, List.length_append] at this
          omega
        simp (disch := omega) only [go_sem, e0, e1, e4, hbx, hx]
        refine C.go (read_c id W1 F1 s.e hW1 hF1 (stmt_expr hs hx) S1.sw) ?_
        rintro r0 h2 ⟨rfl, S2⟩
        have hb2 := S2.blk 1 rfl
        simp (disch := omega) only [go_sem, e0, e1, e4, hb2, hx]
        refine CP.go (hasVar_c s.kind) rfl rfl ?_
        simp (disch := omega) only [go_sem, e0, e1, e4, hb2, hv]
        refine CP.go (endO_c xs k (by omega) (by omega)) rfl (refs_args _ _ _) ?_
        have hnl : (noteE W1 F1 s.e).length = 8 := by rw [noteE_len, hF1]
        have h0 := S2.blk 0 rfl
        have h16 := rowR_len hW1 hnl
        have htk := rowR_take (F := noteE W1 F1 s.e) hW1
        have hbf : fit 8 (W1.map V.bool) = true := by simp [fit, hW1, V.one]
        have hz2 := storeBox (h := h2) (z := [V.bool false, .bool false, .bool false, .bool false, .bool false, .bool false, .bool false, .bool false]) (x := .agg (W1.map V.bool)) (sz := 8) rfl hbf
        simp only [cells_agg] at hz2
        have S3 := (S2.newK [W1.map V.bool]).sw.drop 2
        simp (disch := omega) only [go_sem, e0, e1, e4, hen, h0, h16, htk, hbf, hz2, t1, t2, htm]
        refine C.go (ih b (by omega) b.flat id W1 (noteE W1 F1 s.e) _ _ hb' rfl hbl hW1 hnl S3) ?_
        rintro r0 h3 ⟨rfl, S4⟩
        have hpl := passT_len b W1 (noteE W1 F1 s.e)
        have hb4 := S4.blk 1 rfl
        have hWl : (W1.map V.bool).length = 8 := by simpa using hW1
        have htk8 : (W1.map V.bool).take 8 = W1.map V.bool := List.take_of_length_le (by omega)
        have st := rowR_putW (S4.blk 0 rfl) (W' := W1) (by omega) hW1 (by omega)
        have S5 := S4.setK [rowR W1 (passT b (W1, noteE W1 F1 s.e)).2]
        simp (disch := omega) only [go_sem, e0, e1, e4, hb4, hWl, htk8, st, hen]
        exact nxt _ _ (k + 1 + b.flat.length + 1) r ts W1 _ (by omega) (by omega) hr' hts (by omega) htz hd4 hW1 (by omega) hps (by simp (disch := omega) only [go_sem, e0, e1, e4, hb4, hWl, htk8, st, hen]) (by simp (disch := omega) only [go_sem, e0, e1, e4, hb4, hWl, htk8, st, hen]) (by simp (disch := omega) only [go_sem, e0, e1, e4, hb4, hWl, htk8, st, hen]; exact congrArg (V.int .i64) (by omega)) (S5.drop 1)
      · have hx : hasExpr s.kind = false := by simp [hasExpr, h5]
        have hk4 : ¬ s.kind = 4 := by omega
        have hpe : passT (.grp s b r) (W1, F1) = passT r (passT b (W1, F1)) := by simp [passT, h5]
        unfold passS2 at hps
        rw [hpe] at hps
        simp (disch := omega) only [go_sem, e0, e1, e4, hbx, hx]
        refine CP.go (hasVar_c s.kind) rfl rfl ?_
        simp (disch := omega) only [go_sem, e0, e1, e4, hbx, hv, hk4]
        refine nxt _ _ (k + 1) b (r :: ts) W1 F1 (by omega) (by omega) hb' (fun x hx => ?_) (by omega) (fun x hx => ?_) hd1 hW1 hF1 hps (by simp (disch := omega) only [go_sem, e0, e1, e4, hbx, hv, hk4]) (by simp (disch := omega) only [go_sem, e0, e1, e4, hbx, hv, hk4]) (by simp (disch := omega) only [go_sem, e0, e1, e4, hbx, hv, hk4]; rfl) S1.drop1
        · rcases List.mem_cons.1 hx with rfl | hx
          · exact hr'
          · exact hts x hx
        · rcases List.mem_cons.1 hx with rfl | hx
          · omega
          · exact htz x hx
  · have hke : k = xs.length := by omega
    subst hke
    have hz : r = .nil ∧ ts = [] := by
      have hlen := congrArg List.length hdk
      rw [List.drop_length, List.length_append, List.length_nil] at hlen
      have h1 : r.flat.length = 0 := by omega
      have h2 : (tailE ts).length = 0 := by omega
      cases r with
      | nil =>
        cases ts with
        | nil => exact ⟨rfl, rfl⟩
        | cons t' ts' => simp [tailE] at h2
      | one s r => simp [Tr.flat] at h1
      | grp s a r => simp [Tr.flat] at h1
    obtain ⟨rfl, rfl⟩ := hz
    have hpe : passT t (W, F) = (W1, F1) := hps.symm
    rw [hpe]
    simp (disch := omega) only [go_sem, e0, e1, e4]
    exact S
theorem passC_c (t : Tr) : PassC t := by
  induction hn : t.size using Nat.strongRecOn generalizing t with
  | ind n ih => exact passC_step n (fun b hb => ih b.size hb b rfl) t (by omega)
end Go.Av

namespace Go.Av
open Go.Proofs Go.RowKit
set_option linter.unusedVariables false
set_option linter.unusedSimpArgs false
set_option maxRecDepth 100000
set_option maxHeartbeats 4000000
def sat (x : Int) : Int := if x < -1000000 then -1000000 else if 1000000 < x then 1000000 else x
theorem sat_bd (x : Int) : -1000000 ≤ sat x ∧ sat x ≤ 1000000 := by unfold sat; split <;> (try split) <;> omega
theorem sat_mul (x y : Int) : -9223372036854775808 ≤ sat x * sat y ∧ sat x * sat y ≤ 9223372036854775807 := by
  have h1 := sat_bd x
  have h2 := sat_bd y
  have h3 : (sat x * sat y).natAbs ≤ 1000000 * 1000000 := by
    rw [Int.natAbs_mul]
    exact Nat.mul_le_mul (by omega) (by omega)
  omega
theorem sat_c (x : Int) : CP Tryz.prog 79 [.int .i64 x] (.int .i64 (sat x)) [] := by
  have clamp : CP Tryz.prog 101 [.int .i64 x, .int .i64 (-1000000), .int .i64 1000000] (.int .i64 (sat x)) [] := by
    refine CP.by rfl mixed (cfn_ok Tryz.func101 ok101) rfl ?_
    simp (disch := omega) only [s101, go_sem]
    refine congrArg (V.int .i64) ?_
    unfold sat; split <;> (try split) <;> omega
  refine CP.by rfl mixed (cfn_ok Tryz.func79 ok79) rfl ?_
  simp (disch := omega) only [s79, go_sem]
  refine CP.go clamp rfl rfl ?_
  simp (disch := omega) only [go_sem]
theorem add_c (x y : Int) : CP Tryz.prog 52 [.int .i64 x, .int .i64 y] (.int .i64 (sat (sat x + sat y))) [] := by
  have h1 := sat_bd x
  have h2 := sat_bd y
  refine CP.by rfl mixed (cfn_ok Tryz.func52 ok52) rfl ?_
  simp (disch := omega) only [s52, go_sem]
  refine CP.go (sat_c _) rfl rfl ?_
  simp (disch := omega) only [go_sem]
  refine CP.go (sat_c _) rfl rfl ?_
  simp (disch := omega) only [go_sem]
  refine CP.go (sat_c _) rfl rfl ?_
  simp (disch := omega) only [go_sem]
theorem sub_c (x y : Int) : CP Tryz.prog 53 [.int .i64 x, .int .i64 y] (.int .i64 (sat (sat x - sat y))) [] := by
  have h1 := sat_bd x
  have h2 := sat_bd y
  refine CP.by rfl mixed (cfn_ok Tryz.func53 ok53) rfl ?_
  simp (disch := omega) only [s53, go_sem]
  refine CP.go (sat_c _) rfl rfl ?_
  simp (disch := omega) only [go_sem]
  refine CP.go (sat_c _) rfl rfl ?_
  simp (disch := omega) only [go_sem]
  refine CP.go (sat_c _) rfl rfl ?_
  simp (disch := omega) only [go_sem]
theorem mul_c (x y : Int) : CP Tryz.prog 54 [.int .i64 x, .int .i64 y] (.int .i64 (sat (sat x * sat y))) [] := by
  have h1 := sat_bd x
  have h2 := sat_bd y
  have hw : IntKind.wrap .i64 (sat x * sat y) = sat x * sat y := wrap64 (sat_mul x y).1 (sat_mul x y).2
  refine CP.by rfl mixed (cfn_ok Tryz.func54 ok54) rfl ?_
  simp (disch := omega) only [s54, go_sem]
  refine CP.go (sat_c _) rfl rfl ?_
  simp (disch := omega) only [go_sem]
  refine CP.go (sat_c _) rfl rfl ?_
  simp (disch := omega) only [go_sem, hw]
  refine CP.go (sat_c _) rfl rfl ?_
  simp (disch := omega) only [go_sem]
def bitI (b : Bool) : Int := if b = true then 1 else 0
theorem bit_c (b : Bool) : CP Tryz.prog 55 [.bool b] (.int .i64 (bitI b)) [] := by
  refine CP.by rfl mixed (cfn_ok Tryz.func55 ok55) rfl ?_
  simp (disch := omega) only [s55, go_sem]
  cases b <;> simp (disch := omega) only [go_sem] <;> rfl
def valOf (zs : List Int) (x : Int) : Int := if x < 0 then (zs[(-1 - x).toNat]?).getD 0 else x
theorem operand_c (zs : List Int) (x : Int) (hl : -1 - x < zs.length) (hb : -1000000 ≤ x) : CP Tryz.prog 51 [.lst 1 (zs.map encI), .int .i64 x] (.int .i64 (valOf zs x)) [] := by
  refine CP.by rfl mixed (cfn_ok Tryz.func51 ok51) rfl ?_
  simp (disch := omega) only [s51, go_sem, encI]
  refine condP_dec (fun h => ?_) (fun h => ?_)
  · have hlt : (-1 - x).toNat < zs.length := by omega
    simp (disch := omega) only [go_sem, encI]
    simp [valOf, h, hlt]
  · simp (disch := omega) only [go_sem]
    simp [valOf, h]
def isValue (x : Int) : Bool := within x (-1000000) 1000000
theorem isValue_c (x : Int) : CP Tryz.prog 100 [.int .i64 x] (.bool (isValue x)) [] := by
  refine CP.by rfl mixed (cfn_ok Tryz.func100 ok100) rfl ?_
  simp (disch := omega) only [s100, go_sem]
  refine CP.go (within_c _ _ _) rfl rfl ?_
  simp (disch := omega) only [go_sem]
  rfl
theorem notValue_c (x : Int) : CP Tryz.prog 99 [.int .i64 x] (.bool (!isValue x)) [] := by
  refine CP.by rfl mixed (cfn_ok Tryz.func99 ok99) rfl ?_
  simp (disch := omega) only [s99, go_sem]
  refine CP.go (isValue_c _) rfl rfl ?_
  simp (disch := omega) only [go_sem]
def evalE (zs : List Int) (e : Expr) : Int :=
  let a := valOf zs e.a
  let b := valOf zs e.b
  if e.op = 1 then sat (sat a + sat b) else if e.op = 2 then sat (sat a - sat b) else if e.op = 3 then sat (sat a * sat b) else if e.op = 4 then min a b else if e.op = 5 then max a b else if e.op = 6 then bitI (decide (a < b)) else bitI (decide (a = b))
theorem refs_ints (n : Nat) (zs : List Int) (x : V) (hx : V.refs n x = true) : V.refsL n [.lst 1 (zs.map encI), x] = true := by
  simp [V.refsL, V.refs, refsLL_map encI (fun _ => rfl) zs, hx]
theorem index_c (zs : List Int) (hz : ∀ z ∈ zs, isValue z = true) (hl : zs.length ≤ 1048576) : CP Tryz.prog 73 [.lst 1 (zs.map encI), .fn 99 []] (.int .i64 (-1)) [] := by
  refine CP.by rfl mixed (cfn_ok Tryz.func73 ok73) rfl ?_
  simp (disch := omega) only [s73, go_sem]
  refine loopP_intro (fun m s => ∃ k : Nat, k ≤ zs.length ∧ m = zs.length - k ∧ s.e 0 = .lst 1 (zs.map encI) ∧ s.e 1 = .fn 99 [] ∧ s.e 7 = .int .i64 zs.length ∧ s.e 8 = .int .i64 k) zs.length ⟨0, by omega, by omega, rfl, rfl, by simp (disch := omega) only [go_sem], rfl⟩ ?_
  rintro m e hp ⟨k, hk, rfl, e0, e1, e7, e8⟩
  simp only at e0 e1 e7 e8
  simp (disch := omega) only [go_sem, e0, e1, e7, e8, encI]
  refine condP_dec (fun hlt => ?_) (fun hlt => ?_)
  · have hlt' : k < zs.length := by omega
    have hv := hz zs[k] (List.getElem_mem hlt')
    simp (disch := omega) only [go_sem, e0, e1, e7, e8, encI]
    refine CP.go (notValue_c zs[k]) rfl rfl ?_
    simp (disch := omega) only [go_sem, hv, e0, e1, e7, e8, encI]
    refine nextP_intro (zs.length - (k + 1)) (by omega) ⟨k + 1, by omega, rfl, ?_, ?_, ?_, ?_⟩
    · simp (disch := omega) only [go_sem, e0, e1, e7, e8, encI]
    · simp (disch := omega) only [go_sem, e0, e1, e7, e8, encI]
    · simp (disch := omega) only [go_sem, e0, e1, e7, e8, encI]
    · simp (disch := omega) only [go_sem, e0, e1, e7, e8, encI]; rfl
  · simp (disch := omega) only [go_sem, e0, e1, e7, e8, encI]
theorem varsOk_c (zs : List Int) (hz : ∀ z ∈ zs, isValue z = true) (hl : zs.length = 8) : CP Tryz.prog 50 [.lst 1 (zs.map encI)] (.bool true) [] := by
  have cont : CP Tryz.prog 98 [.lst 1 (zs.map encI), .fn 99 []] (.bool false) [] := by
    refine CP.by rfl mixed (cfn_ok Tryz.func98 ok98) rfl ?_
    simp (disch := omega) only [s98, go_sem]
    refine CP.go (index_c zs hz (by omega)) rfl (refs_ints _ _ _ rfl) ?_
    simp (disch := omega) only [go_sem]
  have are : CP Tryz.prog 78 [.lst 1 (zs.map encI)] (.bool true) [] := by
    refine CP.by rfl mixed (cfn_ok Tryz.func78 ok78) rfl ?_
    simp (disch := omega) only [s78, go_sem]
    refine CP.go cont rfl (refs_ints _ _ _ rfl) ?_
    simp (disch := omega) only [go_sem]
  refine CP.by rfl mixed (cfn_ok Tryz.func50 ok50) rfl ?_
  simp (disch := omega) only [s50, go_sem, hl]
  refine CP.go are rfl (by simp [V.refsL, V.refs, refsLL_map encI (fun _ => rfl) zs]) ?_
  simp (disch := omega) only [go_sem]
theorem eval_c (zs : List Int) (e : Expr) (hz : ∀ z ∈ zs, isValue z = true) (hl : zs.length = 8) (he : exprOk e = true) : CP Tryz.prog 28 [.lst 1 (zs.map encI), .agg (encExpr e)] (.int .i64 (evalE zs e)) [] := by
  obtain ⟨h1, h2, h3⟩ := exprOk_facts he
  obtain ⟨op, a, b⟩ := e
  simp only at h1 h2 h3
  refine CP.by rfl mixed (cfn_ok Tryz.func28 ok28) rfl ?_
  simp (disch := omega) only [s28, go_sem, encExpr]
  refine CP.go (varsOk_c zs hz hl) rfl (by simp [V.refsL, V.refs, refsLL_map encI (fun _ => rfl) zs]) ?_
  simp (disch := omega) only [go_sem]
  refine CP.go (exprOk_c ⟨op, a, b⟩) rfl rfl ?_
  simp (disch := omega) only [go_sem, he]
  refine CP.go (operand_c zs a (by omega) (by omega)) rfl (refs_ints _ _ _ rfl) ?_
  simp (disch := omega) only [go_sem]
  refine CP.go (operand_c zs b (by omega) (by omega)) rfl (refs_ints _ _ _ rfl) ?_
  simp (disch := omega) only [go_sem]
  repeat' (first | (refine CP.go (add_c _ _) rfl rfl ?_ <;> (try simp (disch := omega) only [go_sem])) | (refine CP.go (sub_c _ _) rfl rfl ?_ <;> (try simp (disch := omega) only [go_sem])) | (refine CP.go (mul_c _ _) rfl rfl ?_ <;> (try simp (disch := omega) only [go_sem])) | (refine CP.go (bit_c _) rfl rfl ?_ <;> (try simp (disch := omega) only [go_sem])) | (refine condP_t (by assumption) ?_ <;> (try simp (disch := omega) only [go_sem])) | (refine condP_f (by assumption) ?_ <;> (try simp (disch := omega) only [go_sem])) | (refine condP_dec (fun h => ?_) (fun h => ?_) <;> (try simp (disch := omega) only [go_sem])) | (refine condP_split (fun h => ?_) (fun h => ?_) <;> (try simp (disch := omega) only [go_sem])))
  all_goals simp_all [evalE]
end Go.Av

namespace Go.Av
open Go.Proofs Go.RowKit
set_option linter.unusedVariables false
set_option linter.unusedSimpArgs false
set_option maxRecDepth 100000
set_option maxHeartbeats 4000000
structure Task where
  body : List Stmt
  next : Expr
def encTask (t : Task) : List V := [.lst 6 (t.body.map encStmt), .int .i64 t.next.op, .int .i64 t.next.a, .int .i64 t.next.b]
theorem refs_task (n : Nat) (t : Task) : V.refsL n (encTask t) = true := by simp [encTask, V.refsL, V.refs, refsLL_map encStmt (refs_stmt n) t.body]
def taskOk (t : Task) : Bool := blockOk t.body && exprOk t.next
theorem refs_task1 (n : Nat) (t : Task) : V.refsL n [.agg (encTask t)] = true := by simp [V.refsL, V.refs, refs_task]
theorem taskOk_c (t : Task) (hb : t.body.length ≤ 9223372036854775807) : CP Tryz.prog 19 [.agg (encTask t)] (.bool (taskOk t)) [] := by
  obtain ⟨body, ⟨op, a, b⟩⟩ := t
  refine CP.by rfl mixed (cfn_ok Tryz.func19 ok19) rfl ?_
  simp (disch := omega) only [s19, go_sem, encTask]
  refine CP.go (blockOk_c body hb) rfl (refs_arg _ _) ?_
  simp (disch := omega) only [go_sem]
  repeat' (first | (refine CP.go (exprOk_c ⟨op, a, b⟩) rfl rfl ?_ <;> (try simp (disch := omega) only [go_sem])) | (refine condP_t (by assumption) ?_ <;> (try simp (disch := omega) only [go_sem])) | (refine condP_f (by assumption) ?_ <;> (try simp (disch := omega) only [go_sem])) | (refine condP_dec (fun h => ?_) (fun h => ?_) <;> (try simp (disch := omega) only [go_sem])) | (refine condP_split (fun h => ?_) (fun h => ?_) <;> (try simp (disch := omega) only [go_sem])))
  all_goals simp_all [taskOk]
theorem notTaskOk_c (t : Task) (hb : t.body.length ≤ 9223372036854775807) : CP Tryz.prog 47 [.agg (encTask t)] (.bool (!taskOk t)) [] := by
  refine CP.by rfl mixed (cfn_ok Tryz.func47 ok47) rfl ?_
  simp (disch := omega) only [s47, go_sem, encTask]
  refine CP.go (taskOk_c t hb) rfl (refs_task1 _ _) ?_
  simp (disch := omega) only [go_sem]
theorem indexTask_c (g : Nat) (p : Task → Bool) (zs : List Task) (hg : ∀ z ∈ zs, CP Tryz.prog g [.agg (encTask z)] (.bool (p z)) []) (hl : zs.length ≤ 9223372036854775807) : CP Tryz.prog 15 [.lst 4 (zs.map encTask), .fn g []] (.int .i64 (idxI p zs)) [] := by
  refine CP.by rfl mixed (cfn_ok Tryz.func15 ok15) rfl ?_
  simp (disch := omega) only [s15, go_sem]
  refine loopP_intro (fun m s => ∃ k : Nat, k ≤ zs.length ∧ m = zs.length - k ∧ s.e 0 = .lst 4 (zs.map encTask) ∧ s.e 1 = .fn g [] ∧ s.e 7 = .int .i64 zs.length ∧ s.e 8 = .int .i64 k ∧ ∀ j (hj : j < zs.length), j < k → p zs[j] = false) zs.length ⟨0, by omega, by omega, rfl, rfl, by simp (disch := omega) only [go_sem], rfl, fun j _ h => absurd h (by omega)⟩ ?_
  rintro m e hp ⟨k, hk, rfl, e0, e1, e7, e8, hall⟩
  simp only at e0 e1 e7 e8
  simp (disch := omega) only [go_sem, e0, e1, e7, e8, encTask]
  refine condP_dec (fun hlt => ?_) (fun hlt => ?_)
  · have hlt' : k < zs.length := by omega
    simp (disch := omega) only [go_sem, e0, e1, e7, e8, encTask]
    refine CP.go (hg zs[k] (List.getElem_mem hlt')) rfl (refs_task1 _ zs[k]) ?_
    simp (disch := omega) only [go_sem, e0, e1, e7, e8, encTask]
    refine condP_split (fun h => ?_) (fun h => ?_)
    · simp (disch := omega) only [go_sem, e0, e1, e7, e8, encTask]
      rw [idxI_found hlt' h hall]
    · simp (disch := omega) only [go_sem, e0, e1, e7, e8, encTask]
      refine nextP_intro (zs.length - (k + 1)) (by omega) ⟨k + 1, by omega, rfl, ?_, ?_, ?_, ?_, fun j hj hjk => ?_⟩
      · simp (disch := omega) only [go_sem, e0, e1, e7, e8, encTask]
      · simp (disch := omega) only [go_sem, e0, e1, e7, e8, encTask]
      · simp (disch := omega) only [go_sem, e0, e1, e7, e8, encTask]
      · simp (disch := omega) only [go_sem, e0, e1, e7, e8, encTask]; rfl
      · by_cases e : j = k
        · subst e; exact h
        · exact hall j hj (by omega)
  · simp (disch := omega) only [go_sem, e0, e1, e7, e8, encTask]
    rw [idxI_none (fun j hj => hall j hj (by omega))]
theorem containsTask_c (g : Nat) (p : Task → Bool) (zs : List Task) (hg : ∀ z ∈ zs, CP Tryz.prog g [.agg (encTask z)] (.bool (p z)) []) (hl : zs.length ≤ 9223372036854775807) (hr : V.refsL 0 [.lst 4 (zs.map encTask), .fn g []] = true) : CP Tryz.prog 24 [.lst 4 (zs.map encTask), .fn g []] (.bool (zs.any p)) [] := by
  refine CP.by rfl mixed (cfn_ok Tryz.func24 ok24) rfl ?_
  simp (disch := omega) only [s24, go_sem]
  refine CP.go (indexTask_c g p zs hg hl) rfl hr ?_
  simp (disch := omega) only [go_sem, idxI_ge]
theorem first_c (t : Tr) (xs : List Stmt) (e : Expr) (ht : t.ok = true) (hf : xs = t.flat) (hb : blockOk xs = true) (he : exprOk e = true) : Pt Tryz.prog 41 [.agg [.lst 6 (xs.map encStmt), .int .i64 e.op, .int .i64 e.a, .int .i64 e.b]] (firstT t e) := by
  have hl := block_len hb
  have hk : taskOk ⟨xs, e⟩ = true := by simp [taskOk, hb, he]
  refine C.by mixed (cfn_ok Tryz.func41 ok41) rfl ?_
  simp (disch := omega) only [s41, go_sem]
  refine CP.go (taskOk_c ⟨xs, e⟩ (by simp only; omega)) rfl (refs_task1 _ ⟨xs, e⟩) ?_
  simp (disch := omega) only [go_sem, hk]
  have S0 : Sep [[[V.lst 6 (xs.map encStmt), .int .i64 e.op, .int .i64 e.a, .int .i64 e.b]], [rowR zero8 zero8]] [.k 1 [rowR zero8 zero8], .k 0 [[V.lst 6 (xs.map encStmt), .int .i64 e.op, .int .i64 e.a, .int .i64 e.b]]] := ⟨[1, 0], by simp, [1], [0], rfl, ⟨rfl, rfl⟩, [0], [], rfl, ⟨rfl, rfl⟩, rfl⟩
  refine C.go (passC_c t xs 1 zero8 zero8 _ _ ht hf hl rfl rfl S0) ?_
  rintro r h1 ⟨rfl, S1⟩
  have hb0 := S1.blk 1 rfl
  have hpl := passT_len t zero8 zero8
  have h8 : zero8.length = 8 := rfl
  simp (disch := omega) only [go_sem, hb0]
  refine C.go (read_c 1 _ _ e (by omega) (by omega) he S1) ?_
  rintro r h2 ⟨rfl, S2⟩
  have hW : (passT t (zero8, zero8)).1.length = 8 := by omega
  have hnl : (noteE (passT t (zero8, zero8)).1 (passT t (zero8, zero8)).2 e).length = 8 := by rw [noteE_len]; omega
  have hlist : firstT t e = listB (noteE (passT t (zero8, zero8)).1 (passT t (zero8, zero8)).2 e) := rfl
  rw [hlist]
  generalize noteE (passT t (zero8, zero8)).1 (passT t (zero8, zero8)).2 e = F at S2 hnl ⊢
  generalize (passT t (zero8, zero8)).1 = W at S2 hW
  have hb1 := heap_app (h' := [[]]) (S2.blk 0 rfl)
  have hdF := rowR_dropF (F := F) hW
  have hFl : (F.map V.bool).length = 8 := by simpa using hnl
  have htk : (F.map V.bool).take 8 = F.map V.bool := List.take_of_length_le (by omega)
  simp (disch := omega) only [go_sem, hb1, hdF, hFl, htk]
  refine loopP_intro (fun m s => ∃ (k l : Nat), k ≤ 8 ∧ m = 8 - k ∧ s.e 4 = .own l 1 0 (accB F k).length (accB F k).length ∧ s.e 24 = .agg (F.map V.bool) ∧ s.e 25 = .int .i64 k ∧ Sep s.h [.k l ((accB F k).map encI)]) 8 ⟨0, h2.length, by omega, by omega, by simp (disch := omega) only [go_sem, hb1, hdF, hFl, htk]; rfl, by simp (disch := omega) only [go_sem, hb1, hdF, hFl, htk], by simp (disch := omega) only [go_sem, hb1, hdF, hFl, htk]; rfl, (Sep.nil _).newK _⟩ ?_
  rintro m e' hp ⟨k, l, hk2, rfl, e4, e24, e25, S⟩
  simp only at e4 e24 e25 S
  simp (disch := omega) only [go_sem, e4, e24, e25]
  refine condP_dec (fun hlt => ?_) (fun hlt => ?_)
  · have hrd : rdc false 1 ((F.map V.bool).drop k) = some (.bool (bitB F k)) := by
      rw [List.drop_eq_getElem_cons (by omega), rdc_one]
      have : k < F.length := by omega
      simp [bitB, this]
    have hin : 0 ≤ (k : Int) ∧ (k : Int) < ((8 : Nat) : Int) := by omega
    have hcl := accB_len F k
    have ha := append1 (sz := 1) (bytes := 8) (c := encI k) (S.blk 0 rfl) (n := (accB F k).length) (by simp) (by omega)
    simp only [encI] at ha
    have hnx := accB_succ F k
    simp (disch := omega) only [go_sem, e4, e24, e25, hrd, hin, ha, encI, Nat.mul_one]
    refine condP_split (fun hk => ?_) (fun hk => ?_)
    · rw [if_pos hk] at hnx
      have hl1 : (accB F (k + 1)).length = (accB F k).length + 1 := by rw [hnx]; simp
      simp (disch := omega) only [go_sem, e4, e24, e25, hrd, hin, ha, encI, Nat.mul_one]
      refine nextP_intro (8 - (k + 1)) (by omega) ⟨k + 1, l, by omega, rfl, ?_, by simp (disch := omega) only [go_sem, e4, e24, e25, hrd, hin, ha, encI, Nat.mul_one], by simp (disch := omega) only [go_sem, e4, e24, e25, hrd, hin, ha, encI, Nat.mul_one]; rfl, ?_⟩
      · rw [hl1]; simp (disch := omega) only [go_sem, e4, e24, e25, hrd, hin, ha, encI, Nat.mul_one]
      · have := (S.app [[encI k]]).setK ((accB F k).map encI ++ [encI k])
        rw [hnx, List.map_append]
        exact this
    · rw [if_neg (by simp [hk]), List.append_nil] at hnx
      simp (disch := omega) only [go_sem, e4, e24, e25, hrd, hin, ha, encI, Nat.mul_one]
      refine nextP_intro (8 - (k + 1)) (by omega) ⟨k + 1, l, by omega, rfl, ?_, by simp (disch := omega) only [go_sem, e4, e24, e25, hrd, hin, ha, encI, Nat.mul_one], by simp (disch := omega) only [go_sem, e4, e24, e25, hrd, hin, ha, encI, Nat.mul_one]; rfl, ?_⟩
      · rw [hnx]; simp (disch := omega) only [go_sem, e4, e24, e25, hrd, hin, ha, encI, Nat.mul_one]
      · rw [hnx]; exact S
  · have hk8 : k = 8 := by omega
    subst hk8
    simp (disch := omega) only [go_sem, e4, e24, e25]
    have hfl : (accB F 8).map encI = (listB F).map encI := rfl
    exact (S.toP (zs := listB F) (n := (accB F 8).length) (by simp) (Nat.le_refl _) (by rw [hfl, List.take_of_length_le (by simp)]) (rows1_ints _)).pret
end Go.Av

namespace Go.Av
open Go.Proofs Go.RowKit
set_option linter.unusedVariables false
set_option linter.unusedSimpArgs false
set_option maxRecDepth 100000
set_option maxHeartbeats 4000000
theorem Sep.offK {h h' : Heap} {id : Nat} {b : Blk} {L : List It} (S : Sep h (.k id b :: L)) (off : ∀ j, j ≠ id → h'[j]? = h[j]?) : Sep h' L := by
  obtain ⟨ids, n, i, j, rfl, ⟨rfl, e⟩, s⟩ := S
  have n' := List.nodup_append.1 n
  exact ⟨j, n'.2.1, s.keep fun a ha => off a (fun q => n'.2.2 id (by simp) a ha q.symm)⟩
theorem rows1_of {b : Blk} (hf : flat b = true) (he : ∀ e ∈ b, e.length = 1) : rows1 b = true := by
  simp only [rows1, flat, List.all_eq_true, Bool.and_eq_true, decide_eq_true_eq] at *
  exact fun e h => ⟨he e h, hf e h⟩
theorem deleteN_c {h : Heap} (g : Nat) (caps : List V) : C Tryz.prog 43 [.nils, .fn g caps] h (fun r h' => r = .nils ∧ h' = h) := by
  have ix : C Tryz.prog 73 [.nils, .fn g caps] h (fun r h' => r = .int .i64 (-1) ∧ h' = h) := by
    refine C.by mixed (cfn_ok Tryz.func73 ok73) rfl ?_
    simp (disch := omega) only [s73, go_sem]
    refine loopP_intro (fun m s => s.e 7 = .int .i64 0 ∧ s.e 8 = .int .i64 0 ∧ s.h = h) 0 ⟨by simp (disch := omega) only [go_sem], by simp (disch := omega) only [go_sem], rfl⟩ ?_
    rintro m e hp ⟨e7, e8, rfl⟩
    simp only at e7 e8
    simp (disch := omega) only [go_sem, e7, e8]
  refine C.by mixed (cfn_ok Tryz.func43 ok43) rfl ?_
  simp (disch := omega) only [s43, go_sem]
  refine C.go ix ?_
  rintro r h' ⟨rfl, rfl⟩
  simp (disch := omega) only [go_sem]
def noLog (t : Tr) (e : Expr) (k : Int) : Bool := !decide (k ∈ firstT t e) && decide (k ∈ mustT t)
def logT (t : Tr) (e : Expr) : List Int := (mayL t.flat).filter fun k => !noLog t e k
theorem log_len (t : Tr) (e : Expr) : (logT t e).length ≤ 8 := by
  have := List.length_filter_le (fun k => !noLog t e k) (mayL t.flat)
  have := canon_len fun k => decide ((k : Int) ∈ vars t.flat)
  unfold logT mayL at *
  omega
theorem first_len (t : Tr) (e : Expr) : (firstT t e).length ≤ 8 := canon_len _
theorem mustT_len (t : Tr) : (mustT t).length ≤ 8 := canon_len _
theorem may_len (xs : List Stmt) : (mayL xs).length ≤ 8 := canon_len _
theorem noLog_c {h : Heap} {L : List It} (t : Tr) (e : Expr) (i1 i2 : Nat) (r1 r2 : V) (k : Int) (S : Sep h (.k i2 [[r2]] :: .k i1 [[r1]] :: .p (mustT t) r2 :: .p (firstT t e) r1 :: L)) : C Tryz.prog 45 [.int .i64 k, .ptr i1 1 0 0, .ptr i2 1 0 0] h (fun r h' => r = .bool (noLog t e k) ∧ h' = h) := by
  have b1 := S.blk 1 rfl
  have b2 := S.blk 0 rfl
  have z1 := (S.pvv 3 rfl).1.2.1
  have z2 := (S.pvv 2 rfl).1.2.1
  have l1 := first_len t e
  have l2 := mustT_len t
  refine C.by mixed (cfn_ok Tryz.func45 ok45) rfl ?_
  simp (disch := omega) only [s45, go_sem, b1, b2, z1, z2]
  refine CP.goS (hasVar_c' (firstT t e) k (by omega)) rfl rfl (.cons (S.psnap 3 rfl) (.cons (.int _ _) (.nil _))) ?_
  simp (disch := omega) only [go_sem, b1, b2, z1, z2]
  refine condP_dec (fun h1 => ?_) (fun h1 => ?_)
  · simp (disch := omega) only [go_sem, b1, b2, z1, z2]
    simp [noLog, h1]
  · simp (disch := omega) only [go_sem, b1, b2, z1, z2]
    refine CP.goS (hasVar_c' (mustT t) k (by omega)) rfl rfl (.cons (S.psnap 2 rfl) (.cons (.int _ _) (.nil _))) ?_
    simp (disch := omega) only [go_sem, b1, b2, z1, z2]
    simp [noLog, h1]
theorem log_c (t : Tr) (xs : List Stmt) (e : Expr) (ht : t.ok = true) (hf : xs = t.flat) (hb : blockOk xs = true) (he : exprOk e = true) : Pt Tryz.prog 22 [.agg [.lst 6 (xs.map encStmt), .int .i64 e.op, .int .i64 e.a, .int .i64 e.b]] (logT t e) := by
  have hl := block_len hb
  have hk : taskOk ⟨xs, e⟩ = true := by simp [taskOk, hb, he]
  refine C.by mixed (cfn_ok Tryz.func22 ok22) rfl ?_
  simp (disch := omega) only [s22, go_sem]
  refine CP.go (taskOk_c ⟨xs, e⟩ (by simp only; omega)) rfl (refs_task1 _ ⟨xs, e⟩) ?_
  simp (disch := omega) only [go_sem, hk]
  have S0 : Sep [[[V.lst 6 (xs.map encStmt), .int .i64 e.op, .int .i64 e.a, .int .i64 e.b]]] [.k 0 [[V.lst 6 (xs.map encStmt), .int .i64 e.op, .int .i64 e.a, .int .i64 e.b]]] := ⟨[0], by simp, [0], [], rfl, ⟨rfl, rfl⟩, rfl⟩
  refine S0.goPt (first_c t xs e ht hf hb he) (.same (refs_task1 _ ⟨xs, e⟩)) fun r1 h1 X1 S1 r1o r1n r1c r1l => ?_
  have b1 := S1.blk 1 rfl
  simp (disch := omega) only [go_sem, b1, r1n]
  refine S1.goPt (must_c xs t ht hf hb) (.same (refs_arg _ _)) fun r2 h2 X2 S2 r2o r2n r2c r2l => ?_
  have b2 := S2.blk 2 rfl
  have b2' := fun t => heap_app (h' := t) b2
  have b3' : ∀ t, (h2 ++ t)[0]? = some [[V.lst 6 (xs.map encStmt), .int .i64 e.op, .int .i64 e.a, .int .i64 e.b]] := fun t => heap_app b2
  have S3 := (S2.newK [[r1]]).newK [[r2]]
  have e3 : (h2 ++ [[[r1]]] ++ [[[r2]]]) = h2 ++ [[[r1]], [[r2]]] := by simp
  have e4 : (h2 ++ [[[r1]]]).length = h2.length + 1 := by simp
  rw [e3, e4] at S3
  simp (disch := omega) only [go_sem, r1n, r2n, r1o, r2o, r1c, r2c, storeH, storeB, splice, b3']
  refine S3.goPt (may_c xs hb) (.same (refs_arg _ _)) fun r4 h4 X4 S4 r4o r4n r4c r4l => ?_
  simp (disch := omega) only [go_sem, r4n]
  have S5 : Sep h4 (.p (mayL xs) r4 :: .k (h2.length + 1) [[r2]] :: .k h2.length [[r1]] :: .p (mustT t) r2 :: .p (firstT t e) r1 :: [.k 0 [[V.lst 6 (xs.map encStmt), .int .i64 e.op, .int .i64 e.a, .int .i64 e.b]]]) := S4
  have hlog : logT t e = (mayL xs).filter fun k => !noLog t e k := by rw [logT, hf]
  rw [hlog]
  have hml := may_len xs
  refine Exists.elim S5.pret fun i5 o5 => ?_
  obtain ⟨ids, nd, i, j, e1, o, s⟩ := S5
  rcases o with ⟨rfl, ez, rfl⟩ | ⟨id, n, b, rfl, q2, q3, q4, q5, q6, rfl⟩
  · refine C.go (deleteN_c _ _) ?_
    rintro r h' ⟨rfl, rfl⟩
    simp (disch := omega) only [go_sem, r4n]
    rw [ez]
    exact ⟨[], .inl ⟨rfl, rfl, rfl⟩⟩
  · have S6 : Sep h4 (.k id b :: .k (h2.length + 1) [[r2]] :: .k h2.length [[r1]] :: .p (mustT t) r2 :: .p (firstT t e) r1 :: [.k 0 [[V.lst 6 (xs.map encStmt), .int .i64 e.op, .int .i64 e.a, .int .i64 e.b]]]) := ⟨ids, nd, [id], j, e1, ⟨rfl, q2⟩, s⟩
    have H : Hd h4 id n b (mayL xs) := ⟨q2, q3, q4, q5, rows1_flat q6, rows1_len q6⟩
    refine C.go (deleteF_c 45 [.ptr h2.length 1 0 0, .ptr (h2.length + 1) 1 0 0] (noLog t e) H (by omega) rfl (fun z _ h' off => noLog_c t e h2.length (h2.length + 1) r1 r2 z (S6.offK off))) ?_
    rintro r h' ⟨b', rfl, rfl, H'⟩
    simp (disch := omega) only [go_sem, r4n]
    exact ⟨[id], .inr ⟨id, n, b', rfl, H'.hb, H'.hn, H'.hz, H'.ht, rows1_of H'.hf H'.he, rfl⟩⟩
theorem Sep.ownAt {h : Heap} {L : List It} (S : Sep h L) (n : Nat) {zs : List Int} {r : V} (e : L[n]? = some (.v (.lst 1 (zs.map encI)) r)) {k : Nat} (hk : k < zs.length) : ∃ q, r = .own q 1 0 zs.length zs.length ∧ h[q]? = some (zs.map encI) := by
  obtain ⟨i, o⟩ := S.lst n e
  rcases (Owns.flat_ (flat_encI zs)).1 o with ⟨_, e, _⟩ | ⟨q, e1, e2, _⟩
  · have : zs = [] := by simpa using e
    subst this; simp at hk
  · exact ⟨q, by rw [e1, List.length_map], e2⟩
end Go.Av

namespace Go.Av
open Go.Proofs Go.RowKit
set_option linter.unusedVariables false
set_option linter.unusedSimpArgs false
set_option maxRecDepth 100000
set_option maxHeartbeats 4000000
def costK (k : Int) : Int := if k = 1 then 2 else if k = 2 then 5 else if k = 3 then 4 else if k = 4 then 1 else if k = 5 then 1 else 0
theorem cost_c (s : Stmt) (hs : stmtOk s = true) : CP Tryz.prog 67 [.agg (encStmt s)] (.int .i64 (costK s.kind)) [] := by
  have hk := stmt_kinds hs
  refine CP.by rfl mixed (cfn_ok Tryz.func67 ok67) rfl ?_
  simp (disch := omega) only [s67, go_sem, encStmt]
  refine CP.go (stmtOk_c s) rfl rfl ?_
  have hc : s.kind = 1 ∨ s.kind = 2 ∨ s.kind = 3 ∨ s.kind = 4 ∨ s.kind = 5 ∨ s.kind = 6 := by omega
  have tk : ∀ n : Int, n = s.kind → True := fun _ _ => trivial
  rcases hc with h | h | h | h | h | h <;>
    (simp (disch := omega) only [go_sem, hs, h]; simp [costK])
def timesS (s : Stmt) : Int := if s.kind = 5 then s.n else 1
def boundT : Tr → Int
  | .nil => 0
  | .one s r => costK s.kind + 3 + boundT r
  | .grp s a r => costK s.kind + timesS s * boundT a + boundT r
theorem stmt_times {s : Stmt} (h : stmtOk s = true) (hk : s.kind = 4 ∨ s.kind = 5) : 1 ≤ timesS s ∧ timesS s ≤ 5 ∧ timesS s = max 1 s.n := by
  unfold stmtOk at h
  split at h
  · cases h
  · split at h
    · cases h
    · split at h
      · omega
      · split at h
        · rename_i h5
          simp [within] at h
          unfold timesS
          rw [if_pos h5]; omega
        · rename_i h5
          simp at h
          unfold timesS
          rw [if_neg h5]; omega
theorem costK_bd (k : Int) : 0 ≤ costK k ∧ costK k ≤ 5 := by unfold costK; repeat' split <;> omega
theorem pow3_le {a b : Nat} (h : a ≤ b) : (3 : Int) ^ a ≤ 3 ^ b := by
  exact_mod_cast Nat.pow_le_pow_right (by omega) h
theorem pow3_pos (a : Nat) : (1 : Int) ≤ 3 ^ a := by
  have := pow3_le (Nat.zero_le a)
  simpa using this
theorem boundT_bd : ∀ (t : Tr), t.ok = true → 0 ≤ boundT t ∧ boundT t ≤ 8 * 3 ^ t.flat.length - 8
  | .nil, _ => by simp [boundT, Tr.flat]
  | .one s r, h => by
    obtain ⟨hs, hk, hr⟩ := Tr.one_ok h
    have ih := boundT_bd r hr
    have hc := costK_bd s.kind
    have hp := pow3_pos r.flat.length
    simp only [boundT, Tr.flat, List.length_cons, Int.pow_succ]
    omega
  | .grp s a r, h => by
    obtain ⟨hs, hk, ha, hr⟩ := Tr.grp_ok h
    have ih1 := boundT_bd a ha
    have ih2 := boundT_bd r hr
    have hc := costK_bd s.kind
    have ht := stmt_times hs hk
    have hm : 0 ≤ timesS s * boundT a ∧ timesS s * boundT a ≤ 5 * boundT a := by
      refine ⟨Int.mul_nonneg (by omega) ih1.1, Int.mul_le_mul_of_nonneg_right ht.2.1 ih1.1⟩
    have hl : (Tr.grp s a r).flat.length = (a.flat.length + r.flat.length) + 1 + 1 := by simp [Tr.flat]; omega
    have h1 := pow3_le (show a.flat.length ≤ a.flat.length + r.flat.length by omega)
    have h2 := pow3_le (show r.flat.length ≤ a.flat.length + r.flat.length by omega)
    have h3 := pow3_pos a.flat.length
    rw [hl, Int.pow_succ, Int.pow_succ]
    simp only [boundT]
    omega
theorem pow24 : (3 : Int) ^ 24 = 282429536481 := by decide
theorem bound_bd {t : Tr} (h : t.ok = true) (hl : t.flat.length ≤ 24) : 0 ≤ boundT t ∧ boundT t ≤ 2300000000000 := by
  have h1 := boundT_bd t h
  have h2 := pow3_le hl
  rw [pow24] at h2
  omega
def BoundC (t : Tr) : Prop := t.ok = true → ∀ xs : List Stmt, xs = t.flat → xs.length ≤ 24 → CP Tryz.prog 40 [.lst 6 (xs.map encStmt)] (.int .i64 (boundT t)) []
theorem boundC_step (sz : Nat) (ih : ∀ b : Tr, b.size < sz → BoundC b) (t : Tr) (hsz : t.size ≤ sz) : BoundC t := by
  intro ht xs hf hl
  have htb := bound_bd ht (by rw [← hf]; exact hl)
  refine CP.by rfl mixed (cfn_ok Tryz.func40 ok40) rfl ?_
  simp (disch := omega) only [s40, go_sem]
  refine loopP_intro (fun m s => ∃ (k : Nat) (r : Tr) (c : Int), k ≤ xs.length ∧ m = xs.length - k ∧ r.ok = true ∧ r.size ≤ sz ∧ r.flat.length ≤ 24 ∧ xs.drop k = r.flat ∧ 0 ≤ c ∧ c + boundT r = boundT t ∧ s.e 0 = .lst 6 (xs.map encStmt) ∧ s.e 3 = .int .i64 c ∧ s.e 4 = .int .i64 k) xs.length ⟨0, t, 0, by omega, by omega, ht, hsz, by rw [← hf]; exact hl, by simp [hf], by omega, by omega, by simp (disch := omega) only [go_sem], by simp (disch := omega) only [go_sem], by simp (disch := omega) only [go_sem]; rfl⟩ ?_
  rintro m e hp ⟨k, r, c, hk, rfl, hr, hrs, hrl, hdk, hc0, hcb, e0, e3, e4⟩
  simp only at e0 e3 e4
  have hrb := bound_bd hr hrl
  simp (disch := omega) only [go_sem, e0, e3, e4]
  refine condP_dec (fun hlt => ?_) (fun hlt => ?_)
  · have hlt' : k < xs.length := by omega
    have nxt : ∀ (e' : Nat → V) (hh : Heap) (q : Nat) (r' : Tr) (c' : Int), k < q → q ≤ xs.length → r'.ok = true → r'.size ≤ sz → r'.flat.length ≤ 24 → xs.drop q = r'.flat → 0 ≤ c' → c' + boundT r' = boundT t → e' 0 = .lst 6 (xs.map encStmt) → e' 3 = .int .i64 c' → e' 4 = .int .i64 q → @nextP (xs.length - k) ⟨e', hh⟩ ⟨fun m s => ∃ (k : Nat) (r : Tr) (c : Int), k ≤ xs.length ∧ m = xs.length - k ∧ r.ok = true ∧ r.size ≤ sz ∧ r.flat.length ≤ 24 ∧ xs.drop k = r.flat ∧ 0 ≤ c ∧ c + boundT r = boundT t ∧ s.e 0 = .lst 6 (xs.map encStmt) ∧ s.e 3 = .int .i64 c ∧ s.e 4 = .int .i64 k⟩ := fun e' hh q r' c' a1 a2 a3 a4 a5 a6 a7 a8 a9 b1 b2 =>
      nextP_intro (xs.length - q) (by omega) ⟨q, r', c', a2, rfl, a3, a4, a5, a6, a7, a8, a9, b1, b2⟩
    rcases r with _ | ⟨s, r⟩ | ⟨s, b, r⟩
    · have := congrArg List.length hdk
      simp [Tr.flat] at this
      omega
    · obtain ⟨hs, hkk, hr'⟩ := Tr.one_ok hr
      simp only [Tr.flat] at hdk hrl
      simp only [List.length_cons] at hrl
      simp only [Tr.size] at hrs
      simp only [boundT] at hcb hrb
      refine Exists.elim (drop_head hdk) fun hk0 z => ?_
      have hks := z.1
      have hd1 := z.2
      have hg : ∀ h : k < xs.length, xs[k] = s := fun _ => hks
      have hz := storeBox (h := hp) (z := [V.int .i64 0, .int .i64 0, .int .i64 0, .int .i64 0, .int .i64 0, .int .i64 0]) (x := .agg (encStmt s)) (sz := 6) rfl rfl
      simp only [cells_agg, encStmt] at hz
      have hc := costK_bd s.kind
      have hO : isOpening s.kind = false := by rcases hkk with h | h | h <;> simp [isOpening, h]
      have hrb2 := bound_bd hr' (by omega)
      simp (disch := omega) only [go_sem, e0, e3, e4, hg, hz, encStmt]
      refine CP.go (cost_c s hs) rfl rfl ?_
      simp (disch := omega) only [go_sem, e0, e3, e4]
      refine CP.go (isOpening_c s.kind) rfl rfl ?_
      simp (disch := omega) only [go_sem, e0, e3, e4, hO]
      exact nxt _ _ (k + 1) r (c + costK s.kind + 3) (by omega) (by omega) hr' (by omega) (by omega) hd1 (by omega) (by omega) (by simp (disch := omega) only [go_sem, e0, e3, e4, hO]) (by simp (disch := omega) only [go_sem, e0, e3, e4, hO]) (by simp (disch := omega) only [go_sem, e0, e3, e4, hO]; rfl)
    · obtain ⟨hs, hkk, hb', hr'⟩ := Tr.grp_ok hr
      simp only [Tr.flat] at hdk hrl
      simp only [List.length_cons, List.length_append] at hrl
      simp only [Tr.size] at hrs
      simp only [boundT] at hcb hrb
      refine Exists.elim (drop_head hdk) fun hk0 z => ?_
      have hks := z.1
      have hd1 := z.2
      have hd2 := drop_skip hd1
      refine Exists.elim (drop_head hd2) fun hk3 z => ?_
      have hd4 := z.2
      have hg : ∀ h : k < xs.length, xs[k] = s := fun _ => hks
      have hz := storeBox (h := hp) (z := [V.int .i64 0, .int .i64 0, .int .i64 0, .int .i64 0, .int .i64 0, .int .i64 0]) (x := .agg (encStmt s)) (sz := 6) rfl rfl
      simp only [cells_agg, encStmt] at hz
      have hen : endO 0 k (xs.drop k) = (k : Int) + 1 + b.flat.length := by rw [hdk]; exact endO_grp k _ hkk hb'
      have htm := take_mid (xs := xs) hdk
      have t1 : ((k : Int) + 1).toNat = k + 1 := by omega
      have t2 : ((k : Int) + 1 + b.flat.length).toNat = k + 1 + b.flat.length := by omega
      have hc := costK_bd s.kind
      have hO : isOpening s.kind = true := by rcases hkk with h | h <;> simp [isOpening, h]
      have ht := stmt_times hs hkk
      have hbb := bound_bd hb' (by omega)
      have hrb2 := bound_bd hr' (by omega)
      have hm : 0 ≤ timesS s * boundT b ∧ timesS s * boundT b ≤ 5 * boundT b := ⟨Int.mul_nonneg (by omega) hbb.1, Int.mul_le_mul_of_nonneg_right ht.2.1 hbb.1⟩
      simp (disch := omega) only [go_sem, e0, e3, e4, hg, hz, encStmt]
      refine CP.go (cost_c s hs) rfl rfl ?_
      simp (disch := omega) only [go_sem, e0, e3, e4]
      refine CP.go (isOpening_c s.kind) rfl rfl ?_
      simp (disch := omega) only [go_sem, e0, e3, e4, hO]
      refine CP.go (endO_c xs k (by omega) (by omega)) rfl (refs_args _ _ _) ?_
      simp (disch := omega) only [go_sem, e0, e3, e4, hen]
      have fin : ∀ T : Int, T = timesS s → True := fun _ _ => trivial
      refine condP_dec (fun h5 => ?_) (fun h5 => ?_)
      · have hT : timesS s = s.n := by rw [timesS, if_pos h5]
        rw [hT] at hm hcb ht hrb
        have hw : IntKind.wrap .i64 (s.n * boundT b) = s.n * boundT b := wrap64 (by omega) (by omega)
        simp (disch := omega) only [go_sem, e0, e3, e4, hen, t1, t2, htm]
        refine CP.go (ih b (by omega) hb' b.flat rfl (by omega)) rfl (refs_arg _ _) ?_
        simp (disch := omega) only [go_sem, e0, e3, e4, hen, hw]
        exact nxt _ _ (k + 1 + b.flat.length + 1) r (c + costK s.kind + s.n * boundT b) (by omega) (by omega) hr' (by omega) (by omega) hd4 (by omega) (by omega) (by simp (disch := omega) only [go_sem, e0, e3, e4, hen, hw]) (by simp (disch := omega) only [go_sem, e0, e3, e4, hen, hw]) (by simp (disch := omega) only [go_sem, e0, e3, e4, hen, hw]; exact congrArg (V.int .i64) (by omega))
      · have hT : timesS s = 1 := by rw [timesS, if_neg h5]
        rw [hT, Int.one_mul] at hm hcb hrb
        have hw : IntKind.wrap .i64 (1 * boundT b) = boundT b := by rw [Int.one_mul]; exact wrap64 (by omega) (by omega)
        simp (disch := omega) only [go_sem, e0, e3, e4, hen, t1, t2, htm]
        refine CP.go (ih b (by omega) hb' b.flat rfl (by omega)) rfl (refs_arg _ _) ?_
        simp (disch := omega) only [go_sem, e0, e3, e4, hen, hw]
        exact nxt _ _ (k + 1 + b.flat.length + 1) r (c + costK s.kind + boundT b) (by omega) (by omega) hr' (by omega) (by omega) hd4 (by omega) (by omega) (by simp (disch := omega) only [go_sem, e0, e3, e4, hen, hw]) (by simp (disch := omega) only [go_sem, e0, e3, e4, hen, hw]) (by simp (disch := omega) only [go_sem, e0, e3, e4, hen, hw]; exact congrArg (V.int .i64) (by omega))
  · have hke : k = xs.length := by omega
    subst hke
    have hz : r = .nil := by
      have hlen := congrArg List.length hdk
      rw [List.drop_length, List.length_nil] at hlen
      cases r with
      | nil => rfl
      | one s r => simp [Tr.flat] at hlen
      | grp s a r => simp [Tr.flat] at hlen
    subst hz
    simp only [boundT] at hcb
    simp (disch := omega) only [go_sem, e0, e3, e4]
    exact congrArg (V.int .i64) (by omega)
theorem bound_c (t : Tr) : BoundC t := by
  induction hn : t.size using Nat.strongRecOn generalizing t with
  | ind n ih => exact boundC_step n (fun b hb => ih b.size hb b rfl) t (by omega)
end Go.Av

namespace Go.Av
open Go.Proofs Go.RowKit
set_option linter.unusedVariables false
set_option linter.unusedSimpArgs false
set_option maxRecDepth 100000
set_option maxHeartbeats 4000000
theorem indexTaskF_c {h : Heap} (g : Nat) (caps : List V) (p : Task → Bool) (zs : List Task) (hg : ∀ z ∈ zs, ∀ h', Ext h h' → C Tryz.prog g (.agg (encTask z) :: caps) h' (fun r h'' => r = .bool (p z) ∧ Ext h' h'')) (hl : zs.length ≤ 9223372036854775807) : C Tryz.prog 15 [.lst 4 (zs.map encTask), .fn g caps] h (fun r h' => r = .int .i64 (idxI p zs) ∧ Ext h h') := by
  refine C.by mixed (cfn_ok Tryz.func15 ok15) rfl ?_
  simp (disch := omega) only [s15, go_sem]
  refine loopP_intro (fun m s => ∃ k : Nat, k ≤ zs.length ∧ m = zs.length - k ∧ s.e 0 = .lst 4 (zs.map encTask) ∧ s.e 1 = .fn g caps ∧ s.e 7 = .int .i64 zs.length ∧ s.e 8 = .int .i64 k ∧ Ext h s.h ∧ ∀ j (hj : j < zs.length), j < k → p zs[j] = false) zs.length ⟨0, by omega, by omega, rfl, rfl, by simp (disch := omega) only [go_sem], rfl, .refl _, fun j _ h => absurd h (by omega)⟩ ?_
  rintro m e hp ⟨k, hk, rfl, e0, e1, e7, e8, X, hall⟩
  simp only at e0 e1 e7 e8 X
  simp (disch := omega) only [go_sem, e0, e1, e7, e8, encTask]
  refine condP_dec (fun hlt => ?_) (fun hlt => ?_)
  · have hlt' : k < zs.length := by omega
    simp (disch := omega) only [go_sem, e0, e1, e7, e8, encTask]
    refine C.go (hg zs[k] (List.getElem_mem hlt') _ X) ?_
    rintro r h2 ⟨rfl, X2⟩
    simp (disch := omega) only [go_sem, e0, e1, e7, e8, encTask]
    refine condP_split (fun h => ?_) (fun h => ?_)
    · simp (disch := omega) only [go_sem, e0, e1, e7, e8, encTask]
      rw [idxI_found hlt' h hall]
      exact ⟨rfl, X.trans X2⟩
    · simp (disch := omega) only [go_sem, e0, e1, e7, e8, encTask]
      refine nextP_intro (zs.length - (k + 1)) (by omega) ⟨k + 1, by omega, rfl, ?_, ?_, ?_, ?_, X.trans X2, fun j hj hjk => ?_⟩
      · simp (disch := omega) only [go_sem, e0, e1, e7, e8, encTask]
      · simp (disch := omega) only [go_sem, e0, e1, e7, e8, encTask]
      · simp (disch := omega) only [go_sem, e0, e1, e7, e8, encTask]
      · simp (disch := omega) only [go_sem, e0, e1, e7, e8, encTask]; rfl
      · by_cases e : j = k
        · subst e; exact h
        · exact hall j hj (by omega)
  · simp (disch := omega) only [go_sem, e0, e1, e7, e8, encTask]
    rw [idxI_none (fun j hj => hall j hj (by omega))]
    exact ⟨rfl, X⟩
theorem containsTaskF_c {h : Heap} (g : Nat) (caps : List V) (p : Task → Bool) (zs : List Task) (hg : ∀ z ∈ zs, ∀ h', Ext h h' → C Tryz.prog g (.agg (encTask z) :: caps) h' (fun r h'' => r = .bool (p z) ∧ Ext h' h'')) (hl : zs.length ≤ 9223372036854775807) : C Tryz.prog 24 [.lst 4 (zs.map encTask), .fn g caps] h (fun r h' => r = .bool (zs.any p) ∧ Ext h h') := by
  refine C.by mixed (cfn_ok Tryz.func24 ok24) rfl ?_
  simp (disch := omega) only [s24, go_sem]
  refine C.go (indexTaskF_c g caps p zs hg hl) ?_
  rintro r h2 ⟨rfl, X⟩
  simp (disch := omega) only [go_sem, idxI_ge]
  exact X
def recCost (n : Nat) : Int := if n = 0 then 0 else 3 * ((n : Int) + 1)
theorem rec_c (n : Nat) (hn : n ≤ 8) : CP Tryz.prog 21 [.int .i64 n] (.int .i64 (recCost n)) [] := by
  refine CP.by rfl mixed (cfn_ok Tryz.func21 ok21) rfl ?_
  simp (disch := omega) only [s21, go_sem, within_dec]
  refine CP.go (within_c _ _ _) rfl rfl ?_
  simp (disch := omega) only [go_sem, within_dec]
  refine condP_dec (fun h => ?_) (fun h => ?_) <;> simp (disch := omega) only [go_sem, within_dec]
  · have : n = 0 := by omega
    subst this; rfl
  · rw [recCost, if_neg (by omega)]
noncomputable def treeOf (xs : List Stmt) : Tr := open Classical in if h : blockOk xs = true then (block_tree h).choose else .nil
theorem treeOf_ok {xs : List Stmt} (h : blockOk xs = true) : (treeOf xs).ok = true ∧ xs = (treeOf xs).flat ∧ xs.length ≤ 24 := by
  unfold treeOf
  rw [dif_pos h]
  exact (block_tree h).choose_spec
theorem task_facts {tk : Task} (h : taskOk tk = true) : blockOk tk.body = true ∧ exprOk tk.next = true := by
  simpa [taskOk] using h
noncomputable def taskB (tk : Task) : Int := if taskOk tk = true then boundT (treeOf tk.body) + 9 * ((logT (treeOf tk.body) tk.next).length : Int) + 1 + 3 else -1
noncomputable def bootB (tk : Task) : Int := if taskOk tk = true then taskB tk + recCost (logT (treeOf tk.body) tk.next).length else -1
theorem taskB_bd (tk : Task) : -1 ≤ taskB tk ∧ taskB tk ≤ 2300000000080 := by
  unfold taskB
  split
  · rename_i h
    obtain ⟨h1, h2⟩ := task_facts h
    obtain ⟨t1, t2, t3⟩ := treeOf_ok h1
    have := bound_bd t1 (by rw [← t2]; exact t3)
    have := log_len (treeOf tk.body) tk.next
    omega
  · omega
theorem bootB_bd (tk : Task) : -1 ≤ bootB tk ∧ bootB tk ≤ 2300000000200 := by
  unfold bootB
  have := taskB_bd tk
  have := log_len (treeOf tk.body) tk.next
  split
  · unfold recCost
    rename_i h
    have : 0 ≤ taskB tk := by
      unfold taskB
      rw [if_pos h]
      obtain ⟨h1, h2⟩ := task_facts h
      obtain ⟨t1, t2, t3⟩ := treeOf_ok h1
      have := bound_bd t1 (by rw [← t2]; exact t3)
      omega
    split <;> omega
  · omega
theorem taskB_c (tk : Task) (hb : tk.body.length ≤ 1048576) : CP Tryz.prog 20 [.agg (encTask tk)] (.int .i64 (taskB tk)) [] := by
  have hbd := taskB_bd tk
  refine CP.by rfl mixed (cfn_ok Tryz.func20 ok20) rfl ?_
  simp (disch := omega) only [s20, go_sem, encTask]
  refine CP.go (taskOk_c tk (by omega)) rfl (refs_task1 _ tk) ?_
  simp (disch := omega) only [go_sem, encTask]
  refine condP_split (fun hk => ?_) (fun hk => ?_)
  case' refine_2 =>
    simp (disch := omega) only [go_sem, encTask]
    rw [taskB, if_neg (by simp [hk])]
  obtain ⟨h1, h2⟩ := task_facts hk
  obtain ⟨t1, t2, t3⟩ := treeOf_ok h1
  have hv : taskB tk = boundT (treeOf tk.body) + 9 * ((logT (treeOf tk.body) tk.next).length : Int) + 1 + 3 := by rw [taskB, if_pos hk]
  have hbb := bound_bd t1 (by rw [← t2]; exact t3)
  have hll := log_len (treeOf tk.body) tk.next
  simp (disch := omega) only [go_sem, encTask]
  refine CP.go (bound_c (treeOf tk.body) t1 tk.body t2 t3) rfl (refs_arg _ _) ?_
  simp (disch := omega) only [go_sem, encTask]
  refine (Sep.nil _).goPt (log_c (treeOf tk.body) tk.body tk.next t1 t2 h1 h2) (.same (refs_task1 _ tk)) fun r h' X S ro rn rc rl => ?_
  simp (disch := omega) only [go_sem, rn, rl]
  rw [hv]
theorem bootB_c (tk : Task) (hb : tk.body.length ≤ 1048576) : CP Tryz.prog 8 [.agg (encTask tk)] (.int .i64 (bootB tk)) [] := by
  have hbd := bootB_bd tk
  refine CP.by rfl mixed (cfn_ok Tryz.func8 ok8) rfl ?_
  simp (disch := omega) only [s8, go_sem, encTask]
  refine CP.go (taskOk_c tk (by omega)) rfl (refs_task1 _ tk) ?_
  simp (disch := omega) only [go_sem, encTask]
  refine condP_split (fun hk => ?_) (fun hk => ?_)
  case' refine_2 =>
    simp (disch := omega) only [go_sem, encTask]
    rw [bootB, if_neg (by simp [hk])]
  obtain ⟨h1, h2⟩ := task_facts hk
  obtain ⟨t1, t2, t3⟩ := treeOf_ok h1
  have hv : bootB tk = taskB tk + recCost (logT (treeOf tk.body) tk.next).length := by rw [bootB, if_pos hk]
  have hll := log_len (treeOf tk.body) tk.next
  simp (disch := omega) only [go_sem, encTask]
  refine CP.go (taskB_c tk hb) rfl (refs_task1 _ tk) ?_
  simp (disch := omega) only [go_sem, encTask]
  refine (Sep.nil _).goPt (log_c (treeOf tk.body) tk.body tk.next t1 t2 h1 h2) (.same (refs_task1 _ tk)) fun r h' X S ro rn rc rl => ?_
  simp (disch := omega) only [go_sem, rn, rl]
  refine CP.go (rec_c _ hll) rfl rfl ?_
  simp (disch := omega) only [go_sem, rn, rl]
  rw [hv]
theorem refs_tasks (n : Nat) (ts : List Task) (x : V) (hx : V.refs n x = true) : V.refsL n [.lst 4 (ts.map encTask), x] = true := by
  simp [V.refsL, V.refs, refsLL_map encTask (refs_task n) ts, hx]
def programOk (ts : List Task) : Bool := within ts.length 1 6 && ts.all taskOk
theorem programOk_c (ts : List Task) (hl : ts.length ≤ 1048576) (hb : ∀ t ∈ ts, t.body.length ≤ 9223372036854775807) : CP Tryz.prog 23 [.agg [.lst 4 (ts.map encTask)]] (.bool (programOk ts)) [] := by
  have hn : (ts.any fun t => !taskOk t) = !ts.all taskOk := by rw [List.not_all_eq_any_not]
  refine CP.by rfl mixed (cfn_ok Tryz.func23 ok23) rfl ?_
  simp (disch := omega) only [s23, go_sem]
  refine CP.go (within_c _ _ _) rfl rfl ?_
  simp (disch := omega) only [go_sem]
  repeat' (first | (refine CP.go (containsTask_c 47 (fun t => !taskOk t) ts (fun t ht => notTaskOk_c t (hb t ht)) (by omega) (refs_tasks _ _ _ rfl)) rfl (refs_tasks _ _ _ rfl) ?_ <;> (try simp (disch := omega) only [go_sem])) | (refine condP_t (by assumption) ?_ <;> (try simp (disch := omega) only [go_sem])) | (refine condP_f (by assumption) ?_ <;> (try simp (disch := omega) only [go_sem])) | (refine condP_dec (fun h => ?_) (fun h => ?_) <;> (try simp (disch := omega) only [go_sem])) | (refine condP_split (fun h => ?_) (fun h => ?_) <;> (try simp (disch := omega) only [go_sem])))
  all_goals simp_all [programOk]
noncomputable def overB (on : Int) (tk : Task) : Bool := decide (on < bootB tk)
theorem refs_prog (n : Nat) (ts : List Task) : V.refs n (.agg [.lst 4 (ts.map encTask)]) = true := by simp [V.refs, V.refsL, refsLL_map encTask (refs_task n) ts]
theorem refs_prog1 (n : Nat) (ts : List Task) : V.refsL n [.agg [.lst 4 (ts.map encTask)]] = true := by simp only [V.refsL, refs_prog]; rfl
end Go.Av

namespace Go.Av
open Go.Proofs Go.RowKit
set_option linter.unusedVariables false
set_option linter.unusedSimpArgs false
set_option maxRecDepth 100000
theorem cut_step {xs : List Stmt} {k : Nat} (h : k < xs.length) : cutM xs (xs.length - k) k = (if depthOf xs k = 0 ∧ ¬ xs[k].kind = 6 then [(k : Int)] else []) ++ cutM xs (xs.length - (k + 1)) (k + 1) := by
  have e : xs.length - k = (xs.length - (k + 1)) + 1 := by omega
  rw [e]
  have e2 : (∀ h : k < xs.length, xs[k].kind = 6) ↔ xs[k].kind = 6 := ⟨fun g => g h, fun g _ => g⟩
  simp only [cutM, e2]
abbrev cutInv (xs : List Stmt) (sl sk : Nat) (m : Nat) (s : St) : Prop :=
  ∃ (k id : Nat) (cs : List Int), 1 ≤ k ∧ (k ≤ xs.length ∨ k = 1) ∧ m = xs.length - k ∧ cs.length ≤ k ∧ s.e 0 = .lst 6 (xs.map encStmt) ∧ s.e sk = .int .i64 k ∧ s.e sl = .own id 1 0 cs.length cs.length ∧ s.h[id]? = some (cs.map encI) ∧ cs ++ cutM xs (xs.length - k) k = cutM xs (xs.length - 1) 1
set_option maxHeartbeats 4000000 in
theorem cutPoints_c (xs : List Stmt) (hx : xs.length ≤ 1048576) (hb : blockOk xs = true) : CP Tryz.prog 17 [.lst 6 (xs.map encStmt)] (.own 0 1 0 (cutsM xs).length (cutsM xs).length) [(cutsM xs).map encI] := by
  have hcm : cutsM xs = cutM xs (xs.length - 1) 1 := by unfold cutsM; rw [if_pos hb]
  refine C.cpOwn (flat_encI _) (C.by mixed (cfn_ok Tryz.func17 ok17) rfl ?_)
  simp (disch := omega) only [s17, go_sem]
  refine CP.go (blockOk_c xs (by omega)) rfl (refs_arg _ _) ?_
  simp (disch := omega) only [go_sem, hb]
  refine loopP_intro (cutInv xs 3 4) (xs.length - 1) ⟨1, 0, [], by omega, by omega, rfl, by simp, rfl, rfl, rfl, rfl, rfl⟩ ?_
  rintro m e hp ⟨k, id, cs, hk1, hk2, rfl, hcl, e0, e4, e3, hid, hcs⟩
  simp only at e0 e4 e3 hid
  simp (disch := omega) only [go_sem, e0, e4, e3, encStmt]
  refine condP_dec (fun hlt => ?_) (fun hlt => ?_)
  · have hlt' : k < xs.length := by omega
    rw [cut_step hlt'] at hcs
    simp (disch := omega) only [go_sem, e0, e4, e3, encStmt]
    refine CP.go (depthOf_c xs k (by omega)) rfl (refs_args _ _ _) ?_
    simp (disch := omega) only [go_sem, e0, e4, e3, encStmt]
    repeat' (first | (refine condP_t (by assumption) ?_ <;> (try simp (disch := omega) only [go_sem, e0, e4, e3, encStmt])) | (refine condP_f (by assumption) ?_ <;> (try simp (disch := omega) only [go_sem, e0, e4, e3, encStmt])) | (refine condP_dec (fun h => ?_) (fun h => ?_) <;> (try simp (disch := omega) only [go_sem, e0, e4, e3, encStmt])) | (refine condP_split (fun h => ?_) (fun h => ?_) <;> (try simp (disch := omega) only [go_sem, e0, e4, e3, encStmt])))
    · refine nextP_intro (xs.length - (k + 1)) (by omega) ⟨k + 1, id, cs, by omega, by omega, rfl, by omega, ?_, ?_, ?_, ?_, ?_⟩
      · simp (disch := omega) only [go_sem, e0, e4, e3, encStmt]
      · simp (disch := omega) only [go_sem, e0, e4, e3, encStmt] <;> rfl
      · simp (disch := omega) only [go_sem, e0, e4, e3, encStmt]
      · exact hid
      · rw [← hcs, if_neg (by simp_all)]; simp
    · rw [append1 hid (List.length_map ..) (by omega)]
      simp (disch := omega) only [go_sem, e0, e4, e3, encStmt]
      refine nextP_intro (xs.length - (k + 1)) (by omega) ⟨k + 1, id, cs ++ [(k : Int)], by omega, by omega, rfl, by simp; omega, ?_, ?_, ?_, ?_, ?_⟩
      · simp (disch := omega) only [go_sem, e0, e4, e3, encStmt]
      · simp (disch := omega) only [go_sem, e0, e4, e3, encStmt] <;> rfl
      · simp (disch := omega) only [go_sem, e0, e4, e3, encStmt] <;> simp
      · simp only [List.map_append]; exact heap_set _ (heap_app hid)
      · rw [← hcs, if_pos ⟨by assumption, by assumption⟩]; simp
    · refine nextP_intro (xs.length - (k + 1)) (by omega) ⟨k + 1, id, cs, by omega, by omega, rfl, by omega, ?_, ?_, ?_, ?_, ?_⟩
      · simp (disch := omega) only [go_sem, e0, e4, e3, encStmt]
      · simp (disch := omega) only [go_sem, e0, e4, e3, encStmt] <;> rfl
      · simp (disch := omega) only [go_sem, e0, e4, e3, encStmt]
      · exact hid
      · rw [← hcs, if_neg (by simp_all)]; simp
  · simp (disch := omega) only [go_sem, e0, e4, e3, encStmt]
    refine ⟨id, ?_, ?_⟩
    · have : xs.length - k = 0 := by omega
      rw [this] at hcs
      rw [hcm, ← hcs]; simp [cutM]
    · have : xs.length - k = 0 := by omega
      rw [this] at hcs
      rw [hcm, ← hcs]; simpa [cutM] using hid
end Go.Av

namespace Go.Av
open Go.Proofs Go.RowKit
set_option linter.unusedVariables false
set_option linter.unusedSimpArgs false
set_option maxRecDepth 100000
set_option maxHeartbeats 4000000
theorem cutPoints_n (xs : List Stmt) (hx : xs.length ≤ 1048576) (hb : blockOk xs = false) : CP Tryz.prog 17 [.lst 6 (xs.map encStmt)] .nils [] := by
  refine CP.by rfl mixed (cfn_ok Tryz.func17 ok17) rfl ?_
  simp (disch := omega) only [s17, go_sem]
  refine CP.go (blockOk_c xs (by omega)) rfl (refs_arg _ _) ?_
  simp (disch := omega) only [go_sem, hb]
end Go.Av

namespace Go.Av
open Go.Proofs Go.RowKit
set_option linter.unusedVariables false
set_option linter.unusedSimpArgs false
set_option maxRecDepth 100000
set_option maxHeartbeats 4000000
theorem CP.f {P : Program} {f : FuncId} {args : List V} {sz n : Nat} {b : Blk} (hf : flat b = true) (hn : b.length = n) (h : CP P f args (.own 0 sz 0 n n) [b]) : F P f args (.lst sz b) :=
  C.mono h fun r h' ⟨_, _, g, _, e, hg⟩ => by
    subst e hn
    have := hg 0 b rfl
    rw [mapLL_refs0 (flat_refs 0 hf)] at this
    exact ⟨[g 0], by simp, Owns.own_flat this rfl hf⟩
theorem nin_ge {ids : List Nat} {n j : Nat} (h : ∀ i ∈ ids, n ≤ i) (hj : j < n) : j ∉ ids := fun hm => by have := h j hm; omega
theorem flat_Stmt (xs : List Stmt) : flat (xs.map encStmt) = true := by simp [flat, encStmt, V.scalar]
theorem refs_stmts1 (n : Nat) (xs : List Stmt) : V.refsL n [.lst 6 (xs.map encStmt)] = true := refs_arg _ _
theorem OwnsL.mkTask {h : Heap} {t : Task} {va : V} {ia : List Nat} (oa : Owns h (.lst 6 (t.body.map encStmt)) va ia) : OwnsL h (encTask t) [va, .int .i64 t.next.op, .int .i64 t.next.a, .int .i64 t.next.b] ia := by
  have := OwnsL.o oa (OwnsL.i (k := .i64) (n := t.next.op) (OwnsL.i (k := .i64) (n := t.next.a) (OwnsL.i (k := .i64) (n := t.next.b) OwnsL.e)))
  rw [List.append_nil] at this
  exact this
theorem OwnsL.task {h : Heap} {t : Task} {cs : List V} {ids : List Nat} (o : OwnsL h (encTask t) cs ids) : ∃ va, cs = [va, .int .i64 t.next.op, .int .i64 t.next.a, .int .i64 t.next.b] ∧ Owns h (.lst 6 (t.body.map encStmt)) va ids := by
  obtain ⟨c, cs', i, j, rfl, rfl, o1, o2⟩ := OwnsL.cons_.1 o
  obtain ⟨rfl, rfl⟩ := (OwnsL.scalars (by rfl)).1 o2
  exact ⟨c, rfl, by simpa using o1⟩
theorem Sep.progSnap {ts : List Task} {h : Heap} {L : List It} (S : Sep h L) (n : Nat) {v : V} (e : L[n]? = some (.v (.lst 4 (ts.map encTask)) v)) : Snap h (.agg [v]) (.agg [.lst 4 (ts.map encTask)]) :=
  Snap.ofSnaps (.cons (S.snap n e) (.nil _))
end Go.Av

namespace Go.Av
open Go.Proofs Go.RowKit
set_option linter.unusedVariables false
set_option linter.unusedSimpArgs false
set_option maxRecDepth 100000
set_option maxHeartbeats 4000000
def zer : List Int := List.replicate 8 0
theorem zer_ok : ∀ z ∈ zer, isValue z = true := fun z hz => by rw [List.eq_of_mem_replicate hz]; rfl
def looseB (n : Nat) (t : Task) : Bool := decide (t.next.a < 0) || decide (t.next.b < 0) || !(within (evalE zer t.next) 0 ((n : Int) - 1))
def rigidM (ts : List Task) : Bool := programOk ts && !(ts.any (looseB ts.length))
theorem reads_pos {e : Expr} (he : exprOk e = true) : 0 < (readsI e).length ↔ (e.a < 0 ∨ e.b < 0) := by
  rw [List.length_pos_iff_exists_mem]
  constructor
  · rintro ⟨k, hk⟩
    have := (mem_readsI he).1 hk
    unfold readsK at this; omega
  · rintro (h | h)
    · exact ⟨-1 - e.a, (mem_readsI he).2 ⟨by omega, .inl (by omega)⟩⟩
    · exact ⟨-1 - e.b, (mem_readsI he).2 ⟨by omega, .inr (by omega)⟩⟩
theorem refs_expr1 (n : Nat) (e : Expr) : V.refsL n [.agg (encExpr e)] = true := rfl
theorem loose_c (h : Heap) (ts : List Task) (tk : Task) (id zid jd : Nat) (he : exprOk tk.next = true) (hl : ts.length ≤ 1048576) (h1 : h[id]? = some [[.own zid 1 0 8 8]]) (h2 : h[zid]? = some (zer.map encI)) (h3 : h[jd]? = some [[.lst 4 (ts.map encTask)]]) :
    C Tryz.prog 25 [.agg (encTask tk), .ptr id 1 0 0, .ptr jd 1 0 0] h (fun r h' => r = .bool (looseB ts.length tk) ∧ Ext h h') := by
  obtain ⟨body, ⟨op, a, b⟩⟩ := tk
  simp only at he
  refine C.by mixed (cfn_ok Tryz.func25 ok25) rfl ?_
  simp (disch := omega) only [s25, go_sem, encTask]
  refine (Sep.nil _).goPt (readsOf_c ⟨op, a, b⟩) (.same (refs_expr1 _ ⟨op, a, b⟩)) fun r h' x1 S1 o1 n1 c1 l1 => ?_
  have X : Ext h h' := (Ext.app _ _).trans x1
  have b0 := x1.get (i := h.length) (b := [[.lst 6 (body.map encStmt), .int .i64 op, .int .i64 a, .int .i64 b]]) (by simp)
  have b1 := X.get h1
  have b2 := X.get h2
  have b3 := X.get h3
  have hrd := reads_pos he
  simp (disch := omega) only [go_sem, o1, n1, c1, l1, b0, b1, b2, b3]
  refine condP_dec (fun hp => ?_) (fun hp => ?_)
  · simp (disch := omega) only [go_sem, o1, n1, c1, l1, b0, b1, b2, b3]
    refine ⟨?_, X⟩
    have := hrd.1 (by omega)
    simp only [looseB]
    rcases this with q | q <;> simp only at q <;> simp [q]
  · simp (disch := omega) only [go_sem, o1, n1, c1, l1, b0, b1, b2, b3]
    refine CP.goS (eval_c zer ⟨op, a, b⟩ zer_ok rfl he) rfl rfl (.cons (Snap.flatN b2 rfl (flat_encI _)) (.cons (.same _ rfl) (.nil _))) ?_
    simp (disch := omega) only [go_sem, o1, n1, c1, l1, b0, b1, b2, b3]
    refine CP.go (within_c _ _ _) rfl rfl ?_
    simp (disch := omega) only [go_sem, o1, n1, c1, l1, b0, b1, b2, b3]
    refine ⟨?_, X⟩
    have hn : ¬ (a < 0 ∨ b < 0) := fun q => hp (by have := hrd.2 q; omega)
    simp only [looseB]
    simp [show ¬ a < 0 by omega, show ¬ b < 0 by omega]
theorem progOk_exprs {ts : List Task} (h : programOk ts = true) : ∀ t ∈ ts, exprOk t.next = true := fun t ht => by
  simp only [programOk, Bool.and_eq_true] at h
  have := List.all_eq_true.1 h.2 t ht
  simp only [taskOk, Bool.and_eq_true] at this
  exact this.2
theorem rigid_c (ts : List Task) (hl : ts.length ≤ 1048576) (hb : ∀ t ∈ ts, t.body.length ≤ 9223372036854775807) : CP Tryz.prog 9 [.agg [.lst 4 (ts.map encTask)]] (.bool (rigidM ts)) [] := by
  refine CP.by rfl mixed (cfn_ok Tryz.func9 ok9) rfl ?_
  simp (disch := omega) only [s9, go_sem]
  refine CP.go (programOk_c ts hl hb) rfl (refs_prog1 _ ts) ?_
  simp (disch := omega) only [go_sem]
  refine condP_split (fun hp => ?_) (fun hp => ?_)
  case' refine_2 =>
    simp (disch := omega) only [go_sem, hp]
    simp [rigidM, hp]
  simp (disch := omega) only [go_sem, hp]
  refine C.go (containsTaskF_c 25 [.ptr 2 1 0 0, .ptr 0 1 0 0] (looseB ts.length) ts (fun t ht h' X => loose_c h' ts t 2 1 0 (progOk_exprs hp t ht) hl (X.get rfl) (X.get rfl) (X.get rfl)) (by omega)) ?_
  rintro r h' ⟨rfl, X⟩
  simp (disch := omega) only [go_sem, hp]
  simp [rigidM, hp]
end Go.Av

namespace Go.Av
open Go.Proofs Go.RowKit
set_option linter.unusedVariables false
set_option linter.unusedSimpArgs false
set_option maxRecDepth 100000
set_option maxHeartbeats 4000000
theorem cloneS_f (xs : List Stmt) (hx : xs.length ≤ 1048576) : F Tryz.prog 38 [.lst 6 (xs.map encStmt)] (.lst 6 (xs.map encStmt)) := by
  refine C.by mixed (cfn_ok Tryz.func38 ok38) rfl ?_
  simp (disch := omega) only [s38, go_sem]
  have ha : appendH [[]] 6 48 (.own 0 6 0 0 0) (.lst 6 (xs.map encStmt)) = some (.own 0 6 0 (0 + xs.length) (0 + xs.length), ([[]] : Heap).set 0 ([] ++ xs.map encStmt)) := appendH_n (n := 0) (m := xs.length) (b := []) rfl rfl (by simp [elemsOf]) (by simp) (by omega)
  have hfin : ∃ ids : List Nat, ids.Nodup ∧ OwnsR [xs.map encStmt] (.lst 6 (xs.map encStmt)) (.own 0 6 0 xs.length xs.length) ids := ⟨[0], by simp, Owns.own_flat rfl (by simp) (flat_Stmt _)⟩
  cases xs with
  | nil =>
    simp only [isnilP, List.map_nil, List.isEmpty_nil, if_true]
    intro b
    cases b
    · simp (disch := omega) only [go_sem, ha]
      exact hfin
    · simp (disch := omega) only [go_sem]
      exact ⟨[], by simp, Owns.nils_⟩
  | cons x xs =>
    simp only [isnilP, List.map_cons, List.isEmpty_cons, Bool.false_eq_true, if_false]
    simp only [List.map_cons] at ha
    simp (disch := omega) only [go_sem, ha]
    exact hfin
theorem copyTask_f (t : Task) (hx : t.body.length ≤ 1048576) : F Tryz.prog 35 [.agg (encTask t)] (.agg (encTask t)) := by
  obtain ⟨body, ⟨op, a, b⟩⟩ := t
  refine C.by mixed (cfn_ok Tryz.func35 ok35) rfl ?_
  simp (disch := omega) only [s35, go_sem, encTask, storeH, storeB, splice]
  refine F.go (cloneS_f body hx) (.same (refs_stmts1 _ _)) fun r h1 ids x1 n1 g1 o1 => ?_
  have o1 := Owns.lstR.1 o1
  obtain ⟨ov, on, oc⟩ := o1.vv
  have b0 := x1.get (i := 0) rfl
  have b1 := x1.get (i := 1) rfl
  have c0 : ∀ c, (h1.set 0 c)[0]? = some c := fun c => heap_set _ b0
  have c1 : ∀ c, (h1.set 0 c)[1]? = some [[.nils, .int .i64 0, .int .i64 0, .int .i64 0]] := fun c => heap_set_ne _ (by omega) b1
  have c3 : ∀ c d, ((h1.set 0 c).set 1 d)[1]? = some d := fun c d => heap_set _ (c1 c)
  simp (disch := omega) only [go_sem, ov, on, oc, b0, b1, c0, c1, c3, storeH, storeB, splice]
  exact ⟨ids, n1, Owns.aggR.2 ⟨_, rfl, OwnsL.mkTask (t := ⟨body, ⟨op, a, b⟩⟩) ((o1.set _ (nin_ge g1 (by simp))).set _ (nin_ge g1 (by simp)))⟩⟩
theorem Sep.task {t : Task} {h : Heap} {L : List It} {r : V} (S : Sep h (.v (.agg (encTask t)) r :: L)) : ∃ va, r = .agg [va, .int .i64 t.next.op, .int .i64 t.next.a, .int .i64 t.next.b] ∧ Sep h (.l (encTask t) [va, .int .i64 t.next.op, .int .i64 t.next.a, .int .i64 t.next.b] :: L) ∧ (V.one va = true ∧ V.nohole va = va ∧ V.cells va = [va]) := by
  obtain ⟨cs, rfl, S1⟩ := sep_agg.1 S
  obtain ⟨i, _, o⟩ := S1.nth 0 rfl
  obtain ⟨va, rfl, o'⟩ := OwnsL.task o
  exact ⟨va, rfl, S1, o'.vv⟩
theorem Sep.goTask {P : Program} {f : FuncId} {args args' : List V} {t : Task} {h : Heap} {L : List It} {K : V → Heap → Prop} (S : Sep h L) (hf : F P f args' (.agg (encTask t))) (hs : Snaps h args args')
    (hk : ∀ va h', Ext h h' → Sep h' (.l (encTask t) [va, .int .i64 t.next.op, .int .i64 t.next.a, .int .i64 t.next.b] :: L) → V.one va = true → V.nohole va = va → V.cells va = [va] → K (.agg [va, .int .i64 t.next.op, .int .i64 t.next.a, .int .i64 t.next.b]) h') : @callP P f args h ⟨K⟩ :=
  S.go hf hs fun r h' x S1 => by
    obtain ⟨va, rfl, S2, z⟩ := S1.task
    exact hk va h' x S2 z.1 z.2.1 z.2.2
theorem Sep.prog {h : Heap} {ts : List Task} {v : V} {L : List It} (S : Sep h (.v (.lst 4 (ts.map encTask)) v :: L)) : ∃ ids : List Nat, ids.Nodup ∧ OwnsR h (.agg [.lst 4 (ts.map encTask)]) (.agg [v]) ids :=
  ((Sep.cons2 (fun es e => by cases e) ((Sep.perm (List.Perm.swap _ _ _) (Sep.l0 S)))).a).ret
theorem take_push {ts : List Task} {k : Nat} (h : k < ts.length) : (ts.take k).map encTask ++ [encTask ts[k]] = (ts.take (k + 1)).map encTask := by
  rw [List.take_succ_eq_append_getElem h, List.map_append]; rfl
theorem copyProg_f (ts : List Task) (hx : ts.length ≤ 1048576) (hb : ∀ t ∈ ts, t.body.length ≤ 1048576) : F Tryz.prog 14 [.agg [.lst 4 (ts.map encTask)]] (.agg [.lst 4 (ts.map encTask)]) := by
  refine C.by mixed (cfn_ok Tryz.func14 ok14) rfl ?_
  simp (disch := omega) only [s14, go_sem, storeH, storeB, splice]
  have S0 : Sep ([[[.lst 4 (ts.map encTask)]], [[.nils]], [[.nils]]] : Heap) [.k 2 [[.nils]], .k 1 [[.nils]], .k 0 [[.lst 4 (ts.map encTask)]]] := (((Sep.nil []).newK _).newK _).newK _
  have S0' := (S0.nils (sz := 4)).pick [1, 2, 0] (by decide)
  refine loopP_intro (fun m s => ∃ k : Nat, ∃ v : V, k ≤ ts.length ∧ m = ts.length - k ∧ s.e 8 = .lst 4 (ts.map encTask) ∧ s.e 10 = .int .i64 k ∧ s.e 9 = .int .i64 ts.length ∧ s.e 3 = .ptr 2 1 0 0 ∧ s.e 2 = .ptr 1 1 0 0 ∧ Sep s.h [.k 2 [[v]], .k 1 [[.nils]], .v (.lst 4 ((ts.take k).map encTask)) v]) ts.length ⟨0, .nils, by omega, by omega, rfl, rfl, rfl, rfl, rfl, S0'⟩ ?_
  intro m e hp P
  refine Exists.elim P fun k P => Exists.elim P fun v P => ?_
  have hk := P.1
  have hm := P.2.1
  have e8 := P.2.2.1
  have e10 := P.2.2.2.1
  have e9 := P.2.2.2.2.1
  have e3 := P.2.2.2.2.2.1
  have e2 := P.2.2.2.2.2.2.1
  have S1 := P.2.2.2.2.2.2.2
  clear P
  subst hm
  simp only at e8 e10 e9 e3 e2 S1
  simp (disch := omega) only [go_sem, e8, e10, e9, e3, e2]
  refine condP_dec (fun hlt => ?_) (fun hlt => ?_)
  · have hlt' : k < ts.length := by omega
    have S2 := S1.newK [[.lst 6 (ts[k].body.map encStmt), .int .i64 ts[k].next.op, .int .i64 ts[k].next.a, .int .i64 ts[k].next.b]]
    have K2 := S2.blk 0 rfl
    have V2 := S2.blk 1 rfl
    have z2 := (S2.vv 3 rfl)
    simp (disch := omega) only [go_sem, e8, e10, e9, e3, e2, K2, V2, encTask, z2.1, z2.2.1, z2.2.2]
    refine S2.goTask (copyTask_f ts[k] (hb _ (List.getElem_mem hlt'))) (.same (refs_task1 _ ts[k])) fun va h3 x3 S3 va1 va2 va3 => ?_
    have S4 := S3.newK [[va, .int .i64 ts[k].next.op, .int .i64 ts[k].next.a, .int .i64 ts[k].next.b]]
    have S5 := S4.pick [5, 1, 3, 4] (by decide)
    have hpu := S5.push (bytes := 48) (S4.blk 0 rfl) (by simp; omega)
    refine Exists.elim hpu fun v' q => Exists.elim q fun h5 q => ?_
    have hap := q.1
    have V3 := S3.blk 2 rfl
    have V4 := S4.blk 3 rfl
    have S6 := q.2
    clear q hpu
    have z6 := S6.vv 0 rfl
    have V6 := S6.blk 1 rfl
    simp (disch := omega) only [go_sem, e8, e10, e9, e3, e2, va1, va2, va3, hap, V3, V4, V6, z6.1, z6.2.1, z6.2.2, storeH, storeB, splice, z2.1, z2.2.1, z2.2.2]
    have e6 : (ts.take k).map encTask ++ [encTask ts[k]] = (ts.take (k + 1)).map encTask := take_push hlt'
    rw [e6] at S6
    have S7 := ((S6.pull 1).setK [[v']]).pick [0, 2, 1] (by decide)
    exact nextP_intro (ts.length - (k + 1)) (by omega) ⟨k + 1, v', by omega, rfl, by simp (disch := omega) only [go_sem, e8, e10, e9, e3, e2, va1, va2, va3, hap, V3, V4, V6, z6.1, z6.2.1, z6.2.2, storeH, storeB, splice, z2.1, z2.2.1, z2.2.2], by simp (disch := omega) only [go_sem, e8, e10, e9, e3, e2, va1, va2, va3, hap, V3, V4, V6, z6.1, z6.2.1, z6.2.2, storeH, storeB, splice, z2.1, z2.2.1, z2.2.2]; rfl, by simp (disch := omega) only [go_sem, e8, e10, e9, e3, e2, va1, va2, va3, hap, V3, V4, V6, z6.1, z6.2.1, z6.2.2, storeH, storeB, splice, z2.1, z2.2.1, z2.2.2], by simp (disch := omega) only [go_sem, e8, e10, e9, e3, e2, va1, va2, va3, hap, V3, V4, V6, z6.1, z6.2.1, z6.2.2, storeH, storeB, splice, z2.1, z2.2.1, z2.2.2], by simp (disch := omega) only [go_sem, e8, e10, e9, e3, e2, va1, va2, va3, hap, V3, V4, V6, z6.1, z6.2.1, z6.2.2, storeH, storeB, splice, z2.1, z2.2.1, z2.2.2], S7⟩
  · have : k = ts.length := by omega
    subst this
    rw [List.take_length] at S1
    have K1 := S1.blk 0 rfl
    have V1 := S1.blk 1 rfl
    have z1 := S1.vv 2 rfl
    have c1 : ∀ d, (hp.set 1 d)[1]? = some d := fun d => heap_set _ V1
    simp (disch := omega) only [go_sem, e8, e10, e9, e3, e2, K1, V1, c1, z1.1, z1.2.1, z1.2.2, storeH, storeB, splice]
    exact (((S1.pick [1, 2] (by decide)).setK [[v]]).drop1).prog
theorem Sep.mkTask {t : Task} {h : Heap} {L : List It} {va : V} (S : Sep h (.v (.lst 6 (t.body.map encStmt)) va :: L)) : Sep h (.l (encTask t) [va, .int .i64 t.next.op, .int .i64 t.next.a, .int .i64 t.next.b] :: L) :=
  Sep.cons2 (fun es e => by cases e) (Sep.perm (List.Perm.swap _ _ _) (Sep.li (Sep.li (Sep.li (Sep.l0 S)))))
end Go.Av

namespace Go.Av
open Go.Proofs Go.RowKit
set_option linter.unusedVariables false
set_option linter.unusedSimpArgs false
set_option maxRecDepth 100000
set_option maxHeartbeats 4000000
theorem Snap.part {h : Heap} {id sz n : Nat} {b : Blk} (o u : Nat) (hb : h[id]? = some b) (hn : b.length = n) (hu : o + u ≤ n) (hf : Av.flat b = true) : Snap h (.own id sz o u n) (.lst sz ((b.drop o).take u)) := by
  subst hn
  have get : ∀ (i : Nat) (d : List V), ((b.drop o).take u)[i]? = some d → b[o + i]? = some d := fun i d h2 => by
    have hi : i < u := by have := (List.getElem?_eq_some_iff.1 h2).1; simp at this; omega
    rw [List.getElem?_take_of_lt hi, List.getElem?_drop] at h2; exact h2
  refine .own hb rfl hu (by simp; omega) (fun i e d h1 h2 => ?_) (fun i e d j c x h1 h2 h3 h4 => ?_)
  · have := get i d h2
    rw [h1] at this; cases this; rfl
  · have := get i d h2
    rw [h1] at this; cases this
    rw [h3] at h4; cases h4
    exact Snap.of_scalar h (flat_get hf h1 h3)
def splitM (ts : List Task) (t k : Nat) : List Task := match ts[t]? with
  | some tk => ts.set t ⟨tk.body.take k, ⟨1, ts.length, 0⟩⟩ ++ [⟨tk.body.drop k, tk.next⟩]
  | none => ts
theorem splitM_eq {ts : List Task} {t k : Nat} (ht : t < ts.length) : splitM ts t k = ts.set t ⟨ts[t].body.take k, ⟨1, ts.length, 0⟩⟩ ++ [⟨ts[t].body.drop k, ts[t].next⟩] := by
  unfold splitM; rw [List.getElem?_eq_getElem ht]
theorem splitM_map {ts : List Task} {t k : Nat} (ht : t < ts.length) : (splitM ts t k).map encTask = (ts.map encTask).set t (encTask ⟨ts[t].body.take k, ⟨1, ts.length, 0⟩⟩) ++ [encTask ⟨ts[t].body.drop k, ts[t].next⟩] := by
  rw [splitM_eq ht, List.map_append, List.map_set]; rfl
theorem Sep.goCopy {P : Program} {f : FuncId} {args args' : List V} {ts : List Task} {h : Heap} {L : List It} {K : V → Heap → Prop} (S : Sep h L) (hf : F P f args' (.agg [.lst 4 (ts.map encTask)])) (hs : Snaps h args args')
    (hk : ∀ v h', Ext h h' → Sep h' (.v (.lst 4 (ts.map encTask)) v :: L) → V.one v = true → V.nohole v = v → V.cells v = [v] → K (.agg [v]) h') : @callP P f args h ⟨K⟩ :=
  S.go hf hs fun r h' x S1 => by
    obtain ⟨_, rfl, S2⟩ := sep_agg.1 S1
    obtain ⟨c, _, rfl, S3⟩ := sep_ll.1 S2
    obtain ⟨rfl, S4⟩ := sep_l0.1 S3
    have S5 := S4.rot
    have z := S5.vv 0 rfl
    exact hk c h' x S5 z.1 z.2.1 z.2.2
theorem Sep.taskRow {h : Heap} {L : List It} (S : Sep h L) (n : Nat) {ts : List Task} {v : V} {t : Nat} (e : L[n]? = some (.v (.lst 4 (ts.map encTask)) v)) (ht : t < ts.length) (hb : 0 < ts[t].body.length) :
    ∃ id b vid, v = .own id 4 0 ts.length ts.length ∧ h[id]? = some b ∧ b.length = ts.length ∧ b[t]? = some [.own vid 6 0 ts[t].body.length ts[t].body.length, .int .i64 ts[t].next.op, .int .i64 ts[t].next.a, .int .i64 ts[t].next.b] ∧ h[vid]? = some (ts[t].body.map encStmt) := by
  obtain ⟨id, b, c, i, e1, e2, e3, e4, o⟩ := S.row n e (k := t) (d := encTask ts[t]) (by simp [ht])
  obtain ⟨va, rfl, o'⟩ := o.task
  rcases (Owns.flat_ (flat_Stmt _)).1 o' with ⟨_, q, _⟩ | ⟨vid, q1, q2, _⟩
  · have : ts[t].body = [] := by simpa using q
    rw [this] at hb; simp at hb
  · refine ⟨id, b, vid, by simpa using e1, e2, by simpa using e3, ?_, q2⟩
    rw [q1] at e4
    simpa using e4
theorem split_f (ts : List Task) (t k : Nat) (hx : ts.length ≤ 1048576) (hb : ∀ t ∈ ts, t.body.length ≤ 1048576) (ht : t < ts.length) (hk0 : 0 < k) (hk : k < ts[t].body.length) : F Tryz.prog 18 [.agg [.lst 4 (ts.map encTask)], .int .i64 t, .int .i64 k] (.agg [.lst 4 ((splitM ts t k).map encTask)]) := by
  have hbt := hb _ (List.getElem_mem ht)
  refine C.by mixed (cfn_ok Tryz.func18 ok18) rfl ?_
  simp (disch := omega) only [s18, go_sem, storeH, storeB, splice]
  have S0 : Sep ([[[.lst 4 (ts.map encTask)]], [[.nils]]] : Heap) [.k 1 [[.nils]], .k 0 [[.lst 4 (ts.map encTask)]]] := ((Sep.nil []).newK _).newK _
  refine S0.goCopy (copyProg_f ts hx hb) (.same (refs_prog1 _ _)) fun v1 h1 x1 S1 o1 n1 c1 => ?_
  refine Exists.elim (S1.taskRow 0 rfl ht (by omega)) fun id q => Exists.elim q fun b q => Exists.elim q fun vid q => ?_
  have q1 := q.1
  have q2 := q.2.1
  have q3 := q.2.2.1
  have q4 := q.2.2.2.1
  have q5 := q.2.2.2.2
  clear q
  subst q1
  have hid := heap_lt q2
  have hvid := heap_lt q5
  have u2 := fun r => heap_app (h' := r) q2
  have u5 := fun r => heap_app (h' := r) q5
  simp (disch := omega) only [go_sem, q2, q3, q4, q5, u2, u5, o1, n1, c1, storeH, storeB, splice]
  have S3 : Sep (h1 ++ [[[.own id 4 0 ts.length ts.length]], [[.own vid 6 0 ts[t].body.length ts[t].body.length, .int .i64 ts[t].next.op, .int .i64 ts[t].next.a, .int .i64 ts[t].next.b]]]) [.k (h1.length + 1) [[.own vid 6 0 ts[t].body.length ts[t].body.length, .int .i64 ts[t].next.op, .int .i64 ts[t].next.a, .int .i64 ts[t].next.b]], .k h1.length [[.own id 4 0 ts.length ts.length]], .v (.lst 4 (ts.map encTask)) (.own id 4 0 ts.length ts.length), .k 1 [[.nils]], .k 0 [[.lst 4 (ts.map encTask)]]] := by
    have w := (S1.newK [[.own id 4 0 ts.length ts.length]]).newK [[.own vid 6 0 ts[t].body.length ts[t].body.length, .int .i64 ts[t].next.op, .int .i64 ts[t].next.a, .int .i64 ts[t].next.b]]
    rw [List.append_assoc, List.length_append] at w
    exact w
  have em : ((ts[t].body.map encStmt).drop k).take (ts[t].body.length - k) = (ts[t].body.drop k).map encStmt := by
    rw [← List.map_drop, List.take_of_length_le (by simp)]
  have sn1 := Snap.part (sz := 6) (n := ts[t].body.length) k (ts[t].body.length - k) (u5 [[[.own id 4 0 ts.length ts.length]], [[.own vid 6 0 ts[t].body.length ts[t].body.length, .int .i64 ts[t].next.op, .int .i64 ts[t].next.a, .int .i64 ts[t].next.b]]]) (by simp) (by omega) (flat_Stmt _)
  rw [em] at sn1
  refine S3.goLst (cloneS_f (ts[t].body.drop k) (by simp; omega)) (.cons sn1 (.nil _)) fun r1 h3 x3 S4 ro rn rc => ?_
  have p8 := S4.blk 1 rfl
  have p7 := S4.blk 2 rfl
  have v3 := x3.get (u5 _)
  have i3 := x3.get (u2 _)
  have S5 := S4.newK [[r1, .int .i64 ts[t].next.op, .int .i64 ts[t].next.a, .int .i64 ts[t].next.b]]
  have p8' := S5.blk 2 rfl
  have p7' := S5.blk 3 rfl
  have k0' := S5.blk 6 rfl
  have v3' := fun r => heap_app (h' := r) v3
  have i3' := fun r => heap_app (h' := r) i3
  simp (disch := omega) only [go_sem, q3, q4, ro, rn, rc, p8, p7, v3, i3, p8', p7', k0', v3', i3', storeH, storeB, splice]
  have sn2 := Snap.head (sz := 6) (n := ts[t].body.length) k (v3' [[[r1, .int .i64 ts[t].next.op, .int .i64 ts[t].next.a, .int .i64 ts[t].next.b]]]) (by simp) (by omega) (flat_Stmt _)
  rw [← List.map_take] at sn2
  refine S5.goLst (cloneS_f (ts[t].body.take k) (by simp; omega)) (.cons sn2 (.nil _)) fun r2 h5 x5 S6 r2o r2n r2c => ?_
  have k7 := S6.blk 4 rfl
  have k8 := S6.blk 3 rfl
  have k0 := S6.blk 7 rfl
  have i5 := x5.get (i3' _)
  have S7 := ((S6.pull 2).mkTask (t := ⟨ts[t].body.drop k, ts[t].next⟩)).pull 1
  have S8 := (S7.mkTask (t := ⟨ts[t].body.take k, ⟨1, ts.length, 0⟩⟩)).pull 5
  refine Exists.elim (S8.rowSet (k := t) (by simp [ht])) fun id' q => Exists.elim q fun b' q => ?_
  have w1 := q.1
  have w2 := q.2.1
  have w3 := q.2.2.1
  have w4 := q.2.2.2.1
  have S9 := q.2.2.2.2
  clear q
  injection w1 with e1
  subst e1
  have e2 := Option.some.inj (w2.symm.trans i5)
  subst e2
  have y7 := S9.blk 4 rfl
  have y9 := S9.blk 2 rfl
  have S10 := S9.newK [[r1, .int .i64 ts[t].next.op, .int .i64 ts[t].next.a, .int .i64 ts[t].next.b]]
  have S11 := S10.pick [1, 2, 5, 6] (by decide)
  have hpu := S11.push (bytes := 48) (S10.blk 0 rfl) (by simp; omega)
  refine Exists.elim hpu fun v' q => Exists.elim q fun h7 q => ?_
  have hap := q.1
  have S12 : Sep h7 [.v (.lst 4 ((splitM ts t k).map encTask)) v', .k h1.length [[.own id 4 0 ts.length ts.length]], .k 1 [[.nils]]] := by
    rw [splitM_map ht]; exact q.2
  clear q hpu
  have z12 := S12.vv 0 rfl
  have y12 := S12.blk 1 rfl
  have S13 := ((S12.pull 1).setK [[v']])
  have y13 := S13.blk 0 rfl
  have y1 := S13.blk 2 rfl
  have y1' : ∀ d, ((h7.set h1.length [[v']]).set 1 d)[1]? = some d := fun d => heap_set _ y1
  simp (disch := omega) only [go_sem, q3, r2o, r2n, r2c, k0, k7, k8, w2, q4, y7, y9, ro, rn, rc, hap, z12.1, z12.2.1, z12.2.2, y12, y13, y1, y1', storeH, storeB, splice]
  exact (((S13.pull 2).setK [[v']]).drop1.drop1).prog
end Go.Av

namespace Go.Av
open Go.Proofs Go.RowKit
set_option linter.unusedVariables false
set_option linter.unusedSimpArgs false
set_option maxRecDepth 100000
set_option maxHeartbeats 4000000
theorem range_pick {α : Type} : ∀ L : List α, (List.range L.length).filterMap (L[·]?) = L
  | [] => rfl
  | x :: xs => by
    have ih := range_pick xs
    rw [List.length_cons, List.range_succ_eq_map]
    simp only [List.filterMap_cons, List.getElem?_cons_zero, List.filterMap_map]
    exact congrArg (x :: ·) ih
theorem shift_pick {α : Type} (A L : List α) : ((List.range L.length).map (· + A.length)).filterMap ((A ++ L)[·]?) = L := by
  rw [List.filterMap_map]
  have : ((fun x => (A ++ L)[x]?) ∘ fun x => x + A.length) = fun i => L[i]? := by
    funext i
    simp only [Function.comp]
    rw [List.getElem?_append_right (by omega), Nat.add_sub_cancel]
  rw [this]
  exact range_pick L
theorem fm_congr {α β : Type} {f g : α → Option β} : ∀ {l : List α}, (∀ x ∈ l, f x = g x) → l.filterMap f = l.filterMap g
  | [], _ => rfl
  | x :: xs, h => by
    have ih := fm_congr (l := xs) fun y hy => h y (by simp [hy])
    simp only [List.filterMap_cons, h x (by simp), ih]
theorem Sep.pk {h : Heap} {A L : List It} (is : List Nat) (S : Sep h (A ++ L)) (hn : (decide is.Nodup && is.all fun i => decide (i < A.length)) = true) : Sep h (is.filterMap (A[·]?) ++ L) := by
  simp only [Bool.and_eq_true, decide_eq_true_eq, List.all_eq_true] at hn
  have p := S.pick (is ++ (List.range L.length).map (· + A.length)) (by
    rw [List.nodup_append]
    refine ⟨hn.1, List.Pairwise.map _ (fun a b (e : a ≠ b) => show a + A.length ≠ b + A.length by omega) List.nodup_range, fun a ha b hb e => ?_⟩
    subst e
    obtain ⟨c, _, rfl⟩ := List.mem_map.1 hb
    have := hn.2 _ ha
    omega)
  rw [List.filterMap_append, shift_pick] at p
  have e : is.filterMap ((A ++ L)[·]?) = is.filterMap (A[·]?) := fm_congr fun i hi => List.getElem?_append_left (hn.2 i hi)
  rwa [e] at p
theorem Sep.setApp {h : Heap} {l : Nat} {b : Blk} {L : List It} (S : Sep h (.k l b :: L)) (xs : Blk) : Sep (h.set l (b ++ xs)) (.k l (b ++ xs) :: L) := S.setK _
theorem Sep.push1 {h : Heap} {l : Nat} {b : Blk} {L : List It} (S : Sep h (.k l b :: L)) (c : List V) : Sep ((h ++ [[c]]).set l (b ++ [c])) (.k l (b ++ [c]) :: L) := (S.app _).setK _
end Go.Av

namespace Go.Av
open Go.Proofs Go.RowKit
set_option linter.unusedVariables false
set_option linter.unusedSimpArgs false
set_option maxRecDepth 100000
set_option maxHeartbeats 4000000
def cutsAt (ts : List Task) (t : Int) : List Int := match ts[t.toNat]? with
  | some tk => cutsM tk.body
  | none => []
theorem cutM_mem (l : List Stmt) : ∀ (d i : Nat) (k : Int), k ∈ cutM l d i → (i : Int) ≤ k ∧ k < i + d
  | 0, i, k, h => absurd h List.not_mem_nil
  | d + 1, i, k, h => by
    rw [cutM, List.mem_append] at h
    rcases h with h | h
    · split at h
      · have := List.mem_singleton.1 h; omega
      · exact absurd h List.not_mem_nil
    · have := cutM_mem l d (i + 1) k h; omega
theorem cutsM_len (xs : List Stmt) : (cutsM xs).length ≤ xs.length := by
  unfold cutsM; split
  · have := cutM_len xs (xs.length - 1) 1; omega
  · simp
theorem cut_pos {xs : List Stmt} {k : Int} (h : k ∈ cutsM xs) : 1 ≤ k ∧ k < xs.length := by
  unfold cutsM at h
  split at h
  · have := cutM_mem xs (xs.length - 1) 1 k h; omega
  · exact absurd h List.not_mem_nil
theorem Sep.progB {h : Heap} {ts : List Task} {v : V} {b : Bool} {L : List It} (S : Sep h (.v (.lst 4 (ts.map encTask)) v :: L)) : ∃ ids : List Nat, ids.Nodup ∧ OwnsR h (.tup [.agg [.lst 4 (ts.map encTask)], .bool b]) (.tup [.agg [v], .bool b]) ids :=
  ((Sep.cons2 (fun es e => by cases e) (Sep.perm (List.Perm.swap _ _ _) (Sep.lb (Sep.l0 ((Sep.cons2 (fun es e => by cases e) ((Sep.perm (List.Perm.swap _ _ _) (Sep.l0 S)))).a))))).t).ret
theorem cutsAt_eq {ts : List Task} {t : Int} {n : Nat} (hn : t = n) (h : n < ts.length) : cutsAt ts t = cutsM ts[n].body := by
  subst hn; unfold cutsAt; rw [Int.toNat_natCast, List.getElem?_eq_getElem h]
end Go.Av

namespace Go.Av
open Go.Proofs Go.RowKit
set_option linter.unusedVariables false
set_option linter.unusedSimpArgs false
set_option maxRecDepth 100000
set_option maxHeartbeats 4000000
def mkStmt (k : Int) : Stmt := ⟨k, k + 1, k + 2, ⟨k + 3, k + 4, k + 5⟩⟩
def mkS (k : Int) (n : Nat) : List Stmt := (List.range n).map fun (i : Nat) => mkStmt (k + 6 * (i : Int))
def mkTask (k : Int) (n : Nat) : Task := ⟨mkS k n, ⟨k + 6 * (n : Int), k + 6 * (n : Int) + 1, k + 6 * (n : Int) + 2⟩⟩
end Go.Av

namespace Go.Av
open Go.Proofs Go.RowKit
set_option linter.unusedVariables false
set_option linter.unusedSimpArgs false
set_option maxRecDepth 100000
set_option maxHeartbeats 4000000
theorem heavy1_c (h : Heap) (tk : Task) (va : V) (ids : List Nat) (eid : Nat) (e : Int) (hb : tk.body.length ≤ 1048576) (o : Owns h (.lst 6 (tk.body.map encStmt)) va ids) (he : h[eid]? = some [[.int .i64 e]]) :
    C Tryz.prog 16 [.agg [va, .int .i64 tk.next.op, .int .i64 tk.next.a, .int .i64 tk.next.b], .ptr eid 1 0 0] h (fun r h' => r = .bool (overB e tk) ∧ Ext h h') := by
  have z := o.vv
  have hnh : [V.agg [va, .int .i64 tk.next.op, .int .i64 tk.next.a, .int .i64 tk.next.b], .ptr eid 1 0 0].all V.noHole = true := by
    rcases Owns.lst_.1 o with ⟨rfl, _⟩ | ⟨_, _, _, rfl, _⟩ <;> rfl
  refine C.by mixed (cfn_ok Tryz.func16 ok16) hnh ?_
  have he' := fun t => heap_app (h' := t) he
  simp (disch := omega) only [s16, go_sem, z.1, z.2.1, z.2.2, he']
  refine CP.goS (bootB_c tk hb) rfl rfl (.cons (Snap.ofSnaps ((OwnsL.mkTask o).snap.ext _)) (.nil _)) ?_
  simp (disch := omega) only [go_sem, z.1, z.2.1, z.2.2, he']
  exact ⟨rfl, Ext.app _ _⟩
theorem heavy_c {h : Heap} (ts : List Task) (v : V) (eid : Nat) (e : Int) (L : List It) (S : Sep h (.v (.lst 4 (ts.map encTask)) v :: L)) (he : h[eid]? = some [[.int .i64 e]]) (hx : ts.length ≤ 1048576) (hb : ∀ t ∈ ts, t.body.length ≤ 1048576) :
    C Tryz.prog 15 [v, .fn 16 [.ptr eid 1 0 0]] h (fun r h' => r = .int .i64 (idxI (overB e) ts) ∧ Ext h h') := by
  have zv := S.vv 0 rfl
  have hnh : [v, .fn 16 [.ptr eid 1 0 0]].all V.noHole = true := by
    refine Exists.elim (S.lst 0 rfl) fun i o => ?_
    rcases Owns.lst_.1 o with ⟨rfl, _⟩ | ⟨_, _, _, rfl, _⟩ <;> rfl
  have lenv := fun G => (S.lst 0 rfl).elim fun i o => o.len_ G
  simp only [List.length_map] at lenv
  refine C.by mixed (cfn_ok Tryz.func15 ok15) hnh ?_
  simp (disch := omega) only [s15, go_sem, zv.1, zv.2.1, zv.2.2, lenv]
  refine loopP_intro (fun m s => ∃ k : Nat, k ≤ ts.length ∧ m = ts.length - k ∧ s.e 0 = v ∧ s.e 1 = .fn 16 [.ptr eid 1 0 0] ∧ s.e 7 = .int .i64 ts.length ∧ s.e 8 = .int .i64 k ∧ Ext h s.h ∧ ∀ j (hj : j < ts.length), j < k → overB e ts[j] = false) ts.length ⟨0, by omega, by omega, by simp (disch := omega) only [go_sem, zv.1, zv.2.1, zv.2.2, lenv], by simp (disch := omega) only [go_sem, zv.1, zv.2.1, zv.2.2, lenv] <;> rfl, by simp (disch := omega) only [go_sem, zv.1, zv.2.1, zv.2.2, lenv] <;> rfl, by simp (disch := omega) only [go_sem, zv.1, zv.2.1, zv.2.2, lenv] <;> rfl, .refl _, fun j _ h => absurd h (by omega)⟩ ?_
  rintro m ee hp ⟨k, hk, rfl, e0, e1, e7, e8, X, hall⟩
  simp only at e0 e1 e7 e8 X
  simp (disch := omega) only [go_sem, zv.1, zv.2.1, zv.2.2, lenv, e0, e1, e7, e8]
  refine condP_dec (fun hlt => ?_) (fun hlt => ?_)
  · have hlt' : k < ts.length := by omega
    refine Exists.elim ((S.up X).row 0 rfl (k := k) (d := encTask ts[k]) (by simp [hlt'])) fun id q => Exists.elim q fun b q => Exists.elim q fun c q => Exists.elim q fun i q => ?_
    have hv := q.1
    have hid := q.2.1
    have hbl := q.2.2.1
    have hc := q.2.2.2.1
    have oc := q.2.2.2.2
    clear q
    rw [List.length_map] at hv hbl
    refine Exists.elim oc.task fun va q => ?_
    have hcc := q.1
    have oa := q.2
    clear q oc
    subst hcc
    have za := oa.vv
    simp (disch := omega) only [go_sem, zv.1, zv.2.1, zv.2.2, lenv, e0, e1, e7, e8, hv, hid, hbl, hc, za.1, za.2.1, za.2.2]
    refine C.go (heavy1_c hp ts[k] va i eid e (hb _ (List.getElem_mem hlt')) oa (X.get he)) ?_
    rintro r h2 ⟨rfl, X2⟩
    simp (disch := omega) only [go_sem, zv.1, zv.2.1, zv.2.2, lenv, e0, e1, e7, e8, hv, hid, hbl, hc, za.1, za.2.1, za.2.2]
    refine condP_split (fun h => ?_) (fun h => ?_)
    · simp (disch := omega) only [go_sem, zv.1, zv.2.1, zv.2.2, lenv, e0, e1, e7, e8, hv, hid, hbl, hc, za.1, za.2.1, za.2.2]
      rw [idxI_found hlt' h hall]
      exact ⟨rfl, X.trans X2⟩
    · simp (disch := omega) only [go_sem, zv.1, zv.2.1, zv.2.2, lenv, e0, e1, e7, e8, hv, hid, hbl, hc, za.1, za.2.1, za.2.2]
      refine nextP_intro (ts.length - (k + 1)) (by omega) ⟨k + 1, by omega, rfl, by simp (disch := omega) only [go_sem, zv.1, zv.2.1, zv.2.2, lenv, e0, e1, e7, e8, hv, hid, hbl, hc, za.1, za.2.1, za.2.2] <;> exact hv.symm, by simp (disch := omega) only [go_sem, zv.1, zv.2.1, zv.2.2, lenv, e0, e1, e7, e8, hv, hid, hbl, hc, za.1, za.2.1, za.2.2], by simp (disch := omega) only [go_sem, zv.1, zv.2.1, zv.2.2, lenv, e0, e1, e7, e8, hv, hid, hbl, hc, za.1, za.2.1, za.2.2], by simp (disch := omega) only [go_sem, zv.1, zv.2.1, zv.2.2, lenv, e0, e1, e7, e8, hv, hid, hbl, hc, za.1, za.2.1, za.2.2]; rfl, X.trans X2, fun j hj hjk => ?_⟩
      by_cases q : j = k
      · subst q; exact h
      · exact hall j hj (by omega)
  · simp (disch := omega) only [go_sem, zv.1, zv.2.1, zv.2.2, lenv, e0, e1, e7, e8]
    rw [idxI_none (fun j hj => hall j hj (by omega))]
    exact ⟨rfl, X⟩
theorem cutPoints_f (xs : List Stmt) (hx : xs.length ≤ 1048576) : F Tryz.prog 17 [.lst 6 (xs.map encStmt)] (.lst 1 ((cutsM xs).map encI)) := by
  cases hb : blockOk xs
  · have hc : cutsM xs = [] := by unfold cutsM; rw [hb]; rfl
    rw [hc]
    exact C.mono (cutPoints_n xs hx hb) fun r h' ⟨g, gs, q, _, e, hg⟩ => by
      refine ⟨[], .nil, ?_⟩
      rw [e]; exact Owns.nils_
  · exact CP.f (flat_encI _) (by simp) (cutPoints_c xs hx hb)
noncomputable def untilF (e : Int) : Nat → List Task → Option (List Task)
  | 0, _ => none
  | n + 1, cur => if idxI (overB e) cur < 0 then some cur else if (cutsAt cur (idxI (overB e) cur)).length = 0 ∨ cur.length = 6 then none else untilF e n (splitM cur (idxI (overB e) cur).toNat ((cutsAt cur (idxI (overB e) cur)).getLast?.getD 0).toNat)
noncomputable def untilR (ts : List Task) (e : Int) : Option (List Task) := if rigidM ts = true then untilF e (7 - ts.length) ts else none
noncomputable def untilM (ts : List Task) (e : Int) : List Task := (untilR ts e).getD ts
noncomputable def untilB (ts : List Task) (e : Int) : Bool := (untilR ts e).isSome
theorem idxI_lt {α : Type} {p : α → Bool} {ts : List α} (h : ¬ idxI p ts < 0) : 0 ≤ idxI p ts ∧ idxI p ts < ts.length := by
  unfold idxI at *
  split
  · rename_i q
    have := List.findIdx_lt_length_of_exists (List.any_eq_true.1 q)
    omega
  · rename_i q
    rw [if_neg q] at h; omega
theorem last_at {zs : List Int} (h : ¬ zs.length = 0) : zs.getLast?.getD 0 ∈ zs ∧ (zs.map encI)[((zs.length : Int) - 1).toNat]? = some [.int .i64 (zs.getLast?.getD 0)] := by
  have hne : zs ≠ [] := fun e => h (by rw [e]; rfl)
  rw [List.getLast?_eq_some_getLast hne]
  refine ⟨List.getLast_mem hne, ?_⟩
  have e : ((zs.length : Int) - 1).toNat = zs.length - 1 := by omega
  rw [e, List.getElem?_map, ← List.getLast?_eq_getElem?, List.getLast?_eq_some_getLast hne]; rfl
theorem splitM_len {ts : List Task} {t k : Nat} (ht : t < ts.length) : (splitM ts t k).length = ts.length + 1 := by rw [splitM_eq ht]; simp
theorem splitM_bodies {ts : List Task} {t k : Nat} (hb : ∀ t ∈ ts, t.body.length ≤ 1048576) : ∀ u ∈ splitM ts t k, u.body.length ≤ 1048576 := by
  unfold splitM
  cases hq : ts[t]? with
  | none => exact hb
  | some tk =>
    have hbt := hb tk (List.mem_of_getElem? hq)
    intro u hu
    rcases List.mem_append.1 hu with w | w
    · rcases List.mem_or_eq_of_mem_set w with z | z
      · exact hb u z
      · rw [z]; simp; omega
    · rw [List.mem_singleton.1 w]; simp; omega
theorem rigid_len {ts : List Task} (h : rigidM ts = true) : 1 ≤ ts.length ∧ ts.length ≤ 6 := by
  simp only [rigidM, programOk, Bool.and_eq_true, within, decide_eq_true_eq] at h
  omega
end Go.Av

namespace Go.Av
open Go.Proofs Go.RowKit
set_option linter.unusedVariables false
set_option linter.unusedSimpArgs false
set_option maxRecDepth 100000
set_option maxHeartbeats 4000000
theorem new_c (bs : List Int) (h : Heap) (hb : bs.length ≤ 1048576) : C Tryz.prog 12 [.lst 1 (bs.map encB)] h (fun r h' => r = .ptr h.length 1 0 0 ∧ Ext h h' ∧ Cur h' h.length) := by
  refine C.by mixed (cfn_ok Tryz.func12 ok12) rfl ?_
  simp (disch := omega) only [s12, go_sem]
  refine loopP_intro (fun m s => ∃ (k : Nat), k ≤ bs.length ∧ m = bs.length - k ∧ s.e 0 = .lst 1 (bs.map encB) ∧ s.e 4 = .int .i64 k ∧ s.h = h ∧ ∃ x, s.e 3 = .int .i64 x) bs.length ⟨0, by omega, by omega, rfl, rfl, rfl, _, by simp (disch := omega) only [go_sem]; rfl⟩ ?_
  rintro m e hp ⟨k, hk, rfl, e0, e4, hh, x, e3⟩
  simp only at e0 e4 e3 hh
  subst hh
  simp (disch := omega) only [go_sem, e0, e4, e3, encB, splice]
  have hend : Ext hp (hp ++ [[[V.lst 1 (bs.map encB), .int .i64 0, .int .i64 x]]]) ∧ Cur (hp ++ [[[V.lst 1 (bs.map encB), .int .i64 0, .int .i64 x]]]) hp.length := ⟨Ext.app _ _, bs, 0, x, by simp, by omega, by omega, hb⟩
  refine condP_dec (fun hlt => ?_) (fun hlt => ?_)
  · have hlt' : k < bs.length := by omega
    simp (disch := omega) only [go_sem, e0, e4, e3, encB, splice]
    refine condP_dec (fun h4 => ?_) (fun h4 => ?_)
    · simp (disch := omega) only [go_sem, e0, e4, e3, encB, splice]
      refine nextP_intro (bs.length - (k + 1)) (by omega) ⟨k + 1, by omega, rfl, ?_, ?_, rfl, ?_⟩
      · simp (disch := omega) only [go_sem, e0, e4, e3, encB, splice]
      · simp (disch := omega) only [go_sem, e0, e4, e3, encB, splice]; rfl
      · exact ⟨_, by simp (disch := omega) only [go_sem, e0, e4, e3, encB, splice]; rfl⟩
    · simp (disch := omega) only [go_sem, e0, e4, e3, encB, splice]
      exact hend
  · simp (disch := omega) only [go_sem, e0, e4, e3, encB, splice]
    exact hend
theorem byte_c (h : Heap) (id : Nat) (hc : Cur h id) : DI Tryz.prog 34 [.ptr id 1 0 0] h id 0 256 := by
  obtain ⟨bs, i, hh, e1, hi0, hi1, hb⟩ := hc
  refine C.by mixed (cfn_ok Tryz.func34 ok34) rfl ?_
  have hs : ∀ c, (h.set id c)[id]? = some c := fun c => heap_set c e1
  simp (disch := omega) only [s34, go_sem, e1, encB, storeH, storeB, splice, hs, List.set_set]
  refine condP_dec (fun hlt => ?_) (fun hlt => ?_)
  · simp (disch := omega) only [go_sem, e1, encB, storeH, storeB, splice, hs, List.set_set]
    exact ⟨_, rfl, (and_255 _).1, and_255_lt _, ⟨bs, i + 1, _, hs _, by omega, by omega, hb⟩, ExtX.set _ _ _⟩
  · simp (disch := omega) only [go_sem, e1, encB, storeH, storeB, splice, hs, List.set_set]
    exact ⟨_, rfl, (and_255 _).1, and_255_lt _, ⟨bs, i, _, hs _, by omega, by omega, hb⟩, ExtX.set _ _ _⟩
theorem below_c (h : Heap) (id : Nat) (n : Int) (hc : Cur h id) (hn : n ≤ 4294967296) : DI Tryz.prog 13 [.ptr id 1 0 0, .int .i64 n] h id 0 (max 1 n) := by
  refine C.by mixed (cfn_ok Tryz.func13 ok13) rfl ?_
  simp (disch := omega) only [s13, go_sem]
  refine condP_dec (fun h0 => ?_) (fun h0 => ?_)
  · simp (disch := omega) only [go_sem]
    exact ⟨0, rfl, by omega, by omega, hc, ExtX.refl _ _⟩
  · simp (disch := omega) only [go_sem]
    refine condP_dec (fun h1 => ?_) (fun h1 => ?_)
    · simp (disch := omega) only [go_sem]
      refine DI.go (byte_c _ _ hc) fun z h1 z0 z1 c1 x1 => ?_
      simp (disch := omega) only [go_sem]
      have := tmod_bd (n := n) z0 (by omega)
      exact ⟨_, rfl, this.1, by omega, c1, x1⟩
    · simp (disch := omega) only [go_sem]
      refine DI.go (byte_c _ _ hc) fun a h1 a0 a1 c1 x1 => ?_
      simp (disch := omega) only [go_sem]
      refine DI.go (byte_c _ _ c1) fun b h2 b0 b1 c2 x2 => ?_
      simp (disch := omega) only [go_sem]
      refine DI.go (byte_c _ _ c2) fun c h3 c0 c1' c3 x3 => ?_
      simp (disch := omega) only [go_sem]
      refine DI.go (byte_c _ _ c3) fun d h4 d0 d1 c4 x4 => ?_
      simp (disch := omega) only [go_sem]
      have := tmod_bd (a := a * 16777216 + b * 65536 + c * 256 + d) (n := n) (by omega) (by omega)
      exact ⟨_, rfl, this.1, by omega, c4, ((x1.trans c1 x2).trans c2 x3).trans c3 x4⟩
def DB (P : Program) (f : FuncId) (args : List V) (h : Heap) (id : Nat) : Prop := C P f args h (fun r h' => ∃ b, r = .bool b ∧ Cur h' id ∧ ExtX id h h')
theorem DB.go {P : Program} {f : FuncId} {args : List V} {h : Heap} {id : Nat} {K : V → Heap → Prop} (hc : DB P f args h id) (hk : ∀ b h', Cur h' id → ExtX id h h' → K (.bool b) h') : @callP P f args h ⟨K⟩ :=
  C.go hc fun r h' ⟨z, e, c, d⟩ => by subst e; exact hk z h' c d
theorem once_c (h : Heap) (id : Nat) (n : Int) (hc : Cur h id) (hn : n ≤ 4294967296) : DB Tryz.prog 103 [.ptr id 1 0 0, .int .i64 n] h id := by
  refine C.by mixed (cfn_ok Tryz.func103 ok103) rfl ?_
  simp (disch := omega) only [s103, go_sem]
  refine DI.go (below_c _ _ _ hc hn) fun z h1 z0 z1 c1 x1 => ?_
  simp (disch := omega) only [go_sem]
  exact ⟨_, rfl, c1, x1⟩
theorem pick_c (h : Heap) (id lid : Nat) (zs : List Int) (n : Nat) (hc : Cur h id) (hl : h[lid]? = some (zs.map encI)) (hne : lid ≠ id) (hz : zs.length = n) (h0 : 0 < n) (hn : n ≤ 4294967296) : C Tryz.prog 105 [.ptr id 1 0 0, .own lid 1 0 n n] h (fun r h' => ∃ z, r = .int .i64 z ∧ z ∈ zs ∧ Cur h' id ∧ ExtX id h h') := by
  refine C.by mixed (cfn_ok Tryz.func105 ok105) rfl ?_
  simp (disch := omega) only [s105, go_sem]
  refine DI.go (below_c _ _ _ hc (by omega)) fun z h1 z0 z1 c1 x1 => ?_
  have hl1 := x1.get hl hne
  have hlt : z.toNat < zs.length := by omega
  have hg : zs[z.toNat]? = some zs[z.toNat] := List.getElem?_eq_getElem hlt
  simp (disch := omega) only [go_sem, hl1, hz, hg, List.getElem?_map, encI]
  exact ⟨_, rfl, List.getElem_mem hlt, c1, x1⟩
end Go.Av

