/- What the laws do with tasks and programs: their size, copies of their own, equality. -/
import Derived.Test.YtjfmbdigfnablaaGreatZCert
namespace Go.Av
open Go.Proofs Go.RowKit
set_option linter.unusedVariables false
set_option linter.unusedSimpArgs false
set_option maxRecDepth 100000
set_option maxHeartbeats 4000000
theorem half_set {α : Type} {xs : List α} {k : Nat} (f : α → List V) (z : List V) (hk : k < xs.length) : ((xs.take k).map f ++ List.replicate (xs.length - k) z).set k (f xs[k]) = (xs.take (k + 1)).map f ++ List.replicate (xs.length - (k + 1)) z := by
  have e1 : xs.length - k = (xs.length - (k + 1)) + 1 := by omega
  have e2 : ((xs.take k).map f).length = k := by simp; omega
  rw [e1, List.replicate_succ, List.set_append_right _ _ (by omega), e2, Nat.sub_self, List.set_cons_zero, List.take_succ_eq_append_getElem hk, List.map_append, List.append_assoc]
  rfl
theorem half_len {α : Type} {xs : List α} {k : Nat} (f : α → List V) (z : List V) (hk : k ≤ xs.length) : ((xs.take k).map f ++ List.replicate (xs.length - k) z).length = xs.length := by simp; omega
theorem half_sz {α : Type} {xs : List α} {k sz : Nat} {f : α → List V} {z : List V} (hf : ∀ x, (f x).length = sz) (hz : z.length = sz) : ∀ e ∈ (xs.take k).map f ++ List.replicate (xs.length - k) z, e.length = sz := fun e he => by
  rcases List.mem_append.1 he with h1 | h1
  · obtain ⟨s, _, rfl⟩ := List.mem_map.1 h1; exact hf s
  · rw [(List.mem_replicate.1 h1).2]; exact hz
theorem CP.f {P : Program} {f : FuncId} {args : List V} {sz n : Nat} {b : Blk} (hf : flat b = true) (hn : b.length = n) (h : CP P f args (.own 0 sz 0 n n) [b]) : F P f args (.lst sz b) :=
  C.mono h fun r h' ⟨_, _, g, _, e, hg⟩ => by
    subst e hn
    have := hg 0 b rfl
    rw [mapLL_refs0 (flat_refs 0 hf)] at this
    exact ⟨[g 0], by simp, Owns.own_flat this rfl hf⟩
theorem nin_ge {ids : List Nat} {n j : Nat} (h : ∀ i ∈ ids, n ≤ i) (hj : j < n) : j ∉ ids := fun hm => by have := h j hm; omega
def szM (n : Nat) (left : Int) : Int := if left - n < 0 then -1 else left - n
theorem szM_bd (n : Nat) (left : Int) (h : 0 ≤ left ∧ left ≤ 1048576) : -1 ≤ szM n left ∧ szM n left ≤ 1048576 := by unfold szM; split <;> omega
theorem szM_ok {n : Nat} {left : Int} (h : left ≤ 1048576) (h0 : ¬ szM n left < 0) : n ≤ 1048576 := by unfold szM at h0; split at h0 <;> omega
theorem toExpr_c (e : Expr) : CP Tryz.prog 213 [.agg (encExpr e)] (.agg (encExpr e)) [] := by
  obtain ⟨op, a, b⟩ := e
  refine CP.by rfl mixed (cfn_ok Tryz.func213 ok213) rfl ?_
  simp (disch := omega) only [s213, go_sem, encExpr, storeH, storeB, splice]
theorem toStmt_c (s : Stmt) : CP Tryz.prog 239 [.agg (encStmt s)] (.agg (encStmt s)) [] := by
  obtain ⟨kind, var, n, ⟨op, a, b⟩⟩ := s
  refine CP.by rfl mixed (cfn_ok Tryz.func239 ok239) rfl ?_
  simp (disch := omega) only [s239, go_sem, encStmt, encExpr, storeH, storeB, splice]
  refine CP.go (toExpr_c ⟨op, a, b⟩) rfl rfl ?_
  simp (disch := omega) only [go_sem, encStmt, encExpr, storeH, storeB, splice]
def eqExprB (x y : Expr) : Bool := decide (x.op = y.op) && decide (x.a = y.a) && decide (x.b = y.b)
def eqStmtB (x y : Stmt) : Bool := decide (x.kind = y.kind) && decide (x.var = y.var) && decide (x.n = y.n) && eqExprB x.e y.e
theorem eqExpr_c (x y : Expr) : CP Tryz.prog 215 [.agg (encExpr x), .agg (encExpr y)] (.bool (eqExprB x y)) [] := by
  obtain ⟨op, a, b⟩ := x
  obtain ⟨op', a', b'⟩ := y
  refine CP.by rfl mixed (cfn_ok Tryz.func215 ok215) rfl ?_
  simp (disch := omega) only [s215, go_sem, encExpr]
  repeat' (first | (refine condP_t (by assumption) ?_ <;> (try simp (disch := omega) only [go_sem])) | (refine condP_f (by assumption) ?_ <;> (try simp (disch := omega) only [go_sem])) | (refine condP_dec (fun h => ?_) (fun h => ?_) <;> (try simp (disch := omega) only [go_sem])) | (refine condP_split (fun h => ?_) (fun h => ?_) <;> (try simp (disch := omega) only [go_sem])))
  all_goals simp_all [eqExprB]
theorem eqStmt_c (x y : Stmt) : CP Tryz.prog 240 [.agg (encStmt x), .agg (encStmt y)] (.bool (eqStmtB x y)) [] := by
  obtain ⟨kind, var, n, ⟨op, a, b⟩⟩ := x
  obtain ⟨kind', var', n', ⟨op', a', b'⟩⟩ := y
  refine CP.by rfl mixed (cfn_ok Tryz.func240 ok240) rfl ?_
  simp (disch := omega) only [s240, go_sem, encStmt, encExpr]
  repeat' (first | (refine CP.go (eqExpr_c ⟨op, a, b⟩ ⟨op', a', b'⟩) rfl rfl ?_ <;> (try simp (disch := omega) only [go_sem])) | (refine condP_t (by assumption) ?_ <;> (try simp (disch := omega) only [go_sem])) | (refine condP_f (by assumption) ?_ <;> (try simp (disch := omega) only [go_sem])) | (refine condP_dec (fun h => ?_) (fun h => ?_) <;> (try simp (disch := omega) only [go_sem])) | (refine condP_split (fun h => ?_) (fun h => ?_) <;> (try simp (disch := omega) only [go_sem])))
  all_goals simp_all [eqStmtB]
theorem flat_Stmt (xs : List Stmt) : flat (xs.map encStmt) = true := by simp [flat, encStmt, V.scalar]
theorem refs_stmts1 (n : Nat) (xs : List Stmt) : V.refsL n [.lst 6 (xs.map encStmt)] = true := refs_arg _ _
theorem refs_stmtsI (n : Nat) (xs : List Stmt) (k : Int) : V.refsL n [.lst 6 (xs.map encStmt), .int .i64 k] = true := by simp [V.refsL, V.refs, refsLL_map encStmt (refs_stmt n) xs]
theorem refs_taskI (n : Nat) (t : Task) (k : Int) : V.refsL n [.agg (encTask t), .int .i64 k] = true := by simp [V.refsL, V.refs, refs_task]
theorem refs_tasksI (n : Nat) (ts : List Task) (k : Int) : V.refsL n [.lst 4 (ts.map encTask), .int .i64 k] = true := by simp [V.refsL, V.refs, refsLL_map encTask (refs_task n) ts]
theorem refs_tasksV (n : Nat) (ts : List Task) : V.refs n (.lst 4 (ts.map encTask)) = true := by simp [V.refs, refsLL_map encTask (refs_task n) ts]
theorem szStmtS_c (xs : List Stmt) (left : Int) (hx : xs.length ≤ 9223372036854775807) (hl : 0 ≤ left ∧ left ≤ 1048576) : CP Tryz.prog 206 [.lst 6 (xs.map encStmt), .int .i64 left] (.int .i64 (szM xs.length left)) [] := by
  refine CP.by rfl mixed (cfn_ok Tryz.func206 ok206) rfl ?_
  simp (disch := omega) only [s206, go_sem]
  refine condP_dec (fun h => ?_) (fun h => ?_) <;> simp (disch := omega) only [go_sem] <;> simp [szM, h]
theorem szTask_c (t : Task) (left : Int) (hx : t.body.length ≤ 9223372036854775807) (hl : 0 ≤ left ∧ left ≤ 1048576) : CP Tryz.prog 168 [.agg (encTask t), .int .i64 left] (.int .i64 (szM t.body.length left)) [] := by
  obtain ⟨body, ⟨op, a, b⟩⟩ := t
  simp only at hx
  have hb := szM_bd body.length left hl
  refine CP.by rfl mixed (cfn_ok Tryz.func168 ok168) rfl ?_
  simp (disch := omega) only [s168, go_sem, encTask]
  refine CP.go (szStmtS_c body left hx hl) rfl (refs_stmtsI _ _ _) ?_
  simp (disch := omega) only [go_sem]
  refine condP_dec (fun h => ?_) (fun h => ?_)
  · simp (disch := omega) only [go_sem]
    congr 1; omega
  · simp (disch := omega) only [go_sem]
def szTs : List Task → Int → Int
  | [], l => l
  | t :: ts, l => if szM t.body.length l < 0 then -1 else szTs ts (szM t.body.length l)
def szTaskM (ts : List Task) (l : Int) : Int := if l - ts.length < 0 then -1 else szTs ts (l - ts.length)
theorem szTs_bd : ∀ (ts : List Task) (l : Int), 0 ≤ l → l ≤ 1048576 → -1 ≤ szTs ts l ∧ szTs ts l ≤ 1048576
  | [], l, h0, h1 => ⟨by simp only [szTs]; omega, h1⟩
  | t :: ts, l, h0, h1 => by
    have hb := szM_bd t.body.length l ⟨h0, h1⟩
    simp only [szTs]; split
    · omega
    · exact szTs_bd ts (szM t.body.length l) (by omega) hb.2
theorem szTaskM_bd (ts : List Task) (l : Int) (h : 0 ≤ l ∧ l ≤ 1048576) : -1 ≤ szTaskM ts l ∧ szTaskM ts l ≤ 1048576 := by
  unfold szTaskM; split
  · omega
  · exact szTs_bd ts (l - ts.length) (by omega) (by omega)
theorem szTs_in : ∀ (ts : List Task) (l : Int), 0 ≤ l → l ≤ 1048576 → ¬ szTs ts l < 0 → ∀ t ∈ ts, t.body.length ≤ 1048576
  | [], l, _, _, _, t, ht => absurd ht List.not_mem_nil
  | t :: ts, l, h0, h1, hn, u, hu => by
    have hb := szM_bd t.body.length l ⟨h0, h1⟩
    simp only [szTs] at hn
    split at hn
    · omega
    · rename_i hk
      rcases List.mem_cons.1 hu with h | h
      · subst h; exact szM_ok h1 hk
      · exact szTs_in ts (szM t.body.length l) (by omega) hb.2 hn u h
theorem szTask_in {ts : List Task} {l : Int} (h : 0 ≤ l ∧ l ≤ 1048576) (hn : ¬ szTaskM ts l < 0) : ts.length ≤ 1048576 ∧ ∀ t ∈ ts, t.body.length ≤ 1048576 := by
  unfold szTaskM at hn; split at hn
  · omega
  · exact ⟨by omega, szTs_in ts (l - ts.length) (by omega) (by omega) hn⟩
theorem szTaskS_c (ts : List Task) (left : Int) (hx : ts.length ≤ 9223372036854775807) (hb : ∀ t ∈ ts, t.body.length ≤ 9223372036854775807) (hl : 0 ≤ left ∧ left ≤ 1048576) : CP Tryz.prog 97 [.lst 4 (ts.map encTask), .int .i64 left] (.int .i64 (szTaskM ts left)) [] := by
  refine CP.by rfl mixed (cfn_ok Tryz.func97 ok97) rfl ?_
  simp (disch := omega) only [s97, go_sem]
  refine condP_dec (fun h => ?_) (fun h => ?_)
  · simp (disch := omega) only [go_sem]
    simp only [szTaskM]; rw [if_pos h]
  simp (disch := omega) only [go_sem]
  have hM : szTaskM ts left = szTs ts (left - ts.length) := by simp only [szTaskM]; rw [if_neg h]
  refine loopP_intro (fun m s => ∃ k : Nat, ∃ l : Int, k ≤ ts.length ∧ m = ts.length - k ∧ s.e 0 = .lst 4 (ts.map encTask) ∧ s.e 1 = .int .i64 l ∧ s.e 5 = .int .i64 k ∧ 0 ≤ l ∧ l ≤ 1048576 ∧ szTaskM ts left = szTs (ts.drop k) l) ts.length ⟨0, left - ts.length, by omega, by omega, rfl, rfl, rfl, by omega, by omega, hM⟩ ?_
  rintro m e hp ⟨k, l, hk, rfl, e0, e1, e5, l0, l1, hr⟩
  simp only at e0 e1 e5
  simp (disch := omega) only [go_sem, e0, e1, e5, encTask]
  refine condP_dec (fun hlt => ?_) (fun hlt => ?_)
  · have hlt' : k < ts.length := by omega
    have hm := szM_bd ts[k].body.length l ⟨l0, l1⟩
    rw [List.drop_eq_getElem_cons hlt', szTs] at hr
    simp (disch := omega) only [go_sem, e0, e1, e5, encTask]
    refine CP.go (szTask_c ts[k] l (hb _ (List.getElem_mem hlt')) ⟨l0, l1⟩) rfl (refs_taskI _ ts[k] _) ?_
    simp (disch := omega) only [go_sem, e0, e1, e5, encTask]
    refine condP_dec (fun h2 => ?_) (fun h2 => ?_)
    · simp (disch := omega) only [go_sem, e0, e1, e5, encTask]
      rw [if_pos h2] at hr
      rw [hr]
    · simp (disch := omega) only [go_sem, e0, e1, e5, encTask]
      rw [if_neg h2] at hr
      exact nextP_intro (ts.length - (k + 1)) (by omega) ⟨k + 1, _, by omega, rfl, by simp (disch := omega) only [go_sem, e0, e1, e5, encTask], by simp (disch := omega) only [go_sem, e0, e1, e5, encTask], by simp (disch := omega) only [go_sem, e0, e1, e5, encTask]; rfl, by omega, by omega, hr⟩
  · simp (disch := omega) only [go_sem, e0, e1, e5, encTask]
    have : k = ts.length := by omega
    subst this
    rw [List.drop_length] at hr
    rw [hr]; rfl
theorem szProg_c (ts : List Task) (left : Int) (hx : ts.length ≤ 9223372036854775807) (hb : ∀ t ∈ ts, t.body.length ≤ 9223372036854775807) (hl : 0 ≤ left ∧ left ≤ 1048576) : CP Tryz.prog 37 [.agg [.lst 4 (ts.map encTask)], .int .i64 left] (.int .i64 (szTaskM ts left)) [] := by
  have hm := szTaskM_bd ts left hl
  refine CP.by rfl mixed (cfn_ok Tryz.func37 ok37) rfl ?_
  simp (disch := omega) only [s37, go_sem]
  refine CP.go (szTaskS_c ts left hx hb hl) rfl (refs_tasksI _ _ _) ?_
  simp (disch := omega) only [go_sem]
  refine condP_dec (fun h => ?_) (fun h => ?_)
  · simp (disch := omega) only [go_sem]
    congr 1; omega
  · simp (disch := omega) only [go_sem]
theorem toStmtS_c (xs : List Stmt) (hx : xs.length ≤ 1048576) : CP Tryz.prog 212 [.lst 6 (xs.map encStmt)] (.own 0 6 0 xs.length xs.length) [xs.map encStmt] := by
  refine C.cpOwn (flat_Stmt _) (C.by mixed (cfn_ok Tryz.func212 ok212) rfl ?_)
  simp (disch := omega) only [s212, go_sem]
  refine loopP_intro (fun m s => ∃ k : Nat, k ≤ xs.length ∧ m = xs.length - k ∧ s.e 0 = .lst 6 (xs.map encStmt) ∧ s.e 4 = .int .i64 k ∧ s.e 3 = .own 0 6 0 xs.length xs.length ∧ s.h[0]? = some ((xs.take k).map encStmt ++ List.replicate (xs.length - k) [.int .i64 0, .int .i64 0, .int .i64 0, .int .i64 0, .int .i64 0, .int .i64 0])) xs.length ⟨0, by omega, by omega, rfl, rfl, rfl, by simp⟩ ?_
  rintro m e hp ⟨k, hk, rfl, e0, e4, e3, hid⟩
  simp only at e0 e4 e3 hid
  simp (disch := omega) only [go_sem, e0, e4, e3, encStmt]
  refine condP_dec (fun hlt => ?_) (fun hlt => ?_)
  · have hlt' : k < xs.length := by omega
    simp (disch := omega) only [go_sem, e0, e4, e3, encStmt]
    refine CP.go (toStmt_c xs[k]) rfl rfl ?_
    simp (disch := omega) only [go_sem, e0, e4, e3, encStmt]
    have hst := storeH_row (sz := 6) (x := .agg (encStmt xs[k])) hid (half_len _ _ hk) hlt' (half_sz (fun _ => rfl) rfl) rfl
    simp only [encStmt, cells_agg] at hst
    simp (disch := omega) only [go_sem, e0, e4, e3, encStmt, hst]
    refine nextP_intro (xs.length - (k + 1)) (by omega) ⟨k + 1, by omega, rfl, ?_, ?_, ?_, ?_⟩
    · simp (disch := omega) only [go_sem, e0, e4, e3, encStmt, hst]
    · simp (disch := omega) only [go_sem, e0, e4, e3, encStmt, hst]; rfl
    · simp (disch := omega) only [go_sem, e0, e4, e3, encStmt, hst]
    · rw [heap_set _ hid]
      congr 1
      exact half_set encStmt _ hlt'
  · simp (disch := omega) only [go_sem, e0, e4, e3, encStmt]
    refine ⟨0, rfl, ?_⟩
    have : k = xs.length := by omega
    subst this
    rw [hid]; simp
theorem toStmtS_f (xs : List Stmt) (hx : xs.length ≤ 1048576) : F Tryz.prog 212 [.lst 6 (xs.map encStmt)] (.lst 6 (xs.map encStmt)) := CP.f (flat_Stmt _) (by simp) (toStmtS_c xs hx)
theorem eqB_refl (x : Stmt) : eqStmtB x x = true := by simp [eqStmtB, eqExprB]
theorem eqE_refl (x : Expr) : eqExprB x x = true := by simp [eqExprB]
theorem refs_stmts2 (n : Nat) (xs ys : List Stmt) : V.refsL n [.lst 6 (xs.map encStmt), .lst 6 (ys.map encStmt)] = true := by simp [V.refsL, V.refs, refsLL_map encStmt (refs_stmt n) xs, refsLL_map encStmt (refs_stmt n) ys]
theorem eqStmtS_c (xs : List Stmt) (hx : xs.length ≤ 1048576) : CP Tryz.prog 214 [.lst 6 (xs.map encStmt), .lst 6 (xs.map encStmt)] (.bool true) [] := by
  refine CP.by rfl mixed (cfn_ok Tryz.func214 ok214) rfl ?_
  simp (disch := omega) only [s214, go_sem]
  refine loopP_intro (fun m s => ∃ k : Nat, k ≤ xs.length ∧ m = xs.length - k ∧ s.e 0 = .lst 6 (xs.map encStmt) ∧ s.e 1 = .lst 6 (xs.map encStmt) ∧ s.e 5 = .int .i64 k) xs.length ⟨0, by omega, by omega, rfl, rfl, rfl⟩ ?_
  rintro m e hp ⟨k, hk, rfl, e0, e1, e5⟩
  simp only at e0 e1 e5
  simp (disch := omega) only [go_sem, e0, e1, e5, encStmt]
  refine condP_dec (fun hlt => ?_) (fun hlt => ?_)
  · have hlt' : k < xs.length := by omega
    simp (disch := omega) only [go_sem, e0, e1, e5, encStmt]
    refine CP.go (eqStmt_c xs[k] xs[k]) rfl rfl ?_
    simp (disch := omega) only [go_sem, eqB_refl, e0, e1, e5, encStmt]
    exact nextP_intro (xs.length - (k + 1)) (by omega) ⟨k + 1, by omega, rfl, by simp (disch := omega) only [go_sem, e0, e1, e5, encStmt], by simp (disch := omega) only [go_sem, e0, e1, e5, encStmt], by simp (disch := omega) only [go_sem, e0, e1, e5, encStmt]; rfl⟩
  · simp (disch := omega) only [go_sem, e0, e1, e5, encStmt]
theorem refs_task2 (n : Nat) (s t : Task) : V.refsL n [.agg (encTask s), .agg (encTask t)] = true := by simp [V.refsL, V.refs, refs_task]
theorem refs_tasks2 (n : Nat) (s t : List Task) : V.refsL n [.lst 4 (s.map encTask), .lst 4 (t.map encTask)] = true := by simp [V.refsL, refs_tasksV]
theorem eqTask_c (t : Task) (hx : t.body.length ≤ 1048576) : CP Tryz.prog 171 [.agg (encTask t), .agg (encTask t)] (.bool true) [] := by
  obtain ⟨body, ⟨op, a, b⟩⟩ := t
  refine CP.by rfl mixed (cfn_ok Tryz.func171 ok171) rfl ?_
  simp (disch := omega) only [s171, go_sem, encTask]
  refine CP.go (eqStmtS_c body hx) rfl (refs_stmts2 _ _ _) ?_
  simp (disch := omega) only [go_sem]
  refine CP.go (eqExpr_c ⟨op, a, b⟩ ⟨op, a, b⟩) rfl rfl ?_
  simp (disch := omega) only [go_sem, eqE_refl]
theorem eqTaskS_c (ts : List Task) (hx : ts.length ≤ 1048576) (hb : ∀ t ∈ ts, t.body.length ≤ 1048576) : CP Tryz.prog 104 [.lst 4 (ts.map encTask), .lst 4 (ts.map encTask)] (.bool true) [] := by
  refine CP.by rfl mixed (cfn_ok Tryz.func104 ok104) rfl ?_
  simp (disch := omega) only [s104, go_sem]
  refine loopP_intro (fun m s => ∃ k : Nat, k ≤ ts.length ∧ m = ts.length - k ∧ s.e 0 = .lst 4 (ts.map encTask) ∧ s.e 1 = .lst 4 (ts.map encTask) ∧ s.e 5 = .int .i64 k) ts.length ⟨0, by omega, by omega, rfl, rfl, rfl⟩ ?_
  rintro m e hp ⟨k, hk, rfl, e0, e1, e5⟩
  simp only at e0 e1 e5
  simp (disch := omega) only [go_sem, e0, e1, e5, encTask]
  refine condP_dec (fun hlt => ?_) (fun hlt => ?_)
  · have hlt' : k < ts.length := by omega
    simp (disch := omega) only [go_sem, e0, e1, e5, encTask]
    refine CP.go (eqTask_c ts[k] (hb _ (List.getElem_mem hlt'))) rfl (refs_task2 _ ts[k] ts[k]) ?_
    simp (disch := omega) only [go_sem, e0, e1, e5, encTask]
    exact nextP_intro (ts.length - (k + 1)) (by omega) ⟨k + 1, by omega, rfl, by simp (disch := omega) only [go_sem, e0, e1, e5, encTask], by simp (disch := omega) only [go_sem, e0, e1, e5, encTask], by simp (disch := omega) only [go_sem, e0, e1, e5, encTask]; rfl⟩
  · simp (disch := omega) only [go_sem, e0, e1, e5, encTask]
theorem eqProg_c (ts : List Task) (hx : ts.length ≤ 1048576) (hb : ∀ t ∈ ts, t.body.length ≤ 1048576) : CP Tryz.prog 40 [.agg [.lst 4 (ts.map encTask)], .agg [.lst 4 (ts.map encTask)]] (.bool true) [] := by
  refine CP.by rfl mixed (cfn_ok Tryz.func40 ok40) rfl ?_
  simp (disch := omega) only [s40, go_sem]
  refine CP.go (eqTaskS_c ts hx hb) rfl (refs_tasks2 _ _ _) ?_
  simp (disch := omega) only [go_sem]
theorem toStore_c (s : Store) : CP Tryz.prog 44 [.agg (encStore s)] (.agg (encStore s)) [] := by
  obtain ⟨f0, f1, f2, f3⟩ := s
  refine CP.by rfl mixed (cfn_ok Tryz.func44 ok44) rfl ?_
  simp (disch := omega) only [s44, go_sem, encStore, storeH, storeB, splice]
theorem OwnsL.mkTask {h : Heap} {t : Task} {va : V} {ia : List Nat} (oa : Owns h (.lst 6 (t.body.map encStmt)) va ia) : OwnsL h (encTask t) [va, .int .i64 t.next.op, .int .i64 t.next.a, .int .i64 t.next.b] ia := by
  have := OwnsL.o oa (OwnsL.i (k := .i64) (n := t.next.op) (OwnsL.i (k := .i64) (n := t.next.a) (OwnsL.i (k := .i64) (n := t.next.b) OwnsL.e)))
  rw [List.append_nil] at this
  exact this
theorem OwnsL.task {h : Heap} {t : Task} {cs : List V} {ids : List Nat} (o : OwnsL h (encTask t) cs ids) : ∃ va, cs = [va, .int .i64 t.next.op, .int .i64 t.next.a, .int .i64 t.next.b] ∧ Owns h (.lst 6 (t.body.map encStmt)) va ids := by
  obtain ⟨c, cs', i, j, rfl, rfl, o1, o2⟩ := OwnsL.cons_.1 o
  obtain ⟨rfl, rfl⟩ := (OwnsL.scalars (by rfl)).1 o2
  exact ⟨c, rfl, by simpa using o1⟩
theorem toTask_f (t : Task) (hx : t.body.length ≤ 1048576) : F Tryz.prog 170 [.agg (encTask t)] (.agg (encTask t)) := by
  obtain ⟨body, ⟨op, a, b⟩⟩ := t
  refine C.by mixed (cfn_ok Tryz.func170 ok170) rfl ?_
  simp (disch := omega) only [s170, go_sem, encTask, storeH, storeB, splice]
  refine F.go (toStmtS_f body hx) (.same (refs_stmts1 _ _)) fun r h1 ids x1 n1 g1 o1 => ?_
  have o1 := Owns.lstR.1 o1
  obtain ⟨ov, on, oc⟩ := o1.vv
  have b0 := x1.get (i := 0) rfl
  have b1 := x1.get (i := 1) rfl
  have b2 := x1.get (i := 2) rfl
  have c0 : ∀ c, (h1.set 2 c)[2]? = some c := fun c => heap_set _ b2
  have c1 : ∀ c, (h1.set 2 c)[0]? = some [[.lst 6 (body.map encStmt), .int .i64 op, .int .i64 a, .int .i64 b]] := fun c => heap_set_ne _ (by omega) b0
  have c2 : ∀ c, (h1.set 2 c)[1]? = some [[.nils, .int .i64 0, .int .i64 0, .int .i64 0]] := fun c => heap_set_ne _ (by omega) b1
  have c3 : ∀ c d, ((h1.set 2 c).set 1 d)[1]? = some d := fun c d => heap_set _ (c2 c)
  have ss : ∀ c d, (h1.set 2 c).set 2 d = h1.set 2 d := fun c d => List.set_set ..
  simp (disch := omega) only [go_sem, ov, on, oc, b0, b1, b2, c0, c1, c2, c3, ss, storeH, storeB, splice]
  refine CP.go (toExpr_c ⟨op, a, b⟩) rfl rfl ?_
  simp (disch := omega) only [go_sem, ov, on, oc, b0, b1, b2, c0, c1, c2, c3, ss, storeH, storeB, splice, encExpr]
  exact ⟨ids, n1, Owns.aggR.2 ⟨_, rfl, OwnsL.mkTask (t := ⟨body, ⟨op, a, b⟩⟩) ((o1.set _ (nin_ge g1 (by simp))).set _ (nin_ge g1 (by simp)))⟩⟩
theorem OwnsLL.snoc {h : Heap} : ∀ {ys b : Blk} {i j : List Nat} {y r : List V}, OwnsLL h ys b i → OwnsL h y r j → OwnsLL h (ys ++ [y]) (b ++ [r]) (i ++ j)
  | [], b, i, j, y, r, o, q => by
    obtain ⟨rfl, rfl⟩ := OwnsLL.nil_.1 o
    exact OwnsLL.cons_.2 ⟨r, [], j, [], rfl, by simp, q, OwnsLL.nil_.2 ⟨rfl, rfl⟩⟩
  | y' :: ys, b, i, j, y, r, o, q => by
    obtain ⟨r', b', i1, i2, rfl, rfl, o1, o2⟩ := OwnsLL.cons_.1 o
    exact OwnsLL.cons_.2 ⟨r', b' ++ [r], i1, i2 ++ j, rfl, by simp, o1, o2.snoc q⟩
theorem rows_set {b : Blk} {k n : Nat} {c z : List V} (hb : b.length = k) (hk : k < n) : (b ++ List.replicate (n - k) z).set k c = (b ++ [c]) ++ List.replicate (n - (k + 1)) z := by
  have e1 : n - k = (n - (k + 1)) + 1 := by omega
  rw [e1, List.replicate_succ, List.set_append_right _ _ (by omega), hb, Nat.sub_self, List.set_cons_zero, List.append_assoc]; rfl
theorem toTaskS_f (ts : List Task) (hx : ts.length ≤ 1048576) (hb : ∀ t ∈ ts, t.body.length ≤ 1048576) : F Tryz.prog 103 [.lst 4 (ts.map encTask)] (.lst 4 (ts.map encTask)) := by
  refine C.by mixed (cfn_ok Tryz.func103 ok103) rfl ?_
  simp (disch := omega) only [s103, go_sem]
  refine loopP_intro (fun m s => ∃ k : Nat, ∃ rows : Blk, ∃ ids : List Nat, k ≤ ts.length ∧ m = ts.length - k ∧ s.e 0 = .lst 4 (ts.map encTask) ∧ s.e 4 = .int .i64 k ∧ s.e 3 = .own 0 4 0 ts.length ts.length ∧ s.h[0]? = some (rows ++ List.replicate (ts.length - k) [.nils, .int .i64 0, .int .i64 0, .int .i64 0]) ∧ rows.length = k ∧ (∀ e ∈ rows, e.length = 4) ∧ ids.Nodup ∧ (∀ i ∈ ids, 0 < i) ∧ OwnsLL s.h ((ts.take k).map encTask) rows ids) ts.length ⟨0, [], [], by omega, by omega, rfl, rfl, rfl, by simp, rfl, fun e he => absurd he List.not_mem_nil, .nil, fun e he => absurd he List.not_mem_nil, OwnsLL.nil_.2 ⟨rfl, rfl⟩⟩ ?_
  intro m e hp P
  refine Exists.elim P fun k P => Exists.elim P fun rows P => Exists.elim P fun ids P => ?_
  have hk := P.1
  have hm := P.2.1
  have e0 := P.2.2.1
  have e4 := P.2.2.2.1
  have e3 := P.2.2.2.2.1
  have hid := P.2.2.2.2.2.1
  have hr := P.2.2.2.2.2.2.1
  have h4 := P.2.2.2.2.2.2.2.1
  have nd := P.2.2.2.2.2.2.2.2.1
  have g0 := P.2.2.2.2.2.2.2.2.2.1
  have oo := P.2.2.2.2.2.2.2.2.2.2
  clear P
  subst hm
  simp only at e0 e4 e3 hid oo
  simp (disch := omega) only [go_sem, e0, e4, e3, encTask]
  refine condP_dec (fun hlt => ?_) (fun hlt => ?_)
  · have hlt' : k < ts.length := by omega
    simp (disch := omega) only [go_sem, e0, e4, e3, encTask]
    refine F.go (toTask_f ts[k] (hb _ (List.getElem_mem hlt'))) (.same (refs_task1 _ ts[k])) fun r h1 js x1 n1 g1 o1 => ?_
    refine Exists.elim (Owns.aggR.1 o1) fun cs q => ?_
    have q1 := q.1
    refine Exists.elim q.2.task fun va w => ?_
    have w1 := w.1
    have w2 := w.2
    clear o1 q w
    subst w1
    subst q1
    have wv := w2.vv
    have wone := wv.1
    have wno := wv.2.1
    have wce := wv.2.2
    have hid1 := x1.get hid
    have hz : 0 < hp.length := heap_lt hid
    have hrl : ∀ e ∈ rows ++ List.replicate (ts.length - k) [.nils, .int .i64 0, .int .i64 0, .int .i64 0], e.length = 4 := fun e he => by
      rcases List.mem_append.1 he with q | q
      · exact h4 e q
      · rw [(List.mem_replicate.1 q).2]; rfl
    have hst := storeH_row (sz := 4) (x := .agg [va, .int .i64 ts[k].next.op, .int .i64 ts[k].next.a, .int .i64 ts[k].next.b]) hid1 (n := ts.length) (i := k) (by simp; omega) hlt' hrl (by simp only [cells_agg, fit, List.all_cons, List.all_nil, wone]; rfl)
    simp only [cells_agg] at hst
    simp (disch := omega) only [go_sem, e0, e4, e3, hst, wone, wno, wce]
    refine nextP_intro (ts.length - (k + 1)) (by omega) ⟨k + 1, rows ++ [[va, .int .i64 ts[k].next.op, .int .i64 ts[k].next.a, .int .i64 ts[k].next.b]], ids ++ js, by omega, rfl, by simp (disch := omega) only [go_sem, e0, e4, e3, hst, wone, wno, wce], by simp (disch := omega) only [go_sem, e0, e4, e3, hst, wone, wno, wce]; rfl, by simp (disch := omega) only [go_sem, e0, e4, e3, hst, wone, wno, wce], ?_, by simp [hr], ?_, ?_, ?_, ?_⟩
    · rw [heap_set _ hid1]
      congr 1
      exact rows_set hr hlt'
    · intro e he
      rcases List.mem_append.1 he with q | q
      · exact h4 e q
      · rw [List.mem_singleton.1 q]; rfl
    · refine List.nodup_append.2 ⟨nd, n1, fun a ha b hb' => ?_⟩
      have := oo.lt a ha
      have := g1 b hb'
      omega
    · intro i hi
      rcases List.mem_append.1 hi with q | q
      · exact g0 i q
      · have := g1 i q; omega
    · rw [List.take_succ_eq_append_getElem hlt', List.map_append]
      refine OwnsLL.snoc ((oo.up x1).keep fun i hi => ?_) ((OwnsL.mkTask w2).keep fun i hi => ?_)
      · have := g0 i hi; exact List.getElem?_set_ne (by omega)
      · have := g1 i hi; exact List.getElem?_set_ne (by omega)
  · have : k = ts.length := by omega
    subst this
    rw [List.take_length] at oo
    rw [Nat.sub_self, List.replicate_zero, List.append_nil] at hid
    simp (disch := omega) only [go_sem, e0, e4, e3, encTask]
    exact ⟨0 :: ids, List.nodup_cons.2 ⟨fun h => by have := g0 0 h; omega, nd⟩, Owns.lst_.2 (.inr ⟨0, rows, ids, by simp, hid, rfl, oo⟩)⟩
theorem toProg_f (ts : List Task) (hx : ts.length ≤ 1048576) (hb : ∀ t ∈ ts, t.body.length ≤ 1048576) : F Tryz.prog 39 [.agg [.lst 4 (ts.map encTask)]] (.agg [.lst 4 (ts.map encTask)]) := by
  refine C.by mixed (cfn_ok Tryz.func39 ok39) rfl ?_
  simp (disch := omega) only [s39, go_sem, storeH, storeB, splice]
  refine F.go (toTaskS_f ts hx hb) (.same (by simp only [V.refsL, refs_tasksV]; rfl)) fun r h1 ids x1 n1 g1 o1 => ?_
  have o1 := Owns.lstR.1 o1
  obtain ⟨ov, on, oc⟩ := o1.vv
  have b0 := x1.get (i := 0) rfl
  have b1 := x1.get (i := 1) rfl
  have b2 := x1.get (i := 2) rfl
  have c0 : ∀ c, (h1.set 2 c)[2]? = some c := fun c => heap_set _ b2
  have c1 : ∀ c, (h1.set 2 c)[0]? = some [[.lst 4 (ts.map encTask)]] := fun c => heap_set_ne _ (by omega) b0
  have c2 : ∀ c, (h1.set 2 c)[1]? = some [[.nils]] := fun c => heap_set_ne _ (by omega) b1
  have c3 : ∀ c d, ((h1.set 2 c).set 1 d)[1]? = some d := fun c d => heap_set _ (c2 c)
  have ss : ∀ c d, (h1.set 2 c).set 2 d = h1.set 2 d := fun c d => List.set_set ..
  simp (disch := omega) only [go_sem, ov, on, oc, b0, b1, b2, c0, c1, c2, c3, ss, storeH, storeB, splice]
  have := OwnsL.o ((o1.set [[r]] (nin_ge g1 (j := 2) (by simp))).set [[r]] (nin_ge g1 (j := 1) (by simp))) OwnsL.e
  rw [List.append_nil] at this
  exact ⟨ids, n1, Owns.aggR.2 ⟨_, rfl, this⟩⟩
end Go.Av
