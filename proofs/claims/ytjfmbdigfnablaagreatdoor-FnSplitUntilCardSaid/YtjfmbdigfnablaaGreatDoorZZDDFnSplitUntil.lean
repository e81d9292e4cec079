import Derived.Test.YtjfmbdigfnablaaGreatDoorZZDCFnSplitUntil
import Derived.Test.YtjfmbdigfnablaaGreatDoorAv28
import Derived.Test.YtjfmbdigfnablaaGreatDoorLay1
import Derived.Lib.ItoaLen
import Derived.LoopTactic
import Derived.WalkKit
import Derived.BigCall
import Derived.Lib.Hide
import Derived.Laws.Concat
namespace Go.Av
open Go.Proofs Go.RowKit
set_option linter.unusedVariables false
set_option linter.unusedSimpArgs false
set_option maxRecDepth 100000
set_option maxHeartbeats 4000000
def Tr.app : Tr → Tr → Tr
  | .nil, b => b
  | .one s r, b => .one s (r.app b)
  | .grp s a r, b => .grp s a (r.app b)
def Tr.dep : Tr → Nat
  | .nil => 0
  | .one _ r => r.dep
  | .grp _ a r => max (a.dep + 1) r.dep
theorem Tr.app_flat : ∀ a b : Tr, (a.app b).flat = a.flat ++ b.flat
  | .nil, b => rfl
  | .one s r, b => by simp [Tr.app, Tr.flat, Tr.app_flat r b]
  | .grp s a r, b => by simp [Tr.app, Tr.flat, Tr.app_flat r b]
theorem Tr.app_ok : ∀ {a b : Tr}, a.ok = true → b.ok = true → (a.app b).ok = true
  | .nil, b, _, h => h
  | .one s r, b, h, h' => by
    simp only [Tr.ok, Bool.and_eq_true] at h
    simp only [Tr.app, Tr.ok, Bool.and_eq_true]
    exact ⟨h.1, Tr.app_ok h.2 h'⟩
  | .grp s a r, b, h, h' => by
    simp only [Tr.ok, Bool.and_eq_true] at h
    simp only [Tr.app, Tr.ok, Bool.and_eq_true]
    exact ⟨h.1, Tr.app_ok h.2 h'⟩
theorem Tr.app_dep : ∀ (a b : Tr), (a.app b).dep = max a.dep b.dep
  | .nil, b => by simp [Tr.app, Tr.dep]
  | .one s r, b => by simp [Tr.app, Tr.dep, Tr.app_dep r b]
  | .grp s a r, b => by simp only [Tr.app, Tr.dep, Tr.app_dep r b]; omega
theorem blockFrom_cons (d : Int) (s : Stmt) (xs : List Stmt) : blockFrom d (s :: xs) = if stmtOk s = true ∧ 0 ≤ d + delta s.kind ∧ d + delta s.kind ≤ 3 then blockFrom (d + delta s.kind) xs else false := rfl
theorem blockFrom_tree : ∀ (t : Tr) (d : Int) (v : List Stmt), t.ok = true → 0 ≤ d → d + t.dep ≤ 3 → blockFrom d (t.flat ++ v) = blockFrom d v
  | .nil, d, v, _, _, _ => rfl
  | .one s r, d, v, h, h0, h3 => by
    obtain ⟨hs, hk, hr⟩ := Tr.one_ok h
    have hd : delta s.kind = 0 := by rw [delta_of, if_neg (by omega), if_neg (by omega)]
    simp only [Tr.dep] at h3
    simp only [Tr.flat, List.cons_append]
    rw [blockFrom_cons, hd, Int.add_zero, if_pos ⟨hs, h0, by omega⟩]
    exact blockFrom_tree r d v hr h0 h3
  | .grp s a r, d, v, h, h0, h3 => by
    obtain ⟨hs, hk, ha, hr⟩ := Tr.grp_ok h
    have hd : delta s.kind = 1 := by rw [delta_of, if_pos hk]
    have he : delta endS.kind = -1 := by rw [delta_of]; rfl
    have hes : stmtOk endS = true := by decide
    simp only [Tr.dep] at h3
    simp only [Tr.flat, List.cons_append, List.append_assoc]
    rw [blockFrom_cons, hd, if_pos ⟨hs, by omega, by omega⟩, blockFrom_tree a (d + 1) _ ha (by omega) (by omega), blockFrom_cons, he, if_pos ⟨hes, by omega, by omega⟩, show d + 1 + -1 = d by omega]
    exact blockFrom_tree r d v hr h0 (by omega)
theorem tree_blockOk {t : Tr} (h : t.ok = true) (hd : t.dep ≤ 3) (hl : t.flat.length ≤ 24) : blockOk t.flat = true := by
  have := blockFrom_tree t 0 [] h (by omega) (by omega)
  rw [List.append_nil] at this
  simp only [blockOk, this, Bool.and_eq_true, decide_eq_true_eq]
  exact ⟨by decide, by omega⟩
theorem Sep.goBelow {h : Heap} {id : Nat} {n : Int} {L : List It} {K : V → Heap → Prop} (S : Sep h (.c id :: L)) (hn : n ≤ 4294967296) (hk : ∀ z h', 0 ≤ z → z < max 1 n → Sep h' (.c id :: L) → K (.int .i64 z) h') : @callP Tryz.prog 13 [.ptr id 1 0 0, .int .i64 n] h ⟨K⟩ :=
  S.goDI (below_c h id n S.cur hn) hk
theorem Sep.goOnce {h : Heap} {id : Nat} {n : Int} {L : List It} {K : V → Heap → Prop} (S : Sep h (.c id :: L)) (hn : n ≤ 4294967296) (hk : ∀ b h', Sep h' (.c id :: L) → K (.bool b) h') : @callP Tryz.prog 103 [.ptr id 1 0 0, .int .i64 n] h ⟨K⟩ :=
  (once_c h id n S.cur hn).go fun b h' c x => hk b h' (S.curX c x)
theorem Sep.goPick {h : Heap} {id lid n : Nat} {zs : List Int} {L : List It} {K : V → Heap → Prop} (S : Sep h (.c id :: .k lid (zs.map encI) :: L)) (hz : zs.length = n) (h0 : 0 < n) (hn : n ≤ 4294967296) (hk : ∀ z h', z ∈ zs → Sep h' (.c id :: L) → K (.int .i64 z) h') : @callP Tryz.prog 105 [.ptr id 1 0 0, .own lid 1 0 n n] h ⟨K⟩ := by
  have hne : lid ≠ id := by
    obtain ⟨ids, nd, i, j, rfl, ⟨rfl, c⟩, i2, j2, rfl, ⟨rfl, e⟩, s⟩ := S
    intro e; subst e
    simp at nd
  refine C.go (pick_c h id lid zs n S.cur (S.blk 1 rfl) hne hz h0 hn) ?_
  rintro r h' ⟨z, rfl, hm, c, x⟩
  exact hk z h' hm ((S.curX c x).drop 1)
theorem operand_d {h : Heap} {id : Nat} {L : List It} (S : Sep h (.c id :: L)) : C Tryz.prog 85 [.ptr id 1 0 0] h (fun r h' => ∃ z, r = .int .i64 z ∧ operandOk z = true ∧ Sep h' (.c id :: L)) := by
  refine C.by mixed (cfn_ok Tryz.func85 ok85) rfl ?_
  simp (disch := omega) only [s85, go_sem]
  refine S.goOnce (by omega) fun b h1 S1 => ?_
  simp (disch := omega) only [go_sem]
  refine condP_split (fun hb => ?_) (fun hb => ?_)
  · simp (disch := omega) only [go_sem]
    refine S1.goBelow (by omega) fun z h2 z0 z1 S2 => ?_
    simp (disch := omega) only [go_sem]
    exact ⟨_, rfl, by simp [operandOk, within]; omega, S2⟩
  · simp (disch := omega) only [go_sem]
    have S2 : Sep (h1 ++ [[0, 1, 2, 3, 10, 999].map encI]) (.c id :: .k h1.length ([0, 1, 2, 3, 10, 999].map encI) :: L) := (S1.newK _).perm (.swap _ _ _)
    refine S2.goPick rfl (by omega) (by omega) fun z h3 hm S3 => ?_
    simp (disch := omega) only [go_sem]
    refine ⟨_, rfl, ?_, S3⟩
    simp only [List.mem_cons, List.not_mem_nil, or_false] at hm
    simp [operandOk, within]; omega
theorem expr_d {h : Heap} {id : Nat} {L : List It} (S : Sep h (.c id :: L)) : C Tryz.prog 64 [.ptr id 1 0 0] h (fun r h' => ∃ e : Expr, r = .agg (encExpr e) ∧ exprOk e = true ∧ Sep h' (.c id :: L)) := by
  refine C.by mixed (cfn_ok Tryz.func64 ok64) rfl ?_
  simp (disch := omega) only [s64, go_sem]
  have S0 := (S.newK [[.int .i64 0, .int .i64 0, .int .i64 0]]).perm (.swap _ _ _)
  refine S0.goBelow (by omega) fun o h1 o0 o1 S1 => ?_
  simp (disch := omega) only [go_sem]
  refine C.go (operand_d S1) ?_
  rintro r h2 ⟨a, rfl, ha, S2⟩
  simp (disch := omega) only [go_sem]
  refine C.go (operand_d S2) ?_
  rintro r h3 ⟨b, rfl, hb, S3⟩
  have K3 := S3.blk 1 rfl
  simp (disch := omega) only [go_sem, storeH, storeB, splice, K3, heap_set]
  refine ⟨⟨1 + o, a, b⟩, rfl, ?_, (S3.sw.setK _).drop1⟩
  simp [exprOk, ha, hb, within]; omega
theorem stmt_d {h : Heap} {id : Nat} {L : List It} (S : Sep h (.c id :: L)) : C Tryz.prog 104 [.ptr id 1 0 0] h (fun r h' => ∃ s : Stmt, r = .agg (encStmt s) ∧ stmtOk s = true ∧ (s.kind = 1 ∨ s.kind = 2 ∨ s.kind = 3) ∧ Sep h' (.c id :: L)) := by
  refine C.by mixed (cfn_ok Tryz.func104 ok104) rfl ?_
  simp (disch := omega) only [s104, go_sem]
  have S0 := (S.newK [[.int .i64 0, .int .i64 0, .int .i64 0, .int .i64 0, .int .i64 0, .int .i64 0]]).sw
  refine S0.goBelow (by omega) fun o h1 o0 o1 S1 => ?_
  simp (disch := omega) only [go_sem]
  have fin : ∀ (h3 : Heap) (s : Stmt), Sep h3 (.c id :: .k h.length [[.int .i64 0, .int .i64 0, .int .i64 0, .int .i64 0, .int .i64 0, .int .i64 0]] :: L) → Sep (h3.set h.length [encStmt s]) (.c id :: L) := fun h3 s S3 => (S3.sw.setK _).drop1
  have eok : ∀ {e : Expr}, exprOk e = true → exprOk e = true := fun h => h
  repeat' (first | (refine condP_t (by assumption) ?_ <;> (try simp (disch := omega) only [go_sem])) | (refine condP_f (by assumption) ?_ <;> (try simp (disch := omega) only [go_sem])) | (refine condP_dec (fun h => ?_) (fun h => ?_) <;> (try simp (disch := omega) only [go_sem])) | (refine condP_split (fun h => ?_) (fun h => ?_) <;> (try simp (disch := omega) only [go_sem])))
  all_goals first
    | (refine S1.goBelow (by omega) fun v h2 v0 v1 S2 => ?_
       simp (disch := omega) only [go_sem]
       refine S2.goBelow (by omega) fun n h3 n0 n1 S3 => ?_
       have K3 := S3.blk 1 rfl
       simp (disch := omega) only [go_sem, storeH, storeB, splice, K3, heap_set]
       exact ⟨⟨2, v, n, ⟨0, 0, 0⟩⟩, rfl, by simp [stmtOk, hasVar, hasExpr, isVar, isSensor, within]; omega, by simp, fin h3 ⟨2, v, n, ⟨0, 0, 0⟩⟩ S3⟩)
    | (refine C.go (expr_d S1) ?_
       rintro r h2 ⟨e, rfl, he, S2⟩
       have K3 := S2.blk 1 rfl
       simp (disch := omega) only [go_sem, storeH, storeB, splice, K3, heap_set, encExpr]
       exact ⟨⟨3, 0, 0, e⟩, rfl, by simp [stmtOk, hasVar, hasExpr, he, within], by simp, fin h2 ⟨3, 0, 0, e⟩ S2⟩)
    | (refine S1.goBelow (by omega) fun v h2 v0 v1 S2 => ?_
       simp (disch := omega) only [go_sem]
       refine C.go (expr_d S2) ?_
       rintro r h3 ⟨e, rfl, he, S3⟩
       have K3 := S3.blk 1 rfl
       simp (disch := omega) only [go_sem, storeH, storeB, splice, K3, heap_set, encExpr]
       exact ⟨⟨1, v, 0, e⟩, rfl, by simp [stmtOk, hasVar, hasExpr, isVar, he, within]; omega, by simp, fin h3 ⟨1, v, 0, e⟩ S3⟩)
def BlockD (d n : Nat) (lim : Nat) : Prop := ∀ (ni di : Int) (h : Heap) (id : Nat) (L : List It), ni = n → di = d → Sep h (.c id :: L) → C Tryz.prog 84 [.ptr id 1 0 0, .int .i64 ni, .int .i64 di] h (fun r h' => ∃ (t : Tr) (l : Nat), r = .own l 6 0 t.flat.length t.flat.length ∧ t.ok = true ∧ t.dep ≤ 2 - d ∧ t.flat.length ≤ lim ∧ Sep h' (.k l (t.flat.map encStmt) :: .c id :: L))
theorem flat_snoc1 (t : Tr) (s : Stmt) : (t.app (.one s .nil)).flat.map encStmt = t.flat.map encStmt ++ [encStmt s] ∧ (t.app (.one s .nil)).flat.length = t.flat.length + 1 := by simp [Tr.app_flat, Tr.flat]
theorem flat_snocG (t : Tr) (s : Stmt) (a : Tr) : (t.app (.grp s a .nil)).flat.map encStmt = ((t.flat.map encStmt ++ [encStmt s]) ++ a.flat.map encStmt) ++ [encStmt endS] ∧ (t.app (.grp s a .nil)).flat.length = t.flat.length + 1 + a.flat.length + 1 := by
  refine ⟨by simp [Tr.app_flat, Tr.flat], by simp [Tr.app_flat, Tr.flat]; omega⟩
theorem block_step (d n m : Nat) (hd : d ≤ 2) (hn : n ≤ 8) (hm : m ≤ 1000) (ih : d < 2 → ∀ n', 1 ≤ n' → n' ≤ 2 → BlockD (d + 1) n' m) : BlockD d n ((if d < 2 then 7 + m else 0) + n) := by
  intro ni di h id L hni hdi S
  subst hni hdi
  refine C.by mixed (cfn_ok Tryz.func84 ok84) rfl ?_
  simp (disch := omega) only [s84, go_sem]
  have S0 : Sep (h ++ [[]]) (.k h.length ((Tr.nil).flat.map encStmt) :: .c id :: L) := S.newK []
  refine loopP_intro (fun q s => ∃ (k l : Nat) (t : Tr), k ≤ n ∧ q = n - k ∧ s.e 0 = .ptr id 1 0 0 ∧ s.e 1 = .int .i64 n ∧ s.e 2 = .int .i64 d ∧ s.e 7 = .own l 6 0 t.flat.length t.flat.length ∧ s.e 8 = .int .i64 k ∧ t.ok = true ∧ t.dep ≤ 2 - d ∧ t.flat.length ≤ (if d < 2 then 7 + m else 0) + k ∧ Sep s.h (.k l (t.flat.map encStmt) :: .c id :: L)) n ⟨0, h.length, .nil, by omega, by omega, by simp (disch := omega) only [go_sem], by simp (disch := omega) only [go_sem], by simp (disch := omega) only [go_sem], by simp (disch := omega) only [go_sem] <;> rfl, by simp (disch := omega) only [go_sem] <;> rfl, rfl, by simp [Tr.dep], by simp [Tr.flat], S0⟩ ?_
  rintro q e hp ⟨k, l, t, hk, rfl, e0, e1, e2, e7, e8, ht, htd, htl, S1⟩
  simp only at e0 e1 e2 e7 e8 S1
  have hbig : (if d < 2 then 7 + m else 0) + k ≤ 2000 := by split <;> omega
  simp (disch := omega) only [go_sem, e0, e1, e2, e7, e8]
  refine condP_dec (fun hlt => ?_) (fun hlt => ?_)
  case' refine_2 =>
    have : k = n := by omega
    subst this
    simp (disch := omega) only [go_sem, e0, e1, e2, e7, e8]
    exact ⟨t, l, rfl, ht, htd, htl, S1⟩
  have hlt' : k < n := by omega
  refine (Nat.lt_or_ge d 2).elim (fun hd2 => ?_) (fun hd2 => ?_)
  case' refine_1 =>
    simp (disch := omega) only [go_sem, e0, e1, e2, e7, e8]
    refine condP_dec (fun h6 => ?_) (fun h6 => ?_)
    case' refine_1 =>
      simp (disch := omega) only [go_sem, e0, e1, e2, e7, e8]
      refine S1.sw.goOnce (by omega) fun b h1 S2 => ?_
      simp (disch := omega) only [go_sem, e0, e1, e2, e7, e8]
      refine condP_split (fun hb => ?_) (fun hb => ?_)
      case' refine_1 =>
        have fin : ∀ (e' : Nat → V) (hh : Heap) (s : Stmt) (a : Tr), stmtOk s = true → (s.kind = 4 ∨ s.kind = 5) → a.ok = true → a.dep ≤ 2 - (d + 1) → a.flat.length ≤ m → e' 0 = .ptr id 1 0 0 → e' 1 = .int .i64 n → e' 2 = .int .i64 d → e' 7 = .own l 6 0 (t.flat.length + 1 + a.flat.length + 1) (t.flat.length + 1 + a.flat.length + 1) → e' 8 = .int .i64 ((k : Int) + 1) → Sep hh (.k l (((t.flat.map encStmt ++ [encStmt s]) ++ a.flat.map encStmt) ++ [encStmt endS]) :: .c id :: L) → @nextP (n - k) ⟨e', hh⟩ ⟨fun q s => ∃ (k l : Nat) (t : Tr), k ≤ n ∧ q = n - k ∧ s.e 0 = .ptr id 1 0 0 ∧ s.e 1 = .int .i64 n ∧ s.e 2 = .int .i64 d ∧ s.e 7 = .own l 6 0 t.flat.length t.flat.length ∧ s.e 8 = .int .i64 k ∧ t.ok = true ∧ t.dep ≤ 2 - d ∧ t.flat.length ≤ (if d < 2 then 7 + m else 0) + k ∧ Sep s.h (.k l (t.flat.map encStmt) :: .c id :: L)⟩ := fun e' hh s a a1 a2 a3 a4 a5 a6 a7 a8 a9 b1 b2 => by
          have z := flat_snocG t s a
          have hok : (Tr.grp s a .nil).ok = true := by
            simp only [Tr.ok, a1, a3, Bool.true_and, Bool.and_true, Bool.or_eq_true, decide_eq_true_eq]; exact a2
          refine nextP_intro (n - (k + 1)) (by omega) ⟨k + 1, l, t.app (.grp s a .nil), by omega, rfl, a6, a7, a8, by rw [z.2]; exact a9, b1, Tr.app_ok ht hok, ?_, ?_, by rw [z.1]; exact b2⟩
          · rw [Tr.app_dep]; simp only [Tr.dep]; omega
          · rw [z.2, if_pos hd2]; omega
        simp (disch := omega) only [go_sem, e0, e1, e2, e7, e8]
        refine S2.goBelow (by omega) fun z h2 z0 z1 S3 => ?_
        simp (disch := omega) only [go_sem, e0, e1, e2, e7, e8, splice]
        have S4 := (S3.newK [encStmt ⟨5, 0, 1 + z, ⟨0, 0, 0⟩⟩]).sw
        simp only [encStmt] at S4
        refine S4.goOnce (n := 2) (by omega) fun b2 h3 S5 => ?_
        simp (disch := omega) only [go_sem, e0, e1, e2, e7, e8]
        refine condP_split (fun hb2 => ?_) (fun hb2 => ?_)
        case' refine_1 =>
          simp (disch := omega) only [go_sem, e0, e1, e2, e7, e8]
          refine C.go (expr_d S5) ?_
          rintro r h4 ⟨ex, rfl, hex, S6'⟩
          have K6 := S6'.blk 1 rfl
          have S6 := (S6'.sw.setK [encStmt ⟨4, 0, 0, ex⟩]).sw
          simp only [encStmt] at S6
          have hs : stmtOk ⟨4, 0, 0, ex⟩ = true := by simp [stmtOk, hasVar, hasExpr, hex, within]
          have hs4 : (⟨4, 0, 0, ex⟩ : Stmt).kind = 4 ∨ (⟨4, 0, 0, ex⟩ : Stmt).kind = 5 := .inl rfl
          have hap := append1 (sz := 6) (bytes := 48) (n := t.flat.length) (c := [.int .i64 4, .int .i64 0, .int .i64 0, .int .i64 ex.op, .int .i64 ex.a, .int .i64 ex.b]) (S6.blk 2 rfl) (by simp) (by omega)
          have S7 := (S6.drop 1).sw.push1 [.int .i64 4, .int .i64 0, .int .i64 0, .int .i64 ex.op, .int .i64 ex.a, .int .i64 ex.b]
          have fin2 := fun e' hh => fin e' hh ⟨4, 0, 0, ex⟩
          simp only [encStmt] at fin2
          simp (disch := omega) only [go_sem, storeH, storeB, splice, K6, heap_set, encExpr, hap, e0, e1, e2, e7, e8]
        case' refine_2 =>
          have S6 := S5
          have K6 := S5.blk 1 rfl
          have hs : stmtOk ⟨5, 0, 1 + z, ⟨0, 0, 0⟩⟩ = true := by simp [stmtOk, hasVar, hasExpr, within]; omega
          have hs4 : (⟨5, 0, 1 + z, ⟨0, 0, 0⟩⟩ : Stmt).kind = 4 ∨ (⟨5, 0, 1 + z, ⟨0, 0, 0⟩⟩ : Stmt).kind = 5 := .inr rfl
          have hap := append1 (sz := 6) (bytes := 48) (n := t.flat.length) (c := [.int .i64 5, .int .i64 0, .int .i64 (1 + z), .int .i64 0, .int .i64 0, .int .i64 0]) (S6.blk 2 rfl) (by simp) (by omega)
          have S7 := (S6.drop 1).sw.push1 [.int .i64 5, .int .i64 0, .int .i64 (1 + z), .int .i64 0, .int .i64 0, .int .i64 0]
          have fin2 := fun e' hh => fin e' hh ⟨5, 0, 1 + z, ⟨0, 0, 0⟩⟩
          simp only [encStmt] at fin2
          simp (disch := omega) only [go_sem, K6, hap, e0, e1, e2, e7, e8]
        all_goals
          refine S7.sw.goBelow (by omega) fun w h8 w0 w1 S8 => ?_
          simp (disch := omega) only [go_sem, e0, e1, e2, e7, e8]
          refine Exists.elim (show ∃ n' : Nat, 1 + w = n' ∧ 1 ≤ n' ∧ n' ≤ 2 from ⟨(1 + w).toNat, by omega, by omega, by omega⟩) fun n' hn' => ?_
          refine C.go (ih hd2 n' hn'.2.1 hn'.2.2 _ _ _ _ _ hn'.1 (by omega) S8) ?_
          intro r h9 P
          refine Exists.elim P fun a P => Exists.elim P fun l2 P => ?_
          have hr := P.1
          have ha := P.2.1
          have had := P.2.2.1
          have hal := P.2.2.2.1
          have S9 := P.2.2.2.2
          clear P
          subst hr
          have hap2 := appendH_n (sz := 6) (bytes := 48) (n := t.flat.length + 1) (m := a.flat.length) (S9.blk 2 rfl) (by simp) (elemsOf_n (sz := 6) (n := a.flat.length) (S9.blk 0 rfl) (by simp)) (by simp) (by omega)
          have S10 := S9.drop1.sw.setApp (a.flat.map encStmt)
          have hap3 := append1 (sz := 6) (bytes := 48) (n := t.flat.length + 1 + a.flat.length) (c := [.int .i64 6, .int .i64 0, .int .i64 0, .int .i64 0, .int .i64 0, .int .i64 0]) (S10.blk 0 rfl) (by simp; omega) (by omega)
          have S11 := S10.push1 [.int .i64 6, .int .i64 0, .int .i64 0, .int .i64 0, .int .i64 0, .int .i64 0]
          simp only [List.append_assoc, List.cons_append, List.nil_append] at hap3 S11 fin2
          simp (disch := omega) only [go_sem, hap2, hap3, splice, e0, e1, e2, e7, e8]
          exact fin2 _ _ a hs (by simp) ha had hal (by simp (disch := omega) only [go_sem, hap2, hap3, splice, e0, e1, e2, e7, e8]) (by simp (disch := omega) only [go_sem, hap2, hap3, splice, e0, e1, e2, e7, e8]) (by simp (disch := omega) only [go_sem, hap2, hap3, splice, e0, e1, e2, e7, e8]) (by simp (disch := omega) only [go_sem, hap2, hap3, splice, e0, e1, e2, e7, e8]) (by simp (disch := omega) only [go_sem, hap2, hap3, splice, e0, e1, e2, e7, e8] <;> rfl) S11
  all_goals
    have fin : ∀ (e' : Nat → V) (hh : Heap) (s : Stmt), stmtOk s = true → (s.kind = 1 ∨ s.kind = 2 ∨ s.kind = 3) → e' 0 = .ptr id 1 0 0 → e' 1 = .int .i64 n → e' 2 = .int .i64 d → e' 7 = .own l 6 0 (t.flat.length + 1) (t.flat.length + 1) → e' 8 = .int .i64 ((k : Int) + 1) → Sep hh (.k l (t.flat.map encStmt ++ [encStmt s]) :: .c id :: L) → @nextP (n - k) ⟨e', hh⟩ ⟨fun q s => ∃ (k l : Nat) (t : Tr), k ≤ n ∧ q = n - k ∧ s.e 0 = .ptr id 1 0 0 ∧ s.e 1 = .int .i64 n ∧ s.e 2 = .int .i64 d ∧ s.e 7 = .own l 6 0 t.flat.length t.flat.length ∧ s.e 8 = .int .i64 k ∧ t.ok = true ∧ t.dep ≤ 2 - d ∧ t.flat.length ≤ (if d < 2 then 7 + m else 0) + k ∧ Sep s.h (.k l (t.flat.map encStmt) :: .c id :: L)⟩ := fun e' hh s a1 a2 a6 a7 a8 a9 b1 b2 => by
      have z := flat_snoc1 t s
      have hok : (Tr.one s .nil).ok = true := by
        simp only [Tr.ok, a1, Bool.true_and, Bool.and_true, Bool.or_eq_true, decide_eq_true_eq]; omega
      refine nextP_intro (n - (k + 1)) (by omega) ⟨k + 1, l, t.app (.one s .nil), by omega, rfl, a6, a7, a8, by rw [z.2]; exact a9, b1, Tr.app_ok ht hok, ?_, ?_, by rw [z.1]; exact b2⟩
      · rw [Tr.app_dep]; simp only [Tr.dep]; omega
      · rw [z.2]; omega
  case' refine_1.refine_1.refine_1 => have S2' := S2
  case' refine_1.refine_1.refine_2 => have S2' := S1.sw
  case' refine_1.refine_2 => have S2' := S1.sw
  all_goals
    simp (disch := omega) only [go_sem, e0, e1, e2, e7, e8]
    refine C.go (stmt_d S2') ?_
    rintro r h3 ⟨s, rfl, hs, hk3, S3⟩
    have hap := append1 (sz := 6) (bytes := 48) (n := t.flat.length) (c := encStmt s) (S3.blk 1 rfl) (by simp) (by omega)
    have S4 := S3.sw.push1 (encStmt s)
    simp only [encStmt] at hap S4
    simp (disch := omega) only [go_sem, hap, encStmt, e0, e1, e2, e7, e8]
    exact fin _ _ s hs hk3 (by simp (disch := omega) only [go_sem, hap, encStmt, e0, e1, e2, e7, e8]) (by simp (disch := omega) only [go_sem, hap, encStmt, e0, e1, e2, e7, e8]) (by simp (disch := omega) only [go_sem, hap, encStmt, e0, e1, e2, e7, e8]) (by simp (disch := omega) only [go_sem, hap, encStmt, e0, e1, e2, e7, e8]) (by simp (disch := omega) only [go_sem, hap, encStmt, e0, e1, e2, e7, e8] <;> rfl) S4
end Go.Av

namespace Go.Av
open Go.Proofs Go.RowKit
set_option linter.unusedVariables false
set_option linter.unusedSimpArgs false
set_option maxRecDepth 100000
set_option maxHeartbeats 4000000
def GoodB (t : Tr) : Prop := t.ok = true ∧ t.dep ≤ 2 ∧ t.flat.length ≤ 24
theorem BlockD.mono {d n l l' : Nat} (h : BlockD d n l) (hl : l ≤ l') : BlockD d n l' := fun ni di hh id L h1 h2 S => C.mono (h ni di hh id L h1 h2 S) fun r h' ⟨t, q, a, b, c, e, f⟩ => ⟨t, q, a, b, c, by omega, f⟩
theorem block0_d (n : Nat) (hn : n ≤ 5) : BlockD 0 n 24 := by
  have b2 : ∀ n', 1 ≤ n' → n' ≤ 2 → BlockD 2 n' 2 := fun n' h1 h2 => (block_step 2 n' 0 (by omega) (by omega) (by omega) (fun h => absurd h (by omega))).mono (by simp; omega)
  have b1 : ∀ n', 1 ≤ n' → n' ≤ 2 → BlockD 1 n' 11 := fun n' h1 h2 => (block_step 1 n' 2 (by omega) (by omega) (by omega) (fun _ => b2)).mono (by simp; omega)
  exact (block_step 0 n 11 (by omega) (by omega) (by omega) (fun _ => b1)).mono (by simp; omega)
theorem case_d {h : Heap} {id : Nat} {L : List It} (S : Sep h (.c id :: L)) : C Tryz.prog 63 [.ptr id 1 0 0] h (fun r h' => ∃ (t : Tr) (l : Nat), r = .own l 6 0 t.flat.length t.flat.length ∧ GoodB t ∧ Sep h' (.k l (t.flat.map encStmt) :: .c id :: L)) := by
  refine C.by mixed (cfn_ok Tryz.func63 ok63) rfl ?_
  simp (disch := omega) only [s63, go_sem]
  refine S.goBelow (n := 6) (by omega) fun z h1 z0 z1 S1 => ?_
  simp (disch := omega) only [go_sem]
  refine C.go (block0_d z.toNat (by omega) _ _ _ _ _ (by omega) rfl S1) ?_
  rintro r h2 ⟨t, l, rfl, h1, h2, h3, S2⟩
  simp (disch := omega) only [go_sem]
  exact ⟨t, l, rfl, ⟨h1, h2, h3⟩, S2⟩
theorem good_task {t : Tr} {e : Expr} (h : GoodB t) (he : exprOk e = true) : taskOk ⟨t.flat, e⟩ = true := by
  simp only [taskOk, Bool.and_eq_true]
  exact ⟨tree_blockOk h.1 (by have := h.2.1; omega) h.2.2, he⟩
theorem push_task (ts : List Task) (t : Task) : (ts ++ [t]).map encTask = ts.map encTask ++ [encTask t] := by simp
theorem program_d {h : Heap} {id : Nat} {L : List It} (S : Sep h (.c id :: L)) : C Tryz.prog 33 [.ptr id 1 0 0] h (fun r h' => ∃ (ts : List Task) (v : V), r = .agg [v] ∧ (1 ≤ ts.length ∧ ts.length ≤ 3) ∧ (∀ t ∈ ts, taskOk t = true) ∧ Sep h' (.v (.lst 4 (ts.map encTask)) v :: .c id :: L)) := by
  refine C.by mixed (cfn_ok Tryz.func33 ok33) rfl ?_
  simp (disch := omega) only [s33, go_sem, storeH, storeB, splice]
  have S0 : Sep (h ++ [[[V.nils]], [[V.nils]]]) (.k (h.length + 1) [[.nils]] :: .v (.lst 4 (([] : List Task).map encTask)) .nils :: .c id :: .k h.length [[.nils]] :: L) := by
    have := ((S.newK [[.nils]]).newK [[.nils]]).nils (sz := 4)
    simp only [List.append_assoc, List.cons_append, List.nil_append, List.length_append, List.length_cons, List.length_nil] at this
    exact this.pk (A := [_, _, _, _]) [1, 0, 3, 2] rfl
  refine loopP_intro (fun m s => ∃ (ts : List Task) (v : V), ts.length ≤ 3 ∧ m = 3 - ts.length ∧ s.e 0 = .ptr id 1 0 0 ∧ s.e 2 = .ptr h.length 1 0 0 ∧ s.e 3 = .ptr (h.length + 1) 1 0 0 ∧ s.e 4 = .int .i64 ts.length ∧ (∀ t ∈ ts, taskOk t = true) ∧ Sep s.h (.k (h.length + 1) [[v]] :: .v (.lst 4 (ts.map encTask)) v :: .c id :: .k h.length [[.nils]] :: L)) 3 ⟨[], .nils, by simp, rfl, by simp (disch := omega) only [go_sem, storeH, storeB, splice], by simp (disch := omega) only [go_sem, storeH, storeB, splice], by simp (disch := omega) only [go_sem, storeH, storeB, splice], by simp (disch := omega) only [go_sem, storeH, storeB, splice] <;> rfl, by simp, S0⟩ ?_
  intro m e hp P
  refine Exists.elim P fun ts P => Exists.elim P fun v P => ?_
  have hk := P.1
  have hm := P.2.1
  have e0 := P.2.2.1
  have e2 := P.2.2.2.1
  have e3 := P.2.2.2.2.1
  have e4 := P.2.2.2.2.2.1
  have hok := P.2.2.2.2.2.2.1
  have S1 := P.2.2.2.2.2.2.2
  clear P
  subst hm
  simp only at e0 e2 e3 e4 S1
  simp (disch := omega) only [go_sem, e0, e2, e3, e4]
  refine (S1.pull 2).goBelow (n := 3) (by omega) fun z h1 z0 z1 S2 => ?_
  simp (disch := omega) only [go_sem, e0, e2, e3, e4]
  refine condP_dec (fun hlt => ?_) (fun hlt => ?_)
  · have hlt' : ts.length < 3 := by omega
    have K2 := S2.blk 1 rfl
    have zv := S2.vv 2 rfl
    simp (disch := omega) only [go_sem, e0, e2, e3, e4, K2, zv.1, zv.2.1, zv.2.2]
    refine C.go (case_d S2) ?_
    rintro r h3 ⟨t, l, rfl, hg, S3⟩
    have K3 := S3.blk 2 rfl
    simp (disch := omega) only [go_sem, e0, e2, e3, e4, K3, zv.1, zv.2.1, zv.2.2]
    refine C.go (expr_d (S3.pull 1)) ?_
    rintro r h4 ⟨ex, rfl, hex, S4⟩
    have K4 := S4.blk 2 rfl
    have K4' := fun t => heap_app (h' := t) K4
    have tl := good_task hg hex
    have S5 := (((S4.pull 1).ofFlat (sz := 6) (n := t.flat.length) (by simp) (flat_Stmt _)).mkTask (t := ⟨t.flat, ex⟩)).newK [[.own l 6 0 t.flat.length t.flat.length, .int .i64 ex.op, .int .i64 ex.a, .int .i64 ex.b]]
    have S6 := S5.pk (A := [_, _, _, _, _]) [4, 1, 3, 2] rfl
    have hpu := Sep.push (bytes := 48) (L := .k (h.length + 1) [[v]] :: .c id :: .k h.length [[.nils]] :: L) S6 (S5.blk 0 rfl) (by simp; omega)
    refine Exists.elim hpu fun v' q => Exists.elim q fun h5 q => ?_
    have hap := q.1
    have S7 := q.2
    clear q hpu
    have K7 := S7.blk 1 rfl
    have zv' := S7.vv 0 rfl
    rw [← push_task ts ⟨t.flat, ex⟩] at S7
    simp (disch := omega) only [go_sem, e0, e2, e3, e4, K4, K4', zv.1, zv.2.1, zv.2.2, encExpr, hap, K7, zv'.1, zv'.2.1, zv'.2.2, storeH, storeB, splice]
    have S8 := ((S7.pull 1).setK [[v']])
    refine nextP_intro (3 - (ts.length + 1)) (by omega) ⟨ts ++ [(⟨t.flat, ex⟩ : Task)], v', by simp; omega, by simp, by simp (disch := omega) only [go_sem, e0, e2, e3, e4, K4, K4', zv.1, zv.2.1, zv.2.2, encExpr, hap, K7, zv'.1, zv'.2.1, zv'.2.2, storeH, storeB, splice], by simp (disch := omega) only [go_sem, e0, e2, e3, e4, K4, K4', zv.1, zv.2.1, zv.2.2, encExpr, hap, K7, zv'.1, zv'.2.1, zv'.2.2, storeH, storeB, splice], by simp (disch := omega) only [go_sem, e0, e2, e3, e4, K4, K4', zv.1, zv.2.1, zv.2.2, encExpr, hap, K7, zv'.1, zv'.2.1, zv'.2.2, storeH, storeB, splice], by simp (disch := omega) only [go_sem, e0, e2, e3, e4, K4, K4', zv.1, zv.2.1, zv.2.2, encExpr, hap, K7, zv'.1, zv'.2.1, zv'.2.2, storeH, storeB, splice] <;> simp, ?_, S8⟩
    intro u hu
    rcases List.mem_append.1 hu with q | q
    · exact hok u q
    · rw [List.mem_singleton.1 q]; exact tl
  · have K2 := S2.blk 1 rfl
    have K3 := S2.blk 3 rfl
    have c1 : ∀ d, (h1.set h.length d)[h.length]? = some d := fun d => heap_set _ K3
    have zv := S2.vv 2 rfl
    simp (disch := omega) only [go_sem, e0, e2, e3, e4, K2, K3, c1, zv.1, zv.2.1, zv.2.2, storeH, storeB, splice]
    exact ⟨ts, v, rfl, ⟨by omega, hk⟩, hok, (((S2.pull 3).setK [[v]]).pk (A := [_, _, _, _]) [3, 1] rfl)⟩
end Go.Av

namespace Go.Av
open Go.Proofs Go.RowKit
set_option linter.unusedVariables false
set_option linter.unusedSimpArgs false
set_option maxRecDepth 100000
set_option maxHeartbeats 4000000
theorem push_int (zs : List Int) (z : Int) : (zs ++ [z]).map encI = zs.map encI ++ [[.int .i64 z]] := by simp [encI]
theorem all_snoc {p : Int → Prop} {zs : List Int} {z : Int} (h : ∀ x ∈ zs, p x) (hz : p z) : ∀ x ∈ zs ++ [z], p x := fun x hx => by
  rcases List.mem_append.1 hx with q | q
  · exact h x q
  · rw [List.mem_singleton.1 q]; exact hz
end Go.Av

namespace Go.Av
open Go.Proofs Go.RowKit
set_option linter.unusedVariables false
set_option linter.unusedSimpArgs false
set_option maxRecDepth 100000
set_option maxHeartbeats 4000000
end Go.Av

namespace Go.Av
open Go.Proofs Go.RowKit
set_option linter.unusedVariables false
set_option linter.unusedSimpArgs false
set_option maxRecDepth 100000
set_option maxHeartbeats 4000000
end Go.Av

namespace Go.Av
open Go.Proofs Go.RowKit
set_option linter.unusedVariables false
set_option linter.unusedSimpArgs false
set_option maxRecDepth 100000
set_option maxHeartbeats 4000000
theorem big_c (bs : List Int) (hb : bs.length ≤ 9223372036854775807) : CP Tryz.prog 4 [.lst 1 (bs.map encB)] (.bool (decide (1048576 < (bs.length : Int)))) [] := by
  refine CP.by rfl mixed (cfn_ok Tryz.func4 ok4) rfl ?_
  simp (disch := omega) only [s4, go_sem]
theorem refs_bytes (n : Nat) (bs : List Int) : V.refsL n [.lst 1 (bs.map encB)] = true := by simp [V.refsL, V.refs, refsLL_map encB (fun _ => rfl) bs]
theorem Sep.goNew {h : Heap} {L : List It} {K : V → Heap → Prop} {bs : List Int} (S : Sep h L) (hb : bs.length ≤ 1048576) (hk : ∀ h', Sep h' (.c h.length :: L) → K (.ptr h.length 1 0 0) h') : @callP Tryz.prog 12 [.lst 1 (bs.map encB)] h ⟨K⟩ := by
  refine C.go (new_c bs h hb) ?_
  rintro r h' ⟨rfl, e, c⟩
  exact hk h' (S.curNew e c)
def DrawnP (ts : List Task) : Prop := (1 ≤ ts.length ∧ ts.length ≤ 3) ∧ ∀ t ∈ ts, taskOk t = true
theorem DrawnP.body {ts : List Task} (h : DrawnP ts) : ∀ t ∈ ts, t.body.length ≤ 1048576 := fun t ht => by
  have := (treeOf_ok (task_facts (h.2 t ht)).1).2.2
  omega
theorem DrawnP.ok {ts : List Task} (h : DrawnP ts) : programOk ts = true := by
  simp only [programOk, within, Bool.and_eq_true, decide_eq_true_eq, List.all_eq_true]
  have := h.1
  exact ⟨by omega, h.2⟩
end Go.Av

namespace Go.Av
open Go.Proofs Go.RowKit
set_option linter.unusedVariables false
set_option linter.unusedSimpArgs false
set_option maxRecDepth 100000
set_option maxHeartbeats 4000000
theorem Sep.setNext {h : Heap} {ts : List Task} {v : V} {i : Nat} {L : List It} (S : Sep h (.v (.lst 4 (ts.map encTask)) v :: L)) (hi : i < ts.length) (e : Expr) :
    ∃ id b vt, v = .own id 4 0 ts.length ts.length ∧ h[id]? = some b ∧ b.length = ts.length ∧ b[i]? = some [vt, .int .i64 ts[i].next.op, .int .i64 ts[i].next.a, .int .i64 ts[i].next.b] ∧ V.one vt = true ∧ Sep (h.set id (b.set i [vt, .int .i64 e.op, .int .i64 e.a, .int .i64 e.b])) (.v (.lst 4 ((ts.set i ⟨ts[i].body, e⟩).map encTask)) v :: L) := by
  obtain ⟨id, b, c, M, rfl, hb, hc, S1, back⟩ := S.rowWork (k := i) (d := encTask ts[i]) (by simp [hi])
  have hid := S1.blk 0 rfl
  obtain ⟨vt, _, rfl, S2⟩ := sep_ll.1 (S1.perm (.swap _ _ _))
  obtain ⟨_, rfl, S3⟩ := sep_li.1 S2
  obtain ⟨_, rfl, S4⟩ := sep_li.1 S3
  obtain ⟨_, rfl, S5⟩ := sep_li.1 S4
  obtain ⟨rfl, S6⟩ := sep_l0.1 S5
  have S7 : Sep h (.k id b :: .v (.lst 6 (ts[i].body.map encStmt)) vt :: M) := S6.perm (.cons _ List.perm_append_comm)
  have z := S7.vv 1 rfl
  have S8 := S7.setK (b.set i [vt, .int .i64 e.op, .int .i64 e.a, .int .i64 e.b])
  have A1 := Sep.li (k := .i64) (z := e.op) (Sep.li (k := .i64) (z := e.a) (Sep.li (k := .i64) (z := e.b) (Sep.l0 S8.sw)))
  have A2 := Sep.cons2 (fun es e => by cases e) (Sep.sw A1)
  have A3 := back _ (encTask ⟨ts[i].body, e⟩) _ A2.sw
  rw [List.length_map] at hb
  refine ⟨id, b, vt, by rw [List.length_map], hid, hb, hc, z.1, ?_⟩
  rw [List.map_set]
  exact A3
def RigidP (ts : List Task) : Prop := ∀ t ∈ ts, ∃ j : Nat, j < ts.length ∧ t.next = ⟨1, j, 0⟩
theorem expr_num (j : Nat) (h : j ≤ 900) : exprOk ⟨1, j, 0⟩ = true := by
  simp [exprOk, operandOk, within]; omega
theorem rigid_d {h : Heap} {id : Nat} {L : List It} (S : Sep h (.c id :: L)) : C Tryz.prog 11 [.ptr id 1 0 0] h (fun r h' => ∃ (ts : List Task) (v : V), r = .agg [v] ∧ (1 ≤ ts.length ∧ ts.length ≤ 3) ∧ (∀ t ∈ ts, taskOk t = true) ∧ RigidP ts ∧ Sep h' (.v (.lst 4 (ts.map encTask)) v :: .c id :: L)) := by
  refine C.by mixed (cfn_ok Tryz.func11 ok11) rfl ?_
  simp (disch := omega) only [s11, go_sem]
  have S0 := (S.newK [[.nils]]).sw
  refine C.go (program_d S0) ?_
  rintro r h1 ⟨ts0, v, rfl, hl, hok, S1⟩
  have zv := S1.vv 0 rfl
  simp (disch := omega) only [go_sem, zv.1, zv.2.1, zv.2.2, splice]
  have S2 := S1.newK [[v]]
  refine loopP_intro (fun m s => ∃ (ts : List Task) (k : Nat), ts.length = ts0.length ∧ k ≤ ts.length ∧ m = ts.length - k ∧ s.e 0 = .ptr id 1 0 0 ∧ s.e 2 = .ptr h.length 1 0 0 ∧ s.e 3 = .ptr h1.length 1 0 0 ∧ s.e 4 = .int .i64 k ∧ (∀ t ∈ ts, taskOk t = true) ∧ (∀ (i : Nat) (hi : i < ts.length), i < k → ∃ j : Nat, j < ts.length ∧ ts[i].next = ⟨1, j, 0⟩) ∧ Sep s.h (.c id :: .k h1.length [[v]] :: .v (.lst 4 (ts.map encTask)) v :: .k h.length [[.nils]] :: L)) ts0.length ⟨ts0, 0, rfl, by omega, by omega, by simp (disch := omega) only [go_sem, zv.1, zv.2.1, zv.2.2, splice], by simp (disch := omega) only [go_sem, zv.1, zv.2.1, zv.2.2, splice], by simp (disch := omega) only [go_sem, zv.1, zv.2.1, zv.2.2, splice], by simp (disch := omega) only [go_sem, zv.1, zv.2.1, zv.2.2, splice] <;> rfl, hok, fun i hi q => by omega, S2.pk (A := [_, _, _, _]) [2, 0, 1, 3] rfl⟩ ?_
  intro m e hp P
  refine Exists.elim P fun ts P => Exists.elim P fun k P => ?_
  have hlt0 := P.1
  have hk := P.2.1
  have hm := P.2.2.1
  have e0 := P.2.2.2.1
  have e2 := P.2.2.2.2.1
  have e3 := P.2.2.2.2.2.1
  have e4 := P.2.2.2.2.2.2.1
  have hok1 := P.2.2.2.2.2.2.2.1
  have hri := P.2.2.2.2.2.2.2.2.1
  have S3 := P.2.2.2.2.2.2.2.2.2
  clear P
  subst hm
  simp only at e0 e2 e3 e4 S3
  have K3 := S3.blk 1 rfl
  have lenv := fun G => (S3.lst 2 rfl).elim fun i o => o.len_ G
  simp only [List.length_map] at lenv
  simp (disch := omega) only [go_sem, e0, e2, e3, e4, K3, zv.1, zv.2.1, zv.2.2, lenv]
  refine condP_dec (fun hlt => ?_) (fun hlt => ?_)
  · have hlt' : k < ts.length := by omega
    simp (disch := omega) only [go_sem, e0, e2, e3, e4, K3, zv.1, zv.2.1, zv.2.2, lenv]
    refine S3.goBelow (by omega) fun z h5 z0 z1 S5 => ?_
    have K5 := S5.blk 1 rfl
    refine Exists.elim ((S5.pull 2).setNext hlt' ⟨1, z, 0⟩) fun lid q => Exists.elim q fun b q => Exists.elim q fun vt q => ?_
    have hv := q.1
    have hid := q.2.1
    have hbl := q.2.2.1
    have hbk := q.2.2.2.1
    have zt := q.2.2.2.2.1
    have S6 := q.2.2.2.2.2
    clear q
    simp (disch := omega) only [go_sem, e0, e2, e3, e4, K5, zv.1, zv.2.1, zv.2.2, lenv, hv]
    simp (disch := omega) only [go_sem, e0, e2, e3, e4, K5, zv.1, zv.2.1, zv.2.2, lenv, hv, hid, hbl, hbk, zt, storeH, storeB, splice]
    have hz : ((z.toNat : Nat) : Int) = z := by omega
    have hzl : z.toNat < ts.length := by omega
    have htk := task_facts (hok1 _ (List.getElem_mem hlt'))
    have hnt : taskOk ⟨ts[k].body, ⟨1, z, 0⟩⟩ = true := by
      have := expr_num z.toNat (by omega)
      rw [hz] at this
      simp only [taskOk, htk.1, this, Bool.and_self]
    refine nextP_intro (ts.length - (k + 1)) (by omega) ⟨ts.set k ⟨ts[k].body, ⟨1, z, 0⟩⟩, k + 1, by simpa using hlt0, by simp; omega, by simp, by simp (disch := omega) only [go_sem, e0, e2, e3, e4, K5, zv.1, zv.2.1, zv.2.2, lenv, hv, hid, hbl, hbk, zt, storeH, storeB, splice], by simp (disch := omega) only [go_sem, e0, e2, e3, e4, K5, zv.1, zv.2.1, zv.2.2, lenv, hv, hid, hbl, hbk, zt, storeH, storeB, splice], by simp (disch := omega) only [go_sem, e0, e2, e3, e4, K5, zv.1, zv.2.1, zv.2.2, lenv, hv, hid, hbl, hbk, zt, storeH, storeB, splice], by simp (disch := omega) only [go_sem, e0, e2, e3, e4, K5, zv.1, zv.2.1, zv.2.2, lenv, hv, hid, hbl, hbk, zt, storeH, storeB, splice] <;> rfl, fun t ht => (List.mem_or_eq_of_mem_set ht).elim (hok1 t) (fun q => q ▸ hnt), fun i hi q => ?_, S6.pk (A := [_, _, _, _]) [1, 2, 0, 3] rfl⟩
    by_cases w : i = k
    · subst w
      exact ⟨z.toNat, by simpa using hzl, by rw [List.getElem_set_self, hz]⟩
    · have := hri i (by simpa using hi) (by omega)
      rw [List.getElem_set_ne (by omega), List.length_set]
      exact this
  · have Z3 := S3.blk 3 rfl
    have C3 : ∀ d, (hp.set h.length d)[h.length]? = some d := fun d => heap_set _ Z3
    simp (disch := omega) only [go_sem, e0, e2, e3, e4, K3, zv.1, zv.2.1, zv.2.2, lenv, Z3, C3, storeH, storeB, splice]
    refine ⟨ts, v, rfl, by omega, hok1, fun t ht => ?_, ((S3.pull 3).setK [[v]]).pk (A := [_, _, _, _]) [3, 1] rfl⟩
    obtain ⟨i, hi, rfl⟩ := List.getElem_of_mem ht
    exact hri i hi (by omega)
theorem drawRigid_d {h : Heap} {L : List It} {bs : List Int} (S : Sep h L) (hb : bs.length ≤ 1048576) : C Tryz.prog 5 [.lst 1 (bs.map encB)] h (fun r h' => ∃ (ts : List Task) (v : V), r = .agg [v] ∧ (1 ≤ ts.length ∧ ts.length ≤ 3) ∧ (∀ t ∈ ts, taskOk t = true) ∧ RigidP ts ∧ Sep h' (.v (.lst 4 (ts.map encTask)) v :: L)) := by
  refine C.by mixed (cfn_ok Tryz.func5 ok5) rfl ?_
  simp (disch := omega) only [s5, go_sem]
  have S0 := S.newK [[V.nils]]
  refine S0.goNew hb fun h1 S1 => ?_
  simp only [List.length_append, List.length_cons, List.length_nil, Nat.zero_add] at S1
  simp (disch := omega) only [go_sem]
  refine C.go (rigid_d S1) ?_
  rintro r h2 ⟨ts, v, rfl, hl, hok, hri, S2⟩
  have zv := S2.vv 0 rfl
  have K2 := S2.blk 2 rfl
  have C2 : ∀ d, (h2.set h.length d)[h.length]? = some d := fun d => heap_set _ K2
  simp (disch := omega) only [go_sem, zv.1, zv.2.1, zv.2.2, storeH, storeB, splice, K2, C2]
  exact ⟨ts, v, rfl, hl, hok, hri, ((S2.pull 2).setK [[v]]).pk (A := [_, _, _]) [1] rfl⟩
theorem drawPlaces_d {h : Heap} {L : List It} {bs : List Int} (S : Sep h L) (hb : bs.length ≤ 1048576) : C Tryz.prog 6 [.lst 1 (bs.map encB)] h (fun r h' => ∃ (zs : List Int) (l : Nat), r = .own l 1 0 12 12 ∧ zs.length = 12 ∧ (∀ z ∈ zs, 0 ≤ z ∧ z ≤ 9999) ∧ Sep h' (.k l (zs.map encI) :: L)) := by
  refine C.by mixed (cfn_ok Tryz.func6 ok6) rfl ?_
  simp (disch := omega) only [s6, go_sem]
  refine S.goNew hb fun h1 S1 => ?_
  simp (disch := omega) only [go_sem]
  have S2 : Sep (h1 ++ [[]]) (.k h1.length (([] : List Int).map encI) :: .c h.length :: L) := S1.newK []
  refine loopP_intro (fun m s => ∃ (zs : List Int) (l : Nat), zs.length ≤ 12 ∧ m = 12 - zs.length ∧ s.e 3 = .ptr h.length 1 0 0 ∧ s.e 4 = .own l 1 0 zs.length zs.length ∧ s.e 5 = .int .i64 zs.length ∧ (∀ z ∈ zs, 0 ≤ z ∧ z ≤ 9999) ∧ Sep s.h (.k l (zs.map encI) :: .c h.length :: L)) 12 ⟨[], h1.length, by simp, rfl, by simp (disch := omega) only [go_sem], by simp (disch := omega) only [go_sem] <;> rfl, by simp (disch := omega) only [go_sem] <;> rfl, by simp, S2⟩ ?_
  intro m e hp P
  refine Exists.elim P fun zs P => Exists.elim P fun l P => ?_
  have hk := P.1
  have hm := P.2.1
  have e3 := P.2.2.1
  have e4 := P.2.2.2.1
  have e5 := P.2.2.2.2.1
  have hz := P.2.2.2.2.2.1
  have S3 := P.2.2.2.2.2.2
  clear P
  subst hm
  simp only at e3 e4 e5 S3
  simp (disch := omega) only [go_sem, e3, e4, e5]
  refine condP_dec (fun hlt => ?_) (fun hlt => ?_)
  · have hlt' : zs.length < 12 := by omega
    simp (disch := omega) only [go_sem, e3, e4, e5]
    refine S3.sw.goBelow (n := 10000) (by omega) fun x h5 x0 x1 S5 => ?_
    have hap := append1 (sz := 1) (bytes := 8) (n := zs.length) (c := [.int .i64 x]) (S5.blk 1 rfl) (by simp) (by omega)
    have S6 := S5.sw.push1 [.int .i64 x]
    rw [← push_int] at hap S6
    simp (disch := omega) only [go_sem, hap, e3, e4, e5]
    refine nextP_intro (12 - (zs.length + 1)) (by omega) ⟨zs ++ [x], l, by simp; omega, by simp, by simp (disch := omega) only [go_sem, hap, e3, e4, e5], by simp (disch := omega) only [go_sem, hap, e3, e4, e5] <;> simp, by simp (disch := omega) only [go_sem, hap, e3, e4, e5] <;> simp, all_snoc hz (by simp at *; omega), S6⟩
  · simp (disch := omega) only [go_sem, e3, e4, e5]
    have h12 : zs.length = 12 := by omega
    exact ⟨zs, l, by rw [h12], h12, hz, S3.drop 1⟩
end Go.Av

namespace Go.Av
open Go.Proofs Go.RowKit
set_option linter.unusedVariables false
set_option linter.unusedSimpArgs false
set_option maxRecDepth 100000
set_option maxHeartbeats 4000000
theorem blk_cut : ∀ (u v : List Stmt) (d : Int), blockFrom d (u ++ v) = true → blockFrom (d + depM u) v = true ∧ (d + depM u = 0 → blockFrom d u = true)
  | [], v, d, h => by
    have e : depM [] = 0 := rfl
    rw [e, Int.add_zero]
    exact ⟨h, fun q => by simp [blockFrom, q]⟩
  | x :: u, v, d, h => by
    rw [List.cons_append, blockFrom_cons] at h
    split at h
    case isFalse => cases h
    rename_i hc
    have ih := blk_cut u v (d + delta x.kind) h
    have e : d + depM (x :: u) = d + delta x.kind + depM u := by rw [depM_cons]; unfold dlt; omega
    rw [e]
    refine ⟨ih.1, fun q => ?_⟩
    rw [blockFrom_cons, if_pos hc]
    exact ih.2 q
theorem cutM_dep (l : List Stmt) : ∀ (d i : Nat) (k : Int), k ∈ cutM l d i → depthOf l k = 0
  | 0, i, k, h => absurd h List.not_mem_nil
  | d + 1, i, k, h => by
    rw [cutM, List.mem_append] at h
    rcases h with h | h
    · split at h
      · rename_i q
        rw [List.mem_singleton.1 h]; exact q.1
      · exact absurd h List.not_mem_nil
    · exact cutM_dep l d (i + 1) k h
theorem cut_parts {xs : List Stmt} {n : Nat} (h : (n : Int) ∈ cutsM xs) : blockOk (xs.take n) = true ∧ blockOk (xs.drop n) = true := by
  have hp := cut_pos h
  unfold cutsM at h
  split at h
  case isFalse => exact absurd h List.not_mem_nil
  rename_i hb
  have hd := cutM_dep xs _ _ _ h
  unfold depthOf at hd
  rw [if_pos ⟨hb, by omega⟩, Int.toNat_natCast] at hd
  have hb' := hb
  simp only [blockOk, Bool.and_eq_true, decide_eq_true_eq] at hb'
  have hc := blk_cut (xs.take n) (xs.drop n) 0 (by rw [List.take_append_drop]; exact hb'.1)
  rw [hd, Int.add_zero] at hc
  have h1 : blockOk (xs.take n) = true := by
    simp only [blockOk, Bool.and_eq_true, decide_eq_true_eq]
    exact ⟨hc.2 rfl, by simp; omega⟩
  have h2 : blockOk (xs.drop n) = true := by
    simp only [blockOk, Bool.and_eq_true, decide_eq_true_eq]
    exact ⟨hc.1, by simp; omega⟩
  exact ⟨h1, h2⟩
theorem evalE_num (vs : List Int) {j : Nat} (h : j ≤ 900) : evalE vs ⟨1, j, 0⟩ = j := by
  have h1 : valOf vs (j : Int) = j := if_neg (by omega)
  have h2 : valOf vs 0 = 0 := if_neg (by omega)
  have s1 : ∀ x : Int, 0 ≤ x → x ≤ 2000 → sat x = x := fun x a b => by unfold sat; rw [if_neg (by omega), if_neg (by omega)]
  unfold evalE
  simp only [h1, h2, if_true]
  rw [s1 j (by omega) (by omega), s1 0 (by omega) (by omega), Int.add_zero, s1 j (by omega) (by omega)]
theorem rigid_ok {ts : List Task} (hl : 1 ≤ ts.length ∧ ts.length ≤ 3) (hok : ∀ t ∈ ts, taskOk t = true) (hr : RigidP ts) : rigidM ts = true := by
  have hp : programOk ts = true := DrawnP.ok ⟨hl, hok⟩
  simp only [rigidM, hp, Bool.true_and, Bool.not_eq_true', List.any_eq_false]
  intro t ht
  obtain ⟨j, hj, e⟩ := hr t ht
  simp only [looseB, e, evalE_num zer (show j ≤ 900 by omega), within, Bool.or_eq_true, Bool.not_eq_true', Bool.and_eq_false_iff, decide_eq_true_eq, decide_eq_false_iff_not]
  omega
end Go.Av

namespace Go.Av
open Go.Proofs Go.RowKit
set_option linter.unusedVariables false
set_option linter.unusedSimpArgs false
set_option maxRecDepth 100000
set_option maxHeartbeats 4000000
theorem rigidM_iff {ts : List Task} : rigidM ts = true ↔ programOk ts = true ∧ ∀ t ∈ ts, looseB ts.length t = false := by
  simp only [rigidM, Bool.and_eq_true, Bool.not_eq_true', List.any_eq_false, Bool.not_eq_true]
theorem programOk_iff {ts : List Task} : programOk ts = true ↔ (1 ≤ ts.length ∧ ts.length ≤ 6) ∧ ∀ t ∈ ts, taskOk t = true := by
  simp only [programOk, within, Bool.and_eq_true, decide_eq_true_eq, List.all_eq_true]
  constructor
  · rintro ⟨⟨a, b⟩, c⟩; exact ⟨⟨by omega, by omega⟩, c⟩
  · rintro ⟨⟨a, b⟩, c⟩; exact ⟨⟨by omega, by omega⟩, c⟩
theorem loose_iff {n : Nat} {t : Task} : looseB n t = false ↔ (0 ≤ t.next.a ∧ 0 ≤ t.next.b) ∧ (0 ≤ evalE zer t.next ∧ evalE zer t.next ≤ (n : Int) - 1) := by
  simp only [looseB, within, Bool.or_eq_false_iff, decide_eq_false_iff_not, Bool.not_eq_false', Bool.and_eq_true, decide_eq_true_eq]
  constructor
  · rintro ⟨⟨a, b⟩, c⟩; exact ⟨⟨by omega, by omega⟩, c⟩
  · rintro ⟨⟨a, b⟩, c⟩; exact ⟨⟨by omega, by omega⟩, c⟩
theorem loose_up {n : Nat} {t : Task} (h : looseB n t = false) : looseB (n + 1) t = false := by
  rw [loose_iff] at *; omega
theorem loose_const {n m : Nat} (hn : 1 ≤ n) (h6 : n ≤ 6) (hm : n < m) (b : List Stmt) : looseB m ⟨b, ⟨1, n, 0⟩⟩ = false := by
  rw [loose_iff]
  refine ⟨⟨by simp, by simp⟩, ?_⟩
  have : evalE zer ⟨1, n, 0⟩ = n := by
    match n, hn, h6 with
    | 1, _, _ => rfl
    | 2, _, _ => rfl
    | 3, _, _ => rfl
    | 4, _, _ => rfl
    | 5, _, _ => rfl
    | 6, _, _ => rfl
  simp only [this]; omega
theorem const_ok {n : Nat} (hn : 1 ≤ n) (h6 : n ≤ 6) : exprOk ⟨1, n, 0⟩ = true := by
  match n, hn, h6 with
  | 1, _, _ => rfl
  | 2, _, _ => rfl
  | 3, _, _ => rfl
  | 4, _, _ => rfl
  | 5, _, _ => rfl
  | 6, _, _ => rfl
theorem rigid_split {ts : List Task} {t k : Nat} (hr : rigidM ts = true) (ht : t < ts.length) (h5 : ts.length < 6) (hk : (k : Int) ∈ cutsM ts[t].body) : rigidM (splitM ts t k) = true := by
  rw [rigidM_iff, programOk_iff] at hr
  obtain ⟨⟨hl, hok⟩, hlo⟩ := hr
  have hc := cut_parts hk
  have htk := hok _ (List.getElem_mem ht)
  simp only [taskOk, Bool.and_eq_true] at htk
  have hln := splitM_len (k := k) ht
  have mem : ∀ u ∈ splitM ts t k, u ∈ ts ∨ u = ⟨ts[t].body.take k, ⟨1, ts.length, 0⟩⟩ ∨ u = ⟨ts[t].body.drop k, ts[t].next⟩ := fun u hu => by
    rw [splitM_eq ht] at hu
    rcases List.mem_append.1 hu with w | w
    · rcases List.mem_or_eq_of_mem_set w with z | z
      · exact .inl z
      · exact .inr (.inl z)
    · exact .inr (.inr (List.mem_singleton.1 w))
  rw [rigidM_iff, programOk_iff, hln]
  refine ⟨⟨by omega, fun u hu => ?_⟩, fun u hu => ?_⟩
  · rcases mem u hu with z | rfl | rfl
    · exact hok u z
    · simp only [taskOk, Bool.and_eq_true]; exact ⟨hc.1, const_ok hl.1 hl.2⟩
    · simp only [taskOk, Bool.and_eq_true]; exact ⟨hc.2, htk.2⟩
  · rcases mem u hu with z | rfl | rfl
    · exact loose_up (hlo u z)
    · exact loose_const hl.1 hl.2 (by omega) _
    · have := loose_up (hlo _ (List.getElem_mem ht))
      rw [loose_iff] at this ⊢; exact this
theorem idx_none {α : Type} {p : α → Bool} {ts : List α} (h : idxI p ts < 0) : ∀ t ∈ ts, p t = false := fun t ht => by
  unfold idxI at h
  split at h
  · omega
  · rename_i q
    simp only [List.any_eq_true, not_exists, not_and, Bool.not_eq_true] at q
    exact q t ht
theorem until_ok (e : Int) : ∀ (n : Nat) (cur qs : List Task), rigidM cur = true → untilF e n cur = some qs → rigidM qs = true ∧ ∀ t ∈ qs, overB e t = false
  | 0, cur, qs, hr, h => by rw [untilF] at h; cases h
  | n + 1, cur, qs, hr, h => by
    rw [untilF] at h
    by_cases hi : idxI (overB e) cur < 0
    · rw [if_pos hi] at h
      cases h
      exact ⟨hr, idx_none hi⟩
    · rw [if_neg hi] at h
      have hil := idxI_lt hi
      by_cases hc : (cutsAt cur (idxI (overB e) cur)).length = 0 ∨ cur.length = 6
      · rw [if_pos hc] at h; cases h
      · rw [if_neg hc] at h
        rw [not_or] at hc
        have hln := rigid_len hr
        obtain ⟨m, hm⟩ : ∃ m : Nat, idxI (overB e) cur = m := ⟨(idxI (overB e) cur).toNat, by omega⟩
        have hml : m < cur.length := by omega
        have hca := cutsAt_eq hm hml
        rw [hca, hm] at h
        rw [hca] at hc
        have hla := (last_at hc.1).1
        have hkp := cut_pos hla
        obtain ⟨k, hk⟩ : ∃ k : Nat, (cutsM cur[m].body).getLast?.getD 0 = k := ⟨((cutsM cur[m].body).getLast?.getD 0).toNat, by omega⟩
        rw [hk] at h hla
        simp only [Int.toNat_natCast] at h
        exact until_ok e n _ qs (rigid_split hr hml (by omega) hla) h
theorem until_light {e : Int} {ts : List Task} (hr : rigidM ts = true) (h : ∀ t ∈ ts, overB e t = false) : untilR ts e = some ts := by
  have hln := rigid_len hr
  rw [untilR, if_pos hr, show 7 - ts.length = (6 - ts.length) + 1 by omega, untilF]
  have : idxI (overB e) ts = -1 := by
    unfold idxI
    rw [if_neg]
    simp only [List.any_eq_true, not_exists, not_and, Bool.not_eq_true]
    exact h
  rw [this, if_pos (by omega)]
theorem until_law {e : Int} {ts : List Task} (hr : rigidM ts = true) : rigidM (untilM ts e) = true ∧ (untilB ts e = true → ∀ t ∈ untilM ts e, overB e t = false) ∧ ((ts.any (overB e) || untilB ts e) = true) ∧ ((untilB ts e && ts.any (overB e)) = false → untilM ts e = ts) := by
  by_cases hh : ∀ t ∈ ts, overB e t = false
  · have h := until_light hr hh
    have hb : untilB ts e = true := by rw [untilB, h]; rfl
    have hm : untilM ts e = ts := by rw [untilM, h]; rfl
    exact ⟨by rw [hm]; exact hr, fun _ => by rw [hm]; exact hh, by rw [hb, Bool.or_true], fun _ => hm⟩
  · have ha : ts.any (overB e) = true := by
      simp only [List.any_eq_true]
      apply Classical.byContradiction
      intro hn
      exact hh fun t ht => by
        cases q : overB e t with
        | false => rfl
        | true => exact absurd ⟨t, ht, q⟩ hn
    cases hu : untilR ts e with
    | none =>
      have hb : untilB ts e = false := by rw [untilB, hu]; rfl
      have hm : untilM ts e = ts := by rw [untilM, hu]; rfl
      exact ⟨by rw [hm]; exact hr, fun h => (by rw [hb] at h; cases h), by rw [ha, Bool.true_or], fun _ => hm⟩
    | some qs =>
      have hb : untilB ts e = true := by rw [untilB, hu]; rfl
      have hm : untilM ts e = qs := by rw [untilM, hu]; rfl
      have h := hu
      rw [untilR, if_pos hr] at h
      have ho := until_ok e _ _ _ hr h
      exact ⟨by rw [hm]; exact ho.1, fun _ => by rw [hm]; exact ho.2, by rw [ha, Bool.true_or], fun h => (by rw [hb, ha] at h; cases h)⟩
end Go.Av

namespace Go.Av
open Go.Proofs Go.RowKit
set_option linter.unusedVariables false
set_option linter.unusedSimpArgs false
set_option maxRecDepth 100000
set_option maxHeartbeats 8000000
theorem Sep.goProgB {P : Program} {f : FuncId} {args args' : List V} {ts : List Task} {b : Bool} {h : Heap} {L : List It} {K : V → Heap → Prop} (S : Sep h L) (hf : F P f args' (.tup [.agg [.lst 4 (ts.map encTask)], .bool b])) (hs : Snaps h args args')
    (hk : ∀ v h', Ext h h' → Sep h' (.v (.lst 4 (ts.map encTask)) v :: L) → V.one v = true → V.nohole v = v → V.cells v = [v] → K (.tup [.agg [v], .bool b]) h') : @callP P f args h ⟨K⟩ :=
  S.go hf hs fun r h' x S1 => by
    obtain ⟨_, rfl, S2⟩ := sep_tup.1 S1
    obtain ⟨c, _, rfl, S3⟩ := sep_la.1 S2
    obtain ⟨v, _, rfl, S4⟩ := sep_ll.1 S3
    obtain ⟨rfl, S5⟩ := sep_l0.1 S4
    obtain ⟨_, rfl, S6⟩ := sep_lb.1 S5
    obtain ⟨rfl, S7⟩ := sep_l0.1 S6
    have S8 := S7.rot
    have z := S8.vv 0 rfl
    exact hk v h' x S8 z.1 z.2.1 z.2.2
end Go.Av

namespace Go.Av
open Go.Proofs Go.RowKit
set_option linter.unusedVariables false
set_option linter.unusedSimpArgs false
set_option maxRecDepth 100000
set_option maxHeartbeats 4000000
theorem splitUntil_c (ts : List Task) (e : Int) (hx : ts.length ≤ 1048576) (hb : ∀ t ∈ ts, t.body.length ≤ 1048576) : F Tryz.prog 7 [.agg [.lst 4 (ts.map encTask)], .int .i64 e] (.tup [.agg [.lst 4 ((untilM ts e).map encTask)], .bool (untilB ts e)]) := by
  have hb' : ∀ t ∈ ts, t.body.length ≤ 9223372036854775807 := fun t ht => by have := hb t ht; omega
  have S0 : Sep ([[[.lst 4 (ts.map encTask)]], [[.int .i64 e]], [[.nils]]] : Heap) [.k 2 [[.nils]], .k 1 [[.int .i64 e]], .k 0 [[.lst 4 (ts.map encTask)]]] := (((Sep.nil []).newK _).newK _).newK _
  refine C.by mixed (cfn_ok Tryz.func7 ok7) rfl ?_
  simp (disch := omega) only [s7, go_sem]
  refine S0.goCopy (copyProg_f ts hx hb) (.same (refs_prog1 _ _)) fun v1 h1 x1 S1 o1 n1 c1 => ?_
  have S2 := S1.newK [[v1]]
  have A2 := S2.blk 4 rfl
  have B2 := S2.blk 2 rfl
  have C2 := S2.blk 0 rfl
  simp (disch := omega) only [go_sem, o1, n1, c1, A2, B2, C2]
  refine CP.go (rigid_c ts hx hb') rfl (refs_prog1 _ ts) ?_
  simp (disch := omega) only [go_sem, o1, n1, c1, A2, B2, C2]
  refine condP_split (fun hr => ?_) (fun hr => ?_)
  case' refine_2 =>
    have hz : untilR ts e = none := by rw [untilR, hr]; rfl
    have y1' : ∀ d, ((h1 ++ [[[v1]]]).set 2 d)[2]? = some d := fun d => heap_set _ B2
    simp (disch := omega) only [go_sem, o1, n1, c1, A2, B2, C2, y1', hr, storeH, storeB, splice]
    rw [untilM, untilB, hz]
    exact (((S2.pull 2).setK [[v1]]).pick [2] (by decide)).progB
  have hrl := rigid_len hr
  simp (disch := omega) only [go_sem, o1, n1, c1, A2, B2, C2, hr]
  have hz0 : untilR ts e = untilF e (7 - ts.length) ts := by rw [untilR, if_pos hr]
  refine loopP_intro (fun m s => ∃ (v : V) (cur : List Task), 1 ≤ cur.length ∧ cur.length ≤ 6 ∧ (∀ t ∈ cur, t.body.length ≤ 1048576) ∧ m = 6 - cur.length ∧ untilR ts e = untilF e (7 - cur.length) cur ∧ s.e 2 = .ptr 0 1 0 0 ∧ s.e 3 = .ptr 1 1 0 0 ∧ s.e 4 = .ptr 2 1 0 0 ∧ s.e 6 = .ptr h1.length 1 0 0 ∧ Sep s.h [.k h1.length [[v]], .k 2 [[.nils]], .k 1 [[.int .i64 e]], .k 0 [[.lst 4 (ts.map encTask)]], .v (.lst 4 (cur.map encTask)) v]) (6 - ts.length) ⟨v1, ts, hrl.1, hrl.2, hb, rfl, hz0, rfl, rfl, rfl, rfl, S2.pick [0, 2, 3, 4, 1] (by decide)⟩ ?_
  intro m ee hp P
  refine Exists.elim P fun v P => Exists.elim P fun cur P => ?_
  have l1 := P.1
  have l2 := P.2.1
  have hbc := P.2.2.1
  have hm := P.2.2.2.1
  have hu := P.2.2.2.2.1
  have e2 := P.2.2.2.2.2.1
  have e3 := P.2.2.2.2.2.2.1
  have e4 := P.2.2.2.2.2.2.2.1
  have e6 := P.2.2.2.2.2.2.2.2.1
  have Sc := P.2.2.2.2.2.2.2.2.2
  clear P
  subst hm
  simp only at e2 e3 e4 e6 Sc
  have zv := Sc.vv 4 rfl
  have K6 := Sc.blk 0 rfl
  have K1 := Sc.blk 2 rfl
  simp (disch := omega) only [go_sem, e2, e3, e4, e6, zv.1, zv.2.1, zv.2.2, K6]
  refine C.go (heavy_c cur v 1 e _ (Sc.pull 4) K1 (by omega) hbc) ?_
  rintro r h2 ⟨rfl, X2⟩
  have S3 := Sc.up X2
  have hf : 7 - cur.length = (6 - cur.length) + 1 := by omega
  rw [hf, untilF] at hu
  have K6 := S3.blk 0 rfl
  simp (disch := omega) only [go_sem, e2, e3, e4, e6, zv.1, zv.2.1, zv.2.2, K6]
  refine condP_dec (fun hi => ?_) (fun hi => ?_)
  · rw [if_pos hi] at hu
    have B3 := S3.blk 1 rfl
    have y1' : ∀ d, (h2.set 2 d)[2]? = some d := fun d => heap_set _ B3
    simp (disch := omega) only [go_sem, e2, e3, e4, e6, zv.1, zv.2.1, zv.2.2, K6, B3, y1', storeH, storeB, splice]
    rw [untilM, untilB, hu]
    exact (((S3.pull 1).setK [[v]]).pick [4] (by decide)).progB
  have hil := idxI_lt hi
  refine Exists.elim (show ∃ n : Nat, idxI (overB e) cur = n from ⟨(idxI (overB e) cur).toNat, by omega⟩) fun n hn => ?_
  have hnl : n < cur.length := by omega
  have hca := cutsAt_eq hn hnl
  rw [if_neg hi, hca, hn] at hu
  have hbn := hbc _ (List.getElem_mem hnl)
  refine Exists.elim (S3.row 4 rfl (k := n) (d := encTask cur[n]) (by simp [hnl])) fun id q => Exists.elim q fun b q => Exists.elim q fun c q => Exists.elim q fun i q => ?_
  have hv := q.1
  have hid := q.2.1
  have hbl := q.2.2.1
  have hc := q.2.2.2.1
  have oc := q.2.2.2.2
  clear q
  rw [List.length_map] at hv hbl
  refine Exists.elim oc.task fun va q => ?_
  have hcc := q.1
  have oa := q.2
  clear q oc
  subst hcc
  have za := oa.vv
  subst hv
  simp (disch := omega) only [go_sem, e2, e3, e4, e6, K6, hn, hid, hbl, hc, za.1, za.2.1, za.2.2]
  refine S3.goLst (cutPoints_f cur[n].body hbn) (.cons oa.snap (.nil _)) fun rc h4 x4 S4 r1 r2 r3 => ?_
  have K6 := S4.blk 1 rfl
  have K2 := S4.blk 3 rfl
  have K2' := S4.blk 2 rfl
  have K0 := S4.blk 4 rfl
  have lenc := fun G => (S4.lst 0 rfl).elim fun i o => o.len_ G
  simp only [List.length_map] at lenc
  simp (disch := omega) only [go_sem, e2, e3, e4, e6, K6, hn, r1, r2, r3, lenc]
  refine condP_dec (fun h0 => ?_) (fun h0 => ?_)
  · have h0' : (cutsM cur[n].body).length = 0 := by omega
    rw [if_pos (.inl h0')] at hu
    simp (disch := omega) only [go_sem, e2, e3, e4, e6, K6, K0, hn]
    refine S4.goCopy (copyProg_f ts hx hb) (.same (refs_prog1 _ _)) fun v9 h9 x9 S9 o9 n9 c9 => ?_
    have y1 := S9.blk 3 rfl
    have y1' : ∀ d, (h9.set 2 d)[2]? = some d := fun d => heap_set _ y1
    simp (disch := omega) only [go_sem, e2, e3, e4, e6, o9, n9, c9, y1, y1', storeH, storeB, splice]
    rw [untilM, untilB, hu]
    exact (((S9.pull 3).setK [[v9]]).drop1).progB
  · have h0' : ¬ (cutsM cur[n].body).length = 0 := by omega
    simp (disch := omega) only [go_sem, e2, e3, e4, e6, K6, hn, r1, r2, r3, lenc]
    refine condP_dec (fun h6 => ?_) (fun h6 => ?_)
    · rw [if_pos (.inr (by omega))] at hu
      simp (disch := omega) only [go_sem, e2, e3, e4, e6, K6, K0, hn]
      refine S4.goCopy (copyProg_f ts hx hb) (.same (refs_prog1 _ _)) fun v9 h9 x9 S9 o9 n9 c9 => ?_
      have y1 := S9.blk 3 rfl
      have y1' : ∀ d, (h9.set 2 d)[2]? = some d := fun d => heap_set _ y1
      simp (disch := omega) only [go_sem, e2, e3, e4, e6, o9, n9, c9, y1, y1', storeH, storeB, splice]
      rw [untilM, untilB, hu]
      exact (((S9.pull 3).setK [[v9]]).drop1).progB
    rw [if_neg (by omega)] at hu
    have hla := last_at h0'
    refine Exists.elim (S4.ownAt 0 rfl (k := 0) (by omega)) fun q z => ?_
    have zq1 := z.1
    have zq2 := z.2
    clear z
    subst zq1
    have hkp := cut_pos hla.1
    have hcl := cutsM_len cur[n].body
    refine Exists.elim (show ∃ k : Nat, (cutsM cur[n].body).getLast?.getD 0 = k from ⟨((cutsM cur[n].body).getLast?.getD 0).toNat, by omega⟩) fun k hk => ?_
    have hlb := hla.2
    rw [hk] at hkp hlb hu
    simp (disch := omega) only [go_sem, e2, e3, e4, e6, K6, hn, r1, r2, r3, zq2, hlb]
    refine S4.goCopy (split_f cur n k (by omega) hbc hnl (by omega) (by omega)) (.cons (S4.progSnap 5 rfl) (.cons (.int _ _) (.cons (.int _ _) (.nil _)))) fun v6 h6' x6 S6 o6 n6 c6 => ?_
    have S7 := (S6.pull 2).setK [[v6]]
    have K7 := S6.blk 2 rfl
    simp (disch := omega) only [go_sem, e2, e3, e4, e6, K7, hn, o6, n6, c6, storeH, storeB, splice]
    have hsl := splitM_len (k := k) hnl
    simp only [Int.toNat_natCast] at hu
    refine nextP_intro (6 - (splitM cur n k).length) (by omega) ⟨v6, splitM cur n k, by omega, by omega, splitM_bodies hbc, rfl, by rw [hu]; congr 1; omega, by simp (disch := omega) only [go_sem, e2, e3, e4, e6, K7, hn, o6, n6, c6, storeH, storeB, splice], by simp (disch := omega) only [go_sem, e2, e3, e4, e6, K7, hn, o6, n6, c6, storeH, storeB, splice], by simp (disch := omega) only [go_sem, e2, e3, e4, e6, K7, hn, o6, n6, c6, storeH, storeB, splice], by simp (disch := omega) only [go_sem, e2, e3, e4, e6, K7, hn, o6, n6, c6, storeH, storeB, splice], ?_⟩
    exact S7.pick [0, 3, 4, 5, 1] (by decide)
end Go.Av

namespace Go.Av
open Go.Proofs Go.RowKit
set_option linter.unusedVariables false
set_option linter.unusedSimpArgs false
set_option maxRecDepth 100000
set_option maxHeartbeats 4000000
theorem HInv.ext {S : Nat → Prop} {ρ : Rho} {h : Heap} {w w' : World} (H : HInv S ρ h w) (hs : w.heap.size ≤ w'.heap.size) (hw : ∀ k, k < w.heap.size → w'.heap[k]? = w.heap[k]?) : HInv S ρ h w' := by
  refine ⟨fun i c hc => ?_, H.none_, H.inj, fun k hk => Nat.lt_of_lt_of_le (H.stab k hk) hs, ⟨H.tab.1, by rw [hw _ (H.stab _ H.tab.1)]; exact H.tab.2⟩⟩
  obtain ⟨m, hm, hBm⟩ := H.blk i c hc
  refine ⟨m, hm, hBm.tot, hBm.cap, hBm.capm, hBm.sz, fun g eg => ?_, hBm.nomem, hBm.emp⟩
  obtain ⟨ns, cs, ty, hgg, hsz, hcell⟩ := hBm.mem g eg
  refine ⟨ns, cs, ty, by rw [hw g (H.lt hm eg)]; exact hgg, hsz, fun x e1 j v hx hj => ?_⟩
  obtain ⟨cc, h3, h4, h5⟩ := hcell x e1 j v hx hj
  exact ⟨cc, h3, h4, h5.mono (fun b hb => hw b (H.stab b hb)) (fun _ h => h) (Le.refl ρ)⟩
theorem Fr.ext {w w' : World} {S : Nat → Prop} {ρ : Rho} (hs : w.heap.size ≤ w'.heap.size) (hw : ∀ k, k < w.heap.size → w'.heap[k]? = w.heap[k]?) (ho : w'.os = w.os) (ht : w'.tape = w.tape) (hu : w'.output = w.output) : Fr w S ρ S ρ w' :=
  ⟨ho, ht, hu, hs, fun b hb _ => hw b hb, fun id l g hl hg => .inr ⟨id, l, hl, hg⟩, fun _ h => .inl h, fun _ h => h, Le.refl ρ⟩
theorem land_str (s : ByteArray) (h : Heap) : Land (.str s) [] (.str s) h :=
  ⟨rfl, fun b hb => (by cases hb), id, fun i j _ _ e => e, rfl, fun k b hb => by simp at hb⟩
theorem CP.ofStr {P : Program} {f : FuncId} {args : List V} {s : ByteArray} (hE : ∀ args w, (callFunc f args).run P w = .ok (.enter f args) w)
    (h : ∀ (w : World) (S : Nat → Prop) (cargs : List Value), HInv S noRho [] w → cargs.length = args.length → (∀ (j : Nat) (c : Value) (v : V), cargs[j]? = some c → args[j]? = some v → Rep S noRho w c v) → Calls P f cargs.toArray w fun e w' => e = .returned (.string s) ∧ Below w.heap.size w w') (ha : V.refsL 0 args = true) : CP P f args (.str s) [] := by
  refine ⟨hE, fun w S ρ cargs H hl hr => ?_⟩
  have H0 : HInv S noRho [] w := ⟨fun id b hb => by simp at hb, fun _ _ => rfl, fun id id' l l' g hl => by (cases hl), H.stab, H.tab⟩
  refine (h w S cargs H0 hl fun j c v hc hv => (hr j c v hc hv).closed (V.refsL_get ha hv) fun _ h => h).mono fun e w' ⟨he, bel⟩ => ?_
  exact ⟨_, .str s, [], S, ρ, he, land_str _ _, H.ext bel.size (fun k hk => bel.block k hk), .str s, Fr.ext bel.size (fun k hk => bel.block k hk) bel.os bel.tape bel.output⟩
theorem itoa_c (n : Int) (h0 : -9223372036854775808 ≤ n) (h1 : n ≤ 9223372036854775807) : CP Tryz.prog 102 [.int .i64 n] (.str ⟨(Lib.itoa n).toArray⟩) [] := by
  refine CP.ofStr (enters_of Tryz.func102 (by kernel_rfl) rfl) (fun w S cargs H hl hr => ?_) rfl
  match cargs, hl, hr with
  | [c0], _, hr =>
    have r0 := hr 0 c0 _ rfl rfl
    cases r0
    have htab : Lib.TabIs Tryz.prog w "internal/strconv.uint64pow10" .u64 Lib.pow10Tab := by
      obtain ⟨ty, fz, ht⟩ := H.tab.2
      have hg : Tryz.prog.globalNamed "internal/strconv.uint64pow10" = some tabBlk := by kernel_rfl
      unfold Lib.TabIs World.var?
      rw [hg]
      simp only [Option.bind_some, ht]
    refine (itoa_k n h0 h1 w htab).mono fun e w' ⟨he, k, os, hw⟩ => ⟨he, ?_⟩
    subst hw
    exact ⟨rfl, rfl, rfl, by simp, fun k hk => Go.Sort.heap_grow_old _ os hk⟩
theorem add_s (a b : ByteArray) (h : (a.size : Int) + b.size ≤ 9223372036854775807) : binV .add (.str a) (.str b) = some (.str (a ++ b)) := by
  simp only [binV]
  have e : IntKind.i64.max = 9223372036854775807 := by decide
  rw [e, if_neg (by omega)]
theorem eql_s (a : ByteArray) : binV .eql (.str a) (.str a) = some (.bool true) := by
  simp only [binV]
  rw [show (a.toList == a.toList) = true from beq_self_eq_true _]
def numS (n : Int) : ByteArray := ⟨(Lib.itoa n).toArray⟩
theorem num_size {n : Int} (h : -1000000 ≤ n ∧ n ≤ 1000000) : (numS n).size ≤ 21 := by
  have := Lib.itoa_length_le n (by omega) (by omega)
  show (Lib.itoa n).toArray.size ≤ 21
  simpa using this
theorem fmtInt_c (n : Int) (h : -1000000 ≤ n ∧ n ≤ 1000000) : CP Tryz.prog 81 [.int .i64 n] (.str (numS n)) [] := by
  refine CP.by rfl mixed (cfn_ok Tryz.func81 ok81) rfl ?_
  simp (disch := omega) only [s81, go_sem]
  refine CP.go (itoa_c n (by omega) (by omega)) rfl rfl ?_
  simp (disch := omega) only [go_sem]
  rfl
def spacedM (w : ByteArray) (ns : List Int) : ByteArray := ns.foldl (fun o n => o ++ (bz [32] ++ numS n)) w
theorem ba_size (a b : ByteArray) : (a ++ b).size = a.size + b.size := ByteArray.size_append
theorem bz_size (l : List UInt8) : (bz l).size = l.length := by simp [bz, ByteArray.size]
theorem spaced_size (ns : List Int) : ∀ w : ByteArray, (∀ n ∈ ns, -1000000 ≤ n ∧ n ≤ 1000000) → (spacedM w ns).size ≤ w.size + 22 * ns.length := by
  induction ns with
  | nil => intro w _; exact Nat.le_refl _
  | cons n ns ih =>
    intro w h
    have h1 := ih (w ++ (bz [32] ++ numS n)) fun m hm => h m (List.mem_cons_of_mem _ hm)
    have h2 := num_size (h n List.mem_cons_self)
    rw [ba_size, ba_size, bz_size] at h1
    simp only [List.length_cons, List.length_nil] at h1 ⊢
    show (spacedM (w ++ (bz [32] ++ numS n)) ns).size ≤ _
    omega
theorem spaced_take {w : ByteArray} {ns : List Int} {k : Nat} (hk : k < ns.length) : spacedM w (ns.take (k + 1)) = spacedM w (ns.take k) ++ (bz [32] ++ numS ns[k]) := by
  unfold spacedM; rw [List.take_succ_eq_append_getElem hk, List.foldl_append]; rfl
theorem spaced_c (w : ByteArray) (ns : List Int) (hw : w.size ≤ 1000) (hl : ns.length ≤ 1000) (hn : ∀ n ∈ ns, -1000000 ≤ n ∧ n ≤ 1000000) : CP Tryz.prog 57 [.str w, .lst 1 (ns.map encI)] (.str (spacedM w ns)) [] := by
  refine CP.by rfl mixed (cfn_ok Tryz.func57 ok57) rfl ?_
  simp (disch := omega) only [s57, go_sem, encI]
  refine loopP_intro (fun m s => ∃ k : Nat, k ≤ ns.length ∧ m = ns.length - k ∧ s.e 5 = .str (spacedM w (ns.take k)) ∧ s.e 9 = .lst 1 (ns.map encI) ∧ s.e 10 = .int .i64 ns.length ∧ s.e 11 = .int .i64 k) ns.length ⟨0, by omega, by omega, by simp (disch := omega) only [go_sem, encI] <;> rfl, by simp (disch := omega) only [go_sem, encI] <;> rfl, by simp (disch := omega) only [go_sem, encI] <;> rfl, by simp (disch := omega) only [go_sem, encI] <;> rfl⟩ ?_
  rintro m e hp ⟨k, hk, rfl, e5, e9, e10, e11⟩
  simp only at e5 e9 e10 e11
  simp (disch := omega) only [go_sem, e5, e9, e10, e11]
  refine condP_dec (fun hlt => ?_) (fun hlt => ?_)
  · have hlt' : k < ns.length := by omega
    have hg : ns[k]? = some ns[k] := List.getElem?_eq_getElem hlt'
    have hk1 := hn _ (List.getElem_mem hlt')
    have z1 := num_size hk1
    have z2 := spaced_size (ns.take k) w fun n h => hn n (List.mem_of_mem_take h)
    have z3 : (ns.take k).length ≤ 1000 := by rw [List.length_take]; omega
    have z4 : (bz [32]).size = 1 := bz_size _
    have z5 : (bz [32] ++ numS ns[k]).size = (bz [32]).size + (numS ns[k]).size := ba_size _ _
    simp (disch := omega) only [go_sem, e5, e9, e10, e11, hg, List.getElem?_map, encI, add_s]
    refine CP.go (fmtInt_c ns[k] hk1) rfl rfl ?_
    simp (disch := omega) only [go_sem, e5, e9, e10, e11, hg, List.getElem?_map, encI, add_s]
    refine nextP_intro (ns.length - (k + 1)) (by omega) ⟨k + 1, by omega, rfl, by simp (disch := omega) only [go_sem, e5, e9, e10, e11, hg, List.getElem?_map, encI, add_s]; rw [spaced_take hlt'], by simp (disch := omega) only [go_sem, e5, e9, e10, e11, hg, List.getElem?_map, encI, add_s], by simp (disch := omega) only [go_sem, e5, e9, e10, e11, hg, List.getElem?_map, encI, add_s], by simp (disch := omega) only [go_sem, e5, e9, e10, e11, hg, List.getElem?_map, encI, add_s] <;> rfl⟩
  · have hke : k = ns.length := by omega
    subst hke
    rw [List.take_length] at e5
    simp (disch := omega) only [go_sem, e5, e9, e10, e11]
def lineM (e : Expr) : ByteArray := spacedM (bz [116, 97, 115, 107]) [e.op, e.a, e.b]
theorem expr_bd {e : Expr} (h : exprOk e = true) : (-1000000 ≤ e.op ∧ e.op ≤ 1000000) ∧ (-1000000 ≤ e.a ∧ e.a ≤ 1000000) ∧ (-1000000 ≤ e.b ∧ e.b ≤ 1000000) := by
  simp only [exprOk, operandOk, within, Bool.and_eq_true, decide_eq_true_eq] at h
  omega
theorem taskLine_c (e : Expr) (h : exprOk e = true) : CP Tryz.prog 30 [.agg (encExpr e)] (.str (lineM e)) [] := by
  have hb := expr_bd h
  refine CP.by rfl mixed (cfn_ok Tryz.func30 ok30) rfl ?_
  simp (disch := omega) only [s30, go_sem, encExpr]
  refine CP.goS (spaced_c (bz [116, 97, 115, 107]) [e.op, e.a, e.b] (by rw [bz_size]; decide) (by simp) (fun n hn => by simp at hn; omega)) rfl rfl (.cons (.str _) (.cons (Snap.flatN rfl rfl rfl) (.nil _))) ?_
  simp (disch := omega) only [go_sem, encExpr]
  rfl
def hasN (k : Int) : Bool := decide (k = 2) || decide (k = 5)
theorem hasN_c (k : Int) : CP Tryz.prog 60 [.int .i64 k] (.bool (hasN k)) [] := by
  refine CP.by rfl mixed (cfn_ok Tryz.func60 ok60) rfl ?_
  simp (disch := omega) only [s60, go_sem]
  repeat' (first | (refine condP_t (by assumption) ?_ <;> (try simp (disch := omega) only [go_sem])) | (refine condP_f (by assumption) ?_ <;> (try simp (disch := omega) only [go_sem])) | (refine condP_dec (fun h => ?_) (fun h => ?_) <;> (try simp (disch := omega) only [go_sem])) | (refine condP_split (fun h => ?_) (fun h => ?_) <;> (try simp (disch := omega) only [go_sem])))
  all_goals simp_all [hasN]
def namesM : List ByteArray := [bz [], bz [115, 101, 116], bz [115, 101, 110, 115, 101], bz [115, 101, 110, 100], bz [105, 102], bz [108, 111, 111, 112], bz [101, 110, 100]]
theorem names_c : CP Tryz.prog 62 [] (.own 0 1 0 7 7) [namesM.map fun b => [.str b]] := by
  refine C.cpOwn rfl ?_
  refine C.by mixed (cfn_ok Tryz.func62 ok62) rfl ?_
  simp (disch := omega) only [s62, go_sem]
  exact ⟨0, rfl, rfl⟩
def numsM (s : Stmt) : List Int := (if hasVar s.kind = true then [s.var] else []) ++ (if hasN s.kind = true then [s.n] else []) ++ (if hasExpr s.kind = true then [s.e.op, s.e.a, s.e.b] else [])
def stmtM (s : Stmt) : ByteArray := spacedM (namesM[s.kind.toNat]?.getD (bz [])) (numsM s)
theorem stmt_kind {s : Stmt} (h : stmtOk s = true) : s.kind = 1 ∨ s.kind = 2 ∨ s.kind = 3 ∨ s.kind = 4 ∨ s.kind = 5 ∨ s.kind = 6 := by
  unfold stmtOk at h
  split at h
  · cases h
  · rename_i q
    simp only [within, Bool.or_eq_true, Bool.not_eq_true', Bool.and_eq_false_iff, decide_eq_false_iff_not, not_or] at q
    omega
theorem stmt_bd {s : Stmt} (h : stmtOk s = true) : (-1000000 ≤ s.var ∧ s.var ≤ 1000000) ∧ (-1000000 ≤ s.n ∧ s.n ≤ 1000000) ∧ (-1000000 ≤ s.e.op ∧ s.e.op ≤ 1000000) ∧ (-1000000 ≤ s.e.a ∧ s.e.a ≤ 1000000) ∧ (-1000000 ≤ s.e.b ∧ s.e.b ≤ 1000000) := by
  have hk := stmt_kind h
  obtain ⟨kind, var, n, ⟨op, ea, eb⟩⟩ := s
  simp only at hk ⊢
  rcases hk with rfl | rfl | rfl | rfl | rfl | rfl <;> (simp [stmtOk, within, hasVar, hasExpr, isVar, isSensor, exprOk, operandOk] at h; omega)
theorem hk1 : hasVar 1 = true ∧ hasN 1 = false ∧ hasExpr 1 = true := ⟨rfl, rfl, rfl⟩
theorem hk2 : hasVar 2 = true ∧ hasN 2 = true ∧ hasExpr 2 = false := ⟨rfl, rfl, rfl⟩
theorem hk3 : hasVar 3 = false ∧ hasN 3 = false ∧ hasExpr 3 = true := ⟨rfl, rfl, rfl⟩
theorem hk4 : hasVar 4 = false ∧ hasN 4 = false ∧ hasExpr 4 = true := ⟨rfl, rfl, rfl⟩
theorem hk5 : hasVar 5 = false ∧ hasN 5 = true ∧ hasExpr 5 = false := ⟨rfl, rfl, rfl⟩
theorem hk6 : hasVar 6 = false ∧ hasN 6 = false ∧ hasExpr 6 = false := ⟨rfl, rfl, rfl⟩
theorem fmtStmt_c (s : Stmt) (h : stmtOk s = true) : CP Tryz.prog 31 [.agg (encStmt s)] (.str (stmtM s)) [] := by
  have hk := stmt_kind h
  have hb := stmt_bd h
  obtain ⟨kind, var, n, ⟨op, ea, eb⟩⟩ := s
  simp only at hk hb
  rcases hk with rfl | rfl | rfl | rfl | rfl | rfl
  · refine CP.by rfl mixed (cfn_ok Tryz.func31 ok31) rfl ?_
    simp (disch := omega) only [s31, go_sem, encStmt, h, hk1.1, hk1.2.1, hk1.2.2, namesM, appendH, elemsOf, List.getElem?_cons_zero, List.getElem?_cons_succ, List.drop_zero, List.take_succ_cons, List.take_zero, List.take_nil, List.set_cons_succ, List.set_cons_zero, List.nil_append, List.cons_append, List.length_nil, List.length_cons, true_and, and_true, Nat.zero_add, Nat.le_refl]
    refine CP.go (stmtOk_c ⟨1, var, n, ⟨op, ea, eb⟩⟩) rfl rfl ?_
    simp (disch := omega) only [go_sem, encStmt, h, hk1.1, hk1.2.1, hk1.2.2, namesM, appendH, elemsOf, List.getElem?_cons_zero, List.getElem?_cons_succ, List.drop_zero, List.take_succ_cons, List.take_zero, List.take_nil, List.set_cons_succ, List.set_cons_zero, List.nil_append, List.cons_append, List.length_nil, List.length_cons, true_and, and_true, Nat.zero_add, Nat.le_refl]
    refine CP.go (hasVar_c 1) rfl rfl ?_
    simp (disch := omega) only [go_sem, encStmt, h, hk1.1, hk1.2.1, hk1.2.2, namesM, appendH, elemsOf, List.getElem?_cons_zero, List.getElem?_cons_succ, List.drop_zero, List.take_succ_cons, List.take_zero, List.take_nil, List.set_cons_succ, List.set_cons_zero, List.nil_append, List.cons_append, List.length_nil, List.length_cons, true_and, and_true, Nat.zero_add, Nat.le_refl]
    refine CP.go (hasN_c 1) rfl rfl ?_
    simp (disch := omega) only [go_sem, encStmt, h, hk1.1, hk1.2.1, hk1.2.2, namesM, appendH, elemsOf, List.getElem?_cons_zero, List.getElem?_cons_succ, List.drop_zero, List.take_succ_cons, List.take_zero, List.take_nil, List.set_cons_succ, List.set_cons_zero, List.nil_append, List.cons_append, List.length_nil, List.length_cons, true_and, and_true, Nat.zero_add, Nat.le_refl]
    refine CP.go (hasExpr_c 1) rfl rfl ?_
    simp (disch := omega) only [go_sem, encStmt, h, hk1.1, hk1.2.1, hk1.2.2, namesM, appendH, elemsOf, List.getElem?_cons_zero, List.getElem?_cons_succ, List.drop_zero, List.take_succ_cons, List.take_zero, List.take_nil, List.set_cons_succ, List.set_cons_zero, List.nil_append, List.cons_append, List.length_nil, List.length_cons, true_and, and_true, Nat.zero_add, Nat.le_refl]
    refine CP.goOwn names_c rfl rfl ?_
    simp (disch := omega) only [go_sem, encStmt, h, hk1.1, hk1.2.1, hk1.2.2, namesM, appendH, elemsOf, List.getElem?_cons_zero, List.getElem?_cons_succ, List.drop_zero, List.take_succ_cons, List.take_zero, List.take_nil, List.set_cons_succ, List.set_cons_zero, List.nil_append, List.cons_append, List.length_nil, List.length_cons, true_and, and_true, Nat.zero_add, Nat.le_refl]
    refine CP.goS (spaced_c (bz [115, 101, 116]) [var, op, ea, eb] (by rw [bz_size]; decide) (by simp) (fun n hn => by simp at hn; omega)) rfl rfl (.cons (.str _) (.cons (Snap.flatN rfl rfl rfl) (.nil _))) ?_
    simp (disch := omega) only [go_sem, encStmt, h, hk1.1, hk1.2.1, hk1.2.2, namesM, appendH, elemsOf, List.getElem?_cons_zero, List.getElem?_cons_succ, List.drop_zero, List.take_succ_cons, List.take_zero, List.take_nil, List.set_cons_succ, List.set_cons_zero, List.nil_append, List.cons_append, List.length_nil, List.length_cons, true_and, and_true, Nat.zero_add, Nat.le_refl]
    rfl
  · refine CP.by rfl mixed (cfn_ok Tryz.func31 ok31) rfl ?_
    simp (disch := omega) only [s31, go_sem, encStmt, h, hk2.1, hk2.2.1, hk2.2.2, namesM, appendH, elemsOf, List.getElem?_cons_zero, List.getElem?_cons_succ, List.drop_zero, List.take_succ_cons, List.take_zero, List.take_nil, List.set_cons_succ, List.set_cons_zero, List.nil_append, List.cons_append, List.length_nil, List.length_cons, true_and, and_true, Nat.zero_add, Nat.le_refl]
    refine CP.go (stmtOk_c ⟨2, var, n, ⟨op, ea, eb⟩⟩) rfl rfl ?_
    simp (disch := omega) only [go_sem, encStmt, h, hk2.1, hk2.2.1, hk2.2.2, namesM, appendH, elemsOf, List.getElem?_cons_zero, List.getElem?_cons_succ, List.drop_zero, List.take_succ_cons, List.take_zero, List.take_nil, List.set_cons_succ, List.set_cons_zero, List.nil_append, List.cons_append, List.length_nil, List.length_cons, true_and, and_true, Nat.zero_add, Nat.le_refl]
    refine CP.go (hasVar_c 2) rfl rfl ?_
    simp (disch := omega) only [go_sem, encStmt, h, hk2.1, hk2.2.1, hk2.2.2, namesM, appendH, elemsOf, List.getElem?_cons_zero, List.getElem?_cons_succ, List.drop_zero, List.take_succ_cons, List.take_zero, List.take_nil, List.set_cons_succ, List.set_cons_zero, List.nil_append, List.cons_append, List.length_nil, List.length_cons, true_and, and_true, Nat.zero_add, Nat.le_refl]
    refine CP.go (hasN_c 2) rfl rfl ?_
    simp (disch := omega) only [go_sem, encStmt, h, hk2.1, hk2.2.1, hk2.2.2, namesM, appendH, elemsOf, List.getElem?_cons_zero, List.getElem?_cons_succ, List.drop_zero, List.take_succ_cons, List.take_zero, List.take_nil, List.set_cons_succ, List.set_cons_zero, List.nil_append, List.cons_append, List.length_nil, List.length_cons, true_and, and_true, Nat.zero_add, Nat.le_refl]
    refine CP.go (hasExpr_c 2) rfl rfl ?_
    simp (disch := omega) only [go_sem, encStmt, h, hk2.1, hk2.2.1, hk2.2.2, namesM, appendH, elemsOf, List.getElem?_cons_zero, List.getElem?_cons_succ, List.drop_zero, List.take_succ_cons, List.take_zero, List.take_nil, List.set_cons_succ, List.set_cons_zero, List.nil_append, List.cons_append, List.length_nil, List.length_cons, true_and, and_true, Nat.zero_add, Nat.le_refl]
    refine CP.goOwn names_c rfl rfl ?_
    simp (disch := omega) only [go_sem, encStmt, h, hk2.1, hk2.2.1, hk2.2.2, namesM, appendH, elemsOf, List.getElem?_cons_zero, List.getElem?_cons_succ, List.drop_zero, List.take_succ_cons, List.take_zero, List.take_nil, List.set_cons_succ, List.set_cons_zero, List.nil_append, List.cons_append, List.length_nil, List.length_cons, true_and, and_true, Nat.zero_add, Nat.le_refl]
    refine CP.goS (spaced_c (bz [115, 101, 110, 115, 101]) [var, n] (by rw [bz_size]; decide) (by simp) (fun n hn => by simp at hn; omega)) rfl rfl (.cons (.str _) (.cons (Snap.flatN rfl rfl rfl) (.nil _))) ?_
    simp (disch := omega) only [go_sem, encStmt, h, hk2.1, hk2.2.1, hk2.2.2, namesM, appendH, elemsOf, List.getElem?_cons_zero, List.getElem?_cons_succ, List.drop_zero, List.take_succ_cons, List.take_zero, List.take_nil, List.set_cons_succ, List.set_cons_zero, List.nil_append, List.cons_append, List.length_nil, List.length_cons, true_and, and_true, Nat.zero_add, Nat.le_refl]
    rfl
  · refine CP.by rfl mixed (cfn_ok Tryz.func31 ok31) rfl ?_
    simp (disch := omega) only [s31, go_sem, encStmt, h, hk3.1, hk3.2.1, hk3.2.2, namesM, appendH, elemsOf, List.getElem?_cons_zero, List.getElem?_cons_succ, List.drop_zero, List.take_succ_cons, List.take_zero, List.take_nil, List.set_cons_succ, List.set_cons_zero, List.nil_append, List.cons_append, List.length_nil, List.length_cons, true_and, and_true, Nat.zero_add, Nat.le_refl]
    refine CP.go (stmtOk_c ⟨3, var, n, ⟨op, ea, eb⟩⟩) rfl rfl ?_
    simp (disch := omega) only [go_sem, encStmt, h, hk3.1, hk3.2.1, hk3.2.2, namesM, appendH, elemsOf, List.getElem?_cons_zero, List.getElem?_cons_succ, List.drop_zero, List.take_succ_cons, List.take_zero, List.take_nil, List.set_cons_succ, List.set_cons_zero, List.nil_append, List.cons_append, List.length_nil, List.length_cons, true_and, and_true, Nat.zero_add, Nat.le_refl]
    refine CP.go (hasVar_c 3) rfl rfl ?_
    simp (disch := omega) only [go_sem, encStmt, h, hk3.1, hk3.2.1, hk3.2.2, namesM, appendH, elemsOf, List.getElem?_cons_zero, List.getElem?_cons_succ, List.drop_zero, List.take_succ_cons, List.take_zero, List.take_nil, List.set_cons_succ, List.set_cons_zero, List.nil_append, List.cons_append, List.length_nil, List.length_cons, true_and, and_true, Nat.zero_add, Nat.le_refl]
    refine CP.go (hasN_c 3) rfl rfl ?_
    simp (disch := omega) only [go_sem, encStmt, h, hk3.1, hk3.2.1, hk3.2.2, namesM, appendH, elemsOf, List.getElem?_cons_zero, List.getElem?_cons_succ, List.drop_zero, List.take_succ_cons, List.take_zero, List.take_nil, List.set_cons_succ, List.set_cons_zero, List.nil_append, List.cons_append, List.length_nil, List.length_cons, true_and, and_true, Nat.zero_add, Nat.le_refl]
    refine CP.go (hasExpr_c 3) rfl rfl ?_
    simp (disch := omega) only [go_sem, encStmt, h, hk3.1, hk3.2.1, hk3.2.2, namesM, appendH, elemsOf, List.getElem?_cons_zero, List.getElem?_cons_succ, List.drop_zero, List.take_succ_cons, List.take_zero, List.take_nil, List.set_cons_succ, List.set_cons_zero, List.nil_append, List.cons_append, List.length_nil, List.length_cons, true_and, and_true, Nat.zero_add, Nat.le_refl]
    refine CP.goOwn names_c rfl rfl ?_
    simp (disch := omega) only [go_sem, encStmt, h, hk3.1, hk3.2.1, hk3.2.2, namesM, appendH, elemsOf, List.getElem?_cons_zero, List.getElem?_cons_succ, List.drop_zero, List.take_succ_cons, List.take_zero, List.take_nil, List.set_cons_succ, List.set_cons_zero, List.nil_append, List.cons_append, List.length_nil, List.length_cons, true_and, and_true, Nat.zero_add, Nat.le_refl]
    refine CP.goS (spaced_c (bz [115, 101, 110, 100]) [op, ea, eb] (by rw [bz_size]; decide) (by simp) (fun n hn => by simp at hn; omega)) rfl rfl (.cons (.str _) (.cons (Snap.flatN rfl rfl rfl) (.nil _))) ?_
    simp (disch := omega) only [go_sem, encStmt, h, hk3.1, hk3.2.1, hk3.2.2, namesM, appendH, elemsOf, List.getElem?_cons_zero, List.getElem?_cons_succ, List.drop_zero, List.take_succ_cons, List.take_zero, List.take_nil, List.set_cons_succ, List.set_cons_zero, List.nil_append, List.cons_append, List.length_nil, List.length_cons, true_and, and_true, Nat.zero_add, Nat.le_refl]
    rfl
  · refine CP.by rfl mixed (cfn_ok Tryz.func31 ok31) rfl ?_
    simp (disch := omega) only [s31, go_sem, encStmt, h, hk4.1, hk4.2.1, hk4.2.2, namesM, appendH, elemsOf, List.getElem?_cons_zero, List.getElem?_cons_succ, List.drop_zero, List.take_succ_cons, List.take_zero, List.take_nil, List.set_cons_succ, List.set_cons_zero, List.nil_append, List.cons_append, List.length_nil, List.length_cons, true_and, and_true, Nat.zero_add, Nat.le_refl]
    refine CP.go (stmtOk_c ⟨4, var, n, ⟨op, ea, eb⟩⟩) rfl rfl ?_
    simp (disch := omega) only [go_sem, encStmt, h, hk4.1, hk4.2.1, hk4.2.2, namesM, appendH, elemsOf, List.getElem?_cons_zero, List.getElem?_cons_succ, List.drop_zero, List.take_succ_cons, List.take_zero, List.take_nil, List.set_cons_succ, List.set_cons_zero, List.nil_append, List.cons_append, List.length_nil, List.length_cons, true_and, and_true, Nat.zero_add, Nat.le_refl]
    refine CP.go (hasVar_c 4) rfl rfl ?_
    simp (disch := omega) only [go_sem, encStmt, h, hk4.1, hk4.2.1, hk4.2.2, namesM, appendH, elemsOf, List.getElem?_cons_zero, List.getElem?_cons_succ, List.drop_zero, List.take_succ_cons, List.take_zero, List.take_nil, List.set_cons_succ, List.set_cons_zero, List.nil_append, List.cons_append, List.length_nil, List.length_cons, true_and, and_true, Nat.zero_add, Nat.le_refl]
    refine CP.go (hasN_c 4) rfl rfl ?_
    simp (disch := omega) only [go_sem, encStmt, h, hk4.1, hk4.2.1, hk4.2.2, namesM, appendH, elemsOf, List.getElem?_cons_zero, List.getElem?_cons_succ, List.drop_zero, List.take_succ_cons, List.take_zero, List.take_nil, List.set_cons_succ, List.set_cons_zero, List.nil_append, List.cons_append, List.length_nil, List.length_cons, true_and, and_true, Nat.zero_add, Nat.le_refl]
    refine CP.go (hasExpr_c 4) rfl rfl ?_
    simp (disch := omega) only [go_sem, encStmt, h, hk4.1, hk4.2.1, hk4.2.2, namesM, appendH, elemsOf, List.getElem?_cons_zero, List.getElem?_cons_succ, List.drop_zero, List.take_succ_cons, List.take_zero, List.take_nil, List.set_cons_succ, List.set_cons_zero, List.nil_append, List.cons_append, List.length_nil, List.length_cons, true_and, and_true, Nat.zero_add, Nat.le_refl]
    refine CP.goOwn names_c rfl rfl ?_
    simp (disch := omega) only [go_sem, encStmt, h, hk4.1, hk4.2.1, hk4.2.2, namesM, appendH, elemsOf, List.getElem?_cons_zero, List.getElem?_cons_succ, List.drop_zero, List.take_succ_cons, List.take_zero, List.take_nil, List.set_cons_succ, List.set_cons_zero, List.nil_append, List.cons_append, List.length_nil, List.length_cons, true_and, and_true, Nat.zero_add, Nat.le_refl]
    refine CP.goS (spaced_c (bz [105, 102]) [op, ea, eb] (by rw [bz_size]; decide) (by simp) (fun n hn => by simp at hn; omega)) rfl rfl (.cons (.str _) (.cons (Snap.flatN rfl rfl rfl) (.nil _))) ?_
    simp (disch := omega) only [go_sem, encStmt, h, hk4.1, hk4.2.1, hk4.2.2, namesM, appendH, elemsOf, List.getElem?_cons_zero, List.getElem?_cons_succ, List.drop_zero, List.take_succ_cons, List.take_zero, List.take_nil, List.set_cons_succ, List.set_cons_zero, List.nil_append, List.cons_append, List.length_nil, List.length_cons, true_and, and_true, Nat.zero_add, Nat.le_refl]
    rfl
  · refine CP.by rfl mixed (cfn_ok Tryz.func31 ok31) rfl ?_
    simp (disch := omega) only [s31, go_sem, encStmt, h, hk5.1, hk5.2.1, hk5.2.2, namesM, appendH, elemsOf, List.getElem?_cons_zero, List.getElem?_cons_succ, List.drop_zero, List.take_succ_cons, List.take_zero, List.take_nil, List.set_cons_succ, List.set_cons_zero, List.nil_append, List.cons_append, List.length_nil, List.length_cons, true_and, and_true, Nat.zero_add, Nat.le_refl]
    refine CP.go (stmtOk_c ⟨5, var, n, ⟨op, ea, eb⟩⟩) rfl rfl ?_
    simp (disch := omega) only [go_sem, encStmt, h, hk5.1, hk5.2.1, hk5.2.2, namesM, appendH, elemsOf, List.getElem?_cons_zero, List.getElem?_cons_succ, List.drop_zero, List.take_succ_cons, List.take_zero, List.take_nil, List.set_cons_succ, List.set_cons_zero, List.nil_append, List.cons_append, List.length_nil, List.length_cons, true_and, and_true, Nat.zero_add, Nat.le_refl]
    refine CP.go (hasVar_c 5) rfl rfl ?_
    simp (disch := omega) only [go_sem, encStmt, h, hk5.1, hk5.2.1, hk5.2.2, namesM, appendH, elemsOf, List.getElem?_cons_zero, List.getElem?_cons_succ, List.drop_zero, List.take_succ_cons, List.take_zero, List.take_nil, List.set_cons_succ, List.set_cons_zero, List.nil_append, List.cons_append, List.length_nil, List.length_cons, true_and, and_true, Nat.zero_add, Nat.le_refl]
    refine CP.go (hasN_c 5) rfl rfl ?_
    simp (disch := omega) only [go_sem, encStmt, h, hk5.1, hk5.2.1, hk5.2.2, namesM, appendH, elemsOf, List.getElem?_cons_zero, List.getElem?_cons_succ, List.drop_zero, List.take_succ_cons, List.take_zero, List.take_nil, List.set_cons_succ, List.set_cons_zero, List.nil_append, List.cons_append, List.length_nil, List.length_cons, true_and, and_true, Nat.zero_add, Nat.le_refl]
    refine CP.go (hasExpr_c 5) rfl rfl ?_
    simp (disch := omega) only [go_sem, encStmt, h, hk5.1, hk5.2.1, hk5.2.2, namesM, appendH, elemsOf, List.getElem?_cons_zero, List.getElem?_cons_succ, List.drop_zero, List.take_succ_cons, List.take_zero, List.take_nil, List.set_cons_succ, List.set_cons_zero, List.nil_append, List.cons_append, List.length_nil, List.length_cons, true_and, and_true, Nat.zero_add, Nat.le_refl]
    refine CP.goOwn names_c rfl rfl ?_
    simp (disch := omega) only [go_sem, encStmt, h, hk5.1, hk5.2.1, hk5.2.2, namesM, appendH, elemsOf, List.getElem?_cons_zero, List.getElem?_cons_succ, List.drop_zero, List.take_succ_cons, List.take_zero, List.take_nil, List.set_cons_succ, List.set_cons_zero, List.nil_append, List.cons_append, List.length_nil, List.length_cons, true_and, and_true, Nat.zero_add, Nat.le_refl]
    refine CP.goS (spaced_c (bz [108, 111, 111, 112]) [n] (by rw [bz_size]; decide) (by simp) (fun n hn => by simp at hn; omega)) rfl rfl (.cons (.str _) (.cons (Snap.flatN rfl rfl rfl) (.nil _))) ?_
    simp (disch := omega) only [go_sem, encStmt, h, hk5.1, hk5.2.1, hk5.2.2, namesM, appendH, elemsOf, List.getElem?_cons_zero, List.getElem?_cons_succ, List.drop_zero, List.take_succ_cons, List.take_zero, List.take_nil, List.set_cons_succ, List.set_cons_zero, List.nil_append, List.cons_append, List.length_nil, List.length_cons, true_and, and_true, Nat.zero_add, Nat.le_refl]
    rfl
  · refine CP.by rfl mixed (cfn_ok Tryz.func31 ok31) rfl ?_
    simp (disch := omega) only [s31, go_sem, encStmt, h, hk6.1, hk6.2.1, hk6.2.2, namesM, appendH, elemsOf, List.getElem?_cons_zero, List.getElem?_cons_succ, List.drop_zero, List.take_succ_cons, List.take_zero, List.take_nil, List.set_cons_succ, List.set_cons_zero, List.nil_append, List.cons_append, List.length_nil, List.length_cons, true_and, and_true, Nat.zero_add, Nat.le_refl]
    refine CP.go (stmtOk_c ⟨6, var, n, ⟨op, ea, eb⟩⟩) rfl rfl ?_
    simp (disch := omega) only [go_sem, encStmt, h, hk6.1, hk6.2.1, hk6.2.2, namesM, appendH, elemsOf, List.getElem?_cons_zero, List.getElem?_cons_succ, List.drop_zero, List.take_succ_cons, List.take_zero, List.take_nil, List.set_cons_succ, List.set_cons_zero, List.nil_append, List.cons_append, List.length_nil, List.length_cons, true_and, and_true, Nat.zero_add, Nat.le_refl]
    refine CP.go (hasVar_c 6) rfl rfl ?_
    simp (disch := omega) only [go_sem, encStmt, h, hk6.1, hk6.2.1, hk6.2.2, namesM, appendH, elemsOf, List.getElem?_cons_zero, List.getElem?_cons_succ, List.drop_zero, List.take_succ_cons, List.take_zero, List.take_nil, List.set_cons_succ, List.set_cons_zero, List.nil_append, List.cons_append, List.length_nil, List.length_cons, true_and, and_true, Nat.zero_add, Nat.le_refl]
    refine CP.go (hasN_c 6) rfl rfl ?_
    simp (disch := omega) only [go_sem, encStmt, h, hk6.1, hk6.2.1, hk6.2.2, namesM, appendH, elemsOf, List.getElem?_cons_zero, List.getElem?_cons_succ, List.drop_zero, List.take_succ_cons, List.take_zero, List.take_nil, List.set_cons_succ, List.set_cons_zero, List.nil_append, List.cons_append, List.length_nil, List.length_cons, true_and, and_true, Nat.zero_add, Nat.le_refl]
    refine CP.go (hasExpr_c 6) rfl rfl ?_
    simp (disch := omega) only [go_sem, encStmt, h, hk6.1, hk6.2.1, hk6.2.2, namesM, appendH, elemsOf, List.getElem?_cons_zero, List.getElem?_cons_succ, List.drop_zero, List.take_succ_cons, List.take_zero, List.take_nil, List.set_cons_succ, List.set_cons_zero, List.nil_append, List.cons_append, List.length_nil, List.length_cons, true_and, and_true, Nat.zero_add, Nat.le_refl]
    refine CP.goOwn names_c rfl rfl ?_
    simp (disch := omega) only [go_sem, encStmt, h, hk6.1, hk6.2.1, hk6.2.2, namesM, appendH, elemsOf, List.getElem?_cons_zero, List.getElem?_cons_succ, List.drop_zero, List.take_succ_cons, List.take_zero, List.take_nil, List.set_cons_succ, List.set_cons_zero, List.nil_append, List.cons_append, List.length_nil, List.length_cons, true_and, and_true, Nat.zero_add, Nat.le_refl]
    refine CP.goS (spaced_c (bz [101, 110, 100]) [] (by rw [bz_size]; decide) (by simp) (fun n hn => by simp at hn)) rfl rfl (.cons (.str _) (.cons (Snap.flatN rfl rfl rfl) (.nil _))) ?_
    simp (disch := omega) only [go_sem, encStmt, h, hk6.1, hk6.2.1, hk6.2.2, namesM, appendH, elemsOf, List.getElem?_cons_zero, List.getElem?_cons_succ, List.drop_zero, List.take_succ_cons, List.take_zero, List.take_nil, List.set_cons_succ, List.set_cons_zero, List.nil_append, List.cons_append, List.length_nil, List.length_cons, true_and, and_true, Nat.zero_add, Nat.le_refl]
    rfl
end Go.Av

namespace Go.Av
open Go.Proofs Go.RowKit
set_option linter.unusedVariables false
set_option linter.unusedSimpArgs false
set_option maxRecDepth 100000
set_option maxHeartbeats 8000000
theorem CP.callB {P : Program} {f : FuncId} {args : List V} {b : Bool} {w : World} {S : Nat → Prop} {cargs : List Value} (h : CP P f args (.bool b) []) (H : HInv S noRho [] w) (hl : cargs.length = args.length)
    (ha : ∀ (j : Nat) (c : Value) (v : V), cargs[j]? = some c → args[j]? = some v → Rep S noRho w c v) : Calls P f cargs.toArray w fun e w' => e = .returned (.bool b) ∧ Below w.heap.size w w' :=
  (h.2 w S noRho cargs H hl ha).mono fun e w' ⟨v, r', h', S', ρ', he, hQ, H', hr, F⟩ => by
    obtain ⟨_, _, g, _, e1, _⟩ := hQ
    subst e1
    simp only [V.mapId] at hr
    cases hr
    exact ⟨he, F.os, F.tape, F.output, F.size, fun k hk => F.frame k hk (fun id l hl => by cases hl)⟩
theorem CP.callS {P : Program} {f : FuncId} {args : List V} {s : ByteArray} {w : World} {S : Nat → Prop} {cargs : List Value} (h : CP P f args (.str s) []) (H : HInv S noRho [] w) (hl : cargs.length = args.length)
    (ha : ∀ (j : Nat) (c : Value) (v : V), cargs[j]? = some c → args[j]? = some v → Rep S noRho w c v) : Calls P f cargs.toArray w fun e w' => e = .returned (.string s) ∧ Below w.heap.size w w' :=
  (h.2 w S noRho cargs H hl ha).mono fun e w' ⟨v, r', h', S', ρ', he, hQ, H', hr, F⟩ => by
    obtain ⟨_, _, g, _, e1, _⟩ := hQ
    subst e1
    simp only [V.mapId] at hr
    cases hr
    exact ⟨he, F.os, F.tape, F.output, F.size, fun k hk => F.frame k hk (fun id l hl => by cases hl)⟩
theorem HInv.later {S : Nat → Prop} {w w' : World} (H : HInv S noRho [] w) (b : Below w.heap.size w w') : HInv S noRho [] w' := H.ext b.size fun k hk => b.block k hk
theorem Rep.later {S : Nat → Prop} {w w' : World} {c : Value} {v : V} (r : Rep S noRho w c v) (H : HInv S noRho [] w) (b : Below w.heap.size w w') : Rep S noRho w' c v := r.mono (fun k hk => b.block k (H.stab k hk)) (fun _ h => h) (Le.refl _)
theorem rep_agg1 {S : Nat → Prop} {w : World} {v : Value} {x : V} (h : Rep S noRho w v (.agg [x])) : ∃ c, v = .agg #[c] ∧ Rep S noRho w c x := by
  cases h with
  | @agg cs _ hcs hh =>
  obtain ⟨l⟩ := cs
  match l, hcs, hh with
  | [c], _, hh => exact ⟨c, rfl, hh 0 c _ rfl rfl⟩
theorem rep_lst {S : Nat → Prop} {w : World} {c : Value} {sz : Nat} {xs : List (List V)} (h : Rep S noRho w c (.lst sz xs)) : ∃ a cap, c = .slice a xs.length cap ∧ xs.length ≤ maxLen ∧
    ∀ (i : Nat) (e : List V), xs[i]? = some e → 0 < e.length → ∃ (b off : Nat) (cf : Nat → Value), a = some ⟨b, off, none⟩ ∧ S b ∧ ∀ (j : Nat) (v : V), e[j]? = some v → w.cell? ⟨b, off + (i * sz + j), none⟩ = some (cf j) ∧ (cf j).oneCell' = true ∧ Rep S noRho w (cf j) v := by
  cases h with
  | @lst a n cap _ _ cf hn hc hb hs ha h1 h2 =>
  subst hn
  refine ⟨a, cap, rfl, hb, fun i e hi he => ?_⟩
  obtain ⟨ad, rfl, hS⟩ := ha (by have := (List.getElem?_eq_some_iff.1 hi).1; omega)
  have hil := (List.getElem?_eq_some_iff.1 hi).1
  have hx0 : xs[0]? = some xs[0] := List.getElem?_eq_getElem (by omega)
  have hl0 : 0 < xs[0].length := by rw [hs _ (List.getElem_mem (by omega)), ← hs _ (List.mem_of_getElem? hi)]; exact he
  have h0 := (h1 ad 0 xs[0] 0 xs[0][0] rfl hx0 (List.getElem?_eq_getElem hl0)).1
  obtain ⟨b, off, sp⟩ := ad
  have hsp : sp = none := by
    cases sp with
    | none => rfl
    | some q =>
      rw [Nat.zero_mul, Nat.add_zero] at h0
      have e0 : (Addr.add ⟨b, off, some q⟩ 0) = ⟨b, off, some q⟩ := rfl
      rw [e0] at h0
      unfold World.cell? at h0
      split at h0
      · simp at h0
      · cases h0
  subst hsp
  refine ⟨b, off, fun j => cf i j, rfl, hS, fun j v hj => ?_⟩
  have hj' := h1 _ i e j v rfl hi hj
  rw [Lib.add_plain] at hj'
  exact ⟨hj'.1, hj'.2, h2 i e j v hi hj⟩
theorem isB_old {T e B b : Nat} {bs : List Value} {w w' : World} (h : Lib.IsBuilderF T e B b bs w) (k : Below w.heap.size w w') : Lib.IsBuilderF T e B b bs w' := by
  have g : w.grownBy w' none := ⟨k.os, k.tape, k.output, k.size, fun i hi _ => k.block i hi⟩
  have hat : ∀ p, Lib.BuilderAtF T e B b p bs w → Lib.BuilderAtF T e B b p bs w' := fun p ⟨hB, v, hb, hown, hne⟩ =>
    ⟨hB, v, by rw [k.block _ (Array.getElem?_eq_some_iff.1 hb).1]; exact hb, hown.kept g (by cases v.ownBlock <;> simp), hne⟩
  exact h.elim (fun x => .inl (hat _ x)) (fun x => .inr (hat _ x))
theorem isB_lt {T e B b : Nat} {bs : List Value} {w : World} (h : Lib.IsBuilderF T e B b bs w) : b < w.heap.size := by
  rcases h with ⟨_, v, hb, _⟩ | ⟨_, v, hb, _⟩ <;> exact (Array.getElem?_eq_some_iff.1 hb).1
theorem rep_expr {S : Nat → Prop} {w : World} (e : Expr) : Rep S noRho w (.agg #[.int .i64 e.op, .int .i64 e.a, .int .i64 e.b]) (.agg (encExpr e)) := by
  refine .agg rfl fun j c v hc hv => ?_
  match j, hc, hv with
  | 0, hc, hv => cases hc; cases hv; exact .int _ _
  | 1, hc, hv => cases hc; cases hv; exact .int _ _
  | 2, hc, hv => cases hc; cases hv; exact .int _ _
def lineL (s : ByteArray) : List UInt8 := s.data.toList ++ [10]
def taskL (t : Task) : List UInt8 := lineL (lineM t.next) ++ (t.body.flatMap fun s => lineL (stmtM s))
def bodyL (xs : List Stmt) : List UInt8 := xs.flatMap fun s => lineL (stmtM s)
def progL (ts : List Task) : List UInt8 := ts.flatMap taskL
theorem line_size {e : Expr} (h : exprOk e = true) : (lineM e).size ≤ 1000 := by
  have hb := expr_bd h
  have := spaced_size [e.op, e.a, e.b] (bz [116, 97, 115, 107]) (fun n hn => by simp at hn; omega)
  rw [bz_size] at this
  simp only [List.length_cons, List.length_nil] at this
  unfold lineM; omega
theorem stmt_size {s : Stmt} (h : stmtOk s = true) : (stmtM s).size ≤ 1000 := by
  have hb := stmt_bd h
  have hk := stmt_kind h
  have hn : (namesM[s.kind.toNat]?.getD (bz [])).size ≤ 10 := by
    rcases hk with e | e | e | e | e | e <;> rw [e] <;> (show (bz _).size ≤ 10; rw [bz_size]; decide)
  have hl : (numsM s).length ≤ 5 := by
    unfold numsM
    split <;> split <;> split <;> simp
  have := spaced_size (numsM s) (namesM[s.kind.toNat]?.getD (bz [])) (fun n hn => by
    unfold numsM at hn
    rcases List.mem_append.1 hn with h1 | h1
    · rcases List.mem_append.1 h1 with h2 | h2
      · split at h2
        · rw [List.mem_singleton.1 h2]; exact hb.1
        · cases h2
      · split at h2
        · rw [List.mem_singleton.1 h2]; exact hb.2.1
        · cases h2
    · split at h1
      · simp only [List.mem_cons, List.not_mem_nil, or_false] at h1
        rcases h1 with rfl | rfl | rfl
        · exact hb.2.2.1
        · exact hb.2.2.2.1
        · exact hb.2.2.2.2
      · cases h1)
  unfold stmtM; omega
theorem rep_stmt {S : Nat → Prop} {w : World} (s : Stmt) : Rep S noRho w (.agg #[.int .i64 s.kind, .int .i64 s.var, .int .i64 s.n, .int .i64 s.e.op, .int .i64 s.e.a, .int .i64 s.e.b]) (.agg (encStmt s)) := by
  refine .agg rfl fun j c v hc hv => ?_
  match j, hc, hv with
  | 0, hc, hv => cases hc; cases hv; exact .int _ _
  | 1, hc, hv => cases hc; cases hv; exact .int _ _
  | 2, hc, hv => cases hc; cases hv; exact .int _ _
  | 3, hc, hv => cases hc; cases hv; exact .int _ _
  | 4, hc, hv => cases hc; cases hv; exact .int _ _
  | 5, hc, hv => cases hc; cases hv; exact .int _ _
theorem lineL_eq (s : ByteArray) : lineL s = (s ++ ({ data := #[10] } : ByteArray)).data.toList := by
  rw [ByteArray.data_append, Array.toList_append]; rfl
theorem body_take {xs : List Stmt} {j : Nat} (h : j < xs.length) : bodyL (xs.take (j + 1)) = bodyL (xs.take j) ++ lineL (stmtM xs[j]) := by
  unfold bodyL; rw [List.take_succ_eq_append_getElem h, List.flatMap_append]; simp
theorem prog_take {ts : List Task} {k : Nat} (h : k < ts.length) : progL (ts.take (k + 1)) = progL (ts.take k) ++ taskL ts[k] := by
  unfold progL; rw [List.take_succ_eq_append_getElem h, List.flatMap_append]; simp
theorem lineL_size (s : ByteArray) : (lineL s).length = s.size + 1 := by
  unfold lineL; rw [List.length_append, Array.length_toList]; rfl
theorem blockFrom_mem : ∀ (xs : List Stmt) (d : Int), blockFrom d xs = true → ∀ s ∈ xs, stmtOk s = true
  | [], _, _, s, hs => absurd hs List.not_mem_nil
  | x :: xs, d, h, s, hs => by
    rw [blockFrom_cons] at h
    split at h
    · rename_i q
      rcases List.mem_cons.1 hs with rfl | hs
      · exact q.1
      · exact blockFrom_mem xs _ h s hs
    · cases h
theorem prog_facts {ts : List Task} (hp : programOk ts = true) : ts.length ≤ 6 ∧ ∀ t ∈ ts, t.body.length ≤ 24 ∧ exprOk t.next = true ∧ ∀ s ∈ t.body, stmtOk s = true := by
  simp only [programOk, within, Bool.and_eq_true, decide_eq_true_eq, List.all_eq_true] at hp
  refine ⟨by omega, fun t ht => ?_⟩
  have h := hp.2 t ht
  simp only [taskOk, blockOk, Bool.and_eq_true, decide_eq_true_eq] at h
  exact ⟨by omega, h.2, blockFrom_mem _ _ h.1.1⟩
theorem body_size : ∀ (xs : List Stmt), (∀ s ∈ xs, stmtOk s = true) → (bodyL xs).length ≤ 1001 * xs.length
  | [], _ => Nat.le_refl _
  | x :: xs, h => by
    have h1 := body_size xs fun s hs => h s (List.mem_cons_of_mem _ hs)
    have h2 := lineL_size (stmtM x)
    have h3 := stmt_size (h x List.mem_cons_self)
    have e : bodyL (x :: xs) = lineL (stmtM x) ++ bodyL xs := rfl
    rw [e, List.length_append, List.length_cons]
    omega
theorem prog_size : ∀ (ts : List Task), (∀ t ∈ ts, t.body.length ≤ 24 ∧ exprOk t.next = true ∧ ∀ s ∈ t.body, stmtOk s = true) → (progL ts).length ≤ 30000 * ts.length
  | [], _ => Nat.le_refl _
  | t :: ts, h => by
    have h1 := prog_size ts fun s hs => h s (List.mem_cons_of_mem _ hs)
    have h0 := h t List.mem_cons_self
    have h2 := lineL_size (lineM t.next)
    have h3 := line_size h0.2.1
    have h4 := body_size t.body h0.2.2
    have e : progL (t :: ts) = lineL (lineM t.next) ++ bodyL t.body ++ progL ts := rfl
    rw [e, List.length_append, List.length_append, List.length_cons]
    omega
theorem wrap_up {j : Nat} (h : j < 9223372036854775807) : Go.RowKit.wrap64 ((j : Int) + 1) = ((j + 1 : Nat) : Int) := by
  unfold Go.RowKit.wrap64
  omega
theorem meas_lt {n j : Nat} (h : j < n) : n - (Go.RowKit.intOf (.int .i64 ((j + 1 : Nat) : Int))).toNat < n - (Go.RowKit.intOf (.int .i64 (j : Int))).toNat := by
  show n - ((j + 1 : Nat) : Int).toNat < n - (j : Int).toNat
  omega
theorem progText_m (ts : List Task) (v : Value) (w : World) (S : Nat → Prop) (H : HInv S noRho [] w) (hv : Rep S noRho w v (.agg [.lst 4 (ts.map encTask)])) (hp : programOk ts = true) : Calls Tryz.prog 10 #[v] w fun e w' => e = .returned (.string ⟨(progL ts).toArray⟩) ∧ Below w.heap.size w w' := by
  obtain ⟨c, rfl, rc⟩ := rep_agg1 hv
  obtain ⟨a, cap, rfl, hlen, hcell⟩ := rep_lst rc
  rw [List.length_map] at hlen hv
  rw [List.length_map]
  have hf := prog_facts hp
  clear hlen
  have hok : CP Tryz.prog 23 [.agg [.lst 4 (ts.map encTask)]] (.bool (programOk ts)) [] := programOk_c ts (by have := hf.1; omega) fun t ht => by have := (hf.2 t ht).1; omega
  rw [hp] at hok
  have b0 : Below w.heap.size w (w.alloc (.cells #[.slice a ts.length cap] 26)) := (Below.refl _ w).alloc (Nat.le_refl _) _
  have hB2 : ∀ k ≤ ts.length, (progL (ts.take k)).length ≤ 1000000 := fun k hk => by
    have := prog_size (ts.take k) fun t ht => hf.2 t (List.mem_of_mem_take ht)
    have : (ts.take k).length ≤ 6 := by rw [List.length_take]; have := hf.1; omega
    omega
  have hB3 : ∀ k (hk : k < ts.length), ∀ j ≤ ts[k].body.length, (progL (ts.take k) ++ lineL (lineM ts[k].next) ++ bodyL (ts[k].body.take j)).length ≤ 1000000 := fun k hk j hj => by
    have h1 := prog_size (ts.take k) fun t ht => hf.2 t (List.mem_of_mem_take ht)
    have h2 : (ts.take k).length ≤ 6 := by rw [List.length_take]; have := hf.1; omega
    have h3 := hf.2 _ (List.getElem_mem hk)
    have h4 := body_size (ts[k].body.take j) fun s hs => h3.2.2 s (List.mem_of_mem_take hs)
    have h5 : (ts[k].body.take j).length ≤ 24 := by rw [List.length_take]; omega
    have h6 := lineL_size (lineM ts[k].next)
    have h7 := line_size h3.2.1
    simp only [List.length_append]
    omega
  have hso : ∀ k (hk : k < ts.length), ∀ j (hj : j < ts[k].body.length), stmtOk ts[k].body[j] = true := fun k hk j hj => (hf.2 _ (List.getElem_mem hk)).2.2 _ (List.getElem_mem hj)
  go_enter Tryz.func10, Tryz.ntmps10
  go_wp2_with (go_at_call 23; refine (CP.callB (cargs := [.agg #[.slice a ts.length cap]]) hok (H.later b0) rfl (fun j c' v' hc hv' => by match j, hc, hv' with | 0, hc, hv' => cases hc; cases hv'; exact hv.later H b0)).mono ?_; rintro e w1 ⟨rfl, hb1⟩; refine Hid.out ?_)
  refine Lib.hid ?_
  have hs1 : w.heap.size < w1.heap.size := by have := hb1.size; simp at this; omega
  have hc2 : (w1.alloc (.cells #[.pointer none, .slice none 0 0] 57)).cell? ⟨w.heap.size, 0, none⟩ = some (.slice a ts.length cap) := by
    exact Lib.cell_of_heap ((Below.heap_alloc w1 _ _ hs1).trans ((hb1.block _ (by simp)).trans (heap_alloc_new w _))) 0
  go_wp2
  go_loopw [15] (fun v15 wr => ∃ k : Nat, k ≤ ts.length ∧ v15 = .int .i64 k ∧ Lib.IsBuilderF 57 5 w1.heap.size w1.heap.size (Lib.byteCells (progL (ts.take k))) wr ∧ Below w1.heap.size w1 wr) (fun v15 _ => ts.length - (Go.RowKit.intOf v15).toNat)
  case atStart =>
    refine ⟨0, Nat.zero_le _, rfl, ?_, (Below.refl _ w1).alloc (Nat.le_refl _) _⟩
    exact Lib.IsBuilderF.of (Lib.fresh_isBuilder 57 5 w1)
  case round =>
    obtain ⟨k, hk, rfl, hB, hbw⟩ := hrel
    by_cases hlt : k < ts.length
    · obtain ⟨b, off, cf, rfl, hS, hc⟩ := hcell k (encTask ts[k]) (by simp [hlt]) (by simp [encTask])
      have hbS := H.stab b hS
      have cw : ∀ o, wr.cell? ⟨b, o, none⟩ = w.cell? ⟨b, o, none⟩ := fun o => World.cell?_of_block ((hbw.block b (by omega)).trans ((hb1.block b (by simp; omega)).trans (Below.heap_alloc w _ b hbS)))
      have q0 := hc 0 _ rfl
      have q1 := hc 1 _ rfl
      have q2 := hc 2 _ rfl
      have q3 := hc 3 _ rfl
      rw [← cw] at q0 q1 q2 q3
      obtain ⟨q0, _, r0⟩ := q0
      obtain ⟨q1, _, r1⟩ := q1
      obtain ⟨q2, _, r2⟩ := q2
      obtain ⟨q3, _, r3⟩ := q3
      obtain ⟨ab, capb, e0, hlenb, hcellb⟩ := rep_lst r0
      rw [e0] at q0
      generalize cf 1 = d1 at *
      generalize cf 2 = d2 at *
      generalize cf 3 = d3 at *
      cases r1
      cases r2
      cases r3
      clear cw
      rw [Nat.add_zero] at q0
      rw [← Nat.add_assoc] at q1 q2 q3
      have bw : Below w.heap.size w wr := (b0.trans (hb1.mono (by simp))).trans (hbw.mono (by omega))
      have bw' : Below w.heap.size w (wr.alloc (.cells #[.slice ab ts[k].body.length capb, .int .i64 ts[k].next.op, .int .i64 ts[k].next.a, .int .i64 ts[k].next.b] 37)) := bw.alloc (bw.size) _
      have hex : exprOk ts[k].next = true := (hf.2 _ (List.getElem_mem hlt)).2.1
      go_wp2_with (go_at_call 30; refine (CP.callS (cargs := [.agg #[.int .i64 ts[k].next.op, .int .i64 ts[k].next.a, .int .i64 ts[k].next.b]]) (taskLine_c ts[k].next hex) (H.later bw') rfl (fun j c' v' hc hv' => by match j, hc, hv' with | 0, hc, hv' => cases hc; cases hv'; exact rep_expr _)).mono ?_; rintro e w2 ⟨rfl, hb2⟩; refine Hid.out ?_)
      refine Lib.hid ?_
      have hadd := fun W : World => run_string_add_sum (P := Tryz.prog) (w := W) (lineM ts[k].next) { data := #[10] } (by have := line_size hex; show (lineM ts[k].next).size + 1 ≤ _; omega)
      have iB := isB_old (hB.alloc (.cells #[.slice ab ts[k].body.length capb, .int .i64 ts[k].next.op, .int .i64 ts[k].next.a, .int .i64 ts[k].next.b] 37)) hb2
      have zB := hB2 k (by omega)
      go_wp2_with (go_at_call 29; refine (ws_k w1.heap.size w1.heap.size _ _ w2 iB (by rw [Lib.byteCells_length]; show (progL (ts.take k)).length + (lineM ts[k].next ++ { data := #[10] }).size ≤ _; rw [ba_size]; have := line_size hex; show (progL (ts.take k)).length + ((lineM ts[k].next).size + 1) ≤ _; omega) (by have := hb2.size; simp at this; have := hbw.size; omega)).mono ?_; rintro e w3 ⟨rfl, hA3, hb3, hk3⟩; refine Hid.out ?_)
      refine Lib.hid ?_
      clear hadd
      have i3 : Lib.IsBuilderF 57 5 w1.heap.size w1.heap.size (Lib.byteCells (progL (ts.take k) ++ lineL (lineM ts[k].next))) w3 := by
        have e : progL (ts.take k) ++ lineL (lineM ts[k].next) = progL (ts.take k) ++ (lineM ts[k].next ++ { data := #[10] } : ByteArray).data.toList := by
          rw [ByteArray.data_append, Array.toList_append]; rfl
        rw [e, Lib.byteCells_append]
        exact .inr hA3
      have b3 : Below w1.heap.size w1 w3 := (((hbw.alloc hbw.size _).trans (hb2.mono (by have := hbw.size; simp; omega))).trans hb3)
      have l3 := isB_lt hB
      have c3 : w3.cell? ⟨wr.heap.size, 0, none⟩ = some (.slice ab ts[k].body.length capb) := by
        have e2 := (hb2.block wr.heap.size (by simp)).trans (heap_alloc_new wr _)
        exact Lib.cell_of_heap (hk3 _ _ e2 (by intro h; have := Option.some.inj h; omega) (fun c fz h => by cases h)) 0
      clear hA3 hb3 hk3 iB hB q0 q1 q2 q3 hb2 bw'
      go_wp2
      go_loopw [27] (fun v27 wq => ∃ j : Nat, j ≤ ts[k].body.length ∧ v27 = .int .i64 j ∧ Lib.IsBuilderF 57 5 w1.heap.size w1.heap.size (Lib.byteCells (progL (ts.take k) ++ lineL (lineM ts[k].next) ++ bodyL (ts[k].body.take j))) wq ∧ Below w1.heap.size w1 wq) (fun v27 _ => ts[k].body.length - (Go.RowKit.intOf v27).toNat)
      case atStart => exact ⟨0, Nat.zero_le _, rfl, by rw [List.take_zero]; show Lib.IsBuilderF 57 5 _ _ (Lib.byteCells (_ ++ [])) _; rw [List.append_nil]; exact i3, b3⟩
      case round =>
        obtain ⟨j, hj, rfl, hBj, hbj⟩ := hrel
        by_cases hjl : j < ts[k].body.length
        · obtain ⟨bb, offb, cfb, rfl, hSb, hcb⟩ := hcellb j (encStmt ts[k].body[j]) (by simp [hjl]) (by simp [encStmt])
          have hbSb := H.stab bb hSb
          have cwb : ∀ o, wr.cell? ⟨bb, o, none⟩ = w.cell? ⟨bb, o, none⟩ := fun o => World.cell?_of_block ((hbj.block bb (by omega)).trans ((hb1.block bb (by simp; omega)).trans (Below.heap_alloc w _ bb hbSb)))
          have hst : stmtOk ts[k].body[j] = true := hso k hlt j hjl
          have q0 := hcb 0 _ rfl
          have q1 := hcb 1 _ rfl
          have q2 := hcb 2 _ rfl
          have q3 := hcb 3 _ rfl
          have q4 := hcb 4 _ rfl
          have q5 := hcb 5 _ rfl
          rw [← cwb] at q0 q1 q2 q3 q4 q5
          obtain ⟨q0, _, s0⟩ := q0
          obtain ⟨q1, _, s1⟩ := q1
          obtain ⟨q2, _, s2⟩ := q2
          obtain ⟨q3, _, s3⟩ := q3
          obtain ⟨q4, _, s4⟩ := q4
          obtain ⟨q5, _, s5⟩ := q5
          clear hcb cwb
          generalize cfb 0 = d0 at *
          generalize cfb 1 = d1 at *
          generalize cfb 2 = d2 at *
          generalize cfb 3 = d3 at *
          generalize cfb 4 = d4 at *
          generalize cfb 5 = d5 at *
          cases s0
          cases s1
          cases s2
          cases s3
          cases s4
          cases s5
          rw [Nat.add_zero] at q0
          rw [← Nat.add_assoc] at q1 q2 q3 q4 q5
          have bwj : Below w.heap.size w wr := (b0.trans (hb1.mono (by simp))).trans (hbj.mono (by omega))
          have bwj' : Below w.heap.size w (wr.alloc (.cells #[.int .i64 ts[k].body[j].kind, .int .i64 ts[k].body[j].var, .int .i64 ts[k].body[j].n, .int .i64 ts[k].body[j].e.op, .int .i64 ts[k].body[j].e.a, .int .i64 ts[k].body[j].e.b] 64)) := bwj.alloc (bwj.size) _
          have haddj := fun W : World => run_string_add_sum (P := Tryz.prog) (w := W) (stmtM ts[k].body[j]) { data := #[10] } (by have := stmt_size hst; show (stmtM ts[k].body[j]).size + 1 ≤ _; omega)
          have zj := hB3 k hlt j (by omega)
          go_wp2_with (first
            | (go_at_call 31; refine (CP.callS (cargs := [.agg #[.int .i64 ts[k].body[j].kind, .int .i64 ts[k].body[j].var, .int .i64 ts[k].body[j].n, .int .i64 ts[k].body[j].e.op, .int .i64 ts[k].body[j].e.a, .int .i64 ts[k].body[j].e.b]]) (fmtStmt_c ts[k].body[j] hst) (H.later bwj') rfl (fun j c' v' hc hv' => by match j, hc, hv' with | 0, hc, hv' => cases hc; cases hv'; exact rep_stmt _)).mono ?_; rintro e w4 ⟨rfl, hb4⟩; refine Hid.out ?_))
          refine Lib.hid ?_
          have iBj := isB_old (hBj.alloc (.cells #[.int .i64 ts[k].body[j].kind, .int .i64 ts[k].body[j].var, .int .i64 ts[k].body[j].n, .int .i64 ts[k].body[j].e.op, .int .i64 ts[k].body[j].e.a, .int .i64 ts[k].body[j].e.b] 64)) hb4
          go_wp2_with (go_at_call 29; refine (ws_k w1.heap.size w1.heap.size _ _ w4 iBj (by rw [Lib.byteCells_length]; show _ + (stmtM ts[k].body[j] ++ { data := #[10] }).size ≤ _; rw [ba_size]; have := stmt_size hst; show _ + ((stmtM ts[k].body[j]).size + 1) ≤ _; omega) (by have := hb4.size; simp at this; have := hbj.size; omega)).mono ?_; rintro e w5 ⟨rfl, hA5, hb5, hk5⟩; refine Hid.out ?_)
          refine Lib.hid ?_
          clear haddj
          have hb45 : Below w1.heap.size w1 w5 := ((hbj.alloc hbj.size _).trans (hb4.mono (by have := hbj.size; simp; omega))).trans hb5
          have hwj := wrap_up (show j < 9223372036854775807 from Nat.lt_of_lt_of_le hjl (by have := (hf.2 _ (List.getElem_mem hlt)).1; omega))
          go_wp2
          go_roundw
          case rel =>
            rw [hwj]
            refine ⟨j + 1, hjl, rfl, ?_, hb45⟩
            rw [body_take hjl, ← List.append_assoc, lineL_eq, Lib.byteCells_append]
            exact .inr hA5
          case measure =>
            rw [hwj]
            exact meas_lt hjl
        · have hje : j = ts[k].body.length := by omega
          rw [hje, List.take_length, List.append_assoc] at hBj
          have hjl' : ¬ ((j : Int) < (ts[k].body.length : Int)) := by omega
          clear hje
          have eT : progL (ts.take k) ++ (lineL (lineM ts[k].next) ++ bodyL ts[k].body) = progL (ts.take (k + 1)) := by rw [prog_take hlt]; rfl
          rw [eT] at hBj
          have hwk := wrap_up (show k < 9223372036854775807 from Nat.lt_of_lt_of_le hlt (by have := hf.1; omega))
          clear hf
          go_wp2
          go_roundw
          case rel =>
            rw [hwk]
            exact ⟨k + 1, hlt, rfl, hBj, hbj⟩
          case measure =>
            rw [hwk]
            exact meas_lt hlt
    · have hke : k = ts.length := by omega
      subst hke
      rw [List.take_length] at hB
      go_wp2_with (go_at_call 32; refine (bs_k w1.heap.size w1.heap.size _ wr hB (by have := hbw.size; omega)).mono ?_; rintro e w6 ⟨rfl, hB6, hb6, hk6⟩; refine Hid.out ?_)
      refine Lib.hid ?_
      go_wp2
      go_ret
      exact ⟨rfl, (b0.trans (hb1.mono (by simp))).trans ((hbw.trans hb6).mono (by omega))⟩
theorem progText_c (ts : List Task) (hp : programOk ts = true) : CP Tryz.prog 10 [.agg [.lst 4 (ts.map encTask)]] (.str ⟨(progL ts).toArray⟩) [] := by
  refine CP.ofStr (enters_of Tryz.func10 (by kernel_rfl) rfl) (fun w S cargs H hl hr => ?_) (refs_prog1 _ ts)
  match cargs, hl, hr with
  | [c0], _, hr => exact progText_m ts c0 w S H (hr 0 c0 _ rfl rfl) hp
end Go.Av

namespace Go.Av
open Go.Proofs Go.RowKit
set_option linter.unusedVariables false
set_option linter.unusedSimpArgs false
set_option maxRecDepth 100000
set_option maxHeartbeats 16000000
theorem su_law (bs : List Int) (hb : bs.length ≤ 9223372036854775807) : CP Tryz.prog 3 [.lst 1 (bs.map encB)] (.bool true) [] := by
  refine CP.by rfl mixed (cfn_ok Tryz.func3 ok3) rfl ?_
  simp (disch := omega) only [s3, go_sem]
  refine CP.go (big_c bs hb) rfl (refs_bytes _ _) ?_
  simp (disch := omega) only [go_sem]
  refine condP_dec (fun hbig => ?_) (fun hbig => ?_)
  · simp (disch := omega) only [go_sem]
  simp (disch := omega) only [go_sem]
  refine C.go (drawRigid_d (Sep.nil _) (by omega)) ?_
  rintro r h1 ⟨ts, v, rfl, hl, hok, hri, S1⟩
  have zv := S1.vv 0 rfl
  have hr : rigidM ts = true := rigid_ok hl hok hri
  have hbd := DrawnP.body ⟨hl, hok⟩
  have S2 := S1.newK [[v]]
  simp (disch := omega) only [go_sem, zv.1, zv.2.1, zv.2.2, splice]
  refine C.go (drawPlaces_d S2 (by omega)) ?_
  rintro r h3 ⟨pl, lp, rfl, hpl, hplv, S3⟩
  have P3 := S3.blk 0 rfl
  have A3 := S3.blk 1 rfl
  refine Exists.elim (show ∃ x : Int, pl[0]? = some x ∧ 0 ≤ x from ⟨_, List.getElem?_eq_getElem (by omega), (hplv _ (List.getElem_mem (show 0 < pl.length by omega))).1⟩) fun x hx => ?_
  have g0 := hx.1
  have tb := tmod_bd (n := 200) hx.2 (by omega)
  refine Exists.elim (show ∃ n : Int, n = 20 + x.tmod 200 from ⟨_, rfl⟩) fun n hn => ?_
  have hn' : 20 + x.tmod 200 = n := hn.symm
  have nb : 20 ≤ n ∧ n ≤ 220 := by omega
  simp (disch := omega) only [go_sem, zv.1, zv.2.1, zv.2.2, P3, A3, g0, hpl, List.getElem?_map, encI, hn']
  refine S3.goProgB (splitUntil_c ts n (by omega) hbd) (.cons (S3.progSnap 2 rfl) (.cons (.int _ _) (.nil _))) fun q h4 x4 S4 z1 z2 z3 => ?_
  have S5 := S4.newK [[q]]
  have A5 := S5.blk 3 rfl
  have Q5 := S5.blk 0 rfl
  simp (disch := omega) only [go_sem, zv.1, zv.2.1, zv.2.2, z1, z2, z3, A5, Q5, splice]
  have hts : ts.length ≤ 3 := hl.2
  have lenv := fun G => (S5.lst 4 rfl).elim fun i o => o.len_ G
  simp only [List.length_map] at lenv
  refine loopP_intro (fun m s => ∃ k : Nat, k ≤ ts.length ∧ m = ts.length - k ∧ s.e 3 = .ptr h1.length 1 0 0 ∧ s.e 5 = .int .i64 n ∧ s.e 6 = .ptr h4.length 1 0 0 ∧ s.e 7 = .bool (untilB ts n) ∧ s.e 8 = .bool ((ts.take k).any (overB n)) ∧ s.e 9 = .int .i64 k ∧ s.h = h4 ++ [[[q]]]) ts.length ⟨0, by omega, by omega, by simp (disch := omega) only [go_sem, zv.1, zv.2.1, zv.2.2, z1, z2, z3, A5, Q5, splice], by simp (disch := omega) only [go_sem, zv.1, zv.2.1, zv.2.2, z1, z2, z3, A5, Q5, splice], by simp (disch := omega) only [go_sem, zv.1, zv.2.1, zv.2.2, z1, z2, z3, A5, Q5, splice], by simp (disch := omega) only [go_sem, zv.1, zv.2.1, zv.2.2, z1, z2, z3, A5, Q5, splice], by simp (disch := omega) only [go_sem, zv.1, zv.2.1, zv.2.2, z1, z2, z3, A5, Q5, splice] <;> rfl, by simp (disch := omega) only [go_sem, zv.1, zv.2.1, zv.2.2, z1, z2, z3, A5, Q5, splice] <;> rfl, rfl⟩ ?_
  rintro m e hp ⟨k, hk, rfl, e3, e5, e6, e7, e8, e9, eh⟩
  simp only at e3 e5 e6 e7 e8 e9 eh
  subst eh
  simp (disch := omega) only [go_sem, zv.1, zv.2.1, zv.2.2, z1, z2, z3, A5, Q5, e3, e5, e6, e7, e8, e9, lenv]
  refine condP_dec (fun hlt => ?_) (fun hlt => ?_)
  · have hlt' : k < ts.length := by omega
    have hany : (ts.take (k + 1)).any (overB n) = ((ts.take k).any (overB n) || overB n ts[k]) := by
      rw [List.take_succ_eq_append_getElem hlt', List.any_append]; simp
    cases hq : (ts.take k).any (overB n)
    · rw [hq] at e8
      refine Exists.elim (S5.row 4 rfl (k := k) (d := encTask ts[k]) (by simp [hlt'])) fun tid q' => Exists.elim q' fun bb q' => Exists.elim q' fun c q' => Exists.elim q' fun ix q' => ?_
      have hv := q'.1
      have hid := q'.2.1
      have hbl := q'.2.2.1
      have hc := q'.2.2.2.1
      have oc := q'.2.2.2.2
      clear q'
      rw [List.length_map] at hv hbl
      refine Exists.elim oc.task fun va q' => ?_
      have hcc := q'.1
      have oa := q'.2
      clear q' oc
      subst hcc
      have za := oa.vv
      have hbk := hbd _ (List.getElem_mem hlt')
      simp (disch := omega) only [go_sem, hv, hid, hbl, hc, za.1, za.2.1, za.2.2, z1, z2, z3, A5, Q5, e3, e5, e6, e7, e8, e9, lenv]
      refine CP.goS (bootB_c ts[k] hbk) rfl rfl (.cons (Snap.ofSnaps (OwnsL.mkTask oa).snap) (.nil _)) ?_
      simp (disch := omega) only [go_sem, hv, hid, hbl, hc, za.1, za.2.1, za.2.2, z1, z2, z3, A5, Q5, e3, e5, e6, e7, e8, e9, lenv]
      refine nextP_intro (ts.length - (k + 1)) (by omega) ⟨k + 1, by omega, rfl, by simp (disch := omega) only [go_sem, hv, hid, hbl, hc, za.1, za.2.1, za.2.2, z1, z2, z3, A5, Q5, e3, e5, e6, e7, e8, e9, lenv], by simp (disch := omega) only [go_sem, hv, hid, hbl, hc, za.1, za.2.1, za.2.2, z1, z2, z3, A5, Q5, e3, e5, e6, e7, e8, e9, lenv], by simp (disch := omega) only [go_sem, hv, hid, hbl, hc, za.1, za.2.1, za.2.2, z1, z2, z3, A5, Q5, e3, e5, e6, e7, e8, e9, lenv], by simp (disch := omega) only [go_sem, hv, hid, hbl, hc, za.1, za.2.1, za.2.2, z1, z2, z3, A5, Q5, e3, e5, e6, e7, e8, e9, lenv], by simp (disch := omega) only [go_sem, hv, hid, hbl, hc, za.1, za.2.1, za.2.2, z1, z2, z3, A5, Q5, e3, e5, e6, e7, e8, e9, lenv]; rw [hany, hq, Bool.false_or]; rfl, by simp (disch := omega) only [go_sem, hv, hid, hbl, hc, za.1, za.2.1, za.2.2, z1, z2, z3, A5, Q5, e3, e5, e6, e7, e8, e9, lenv] <;> rfl, rfl⟩
    · rw [hq] at e8
      simp (disch := omega) only [go_sem, z1, z2, z3, A5, Q5, e3, e5, e6, e7, e8, e9, lenv]
      refine nextP_intro (ts.length - (k + 1)) (by omega) ⟨k + 1, by omega, rfl, by simp (disch := omega) only [go_sem, z1, z2, z3, A5, Q5, e3, e5, e6, e7, e8, e9, lenv], by simp (disch := omega) only [go_sem, z1, z2, z3, A5, Q5, e3, e5, e6, e7, e8, e9, lenv], by simp (disch := omega) only [go_sem, z1, z2, z3, A5, Q5, e3, e5, e6, e7, e8, e9, lenv], by simp (disch := omega) only [go_sem, z1, z2, z3, A5, Q5, e3, e5, e6, e7, e8, e9, lenv], by simp (disch := omega) only [go_sem, z1, z2, z3, A5, Q5, e3, e5, e6, e7, e8, e9, lenv]; rw [hany, hq, Bool.true_or], by simp (disch := omega) only [go_sem, z1, z2, z3, A5, Q5, e3, e5, e6, e7, e8, e9, lenv] <;> rfl, rfl⟩
  have hke : k = ts.length := by omega
  subst hke
  rw [List.take_length] at e8
  clear hk hlt
  have hU := until_law (e := n) hr
  have hpq : programOk (untilM ts n) = true := (rigidM_iff.1 hU.1).1
  have hpp : programOk ts = true := (rigidM_iff.1 hr).1
  have hqf := prog_facts hpq
  have hlq := rigid_len hU.1
  have hbq : ∀ t ∈ untilM ts n, t.body.length ≤ 1048576 := fun t ht => by have := (hqf.2 t ht).1; omega
  have lenq := fun G => (S5.lst 1 rfl).elim fun i o => o.len_ G
  simp only [List.length_map] at lenq
  have crq := rigid_c (untilM ts n) (by omega) fun t ht => by have := hbq t ht; omega
  rw [hU.1] at crq
  cases ho : untilB ts n
  · rw [ho] at e7
    have hh : ts.any (overB n) = true := by have := hU.2.2.1; rw [ho, Bool.or_false] at this; exact this
    have hm : untilM ts n = ts := hU.2.2.2 (by rw [ho]; rfl)
    rw [hh] at e8
    simp (disch := omega) only [go_sem, z1, z2, z3, A5, Q5, e3, e5, e6, e7, e8, e9, lenq]
    refine loopP_intro (fun m s => m = 0 ∧ s.e 3 = .ptr h1.length 1 0 0 ∧ s.e 5 = .int .i64 n ∧ s.e 6 = .ptr h4.length 1 0 0 ∧ s.e 7 = .bool false ∧ s.e 8 = .bool true ∧ s.e 10 = .int .i64 0 ∧ s.h = h4 ++ [[[q]]]) 0 ⟨rfl, by simp (disch := omega) only [go_sem, z1, z2, z3, A5, Q5, e3, e5, e6, e7, e8, e9, lenq], by simp (disch := omega) only [go_sem, z1, z2, z3, A5, Q5, e3, e5, e6, e7, e8, e9, lenq], by simp (disch := omega) only [go_sem, z1, z2, z3, A5, Q5, e3, e5, e6, e7, e8, e9, lenq], by simp (disch := omega) only [go_sem, z1, z2, z3, A5, Q5, e3, e5, e6, e7, e8, e9, lenq], by simp (disch := omega) only [go_sem, z1, z2, z3, A5, Q5, e3, e5, e6, e7, e8, e9, lenq], by simp (disch := omega) only [go_sem, z1, z2, z3, A5, Q5, e3, e5, e6, e7, e8, e9, lenq], rfl⟩ ?_
    rintro m e hp ⟨rfl, f3, f5, f6, f7, f8, f10, eh⟩
    simp only at f3 f5 f6 f7 f8 f10 eh
    subst eh
    have hd : decide ((0 : Int) < ((untilM ts n).length : Int)) = true := decide_eq_true (by omega)
    simp (disch := omega) only [go_sem, z1, z2, z3, A5, Q5, f3, f5, f6, f7, f8, f10, lenq, hd]
    have cq : CP Tryz.prog 10 [.agg [.lst 4 ((untilM ts n).map encTask)]] (.str ⟨(progL ts).toArray⟩) [] := by
      have h := progText_c (untilM ts n) hpq
      rw [hm] at h ⊢
      exact h
    refine CP.goS crq rfl rfl (.cons (S5.progSnap 1 rfl) (.nil _)) ?_
    simp (disch := omega) only [go_sem, z1, z2, z3, A5, Q5, f3, f5, f6, f7, f8, f10, lenq, hd]
    refine CP.goS cq rfl rfl (.cons (S5.progSnap 1 rfl) (.nil _)) ?_
    simp (disch := omega) only [go_sem, z1, z2, z3, zv.1, zv.2.1, zv.2.2, A5, Q5, f3, f5, f6, f7, f8, f10, lenq, hd, eql_s]
    refine CP.goS (progText_c ts hpp) rfl rfl (.cons (S5.progSnap 4 rfl) (.nil _)) ?_
    simp (disch := omega) only [go_sem, z1, z2, z3, zv.1, zv.2.1, zv.2.2, A5, Q5, f3, f5, f6, f7, f8, f10, lenq, hd, eql_s]
  · rw [ho] at e7
    have hlt : ∀ t ∈ untilM ts n, overB n t = false := hU.2.1 ho
    refine loopP_intro (fun m s => ∃ k : Nat, k ≤ (untilM ts n).length ∧ m = (untilM ts n).length - k ∧ s.e 3 = .ptr h1.length 1 0 0 ∧ s.e 5 = .int .i64 n ∧ s.e 6 = .ptr h4.length 1 0 0 ∧ s.e 7 = .bool true ∧ s.e 8 = .bool (ts.any (overB n)) ∧ s.e 10 = .int .i64 k ∧ s.h = h4 ++ [[[q]]]) (untilM ts n).length ⟨0, by omega, by omega, by simp (disch := omega) only [go_sem, zv.1, zv.2.1, zv.2.2, z1, z2, z3, A5, Q5, e3, e5, e6, e7, e8, e9, lenv] <;> exact e3, by simp (disch := omega) only [go_sem, zv.1, zv.2.1, zv.2.2, z1, z2, z3, A5, Q5, e3, e5, e6, e7, e8, e9, lenv] <;> exact e5, by simp (disch := omega) only [go_sem, zv.1, zv.2.1, zv.2.2, z1, z2, z3, A5, Q5, e3, e5, e6, e7, e8, e9, lenv] <;> exact e6, by simp (disch := omega) only [go_sem, zv.1, zv.2.1, zv.2.2, z1, z2, z3, A5, Q5, e3, e5, e6, e7, e8, e9, lenv] <;> exact e7, by simp (disch := omega) only [go_sem, zv.1, zv.2.1, zv.2.2, z1, z2, z3, A5, Q5, e3, e5, e6, e7, e8, e9, lenv] <;> exact e8, by simp (disch := omega) only [go_sem, zv.1, zv.2.1, zv.2.2, z1, z2, z3, A5, Q5, e3, e5, e6, e7, e8, e9, lenv] <;> rfl, rfl⟩ ?_
    rintro m e hp ⟨k, hk, rfl, f3, f5, f6, f7, f8, f10, eh⟩
    simp only at f3 f5 f6 f7 f8 f10 eh
    subst eh
    by_cases hkl : k < (untilM ts n).length
    · have hd : decide ((k : Int) < ((untilM ts n).length : Int)) = true := decide_eq_true (by omega)
      refine Exists.elim (S5.row 1 rfl (k := k) (d := encTask (untilM ts n)[k]) (by simp [hkl])) fun tid q' => Exists.elim q' fun bb q' => Exists.elim q' fun c q' => Exists.elim q' fun ix q' => ?_
      have hv := q'.1
      have hid := q'.2.1
      have hbl := q'.2.2.1
      have hc := q'.2.2.2.1
      have oc := q'.2.2.2.2
      clear q'
      rw [List.length_map] at hv hbl
      refine Exists.elim oc.task fun va q' => ?_
      have hcc := q'.1
      have oa := q'.2
      clear q' oc
      subst hcc
      have za := oa.vv
      have hbk := hbq _ (List.getElem_mem hkl)
      have hno : decide (n < bootB (untilM ts n)[k]) = false := hlt _ (List.getElem_mem hkl)
      subst hv
      simp (disch := omega) only [go_sem, hid, hbl, hc, za.1, za.2.1, za.2.2, hno, z1, z2, z3, A5, Q5, f3, f5, f6, f7, f8, f10, lenq, hd]
      refine CP.goS (bootB_c (untilM ts n)[k] hbk) rfl rfl (.cons (Snap.ofSnaps (OwnsL.mkTask oa).snap) (.nil _)) ?_
      simp (disch := omega) only [go_sem, hid, hbl, hc, za.1, za.2.1, za.2.2, hno, z1, z2, z3, A5, Q5, f3, f5, f6, f7, f8, f10, lenq, hd]
      refine nextP_intro ((untilM ts n).length - (k + 1)) (by omega) ⟨k + 1, by omega, rfl, by simp (disch := omega) only [go_sem, hid, hbl, hc, za.1, za.2.1, za.2.2, hno, z1, z2, z3, A5, Q5, f3, f5, f6, f7, f8, f10, lenq, hd], by simp (disch := omega) only [go_sem, hid, hbl, hc, za.1, za.2.1, za.2.2, hno, z1, z2, z3, A5, Q5, f3, f5, f6, f7, f8, f10, lenq, hd], by simp (disch := omega) only [go_sem, hid, hbl, hc, za.1, za.2.1, za.2.2, hno, z1, z2, z3, A5, Q5, f3, f5, f6, f7, f8, f10, lenq, hd], by simp (disch := omega) only [go_sem, hid, hbl, hc, za.1, za.2.1, za.2.2, hno, z1, z2, z3, A5, Q5, f3, f5, f6, f7, f8, f10, lenq, hd], by simp (disch := omega) only [go_sem, hid, hbl, hc, za.1, za.2.1, za.2.2, hno, z1, z2, z3, A5, Q5, f3, f5, f6, f7, f8, f10, lenq, hd], by simp (disch := omega) only [go_sem, hid, hbl, hc, za.1, za.2.1, za.2.2, hno, z1, z2, z3, A5, Q5, f3, f5, f6, f7, f8, f10, lenq, hd] <;> rfl, rfl⟩
    · have hd : decide ((k : Int) < ((untilM ts n).length : Int)) = false := decide_eq_false (by omega)
      cases hh : ts.any (overB n)
      · rw [hh] at f8
        have hm : untilM ts n = ts := hU.2.2.2 (by rw [hh, Bool.and_false])
        have cq : CP Tryz.prog 10 [.agg [.lst 4 ((untilM ts n).map encTask)]] (.str ⟨(progL ts).toArray⟩) [] := by
          have h := progText_c (untilM ts n) hpq
          rw [hm] at h ⊢
          exact h
        simp (disch := omega) only [go_sem, z1, z2, z3, zv.1, zv.2.1, zv.2.2, A5, Q5, f3, f5, f6, f7, f8, f10, lenq, hd, eql_s]
        refine CP.goS crq rfl rfl (.cons (S5.progSnap 1 rfl) (.nil _)) ?_
        simp (disch := omega) only [go_sem, z1, z2, z3, zv.1, zv.2.1, zv.2.2, A5, Q5, f3, f5, f6, f7, f8, f10, lenq, hd, eql_s]
        refine CP.goS cq rfl rfl (.cons (S5.progSnap 1 rfl) (.nil _)) ?_
        simp (disch := omega) only [go_sem, z1, z2, z3, zv.1, zv.2.1, zv.2.2, A5, Q5, f3, f5, f6, f7, f8, f10, lenq, hd, eql_s]
        refine CP.goS (progText_c ts hpp) rfl rfl (.cons (S5.progSnap 4 rfl) (.nil _)) ?_
        simp (disch := omega) only [go_sem, z1, z2, z3, zv.1, zv.2.1, zv.2.2, A5, Q5, f3, f5, f6, f7, f8, f10, lenq, hd, eql_s]
      · rw [hh] at f8
        simp (disch := omega) only [go_sem, z1, z2, z3, zv.1, zv.2.1, zv.2.2, A5, Q5, f3, f5, f6, f7, f8, f10, lenq, hd, eql_s]
        refine CP.goS crq rfl rfl (.cons (S5.progSnap 1 rfl) (.nil _)) ?_
        simp (disch := omega) only [go_sem, z1, z2, z3, zv.1, zv.2.1, zv.2.2, A5, Q5, f3, f5, f6, f7, f8, f10, lenq, hd, eql_s]
end Go.Av

