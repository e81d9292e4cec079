import Derived.Test.YtjfmbdigfnablaaGreatZZDBFnBounds
import Derived.Test.YtjfmbdigfnablaaGreatAv19
import Derived.Test.YtjfmbdigfnablaaGreatAv24
import Derived.Test.YtjfmbdigfnablaaGreatAv27
namespace Go.Av
open Go.Proofs Go.RowKit
set_option linter.unusedVariables false
set_option linter.unusedSimpArgs false
set_option maxRecDepth 100000
set_option maxHeartbeats 4000000
def sat (x : Int) : Int := if x < -1000000 then -1000000 else if 1000000 < x then 1000000 else x
theorem sat_bd (x : Int) : -1000000 ≤ sat x ∧ sat x ≤ 1000000 := by unfold sat; split <;> (try split) <;> omega
theorem sat_mul (x y : Int) : -9223372036854775808 ≤ sat x * sat y ∧ sat x * sat y ≤ 9223372036854775807 := by
  have h1 := sat_bd x
  have h2 := sat_bd y
  have h3 : (sat x * sat y).natAbs ≤ 1000000 * 1000000 := by
    rw [Int.natAbs_mul]
    exact Nat.mul_le_mul (by omega) (by omega)
  omega
theorem sat_c (x : Int) : CP Tryz.prog 237 [.int .i64 x] (.int .i64 (sat x)) [] := by
  have clamp : CP Tryz.prog 234 [.int .i64 x, .int .i64 (-1000000), .int .i64 1000000] (.int .i64 (sat x)) [] := by
    refine CP.by rfl mixed (cfn_ok Tryz.func234 ok234) rfl ?_
    simp (disch := omega) only [s234, go_sem]
    refine congrArg (V.int .i64) ?_
    unfold sat; split <;> (try split) <;> omega
  refine CP.by rfl mixed (cfn_ok Tryz.func237 ok237) rfl ?_
  simp (disch := omega) only [s237, go_sem]
  refine CP.go clamp rfl rfl ?_
  simp (disch := omega) only [go_sem]
theorem sat_s (x : Int) : CP Tryz.prog 238 [.int .i64 x] (.int .i64 (sat x)) [] := by
  have clamp : CP Tryz.prog 247 [.int .i64 x, .int .i64 (-1000000), .int .i64 1000000] (.int .i64 (sat x)) [] := by
    refine CP.by rfl mixed (cfn_ok Tryz.func247 ok247) rfl ?_
    simp (disch := omega) only [s247, go_sem]
    repeat' (first | (refine condP_t (by assumption) ?_ <;> (try simp (disch := omega) only [go_sem])) | (refine condP_f (by assumption) ?_ <;> (try simp (disch := omega) only [go_sem])) | (refine condP_dec (fun h => ?_) (fun h => ?_) <;> (try simp (disch := omega) only [go_sem])) | (refine condP_split (fun h => ?_) (fun h => ?_) <;> (try simp (disch := omega) only [go_sem])))
    all_goals refine congrArg (V.int .i64) ?_
    all_goals unfold sat
    all_goals split <;> (try split) <;> omega
  refine CP.by rfl mixed (cfn_ok Tryz.func238 ok238) rfl ?_
  simp (disch := omega) only [s238, go_sem]
  refine CP.go clamp rfl rfl ?_
  simp (disch := omega) only [go_sem]
theorem add_s (x y : Int) : CP Tryz.prog 208 [.int .i64 x, .int .i64 y] (.int .i64 (sat (sat x + sat y))) [] := by
  have h1 := sat_bd x
  have h2 := sat_bd y
  refine CP.by rfl mixed (cfn_ok Tryz.func208 ok208) rfl ?_
  simp (disch := omega) only [s208, go_sem]
  refine CP.go (sat_s _) rfl rfl ?_
  simp (disch := omega) only [go_sem]
  refine CP.go (sat_s _) rfl rfl ?_
  simp (disch := omega) only [go_sem]
  refine CP.go (sat_s _) rfl rfl ?_
  simp (disch := omega) only [go_sem]
theorem sub_s (x y : Int) : CP Tryz.prog 209 [.int .i64 x, .int .i64 y] (.int .i64 (sat (sat x - sat y))) [] := by
  have h1 := sat_bd x
  have h2 := sat_bd y
  refine CP.by rfl mixed (cfn_ok Tryz.func209 ok209) rfl ?_
  simp (disch := omega) only [s209, go_sem]
  refine CP.go (sat_s _) rfl rfl ?_
  simp (disch := omega) only [go_sem]
  refine CP.go (sat_s _) rfl rfl ?_
  simp (disch := omega) only [go_sem]
  refine CP.go (sat_s _) rfl rfl ?_
  simp (disch := omega) only [go_sem]
theorem mul_s (x y : Int) : CP Tryz.prog 210 [.int .i64 x, .int .i64 y] (.int .i64 (sat (sat x * sat y))) [] := by
  have h1 := sat_mul x y
  have hw : IntKind.wrap .i64 (sat x * sat y) = sat x * sat y := wrap64 h1.1 h1.2
  refine CP.by rfl mixed (cfn_ok Tryz.func210 ok210) rfl ?_
  simp (disch := omega) only [s210, go_sem]
  refine CP.go (sat_s _) rfl rfl ?_
  simp (disch := omega) only [go_sem]
  refine CP.go (sat_s _) rfl rfl ?_
  simp (disch := omega) only [go_sem, hw]
  refine CP.go (sat_s _) rfl rfl ?_
  simp (disch := omega) only [go_sem]
theorem add_c (x y : Int) : CP Tryz.prog 197 [.int .i64 x, .int .i64 y] (.int .i64 (sat (sat x + sat y))) [] := by
  have h1 := sat_bd x
  have h2 := sat_bd y
  refine CP.by rfl mixed (cfn_ok Tryz.func197 ok197) rfl ?_
  simp (disch := omega) only [s197, go_sem]
  refine CP.go (sat_c _) rfl rfl ?_
  simp (disch := omega) only [go_sem]
  refine CP.go (sat_c _) rfl rfl ?_
  simp (disch := omega) only [go_sem]
  refine CP.go (sat_c _) rfl rfl ?_
  simp (disch := omega) only [go_sem]
theorem sub_c (x y : Int) : CP Tryz.prog 198 [.int .i64 x, .int .i64 y] (.int .i64 (sat (sat x - sat y))) [] := by
  have h1 := sat_bd x
  have h2 := sat_bd y
  refine CP.by rfl mixed (cfn_ok Tryz.func198 ok198) rfl ?_
  simp (disch := omega) only [s198, go_sem]
  refine CP.go (sat_c _) rfl rfl ?_
  simp (disch := omega) only [go_sem]
  refine CP.go (sat_c _) rfl rfl ?_
  simp (disch := omega) only [go_sem]
  refine CP.go (sat_c _) rfl rfl ?_
  simp (disch := omega) only [go_sem]
theorem mul_c (x y : Int) : CP Tryz.prog 199 [.int .i64 x, .int .i64 y] (.int .i64 (sat (sat x * sat y))) [] := by
  have h1 := sat_bd x
  have h2 := sat_bd y
  have hw : IntKind.wrap .i64 (sat x * sat y) = sat x * sat y := wrap64 (sat_mul x y).1 (sat_mul x y).2
  refine CP.by rfl mixed (cfn_ok Tryz.func199 ok199) rfl ?_
  simp (disch := omega) only [s199, go_sem]
  refine CP.go (sat_c _) rfl rfl ?_
  simp (disch := omega) only [go_sem]
  refine CP.go (sat_c _) rfl rfl ?_
  simp (disch := omega) only [go_sem, hw]
  refine CP.go (sat_c _) rfl rfl ?_
  simp (disch := omega) only [go_sem]
def bitI (b : Bool) : Int := if b = true then 1 else 0
theorem bit_c (b : Bool) : CP Tryz.prog 71 [.bool b] (.int .i64 (bitI b)) [] := by
  refine CP.by rfl mixed (cfn_ok Tryz.func71 ok71) rfl ?_
  simp (disch := omega) only [s71, go_sem]
  cases b <;> simp (disch := omega) only [go_sem] <;> rfl
theorem bit_s (b : Bool) : CP Tryz.prog 211 [.bool b] (.int .i64 (bitI b)) [] := by
  refine CP.by rfl mixed (cfn_ok Tryz.func211 ok211) rfl ?_
  simp (disch := omega) only [s211, go_sem]
  cases b <;> simp (disch := omega) only [go_sem] <;> rfl
def valOf (zs : List Int) (x : Int) : Int := if x < 0 then (zs[(-1 - x).toNat]?).getD 0 else x
theorem operand_c (zs : List Int) (x : Int) (hl : -1 - x < zs.length) (hb : -1000000 ≤ x) : CP Tryz.prog 196 [.lst 1 (zs.map encI), .int .i64 x] (.int .i64 (valOf zs x)) [] := by
  refine CP.by rfl mixed (cfn_ok Tryz.func196 ok196) rfl ?_
  simp (disch := omega) only [s196, go_sem, encI]
  refine condP_dec (fun h => ?_) (fun h => ?_)
  · have hlt : (-1 - x).toNat < zs.length := by omega
    simp (disch := omega) only [go_sem, encI]
    simp [valOf, h, hlt]
  · simp (disch := omega) only [go_sem]
    simp [valOf, h]
theorem operand_s (zs : List Int) (x : Int) (hl : -1 - x < zs.length) (hb : -1000000 ≤ x) : CP Tryz.prog 207 [.lst 1 (zs.map encI), .int .i64 x] (.int .i64 (valOf zs x)) [] := by
  refine CP.by rfl mixed (cfn_ok Tryz.func207 ok207) rfl ?_
  simp (disch := omega) only [s207, go_sem, encI]
  refine condP_dec (fun h => ?_) (fun h => ?_)
  · have hlt : (-1 - x).toNat < zs.length := by omega
    simp (disch := omega) only [go_sem, encI]
    simp [valOf, h, hlt]
  · simp (disch := omega) only [go_sem]
    simp [valOf, h]
def isValue (x : Int) : Bool := within x (-1000000) 1000000
theorem isValue_c (x : Int) : CP Tryz.prog 145 [.int .i64 x] (.bool (isValue x)) [] := by
  refine CP.by rfl mixed (cfn_ok Tryz.func145 ok145) rfl ?_
  simp (disch := omega) only [s145, go_sem]
  refine CP.go (within_c _ _ _) rfl rfl ?_
  simp (disch := omega) only [go_sem]
  rfl
theorem notValue_c (x : Int) : CP Tryz.prog 144 [.int .i64 x] (.bool (!isValue x)) [] := by
  refine CP.by rfl mixed (cfn_ok Tryz.func144 ok144) rfl ?_
  simp (disch := omega) only [s144, go_sem]
  refine CP.go (isValue_c _) rfl rfl ?_
  simp (disch := omega) only [go_sem]
def evalE (zs : List Int) (e : Expr) : Int :=
  let a := valOf zs e.a
  let b := valOf zs e.b
  if e.op = 1 then sat (sat a + sat b) else if e.op = 2 then sat (sat a - sat b) else if e.op = 3 then sat (sat a * sat b) else if e.op = 4 then min a b else if e.op = 5 then max a b else if e.op = 6 then bitI (decide (a < b)) else bitI (decide (a = b))
theorem refs_ints (n : Nat) (zs : List Int) (x : V) (hx : V.refs n x = true) : V.refsL n [.lst 1 (zs.map encI), x] = true := by
  simp [V.refsL, V.refs, refsLL_map encI (fun _ => rfl) zs, hx]
theorem eval_s (zs : List Int) (e : Expr) (ha : -1 - e.a < zs.length) (hb : -1 - e.b < zs.length) (ha' : -1000000 ≤ e.a) (hb' : -1000000 ≤ e.b) : CP Tryz.prog 169 [.lst 1 (zs.map encI), .agg (encExpr e)] (.int .i64 (evalE zs e)) [] := by
  obtain ⟨op, a, b⟩ := e
  refine CP.by rfl mixed (cfn_ok Tryz.func169 ok169) rfl ?_
  simp (disch := omega) only [s169, go_sem, encExpr]
  refine CP.go (operand_s zs a ha ha') rfl (refs_ints _ _ _ rfl) ?_
  simp (disch := omega) only [go_sem]
  refine CP.go (operand_s zs b hb hb') rfl (refs_ints _ _ _ rfl) ?_
  simp (disch := omega) only [go_sem]
  repeat' (first | (refine CP.go (add_s _ _) rfl rfl ?_ <;> (try simp (disch := omega) only [go_sem])) | (refine CP.go (sub_s _ _) rfl rfl ?_ <;> (try simp (disch := omega) only [go_sem])) | (refine CP.go (mul_s _ _) rfl rfl ?_ <;> (try simp (disch := omega) only [go_sem])) | (refine CP.go (bit_s _) rfl rfl ?_ <;> (try simp (disch := omega) only [go_sem])) | (refine condP_t (by assumption) ?_ <;> (try simp (disch := omega) only [go_sem])) | (refine condP_f (by assumption) ?_ <;> (try simp (disch := omega) only [go_sem])) | (refine condP_dec (fun h => ?_) (fun h => ?_) <;> (try simp (disch := omega) only [go_sem])) | (refine condP_split (fun h => ?_) (fun h => ?_) <;> (try simp (disch := omega) only [go_sem])))
  all_goals simp_all [evalE]
theorem index_c (zs : List Int) (hz : ∀ z ∈ zs, isValue z = true) (hl : zs.length ≤ 1048576) : CP Tryz.prog 179 [.lst 1 (zs.map encI), .fn 144 []] (.int .i64 (-1)) [] := by
  refine CP.by rfl mixed (cfn_ok Tryz.func179 ok179) rfl ?_
  simp (disch := omega) only [s179, go_sem]
  refine loopP_intro (fun m s => ∃ k : Nat, k ≤ zs.length ∧ m = zs.length - k ∧ s.e 0 = .lst 1 (zs.map encI) ∧ s.e 1 = .fn 144 [] ∧ s.e 7 = .int .i64 zs.length ∧ s.e 8 = .int .i64 k) zs.length ⟨0, by omega, by omega, rfl, rfl, by simp (disch := omega) only [go_sem], rfl⟩ ?_
  rintro m e hp ⟨k, hk, rfl, e0, e1, e7, e8⟩
  simp only at e0 e1 e7 e8
  simp (disch := omega) only [go_sem, e0, e1, e7, e8, encI]
  refine condP_dec (fun hlt => ?_) (fun hlt => ?_)
  · have hlt' : k < zs.length := by omega
    have hv := hz zs[k] (List.getElem_mem hlt')
    simp (disch := omega) only [go_sem, e0, e1, e7, e8, encI]
    refine CP.go (notValue_c zs[k]) rfl rfl ?_
    simp (disch := omega) only [go_sem, hv, e0, e1, e7, e8, encI]
    refine nextP_intro (zs.length - (k + 1)) (by omega) ⟨k + 1, by omega, rfl, ?_, ?_, ?_, ?_⟩
    · simp (disch := omega) only [go_sem, e0, e1, e7, e8, encI]
    · simp (disch := omega) only [go_sem, e0, e1, e7, e8, encI]
    · simp (disch := omega) only [go_sem, e0, e1, e7, e8, encI]
    · simp (disch := omega) only [go_sem, e0, e1, e7, e8, encI]; rfl
  · simp (disch := omega) only [go_sem, e0, e1, e7, e8, encI]
theorem varsOk_c (zs : List Int) (hz : ∀ z ∈ zs, isValue z = true) (hl : zs.length = 8) : CP Tryz.prog 84 [.lst 1 (zs.map encI)] (.bool true) [] := by
  have cont : CP Tryz.prog 112 [.lst 1 (zs.map encI), .fn 144 []] (.bool false) [] := by
    refine CP.by rfl mixed (cfn_ok Tryz.func112 ok112) rfl ?_
    simp (disch := omega) only [s112, go_sem]
    refine CP.go (index_c zs hz (by omega)) rfl (refs_ints _ _ _ rfl) ?_
    simp (disch := omega) only [go_sem]
  have are : CP Tryz.prog 85 [.lst 1 (zs.map encI)] (.bool true) [] := by
    refine CP.by rfl mixed (cfn_ok Tryz.func85 ok85) rfl ?_
    simp (disch := omega) only [s85, go_sem]
    refine CP.go cont rfl (refs_ints _ _ _ rfl) ?_
    simp (disch := omega) only [go_sem]
  refine CP.by rfl mixed (cfn_ok Tryz.func84 ok84) rfl ?_
  simp (disch := omega) only [s84, go_sem, hl]
  refine CP.go are rfl (by simp [V.refsL, V.refs, refsLL_map encI (fun _ => rfl) zs]) ?_
  simp (disch := omega) only [go_sem]
theorem eval_c (zs : List Int) (e : Expr) (hz : ∀ z ∈ zs, isValue z = true) (hl : zs.length = 8) (he : exprOk e = true) : CP Tryz.prog 141 [.lst 1 (zs.map encI), .agg (encExpr e)] (.int .i64 (evalE zs e)) [] := by
  obtain ⟨h1, h2, h3⟩ := exprOk_facts he
  obtain ⟨op, a, b⟩ := e
  simp only at h1 h2 h3
  refine CP.by rfl mixed (cfn_ok Tryz.func141 ok141) rfl ?_
  simp (disch := omega) only [s141, go_sem, encExpr]
  refine CP.go (varsOk_c zs hz hl) rfl (by simp [V.refsL, V.refs, refsLL_map encI (fun _ => rfl) zs]) ?_
  simp (disch := omega) only [go_sem]
  refine CP.go (exprOk_c ⟨op, a, b⟩) rfl rfl ?_
  simp (disch := omega) only [go_sem, he]
  refine CP.go (operand_c zs a (by omega) (by omega)) rfl (refs_ints _ _ _ rfl) ?_
  simp (disch := omega) only [go_sem]
  refine CP.go (operand_c zs b (by omega) (by omega)) rfl (refs_ints _ _ _ rfl) ?_
  simp (disch := omega) only [go_sem]
  repeat' (first | (refine CP.go (add_c _ _) rfl rfl ?_ <;> (try simp (disch := omega) only [go_sem])) | (refine CP.go (sub_c _ _) rfl rfl ?_ <;> (try simp (disch := omega) only [go_sem])) | (refine CP.go (mul_c _ _) rfl rfl ?_ <;> (try simp (disch := omega) only [go_sem])) | (refine CP.go (bit_c _) rfl rfl ?_ <;> (try simp (disch := omega) only [go_sem])) | (refine condP_t (by assumption) ?_ <;> (try simp (disch := omega) only [go_sem])) | (refine condP_f (by assumption) ?_ <;> (try simp (disch := omega) only [go_sem])) | (refine condP_dec (fun h => ?_) (fun h => ?_) <;> (try simp (disch := omega) only [go_sem])) | (refine condP_split (fun h => ?_) (fun h => ?_) <;> (try simp (disch := omega) only [go_sem])))
  all_goals simp_all [evalE]
end Go.Av

namespace Go.Av
open Go.Proofs Go.RowKit
set_option linter.unusedVariables false
set_option linter.unusedSimpArgs false
set_option maxRecDepth 100000
set_option maxHeartbeats 4000000
structure Task where
  body : List Stmt
  next : Expr
def encTask (t : Task) : List V := [.lst 6 (t.body.map encStmt), .int .i64 t.next.op, .int .i64 t.next.a, .int .i64 t.next.b]
theorem refs_task (n : Nat) (t : Task) : V.refsL n (encTask t) = true := by simp [encTask, V.refsL, V.refs, refsLL_map encStmt (refs_stmt n) t.body]
def taskOk (t : Task) : Bool := blockOk t.body && exprOk t.next
theorem refs_task1 (n : Nat) (t : Task) : V.refsL n [.agg (encTask t)] = true := by simp [V.refsL, V.refs, refs_task]
theorem taskOk_c (t : Task) (hb : t.body.length ≤ 9223372036854775807) : CP Tryz.prog 93 [.agg (encTask t)] (.bool (taskOk t)) [] := by
  obtain ⟨body, ⟨op, a, b⟩⟩ := t
  refine CP.by rfl mixed (cfn_ok Tryz.func93 ok93) rfl ?_
  simp (disch := omega) only [s93, go_sem, encTask]
  refine CP.go (blockOk_c body hb) rfl (refs_arg _ _) ?_
  simp (disch := omega) only [go_sem]
  repeat' (first | (refine CP.go (exprOk_c ⟨op, a, b⟩) rfl rfl ?_ <;> (try simp (disch := omega) only [go_sem])) | (refine condP_t (by assumption) ?_ <;> (try simp (disch := omega) only [go_sem])) | (refine condP_f (by assumption) ?_ <;> (try simp (disch := omega) only [go_sem])) | (refine condP_dec (fun h => ?_) (fun h => ?_) <;> (try simp (disch := omega) only [go_sem])) | (refine condP_split (fun h => ?_) (fun h => ?_) <;> (try simp (disch := omega) only [go_sem])))
  all_goals simp_all [taskOk]
theorem notTaskOk_c (t : Task) (hb : t.body.length ≤ 9223372036854775807) : CP Tryz.prog 131 [.agg (encTask t)] (.bool (!taskOk t)) [] := by
  refine CP.by rfl mixed (cfn_ok Tryz.func131 ok131) rfl ?_
  simp (disch := omega) only [s131, go_sem, encTask]
  refine CP.go (taskOk_c t hb) rfl (refs_task1 _ _) ?_
  simp (disch := omega) only [go_sem]
theorem indexTask_c (g : Nat) (p : Task → Bool) (zs : List Task) (hg : ∀ z ∈ zs, CP Tryz.prog g [.agg (encTask z)] (.bool (p z)) []) (hl : zs.length ≤ 9223372036854775807) : CP Tryz.prog 118 [.lst 4 (zs.map encTask), .fn g []] (.int .i64 (idxI p zs)) [] := by
  refine CP.by rfl mixed (cfn_ok Tryz.func118 ok118) rfl ?_
  simp (disch := omega) only [s118, go_sem]
  refine loopP_intro (fun m s => ∃ k : Nat, k ≤ zs.length ∧ m = zs.length - k ∧ s.e 0 = .lst 4 (zs.map encTask) ∧ s.e 1 = .fn g [] ∧ s.e 7 = .int .i64 zs.length ∧ s.e 8 = .int .i64 k ∧ ∀ j (hj : j < zs.length), j < k → p zs[j] = false) zs.length ⟨0, by omega, by omega, rfl, rfl, by simp (disch := omega) only [go_sem], rfl, fun j _ h => absurd h (by omega)⟩ ?_
  rintro m e hp ⟨k, hk, rfl, e0, e1, e7, e8, hall⟩
  simp only at e0 e1 e7 e8
  simp (disch := omega) only [go_sem, e0, e1, e7, e8, encTask]
  refine condP_dec (fun hlt => ?_) (fun hlt => ?_)
  · have hlt' : k < zs.length := by omega
    simp (disch := omega) only [go_sem, e0, e1, e7, e8, encTask]
    refine CP.go (hg zs[k] (List.getElem_mem hlt')) rfl (refs_task1 _ zs[k]) ?_
    simp (disch := omega) only [go_sem, e0, e1, e7, e8, encTask]
    refine condP_split (fun h => ?_) (fun h => ?_)
    · simp (disch := omega) only [go_sem, e0, e1, e7, e8, encTask]
      rw [idxI_found hlt' h hall]
    · simp (disch := omega) only [go_sem, e0, e1, e7, e8, encTask]
      refine nextP_intro (zs.length - (k + 1)) (by omega) ⟨k + 1, by omega, rfl, ?_, ?_, ?_, ?_, fun j hj hjk => ?_⟩
      · simp (disch := omega) only [go_sem, e0, e1, e7, e8, encTask]
      · simp (disch := omega) only [go_sem, e0, e1, e7, e8, encTask]
      · simp (disch := omega) only [go_sem, e0, e1, e7, e8, encTask]
      · simp (disch := omega) only [go_sem, e0, e1, e7, e8, encTask]; rfl
      · by_cases e : j = k
        · subst e; exact h
        · exact hall j hj (by omega)
  · simp (disch := omega) only [go_sem, e0, e1, e7, e8, encTask]
    rw [idxI_none (fun j hj => hall j hj (by omega))]
theorem containsTask_c (g : Nat) (p : Task → Bool) (zs : List Task) (hg : ∀ z ∈ zs, CP Tryz.prog g [.agg (encTask z)] (.bool (p z)) []) (hl : zs.length ≤ 9223372036854775807) (hr : V.refsL 0 [.lst 4 (zs.map encTask), .fn g []] = true) : CP Tryz.prog 69 [.lst 4 (zs.map encTask), .fn g []] (.bool (zs.any p)) [] := by
  refine CP.by rfl mixed (cfn_ok Tryz.func69 ok69) rfl ?_
  simp (disch := omega) only [s69, go_sem]
  refine CP.go (indexTask_c g p zs hg hl) rfl hr ?_
  simp (disch := omega) only [go_sem, idxI_ge]
theorem first_c (t : Tr) (xs : List Stmt) (e : Expr) (ht : t.ok = true) (hf : xs = t.flat) (hb : blockOk xs = true) (he : exprOk e = true) : Pt Tryz.prog 162 [.agg [.lst 6 (xs.map encStmt), .int .i64 e.op, .int .i64 e.a, .int .i64 e.b]] (firstT t e) := by
  have hl := block_len hb
  have hk : taskOk ⟨xs, e⟩ = true := by simp [taskOk, hb, he]
  refine C.by mixed (cfn_ok Tryz.func162 ok162) rfl ?_
  simp (disch := omega) only [s162, go_sem]
  refine CP.go (taskOk_c ⟨xs, e⟩ (by simp only; omega)) rfl (refs_task1 _ ⟨xs, e⟩) ?_
  simp (disch := omega) only [go_sem, hk]
  have S0 : Sep [[[V.lst 6 (xs.map encStmt), .int .i64 e.op, .int .i64 e.a, .int .i64 e.b]], [rowR zero8 zero8]] [.k 1 [rowR zero8 zero8], .k 0 [[V.lst 6 (xs.map encStmt), .int .i64 e.op, .int .i64 e.a, .int .i64 e.b]]] := ⟨[1, 0], by simp, [1], [0], rfl, ⟨rfl, rfl⟩, [0], [], rfl, ⟨rfl, rfl⟩, rfl⟩
  refine C.go (passC_c t xs 1 zero8 zero8 _ _ ht hf hl rfl rfl S0) ?_
  rintro r h1 ⟨rfl, S1⟩
  have hb0 := S1.blk 1 rfl
  have hpl := passT_len t zero8 zero8
  have h8 : zero8.length = 8 := rfl
  simp (disch := omega) only [go_sem, hb0]
  refine C.go (read_c 1 _ _ e (by omega) (by omega) he S1) ?_
  rintro r h2 ⟨rfl, S2⟩
  have hW : (passT t (zero8, zero8)).1.length = 8 := by omega
  have hnl : (noteE (passT t (zero8, zero8)).1 (passT t (zero8, zero8)).2 e).length = 8 := by rw [noteE_len]; omega
  have hlist : firstT t e = listB (noteE (passT t (zero8, zero8)).1 (passT t (zero8, zero8)).2 e) := rfl
  rw [hlist]
  generalize noteE (passT t (zero8, zero8)).1 (passT t (zero8, zero8)).2 e = F at S2 hnl ⊢
  generalize (passT t (zero8, zero8)).1 = W at S2 hW
  have hb1 := heap_app (h' := [[]]) (S2.blk 0 rfl)
  have hdF := rowR_dropF (F := F) hW
  have hFl : (F.map V.bool).length = 8 := by simpa using hnl
  have htk : (F.map V.bool).take 8 = F.map V.bool := List.take_of_length_le (by omega)
  simp (disch := omega) only [go_sem, hb1, hdF, hFl, htk]
  refine loopP_intro (fun m s => ∃ (k l : Nat), k ≤ 8 ∧ m = 8 - k ∧ s.e 4 = .own l 1 0 (accB F k).length (accB F k).length ∧ s.e 24 = .agg (F.map V.bool) ∧ s.e 25 = .int .i64 k ∧ Sep s.h [.k l ((accB F k).map encI)]) 8 ⟨0, h2.length, by omega, by omega, by simp (disch := omega) only [go_sem, hb1, hdF, hFl, htk]; rfl, by simp (disch := omega) only [go_sem, hb1, hdF, hFl, htk], by simp (disch := omega) only [go_sem, hb1, hdF, hFl, htk]; rfl, (Sep.nil _).newK _⟩ ?_
  rintro m e' hp ⟨k, l, hk2, rfl, e4, e24, e25, S⟩
  simp only at e4 e24 e25 S
  simp (disch := omega) only [go_sem, e4, e24, e25]
  refine condP_dec (fun hlt => ?_) (fun hlt => ?_)
  · have hrd : rdc false 1 ((F.map V.bool).drop k) = some (.bool (bitB F k)) := by
      rw [List.drop_eq_getElem_cons (by omega), rdc_one]
      have : k < F.length := by omega
      simp [bitB, this]
    have hin : 0 ≤ (k : Int) ∧ (k : Int) < ((8 : Nat) : Int) := by omega
    have hcl := accB_len F k
    have ha := append1 (sz := 1) (bytes := 8) (c := encI k) (S.blk 0 rfl) (n := (accB F k).length) (by simp) (by omega)
    simp only [encI] at ha
    have hnx := accB_succ F k
    simp (disch := omega) only [go_sem, e4, e24, e25, hrd, hin, ha, encI, Nat.mul_one]
    refine condP_split (fun hk => ?_) (fun hk => ?_)
    · rw [if_pos hk] at hnx
      have hl1 : (accB F (k + 1)).length = (accB F k).length + 1 := by rw [hnx]; simp
      simp (disch := omega) only [go_sem, e4, e24, e25, hrd, hin, ha, encI, Nat.mul_one]
      refine nextP_intro (8 - (k + 1)) (by omega) ⟨k + 1, l, by omega, rfl, ?_, by simp (disch := omega) only [go_sem, e4, e24, e25, hrd, hin, ha, encI, Nat.mul_one], by simp (disch := omega) only [go_sem, e4, e24, e25, hrd, hin, ha, encI, Nat.mul_one]; rfl, ?_⟩
      · rw [hl1]; simp (disch := omega) only [go_sem, e4, e24, e25, hrd, hin, ha, encI, Nat.mul_one]
      · have := (S.app [[encI k]]).setK ((accB F k).map encI ++ [encI k])
        rw [hnx, List.map_append]
        exact this
    · rw [if_neg (by simp [hk]), List.append_nil] at hnx
      simp (disch := omega) only [go_sem, e4, e24, e25, hrd, hin, ha, encI, Nat.mul_one]
      refine nextP_intro (8 - (k + 1)) (by omega) ⟨k + 1, l, by omega, rfl, ?_, by simp (disch := omega) only [go_sem, e4, e24, e25, hrd, hin, ha, encI, Nat.mul_one], by simp (disch := omega) only [go_sem, e4, e24, e25, hrd, hin, ha, encI, Nat.mul_one]; rfl, ?_⟩
      · rw [hnx]; simp (disch := omega) only [go_sem, e4, e24, e25, hrd, hin, ha, encI, Nat.mul_one]
      · rw [hnx]; exact S
  · have hk8 : k = 8 := by omega
    subst hk8
    simp (disch := omega) only [go_sem, e4, e24, e25]
    have hfl : (accB F 8).map encI = (listB F).map encI := rfl
    exact (S.toP (zs := listB F) (n := (accB F 8).length) (by simp) (Nat.le_refl _) (by rw [hfl, List.take_of_length_le (by simp)]) (rows1_ints _)).pret
end Go.Av

namespace Go.Av
open Go.Proofs Go.RowKit
set_option linter.unusedVariables false
set_option linter.unusedSimpArgs false
set_option maxRecDepth 100000
set_option maxHeartbeats 4000000
theorem Sep.offK {h h' : Heap} {id : Nat} {b : Blk} {L : List It} (S : Sep h (.k id b :: L)) (off : ∀ j, j ≠ id → h'[j]? = h[j]?) : Sep h' L := by
  obtain ⟨ids, n, i, j, rfl, ⟨rfl, e⟩, s⟩ := S
  have n' := List.nodup_append.1 n
  exact ⟨j, n'.2.1, s.keep fun a ha => off a (fun q => n'.2.2 id (by simp) a ha q.symm)⟩
theorem rows1_of {b : Blk} (hf : flat b = true) (he : ∀ e ∈ b, e.length = 1) : rows1 b = true := by
  simp only [rows1, flat, List.all_eq_true, Bool.and_eq_true, decide_eq_true_eq] at *
  exact fun e h => ⟨he e h, hf e h⟩
theorem deleteN_c {h : Heap} (g : Nat) (caps : List V) : C Tryz.prog 164 [.nils, .fn g caps] h (fun r h' => r = .nils ∧ h' = h) := by
  have ix : C Tryz.prog 179 [.nils, .fn g caps] h (fun r h' => r = .int .i64 (-1) ∧ h' = h) := by
    refine C.by mixed (cfn_ok Tryz.func179 ok179) rfl ?_
    simp (disch := omega) only [s179, go_sem]
    refine loopP_intro (fun m s => s.e 7 = .int .i64 0 ∧ s.e 8 = .int .i64 0 ∧ s.h = h) 0 ⟨by simp (disch := omega) only [go_sem], by simp (disch := omega) only [go_sem], rfl⟩ ?_
    rintro m e hp ⟨e7, e8, rfl⟩
    simp only at e7 e8
    simp (disch := omega) only [go_sem, e7, e8]
  refine C.by mixed (cfn_ok Tryz.func164 ok164) rfl ?_
  simp (disch := omega) only [s164, go_sem]
  refine C.go ix ?_
  rintro r h' ⟨rfl, rfl⟩
  simp (disch := omega) only [go_sem]
def noLog (t : Tr) (e : Expr) (k : Int) : Bool := !decide (k ∈ firstT t e) && decide (k ∈ mustT t)
def logT (t : Tr) (e : Expr) : List Int := (mayL t.flat).filter fun k => !noLog t e k
theorem log_len (t : Tr) (e : Expr) : (logT t e).length ≤ 8 := by
  have := List.length_filter_le (fun k => !noLog t e k) (mayL t.flat)
  have := canon_len fun k => decide ((k : Int) ∈ vars t.flat)
  unfold logT mayL at *
  omega
theorem first_len (t : Tr) (e : Expr) : (firstT t e).length ≤ 8 := canon_len _
theorem mustT_len (t : Tr) : (mustT t).length ≤ 8 := canon_len _
theorem may_len (xs : List Stmt) : (mayL xs).length ≤ 8 := canon_len _
theorem noLog_c {h : Heap} {L : List It} (t : Tr) (e : Expr) (i1 i2 : Nat) (r1 r2 : V) (k : Int) (S : Sep h (.k i2 [[r2]] :: .k i1 [[r1]] :: .p (mustT t) r2 :: .p (firstT t e) r1 :: L)) : C Tryz.prog 166 [.int .i64 k, .ptr i1 1 0 0, .ptr i2 1 0 0] h (fun r h' => r = .bool (noLog t e k) ∧ h' = h) := by
  have b1 := S.blk 1 rfl
  have b2 := S.blk 0 rfl
  have z1 := (S.pvv 3 rfl).1.2.1
  have z2 := (S.pvv 2 rfl).1.2.1
  have l1 := first_len t e
  have l2 := mustT_len t
  refine C.by mixed (cfn_ok Tryz.func166 ok166) rfl ?_
  simp (disch := omega) only [s166, go_sem, b1, b2, z1, z2]
  refine CP.goS (hasVar_c' (firstT t e) k (by omega)) rfl rfl (.cons (S.psnap 3 rfl) (.cons (.int _ _) (.nil _))) ?_
  simp (disch := omega) only [go_sem, b1, b2, z1, z2]
  refine condP_dec (fun h1 => ?_) (fun h1 => ?_)
  · simp (disch := omega) only [go_sem, b1, b2, z1, z2]
    simp [noLog, h1]
  · simp (disch := omega) only [go_sem, b1, b2, z1, z2]
    refine CP.goS (hasVar_c' (mustT t) k (by omega)) rfl rfl (.cons (S.psnap 2 rfl) (.cons (.int _ _) (.nil _))) ?_
    simp (disch := omega) only [go_sem, b1, b2, z1, z2]
    simp [noLog, h1]
theorem log_c (t : Tr) (xs : List Stmt) (e : Expr) (ht : t.ok = true) (hf : xs = t.flat) (hb : blockOk xs = true) (he : exprOk e = true) : Pt Tryz.prog 95 [.agg [.lst 6 (xs.map encStmt), .int .i64 e.op, .int .i64 e.a, .int .i64 e.b]] (logT t e) := by
  have hl := block_len hb
  have hk : taskOk ⟨xs, e⟩ = true := by simp [taskOk, hb, he]
  refine C.by mixed (cfn_ok Tryz.func95 ok95) rfl ?_
  simp (disch := omega) only [s95, go_sem]
  refine CP.go (taskOk_c ⟨xs, e⟩ (by simp only; omega)) rfl (refs_task1 _ ⟨xs, e⟩) ?_
  simp (disch := omega) only [go_sem, hk]
  have S0 : Sep [[[V.lst 6 (xs.map encStmt), .int .i64 e.op, .int .i64 e.a, .int .i64 e.b]]] [.k 0 [[V.lst 6 (xs.map encStmt), .int .i64 e.op, .int .i64 e.a, .int .i64 e.b]]] := ⟨[0], by simp, [0], [], rfl, ⟨rfl, rfl⟩, rfl⟩
  refine S0.goPt (first_c t xs e ht hf hb he) (.same (refs_task1 _ ⟨xs, e⟩)) fun r1 h1 X1 S1 r1o r1n r1c r1l => ?_
  have b1 := S1.blk 1 rfl
  simp (disch := omega) only [go_sem, b1, r1n]
  refine S1.goPt (must_c xs t ht hf hb) (.same (refs_arg _ _)) fun r2 h2 X2 S2 r2o r2n r2c r2l => ?_
  have b2 := S2.blk 2 rfl
  have b2' := fun t => heap_app (h' := t) b2
  have b3' : ∀ t, (h2 ++ t)[0]? = some [[V.lst 6 (xs.map encStmt), .int .i64 e.op, .int .i64 e.a, .int .i64 e.b]] := fun t => heap_app b2
  have S3 := (S2.newK [[r1]]).newK [[r2]]
  have e3 : (h2 ++ [[[r1]]] ++ [[[r2]]]) = h2 ++ [[[r1]], [[r2]]] := by simp
  have e4 : (h2 ++ [[[r1]]]).length = h2.length + 1 := by simp
  rw [e3, e4] at S3
  simp (disch := omega) only [go_sem, r1n, r2n, r1o, r2o, r1c, r2c, storeH, storeB, splice, b3']
  refine S3.goPt (may_c xs hb) (.same (refs_arg _ _)) fun r4 h4 X4 S4 r4o r4n r4c r4l => ?_
  simp (disch := omega) only [go_sem, r4n]
  have S5 : Sep h4 (.p (mayL xs) r4 :: .k (h2.length + 1) [[r2]] :: .k h2.length [[r1]] :: .p (mustT t) r2 :: .p (firstT t e) r1 :: [.k 0 [[V.lst 6 (xs.map encStmt), .int .i64 e.op, .int .i64 e.a, .int .i64 e.b]]]) := S4
  have hlog : logT t e = (mayL xs).filter fun k => !noLog t e k := by rw [logT, hf]
  rw [hlog]
  have hml := may_len xs
  refine Exists.elim S5.pret fun i5 o5 => ?_
  obtain ⟨ids, nd, i, j, e1, o, s⟩ := S5
  rcases o with ⟨rfl, ez, rfl⟩ | ⟨id, n, b, rfl, q2, q3, q4, q5, q6, rfl⟩
  · refine C.go (deleteN_c _ _) ?_
    rintro r h' ⟨rfl, rfl⟩
    simp (disch := omega) only [go_sem, r4n]
    rw [ez]
    exact ⟨[], .inl ⟨rfl, rfl, rfl⟩⟩
  · have S6 : Sep h4 (.k id b :: .k (h2.length + 1) [[r2]] :: .k h2.length [[r1]] :: .p (mustT t) r2 :: .p (firstT t e) r1 :: [.k 0 [[V.lst 6 (xs.map encStmt), .int .i64 e.op, .int .i64 e.a, .int .i64 e.b]]]) := ⟨ids, nd, [id], j, e1, ⟨rfl, q2⟩, s⟩
    have H : Hd h4 id n b (mayL xs) := ⟨q2, q3, q4, q5, rows1_flat q6, rows1_len q6⟩
    refine C.go (deleteF_c 166 [.ptr h2.length 1 0 0, .ptr (h2.length + 1) 1 0 0] (noLog t e) H (by omega) rfl (fun z _ h' off => noLog_c t e h2.length (h2.length + 1) r1 r2 z (S6.offK off))) ?_
    rintro r h' ⟨b', rfl, rfl, H'⟩
    simp (disch := omega) only [go_sem, r4n]
    exact ⟨[id], .inr ⟨id, n, b', rfl, H'.hb, H'.hn, H'.hz, H'.ht, rows1_of H'.hf H'.he, rfl⟩⟩
theorem Sep.ownAt {h : Heap} {L : List It} (S : Sep h L) (n : Nat) {zs : List Int} {r : V} (e : L[n]? = some (.v (.lst 1 (zs.map encI)) r)) {k : Nat} (hk : k < zs.length) : ∃ q, r = .own q 1 0 zs.length zs.length ∧ h[q]? = some (zs.map encI) := by
  obtain ⟨i, o⟩ := S.lst n e
  rcases (Owns.flat_ (flat_encI zs)).1 o with ⟨_, e, _⟩ | ⟨q, e1, e2, _⟩
  · have : zs = [] := by simpa using e
    subst this; simp at hk
  · exact ⟨q, by rw [e1, List.length_map], e2⟩
theorem taskOk_s (t : Task) (hb : t.body.length ≤ 9223372036854775807) : CP Tryz.prog 175 [.agg (encTask t)] (.bool (taskOk t)) [] := by
  obtain ⟨body, ⟨op, a, b⟩⟩ := t
  refine CP.by rfl mixed (cfn_ok Tryz.func175 ok175) rfl ?_
  simp (disch := omega) only [s175, go_sem, encTask]
  refine CP.go (blockOk_s body hb) rfl (refs_arg _ _) ?_
  simp (disch := omega) only [go_sem]
  repeat' (first | (refine CP.go (exprOk_s ⟨op, a, b⟩) rfl rfl ?_ <;> (try simp (disch := omega) only [go_sem])) | (refine condP_t (by assumption) ?_ <;> (try simp (disch := omega) only [go_sem])) | (refine condP_f (by assumption) ?_ <;> (try simp (disch := omega) only [go_sem])) | (refine condP_dec (fun h => ?_) (fun h => ?_) <;> (try simp (disch := omega) only [go_sem])) | (refine condP_split (fun h => ?_) (fun h => ?_) <;> (try simp (disch := omega) only [go_sem])))
  all_goals simp_all [taskOk]
def logAcc (t : Tr) (e : Expr) (k : Nat) : List Int := ((mayL t.flat).take k).filter fun k => !noLog t e k
theorem logAcc_succ (t : Tr) (e : Expr) {k : Nat} (h : k < (mayL t.flat).length) : logAcc t e (k + 1) = logAcc t e k ++ (if (!noLog t e (gtI (mayL t.flat) k)) = true then [gtI (mayL t.flat) k] else []) := filter_take h
theorem logAcc_len (t : Tr) (e : Expr) (k : Nat) : (logAcc t e k).length ≤ 8 := by
  have := List.length_filter_le (fun k => !noLog t e k) ((mayL t.flat).take k)
  have := may_len t.flat
  simp only [List.length_take] at *
  unfold logAcc
  omega
theorem log_s (t : Tr) (xs : List Stmt) (e : Expr) (ht : t.ok = true) (hf : xs = t.flat) (hb : blockOk xs = true) (he : exprOk e = true) : F Tryz.prog 178 [.agg [.lst 6 (xs.map encStmt), .int .i64 e.op, .int .i64 e.a, .int .i64 e.b]] (.lst 1 ((logT t e).map encI)) := by
  have hl := block_len hb
  have hk : taskOk ⟨xs, e⟩ = true := by simp [taskOk, hb, he]
  refine C.by mixed (cfn_ok Tryz.func178 ok178) rfl ?_
  simp (disch := omega) only [s178, go_sem]
  refine CP.go (taskOk_s ⟨xs, e⟩ (by simp only; omega)) rfl (refs_task1 _ ⟨xs, e⟩) ?_
  simp (disch := omega) only [go_sem, hk]
  have S0 : Sep [[[V.lst 6 (xs.map encStmt), .int .i64 e.op, .int .i64 e.a, .int .i64 e.b]], []] [.k 1 [], .k 0 [[V.lst 6 (xs.map encStmt), .int .i64 e.op, .int .i64 e.a, .int .i64 e.b]]] := ⟨[1, 0], by simp, [1], [0], rfl, ⟨rfl, rfl⟩, [0], [], rfl, ⟨rfl, rfl⟩, rfl⟩
  refine S0.goLst (may_s xs hb) (.same (refs_arg _ _)) fun r1 h1 X1 S1 r1o r1n r1c => ?_
  have b1 := S1.blk 2 rfl
  simp (disch := omega) only [go_sem, b1, r1n]
  refine S1.goLst (must_s xs t ht hf hb) (.same (refs_arg _ _)) fun r2 h2 X2 S2 r2o r2n r2c => ?_
  have b2 := S2.blk 3 rfl
  simp (disch := omega) only [go_sem, b2, r1n, r2n]
  refine S2.goLst (first_s t xs e ht hf hb he) (.same (refs_task1 _ ⟨xs, e⟩)) fun r3 h3 X3 S3 r3o r3n r3c => ?_
  have hml := may_len xs
  have l1 := first_len t e
  have l2 := mustT_len t
  obtain ⟨i1, o1⟩ := S3.lst 2 rfl
  have len1 := fun G => o1.len_ G
  simp only [List.length_map] at len1
  simp (disch := omega) only [go_sem, r1n, r2n, r3n]
  refine loopP_intro (fun m s => ∃ (k l : Nat), k ≤ (mayL xs).length ∧ m = (mayL xs).length - k ∧ s.e 3 = .own l 1 0 (logAcc t e k).length (logAcc t e k).length ∧ s.e 4 = r1 ∧ s.e 5 = r2 ∧ s.e 6 = r3 ∧ s.e 7 = .int .i64 k ∧ Sep s.h [.k l ((logAcc t e k).map encI), .v (.lst 1 ((firstT t e).map encI)) r3, .v (.lst 1 ((mustT t).map encI)) r2, .v (.lst 1 ((mayL xs).map encI)) r1]) (mayL xs).length ⟨0, 1, by omega, by omega, by simp (disch := omega) only [go_sem, r1n, r2n, r3n]; rfl, by simp (disch := omega) only [go_sem, r1n, r2n, r3n], by simp (disch := omega) only [go_sem, r1n, r2n, r3n], by simp (disch := omega) only [go_sem, r1n, r2n, r3n], by simp (disch := omega) only [go_sem, r1n, r2n, r3n]; rfl, S3.pick [3, 0, 1, 2] (by decide)⟩ ?_
  rintro m e' hp ⟨k, l, hk2, rfl, e3, e4, e5, e6, e7, S⟩
  simp only at e3 e4 e5 e6 e7 S
  simp (disch := omega) only [go_sem, e3, e4, e5, e6, e7, r1n, r2n, r3n, len1]
  refine condP_dec (fun hlt => ?_) (fun hlt => ?_)
  · have hlt' : k < (mayL xs).length := by omega
    have hlt'' : k < (mayL t.flat).length := by rw [← hf]; exact hlt'
    have hnx := logAcc_succ t e hlt''
    rw [← hf] at hnx
    refine Exists.elim (S.ownAt 3 rfl hlt') fun q z => ?_
    have z1 := z.1
    have hq := z.2
    clear z
    subst z1
    have hgk := gtI_some hlt'
    have hcl := logAcc_len t e k
    have ha := append1 (sz := 1) (bytes := 8) (c := encI (gtI (mayL xs) k)) (S.blk 0 rfl) (n := (logAcc t e k).length) (by simp) (by omega)
    simp only [encI] at ha
    have fin : ∀ (e2 : Nat → V), noLog t e (gtI (mayL xs) k) = false → e2 3 = .own l 1 0 ((logAcc t e k).length + 1) ((logAcc t e k).length + 1) → e2 4 = .own q 1 0 (mayL xs).length (mayL xs).length → e2 5 = r2 → e2 6 = r3 → e2 7 = .int .i64 ((k : Int) + 1) → @nextP ((mayL xs).length - k) ⟨e2, List.set (hp ++ [[[V.int .i64 (gtI (mayL xs) k)]]]) l ((logAcc t e k).map encI ++ [[V.int .i64 (gtI (mayL xs) k)]])⟩ ⟨fun m s => ∃ (k l : Nat), k ≤ (mayL xs).length ∧ m = (mayL xs).length - k ∧ s.e 3 = .own l 1 0 (logAcc t e k).length (logAcc t e k).length ∧ s.e 4 = .own q 1 0 (mayL xs).length (mayL xs).length ∧ s.e 5 = r2 ∧ s.e 6 = r3 ∧ s.e 7 = .int .i64 k ∧ Sep s.h [.k l ((logAcc t e k).map encI), .v (.lst 1 ((firstT t e).map encI)) r3, .v (.lst 1 ((mustT t).map encI)) r2, .v (.lst 1 ((mayL xs).map encI)) (.own q 1 0 (mayL xs).length (mayL xs).length)]⟩ := fun e2 hn a1 a2 a3 a4 a5 => by
      rw [if_pos (by simp [hn])] at hnx
      refine nextP_intro ((mayL xs).length - (k + 1)) (by omega) ⟨k + 1, l, by omega, rfl, ?_, a2, a3, a4, a5, ?_⟩
      · have : (logAcc t e (k + 1)).length = (logAcc t e k).length + 1 := by rw [hnx]; simp
        rw [this]; exact a1
      · have := (S.app [[encI (gtI (mayL xs) k)]]).setK ((logAcc t e k).map encI ++ [encI (gtI (mayL xs) k)])
        rw [hnx, List.map_append]
        exact this
    simp (disch := omega) only [go_sem, e3, e4, e5, e6, e7, hq, hgk, r1n, r2n, r3n, List.getElem?_map, List.length_map, encI]
    refine CP.goS (hasVar_s (firstT t e) (gtI (mayL xs) k) (by omega)) rfl rfl (.cons (S.snap 1 rfl) (.cons (.int _ _) (.nil _))) ?_
    simp (disch := omega) only [go_sem, e3, e4, e5, e6, e7, hq, hgk, r1n, r2n, r3n, List.getElem?_map, List.length_map, encI]
    refine condP_dec (fun h1 => ?_) (fun h1 => ?_)
    · simp (disch := omega) only [go_sem, e3, e4, e5, e6, e7, hq, hgk, ha, r1n, r2n, r3n, List.getElem?_map, List.length_map, encI]
      exact fin _ (by simp [noLog, h1]) (by simp (disch := omega) only [go_sem, e3, e4, e5, e6, e7, hq, hgk, ha, r1n, r2n, r3n, List.getElem?_map, List.length_map, encI]) (by simp (disch := omega) only [go_sem, e3, e4, e5, e6, e7, hq, hgk, ha, r1n, r2n, r3n, List.getElem?_map, List.length_map, encI]) (by simp (disch := omega) only [go_sem, e3, e4, e5, e6, e7, hq, hgk, ha, r1n, r2n, r3n, List.getElem?_map, List.length_map, encI]) (by simp (disch := omega) only [go_sem, e3, e4, e5, e6, e7, hq, hgk, ha, r1n, r2n, r3n, List.getElem?_map, List.length_map, encI]) (by simp (disch := omega) only [go_sem, e3, e4, e5, e6, e7, hq, hgk, ha, r1n, r2n, r3n, List.getElem?_map, List.length_map, encI])
    · simp (disch := omega) only [go_sem, e3, e4, e5, e6, e7, hq, hgk, r1n, r2n, r3n, List.getElem?_map, List.length_map, encI]
      refine CP.goS (hasVar_s (mustT t) (gtI (mayL xs) k) (by omega)) rfl rfl (.cons (S.snap 2 rfl) (.cons (.int _ _) (.nil _))) ?_
      simp (disch := omega) only [go_sem, e3, e4, e5, e6, e7, hq, hgk, r1n, r2n, r3n, List.getElem?_map, List.length_map, encI]
      refine condP_dec (fun h2 => ?_) (fun h2 => ?_)
      · simp (disch := omega) only [go_sem, e3, e4, e5, e6, e7, hq, hgk, r1n, r2n, r3n, List.getElem?_map, List.length_map, encI]
        rw [if_neg (by simp [noLog, h1, h2]), List.append_nil] at hnx
        refine nextP_intro ((mayL xs).length - (k + 1)) (by omega) ⟨k + 1, l, by omega, rfl, ?_, by simp (disch := omega) only [go_sem, e3, e4, e5, e6, e7, hq, hgk, r1n, r2n, r3n, List.getElem?_map, List.length_map, encI], by simp (disch := omega) only [go_sem, e3, e4, e5, e6, e7, hq, hgk, r1n, r2n, r3n, List.getElem?_map, List.length_map, encI], by simp (disch := omega) only [go_sem, e3, e4, e5, e6, e7, hq, hgk, r1n, r2n, r3n, List.getElem?_map, List.length_map, encI], by simp (disch := omega) only [go_sem, e3, e4, e5, e6, e7, hq, hgk, r1n, r2n, r3n, List.getElem?_map, List.length_map, encI]; rfl, ?_⟩
        · rw [hnx]; simp (disch := omega) only [go_sem, e3, e4, e5, e6, e7, hq, hgk, r1n, r2n, r3n, List.getElem?_map, List.length_map, encI]
        · rw [hnx]; exact S
      · simp (disch := omega) only [go_sem, e3, e4, e5, e6, e7, hq, hgk, ha, r1n, r2n, r3n, List.getElem?_map, List.length_map, encI]
        exact fin _ (by simp [noLog, h2]) (by simp (disch := omega) only [go_sem, e3, e4, e5, e6, e7, hq, hgk, ha, r1n, r2n, r3n, List.getElem?_map, List.length_map, encI]) (by simp (disch := omega) only [go_sem, e3, e4, e5, e6, e7, hq, hgk, ha, r1n, r2n, r3n, List.getElem?_map, List.length_map, encI]) (by simp (disch := omega) only [go_sem, e3, e4, e5, e6, e7, hq, hgk, ha, r1n, r2n, r3n, List.getElem?_map, List.length_map, encI]) (by simp (disch := omega) only [go_sem, e3, e4, e5, e6, e7, hq, hgk, ha, r1n, r2n, r3n, List.getElem?_map, List.length_map, encI]) (by simp (disch := omega) only [go_sem, e3, e4, e5, e6, e7, hq, hgk, ha, r1n, r2n, r3n, List.getElem?_map, List.length_map, encI])
  · have : k = (mayL xs).length := by omega
    subst this
    simp (disch := omega) only [go_sem, e3, e4, e5, e6, e7, r1n, r2n, r3n, len1]
    have e9 : logAcc t e (mayL xs).length = logT t e := by unfold logAcc logT; rw [← hf, List.take_length]
    rw [e9] at S ⊢
    exact (S.ofFlat (by simp) (flat_encI _)).ret
end Go.Av

namespace Go.Av
open Go.Proofs Go.RowKit
set_option linter.unusedVariables false
set_option linter.unusedSimpArgs false
set_option maxRecDepth 100000
set_option maxHeartbeats 4000000
def costK (k : Int) : Int := if k = 1 then 2 else if k = 2 then 5 else if k = 3 then 4 else if k = 4 then 1 else if k = 5 then 1 else 0
theorem cost_s (s : Stmt) : CP Tryz.prog 264 [.agg (encStmt s)] (.int .i64 (costK s.kind)) [] := by
  refine CP.by rfl mixed (cfn_ok Tryz.func264 ok264) rfl ?_
  simp (disch := omega) only [s264, go_sem, encStmt]
  repeat' (first | (refine condP_t (by assumption) ?_ <;> (try simp (disch := omega) only [go_sem])) | (refine condP_f (by assumption) ?_ <;> (try simp (disch := omega) only [go_sem])) | (refine condP_dec (fun h => ?_) (fun h => ?_) <;> (try simp (disch := omega) only [go_sem])) | (refine condP_split (fun h => ?_) (fun h => ?_) <;> (try simp (disch := omega) only [go_sem])))
  all_goals simp_all [costK]
theorem cost_c (s : Stmt) (hs : stmtOk s = true) : CP Tryz.prog 154 [.agg (encStmt s)] (.int .i64 (costK s.kind)) [] := by
  have hk := stmt_kinds hs
  refine CP.by rfl mixed (cfn_ok Tryz.func154 ok154) rfl ?_
  simp (disch := omega) only [s154, go_sem, encStmt]
  refine CP.go (stmtOk_c s) rfl rfl ?_
  have hc : s.kind = 1 ∨ s.kind = 2 ∨ s.kind = 3 ∨ s.kind = 4 ∨ s.kind = 5 ∨ s.kind = 6 := by omega
  have tk : ∀ n : Int, n = s.kind → True := fun _ _ => trivial
  rcases hc with h | h | h | h | h | h <;>
    (simp (disch := omega) only [go_sem, hs, h]; simp [costK])
def timesS (s : Stmt) : Int := if s.kind = 5 then s.n else 1
def boundT : Tr → Int
  | .nil => 0
  | .one s r => costK s.kind + 3 + boundT r
  | .grp s a r => costK s.kind + timesS s * boundT a + boundT r
theorem stmt_times {s : Stmt} (h : stmtOk s = true) (hk : s.kind = 4 ∨ s.kind = 5) : 1 ≤ timesS s ∧ timesS s ≤ 5 ∧ timesS s = max 1 s.n := by
  unfold stmtOk at h
  split at h
  · cases h
  · split at h
    · cases h
    · split at h
      · omega
      · split at h
        · rename_i h5
          simp [within] at h
          unfold timesS
          rw [if_pos h5]; omega
        · rename_i h5
          simp at h
          unfold timesS
          rw [if_neg h5]; omega
theorem costK_bd (k : Int) : 0 ≤ costK k ∧ costK k ≤ 5 := by unfold costK; repeat' split <;> omega
theorem pow3_le {a b : Nat} (h : a ≤ b) : (3 : Int) ^ a ≤ 3 ^ b := by
  exact_mod_cast Nat.pow_le_pow_right (by omega) h
theorem pow3_pos (a : Nat) : (1 : Int) ≤ 3 ^ a := by
  have := pow3_le (Nat.zero_le a)
  simpa using this
theorem boundT_bd : ∀ (t : Tr), t.ok = true → 0 ≤ boundT t ∧ boundT t ≤ 8 * 3 ^ t.flat.length - 8
  | .nil, _ => by simp [boundT, Tr.flat]
  | .one s r, h => by
    obtain ⟨hs, hk, hr⟩ := Tr.one_ok h
    have ih := boundT_bd r hr
    have hc := costK_bd s.kind
    have hp := pow3_pos r.flat.length
    simp only [boundT, Tr.flat, List.length_cons, Int.pow_succ]
    omega
  | .grp s a r, h => by
    obtain ⟨hs, hk, ha, hr⟩ := Tr.grp_ok h
    have ih1 := boundT_bd a ha
    have ih2 := boundT_bd r hr
    have hc := costK_bd s.kind
    have ht := stmt_times hs hk
    have hm : 0 ≤ timesS s * boundT a ∧ timesS s * boundT a ≤ 5 * boundT a := by
      refine ⟨Int.mul_nonneg (by omega) ih1.1, Int.mul_le_mul_of_nonneg_right ht.2.1 ih1.1⟩
    have hl : (Tr.grp s a r).flat.length = (a.flat.length + r.flat.length) + 1 + 1 := by simp [Tr.flat]; omega
    have h1 := pow3_le (show a.flat.length ≤ a.flat.length + r.flat.length by omega)
    have h2 := pow3_le (show r.flat.length ≤ a.flat.length + r.flat.length by omega)
    have h3 := pow3_pos a.flat.length
    rw [hl, Int.pow_succ, Int.pow_succ]
    simp only [boundT]
    omega
theorem pow24 : (3 : Int) ^ 24 = 282429536481 := by decide
theorem bound_bd {t : Tr} (h : t.ok = true) (hl : t.flat.length ≤ 24) : 0 ≤ boundT t ∧ boundT t ≤ 2300000000000 := by
  have h1 := boundT_bd t h
  have h2 := pow3_le hl
  rw [pow24] at h2
  omega
def BoundC (t : Tr) : Prop := t.ok = true → ∀ xs : List Stmt, xs = t.flat → xs.length ≤ 24 → CP Tryz.prog 94 [.lst 6 (xs.map encStmt)] (.int .i64 (boundT t)) []
theorem boundC_step (sz : Nat) (ih : ∀ b : Tr, b.size < sz → BoundC b) (t : Tr) (hsz : t.size ≤ sz) : BoundC t := by
  intro ht xs hf hl
  have htb := bound_bd ht (by rw [← hf]; exact hl)
  refine CP.by rfl mixed (cfn_ok Tryz.func94 ok94) rfl ?_
  simp (disch := omega) only [s94, go_sem]
  refine loopP_intro (fun m s => ∃ (k : Nat) (r : Tr) (c : Int), k ≤ xs.length ∧ m = xs.length - k ∧ r.ok = true ∧ r.size ≤ sz ∧ r.flat.length ≤ 24 ∧ xs.drop k = r.flat ∧ 0 ≤ c ∧ c + boundT r = boundT t ∧ s.e 0 = .lst 6 (xs.map encStmt) ∧ s.e 3 = .int .i64 c ∧ s.e 4 = .int .i64 k) xs.length ⟨0, t, 0, by omega, by omega, ht, hsz, by rw [← hf]; exact hl, by simp [hf], by omega, by omega, by simp (disch := omega) only [go_sem], by simp (disch := omega) only [go_sem], by simp (disch := omega) only [go_sem]; rfl⟩ ?_
  rintro m e hp ⟨k, r, c, hk, rfl, hr, hrs, hrl, hdk, hc0, hcb, e0, e3, e4⟩
  simp only at e0 e3 e4
  have hrb := bound_bd hr hrl
  simp (disch := omega) only [go_sem, e0, e3, e4]
  refine condP_dec (fun hlt => ?_) (fun hlt => ?_)
  · have hlt' : k < xs.length := by omega
    have nxt : ∀ (e' : Nat → V) (hh : Heap) (q : Nat) (r' : Tr) (c' : Int), k < q → q ≤ xs.length → r'.ok = true → r'.size ≤ sz → r'.flat.length ≤ 24 → xs.drop q = r'.flat → 0 ≤ c' → c' + boundT r' = boundT t → e' 0 = .lst 6 (xs.map encStmt) → e' 3 = .int .i64 c' → e' 4 = .int .i64 q → @nextP (xs.length - k) ⟨e', hh⟩ ⟨fun m s => ∃ (k : Nat) (r : Tr) (c : Int), k ≤ xs.length ∧ m = xs.length - k ∧ r.ok = true ∧ r.size ≤ sz ∧ r.flat.length ≤ 24 ∧ xs.drop k = r.flat ∧ 0 ≤ c ∧ c + boundT r = boundT t ∧ s.e 0 = .lst 6 (xs.map encStmt) ∧ s.e 3 = .int .i64 c ∧ s.e 4 = .int .i64 k⟩ := fun e' hh q r' c' a1 a2 a3 a4 a5 a6 a7 a8 a9 b1 b2 =>
      nextP_intro (xs.length - q) (by omega) ⟨q, r', c', a2, rfl, a3, a4, a5, a6, a7, a8, a9, b1, b2⟩
    rcases r with _ | ⟨s, r⟩ | ⟨s, b, r⟩
    · have := congrArg List.length hdk
      simp [Tr.flat] at this
      omega
    · obtain ⟨hs, hkk, hr'⟩ := Tr.one_ok hr
      simp only [Tr.flat] at hdk hrl
      simp only [List.length_cons] at hrl
      simp only [Tr.size] at hrs
      simp only [boundT] at hcb hrb
      refine Exists.elim (drop_head hdk) fun hk0 z => ?_
      have hks := z.1
      have hd1 := z.2
      have hg : ∀ h : k < xs.length, xs[k] = s := fun _ => hks
      have hz := storeBox (h := hp) (z := [V.int .i64 0, .int .i64 0, .int .i64 0, .int .i64 0, .int .i64 0, .int .i64 0]) (x := .agg (encStmt s)) (sz := 6) rfl rfl
      simp only [cells_agg, encStmt] at hz
      have hc := costK_bd s.kind
      have hO : isOpening s.kind = false := by rcases hkk with h | h | h <;> simp [isOpening, h]
      have hrb2 := bound_bd hr' (by omega)
      simp (disch := omega) only [go_sem, e0, e3, e4, hg, hz, encStmt]
      refine CP.go (cost_c s hs) rfl rfl ?_
      simp (disch := omega) only [go_sem, e0, e3, e4]
      refine CP.go (isOpening_c s.kind) rfl rfl ?_
      simp (disch := omega) only [go_sem, e0, e3, e4, hO]
      exact nxt _ _ (k + 1) r (c + costK s.kind + 3) (by omega) (by omega) hr' (by omega) (by omega) hd1 (by omega) (by omega) (by simp (disch := omega) only [go_sem, e0, e3, e4, hO]) (by simp (disch := omega) only [go_sem, e0, e3, e4, hO]) (by simp (disch := omega) only [go_sem, e0, e3, e4, hO]; rfl)
    · obtain ⟨hs, hkk, hb', hr'⟩ := Tr.grp_ok hr
      simp only [Tr.flat] at hdk hrl
      simp only [List.length_cons, List.length_append] at hrl
      simp only [Tr.size] at hrs
      simp only [boundT] at hcb hrb
      refine Exists.elim (drop_head hdk) fun hk0 z => ?_
      have hks := z.1
      have hd1 := z.2
      have hd2 := drop_skip hd1
      refine Exists.elim (drop_head hd2) fun hk3 z => ?_
      have hd4 := z.2
      have hg : ∀ h : k < xs.length, xs[k] = s := fun _ => hks
      have hz := storeBox (h := hp) (z := [V.int .i64 0, .int .i64 0, .int .i64 0, .int .i64 0, .int .i64 0, .int .i64 0]) (x := .agg (encStmt s)) (sz := 6) rfl rfl
      simp only [cells_agg, encStmt] at hz
      have hen : endO 0 k (xs.drop k) = (k : Int) + 1 + b.flat.length := by rw [hdk]; exact endO_grp k _ hkk hb'
      have htm := take_mid (xs := xs) hdk
      have t1 : ((k : Int) + 1).toNat = k + 1 := by omega
      have t2 : ((k : Int) + 1 + b.flat.length).toNat = k + 1 + b.flat.length := by omega
      have hc := costK_bd s.kind
      have hO : isOpening s.kind = true := by rcases hkk with h | h <;> simp [isOpening, h]
      have ht := stmt_times hs hkk
      have hbb := bound_bd hb' (by omega)
      have hrb2 := bound_bd hr' (by omega)
      have hm : 0 ≤ timesS s * boundT b ∧ timesS s * boundT b ≤ 5 * boundT b := ⟨Int.mul_nonneg (by omega) hbb.1, Int.mul_le_mul_of_nonneg_right ht.2.1 hbb.1⟩
      simp (disch := omega) only [go_sem, e0, e3, e4, hg, hz, encStmt]
      refine CP.go (cost_c s hs) rfl rfl ?_
      simp (disch := omega) only [go_sem, e0, e3, e4]
      refine CP.go (isOpening_c s.kind) rfl rfl ?_
      simp (disch := omega) only [go_sem, e0, e3, e4, hO]
      refine CP.go (endO_c xs k (by omega) (by omega)) rfl (refs_args _ _ _) ?_
      simp (disch := omega) only [go_sem, e0, e3, e4, hen]
      have fin : ∀ T : Int, T = timesS s → True := fun _ _ => trivial
      refine condP_dec (fun h5 => ?_) (fun h5 => ?_)
      · have hT : timesS s = s.n := by rw [timesS, if_pos h5]
        rw [hT] at hm hcb ht hrb
        have hw : IntKind.wrap .i64 (s.n * boundT b) = s.n * boundT b := wrap64 (by omega) (by omega)
        simp (disch := omega) only [go_sem, e0, e3, e4, hen, t1, t2, htm]
        refine CP.go (ih b (by omega) hb' b.flat rfl (by omega)) rfl (refs_arg _ _) ?_
        simp (disch := omega) only [go_sem, e0, e3, e4, hen, hw]
        exact nxt _ _ (k + 1 + b.flat.length + 1) r (c + costK s.kind + s.n * boundT b) (by omega) (by omega) hr' (by omega) (by omega) hd4 (by omega) (by omega) (by simp (disch := omega) only [go_sem, e0, e3, e4, hen, hw]) (by simp (disch := omega) only [go_sem, e0, e3, e4, hen, hw]) (by simp (disch := omega) only [go_sem, e0, e3, e4, hen, hw]; exact congrArg (V.int .i64) (by omega))
      · have hT : timesS s = 1 := by rw [timesS, if_neg h5]
        rw [hT, Int.one_mul] at hm hcb hrb
        have hw : IntKind.wrap .i64 (1 * boundT b) = boundT b := by rw [Int.one_mul]; exact wrap64 (by omega) (by omega)
        simp (disch := omega) only [go_sem, e0, e3, e4, hen, t1, t2, htm]
        refine CP.go (ih b (by omega) hb' b.flat rfl (by omega)) rfl (refs_arg _ _) ?_
        simp (disch := omega) only [go_sem, e0, e3, e4, hen, hw]
        exact nxt _ _ (k + 1 + b.flat.length + 1) r (c + costK s.kind + boundT b) (by omega) (by omega) hr' (by omega) (by omega) hd4 (by omega) (by omega) (by simp (disch := omega) only [go_sem, e0, e3, e4, hen, hw]) (by simp (disch := omega) only [go_sem, e0, e3, e4, hen, hw]) (by simp (disch := omega) only [go_sem, e0, e3, e4, hen, hw]; exact congrArg (V.int .i64) (by omega))
  · have hke : k = xs.length := by omega
    subst hke
    have hz : r = .nil := by
      have hlen := congrArg List.length hdk
      rw [List.drop_length, List.length_nil] at hlen
      cases r with
      | nil => rfl
      | one s r => simp [Tr.flat] at hlen
      | grp s a r => simp [Tr.flat] at hlen
    subst hz
    simp only [boundT] at hcb
    simp (disch := omega) only [go_sem, e0, e3, e4]
    exact congrArg (V.int .i64) (by omega)
theorem bound_c (t : Tr) : BoundC t := by
  induction hn : t.size using Nat.strongRecOn generalizing t with
  | ind n ih => exact boundC_step n (fun b hb => ih b.size hb b rfl) t (by omega)
def BoundS (t : Tr) : Prop := t.ok = true → ∀ (xs : List Stmt) (a : Nat) (ia ib : Int) (v : List Stmt), ia = a → ib = (a : Int) + t.flat.length → xs.drop a = t.flat ++ v → xs.length ≤ 24 → CP Tryz.prog 241 [.lst 6 (xs.map encStmt), .int .i64 ia, .int .i64 ib] (.int .i64 (boundT t)) []
theorem boundS_step (sz : Nat) (ih : ∀ b : Tr, b.size < sz → BoundS b) (t : Tr) (hsz : t.size ≤ sz) : BoundS t := by
  intro ht xs a ia ib v hia hib hdr hl
  subst hia hib
  have htl : t.flat.length ≤ 24 := by
    have := congrArg List.length hdr
    simp only [List.length_drop, List.length_append] at this
    omega
  have htb := bound_bd ht htl
  refine CP.by rfl mixed (cfn_ok Tryz.func241 ok241) rfl ?_
  simp (disch := omega) only [s241, go_sem]
  refine loopP_intro (fun m s => ∃ (k : Nat) (r : Tr) (c : Int), k + r.flat.length = a + t.flat.length ∧ m = r.flat.length ∧ r.ok = true ∧ r.size ≤ sz ∧ r.flat.length ≤ 24 ∧ xs.drop k = r.flat ++ v ∧ 0 ≤ c ∧ c + boundT r = boundT t ∧ s.e 0 = .lst 6 (xs.map encStmt) ∧ s.e 2 = .int .i64 ((a : Int) + t.flat.length) ∧ s.e 7 = .int .i64 c ∧ s.e 8 = .int .i64 k) t.flat.length ⟨a, t, 0, rfl, rfl, ht, hsz, htl, hdr, by omega, by omega, by simp (disch := omega) only [go_sem], by simp (disch := omega) only [go_sem], by simp (disch := omega) only [go_sem], by simp (disch := omega) only [go_sem]⟩ ?_
  rintro m e hp ⟨k, r, c, hkr, rfl, hr, hrs, hrl, hdk, hc0, hcb, e0, e2, e7, e8⟩
  simp only at e0 e2 e7 e8
  have hrb := bound_bd hr hrl
  simp (disch := omega) only [go_sem, e0, e2, e7, e8]
  refine condP_dec (fun hlt => ?_) (fun hlt => ?_)
  · have nxt : ∀ (e' : Nat → V) (hh : Heap) (q : Nat) (r' : Tr) (c' : Int), q + r'.flat.length = a + t.flat.length → r'.flat.length < r.flat.length → r'.ok = true → r'.size ≤ sz → r'.flat.length ≤ 24 → xs.drop q = r'.flat ++ v → 0 ≤ c' → c' + boundT r' = boundT t → e' 0 = .lst 6 (xs.map encStmt) → e' 2 = .int .i64 ((a : Int) + t.flat.length) → e' 7 = .int .i64 c' → e' 8 = .int .i64 q → @nextP r.flat.length ⟨e', hh⟩ ⟨fun m s => ∃ (k : Nat) (r : Tr) (c : Int), k + r.flat.length = a + t.flat.length ∧ m = r.flat.length ∧ r.ok = true ∧ r.size ≤ sz ∧ r.flat.length ≤ 24 ∧ xs.drop k = r.flat ++ v ∧ 0 ≤ c ∧ c + boundT r = boundT t ∧ s.e 0 = .lst 6 (xs.map encStmt) ∧ s.e 2 = .int .i64 ((a : Int) + t.flat.length) ∧ s.e 7 = .int .i64 c ∧ s.e 8 = .int .i64 k⟩ := fun e' hh q r' c' a1 a2 a3 a4 a5 a6 a7 a8 a9 b1 b2 b3 =>
      nextP_intro r'.flat.length a2 ⟨q, r', c', a1, rfl, a3, a4, a5, a6, a7, a8, a9, b1, b2, b3⟩
    rcases r with _ | ⟨s, r⟩ | ⟨s, b, r⟩
    · simp [Tr.flat] at hkr; omega
    · obtain ⟨hs, hkk, hr'⟩ := Tr.one_ok hr
      simp only [Tr.flat, List.cons_append] at hdk
      simp only [Tr.flat, List.length_cons] at hrl hkr nxt
      simp only [Tr.size] at hrs
      simp only [boundT] at hcb hrb
      refine Exists.elim (drop_head hdk) fun hk0 z => ?_
      have hks := z.1
      have hd1 := z.2
      have hg : ∀ h : k < xs.length, xs[k] = s := fun _ => hks
      have hc := costK_bd s.kind
      have hrb2 := bound_bd hr' (by omega)
      simp (disch := omega) only [go_sem, e0, e2, e7, e8, hg, encStmt]
      refine CP.go (cost_s s) rfl rfl ?_
      simp (disch := omega) only [go_sem, e0, e2, e7, e8]
      exact nxt _ _ (k + 1) r (c + costK s.kind + 3) (by omega) (by omega) hr' (by omega) (by omega) hd1 (by omega) (by omega) (by simp (disch := omega) only [go_sem, e0, e2, e7, e8]) (by simp (disch := omega) only [go_sem, e0, e2, e7, e8]) (by simp (disch := omega) only [go_sem, e0, e2, e7, e8]) (by simp (disch := omega) only [go_sem, e0, e2, e7, e8]; rfl)
    · obtain ⟨hs, hkk, hb', hr'⟩ := Tr.grp_ok hr
      simp only [Tr.flat, List.cons_append, List.append_assoc] at hdk
      simp only [Tr.flat, List.length_cons, List.length_append] at hrl hkr
      simp only [Tr.size] at hrs
      simp only [boundT] at hcb hrb
      refine Exists.elim (drop_head hdk) fun hk0 z => ?_
      have hks := z.1
      have hd1 := z.2
      have hd2 := drop_skip hd1
      refine Exists.elim (drop_head hd2) fun hk3 z => ?_
      have hd4 := z.2
      have hg : ∀ h : k < xs.length, xs[k] = s := fun _ => hks
      have hen : endM 0 k (xs.drop k) = (k : Int) + 1 + b.flat.length := by rw [hdk]; exact endM_grp k _ hkk hb'
      have hk1' : (k : Int) + 1 = ((k + 1 : Nat) : Int) := by omega
      have hk2' : (k : Int) + 1 + b.flat.length = ((k + 1 : Nat) : Int) + b.flat.length := by omega
      have hc := costK_bd s.kind
      have ht := stmt_times hs hkk
      have hbb := bound_bd hb' (by omega)
      have hrb2 := bound_bd hr' (by omega)
      have hm : 0 ≤ timesS s * boundT b ∧ timesS s * boundT b ≤ 5 * boundT b := ⟨Int.mul_nonneg (by omega) hbb.1, Int.mul_le_mul_of_nonneg_right ht.2.1 hbb.1⟩
      have hw : IntKind.wrap .i64 (max 1 s.n * boundT b) = timesS s * boundT b := by rw [← ht.2.2]; exact wrap64 (by omega) (by omega)
      have main : ∀ (G : Prop), G → G := fun _ g => g
      simp (disch := omega) only [go_sem, e0, e2, e7, e8, hg, encStmt]
      repeat' (first | (refine condP_t (by assumption) ?_ <;> (try simp (disch := omega) only [go_sem, e0, e2, e7, e8, hg, encStmt])) | (refine condP_f (by assumption) ?_ <;> (try simp (disch := omega) only [go_sem, e0, e2, e7, e8, hg, encStmt])) | (refine condP_dec (fun h => ?_) (fun h => ?_) <;> (try simp (disch := omega) only [go_sem, e0, e2, e7, e8, hg, encStmt])) | (refine condP_split (fun h => ?_) (fun h => ?_) <;> (try simp (disch := omega) only [go_sem, e0, e2, e7, e8, hg, encStmt])))
      all_goals first
        | (exfalso; omega)
        | (refine CP.go (end_s xs k (by omega) (by omega)) rfl (refs_args _ _ _) ?_
           simp (disch := omega) only [go_sem, e0, e2, e7, e8, hg, hen, encStmt]
           refine CP.go (cost_s s) rfl rfl ?_
           simp (disch := omega) only [go_sem, e0, e2, e7, e8, hg, hen, encStmt]
           refine CP.go (ih b (by omega) hb' xs (k + 1) _ _ (endS :: (r.flat ++ v)) hk1' hk2' hd1 hl) rfl (by simp [V.refsL, V.refs, refsLL_map encStmt (refs_stmt 0) xs]) ?_
           simp (disch := omega) only [go_sem, e0, e2, e7, e8, hw]
           exact nxt _ _ (k + 1 + b.flat.length + 1) r (c + costK s.kind + timesS s * boundT b) (by omega) (by simp only [Tr.flat, List.length_cons, List.length_append]; omega) hr' (by omega) (by omega) hd4 (by omega) (by omega) (by simp (disch := omega) only [go_sem, e0, e2, e7, e8, hw]) (by simp (disch := omega) only [go_sem, e0, e2, e7, e8, hw]) (by simp (disch := omega) only [go_sem, e0, e2, e7, e8, hw]) (by simp (disch := omega) only [go_sem, e0, e2, e7, e8, hw]; exact congrArg (V.int .i64) (by omega)))
  · have hz : r = .nil := by
      cases r with
      | nil => rfl
      | one s r => simp [Tr.flat] at hkr; omega
      | grp s a r => simp [Tr.flat] at hkr; omega
    subst hz
    simp only [boundT] at hcb
    simp (disch := omega) only [go_sem, e0, e2, e7, e8]
    exact congrArg (V.int .i64) (by omega)
theorem bound_s (t : Tr) : BoundS t := by
  induction hn : t.size using Nat.strongRecOn generalizing t with
  | ind n ih => exact boundS_step n (fun b hb => ih b.size hb b rfl) t (by omega)
end Go.Av

namespace Go.Av
open Go.Proofs Go.RowKit
set_option linter.unusedVariables false
set_option linter.unusedSimpArgs false
set_option maxRecDepth 100000
set_option maxHeartbeats 4000000
theorem indexTaskF_c {h : Heap} (g : Nat) (caps : List V) (p : Task → Bool) (zs : List Task) (hg : ∀ z ∈ zs, ∀ h', Ext h h' → C Tryz.prog g (.agg (encTask z) :: caps) h' (fun r h'' => r = .bool (p z) ∧ Ext h' h'')) (hl : zs.length ≤ 9223372036854775807) : C Tryz.prog 118 [.lst 4 (zs.map encTask), .fn g caps] h (fun r h' => r = .int .i64 (idxI p zs) ∧ Ext h h') := by
  refine C.by mixed (cfn_ok Tryz.func118 ok118) rfl ?_
  simp (disch := omega) only [s118, go_sem]
  refine loopP_intro (fun m s => ∃ k : Nat, k ≤ zs.length ∧ m = zs.length - k ∧ s.e 0 = .lst 4 (zs.map encTask) ∧ s.e 1 = .fn g caps ∧ s.e 7 = .int .i64 zs.length ∧ s.e 8 = .int .i64 k ∧ Ext h s.h ∧ ∀ j (hj : j < zs.length), j < k → p zs[j] = false) zs.length ⟨0, by omega, by omega, rfl, rfl, by simp (disch := omega) only [go_sem], rfl, .refl _, fun j _ h => absurd h (by omega)⟩ ?_
  rintro m e hp ⟨k, hk, rfl, e0, e1, e7, e8, X, hall⟩
  simp only at e0 e1 e7 e8 X
  simp (disch := omega) only [go_sem, e0, e1, e7, e8, encTask]
  refine condP_dec (fun hlt => ?_) (fun hlt => ?_)
  · have hlt' : k < zs.length := by omega
    simp (disch := omega) only [go_sem, e0, e1, e7, e8, encTask]
    refine C.go (hg zs[k] (List.getElem_mem hlt') _ X) ?_
    rintro r h2 ⟨rfl, X2⟩
    simp (disch := omega) only [go_sem, e0, e1, e7, e8, encTask]
    refine condP_split (fun h => ?_) (fun h => ?_)
    · simp (disch := omega) only [go_sem, e0, e1, e7, e8, encTask]
      rw [idxI_found hlt' h hall]
      exact ⟨rfl, X.trans X2⟩
    · simp (disch := omega) only [go_sem, e0, e1, e7, e8, encTask]
      refine nextP_intro (zs.length - (k + 1)) (by omega) ⟨k + 1, by omega, rfl, ?_, ?_, ?_, ?_, X.trans X2, fun j hj hjk => ?_⟩
      · simp (disch := omega) only [go_sem, e0, e1, e7, e8, encTask]
      · simp (disch := omega) only [go_sem, e0, e1, e7, e8, encTask]
      · simp (disch := omega) only [go_sem, e0, e1, e7, e8, encTask]
      · simp (disch := omega) only [go_sem, e0, e1, e7, e8, encTask]; rfl
      · by_cases e : j = k
        · subst e; exact h
        · exact hall j hj (by omega)
  · simp (disch := omega) only [go_sem, e0, e1, e7, e8, encTask]
    rw [idxI_none (fun j hj => hall j hj (by omega))]
    exact ⟨rfl, X⟩
theorem containsTaskF_c {h : Heap} (g : Nat) (caps : List V) (p : Task → Bool) (zs : List Task) (hg : ∀ z ∈ zs, ∀ h', Ext h h' → C Tryz.prog g (.agg (encTask z) :: caps) h' (fun r h'' => r = .bool (p z) ∧ Ext h' h'')) (hl : zs.length ≤ 9223372036854775807) : C Tryz.prog 69 [.lst 4 (zs.map encTask), .fn g caps] h (fun r h' => r = .bool (zs.any p) ∧ Ext h h') := by
  refine C.by mixed (cfn_ok Tryz.func69 ok69) rfl ?_
  simp (disch := omega) only [s69, go_sem]
  refine C.go (indexTaskF_c g caps p zs hg hl) ?_
  rintro r h2 ⟨rfl, X⟩
  simp (disch := omega) only [go_sem, idxI_ge]
  exact X
def recCost (n : Nat) : Int := if n = 0 then 0 else 3 * ((n : Int) + 1)
theorem rec_c (n : Nat) (hn : n ≤ 8) : CP Tryz.prog 96 [.int .i64 n] (.int .i64 (recCost n)) [] := by
  refine CP.by rfl mixed (cfn_ok Tryz.func96 ok96) rfl ?_
  simp (disch := omega) only [s96, go_sem, within_dec]
  refine CP.go (within_c _ _ _) rfl rfl ?_
  simp (disch := omega) only [go_sem, within_dec]
  refine condP_dec (fun h => ?_) (fun h => ?_) <;> simp (disch := omega) only [go_sem, within_dec]
  · have : n = 0 := by omega
    subst this; rfl
  · rw [recCost, if_neg (by omega)]
theorem rec_s (n : Nat) (hn : n ≤ 8) : CP Tryz.prog 177 [.int .i64 n] (.int .i64 (recCost n)) [] := by
  refine CP.by rfl mixed (cfn_ok Tryz.func177 ok177) rfl ?_
  simp (disch := omega) only [s177, go_sem, within_dec]
  refine CP.go (l01In_c _ _ _) rfl rfl ?_
  simp (disch := omega) only [go_sem, within_dec]
  refine condP_dec (fun h => ?_) (fun h => ?_) <;> simp (disch := omega) only [go_sem, within_dec]
  · have : n = 0 := by omega
    subst this; rfl
  · rw [recCost, if_neg (by omega)]
noncomputable def treeOf (xs : List Stmt) : Tr := open Classical in if h : blockOk xs = true then (block_tree h).choose else .nil
theorem treeOf_ok {xs : List Stmt} (h : blockOk xs = true) : (treeOf xs).ok = true ∧ xs = (treeOf xs).flat ∧ xs.length ≤ 24 := by
  unfold treeOf
  rw [dif_pos h]
  exact (block_tree h).choose_spec
theorem task_facts {tk : Task} (h : taskOk tk = true) : blockOk tk.body = true ∧ exprOk tk.next = true := by
  simpa [taskOk] using h
noncomputable def taskB (tk : Task) : Int := if taskOk tk = true then boundT (treeOf tk.body) + 9 * ((logT (treeOf tk.body) tk.next).length : Int) + 1 + 3 else -1
noncomputable def bootB (tk : Task) : Int := if taskOk tk = true then taskB tk + recCost (logT (treeOf tk.body) tk.next).length else -1
noncomputable def blockB (tk : Task) : Int := if taskOk tk = true then boundT (treeOf tk.body) else -1
theorem taskB_bd (tk : Task) : -1 ≤ taskB tk ∧ taskB tk ≤ 2300000000080 := by
  unfold taskB
  split
  · rename_i h
    obtain ⟨h1, h2⟩ := task_facts h
    obtain ⟨t1, t2, t3⟩ := treeOf_ok h1
    have := bound_bd t1 (by rw [← t2]; exact t3)
    have := log_len (treeOf tk.body) tk.next
    omega
  · omega
theorem bootB_bd (tk : Task) : -1 ≤ bootB tk ∧ bootB tk ≤ 2300000000200 := by
  unfold bootB
  have := taskB_bd tk
  have := log_len (treeOf tk.body) tk.next
  split
  · unfold recCost
    rename_i h
    have : 0 ≤ taskB tk := by
      unfold taskB
      rw [if_pos h]
      obtain ⟨h1, h2⟩ := task_facts h
      obtain ⟨t1, t2, t3⟩ := treeOf_ok h1
      have := bound_bd t1 (by rw [← t2]; exact t3)
      omega
    split <;> omega
  · omega
theorem taskB_c (tk : Task) (hb : tk.body.length ≤ 1048576) : CP Tryz.prog 34 [.agg (encTask tk)] (.int .i64 (taskB tk)) [] := by
  have hbd := taskB_bd tk
  refine CP.by rfl mixed (cfn_ok Tryz.func34 ok34) rfl ?_
  simp (disch := omega) only [s34, go_sem, encTask]
  refine CP.go (taskOk_c tk (by omega)) rfl (refs_task1 _ tk) ?_
  simp (disch := omega) only [go_sem, encTask]
  refine condP_split (fun hk => ?_) (fun hk => ?_)
  case' refine_2 =>
    simp (disch := omega) only [go_sem, encTask]
    rw [taskB, if_neg (by simp [hk])]
  obtain ⟨h1, h2⟩ := task_facts hk
  obtain ⟨t1, t2, t3⟩ := treeOf_ok h1
  have hv : taskB tk = boundT (treeOf tk.body) + 9 * ((logT (treeOf tk.body) tk.next).length : Int) + 1 + 3 := by rw [taskB, if_pos hk]
  have hbb := bound_bd t1 (by rw [← t2]; exact t3)
  have hll := log_len (treeOf tk.body) tk.next
  simp (disch := omega) only [go_sem, encTask]
  refine CP.go (bound_c (treeOf tk.body) t1 tk.body t2 t3) rfl (refs_arg _ _) ?_
  simp (disch := omega) only [go_sem, encTask]
  refine (Sep.nil _).goPt (log_c (treeOf tk.body) tk.body tk.next t1 t2 h1 h2) (.same (refs_task1 _ tk)) fun r h' X S ro rn rc rl => ?_
  simp (disch := omega) only [go_sem, rn, rl]
  rw [hv]
theorem taskB_s (tk : Task) (hb : tk.body.length ≤ 1048576) : CP Tryz.prog 176 [.agg (encTask tk)] (.int .i64 (taskB tk)) [] := by
  have hbd := taskB_bd tk
  have blk : taskOk tk = true → CP Tryz.prog 217 [.agg (encTask tk)] (.int .i64 (boundT (treeOf tk.body))) [] := fun hk => by
    obtain ⟨h1, h2⟩ := task_facts hk
    obtain ⟨t1, t2, t3⟩ := treeOf_ok h1
    refine CP.by rfl mixed (cfn_ok Tryz.func217 ok217) rfl ?_
    simp (disch := omega) only [s217, go_sem, encTask]
    refine CP.go (taskOk_s tk (by omega)) rfl (refs_task1 _ tk) ?_
    simp (disch := omega) only [go_sem, hk]
    refine CP.go (bound_s (treeOf tk.body) t1 tk.body 0 0 tk.body.length [] rfl (by rw [← t2]; simp) (by simpa using t2) t3) rfl (by simp [V.refsL, V.refs, refsLL_map encStmt (refs_stmt 0) tk.body]) ?_
    simp (disch := omega) only [go_sem, hk]
  refine CP.by rfl mixed (cfn_ok Tryz.func176 ok176) rfl ?_
  simp (disch := omega) only [s176, go_sem, encTask]
  refine CP.go (taskOk_s tk (by omega)) rfl (refs_task1 _ tk) ?_
  simp (disch := omega) only [go_sem, encTask]
  refine condP_split (fun hk => ?_) (fun hk => ?_)
  case' refine_2 =>
    simp (disch := omega) only [go_sem, encTask]
    rw [taskB, if_neg (by simp [hk])]
  obtain ⟨h1, h2⟩ := task_facts hk
  obtain ⟨t1, t2, t3⟩ := treeOf_ok h1
  have hv : taskB tk = boundT (treeOf tk.body) + 9 * ((logT (treeOf tk.body) tk.next).length : Int) + 1 + 3 := by rw [taskB, if_pos hk]
  have hbb := bound_bd t1 (by rw [← t2]; exact t3)
  have hll := log_len (treeOf tk.body) tk.next
  simp (disch := omega) only [go_sem, encTask]
  refine CP.go (blk hk) rfl (refs_task1 _ tk) ?_
  simp (disch := omega) only [go_sem, encTask]
  refine (Sep.nil _).goLst (log_s (treeOf tk.body) tk.body tk.next t1 t2 h1 h2) (.same (refs_task1 _ tk)) fun r h' X S ro rn rc => ?_
  obtain ⟨i, o⟩ := S.lst 0 rfl
  have rl := fun G => o.len_ G
  simp only [List.length_map] at rl
  simp (disch := omega) only [go_sem, rn, rl]
  rw [hv]
theorem bootB_c (tk : Task) (hb : tk.body.length ≤ 1048576) : CP Tryz.prog 35 [.agg (encTask tk)] (.int .i64 (bootB tk)) [] := by
  have hbd := bootB_bd tk
  refine CP.by rfl mixed (cfn_ok Tryz.func35 ok35) rfl ?_
  simp (disch := omega) only [s35, go_sem, encTask]
  refine CP.go (taskOk_c tk (by omega)) rfl (refs_task1 _ tk) ?_
  simp (disch := omega) only [go_sem, encTask]
  refine condP_split (fun hk => ?_) (fun hk => ?_)
  case' refine_2 =>
    simp (disch := omega) only [go_sem, encTask]
    rw [bootB, if_neg (by simp [hk])]
  obtain ⟨h1, h2⟩ := task_facts hk
  obtain ⟨t1, t2, t3⟩ := treeOf_ok h1
  have hv : bootB tk = taskB tk + recCost (logT (treeOf tk.body) tk.next).length := by rw [bootB, if_pos hk]
  have hll := log_len (treeOf tk.body) tk.next
  simp (disch := omega) only [go_sem, encTask]
  refine CP.go (taskB_c tk hb) rfl (refs_task1 _ tk) ?_
  simp (disch := omega) only [go_sem, encTask]
  refine (Sep.nil _).goPt (log_c (treeOf tk.body) tk.body tk.next t1 t2 h1 h2) (.same (refs_task1 _ tk)) fun r h' X S ro rn rc rl => ?_
  simp (disch := omega) only [go_sem, rn, rl]
  refine CP.go (rec_c _ hll) rfl rfl ?_
  simp (disch := omega) only [go_sem, rn, rl]
  rw [hv]
theorem bootB_s (tk : Task) (hb : tk.body.length ≤ 1048576) : CP Tryz.prog 109 [.agg (encTask tk)] (.int .i64 (bootB tk)) [] := by
  have hbd := bootB_bd tk
  refine CP.by rfl mixed (cfn_ok Tryz.func109 ok109) rfl ?_
  simp (disch := omega) only [s109, go_sem, encTask]
  refine CP.go (taskOk_s tk (by omega)) rfl (refs_task1 _ tk) ?_
  simp (disch := omega) only [go_sem, encTask]
  refine condP_split (fun hk => ?_) (fun hk => ?_)
  case' refine_2 =>
    simp (disch := omega) only [go_sem, encTask]
    rw [bootB, if_neg (by simp [hk])]
  obtain ⟨h1, h2⟩ := task_facts hk
  obtain ⟨t1, t2, t3⟩ := treeOf_ok h1
  have hv : bootB tk = taskB tk + recCost (logT (treeOf tk.body) tk.next).length := by rw [bootB, if_pos hk]
  have hll := log_len (treeOf tk.body) tk.next
  simp (disch := omega) only [go_sem, encTask]
  refine CP.go (taskB_s tk hb) rfl (refs_task1 _ tk) ?_
  simp (disch := omega) only [go_sem, encTask]
  refine (Sep.nil _).goLst (log_s (treeOf tk.body) tk.body tk.next t1 t2 h1 h2) (.same (refs_task1 _ tk)) fun r h' X S ro rn rc => ?_
  obtain ⟨i, o⟩ := S.lst 0 rfl
  have rl := fun G => o.len_ G
  simp only [List.length_map] at rl
  simp (disch := omega) only [go_sem, rn, rl]
  refine CP.go (rec_s _ hll) rfl rfl ?_
  simp (disch := omega) only [go_sem, rn, rl]
  rw [hv]
theorem refs_tasks (n : Nat) (ts : List Task) (x : V) (hx : V.refs n x = true) : V.refsL n [.lst 4 (ts.map encTask), x] = true := by
  simp [V.refsL, V.refs, refsLL_map encTask (refs_task n) ts, hx]
def programOk (ts : List Task) : Bool := within ts.length 1 6 && ts.all taskOk
theorem programOk_c (ts : List Task) (hl : ts.length ≤ 1048576) (hb : ∀ t ∈ ts, t.body.length ≤ 9223372036854775807) : CP Tryz.prog 67 [.agg [.lst 4 (ts.map encTask)]] (.bool (programOk ts)) [] := by
  have hn : (ts.any fun t => !taskOk t) = !ts.all taskOk := by rw [List.not_all_eq_any_not]
  refine CP.by rfl mixed (cfn_ok Tryz.func67 ok67) rfl ?_
  simp (disch := omega) only [s67, go_sem]
  refine CP.go (within_c _ _ _) rfl rfl ?_
  simp (disch := omega) only [go_sem]
  repeat' (first | (refine CP.go (containsTask_c 131 (fun t => !taskOk t) ts (fun t ht => notTaskOk_c t (hb t ht)) (by omega) (refs_tasks _ _ _ rfl)) rfl (refs_tasks _ _ _ rfl) ?_ <;> (try simp (disch := omega) only [go_sem])) | (refine condP_t (by assumption) ?_ <;> (try simp (disch := omega) only [go_sem])) | (refine condP_f (by assumption) ?_ <;> (try simp (disch := omega) only [go_sem])) | (refine condP_dec (fun h => ?_) (fun h => ?_) <;> (try simp (disch := omega) only [go_sem])) | (refine condP_split (fun h => ?_) (fun h => ?_) <;> (try simp (disch := omega) only [go_sem])))
  all_goals simp_all [programOk]
theorem programOk_s (ts : List Task) (hl : ts.length ≤ 1048576) (hb : ∀ t ∈ ts, t.body.length ≤ 9223372036854775807) : CP Tryz.prog 107 [.agg [.lst 4 (ts.map encTask)]] (.bool (programOk ts)) [] := by
  refine CP.by rfl mixed (cfn_ok Tryz.func107 ok107) rfl ?_
  simp (disch := omega) only [s107, go_sem]
  refine loopP_intro (fun m s => ∃ k : Nat, k ≤ ts.length ∧ m = ts.length - k ∧ s.e 1 = .ptr 0 1 0 0 ∧ s.h[0]? = some [[.lst 4 (ts.map encTask)]] ∧ s.e 3 = .int .i64 k ∧ ∀ j (hj : j < ts.length), j < k → taskOk ts[j] = true) ts.length ⟨0, by omega, by omega, rfl, rfl, rfl, fun j _ h => absurd h (by omega)⟩ ?_
  rintro m e hp ⟨k, hk, rfl, e1, hh, e3, hall⟩
  simp only at e1 hh e3
  simp (disch := omega) only [go_sem, e1, e3, hh, encTask]
  refine condP_dec (fun hlt => ?_) (fun hlt => ?_)
  · have hlt' : k < ts.length := by omega
    have hbk := hb _ (List.getElem_mem hlt')
    simp (disch := omega) only [go_sem, e1, e3, hh, encTask]
    refine CP.go (blockOk_s ts[k].body hbk) rfl (refs_arg _ _) ?_
    simp (disch := omega) only [go_sem, e1, e3, hh, encTask]
    repeat' (first | (refine CP.go (exprOk_s ts[k].next) rfl rfl ?_ <;> (try simp (disch := omega) only [go_sem, e1, e3, hh, encTask])) | (refine condP_t (by assumption) ?_ <;> (try simp (disch := omega) only [go_sem, e1, e3, hh, encTask])) | (refine condP_f (by assumption) ?_ <;> (try simp (disch := omega) only [go_sem, e1, e3, hh, encTask])) | (refine condP_dec (fun h => ?_) (fun h => ?_) <;> (try simp (disch := omega) only [go_sem, e1, e3, hh, encTask])) | (refine condP_split (fun h => ?_) (fun h => ?_) <;> (try simp (disch := omega) only [go_sem, e1, e3, hh, encTask])))
    all_goals first
      | (refine nextP_intro (ts.length - (k + 1)) (by omega) ⟨k + 1, by omega, rfl, ?_, hh, ?_, fun j hj hjk => ?_⟩
         · simp (disch := omega) only [go_sem, e1, e3, hh, encTask]
         · simp (disch := omega) only [go_sem, e1, e3, hh, encTask]; rfl
         · by_cases e : j = k
           · subst e; simp_all [taskOk]
           · exact hall j hj (by omega))
      | (have : ts.all taskOk = false := List.all_eq_false.2 ⟨ts[k], List.getElem_mem hlt', by simp_all [taskOk]⟩
         simp [programOk, this])
  · simp (disch := omega) only [go_sem, e1, e3, hh, encTask]
    refine CP.go (l01In_c _ _ _) rfl rfl ?_
    simp (disch := omega) only [go_sem, e1, e3, hh, encTask]
    have : ts.all taskOk = true := List.all_eq_true.2 fun t ht => by
      obtain ⟨j, hj, rfl⟩ := List.getElem_of_mem ht
      exact hall j hj (by omega)
    simp [programOk, this]

structure Store where
  charge : Int
  cap : Int
  on : Int
  leak : Int
def encStore (s : Store) : List V := [.int .i64 s.charge, .int .i64 s.cap, .int .i64 s.on, .int .i64 s.leak]
def storeOk (s : Store) : Bool := within s.cap 1 5000 && within s.charge 0 s.cap && within s.on 1 s.cap && within s.leak 0 100
theorem storeOk_c (s : Store) : CP Tryz.prog 68 [.agg (encStore s)] (.bool (storeOk s)) [] := by
  obtain ⟨ch, cap, on, lk⟩ := s
  refine CP.by rfl mixed (cfn_ok Tryz.func68 ok68) rfl ?_
  simp (disch := omega) only [s68, go_sem, encStore]
  repeat' (first | (refine CP.go (within_c _ _ _) rfl rfl ?_ <;> (try simp (disch := omega) only [go_sem])) | (refine condP_t (by assumption) ?_ <;> (try simp (disch := omega) only [go_sem])) | (refine condP_f (by assumption) ?_ <;> (try simp (disch := omega) only [go_sem])) | (refine condP_dec (fun h => ?_) (fun h => ?_) <;> (try simp (disch := omega) only [go_sem])) | (refine condP_split (fun h => ?_) (fun h => ?_) <;> (try simp (disch := omega) only [go_sem])))
  all_goals simp_all [storeOk]
theorem storeOk_s (s : Store) : CP Tryz.prog 108 [.agg (encStore s)] (.bool (storeOk s)) [] := by
  obtain ⟨ch, cap, on, lk⟩ := s
  refine CP.by rfl mixed (cfn_ok Tryz.func108 ok108) rfl ?_
  simp (disch := omega) only [s108, go_sem, encStore]
  repeat' (first | (refine CP.go (l01In_c _ _ _) rfl rfl ?_ <;> (try simp (disch := omega) only [go_sem])) | (refine condP_t (by assumption) ?_ <;> (try simp (disch := omega) only [go_sem])) | (refine condP_f (by assumption) ?_ <;> (try simp (disch := omega) only [go_sem])) | (refine condP_dec (fun h => ?_) (fun h => ?_) <;> (try simp (disch := omega) only [go_sem])) | (refine condP_split (fun h => ?_) (fun h => ?_) <;> (try simp (disch := omega) only [go_sem])))
  all_goals simp_all [storeOk]
noncomputable def overB (on : Int) (tk : Task) : Bool := decide (on < bootB tk)
noncomputable def certM (ts : List Task) (s : Store) : Bool := programOk ts && storeOk s && !ts.any (overB s.on)
theorem refs_store (n : Nat) (s : Store) : V.refsL n (encStore s) = true := rfl
theorem refs_prog (n : Nat) (ts : List Task) : V.refs n (.agg [.lst 4 (ts.map encTask)]) = true := by simp [V.refs, V.refsL, refsLL_map encTask (refs_task n) ts]
theorem refs_prog1 (n : Nat) (ts : List Task) : V.refsL n [.agg [.lst 4 (ts.map encTask)]] = true := by simp only [V.refsL, refs_prog]; rfl
theorem refs_cert (n : Nat) (ts : List Task) (s : Store) : V.refsL n [.agg [.lst 4 (ts.map encTask)], .agg (encStore s)] = true := by simp only [V.refsL, refs_prog]; rfl
theorem over_c (h : Heap) (tk : Task) (id : Nat) (s : Store) (hb : tk.body.length ≤ 1048576) (hs : h[id]? = some [encStore s]) : C Tryz.prog 70 [.agg (encTask tk), .ptr id 1 0 0] h (fun r h' => r = .bool (overB s.on tk) ∧ Ext h h') := by
  refine C.by mixed (cfn_ok Tryz.func70 ok70) rfl ?_
  simp only [encStore] at hs
  have hs' := fun t => heap_app (h' := t) hs
  simp (disch := omega) only [s70, go_sem, encTask, hs']
  refine CP.go (bootB_c tk hb) rfl (refs_task1 _ tk) ?_
  simp (disch := omega) only [go_sem, encTask, hs']
  exact ⟨rfl, Ext.app _ _⟩
theorem cert_c (ts : List Task) (s : Store) (hl : ts.length ≤ 1048576) (hb : ∀ t ∈ ts, t.body.length ≤ 1048576) : CP Tryz.prog 17 [.agg [.lst 4 (ts.map encTask)], .agg (encStore s)] (.bool (certM ts s)) [] := by
  have hb' : ∀ t ∈ ts, t.body.length ≤ 9223372036854775807 := fun t ht => by have := hb t ht; omega
  refine CP.by rfl mixed (cfn_ok Tryz.func17 ok17) rfl ?_
  simp (disch := omega) only [s17, go_sem, encStore]
  refine CP.go (programOk_c ts hl hb') rfl (refs_prog1 _ ts) ?_
  simp (disch := omega) only [go_sem, encStore]
  refine condP_split (fun hp => ?_) (fun hp => ?_)
  case' refine_2 =>
    simp (disch := omega) only [go_sem, hp]
    simp [certM, hp]
  simp (disch := omega) only [go_sem, encStore, hp]
  refine CP.go (storeOk_c s) rfl rfl ?_
  simp (disch := omega) only [go_sem, encStore, hp]
  refine condP_split (fun hs => ?_) (fun hs => ?_)
  case' refine_2 =>
    simp (disch := omega) only [go_sem, hp, hs]
    simp [certM, hs]
  simp (disch := omega) only [go_sem, encStore, hp, hs]
  refine C.go (containsTaskF_c 70 [.ptr 1 1 0 0] (overB s.on) ts (fun t ht h' X => over_c h' t 1 s (hb t ht) (X.get rfl)) (by omega)) ?_
  rintro r h' ⟨rfl, X⟩
  simp (disch := omega) only [go_sem, encStore, hp, hs]
  simp [certM, hp, hs]
theorem cert_s (ts : List Task) (s : Store) (hl : ts.length ≤ 1048576) (hb : ∀ t ∈ ts, t.body.length ≤ 1048576) : CP Tryz.prog 43 [.agg [.lst 4 (ts.map encTask)], .agg (encStore s)] (.bool (certM ts s)) [] := by
  have hb' : ∀ t ∈ ts, t.body.length ≤ 9223372036854775807 := fun t ht => by have := hb t ht; omega
  refine CP.by rfl mixed (cfn_ok Tryz.func43 ok43) rfl ?_
  simp (disch := omega) only [s43, go_sem, encStore]
  refine CP.go (programOk_s ts hl hb') rfl (refs_prog1 _ ts) ?_
  simp (disch := omega) only [go_sem, encStore]
  refine condP_split (fun hp => ?_) (fun hp => ?_)
  case' refine_2 =>
    simp (disch := omega) only [go_sem, hp]
    simp [certM, hp]
  simp (disch := omega) only [go_sem, encStore, hp]
  refine CP.go (storeOk_s s) rfl rfl ?_
  simp (disch := omega) only [go_sem, encStore, hp]
  refine condP_split (fun hs => ?_) (fun hs => ?_)
  case' refine_2 =>
    simp (disch := omega) only [go_sem, hp, hs]
    simp [certM, hs]
  simp (disch := omega) only [go_sem, encStore, hp, hs]
  refine loopP_intro (fun m st => ∃ k : Nat, k ≤ ts.length ∧ m = ts.length - k ∧ st.e 2 = .ptr 0 1 0 0 ∧ st.e 3 = .ptr 1 1 0 0 ∧ st.e 5 = .int .i64 k ∧ st.h[0]? = some [[.lst 4 (ts.map encTask)]] ∧ st.h[1]? = some [encStore s] ∧ ∀ j (hj : j < ts.length), j < k → overB s.on ts[j] = false) ts.length ⟨0, by omega, by omega, rfl, rfl, by simp (disch := omega) only [go_sem, encStore, hp, hs]; rfl, rfl, rfl, fun j _ h => absurd h (by omega)⟩ ?_
  rintro m e hh ⟨k, hk, rfl, e2, e3, e5, h0, h1, hall⟩
  simp only [encStore] at e2 e3 e5 h0 h1
  simp (disch := omega) only [go_sem, e2, e3, e5, h0, h1]
  refine condP_dec (fun hlt => ?_) (fun hlt => ?_)
  · have hlt' : k < ts.length := by omega
    simp (disch := omega) only [go_sem, e2, e3, e5, h0, h1, encTask]
    refine CP.go (bootB_s ts[k] (hb _ (List.getElem_mem hlt'))) rfl (refs_task1 _ ts[k]) ?_
    simp (disch := omega) only [go_sem, e2, e3, e5, h0, h1, encTask]
    refine condP_dec (fun ho => ?_) (fun ho => ?_)
    · simp (disch := omega) only [go_sem, e2, e3, e5, h0, h1, encTask]
      have : ts.any (overB s.on) = true := List.any_eq_true.2 ⟨ts[k], List.getElem_mem hlt', by simpa [overB] using ho⟩
      simp [certM, this]
    · simp (disch := omega) only [go_sem, e2, e3, e5, h0, h1, encTask]
      refine nextP_intro (ts.length - (k + 1)) (by omega) ⟨k + 1, by omega, rfl, by simp (disch := omega) only [go_sem, e2, e3, e5, h0, h1, encTask], by simp (disch := omega) only [go_sem, e2, e3, e5, h0, h1, encTask], by simp (disch := omega) only [go_sem, e2, e3, e5, h0, h1, encTask]; rfl, h0, h1, fun j hj hjk => ?_⟩
      by_cases e : j = k
      · subst e; simp only [overB, decide_eq_false_iff_not]; exact ho
      · exact hall j hj (by omega)
  · simp (disch := omega) only [go_sem, e2, e3, e5, h0, h1]
    have : ts.any (overB s.on) = false := List.any_eq_false.2 fun t ht => by
      obtain ⟨j, hj, rfl⟩ := List.getElem_of_mem ht
      rw [hall j hj (by omega)]; simp
    simp [certM, hp, hs, this]
noncomputable def mostB (ts : List Task) : Int := ts.foldl (fun n t => max n (bootB t)) 0
theorem most_take {ts : List Task} {k : Nat} (h : k < ts.length) : mostB (ts.take (k + 1)) = max (mostB (ts.take k)) (bootB ts[k]) := by
  unfold mostB
  rw [List.take_succ_eq_append_getElem h, List.foldl_append]; rfl
theorem most_from : ∀ (ts : List Task) (n : Int), 0 ≤ n → n ≤ 2300000000200 → 0 ≤ ts.foldl (fun n t => max n (bootB t)) n ∧ ts.foldl (fun n t => max n (bootB t)) n ≤ 2300000000200
  | [], n, h0, h1 => ⟨h0, h1⟩
  | t :: ts, n, h0, h1 => by
    have := bootB_bd t
    have hb := bootB_bd t
    exact most_from ts (max n (bootB t)) (by omega) (by omega)
theorem most_bd (ts : List Task) : 0 ≤ mostB ts ∧ mostB ts ≤ 2300000000200 := most_from ts 0 (by omega) (by omega)
noncomputable def slackM (ts : List Task) (s : Store) : Int := if certM ts s = true then s.on - mostB ts else -1
theorem cert_facts {ts : List Task} {s : Store} (h : certM ts s = true) : programOk ts = true ∧ storeOk s = true ∧ (0 ≤ s.on ∧ s.on ≤ 5000) := by
  simp only [certM, Bool.and_eq_true] at h
  refine ⟨h.1.1, h.1.2, ?_⟩
  have := h.1.2
  simp only [storeOk, within, Bool.and_eq_true, decide_eq_true_eq] at this
  omega
theorem slack_c (ts : List Task) (s : Store) (hl : ts.length ≤ 1048576) (hb : ∀ t ∈ ts, t.body.length ≤ 1048576) : CP Tryz.prog 18 [.agg [.lst 4 (ts.map encTask)], .agg (encStore s)] (.int .i64 (slackM ts s)) [] := by
  refine CP.by rfl mixed (cfn_ok Tryz.func18 ok18) rfl ?_
  simp (disch := omega) only [s18, go_sem, encStore]
  refine CP.go (cert_c ts s hl hb) rfl (refs_cert _ ts s) ?_
  simp (disch := omega) only [go_sem, encStore]
  refine condP_split (fun hc => ?_) (fun hc => ?_)
  case' refine_2 =>
    simp (disch := omega) only [go_sem, encStore]
    simp [slackM, hc]
  have hon := (cert_facts hc).2.2
  simp (disch := omega) only [go_sem, encStore]
  refine loopP_intro (fun m st => ∃ k : Nat, k ≤ ts.length ∧ m = ts.length - k ∧ st.e 3 = .ptr 1 1 0 0 ∧ st.e 5 = .int .i64 (mostB (ts.take k)) ∧ st.e 13 = .lst 4 (ts.map encTask) ∧ st.e 14 = .int .i64 ts.length ∧ st.e 15 = .int .i64 k ∧ st.h[1]? = some [encStore s]) ts.length ⟨0, by omega, by omega, rfl, by simp (disch := omega) only [go_sem, encStore]; rfl, by simp (disch := omega) only [go_sem, encStore], by simp (disch := omega) only [go_sem, encStore], by simp (disch := omega) only [go_sem, encStore]; rfl, rfl⟩ ?_
  rintro m e hh ⟨k, hk, rfl, e3, e5, e13, e14, e15, h1⟩
  simp only at e3 e5 e13 e14 e15 h1
  simp (disch := omega) only [go_sem, e3, e5, e13, e14, e15]
  refine condP_dec (fun hlt => ?_) (fun hlt => ?_)
  · have hlt' : k < ts.length := by omega
    have hmt := most_take hlt'
    have hz := storeBox (h := hh) (z := [.nils, .int .i64 0, .int .i64 0, .int .i64 0]) (x := .agg (encTask ts[k])) (sz := 4) rfl rfl
    simp only [cells_agg, encTask] at hz
    simp (disch := omega) only [go_sem, e3, e5, e13, e14, e15, hz, encTask]
    refine CP.go (bootB_c ts[k] (hb _ (List.getElem_mem hlt'))) rfl (refs_task1 _ ts[k]) ?_
    simp (disch := omega) only [go_sem, e3, e5, e13, e14, e15, hz, encTask]
    exact nextP_intro (ts.length - (k + 1)) (by omega) ⟨k + 1, by omega, rfl, by simp (disch := omega) only [go_sem, e3, e5, e13, e14, e15, hz, encTask], by rw [hmt]; simp (disch := omega) only [go_sem, e3, e5, e13, e14, e15, hz, encTask], by simp (disch := omega) only [go_sem, e3, e5, e13, e14, e15, hz, encTask], by simp (disch := omega) only [go_sem, e3, e5, e13, e14, e15, hz, encTask], by simp (disch := omega) only [go_sem, e3, e5, e13, e14, e15, hz, encTask]; rfl, heap_app h1⟩
  · have : k = ts.length := by omega
    subst this
    rw [List.take_length] at e5
    have hmb := most_bd ts
    simp only [encStore] at h1
    simp (disch := omega) only [go_sem, e3, e5, e13, e14, e15, h1]
    simp [slackM, hc]
theorem slack_s (ts : List Task) (s : Store) (hl : ts.length ≤ 1048576) (hb : ∀ t ∈ ts, t.body.length ≤ 1048576) : CP Tryz.prog 49 [.agg [.lst 4 (ts.map encTask)], .agg (encStore s)] (.int .i64 (slackM ts s)) [] := by
  refine CP.by rfl mixed (cfn_ok Tryz.func49 ok49) rfl ?_
  simp (disch := omega) only [s49, go_sem, encStore]
  refine CP.go (cert_s ts s hl hb) rfl (refs_cert _ ts s) ?_
  simp (disch := omega) only [go_sem, encStore]
  refine condP_split (fun hc => ?_) (fun hc => ?_)
  case' refine_2 =>
    simp (disch := omega) only [go_sem, encStore]
    simp [slackM, hc]
  have hon := (cert_facts hc).2.2
  simp (disch := omega) only [go_sem, encStore]
  refine loopP_intro (fun m st => ∃ k : Nat, k ≤ ts.length ∧ m = ts.length - k ∧ st.e 2 = .ptr 0 1 0 0 ∧ st.e 3 = .ptr 1 1 0 0 ∧ st.e 5 = .int .i64 (mostB (ts.take k)) ∧ st.e 6 = .int .i64 k ∧ st.h[0]? = some [[.lst 4 (ts.map encTask)]] ∧ st.h[1]? = some [encStore s]) ts.length ⟨0, by omega, by omega, rfl, rfl, by simp (disch := omega) only [go_sem, encStore]; rfl, by simp (disch := omega) only [go_sem, encStore]; rfl, rfl, rfl⟩ ?_
  rintro m e hh ⟨k, hk, rfl, e2, e3, e5, e6, h0, h1⟩
  simp only at e2 e3 e5 e6 h0 h1
  simp (disch := omega) only [go_sem, e2, e3, e5, e6, h0]
  refine condP_dec (fun hlt => ?_) (fun hlt => ?_)
  · have hlt' : k < ts.length := by omega
    have hmt := most_take hlt'
    simp (disch := omega) only [go_sem, e2, e3, e5, e6, h0, encTask]
    refine CP.go (bootB_s ts[k] (hb _ (List.getElem_mem hlt'))) rfl (refs_task1 _ ts[k]) ?_
    simp (disch := omega) only [go_sem, e2, e3, e5, e6, h0, encTask]
    exact nextP_intro (ts.length - (k + 1)) (by omega) ⟨k + 1, by omega, rfl, by simp (disch := omega) only [go_sem, e2, e3, e5, e6, h0, encTask], by simp (disch := omega) only [go_sem, e2, e3, e5, e6, h0, encTask], by rw [hmt]; simp (disch := omega) only [go_sem, e2, e3, e5, e6, h0, encTask], by simp (disch := omega) only [go_sem, e2, e3, e5, e6, h0, encTask]; rfl, h0, h1⟩
  · have : k = ts.length := by omega
    subst this
    rw [List.take_length] at e5
    have hmb := most_bd ts
    simp only [encStore] at h1
    simp (disch := omega) only [go_sem, e2, e3, e5, e6, h1]
    simp [slackM, hc]
end Go.Av

namespace Go.Av
open Go.Proofs Go.RowKit
set_option linter.unusedVariables false
set_option linter.unusedSimpArgs false
set_option maxRecDepth 100000
theorem cut_step {xs : List Stmt} {k : Nat} (h : k < xs.length) : cutM xs (xs.length - k) k = (if depthOf xs k = 0 ∧ ¬ xs[k].kind = 6 then [(k : Int)] else []) ++ cutM xs (xs.length - (k + 1)) (k + 1) := by
  have e : xs.length - k = (xs.length - (k + 1)) + 1 := by omega
  rw [e]
  have e2 : (∀ h : k < xs.length, xs[k].kind = 6) ↔ xs[k].kind = 6 := ⟨fun g => g h, fun g _ => g⟩
  simp only [cutM, e2]
abbrev cutInv (xs : List Stmt) (sl sk : Nat) (m : Nat) (s : St) : Prop :=
  ∃ (k id : Nat) (cs : List Int), 1 ≤ k ∧ (k ≤ xs.length ∨ k = 1) ∧ m = xs.length - k ∧ cs.length ≤ k ∧ s.e 0 = .lst 6 (xs.map encStmt) ∧ s.e sk = .int .i64 k ∧ s.e sl = .own id 1 0 cs.length cs.length ∧ s.h[id]? = some (cs.map encI) ∧ cs ++ cutM xs (xs.length - k) k = cutM xs (xs.length - 1) 1
set_option maxHeartbeats 4000000 in
theorem cutPoints_c (xs : List Stmt) (hx : xs.length ≤ 1048576) (hb : blockOk xs = true) : CP Tryz.prog 25 [.lst 6 (xs.map encStmt)] (.own 0 1 0 (cutsM xs).length (cutsM xs).length) [(cutsM xs).map encI] := by
  have hcm : cutsM xs = cutM xs (xs.length - 1) 1 := by unfold cutsM; rw [if_pos hb]
  refine C.cpOwn (flat_encI _) (C.by mixed (cfn_ok Tryz.func25 ok25) rfl ?_)
  simp (disch := omega) only [s25, go_sem]
  refine CP.go (blockOk_c xs (by omega)) rfl (refs_arg _ _) ?_
  simp (disch := omega) only [go_sem, hb]
  refine loopP_intro (cutInv xs 3 4) (xs.length - 1) ⟨1, 0, [], by omega, by omega, rfl, by simp, rfl, rfl, rfl, rfl, rfl⟩ ?_
  rintro m e hp ⟨k, id, cs, hk1, hk2, rfl, hcl, e0, e4, e3, hid, hcs⟩
  simp only at e0 e4 e3 hid
  simp (disch := omega) only [go_sem, e0, e4, e3, encStmt]
  refine condP_dec (fun hlt => ?_) (fun hlt => ?_)
  · have hlt' : k < xs.length := by omega
    rw [cut_step hlt'] at hcs
    simp (disch := omega) only [go_sem, e0, e4, e3, encStmt]
    refine CP.go (depthOf_c xs k (by omega)) rfl (refs_args _ _ _) ?_
    simp (disch := omega) only [go_sem, e0, e4, e3, encStmt]
    repeat' (first | (refine condP_t (by assumption) ?_ <;> (try simp (disch := omega) only [go_sem, e0, e4, e3, encStmt])) | (refine condP_f (by assumption) ?_ <;> (try simp (disch := omega) only [go_sem, e0, e4, e3, encStmt])) | (refine condP_dec (fun h => ?_) (fun h => ?_) <;> (try simp (disch := omega) only [go_sem, e0, e4, e3, encStmt])) | (refine condP_split (fun h => ?_) (fun h => ?_) <;> (try simp (disch := omega) only [go_sem, e0, e4, e3, encStmt])))
    · refine nextP_intro (xs.length - (k + 1)) (by omega) ⟨k + 1, id, cs, by omega, by omega, rfl, by omega, ?_, ?_, ?_, ?_, ?_⟩
      · simp (disch := omega) only [go_sem, e0, e4, e3, encStmt]
      · simp (disch := omega) only [go_sem, e0, e4, e3, encStmt] <;> rfl
      · simp (disch := omega) only [go_sem, e0, e4, e3, encStmt]
      · exact hid
      · rw [← hcs, if_neg (by simp_all)]; simp
    · rw [append1 hid (List.length_map ..) (by omega)]
      simp (disch := omega) only [go_sem, e0, e4, e3, encStmt]
      refine nextP_intro (xs.length - (k + 1)) (by omega) ⟨k + 1, id, cs ++ [(k : Int)], by omega, by omega, rfl, by simp; omega, ?_, ?_, ?_, ?_, ?_⟩
      · simp (disch := omega) only [go_sem, e0, e4, e3, encStmt]
      · simp (disch := omega) only [go_sem, e0, e4, e3, encStmt] <;> rfl
      · simp (disch := omega) only [go_sem, e0, e4, e3, encStmt] <;> simp
      · simp only [List.map_append]; exact heap_set _ (heap_app hid)
      · rw [← hcs, if_pos ⟨by assumption, by assumption⟩]; simp
    · refine nextP_intro (xs.length - (k + 1)) (by omega) ⟨k + 1, id, cs, by omega, by omega, rfl, by omega, ?_, ?_, ?_, ?_, ?_⟩
      · simp (disch := omega) only [go_sem, e0, e4, e3, encStmt]
      · simp (disch := omega) only [go_sem, e0, e4, e3, encStmt] <;> rfl
      · simp (disch := omega) only [go_sem, e0, e4, e3, encStmt]
      · exact hid
      · rw [← hcs, if_neg (by simp_all)]; simp
  · simp (disch := omega) only [go_sem, e0, e4, e3, encStmt]
    refine ⟨id, ?_, ?_⟩
    · have : xs.length - k = 0 := by omega
      rw [this] at hcs
      rw [hcm, ← hcs]; simp [cutM]
    · have : xs.length - k = 0 := by omega
      rw [this] at hcs
      rw [hcm, ← hcs]; simpa [cutM] using hid
end Go.Av

namespace Go.Av
open Go.Proofs Go.RowKit
set_option linter.unusedVariables false
set_option linter.unusedSimpArgs false
set_option maxRecDepth 100000
set_option maxHeartbeats 4000000
theorem cutPoints_n (xs : List Stmt) (hx : xs.length ≤ 1048576) (hb : blockOk xs = false) : CP Tryz.prog 25 [.lst 6 (xs.map encStmt)] .nils [] := by
  refine CP.by rfl mixed (cfn_ok Tryz.func25 ok25) rfl ?_
  simp (disch := omega) only [s25, go_sem]
  refine CP.go (blockOk_c xs (by omega)) rfl (refs_arg _ _) ?_
  simp (disch := omega) only [go_sem, hb]
theorem cutPoints_s (xs : List Stmt) (hx : xs.length ≤ 1048576) : CP Tryz.prog 26 [.lst 6 (xs.map encStmt)] (.own 0 1 0 (cutsM xs).length (cutsM xs).length) [(cutsM xs).map encI] := by
  refine C.cpOwn (flat_encI _) (C.by mixed (cfn_ok Tryz.func26 ok26) rfl ?_)
  simp (disch := omega) only [s26, go_sem]
  cases hb : blockOk xs
  · have hcm : cutsM xs = [] := by unfold cutsM; rw [hb]; rfl
    rw [hcm]
    refine loopP_intro (fun m s => m = 0 ∧ s.e 0 = .lst 6 (xs.map encStmt) ∧ s.e 4 = .int .i64 1 ∧ s.e 3 = .own 0 1 0 0 0 ∧ s.h[0]? = some []) 0 ⟨rfl, rfl, rfl, rfl, rfl⟩ ?_
    rintro m e hp ⟨rfl, e0, e4, e3, hid⟩
    simp only at e0 e4 e3 hid
    simp (disch := omega) only [go_sem, e0, e4, e3, encStmt]
    refine condP_dec (fun hlt => ?_) (fun hlt => ?_)
    · simp (disch := omega) only [go_sem, e0, e4, e3, encStmt]
      refine CP.go (blockOk_s xs (by omega)) rfl (refs_arg _ _) ?_
      simp (disch := omega) only [go_sem, hb, e0, e4, e3, encStmt]
      exact ⟨0, rfl, hid⟩
    · simp (disch := omega) only [go_sem, e0, e4, e3, encStmt]
      exact ⟨0, rfl, hid⟩
  · have hcm : cutsM xs = cutM xs (xs.length - 1) 1 := by unfold cutsM; rw [if_pos hb]
    refine loopP_intro (cutInv xs 3 4) (xs.length - 1) ⟨1, 0, [], by omega, by omega, rfl, by simp, rfl, rfl, rfl, rfl, rfl⟩ ?_
    rintro m e hp ⟨k, id, cs, hk1, hk2, rfl, hcl, e0, e4, e3, hid, hcs⟩
    simp only at e0 e4 e3 hid
    simp (disch := omega) only [go_sem, e0, e4, e3, encStmt]
    have fin : ¬ (k < xs.length) → ∃ id', V.own id 1 0 cs.length cs.length = .own id' 1 0 (cutsM xs).length (cutsM xs).length ∧ hp[id']? = some ((cutsM xs).map encI) := fun hlt => by
      have : xs.length - k = 0 := by omega
      rw [this] at hcs
      have hcs' : cs = cutM xs (xs.length - 1) 1 := by rw [← hcs]; simp [cutM]
      rw [hcm, ← hcs']
      exact ⟨id, rfl, hid⟩
    refine condP_dec (fun hlt => ?_) (fun hlt => ?_)
    · have hlt' : k < xs.length := by omega
      rw [cut_step hlt'] at hcs
      simp (disch := omega) only [go_sem, e0, e4, e3, encStmt]
      refine CP.go (blockOk_s xs (by omega)) rfl (refs_arg _ _) ?_
      simp (disch := omega) only [go_sem, hb, e0, e4, e3, encStmt]
      repeat' (first | (refine CP.go (depthOf_s xs k (by omega)) rfl (refs_args _ _ _) ?_ <;> simp (disch := omega) only [go_sem, e0, e4, e3, encStmt]) | (refine condP_t (by assumption) ?_ <;> (try simp (disch := omega) only [go_sem, e0, e4, e3, encStmt])) | (refine condP_f (by assumption) ?_ <;> (try simp (disch := omega) only [go_sem, e0, e4, e3, encStmt])) | (refine condP_dec (fun h => ?_) (fun h => ?_) <;> (try simp (disch := omega) only [go_sem, e0, e4, e3, encStmt])) | (refine condP_split (fun h => ?_) (fun h => ?_) <;> (try simp (disch := omega) only [go_sem, e0, e4, e3, encStmt])))
      all_goals first
        | (rw [append1 hid (List.length_map ..) (by omega)]
           simp (disch := omega) only [go_sem, e0, e4, e3, encStmt]
           refine nextP_intro (xs.length - (k + 1)) (by omega) ⟨k + 1, id, cs ++ [(k : Int)], by omega, by omega, rfl, by simp; omega, ?_, ?_, ?_, ?_, ?_⟩
           · simp (disch := omega) only [go_sem, e0, e4, e3, encStmt]
           · simp (disch := omega) only [go_sem, e0, e4, e3, encStmt] <;> rfl
           · simp (disch := omega) only [go_sem, e0, e4, e3, encStmt] <;> simp
           · simp only [List.map_append]; exact heap_set _ (heap_app hid)
           · rw [← hcs, if_pos ⟨by assumption, by assumption⟩]; simp)
        | (refine nextP_intro (xs.length - (k + 1)) (by omega) ⟨k + 1, id, cs, by omega, by omega, rfl, by omega, ?_, ?_, ?_, ?_, ?_⟩
           · simp (disch := omega) only [go_sem, e0, e4, e3, encStmt]
           · simp (disch := omega) only [go_sem, e0, e4, e3, encStmt] <;> rfl
           · simp (disch := omega) only [go_sem, e0, e4, e3, encStmt]
           · exact hid
           · rw [← hcs, if_neg (by simp_all)]; simp)
    · simp (disch := omega) only [go_sem, e0, e4, e3, encStmt]
      exact fin (by omega)
theorem toExpr_c (e : Expr) : CP Tryz.prog 213 [.agg (encExpr e)] (.agg (encExpr e)) [] := by
  obtain ⟨op, a, b⟩ := e
  refine CP.by rfl mixed (cfn_ok Tryz.func213 ok213) rfl ?_
  simp (disch := omega) only [s213, go_sem, encExpr, storeH, storeB, splice]
theorem toStmt_c (s : Stmt) : CP Tryz.prog 239 [.agg (encStmt s)] (.agg (encStmt s)) [] := by
  obtain ⟨kind, var, n, ⟨op, a, b⟩⟩ := s
  refine CP.by rfl mixed (cfn_ok Tryz.func239 ok239) rfl ?_
  simp (disch := omega) only [s239, go_sem, encStmt, encExpr, storeH, storeB, splice]
  refine CP.go (toExpr_c ⟨op, a, b⟩) rfl rfl ?_
  simp (disch := omega) only [go_sem, encStmt, encExpr, storeH, storeB, splice]
def eqExprB (x y : Expr) : Bool := decide (x.op = y.op) && decide (x.a = y.a) && decide (x.b = y.b)
def eqStmtB (x y : Stmt) : Bool := decide (x.kind = y.kind) && decide (x.var = y.var) && decide (x.n = y.n) && eqExprB x.e y.e
theorem eqExpr_c (x y : Expr) : CP Tryz.prog 215 [.agg (encExpr x), .agg (encExpr y)] (.bool (eqExprB x y)) [] := by
  obtain ⟨op, a, b⟩ := x
  obtain ⟨op', a', b'⟩ := y
  refine CP.by rfl mixed (cfn_ok Tryz.func215 ok215) rfl ?_
  simp (disch := omega) only [s215, go_sem, encExpr]
  repeat' (first | (refine condP_t (by assumption) ?_ <;> (try simp (disch := omega) only [go_sem])) | (refine condP_f (by assumption) ?_ <;> (try simp (disch := omega) only [go_sem])) | (refine condP_dec (fun h => ?_) (fun h => ?_) <;> (try simp (disch := omega) only [go_sem])) | (refine condP_split (fun h => ?_) (fun h => ?_) <;> (try simp (disch := omega) only [go_sem])))
  all_goals simp_all [eqExprB]
theorem eqStmt_c (x y : Stmt) : CP Tryz.prog 240 [.agg (encStmt x), .agg (encStmt y)] (.bool (eqStmtB x y)) [] := by
  obtain ⟨kind, var, n, ⟨op, a, b⟩⟩ := x
  obtain ⟨kind', var', n', ⟨op', a', b'⟩⟩ := y
  refine CP.by rfl mixed (cfn_ok Tryz.func240 ok240) rfl ?_
  simp (disch := omega) only [s240, go_sem, encStmt, encExpr]
  repeat' (first | (refine CP.go (eqExpr_c ⟨op, a, b⟩ ⟨op', a', b'⟩) rfl rfl ?_ <;> (try simp (disch := omega) only [go_sem])) | (refine condP_t (by assumption) ?_ <;> (try simp (disch := omega) only [go_sem])) | (refine condP_f (by assumption) ?_ <;> (try simp (disch := omega) only [go_sem])) | (refine condP_dec (fun h => ?_) (fun h => ?_) <;> (try simp (disch := omega) only [go_sem])) | (refine condP_split (fun h => ?_) (fun h => ?_) <;> (try simp (disch := omega) only [go_sem])))
  all_goals simp_all [eqStmtB]
end Go.Av

namespace Go.Av
open Go.Proofs Go.RowKit
set_option linter.unusedVariables false
set_option linter.unusedSimpArgs false
set_option maxRecDepth 100000
set_option maxHeartbeats 4000000
theorem half_set {α : Type} {xs : List α} {k : Nat} (f : α → List V) (z : List V) (hk : k < xs.length) : ((xs.take k).map f ++ List.replicate (xs.length - k) z).set k (f xs[k]) = (xs.take (k + 1)).map f ++ List.replicate (xs.length - (k + 1)) z := by
  have e1 : xs.length - k = (xs.length - (k + 1)) + 1 := by omega
  have e2 : ((xs.take k).map f).length = k := by simp; omega
  rw [e1, List.replicate_succ, List.set_append_right _ _ (by omega), e2, Nat.sub_self, List.set_cons_zero, List.take_succ_eq_append_getElem hk, List.map_append, List.append_assoc]
  rfl
theorem half_len {α : Type} {xs : List α} {k : Nat} (f : α → List V) (z : List V) (hk : k ≤ xs.length) : ((xs.take k).map f ++ List.replicate (xs.length - k) z).length = xs.length := by simp; omega
theorem half_sz {α : Type} {xs : List α} {k sz : Nat} {f : α → List V} {z : List V} (hf : ∀ x, (f x).length = sz) (hz : z.length = sz) : ∀ e ∈ (xs.take k).map f ++ List.replicate (xs.length - k) z, e.length = sz := fun e he => by
  rcases List.mem_append.1 he with h1 | h1
  · obtain ⟨s, _, rfl⟩ := List.mem_map.1 h1; exact hf s
  · rw [(List.mem_replicate.1 h1).2]; exact hz
theorem CP.f {P : Program} {f : FuncId} {args : List V} {sz n : Nat} {b : Blk} (hf : flat b = true) (hn : b.length = n) (h : CP P f args (.own 0 sz 0 n n) [b]) : F P f args (.lst sz b) :=
  C.mono h fun r h' ⟨_, _, g, _, e, hg⟩ => by
    subst e hn
    have := hg 0 b rfl
    rw [mapLL_refs0 (flat_refs 0 hf)] at this
    exact ⟨[g 0], by simp, Owns.own_flat this rfl hf⟩
theorem nin_ge {ids : List Nat} {n j : Nat} (h : ∀ i ∈ ids, n ≤ i) (hj : j < n) : j ∉ ids := fun hm => by have := h j hm; omega
def szM (n : Nat) (left : Int) : Int := if left - n < 0 then -1 else left - n
theorem szM_bd (n : Nat) (left : Int) (h : 0 ≤ left ∧ left ≤ 1048576) : -1 ≤ szM n left ∧ szM n left ≤ 1048576 := by unfold szM; split <;> omega
theorem szM_ok {n : Nat} {left : Int} (h : left ≤ 1048576) (h0 : ¬ szM n left < 0) : n ≤ 1048576 := by unfold szM at h0; split at h0 <;> omega
theorem flat_Stmt (xs : List Stmt) : flat (xs.map encStmt) = true := by simp [flat, encStmt, V.scalar]
theorem refs_stmts1 (n : Nat) (xs : List Stmt) : V.refsL n [.lst 6 (xs.map encStmt)] = true := refs_arg _ _
theorem refs_stmtsI (n : Nat) (xs : List Stmt) (k : Int) : V.refsL n [.lst 6 (xs.map encStmt), .int .i64 k] = true := by simp [V.refsL, V.refs, refsLL_map encStmt (refs_stmt n) xs]
theorem refs_taskI (n : Nat) (t : Task) (k : Int) : V.refsL n [.agg (encTask t), .int .i64 k] = true := by simp [V.refsL, V.refs, refs_task]
theorem refs_tasksI (n : Nat) (ts : List Task) (k : Int) : V.refsL n [.lst 4 (ts.map encTask), .int .i64 k] = true := by simp [V.refsL, V.refs, refsLL_map encTask (refs_task n) ts]
theorem refs_tasksV (n : Nat) (ts : List Task) : V.refs n (.lst 4 (ts.map encTask)) = true := by simp [V.refs, refsLL_map encTask (refs_task n) ts]
theorem szStmtS_c (xs : List Stmt) (left : Int) (hx : xs.length ≤ 9223372036854775807) (hl : 0 ≤ left ∧ left ≤ 1048576) : CP Tryz.prog 206 [.lst 6 (xs.map encStmt), .int .i64 left] (.int .i64 (szM xs.length left)) [] := by
  refine CP.by rfl mixed (cfn_ok Tryz.func206 ok206) rfl ?_
  simp (disch := omega) only [s206, go_sem]
  refine condP_dec (fun h => ?_) (fun h => ?_) <;> simp (disch := omega) only [go_sem] <;> simp [szM, h]
theorem szTask_c (t : Task) (left : Int) (hx : t.body.length ≤ 9223372036854775807) (hl : 0 ≤ left ∧ left ≤ 1048576) : CP Tryz.prog 168 [.agg (encTask t), .int .i64 left] (.int .i64 (szM t.body.length left)) [] := by
  obtain ⟨body, ⟨op, a, b⟩⟩ := t
  simp only at hx
  have hb := szM_bd body.length left hl
  refine CP.by rfl mixed (cfn_ok Tryz.func168 ok168) rfl ?_
  simp (disch := omega) only [s168, go_sem, encTask]
  refine CP.go (szStmtS_c body left hx hl) rfl (refs_stmtsI _ _ _) ?_
  simp (disch := omega) only [go_sem]
  refine condP_dec (fun h => ?_) (fun h => ?_)
  · simp (disch := omega) only [go_sem]
    congr 1; omega
  · simp (disch := omega) only [go_sem]
def szTs : List Task → Int → Int
  | [], l => l
  | t :: ts, l => if szM t.body.length l < 0 then -1 else szTs ts (szM t.body.length l)
def szTaskM (ts : List Task) (l : Int) : Int := if l - ts.length < 0 then -1 else szTs ts (l - ts.length)
theorem szTs_bd : ∀ (ts : List Task) (l : Int), 0 ≤ l → l ≤ 1048576 → -1 ≤ szTs ts l ∧ szTs ts l ≤ 1048576
  | [], l, h0, h1 => ⟨by simp only [szTs]; omega, h1⟩
  | t :: ts, l, h0, h1 => by
    have hb := szM_bd t.body.length l ⟨h0, h1⟩
    simp only [szTs]; split
    · omega
    · exact szTs_bd ts (szM t.body.length l) (by omega) hb.2
theorem szTaskM_bd (ts : List Task) (l : Int) (h : 0 ≤ l ∧ l ≤ 1048576) : -1 ≤ szTaskM ts l ∧ szTaskM ts l ≤ 1048576 := by
  unfold szTaskM; split
  · omega
  · exact szTs_bd ts (l - ts.length) (by omega) (by omega)
theorem szTs_in : ∀ (ts : List Task) (l : Int), 0 ≤ l → l ≤ 1048576 → ¬ szTs ts l < 0 → ∀ t ∈ ts, t.body.length ≤ 1048576
  | [], l, _, _, _, t, ht => absurd ht List.not_mem_nil
  | t :: ts, l, h0, h1, hn, u, hu => by
    have hb := szM_bd t.body.length l ⟨h0, h1⟩
    simp only [szTs] at hn
    split at hn
    · omega
    · rename_i hk
      rcases List.mem_cons.1 hu with h | h
      · subst h; exact szM_ok h1 hk
      · exact szTs_in ts (szM t.body.length l) (by omega) hb.2 hn u h
theorem szTask_in {ts : List Task} {l : Int} (h : 0 ≤ l ∧ l ≤ 1048576) (hn : ¬ szTaskM ts l < 0) : ts.length ≤ 1048576 ∧ ∀ t ∈ ts, t.body.length ≤ 1048576 := by
  unfold szTaskM at hn; split at hn
  · omega
  · exact ⟨by omega, szTs_in ts (l - ts.length) (by omega) (by omega) hn⟩
theorem szTaskS_c (ts : List Task) (left : Int) (hx : ts.length ≤ 9223372036854775807) (hb : ∀ t ∈ ts, t.body.length ≤ 9223372036854775807) (hl : 0 ≤ left ∧ left ≤ 1048576) : CP Tryz.prog 97 [.lst 4 (ts.map encTask), .int .i64 left] (.int .i64 (szTaskM ts left)) [] := by
  refine CP.by rfl mixed (cfn_ok Tryz.func97 ok97) rfl ?_
  simp (disch := omega) only [s97, go_sem]
  refine condP_dec (fun h => ?_) (fun h => ?_)
  · simp (disch := omega) only [go_sem]
    simp only [szTaskM]; rw [if_pos h]
  simp (disch := omega) only [go_sem]
  have hM : szTaskM ts left = szTs ts (left - ts.length) := by simp only [szTaskM]; rw [if_neg h]
  refine loopP_intro (fun m s => ∃ k : Nat, ∃ l : Int, k ≤ ts.length ∧ m = ts.length - k ∧ s.e 0 = .lst 4 (ts.map encTask) ∧ s.e 1 = .int .i64 l ∧ s.e 5 = .int .i64 k ∧ 0 ≤ l ∧ l ≤ 1048576 ∧ szTaskM ts left = szTs (ts.drop k) l) ts.length ⟨0, left - ts.length, by omega, by omega, rfl, rfl, rfl, by omega, by omega, hM⟩ ?_
  rintro m e hp ⟨k, l, hk, rfl, e0, e1, e5, l0, l1, hr⟩
  simp only at e0 e1 e5
  simp (disch := omega) only [go_sem, e0, e1, e5, encTask]
  refine condP_dec (fun hlt => ?_) (fun hlt => ?_)
  · have hlt' : k < ts.length := by omega
    have hm := szM_bd ts[k].body.length l ⟨l0, l1⟩
    rw [List.drop_eq_getElem_cons hlt', szTs] at hr
    simp (disch := omega) only [go_sem, e0, e1, e5, encTask]
    refine CP.go (szTask_c ts[k] l (hb _ (List.getElem_mem hlt')) ⟨l0, l1⟩) rfl (refs_taskI _ ts[k] _) ?_
    simp (disch := omega) only [go_sem, e0, e1, e5, encTask]
    refine condP_dec (fun h2 => ?_) (fun h2 => ?_)
    · simp (disch := omega) only [go_sem, e0, e1, e5, encTask]
      rw [if_pos h2] at hr
      rw [hr]
    · simp (disch := omega) only [go_sem, e0, e1, e5, encTask]
      rw [if_neg h2] at hr
      exact nextP_intro (ts.length - (k + 1)) (by omega) ⟨k + 1, _, by omega, rfl, by simp (disch := omega) only [go_sem, e0, e1, e5, encTask], by simp (disch := omega) only [go_sem, e0, e1, e5, encTask], by simp (disch := omega) only [go_sem, e0, e1, e5, encTask]; rfl, by omega, by omega, hr⟩
  · simp (disch := omega) only [go_sem, e0, e1, e5, encTask]
    have : k = ts.length := by omega
    subst this
    rw [List.drop_length] at hr
    rw [hr]; rfl
theorem szProg_c (ts : List Task) (left : Int) (hx : ts.length ≤ 9223372036854775807) (hb : ∀ t ∈ ts, t.body.length ≤ 9223372036854775807) (hl : 0 ≤ left ∧ left ≤ 1048576) : CP Tryz.prog 37 [.agg [.lst 4 (ts.map encTask)], .int .i64 left] (.int .i64 (szTaskM ts left)) [] := by
  have hm := szTaskM_bd ts left hl
  refine CP.by rfl mixed (cfn_ok Tryz.func37 ok37) rfl ?_
  simp (disch := omega) only [s37, go_sem]
  refine CP.go (szTaskS_c ts left hx hb hl) rfl (refs_tasksI _ _ _) ?_
  simp (disch := omega) only [go_sem]
  refine condP_dec (fun h => ?_) (fun h => ?_)
  · simp (disch := omega) only [go_sem]
    congr 1; omega
  · simp (disch := omega) only [go_sem]
theorem toStmtS_c (xs : List Stmt) (hx : xs.length ≤ 1048576) : CP Tryz.prog 212 [.lst 6 (xs.map encStmt)] (.own 0 6 0 xs.length xs.length) [xs.map encStmt] := by
  refine C.cpOwn (flat_Stmt _) (C.by mixed (cfn_ok Tryz.func212 ok212) rfl ?_)
  simp (disch := omega) only [s212, go_sem]
  refine loopP_intro (fun m s => ∃ k : Nat, k ≤ xs.length ∧ m = xs.length - k ∧ s.e 0 = .lst 6 (xs.map encStmt) ∧ s.e 4 = .int .i64 k ∧ s.e 3 = .own 0 6 0 xs.length xs.length ∧ s.h[0]? = some ((xs.take k).map encStmt ++ List.replicate (xs.length - k) [.int .i64 0, .int .i64 0, .int .i64 0, .int .i64 0, .int .i64 0, .int .i64 0])) xs.length ⟨0, by omega, by omega, rfl, rfl, rfl, by simp⟩ ?_
  rintro m e hp ⟨k, hk, rfl, e0, e4, e3, hid⟩
  simp only at e0 e4 e3 hid
  simp (disch := omega) only [go_sem, e0, e4, e3, encStmt]
  refine condP_dec (fun hlt => ?_) (fun hlt => ?_)
  · have hlt' : k < xs.length := by omega
    simp (disch := omega) only [go_sem, e0, e4, e3, encStmt]
    refine CP.go (toStmt_c xs[k]) rfl rfl ?_
    simp (disch := omega) only [go_sem, e0, e4, e3, encStmt]
    have hst := storeH_row (sz := 6) (x := .agg (encStmt xs[k])) hid (half_len _ _ hk) hlt' (half_sz (fun _ => rfl) rfl) rfl
    simp only [encStmt, cells_agg] at hst
    simp (disch := omega) only [go_sem, e0, e4, e3, encStmt, hst]
    refine nextP_intro (xs.length - (k + 1)) (by omega) ⟨k + 1, by omega, rfl, ?_, ?_, ?_, ?_⟩
    · simp (disch := omega) only [go_sem, e0, e4, e3, encStmt, hst]
    · simp (disch := omega) only [go_sem, e0, e4, e3, encStmt, hst]; rfl
    · simp (disch := omega) only [go_sem, e0, e4, e3, encStmt, hst]
    · rw [heap_set _ hid]
      congr 1
      exact half_set encStmt _ hlt'
  · simp (disch := omega) only [go_sem, e0, e4, e3, encStmt]
    refine ⟨0, rfl, ?_⟩
    have : k = xs.length := by omega
    subst this
    rw [hid]; simp
theorem toStmtS_f (xs : List Stmt) (hx : xs.length ≤ 1048576) : F Tryz.prog 212 [.lst 6 (xs.map encStmt)] (.lst 6 (xs.map encStmt)) := CP.f (flat_Stmt _) (by simp) (toStmtS_c xs hx)
theorem eqB_refl (x : Stmt) : eqStmtB x x = true := by simp [eqStmtB, eqExprB]
theorem eqE_refl (x : Expr) : eqExprB x x = true := by simp [eqExprB]
theorem refs_stmts2 (n : Nat) (xs ys : List Stmt) : V.refsL n [.lst 6 (xs.map encStmt), .lst 6 (ys.map encStmt)] = true := by simp [V.refsL, V.refs, refsLL_map encStmt (refs_stmt n) xs, refsLL_map encStmt (refs_stmt n) ys]
theorem eqStmtS_c (xs : List Stmt) (hx : xs.length ≤ 1048576) : CP Tryz.prog 214 [.lst 6 (xs.map encStmt), .lst 6 (xs.map encStmt)] (.bool true) [] := by
  refine CP.by rfl mixed (cfn_ok Tryz.func214 ok214) rfl ?_
  simp (disch := omega) only [s214, go_sem]
  refine loopP_intro (fun m s => ∃ k : Nat, k ≤ xs.length ∧ m = xs.length - k ∧ s.e 0 = .lst 6 (xs.map encStmt) ∧ s.e 1 = .lst 6 (xs.map encStmt) ∧ s.e 5 = .int .i64 k) xs.length ⟨0, by omega, by omega, rfl, rfl, rfl⟩ ?_
  rintro m e hp ⟨k, hk, rfl, e0, e1, e5⟩
  simp only at e0 e1 e5
  simp (disch := omega) only [go_sem, e0, e1, e5, encStmt]
  refine condP_dec (fun hlt => ?_) (fun hlt => ?_)
  · have hlt' : k < xs.length := by omega
    simp (disch := omega) only [go_sem, e0, e1, e5, encStmt]
    refine CP.go (eqStmt_c xs[k] xs[k]) rfl rfl ?_
    simp (disch := omega) only [go_sem, eqB_refl, e0, e1, e5, encStmt]
    exact nextP_intro (xs.length - (k + 1)) (by omega) ⟨k + 1, by omega, rfl, by simp (disch := omega) only [go_sem, e0, e1, e5, encStmt], by simp (disch := omega) only [go_sem, e0, e1, e5, encStmt], by simp (disch := omega) only [go_sem, e0, e1, e5, encStmt]; rfl⟩
  · simp (disch := omega) only [go_sem, e0, e1, e5, encStmt]
theorem refs_task2 (n : Nat) (s t : Task) : V.refsL n [.agg (encTask s), .agg (encTask t)] = true := by simp [V.refsL, V.refs, refs_task]
theorem refs_tasks2 (n : Nat) (s t : List Task) : V.refsL n [.lst 4 (s.map encTask), .lst 4 (t.map encTask)] = true := by simp [V.refsL, refs_tasksV]
theorem eqTask_c (t : Task) (hx : t.body.length ≤ 1048576) : CP Tryz.prog 171 [.agg (encTask t), .agg (encTask t)] (.bool true) [] := by
  obtain ⟨body, ⟨op, a, b⟩⟩ := t
  refine CP.by rfl mixed (cfn_ok Tryz.func171 ok171) rfl ?_
  simp (disch := omega) only [s171, go_sem, encTask]
  refine CP.go (eqStmtS_c body hx) rfl (refs_stmts2 _ _ _) ?_
  simp (disch := omega) only [go_sem]
  refine CP.go (eqExpr_c ⟨op, a, b⟩ ⟨op, a, b⟩) rfl rfl ?_
  simp (disch := omega) only [go_sem, eqE_refl]
theorem eqTaskS_c (ts : List Task) (hx : ts.length ≤ 1048576) (hb : ∀ t ∈ ts, t.body.length ≤ 1048576) : CP Tryz.prog 104 [.lst 4 (ts.map encTask), .lst 4 (ts.map encTask)] (.bool true) [] := by
  refine CP.by rfl mixed (cfn_ok Tryz.func104 ok104) rfl ?_
  simp (disch := omega) only [s104, go_sem]
  refine loopP_intro (fun m s => ∃ k : Nat, k ≤ ts.length ∧ m = ts.length - k ∧ s.e 0 = .lst 4 (ts.map encTask) ∧ s.e 1 = .lst 4 (ts.map encTask) ∧ s.e 5 = .int .i64 k) ts.length ⟨0, by omega, by omega, rfl, rfl, rfl⟩ ?_
  rintro m e hp ⟨k, hk, rfl, e0, e1, e5⟩
  simp only at e0 e1 e5
  simp (disch := omega) only [go_sem, e0, e1, e5, encTask]
  refine condP_dec (fun hlt => ?_) (fun hlt => ?_)
  · have hlt' : k < ts.length := by omega
    simp (disch := omega) only [go_sem, e0, e1, e5, encTask]
    refine CP.go (eqTask_c ts[k] (hb _ (List.getElem_mem hlt'))) rfl (refs_task2 _ ts[k] ts[k]) ?_
    simp (disch := omega) only [go_sem, e0, e1, e5, encTask]
    exact nextP_intro (ts.length - (k + 1)) (by omega) ⟨k + 1, by omega, rfl, by simp (disch := omega) only [go_sem, e0, e1, e5, encTask], by simp (disch := omega) only [go_sem, e0, e1, e5, encTask], by simp (disch := omega) only [go_sem, e0, e1, e5, encTask]; rfl⟩
  · simp (disch := omega) only [go_sem, e0, e1, e5, encTask]
theorem eqProg_c (ts : List Task) (hx : ts.length ≤ 1048576) (hb : ∀ t ∈ ts, t.body.length ≤ 1048576) : CP Tryz.prog 40 [.agg [.lst 4 (ts.map encTask)], .agg [.lst 4 (ts.map encTask)]] (.bool true) [] := by
  refine CP.by rfl mixed (cfn_ok Tryz.func40 ok40) rfl ?_
  simp (disch := omega) only [s40, go_sem]
  refine CP.go (eqTaskS_c ts hx hb) rfl (refs_tasks2 _ _ _) ?_
  simp (disch := omega) only [go_sem]
theorem toStore_c (s : Store) : CP Tryz.prog 44 [.agg (encStore s)] (.agg (encStore s)) [] := by
  obtain ⟨f0, f1, f2, f3⟩ := s
  refine CP.by rfl mixed (cfn_ok Tryz.func44 ok44) rfl ?_
  simp (disch := omega) only [s44, go_sem, encStore, storeH, storeB, splice]
theorem OwnsL.mkTask {h : Heap} {t : Task} {va : V} {ia : List Nat} (oa : Owns h (.lst 6 (t.body.map encStmt)) va ia) : OwnsL h (encTask t) [va, .int .i64 t.next.op, .int .i64 t.next.a, .int .i64 t.next.b] ia := by
  have := OwnsL.o oa (OwnsL.i (k := .i64) (n := t.next.op) (OwnsL.i (k := .i64) (n := t.next.a) (OwnsL.i (k := .i64) (n := t.next.b) OwnsL.e)))
  rw [List.append_nil] at this
  exact this
theorem OwnsL.task {h : Heap} {t : Task} {cs : List V} {ids : List Nat} (o : OwnsL h (encTask t) cs ids) : ∃ va, cs = [va, .int .i64 t.next.op, .int .i64 t.next.a, .int .i64 t.next.b] ∧ Owns h (.lst 6 (t.body.map encStmt)) va ids := by
  obtain ⟨c, cs', i, j, rfl, rfl, o1, o2⟩ := OwnsL.cons_.1 o
  obtain ⟨rfl, rfl⟩ := (OwnsL.scalars (by rfl)).1 o2
  exact ⟨c, rfl, by simpa using o1⟩
theorem toTask_f (t : Task) (hx : t.body.length ≤ 1048576) : F Tryz.prog 170 [.agg (encTask t)] (.agg (encTask t)) := by
  obtain ⟨body, ⟨op, a, b⟩⟩ := t
  refine C.by mixed (cfn_ok Tryz.func170 ok170) rfl ?_
  simp (disch := omega) only [s170, go_sem, encTask, storeH, storeB, splice]
  refine F.go (toStmtS_f body hx) (.same (refs_stmts1 _ _)) fun r h1 ids x1 n1 g1 o1 => ?_
  have o1 := Owns.lstR.1 o1
  obtain ⟨ov, on, oc⟩ := o1.vv
  have b0 := x1.get (i := 0) rfl
  have b1 := x1.get (i := 1) rfl
  have b2 := x1.get (i := 2) rfl
  have c0 : ∀ c, (h1.set 2 c)[2]? = some c := fun c => heap_set _ b2
  have c1 : ∀ c, (h1.set 2 c)[0]? = some [[.lst 6 (body.map encStmt), .int .i64 op, .int .i64 a, .int .i64 b]] := fun c => heap_set_ne _ (by omega) b0
  have c2 : ∀ c, (h1.set 2 c)[1]? = some [[.nils, .int .i64 0, .int .i64 0, .int .i64 0]] := fun c => heap_set_ne _ (by omega) b1
  have c3 : ∀ c d, ((h1.set 2 c).set 1 d)[1]? = some d := fun c d => heap_set _ (c2 c)
  have ss : ∀ c d, (h1.set 2 c).set 2 d = h1.set 2 d := fun c d => List.set_set ..
  simp (disch := omega) only [go_sem, ov, on, oc, b0, b1, b2, c0, c1, c2, c3, ss, storeH, storeB, splice]
  refine CP.go (toExpr_c ⟨op, a, b⟩) rfl rfl ?_
  simp (disch := omega) only [go_sem, ov, on, oc, b0, b1, b2, c0, c1, c2, c3, ss, storeH, storeB, splice, encExpr]
  exact ⟨ids, n1, Owns.aggR.2 ⟨_, rfl, OwnsL.mkTask (t := ⟨body, ⟨op, a, b⟩⟩) ((o1.set _ (nin_ge g1 (by simp))).set _ (nin_ge g1 (by simp)))⟩⟩
theorem rows_set {b : Blk} {k n : Nat} {c z : List V} (hb : b.length = k) (hk : k < n) : (b ++ List.replicate (n - k) z).set k c = (b ++ [c]) ++ List.replicate (n - (k + 1)) z := by
  have e1 : n - k = (n - (k + 1)) + 1 := by omega
  rw [e1, List.replicate_succ, List.set_append_right _ _ (by omega), hb, Nat.sub_self, List.set_cons_zero, List.append_assoc]; rfl
theorem toTaskS_f (ts : List Task) (hx : ts.length ≤ 1048576) (hb : ∀ t ∈ ts, t.body.length ≤ 1048576) : F Tryz.prog 103 [.lst 4 (ts.map encTask)] (.lst 4 (ts.map encTask)) := by
  refine C.by mixed (cfn_ok Tryz.func103 ok103) rfl ?_
  simp (disch := omega) only [s103, go_sem]
  refine loopP_intro (fun m s => ∃ k : Nat, ∃ rows : Blk, ∃ ids : List Nat, k ≤ ts.length ∧ m = ts.length - k ∧ s.e 0 = .lst 4 (ts.map encTask) ∧ s.e 4 = .int .i64 k ∧ s.e 3 = .own 0 4 0 ts.length ts.length ∧ s.h[0]? = some (rows ++ List.replicate (ts.length - k) [.nils, .int .i64 0, .int .i64 0, .int .i64 0]) ∧ rows.length = k ∧ (∀ e ∈ rows, e.length = 4) ∧ ids.Nodup ∧ (∀ i ∈ ids, 0 < i) ∧ OwnsLL s.h ((ts.take k).map encTask) rows ids) ts.length ⟨0, [], [], by omega, by omega, rfl, rfl, rfl, by simp, rfl, fun e he => absurd he List.not_mem_nil, .nil, fun e he => absurd he List.not_mem_nil, OwnsLL.nil_.2 ⟨rfl, rfl⟩⟩ ?_
  intro m e hp P
  refine Exists.elim P fun k P => Exists.elim P fun rows P => Exists.elim P fun ids P => ?_
  have hk := P.1
  have hm := P.2.1
  have e0 := P.2.2.1
  have e4 := P.2.2.2.1
  have e3 := P.2.2.2.2.1
  have hid := P.2.2.2.2.2.1
  have hr := P.2.2.2.2.2.2.1
  have h4 := P.2.2.2.2.2.2.2.1
  have nd := P.2.2.2.2.2.2.2.2.1
  have g0 := P.2.2.2.2.2.2.2.2.2.1
  have oo := P.2.2.2.2.2.2.2.2.2.2
  clear P
  subst hm
  simp only at e0 e4 e3 hid oo
  simp (disch := omega) only [go_sem, e0, e4, e3, encTask]
  refine condP_dec (fun hlt => ?_) (fun hlt => ?_)
  · have hlt' : k < ts.length := by omega
    simp (disch := omega) only [go_sem, e0, e4, e3, encTask]
    refine F.go (toTask_f ts[k] (hb _ (List.getElem_mem hlt'))) (.same (refs_task1 _ ts[k])) fun r h1 js x1 n1 g1 o1 => ?_
    refine Exists.elim (Owns.aggR.1 o1) fun cs q => ?_
    have q1 := q.1
    refine Exists.elim q.2.task fun va w => ?_
    have w1 := w.1
    have w2 := w.2
    clear o1 q w
    subst w1
    subst q1
    have wv := w2.vv
    have wone := wv.1
    have wno := wv.2.1
    have wce := wv.2.2
    have hid1 := x1.get hid
    have hz : 0 < hp.length := heap_lt hid
    have hrl : ∀ e ∈ rows ++ List.replicate (ts.length - k) [.nils, .int .i64 0, .int .i64 0, .int .i64 0], e.length = 4 := fun e he => by
      rcases List.mem_append.1 he with q | q
      · exact h4 e q
      · rw [(List.mem_replicate.1 q).2]; rfl
    have hst := storeH_row (sz := 4) (x := .agg [va, .int .i64 ts[k].next.op, .int .i64 ts[k].next.a, .int .i64 ts[k].next.b]) hid1 (n := ts.length) (i := k) (by simp; omega) hlt' hrl (by simp only [cells_agg, fit, List.all_cons, List.all_nil, wone]; rfl)
    simp only [cells_agg] at hst
    simp (disch := omega) only [go_sem, e0, e4, e3, hst, wone, wno, wce]
    refine nextP_intro (ts.length - (k + 1)) (by omega) ⟨k + 1, rows ++ [[va, .int .i64 ts[k].next.op, .int .i64 ts[k].next.a, .int .i64 ts[k].next.b]], ids ++ js, by omega, rfl, by simp (disch := omega) only [go_sem, e0, e4, e3, hst, wone, wno, wce], by simp (disch := omega) only [go_sem, e0, e4, e3, hst, wone, wno, wce]; rfl, by simp (disch := omega) only [go_sem, e0, e4, e3, hst, wone, wno, wce], ?_, by simp [hr], ?_, ?_, ?_, ?_⟩
    · rw [heap_set _ hid1]
      congr 1
      exact rows_set hr hlt'
    · intro e he
      rcases List.mem_append.1 he with q | q
      · exact h4 e q
      · rw [List.mem_singleton.1 q]; rfl
    · refine List.nodup_append.2 ⟨nd, n1, fun a ha b hb' => ?_⟩
      have := oo.lt a ha
      have := g1 b hb'
      omega
    · intro i hi
      rcases List.mem_append.1 hi with q | q
      · exact g0 i q
      · have := g1 i q; omega
    · rw [List.take_succ_eq_append_getElem hlt', List.map_append]
      refine OwnsLL.snoc ((oo.up x1).keep fun i hi => ?_) ((OwnsL.mkTask w2).keep fun i hi => ?_)
      · have := g0 i hi; exact List.getElem?_set_ne (by omega)
      · have := g1 i hi; exact List.getElem?_set_ne (by omega)
  · have : k = ts.length := by omega
    subst this
    rw [List.take_length] at oo
    rw [Nat.sub_self, List.replicate_zero, List.append_nil] at hid
    simp (disch := omega) only [go_sem, e0, e4, e3, encTask]
    exact ⟨0 :: ids, List.nodup_cons.2 ⟨fun h => by have := g0 0 h; omega, nd⟩, Owns.lst_.2 (.inr ⟨0, rows, ids, by simp, hid, rfl, oo⟩)⟩
theorem toProg_f (ts : List Task) (hx : ts.length ≤ 1048576) (hb : ∀ t ∈ ts, t.body.length ≤ 1048576) : F Tryz.prog 39 [.agg [.lst 4 (ts.map encTask)]] (.agg [.lst 4 (ts.map encTask)]) := by
  refine C.by mixed (cfn_ok Tryz.func39 ok39) rfl ?_
  simp (disch := omega) only [s39, go_sem, storeH, storeB, splice]
  refine F.go (toTaskS_f ts hx hb) (.same (by simp only [V.refsL, refs_tasksV]; rfl)) fun r h1 ids x1 n1 g1 o1 => ?_
  have o1 := Owns.lstR.1 o1
  obtain ⟨ov, on, oc⟩ := o1.vv
  have b0 := x1.get (i := 0) rfl
  have b1 := x1.get (i := 1) rfl
  have b2 := x1.get (i := 2) rfl
  have c0 : ∀ c, (h1.set 2 c)[2]? = some c := fun c => heap_set _ b2
  have c1 : ∀ c, (h1.set 2 c)[0]? = some [[.lst 4 (ts.map encTask)]] := fun c => heap_set_ne _ (by omega) b0
  have c2 : ∀ c, (h1.set 2 c)[1]? = some [[.nils]] := fun c => heap_set_ne _ (by omega) b1
  have c3 : ∀ c d, ((h1.set 2 c).set 1 d)[1]? = some d := fun c d => heap_set _ (c2 c)
  have ss : ∀ c d, (h1.set 2 c).set 2 d = h1.set 2 d := fun c d => List.set_set ..
  simp (disch := omega) only [go_sem, ov, on, oc, b0, b1, b2, c0, c1, c2, c3, ss, storeH, storeB, splice]
  have := OwnsL.o ((o1.set [[r]] (nin_ge g1 (j := 2) (by simp))).set [[r]] (nin_ge g1 (j := 1) (by simp))) OwnsL.e
  rw [List.append_nil] at this
  exact ⟨ids, n1, Owns.aggR.2 ⟨_, rfl, this⟩⟩
theorem refs_progI (n : Nat) (ts : List Task) (k : Int) : V.refsL n [.agg [.lst 4 (ts.map encTask)], .int .i64 k] = true := by simp only [V.refsL, refs_prog]; rfl
theorem refs_prog2 (n : Nat) (s t : List Task) : V.refsL n [.agg [.lst 4 (s.map encTask)], .agg [.lst 4 (t.map encTask)]] = true := by simp only [V.refsL, refs_prog]; rfl
theorem Sep.goProg {ts : List Task} {h : Heap} {L : List It} {K : V → Heap → Prop} (S : Sep h L) (hx : ts.length ≤ 1048576) (hb : ∀ t ∈ ts, t.body.length ≤ 1048576)
    (hk : ∀ v h', Ext h h' → Sep h' (.v (.lst 4 (ts.map encTask)) v :: L) → V.one v = true → V.nohole v = v → V.cells v = [v] → K (.agg [v]) h') : @callP Tryz.prog 39 [.agg [.lst 4 (ts.map encTask)]] h ⟨K⟩ :=
  S.go (toProg_f ts hx hb) (.same (refs_prog1 _ _)) fun r h' x S1 => by
    obtain ⟨_, rfl, S2⟩ := sep_agg.1 S1
    obtain ⟨c, _, rfl, S3⟩ := sep_ll.1 S2
    obtain ⟨rfl, S4⟩ := sep_l0.1 S3
    have S5 := S4.rot
    have z := S5.vv 0 rfl
    exact hk c h' x S5 z.1 z.2.1 z.2.2
theorem Sep.progSnap {ts : List Task} {h : Heap} {L : List It} (S : Sep h L) (n : Nat) {v : V} (e : L[n]? = some (.v (.lst 4 (ts.map encTask)) v)) : Snap h (.agg [v]) (.agg [.lst 4 (ts.map encTask)]) :=
  Snap.ofSnaps (.cons (S.snap n e) (.nil _))
structure Prg where
  tasks : List Task
def encPrg (p : Prg) : List V := [.lst 4 (p.tasks.map encTask)]
theorem prg_bounds {S : Nat → Prop} {ρ : Rho} {w : World} {v : Value} {p : Prg} (r : Rep S ρ w v (.agg (encPrg p))) : p.tasks.length ≤ 9223372036854775807 ∧ ∀ t ∈ p.tasks, t.body.length ≤ 9223372036854775807 := by
  obtain ⟨_, r1⟩ := r.field (j := 0) rfl
  refine ⟨by simpa using lst_bound r1, fun t ht => ?_⟩
  obtain ⟨i, hi, rfl⟩ := List.getElem_of_mem ht
  obtain ⟨_, r2⟩ := r1.row (i := i) (j := 0) (e := encTask p.tasks[i]) (by simp [hi]) rfl
  simpa using lst_bound r2
end Go.Av

namespace Go.Av
open Go.Proofs Go.RowKit
set_option linter.unusedVariables false
set_option linter.unusedSimpArgs false
set_option maxRecDepth 100000
set_option maxHeartbeats 4000000
def zer : List Int := List.replicate 8 0
theorem zer_ok : ∀ z ∈ zer, isValue z = true := fun z hz => by rw [List.eq_of_mem_replicate hz]; rfl
def looseB (n : Nat) (t : Task) : Bool := decide (t.next.a < 0) || decide (t.next.b < 0) || !(within (evalE zer t.next) 0 ((n : Int) - 1))
def rigidM (ts : List Task) : Bool := programOk ts && !(ts.any (looseB ts.length))
theorem reads_pos {e : Expr} (he : exprOk e = true) : 0 < (readsI e).length ↔ (e.a < 0 ∨ e.b < 0) := by
  rw [List.length_pos_iff_exists_mem]
  constructor
  · rintro ⟨k, hk⟩
    have := (mem_readsI he).1 hk
    unfold readsK at this; omega
  · rintro (h | h)
    · exact ⟨-1 - e.a, (mem_readsI he).2 ⟨by omega, .inl (by omega)⟩⟩
    · exact ⟨-1 - e.b, (mem_readsI he).2 ⟨by omega, .inr (by omega)⟩⟩
theorem refs_expr1 (n : Nat) (e : Expr) : V.refsL n [.agg (encExpr e)] = true := rfl
theorem loose_c (h : Heap) (ts : List Task) (tk : Task) (id zid jd : Nat) (he : exprOk tk.next = true) (hl : ts.length ≤ 1048576) (h1 : h[id]? = some [[.own zid 1 0 8 8]]) (h2 : h[zid]? = some (zer.map encI)) (h3 : h[jd]? = some [[.lst 4 (ts.map encTask)]]) :
    C Tryz.prog 139 [.agg (encTask tk), .ptr id 1 0 0, .ptr jd 1 0 0] h (fun r h' => r = .bool (looseB ts.length tk) ∧ Ext h h') := by
  obtain ⟨body, ⟨op, a, b⟩⟩ := tk
  simp only at he
  refine C.by mixed (cfn_ok Tryz.func139 ok139) rfl ?_
  simp (disch := omega) only [s139, go_sem, encTask]
  refine (Sep.nil _).goPt (readsOf_c ⟨op, a, b⟩) (.same (refs_expr1 _ ⟨op, a, b⟩)) fun r h' x1 S1 o1 n1 c1 l1 => ?_
  have X : Ext h h' := (Ext.app _ _).trans x1
  have b0 := x1.get (i := h.length) (b := [[.lst 6 (body.map encStmt), .int .i64 op, .int .i64 a, .int .i64 b]]) (by simp)
  have b1 := X.get h1
  have b2 := X.get h2
  have b3 := X.get h3
  have hrd := reads_pos he
  simp (disch := omega) only [go_sem, o1, n1, c1, l1, b0, b1, b2, b3]
  refine condP_dec (fun hp => ?_) (fun hp => ?_)
  · simp (disch := omega) only [go_sem, o1, n1, c1, l1, b0, b1, b2, b3]
    refine ⟨?_, X⟩
    have := hrd.1 (by omega)
    simp only [looseB]
    rcases this with q | q <;> simp only at q <;> simp [q]
  · simp (disch := omega) only [go_sem, o1, n1, c1, l1, b0, b1, b2, b3]
    refine CP.goS (eval_c zer ⟨op, a, b⟩ zer_ok rfl he) rfl rfl (.cons (Snap.flatN b2 rfl (flat_encI _)) (.cons (.same _ rfl) (.nil _))) ?_
    simp (disch := omega) only [go_sem, o1, n1, c1, l1, b0, b1, b2, b3]
    refine CP.go (within_c _ _ _) rfl rfl ?_
    simp (disch := omega) only [go_sem, o1, n1, c1, l1, b0, b1, b2, b3]
    refine ⟨?_, X⟩
    have hn : ¬ (a < 0 ∨ b < 0) := fun q => hp (by have := hrd.2 q; omega)
    simp only [looseB]
    simp [show ¬ a < 0 by omega, show ¬ b < 0 by omega]
theorem progOk_exprs {ts : List Task} (h : programOk ts = true) : ∀ t ∈ ts, exprOk t.next = true := fun t ht => by
  simp only [programOk, Bool.and_eq_true] at h
  have := List.all_eq_true.1 h.2 t ht
  simp only [taskOk, Bool.and_eq_true] at this
  exact this.2
theorem rigid_c (ts : List Task) (hl : ts.length ≤ 1048576) (hb : ∀ t ∈ ts, t.body.length ≤ 9223372036854775807) : CP Tryz.prog 81 [.agg [.lst 4 (ts.map encTask)]] (.bool (rigidM ts)) [] := by
  refine CP.by rfl mixed (cfn_ok Tryz.func81 ok81) rfl ?_
  simp (disch := omega) only [s81, go_sem]
  refine CP.go (programOk_c ts hl hb) rfl (refs_prog1 _ ts) ?_
  simp (disch := omega) only [go_sem]
  refine condP_split (fun hp => ?_) (fun hp => ?_)
  case' refine_2 =>
    simp (disch := omega) only [go_sem, hp]
    simp [rigidM, hp]
  simp (disch := omega) only [go_sem, hp]
  refine C.go (containsTaskF_c 139 [.ptr 2 1 0 0, .ptr 0 1 0 0] (looseB ts.length) ts (fun t ht h' X => loose_c h' ts t 2 1 0 (progOk_exprs hp t ht) hl (X.get rfl) (X.get rfl) (X.get rfl)) (by omega)) ?_
  rintro r h' ⟨rfl, X⟩
  simp (disch := omega) only [go_sem, hp]
  simp [rigidM, hp]
theorem rigid_s (ts : List Task) (hl : ts.length ≤ 1048576) (hb : ∀ t ∈ ts, t.body.length ≤ 9223372036854775807) : CP Tryz.prog 98 [.agg [.lst 4 (ts.map encTask)]] (.bool (rigidM ts)) [] := by
  refine CP.by rfl mixed (cfn_ok Tryz.func98 ok98) rfl ?_
  simp (disch := omega) only [s98, go_sem]
  refine CP.go (programOk_s ts hl hb) rfl (refs_prog1 _ ts) ?_
  simp (disch := omega) only [go_sem]
  refine condP_split (fun hp => ?_) (fun hp => ?_)
  case' refine_2 =>
    simp (disch := omega) only [go_sem, hp]
    simp [rigidM, hp]
  simp (disch := omega) only [go_sem, hp]
  refine loopP_intro (fun m st => ∃ k : Nat, k ≤ ts.length ∧ m = ts.length - k ∧ st.e 1 = .ptr 0 1 0 0 ∧ st.e 3 = .own 1 1 0 8 8 ∧ st.e 4 = .int .i64 k ∧ st.h[0]? = some [[.lst 4 (ts.map encTask)]] ∧ st.h[1]? = some (zer.map encI) ∧ ∀ j (hj : j < ts.length), j < k → looseB ts.length ts[j] = false) ts.length ⟨0, by omega, by omega, rfl, rfl, rfl, rfl, rfl, fun j _ h => absurd h (by omega)⟩ ?_
  rintro m e h ⟨k, hk, rfl, e1, e3, e4, h0, h1, hall⟩
  simp only at e1 e3 e4 h0 h1
  simp (disch := omega) only [go_sem, e1, e3, e4, h0, encTask]
  refine condP_dec (fun hlt => ?_) (fun hlt => ?_)
  · have hlt' : k < ts.length := by omega
    have he := progOk_exprs hp ts[k] (List.getElem_mem hlt')
    obtain ⟨f1, f2, f3⟩ := exprOk_facts he
    have fin : looseB ts.length ts[k] = false → ∀ j (hj : j < ts.length), j < k + 1 → looseB ts.length ts[j] = false := fun q j hj hjk => by
      rcases Nat.lt_succ_iff_lt_or_eq.1 hjk with h | h
      · exact hall j hj h
      · subst h; exact q
    have bad : looseB ts.length ts[k] = true → rigidM ts = false := fun q => by
      have : ts.any (looseB ts.length) = true := List.any_eq_true.2 ⟨ts[k], List.getElem_mem hlt', q⟩
      simp [rigidM, this]
    have lz : looseB ts.length ts[k] = (decide (ts[k].next.a < 0) || decide (ts[k].next.b < 0) || !(within (evalE zer ts[k].next) 0 ((ts.length : Int) - 1))) := rfl
    simp (disch := omega) only [go_sem, e1, e3, e4, h0, encTask]
    refine condP_dec (fun ha => ?_) (fun ha => ?_)
    · simp (disch := omega) only [go_sem, e1, e3, e4, h0, encTask]
      rw [bad (by rw [lz]; simp [ha])]
    simp (disch := omega) only [go_sem, e1, e3, e4, h0, encTask]
    refine condP_dec (fun hb2 => ?_) (fun hb2 => ?_)
    · simp (disch := omega) only [go_sem, e1, e3, e4, h0, encTask]
      rw [bad (by rw [lz]; simp [hb2])]
    simp (disch := omega) only [go_sem, e1, e3, e4, h0, encTask]
    refine CP.goS (eval_s zer ts[k].next (by simp [zer]; omega) (by simp [zer]; omega) (by omega) (by omega)) rfl rfl (.cons (Snap.flatN h1 rfl (flat_encI _)) (.cons (.same _ rfl) (.nil _))) ?_
    simp (disch := omega) only [go_sem, e1, e3, e4, h0, encTask]
    refine CP.go (l01In_c _ _ _) rfl rfl ?_
    simp (disch := omega) only [go_sem, e1, e3, e4, h0, encTask]
    refine condP_split (fun hw => ?_) (fun hw => ?_)
    · simp (disch := omega) only [go_sem, e1, e3, e4, h0, encTask, hw]
      exact nextP_intro (ts.length - (k + 1)) (by omega) ⟨k + 1, by omega, rfl, by simp (disch := omega) only [go_sem, e1, e3, e4, h0, encTask, hw], by simp (disch := omega) only [go_sem, e1, e3, e4, h0, encTask, hw], by simp (disch := omega) only [go_sem, e1, e3, e4, h0, encTask, hw]; rfl, h0, h1, fin (by rw [lz]; simp [ha, hb2, hw])⟩
    · simp (disch := omega) only [go_sem, e1, e3, e4, h0, encTask, hw]
      rw [bad (by rw [lz]; simp [hw])]
  · simp (disch := omega) only [go_sem, e1, e3, e4, h0, encTask]
    have : ts.any (looseB ts.length) = false := List.any_eq_false.2 fun t ht => by
      obtain ⟨j, hj, rfl⟩ := List.getElem_of_mem ht
      rw [hall j hj (by omega)]; simp
    simp [rigidM, hp, this]
end Go.Av

namespace Go.Av
open Go.Proofs Go.RowKit
set_option linter.unusedVariables false
set_option linter.unusedSimpArgs false
set_option maxRecDepth 100000
set_option maxHeartbeats 4000000
theorem cloneS_f (xs : List Stmt) (hx : xs.length ≤ 1048576) : F Tryz.prog 143 [.lst 6 (xs.map encStmt)] (.lst 6 (xs.map encStmt)) := by
  refine C.by mixed (cfn_ok Tryz.func143 ok143) rfl ?_
  simp (disch := omega) only [s143, go_sem]
  have ha : appendH [[]] 6 48 (.own 0 6 0 0 0) (.lst 6 (xs.map encStmt)) = some (.own 0 6 0 (0 + xs.length) (0 + xs.length), ([[]] : Heap).set 0 ([] ++ xs.map encStmt)) := appendH_n (n := 0) (m := xs.length) (b := []) rfl rfl (by simp [elemsOf]) (by simp) (by omega)
  have hfin : ∃ ids : List Nat, ids.Nodup ∧ OwnsR [xs.map encStmt] (.lst 6 (xs.map encStmt)) (.own 0 6 0 xs.length xs.length) ids := ⟨[0], by simp, Owns.own_flat rfl (by simp) (flat_Stmt _)⟩
  cases xs with
  | nil =>
    simp only [isnilP, List.map_nil, List.isEmpty_nil, if_true]
    intro b
    cases b
    · simp (disch := omega) only [go_sem, ha]
      exact hfin
    · simp (disch := omega) only [go_sem]
      exact ⟨[], by simp, Owns.nils_⟩
  | cons x xs =>
    simp only [isnilP, List.map_cons, List.isEmpty_cons, Bool.false_eq_true, if_false]
    simp only [List.map_cons] at ha
    simp (disch := omega) only [go_sem, ha]
    exact hfin
theorem copyTask_f (t : Task) (hx : t.body.length ≤ 1048576) : F Tryz.prog 142 [.agg (encTask t)] (.agg (encTask t)) := by
  obtain ⟨body, ⟨op, a, b⟩⟩ := t
  refine C.by mixed (cfn_ok Tryz.func142 ok142) rfl ?_
  simp (disch := omega) only [s142, go_sem, encTask, storeH, storeB, splice]
  refine F.go (cloneS_f body hx) (.same (refs_stmts1 _ _)) fun r h1 ids x1 n1 g1 o1 => ?_
  have o1 := Owns.lstR.1 o1
  obtain ⟨ov, on, oc⟩ := o1.vv
  have b0 := x1.get (i := 0) rfl
  have b1 := x1.get (i := 1) rfl
  have c0 : ∀ c, (h1.set 0 c)[0]? = some c := fun c => heap_set _ b0
  have c1 : ∀ c, (h1.set 0 c)[1]? = some [[.nils, .int .i64 0, .int .i64 0, .int .i64 0]] := fun c => heap_set_ne _ (by omega) b1
  have c3 : ∀ c d, ((h1.set 0 c).set 1 d)[1]? = some d := fun c d => heap_set _ (c1 c)
  simp (disch := omega) only [go_sem, ov, on, oc, b0, b1, c0, c1, c3, storeH, storeB, splice]
  exact ⟨ids, n1, Owns.aggR.2 ⟨_, rfl, OwnsL.mkTask (t := ⟨body, ⟨op, a, b⟩⟩) ((o1.set _ (nin_ge g1 (by simp))).set _ (nin_ge g1 (by simp)))⟩⟩
theorem Sep.task {t : Task} {h : Heap} {L : List It} {r : V} (S : Sep h (.v (.agg (encTask t)) r :: L)) : ∃ va, r = .agg [va, .int .i64 t.next.op, .int .i64 t.next.a, .int .i64 t.next.b] ∧ Sep h (.l (encTask t) [va, .int .i64 t.next.op, .int .i64 t.next.a, .int .i64 t.next.b] :: L) ∧ (V.one va = true ∧ V.nohole va = va ∧ V.cells va = [va]) := by
  obtain ⟨cs, rfl, S1⟩ := sep_agg.1 S
  obtain ⟨i, _, o⟩ := S1.nth 0 rfl
  obtain ⟨va, rfl, o'⟩ := OwnsL.task o
  exact ⟨va, rfl, S1, o'.vv⟩
theorem Sep.goTask {P : Program} {f : FuncId} {args args' : List V} {t : Task} {h : Heap} {L : List It} {K : V → Heap → Prop} (S : Sep h L) (hf : F P f args' (.agg (encTask t))) (hs : Snaps h args args')
    (hk : ∀ va h', Ext h h' → Sep h' (.l (encTask t) [va, .int .i64 t.next.op, .int .i64 t.next.a, .int .i64 t.next.b] :: L) → V.one va = true → V.nohole va = va → V.cells va = [va] → K (.agg [va, .int .i64 t.next.op, .int .i64 t.next.a, .int .i64 t.next.b]) h') : @callP P f args h ⟨K⟩ :=
  S.go hf hs fun r h' x S1 => by
    obtain ⟨va, rfl, S2, z⟩ := S1.task
    exact hk va h' x S2 z.1 z.2.1 z.2.2
theorem Sep.prog {h : Heap} {ts : List Task} {v : V} {L : List It} (S : Sep h (.v (.lst 4 (ts.map encTask)) v :: L)) : ∃ ids : List Nat, ids.Nodup ∧ OwnsR h (.agg [.lst 4 (ts.map encTask)]) (.agg [v]) ids :=
  ((Sep.cons2 (fun es e => by cases e) ((Sep.perm (List.Perm.swap _ _ _) (Sep.l0 S)))).a).ret
theorem take_push {ts : List Task} {k : Nat} (h : k < ts.length) : (ts.take k).map encTask ++ [encTask ts[k]] = (ts.take (k + 1)).map encTask := by
  rw [List.take_succ_eq_append_getElem h, List.map_append]; rfl
theorem copyProg_f (ts : List Task) (hx : ts.length ≤ 1048576) (hb : ∀ t ∈ ts, t.body.length ≤ 1048576) : F Tryz.prog 82 [.agg [.lst 4 (ts.map encTask)]] (.agg [.lst 4 (ts.map encTask)]) := by
  refine C.by mixed (cfn_ok Tryz.func82 ok82) rfl ?_
  simp (disch := omega) only [s82, go_sem, storeH, storeB, splice]
  have S0 : Sep ([[[.lst 4 (ts.map encTask)]], [[.nils]], [[.nils]]] : Heap) [.k 2 [[.nils]], .k 1 [[.nils]], .k 0 [[.lst 4 (ts.map encTask)]]] := (((Sep.nil []).newK _).newK _).newK _
  have S0' := (S0.nils (sz := 4)).pick [1, 2, 0] (by decide)
  refine loopP_intro (fun m s => ∃ k : Nat, ∃ v : V, k ≤ ts.length ∧ m = ts.length - k ∧ s.e 8 = .lst 4 (ts.map encTask) ∧ s.e 10 = .int .i64 k ∧ s.e 9 = .int .i64 ts.length ∧ s.e 3 = .ptr 2 1 0 0 ∧ s.e 2 = .ptr 1 1 0 0 ∧ Sep s.h [.k 2 [[v]], .k 1 [[.nils]], .v (.lst 4 ((ts.take k).map encTask)) v]) ts.length ⟨0, .nils, by omega, by omega, rfl, rfl, rfl, rfl, rfl, S0'⟩ ?_
  intro m e hp P
  refine Exists.elim P fun k P => Exists.elim P fun v P => ?_
  have hk := P.1
  have hm := P.2.1
  have e8 := P.2.2.1
  have e10 := P.2.2.2.1
  have e9 := P.2.2.2.2.1
  have e3 := P.2.2.2.2.2.1
  have e2 := P.2.2.2.2.2.2.1
  have S1 := P.2.2.2.2.2.2.2
  clear P
  subst hm
  simp only at e8 e10 e9 e3 e2 S1
  simp (disch := omega) only [go_sem, e8, e10, e9, e3, e2]
  refine condP_dec (fun hlt => ?_) (fun hlt => ?_)
  · have hlt' : k < ts.length := by omega
    have S2 := S1.newK [[.lst 6 (ts[k].body.map encStmt), .int .i64 ts[k].next.op, .int .i64 ts[k].next.a, .int .i64 ts[k].next.b]]
    have K2 := S2.blk 0 rfl
    have V2 := S2.blk 1 rfl
    have z2 := (S2.vv 3 rfl)
    simp (disch := omega) only [go_sem, e8, e10, e9, e3, e2, K2, V2, encTask, z2.1, z2.2.1, z2.2.2]
    refine S2.goTask (copyTask_f ts[k] (hb _ (List.getElem_mem hlt'))) (.same (refs_task1 _ ts[k])) fun va h3 x3 S3 va1 va2 va3 => ?_
    have S4 := S3.newK [[va, .int .i64 ts[k].next.op, .int .i64 ts[k].next.a, .int .i64 ts[k].next.b]]
    have S5 := S4.pick [5, 1, 3, 4] (by decide)
    have hpu := S5.push (bytes := 48) (S4.blk 0 rfl) (by simp; omega)
    refine Exists.elim hpu fun v' q => Exists.elim q fun h5 q => ?_
    have hap := q.1
    have V3 := S3.blk 2 rfl
    have V4 := S4.blk 3 rfl
    have S6 := q.2
    clear q hpu
    have z6 := S6.vv 0 rfl
    have V6 := S6.blk 1 rfl
    simp (disch := omega) only [go_sem, e8, e10, e9, e3, e2, va1, va2, va3, hap, V3, V4, V6, z6.1, z6.2.1, z6.2.2, storeH, storeB, splice, z2.1, z2.2.1, z2.2.2]
    have e6 : (ts.take k).map encTask ++ [encTask ts[k]] = (ts.take (k + 1)).map encTask := take_push hlt'
    rw [e6] at S6
    have S7 := ((S6.pull 1).setK [[v']]).pick [0, 2, 1] (by decide)
    exact nextP_intro (ts.length - (k + 1)) (by omega) ⟨k + 1, v', by omega, rfl, by simp (disch := omega) only [go_sem, e8, e10, e9, e3, e2, va1, va2, va3, hap, V3, V4, V6, z6.1, z6.2.1, z6.2.2, storeH, storeB, splice, z2.1, z2.2.1, z2.2.2], by simp (disch := omega) only [go_sem, e8, e10, e9, e3, e2, va1, va2, va3, hap, V3, V4, V6, z6.1, z6.2.1, z6.2.2, storeH, storeB, splice, z2.1, z2.2.1, z2.2.2]; rfl, by simp (disch := omega) only [go_sem, e8, e10, e9, e3, e2, va1, va2, va3, hap, V3, V4, V6, z6.1, z6.2.1, z6.2.2, storeH, storeB, splice, z2.1, z2.2.1, z2.2.2], by simp (disch := omega) only [go_sem, e8, e10, e9, e3, e2, va1, va2, va3, hap, V3, V4, V6, z6.1, z6.2.1, z6.2.2, storeH, storeB, splice, z2.1, z2.2.1, z2.2.2], by simp (disch := omega) only [go_sem, e8, e10, e9, e3, e2, va1, va2, va3, hap, V3, V4, V6, z6.1, z6.2.1, z6.2.2, storeH, storeB, splice, z2.1, z2.2.1, z2.2.2], S7⟩
  · have : k = ts.length := by omega
    subst this
    rw [List.take_length] at S1
    have K1 := S1.blk 0 rfl
    have V1 := S1.blk 1 rfl
    have z1 := S1.vv 2 rfl
    have c1 : ∀ d, (hp.set 1 d)[1]? = some d := fun d => heap_set _ V1
    simp (disch := omega) only [go_sem, e8, e10, e9, e3, e2, K1, V1, c1, z1.1, z1.2.1, z1.2.2, storeH, storeB, splice]
    exact (((S1.pick [1, 2] (by decide)).setK [[v]]).drop1).prog
theorem Sep.mkTask {t : Task} {h : Heap} {L : List It} {va : V} (S : Sep h (.v (.lst 6 (t.body.map encStmt)) va :: L)) : Sep h (.l (encTask t) [va, .int .i64 t.next.op, .int .i64 t.next.a, .int .i64 t.next.b] :: L) :=
  Sep.cons2 (fun es e => by cases e) (Sep.perm (List.Perm.swap _ _ _) (Sep.li (Sep.li (Sep.li (Sep.l0 S)))))
theorem append0 {h : Heap} {sz bytes : Nat} {xs : Blk} (hl : xs.length * bytes ≤ 140737488355328) : appendH (h ++ [[]]) sz bytes (.own h.length sz 0 0 0) (.lst sz xs) = some (.own h.length sz 0 xs.length xs.length, h ++ [xs]) := by
  have := appendH_n (h := h ++ [[]]) (sz := sz) (bytes := bytes) (id := h.length) (n := 0) (m := xs.length) (b := []) (xs := xs) (x := .lst sz xs) (by simp) rfl (by simp [elemsOf]) rfl (by rw [Nat.zero_add]; exact hl)
  simpa using this
theorem copyProg_s (ts : List Task) (hx : ts.length ≤ 1048576) (hb : ∀ t ∈ ts, t.body.length ≤ 1048576) : F Tryz.prog 101 [.agg [.lst 4 (ts.map encTask)]] (.agg [.lst 4 (ts.map encTask)]) := by
  refine C.by mixed (cfn_ok Tryz.func101 ok101) rfl ?_
  simp (disch := omega) only [s101, go_sem, storeH, storeB, splice]
  have S0 : Sep ([[[.lst 4 (ts.map encTask)]], [[.nils]], [[.nils]]] : Heap) [.k 2 [[.nils]], .k 1 [[.nils]], .k 0 [[.lst 4 (ts.map encTask)]]] := (((Sep.nil []).newK _).newK _).newK _
  have S0' := (S0.nils (sz := 4)).pick [1, 2, 3, 0] (by decide)
  refine loopP_intro (fun m s => ∃ k : Nat, ∃ v : V, k ≤ ts.length ∧ m = ts.length - k ∧ s.e 4 = .int .i64 k ∧ s.e 1 = .ptr 0 1 0 0 ∧ s.e 3 = .ptr 2 1 0 0 ∧ s.e 2 = .ptr 1 1 0 0 ∧ Sep s.h [.k 2 [[v]], .k 1 [[.nils]], .k 0 [[.lst 4 (ts.map encTask)]], .v (.lst 4 ((ts.take k).map encTask)) v]) ts.length ⟨0, .nils, by omega, by omega, rfl, rfl, rfl, rfl, S0'⟩ ?_
  intro m e hp P
  refine Exists.elim P fun k P => Exists.elim P fun v P => ?_
  have hk := P.1
  have hm := P.2.1
  have e4 := P.2.2.1
  have e1 := P.2.2.2.1
  have e3 := P.2.2.2.2.1
  have e2 := P.2.2.2.2.2.1
  have S1 := P.2.2.2.2.2.2
  clear P
  subst hm
  simp only at e4 e1 e3 e2 S1
  have T1 := S1.blk 2 rfl
  have V1 := S1.blk 0 rfl
  simp (disch := omega) only [go_sem, e4, e1, e3, e2, T1, V1]
  refine condP_dec (fun hlt => ?_) (fun hlt => ?_)
  · have hlt' : k < ts.length := by omega
    have hbl := hb _ (List.getElem_mem hlt')
    have z1 := S1.vv 3 rfl
    have S2 := S1.newK []
    have T2 := S2.blk 3 rfl
    have V2 := S2.blk 1 rfl
    have ap2 := append0 (h := hp) (sz := 6) (bytes := 48) (xs := ts[k].body.map encStmt) (by simp; omega)
    simp only [List.length_map] at ap2
    have S3 := S1.newK (ts[k].body.map encStmt)
    have T3 := S3.blk 3 rfl
    have V3 := S3.blk 1 rfl
    have S3' := (S3.ofFlat (sz := 6) (n := ts[k].body.length) (by simp) (flat_Stmt _)).mkTask
    have S4 := S3'.newK [[.own hp.length 6 0 ts[k].body.length ts[k].body.length, .int .i64 ts[k].next.op, .int .i64 ts[k].next.a, .int .i64 ts[k].next.b]]
    rw [List.append_assoc, List.cons_append, List.nil_append] at S4
    have T4 := S4.blk 4 rfl
    have V4 := S4.blk 2 rfl
    have S5 := S4.pick [5, 1, 2, 3, 4] (by decide)
    have hpu := S5.push (bytes := 48) (S4.blk 0 rfl) (by simp; omega)
    refine Exists.elim hpu fun v' q => Exists.elim q fun h5 q => ?_
    have hap := q.1
    have S6 := q.2
    have hL : (hp ++ [ts[k].body.map encStmt]).length = hp.length + 1 := by simp
    rw [hL] at hap
    clear q hpu
    have z6 := S6.vv 0 rfl
    have V6 := S6.blk 1 rfl
    simp (disch := omega) only [go_sem, e4, e1, e3, e2, T1, V1, z1.1, z1.2.1, z1.2.2, T2, V2, ap2, T3, V3, T4, V4, hap, V6, z6.1, z6.2.1, z6.2.2, encTask, storeH, storeB, splice]
    have e6 : (ts.take k).map encTask ++ [encTask ts[k]] = (ts.take (k + 1)).map encTask := take_push hlt'
    rw [e6] at S6
    have S7 := ((S6.pull 1).setK [[v']]).pick [0, 2, 3, 1] (by decide)
    exact nextP_intro (ts.length - (k + 1)) (by omega) ⟨k + 1, v', by omega, rfl, by simp (disch := omega) only [go_sem, e4, e1, e3, e2, T1, V1, z1.1, z1.2.1, z1.2.2, T2, V2, ap2, T3, V3, T4, V4, hap, V6, z6.1, z6.2.1, z6.2.2, encTask, storeH, storeB, splice]; rfl, by simp (disch := omega) only [go_sem, e4, e1, e3, e2, T1, V1, z1.1, z1.2.1, z1.2.2, T2, V2, ap2, T3, V3, T4, V4, hap, V6, z6.1, z6.2.1, z6.2.2, encTask, storeH, storeB, splice], by simp (disch := omega) only [go_sem, e4, e1, e3, e2, T1, V1, z1.1, z1.2.1, z1.2.2, T2, V2, ap2, T3, V3, T4, V4, hap, V6, z6.1, z6.2.1, z6.2.2, encTask, storeH, storeB, splice], by simp (disch := omega) only [go_sem, e4, e1, e3, e2, T1, V1, z1.1, z1.2.1, z1.2.2, T2, V2, ap2, T3, V3, T4, V4, hap, V6, z6.1, z6.2.1, z6.2.2, encTask, storeH, storeB, splice], S7⟩
  · have : k = ts.length := by omega
    subst this
    rw [List.take_length] at S1
    have K1 := S1.blk 0 rfl
    have V1 := S1.blk 1 rfl
    have z1 := S1.vv 3 rfl
    have c1 : ∀ d, (hp.set 1 d)[1]? = some d := fun d => heap_set _ V1
    simp (disch := omega) only [go_sem, e4, e1, e3, e2, K1, V1, c1, z1.1, z1.2.1, z1.2.2, storeH, storeB, splice]
    exact (((S1.pick [1, 3] (by decide)).setK [[v]]).drop1).prog
end Go.Av

namespace Go.Av
open Go.Proofs Go.RowKit
set_option linter.unusedVariables false
set_option linter.unusedSimpArgs false
set_option maxRecDepth 100000
set_option maxHeartbeats 4000000
theorem range_pick {α : Type} : ∀ L : List α, (List.range L.length).filterMap (L[·]?) = L
  | [] => rfl
  | x :: xs => by
    have ih := range_pick xs
    rw [List.length_cons, List.range_succ_eq_map]
    simp only [List.filterMap_cons, List.getElem?_cons_zero, List.filterMap_map]
    exact congrArg (x :: ·) ih
theorem shift_pick {α : Type} (A L : List α) : ((List.range L.length).map (· + A.length)).filterMap ((A ++ L)[·]?) = L := by
  rw [List.filterMap_map]
  have : ((fun x => (A ++ L)[x]?) ∘ fun x => x + A.length) = fun i => L[i]? := by
    funext i
    simp only [Function.comp]
    rw [List.getElem?_append_right (by omega), Nat.add_sub_cancel]
  rw [this]
  exact range_pick L
theorem fm_congr {α β : Type} {f g : α → Option β} : ∀ {l : List α}, (∀ x ∈ l, f x = g x) → l.filterMap f = l.filterMap g
  | [], _ => rfl
  | x :: xs, h => by
    have ih := fm_congr (l := xs) fun y hy => h y (by simp [hy])
    simp only [List.filterMap_cons, h x (by simp), ih]
theorem Sep.pk {h : Heap} {A L : List It} (is : List Nat) (S : Sep h (A ++ L)) (hn : (decide is.Nodup && is.all fun i => decide (i < A.length)) = true) : Sep h (is.filterMap (A[·]?) ++ L) := by
  simp only [Bool.and_eq_true, decide_eq_true_eq, List.all_eq_true] at hn
  have p := S.pick (is ++ (List.range L.length).map (· + A.length)) (by
    rw [List.nodup_append]
    refine ⟨hn.1, List.Pairwise.map _ (fun a b (e : a ≠ b) => show a + A.length ≠ b + A.length by omega) List.nodup_range, fun a ha b hb e => ?_⟩
    subst e
    obtain ⟨c, _, rfl⟩ := List.mem_map.1 hb
    have := hn.2 _ ha
    omega)
  rw [List.filterMap_append, shift_pick] at p
  have e : is.filterMap ((A ++ L)[·]?) = is.filterMap (A[·]?) := fm_congr fun i hi => List.getElem?_append_left (hn.2 i hi)
  rwa [e] at p
theorem store_i {h : Heap} {id n i : Nat} {zs : List Int} {z : Int} (hb : h[id]? = some (zs.map encI)) (hn : zs.length = n) (hi : i < n) : storeH h 1 (.ptr id n i 0) (.int .i64 z) = some (h.set id ((zs.set i z).map encI)) := by
  rw [storeH_row hb (by simpa using hn) hi (fun e he => by obtain ⟨z, _, rfl⟩ := List.mem_map.1 he; rfl) rfl, List.map_set]; rfl
theorem set_all {p : Int → Prop} {zs : List Int} {z : Int} {k : Nat} (h : ∀ x ∈ zs, p x) (hz : p z) : ∀ x ∈ zs.set k z, p x := fun x hx => by
  rcases List.mem_or_eq_of_mem_set hx with q | q
  · exact h x q
  · rw [q]; exact hz
theorem Sep.newK2 {h : Heap} {L : List It} (S : Sep h L) (b c : Blk) : Sep (h ++ [b, c]) (.k (h.length + 1) c :: .k h.length b :: L) := by
  have := (S.newK b).newK c
  simp only [List.append_assoc, List.cons_append, List.nil_append, List.length_append, List.length_cons, List.length_nil, Nat.zero_add] at this
  exact this
theorem Sep.newK3 {h : Heap} {L : List It} (S : Sep h L) (b c d : Blk) : Sep (h ++ [b, c, d]) (.k (h.length + 2) d :: .k (h.length + 1) c :: .k h.length b :: L) := by
  have := (S.newK2 b c).newK d
  simp only [List.append_assoc, List.cons_append, List.nil_append, List.length_append, List.length_cons, List.length_nil, Nat.zero_add] at this
  exact this
theorem resV_four (s : St) (a b c d : SRes) : resV s [a, b, c, d] = (a.val s).bind fun u => (b.val s).bind fun v => (c.val s).bind fun x => (d.val s).map fun y => .tup [u, v, x, y] := by
  show ((a.val s).bind fun v => ((b.val s).bind fun v => ((c.val s).bind fun v => ((d.val s).bind fun v => some [v]).map (v :: ·)).map (v :: ·)).map (v :: ·)).map _ = _
  cases a.val s <;> cases b.val s <;> cases c.val s <;> cases d.val s <;> rfl
def packM (t c l : Int) : Int := if (0 ≤ t ∧ t ≤ 5) ∧ (0 ≤ c ∧ c ≤ 8) ∧ (0 ≤ l ∧ l ≤ 24) then t + 8 * (c + 16 * l) else -1
theorem packM_bd (t c l : Int) : -1 ≤ packM t c l ∧ packM t c l ≤ 3141 := by unfold packM; split <;> omega
theorem packM_eq {t c l : Int} (h1 : 0 ≤ t ∧ t ≤ 5) (h2 : 0 ≤ c ∧ c ≤ 8) (h3 : 0 ≤ l ∧ l ≤ 24) : packM t c l = t + 8 * (c + 16 * l) := if_pos ⟨h1, h2, h3⟩
theorem pack_c (t c l : Int) : CP Tryz.prog 159 [.int .i64 t, .int .i64 c, .int .i64 l] (.int .i64 (packM t c l)) [] := by
  refine CP.by rfl mixed (cfn_ok Tryz.func159 ok159) rfl ?_
  simp (disch := omega) only [s159, go_sem, within_dec]
  repeat' (first | (refine CP.go (within_c _ _ _) rfl rfl ?_ <;> (try simp (disch := omega) only [go_sem, within_dec])) | (refine condP_t (by assumption) ?_ <;> (try simp (disch := omega) only [go_sem, within_dec])) | (refine condP_f (by assumption) ?_ <;> (try simp (disch := omega) only [go_sem, within_dec])) | (refine condP_dec (fun h => ?_) (fun h => ?_) <;> (try simp (disch := omega) only [go_sem, within_dec])) | (refine condP_split (fun h => ?_) (fun h => ?_) <;> (try simp (disch := omega) only [go_sem, within_dec])))
  all_goals (unfold packM; first | rw [if_pos (by omega)] | rw [if_neg (by omega)])
theorem pack_s (t c l : Int) : CP Tryz.prog 62 [.int .i64 t, .int .i64 c, .int .i64 l] (.int .i64 (packM t c l)) [] := by
  refine CP.by rfl mixed (cfn_ok Tryz.func62 ok62) rfl ?_
  simp (disch := omega) only [s62, go_sem, within_dec]
  repeat' (first | (refine CP.go (l01In_c _ _ _) rfl rfl ?_ <;> (try simp (disch := omega) only [go_sem, within_dec])) | (refine condP_t (by assumption) ?_ <;> (try simp (disch := omega) only [go_sem, within_dec])) | (refine condP_f (by assumption) ?_ <;> (try simp (disch := omega) only [go_sem, within_dec])) | (refine condP_dec (fun h => ?_) (fun h => ?_) <;> (try simp (disch := omega) only [go_sem, within_dec])) | (refine condP_split (fun h => ?_) (fun h => ?_) <;> (try simp (disch := omega) only [go_sem, within_dec])))
  all_goals (unfold packM; first | rw [if_pos (by omega)] | rw [if_neg (by omega)])
def unpackM (w : Int) : Int × Int × Int := if 0 ≤ w ∧ packM (w % 8) (w / 8 % 16) (w / 128) = w then (w % 8, w / 8 % 16, w / 128) else (-1, -1, -1)
theorem unpack_pack {t c l : Int} (h1 : 0 ≤ t ∧ t ≤ 5) (h2 : 0 ≤ c ∧ c ≤ 8) (h3 : 0 ≤ l ∧ l ≤ 24) : unpackM (packM t c l) = (t, c, l) := by
  rw [packM_eq h1 h2 h3]
  have a : (t + 8 * (c + 16 * l)) % 8 = t := by omega
  have b : (t + 8 * (c + 16 * l)) / 8 % 16 = c := by omega
  have d : (t + 8 * (c + 16 * l)) / 128 = l := by omega
  unfold unpackM
  rw [a, b, d, if_pos ⟨by omega, packM_eq h1 h2 h3⟩]
theorem unpackM_bd (w : Int) : ((unpackM w).1 = -1 ∧ (unpackM w).2.1 = -1 ∧ (unpackM w).2.2 = -1) ∨ ((0 ≤ (unpackM w).1 ∧ (unpackM w).1 ≤ 5) ∧ (0 ≤ (unpackM w).2.1 ∧ (unpackM w).2.1 ≤ 8) ∧ (0 ≤ (unpackM w).2.2 ∧ (unpackM w).2.2 ≤ 24) ∧ w = packM (unpackM w).1 (unpackM w).2.1 (unpackM w).2.2) := by
  unfold unpackM
  split
  · rename_i h
    refine .inr ?_
    have := h.2
    unfold packM at this
    split at this
    · rename_i q; exact ⟨q.1, q.2.1, q.2.2, h.2.symm⟩
    · omega
  · exact .inl ⟨rfl, rfl, rfl⟩
def encU (w : Int) : V := .tup [.int .i64 (unpackM w).1, .int .i64 (unpackM w).2.1, .int .i64 (unpackM w).2.2]
theorem div_nn {a b : Int} (h : 0 ≤ a) : a.tdiv b = a / b := Int.tdiv_eq_ediv_of_nonneg h
theorem mod_nn {a b : Int} (h : 0 ≤ a) : a.tmod b = a % b := Int.tmod_eq_emod_of_nonneg h
theorem unpack_out {w : Int} (h : ¬ (0 ≤ w ∧ w ≤ 3141)) : unpackM w = (-1, -1, -1) := if_neg fun q => by
  have := packM_bd (w % 8) (w / 8 % 16) (w / 128)
  omega
theorem unpack_c (w : Int) : CP Tryz.prog 149 [.int .i64 w] (encU w) [] := by
  refine CP.by rfl mixed (cfn_ok Tryz.func149 ok149) rfl ?_
  simp (disch := omega) only [s149, go_sem]
  refine condP_dec (fun h0 => ?_) (fun h0 => ?_)
  · simp (disch := omega) only [go_sem]
    simp [encU, unpack_out (w := w) (by omega)]
  have h0' : 0 ≤ w := by omega
  by_cases hw : w ≤ 3141
  · have d8 : 0 ≤ w.tdiv 8 ∧ w.tdiv 8 ≤ 1152921504606846976 := by rw [div_nn h0']; omega
    have d128 : 0 ≤ w.tdiv 128 ∧ w.tdiv 128 ≤ 1152921504606846976 := by rw [div_nn h0']; omega
    simp (disch := omega) only [go_sem]
    refine CP.go (pack_c _ _ _) rfl rfl ?_
    have hpk : packM (w.tmod 8) ((w.tdiv 8).tmod 16) (w.tdiv 128) = packM (w % 8) (w / 8 % 16) (w / 128) := by rw [mod_nn h0', div_nn h0', div_nn h0', mod_nn (by omega)]
    simp (disch := omega) only [go_sem]
    refine condP_dec (fun h1 => ?_) (fun h1 => ?_) <;> rw [hpk] at h1
    · simp (disch := omega) only [go_sem]
      have hu : unpackM w = (w % 8, w / 8 % 16, w / 128) := if_pos ⟨h0', h1⟩
      simp only [encU, hu, mod_nn h0', div_nn h0', mod_nn (show 0 ≤ w / 8 by omega)]
    · simp (disch := omega) only [go_sem]
      have hu : unpackM w = (-1, -1, -1) := if_neg fun q => h1 q.2
      simp only [encU, hu]
  · simp (disch := omega) only [go_sem]
    refine CP.go (pack_c _ _ _) rfl rfl ?_
    simp (disch := omega) only [go_sem]
    refine condP_dec (fun h1 => ?_) (fun h1 => ?_)
    · have := packM_bd (w.tmod 8) ((IntKind.wrap .i64 (w.tdiv 8)).tmod 16) (IntKind.wrap .i64 (w.tdiv 128))
      exfalso; omega
    · simp (disch := omega) only [go_sem]
      simp [encU, unpack_out (w := w) (by omega)]
theorem unpack_s (w : Int) : CP Tryz.prog 32 [.int .i64 w] (encU w) [] := by
  refine CP.by rfl mixed (cfn_ok Tryz.func32 ok32) rfl ?_
  simp (disch := omega) only [s32, go_sem]
  refine condP_dec (fun h0 => ?_) (fun h0 => ?_)
  · simp (disch := omega) only [go_sem]
    simp [encU, unpack_out (w := w) (by omega)]
  have h0' : 0 ≤ w := by omega
  simp (disch := omega) only [go_sem]
  refine condP_dec (fun hb => ?_) (fun hb => ?_)
  · simp (disch := omega) only [go_sem]
    simp [encU, unpack_out (w := w) (by omega)]
  by_cases hw : w ≤ 3141
  · have d8 : 0 ≤ w.tdiv 8 ∧ w.tdiv 8 ≤ 1152921504606846976 := by rw [div_nn h0']; omega
    have d128 : 0 ≤ w.tdiv 128 ∧ w.tdiv 128 ≤ 1152921504606846976 := by rw [div_nn h0']; omega
    simp (disch := omega) only [go_sem]
    refine CP.go (pack_s _ _ _) rfl rfl ?_
    have hpk : packM (w.tmod 8) ((w.tdiv 8).tmod 16) (w.tdiv 128) = packM (w % 8) (w / 8 % 16) (w / 128) := by rw [mod_nn h0', div_nn h0', div_nn h0', mod_nn (by omega)]
    simp (disch := omega) only [go_sem]
    refine condP_dec (fun h1 => ?_) (fun h1 => ?_) <;> rw [hpk] at h1
    · simp (disch := omega) only [go_sem]
      have hu : unpackM w = (w % 8, w / 8 % 16, w / 128) := if_pos ⟨h0', h1⟩
      simp only [encU, hu, mod_nn h0', div_nn h0', mod_nn (show 0 ≤ w / 8 by omega)]
    · simp (disch := omega) only [go_sem]
      have hu : unpackM w = (-1, -1, -1) := if_neg fun q => h1 q.2
      simp only [encU, hu]
  · simp (disch := omega) only [go_sem]
    refine CP.go (pack_s _ _ _) rfl rfl ?_
    simp (disch := omega) only [go_sem]
    refine condP_dec (fun h1 => ?_) (fun h1 => ?_)
    · have := packM_bd (w.tmod 8) ((IntKind.wrap .i64 (w.tdiv 8)).tmod 16) (IntKind.wrap .i64 (w.tdiv 128))
      exfalso; omega
    · simp (disch := omega) only [go_sem]
      simp [encU, unpack_out (w := w) (by omega)]
theorem isValue_s (x : Int) : CP Tryz.prog 231 [.int .i64 x] (.bool (isValue x)) [] := by
  refine CP.by rfl mixed (cfn_ok Tryz.func231 ok231) rfl ?_
  simp (disch := omega) only [s231, go_sem]
  refine CP.go (l01In_c _ _ _) rfl rfl ?_
  simp (disch := omega) only [go_sem]
  rfl
def vals (zs : List Int) : Bool := zs.all isValue
theorem vals_iff {zs : List Int} : vals zs = true ↔ ∀ z ∈ zs, isValue z = true := List.all_eq_true
theorem vals_take {zs : List Int} {k : Nat} (h : k < zs.length) : vals (zs.take (k + 1)) = (vals (zs.take k) && isValue zs[k]) := by
  unfold vals; rw [List.take_succ_eq_append_getElem h, List.all_append]; simp
theorem values_s (zs : List Int) (hl : zs.length ≤ 9223372036854775807) : CP Tryz.prog 227 [.lst 1 (zs.map encI)] (.bool (vals zs)) [] := by
  refine CP.by rfl mixed (cfn_ok Tryz.func227 ok227) rfl ?_
  simp (disch := omega) only [s227, go_sem]
  refine loopP_intro (fun m s => ∃ k : Nat, k ≤ zs.length ∧ m = zs.length - k ∧ s.e 0 = .lst 1 (zs.map encI) ∧ s.e 3 = .int .i64 k ∧ ∀ j (hj : j < zs.length), j < k → isValue zs[j] = true) zs.length ⟨0, by omega, by omega, rfl, rfl, fun j _ h => absurd h (by omega)⟩ ?_
  rintro m e hp ⟨k, hk, rfl, e0, e3, hall⟩
  simp only at e0 e3
  simp (disch := omega) only [go_sem, e0, e3, encI]
  refine condP_dec (fun hlt => ?_) (fun hlt => ?_)
  · have hlt' : k < zs.length := by omega
    simp (disch := omega) only [go_sem, e0, e3, encI]
    refine CP.go (isValue_s zs[k]) rfl rfl ?_
    simp (disch := omega) only [go_sem, e0, e3, encI]
    refine condP_split (fun h => ?_) (fun h => ?_)
    · simp (disch := omega) only [go_sem, e0, e3, encI]
      refine nextP_intro (zs.length - (k + 1)) (by omega) ⟨k + 1, by omega, rfl, by simp (disch := omega) only [go_sem, e0, e3, encI], by simp (disch := omega) only [go_sem, e0, e3, encI]; rfl, fun j hj hjk => ?_⟩
      by_cases e : j = k
      · subst e; exact h
      · exact hall j hj (by omega)
    · simp (disch := omega) only [go_sem, e0, e3, encI]
      have : vals zs = false := List.all_eq_false.2 ⟨zs[k], List.getElem_mem hlt', by simp [h]⟩
      rw [this]
  · simp (disch := omega) only [go_sem, e0, e3, encI]
    have : vals zs = true := vals_iff.2 fun z hz => by
      obtain ⟨j, hj, rfl⟩ := List.getElem_of_mem hz
      exact hall j hj (by omega)
    rw [this]
def varsOkM (zs : List Int) : Bool := decide (zs.length = 8) && vals zs
theorem varsOk_s (zs : List Int) (hl : zs.length ≤ 9223372036854775807) : CP Tryz.prog 187 [.lst 1 (zs.map encI)] (.bool (varsOkM zs)) [] := by
  refine CP.by rfl mixed (cfn_ok Tryz.func187 ok187) rfl ?_
  simp (disch := omega) only [s187, go_sem]
  refine loopP_intro (fun m s => ∃ k : Nat, k ≤ zs.length ∧ m = zs.length - k ∧ s.e 0 = .lst 1 (zs.map encI) ∧ s.e 3 = .int .i64 k ∧ ∀ j (hj : j < zs.length), j < k → isValue zs[j] = true) zs.length ⟨0, by omega, by omega, rfl, rfl, fun j _ h => absurd h (by omega)⟩ ?_
  rintro m e hp ⟨k, hk, rfl, e0, e3, hall⟩
  simp only at e0 e3
  simp (disch := omega) only [go_sem, e0, e3, encI]
  refine condP_dec (fun hlt => ?_) (fun hlt => ?_)
  · have hlt' : k < zs.length := by omega
    simp (disch := omega) only [go_sem, e0, e3, encI]
    refine CP.go (isValue_s zs[k]) rfl rfl ?_
    simp (disch := omega) only [go_sem, e0, e3, encI]
    refine condP_split (fun h => ?_) (fun h => ?_)
    · simp (disch := omega) only [go_sem, e0, e3, encI]
      refine nextP_intro (zs.length - (k + 1)) (by omega) ⟨k + 1, by omega, rfl, by simp (disch := omega) only [go_sem, e0, e3, encI], by simp (disch := omega) only [go_sem, e0, e3, encI]; rfl, fun j hj hjk => ?_⟩
      by_cases e : j = k
      · subst e; exact h
      · exact hall j hj (by omega)
    · simp (disch := omega) only [go_sem, e0, e3, encI]
      have : vals zs = false := List.all_eq_false.2 ⟨zs[k], List.getElem_mem hlt', by simp [h]⟩
      rw [varsOkM, this, Bool.and_false]
  · simp (disch := omega) only [go_sem, e0, e3, encI]
    have : vals zs = true := vals_iff.2 fun z hz => by
      obtain ⟨j, hj, rfl⟩ := List.getElem_of_mem hz
      exact hall j hj (by omega)
    rw [varsOkM, this, Bool.and_true]
    congr 1
    rw [decide_eq_decide]; omega
theorem indexI_c (g : Nat) (p : Int → Bool) (zs : List Int) (hg : ∀ z ∈ zs, CP Tryz.prog g [.int .i64 z] (.bool (p z)) []) (hl : zs.length ≤ 9223372036854775807) : CP Tryz.prog 179 [.lst 1 (zs.map encI), .fn g []] (.int .i64 (idxI p zs)) [] := by
  refine CP.by rfl mixed (cfn_ok Tryz.func179 ok179) rfl ?_
  simp (disch := omega) only [s179, go_sem]
  refine loopP_intro (fun m s => ∃ k : Nat, k ≤ zs.length ∧ m = zs.length - k ∧ s.e 0 = .lst 1 (zs.map encI) ∧ s.e 1 = .fn g [] ∧ s.e 7 = .int .i64 zs.length ∧ s.e 8 = .int .i64 k ∧ ∀ j (hj : j < zs.length), j < k → p zs[j] = false) zs.length ⟨0, by omega, by omega, rfl, rfl, by simp (disch := omega) only [go_sem], rfl, fun j _ h => absurd h (by omega)⟩ ?_
  rintro m e hp ⟨k, hk, rfl, e0, e1, e7, e8, hall⟩
  simp only at e0 e1 e7 e8
  simp (disch := omega) only [go_sem, e0, e1, e7, e8, encI]
  refine condP_dec (fun hlt => ?_) (fun hlt => ?_)
  · have hlt' : k < zs.length := by omega
    simp (disch := omega) only [go_sem, e0, e1, e7, e8, encI]
    refine CP.go (hg zs[k] (List.getElem_mem hlt')) rfl rfl ?_
    simp (disch := omega) only [go_sem, e0, e1, e7, e8, encI]
    refine condP_split (fun h => ?_) (fun h => ?_)
    · simp (disch := omega) only [go_sem, e0, e1, e7, e8, encI]
      rw [idxI_found hlt' h hall]
    · simp (disch := omega) only [go_sem, e0, e1, e7, e8, encI]
      refine nextP_intro (zs.length - (k + 1)) (by omega) ⟨k + 1, by omega, rfl, by simp (disch := omega) only [go_sem, e0, e1, e7, e8, encI], by simp (disch := omega) only [go_sem, e0, e1, e7, e8, encI], by simp (disch := omega) only [go_sem, e0, e1, e7, e8, encI], by simp (disch := omega) only [go_sem, e0, e1, e7, e8, encI]; rfl, fun j hj hjk => ?_⟩
      by_cases e : j = k
      · subst e; exact h
      · exact hall j hj (by omega)
  · simp (disch := omega) only [go_sem, e0, e1, e7, e8, encI]
    rw [idxI_none (fun j hj => hall j hj (by omega))]
theorem containsI_c (g : Nat) (p : Int → Bool) (zs : List Int) (hg : ∀ z ∈ zs, CP Tryz.prog g [.int .i64 z] (.bool (p z)) []) (hl : zs.length ≤ 9223372036854775807) : CP Tryz.prog 112 [.lst 1 (zs.map encI), .fn g []] (.bool (zs.any p)) [] := by
  refine CP.by rfl mixed (cfn_ok Tryz.func112 ok112) rfl ?_
  simp (disch := omega) only [s112, go_sem]
  refine CP.go (indexI_c g p zs hg hl) rfl (refs_ints _ _ _ rfl) ?_
  simp (disch := omega) only [go_sem, idxI_ge]
theorem refs_int1 (n : Nat) (zs : List Int) : V.refsL n [.lst 1 (zs.map encI)] = true := by simp [V.refsL, V.refs, refsLL_map encI (fun _ => rfl) zs]
theorem any_not {zs : List Int} : (zs.any fun z => !isValue z) = !vals zs := by unfold vals; rw [List.not_all_eq_any_not]
theorem values_c (zs : List Int) (hl : zs.length ≤ 9223372036854775807) : CP Tryz.prog 85 [.lst 1 (zs.map encI)] (.bool (vals zs)) [] := by
  refine CP.by rfl mixed (cfn_ok Tryz.func85 ok85) rfl ?_
  simp (disch := omega) only [s85, go_sem]
  refine CP.go (containsI_c 144 (fun z => !isValue z) zs (fun z _ => notValue_c z) hl) rfl (refs_ints _ _ _ rfl) ?_
  simp (disch := omega) only [go_sem, any_not, Bool.not_not]
theorem varsOkG_c (zs : List Int) (hl : zs.length ≤ 9223372036854775807) : CP Tryz.prog 84 [.lst 1 (zs.map encI)] (.bool (varsOkM zs)) [] := by
  refine CP.by rfl mixed (cfn_ok Tryz.func84 ok84) rfl ?_
  simp (disch := omega) only [s84, go_sem]
  refine condP_dec (fun h8 => ?_) (fun h8 => ?_)
  · simp (disch := omega) only [go_sem]
    refine CP.go (values_c zs hl) rfl (refs_int1 _ _) ?_
    simp (disch := omega) only [go_sem]
    have : zs.length = 8 := by omega
    simp [varsOkM, this]
  · simp (disch := omega) only [go_sem]
    have : ¬ zs.length = 8 := by omega
    simp [varsOkM, this]
theorem hasTask_c (ts : List Task) (t : Int) (hl : ts.length ≤ 1048576) (hb : ∀ t ∈ ts, t.body.length ≤ 9223372036854775807) : CP Tryz.prog 79 [.agg [.lst 4 (ts.map encTask)], .int .i64 t] (.bool (programOk ts && within t 0 ((ts.length : Int) - 1))) [] := by
  refine CP.by rfl mixed (cfn_ok Tryz.func79 ok79) rfl ?_
  simp (disch := omega) only [s79, go_sem]
  refine CP.go (programOk_c ts hl hb) rfl (refs_prog1 _ ts) ?_
  simp (disch := omega) only [go_sem]
  repeat' (first | (refine CP.go (within_c _ _ _) rfl rfl ?_ <;> (try simp (disch := omega) only [go_sem])) | (refine condP_t (by assumption) ?_ <;> (try simp (disch := omega) only [go_sem])) | (refine condP_f (by assumption) ?_ <;> (try simp (disch := omega) only [go_sem])) | (refine condP_dec (fun h => ?_) (fun h => ?_) <;> (try simp (disch := omega) only [go_sem])) | (refine condP_split (fun h => ?_) (fun h => ?_) <;> (try simp (disch := omega) only [go_sem])))
  all_goals simp_all
theorem cloneI_f (xs : List Int) (hx : xs.length ≤ 1048576) : F Tryz.prog 115 [.lst 1 (xs.map encI)] (.lst 1 (xs.map encI)) := by
  refine C.by mixed (cfn_ok Tryz.func115 ok115) rfl ?_
  simp (disch := omega) only [s115, go_sem]
  have ha : appendH [[]] 1 8 (.own 0 1 0 0 0) (.lst 1 (xs.map encI)) = some (.own 0 1 0 (0 + xs.length) (0 + xs.length), ([[]] : Heap).set 0 ([] ++ xs.map encI)) := appendH_n (n := 0) (m := xs.length) (b := []) rfl rfl (by simp [elemsOf]) (by simp) (by omega)
  have hfin : ∃ ids : List Nat, ids.Nodup ∧ OwnsR [xs.map encI] (.lst 1 (xs.map encI)) (.own 0 1 0 xs.length xs.length) ids := ⟨[0], by simp, Owns.own_flat rfl (by simp) (flat_encI _)⟩
  cases xs with
  | nil =>
    simp only [isnilP, List.map_nil, List.isEmpty_nil, if_true]
    intro b
    cases b
    · simp (disch := omega) only [go_sem, ha]
      exact hfin
    · simp (disch := omega) only [go_sem]
      exact ⟨[], by simp, Owns.nils_⟩
  | cons x xs =>
    simp only [isnilP, List.map_cons, List.isEmpty_cons, Bool.false_eq_true, if_false]
    simp only [List.map_cons] at ha
    simp (disch := omega) only [go_sem, ha]
    exact hfin
theorem memNew_f (zs : List Int) (hz : varsOkM zs = true) : F Tryz.prog 128 [.lst 1 (zs.map encI)] (.tup [.lst 1 ((zs ++ List.replicate 41 0).map encI), .bool true]) := by
  have hl : zs.length = 8 := by
    simp only [varsOkM, Bool.and_eq_true, decide_eq_true_eq] at hz; exact hz.1
  refine C.by mixed (cfn_ok Tryz.func128 ok128) rfl ?_
  simp (disch := omega) only [s128, go_sem]
  refine CP.go (varsOk_s zs (by omega)) rfl (refs_int1 _ _) ?_
  have ha : appendH [[]] 1 8 (.own 0 1 0 0 0) (.lst 1 (zs.map encI)) = some (.own 0 1 0 (0 + 8) (0 + 8), ([[]] : Heap).set 0 ([] ++ zs.map encI)) := appendH_n (n := 0) (m := 8) (b := []) rfl rfl (by simp [elemsOf]) (by simpa using hl) (by omega)
  have ha2 := appendH_n (sz := 1) (bytes := 8) (h := [zs.map encI]) (id := 0) (n := 8) (m := 41) (b := zs.map encI) (xs := List.replicate 41 [.int .i64 0]) (x := .lst 1 (List.replicate 41 [.int .i64 0])) rfl (by simpa using hl) (by simp [elemsOf]) (by simp) (by omega)
  have e : zs.map encI ++ List.replicate 41 [V.int .i64 0] = (zs ++ List.replicate 41 0).map encI := by rw [List.map_append, List.map_replicate]; rfl
  rw [e] at ha2
  simp only [List.replicate_succ, List.replicate_zero] at ha2
  simp (disch := omega) only [go_sem, hz, ha, ha2]
  refine ⟨[0], by simp, OwnsR.tup.2 ⟨_, rfl, OwnsL.o (i := [0]) (j := []) (Owns.own_flat ?_ ?_ (flat_encI _)) (OwnsL.b OwnsL.e)⟩⟩
  · rfl
  · simp [hl]
end Go.Av

namespace Go.Av
open Go.Proofs Go.RowKit
set_option linter.unusedVariables false
set_option linter.unusedSimpArgs false
set_option maxRecDepth 100000
set_option maxHeartbeats 4000000
def GoodB (t : Tr) : Prop := t.ok = true ∧ t.dep ≤ 2 ∧ t.flat.length ≤ 24
theorem BlockD.mono {d n l l' : Nat} (h : BlockD d n l) (hl : l ≤ l') : BlockD d n l' := fun ni di hh id L h1 h2 S => C.mono (h ni di hh id L h1 h2 S) fun r h' ⟨t, q, a, b, c, e, f⟩ => ⟨t, q, a, b, c, by omega, f⟩
theorem block0_d (n : Nat) (hn : n ≤ 5) : BlockD 0 n 24 := by
  have b2 : ∀ n', 1 ≤ n' → n' ≤ 2 → BlockD 2 n' 2 := fun n' h1 h2 => (block_step 2 n' 0 (by omega) (by omega) (by omega) (fun h => absurd h (by omega))).mono (by simp; omega)
  have b1 : ∀ n', 1 ≤ n' → n' ≤ 2 → BlockD 1 n' 11 := fun n' h1 h2 => (block_step 1 n' 2 (by omega) (by omega) (by omega) (fun _ => b2)).mono (by simp; omega)
  exact (block_step 0 n 11 (by omega) (by omega) (by omega) (fun _ => b1)).mono (by simp; omega)
theorem case_d {h : Heap} {id : Nat} {L : List It} (S : Sep h (.c id :: L)) : C Tryz.prog 126 [.ptr id 1 0 0] h (fun r h' => ∃ (t : Tr) (l : Nat), r = .own l 6 0 t.flat.length t.flat.length ∧ GoodB t ∧ Sep h' (.k l (t.flat.map encStmt) :: .c id :: L)) := by
  refine C.by mixed (cfn_ok Tryz.func126 ok126) rfl ?_
  simp (disch := omega) only [s126, go_sem]
  refine S.goBelow (n := 6) (by omega) fun z h1 z0 z1 S1 => ?_
  simp (disch := omega) only [go_sem]
  refine C.go (block0_d z.toNat (by omega) _ _ _ _ _ (by omega) rfl S1) ?_
  rintro r h2 ⟨t, l, rfl, h1, h2, h3, S2⟩
  simp (disch := omega) only [go_sem]
  exact ⟨t, l, rfl, ⟨h1, h2, h3⟩, S2⟩
theorem good_task {t : Tr} {e : Expr} (h : GoodB t) (he : exprOk e = true) : taskOk ⟨t.flat, e⟩ = true := by
  simp only [taskOk, Bool.and_eq_true]
  exact ⟨tree_blockOk h.1 (by have := h.2.1; omega) h.2.2, he⟩
theorem push_task (ts : List Task) (t : Task) : (ts ++ [t]).map encTask = ts.map encTask ++ [encTask t] := by simp
theorem program_d {h : Heap} {id : Nat} {L : List It} (S : Sep h (.c id :: L)) : C Tryz.prog 60 [.ptr id 1 0 0] h (fun r h' => ∃ (ts : List Task) (v : V), r = .agg [v] ∧ (1 ≤ ts.length ∧ ts.length ≤ 3) ∧ (∀ t ∈ ts, taskOk t = true) ∧ Sep h' (.v (.lst 4 (ts.map encTask)) v :: .c id :: L)) := by
  refine C.by mixed (cfn_ok Tryz.func60 ok60) rfl ?_
  simp (disch := omega) only [s60, go_sem, storeH, storeB, splice]
  have S0 : Sep (h ++ [[[V.nils]], [[V.nils]]]) (.k (h.length + 1) [[.nils]] :: .v (.lst 4 (([] : List Task).map encTask)) .nils :: .c id :: .k h.length [[.nils]] :: L) := by
    have := ((S.newK [[.nils]]).newK [[.nils]]).nils (sz := 4)
    simp only [List.append_assoc, List.cons_append, List.nil_append, List.length_append, List.length_cons, List.length_nil] at this
    exact this.pk (A := [_, _, _, _]) [1, 0, 3, 2] rfl
  refine loopP_intro (fun m s => ∃ (ts : List Task) (v : V), ts.length ≤ 3 ∧ m = 3 - ts.length ∧ s.e 0 = .ptr id 1 0 0 ∧ s.e 2 = .ptr h.length 1 0 0 ∧ s.e 3 = .ptr (h.length + 1) 1 0 0 ∧ s.e 4 = .int .i64 ts.length ∧ (∀ t ∈ ts, taskOk t = true) ∧ Sep s.h (.k (h.length + 1) [[v]] :: .v (.lst 4 (ts.map encTask)) v :: .c id :: .k h.length [[.nils]] :: L)) 3 ⟨[], .nils, by simp, rfl, by simp (disch := omega) only [go_sem, storeH, storeB, splice], by simp (disch := omega) only [go_sem, storeH, storeB, splice], by simp (disch := omega) only [go_sem, storeH, storeB, splice], by simp (disch := omega) only [go_sem, storeH, storeB, splice] <;> rfl, by simp, S0⟩ ?_
  intro m e hp P
  refine Exists.elim P fun ts P => Exists.elim P fun v P => ?_
  have hk := P.1
  have hm := P.2.1
  have e0 := P.2.2.1
  have e2 := P.2.2.2.1
  have e3 := P.2.2.2.2.1
  have e4 := P.2.2.2.2.2.1
  have hok := P.2.2.2.2.2.2.1
  have S1 := P.2.2.2.2.2.2.2
  clear P
  subst hm
  simp only at e0 e2 e3 e4 S1
  simp (disch := omega) only [go_sem, e0, e2, e3, e4]
  refine (S1.pull 2).goBelow (n := 3) (by omega) fun z h1 z0 z1 S2 => ?_
  simp (disch := omega) only [go_sem, e0, e2, e3, e4]
  refine condP_dec (fun hlt => ?_) (fun hlt => ?_)
  · have hlt' : ts.length < 3 := by omega
    have K2 := S2.blk 1 rfl
    have zv := S2.vv 2 rfl
    simp (disch := omega) only [go_sem, e0, e2, e3, e4, K2, zv.1, zv.2.1, zv.2.2]
    refine C.go (case_d S2) ?_
    rintro r h3 ⟨t, l, rfl, hg, S3⟩
    have K3 := S3.blk 2 rfl
    simp (disch := omega) only [go_sem, e0, e2, e3, e4, K3, zv.1, zv.2.1, zv.2.2]
    refine C.go (expr_d (S3.pull 1)) ?_
    rintro r h4 ⟨ex, rfl, hex, S4⟩
    have K4 := S4.blk 2 rfl
    have K4' := fun t => heap_app (h' := t) K4
    have tl := good_task hg hex
    have S5 := (((S4.pull 1).ofFlat (sz := 6) (n := t.flat.length) (by simp) (flat_Stmt _)).mkTask (t := ⟨t.flat, ex⟩)).newK [[.own l 6 0 t.flat.length t.flat.length, .int .i64 ex.op, .int .i64 ex.a, .int .i64 ex.b]]
    have S6 := S5.pk (A := [_, _, _, _, _]) [4, 1, 3, 2] rfl
    have hpu := Sep.push (bytes := 48) (L := .k (h.length + 1) [[v]] :: .c id :: .k h.length [[.nils]] :: L) S6 (S5.blk 0 rfl) (by simp; omega)
    refine Exists.elim hpu fun v' q => Exists.elim q fun h5 q => ?_
    have hap := q.1
    have S7 := q.2
    clear q hpu
    have K7 := S7.blk 1 rfl
    have zv' := S7.vv 0 rfl
    rw [← push_task ts ⟨t.flat, ex⟩] at S7
    simp (disch := omega) only [go_sem, e0, e2, e3, e4, K4, K4', zv.1, zv.2.1, zv.2.2, encExpr, hap, K7, zv'.1, zv'.2.1, zv'.2.2, storeH, storeB, splice]
    have S8 := ((S7.pull 1).setK [[v']])
    refine nextP_intro (3 - (ts.length + 1)) (by omega) ⟨ts ++ [(⟨t.flat, ex⟩ : Task)], v', by simp; omega, by simp, by simp (disch := omega) only [go_sem, e0, e2, e3, e4, K4, K4', zv.1, zv.2.1, zv.2.2, encExpr, hap, K7, zv'.1, zv'.2.1, zv'.2.2, storeH, storeB, splice], by simp (disch := omega) only [go_sem, e0, e2, e3, e4, K4, K4', zv.1, zv.2.1, zv.2.2, encExpr, hap, K7, zv'.1, zv'.2.1, zv'.2.2, storeH, storeB, splice], by simp (disch := omega) only [go_sem, e0, e2, e3, e4, K4, K4', zv.1, zv.2.1, zv.2.2, encExpr, hap, K7, zv'.1, zv'.2.1, zv'.2.2, storeH, storeB, splice], by simp (disch := omega) only [go_sem, e0, e2, e3, e4, K4, K4', zv.1, zv.2.1, zv.2.2, encExpr, hap, K7, zv'.1, zv'.2.1, zv'.2.2, storeH, storeB, splice] <;> simp, ?_, S8⟩
    intro u hu
    rcases List.mem_append.1 hu with q | q
    · exact hok u q
    · rw [List.mem_singleton.1 q]; exact tl
  · have K2 := S2.blk 1 rfl
    have K3 := S2.blk 3 rfl
    have c1 : ∀ d, (h1.set h.length d)[h.length]? = some d := fun d => heap_set _ K3
    have zv := S2.vv 2 rfl
    simp (disch := omega) only [go_sem, e0, e2, e3, e4, K2, K3, c1, zv.1, zv.2.1, zv.2.2, storeH, storeB, splice]
    exact ⟨ts, v, rfl, ⟨by omega, hk⟩, hok, (((S2.pull 3).setK [[v]]).pk (A := [_, _, _, _]) [3, 1] rfl)⟩
end Go.Av

namespace Go.Av
open Go.Proofs Go.RowKit
set_option linter.unusedVariables false
set_option linter.unusedSimpArgs false
set_option maxRecDepth 100000
set_option maxHeartbeats 4000000
theorem push_int (zs : List Int) (z : Int) : (zs ++ [z]).map encI = zs.map encI ++ [[.int .i64 z]] := by simp [encI]
theorem all_snoc {p : Int → Prop} {zs : List Int} {z : Int} (h : ∀ x ∈ zs, p x) (hz : p z) : ∀ x ∈ zs ++ [z], p x := fun x hx => by
  rcases List.mem_append.1 hx with q | q
  · exact h x q
  · rw [List.mem_singleton.1 q]; exact hz
theorem vars_d {h : Heap} {id : Nat} {L : List It} (S : Sep h (.c id :: L)) : C Tryz.prog 73 [.ptr id 1 0 0] h (fun r h' => ∃ (zs : List Int) (l : Nat), r = .own l 1 0 zs.length zs.length ∧ zs.length = 8 ∧ (∀ z ∈ zs, -1000000 ≤ z ∧ z ≤ 1000000) ∧ Sep h' (.k l (zs.map encI) :: .c id :: L)) := by
  refine C.by mixed (cfn_ok Tryz.func73 ok73) rfl ?_
  simp (disch := omega) only [s73, go_sem]
  have S0 : Sep (h ++ [[]]) (.k h.length (([] : List Int).map encI) :: .c id :: L) := S.newK []
  refine loopP_intro (fun m s => ∃ (zs : List Int) (l : Nat), zs.length ≤ 8 ∧ m = 8 - zs.length ∧ s.e 0 = .ptr id 1 0 0 ∧ s.e 3 = .own l 1 0 zs.length zs.length ∧ s.e 4 = .int .i64 zs.length ∧ (∀ z ∈ zs, -1000000 ≤ z ∧ z ≤ 1000000) ∧ Sep s.h (.k l (zs.map encI) :: .c id :: L)) 8 ⟨[], h.length, by simp, rfl, by simp (disch := omega) only [go_sem], by simp (disch := omega) only [go_sem] <;> rfl, by simp (disch := omega) only [go_sem] <;> rfl, by simp, S0⟩ ?_
  intro m e hp P
  refine Exists.elim P fun zs P => Exists.elim P fun l P => ?_
  have hk := P.1
  have hm := P.2.1
  have e0 := P.2.2.1
  have e3 := P.2.2.2.1
  have e4 := P.2.2.2.2.1
  have hz := P.2.2.2.2.2.1
  have S1 := P.2.2.2.2.2.2
  clear P
  subst hm
  simp only at e0 e3 e4 S1
  simp (disch := omega) only [go_sem, e0, e3, e4]
  have S2 := S1.sw
  refine condP_dec (fun hlt => ?_) (fun hlt => ?_)
  · have hlt' : zs.length < 8 := by omega
    simp (disch := omega) only [go_sem, e0, e3, e4]
    refine S2.goBelow (n := 2000) (by omega) fun x h3 x0 x1 S3 => ?_
    simp (disch := omega) only [go_sem, e0, e3, e4]
    have S4 : Sep (h3 ++ [[0, 1, 2, 5, x - 1000, 1000000].map encI]) (.c id :: .k h3.length ([0, 1, 2, 5, x - 1000, 1000000].map encI) :: .k l (zs.map encI) :: L) := (S3.newK _).perm (.swap _ _ _)
    refine S4.goPick rfl (by omega) (by omega) fun v h9 hv S9 => ?_
    simp only [List.mem_cons, List.not_mem_nil, or_false] at hv
    simp (disch := omega) only [go_sem, e0, e3, e4]
    have hap := append1 (sz := 1) (bytes := 8) (n := zs.length) (c := [.int .i64 v]) (S9.blk 1 rfl) (by simp) (by omega)
    have S10 := S9.sw.push1 [.int .i64 v]
    rw [← push_int] at hap S10
    simp (disch := omega) only [go_sem, hap, e0, e3, e4]
    refine nextP_intro (8 - (zs.length + 1)) (by omega) ⟨zs ++ [v], l, by simp; omega, by simp, by simp (disch := omega) only [go_sem, hap, e0, e3, e4], by simp (disch := omega) only [go_sem, hap, e0, e3, e4] <;> simp, by simp (disch := omega) only [go_sem, hap, e0, e3, e4] <;> simp, all_snoc hz (by simp at *; omega), S10⟩
  · simp (disch := omega) only [go_sem, e0, e3, e4]
    exact ⟨zs, l, rfl, by omega, hz, S2.sw⟩
theorem readings_d {h : Heap} {id : Nat} {L : List It} (S : Sep h (.c id :: L)) : C Tryz.prog 65 [.ptr id 1 0 0] h (fun r h' => ∃ (zs : List Int) (l : Nat), r = .own l 1 0 zs.length zs.length ∧ (1 ≤ zs.length ∧ zs.length ≤ 9) ∧ (∀ z ∈ zs, -200 ≤ z ∧ z ≤ 600) ∧ Sep h' (.k l (zs.map encI) :: .c id :: L)) := by
  refine C.by mixed (cfn_ok Tryz.func65 ok65) rfl ?_
  simp (disch := omega) only [s65, go_sem]
  have S0 : Sep (h ++ [[]]) (.k h.length (([] : List Int).map encI) :: .c id :: L) := S.newK []
  refine loopP_intro (fun m s => ∃ (zs : List Int) (l : Nat), zs.length ≤ 9 ∧ m = 9 - zs.length ∧ s.e 0 = .ptr id 1 0 0 ∧ s.e 3 = .own l 1 0 zs.length zs.length ∧ s.e 4 = .int .i64 zs.length ∧ (∀ z ∈ zs, -200 ≤ z ∧ z ≤ 600) ∧ Sep s.h (.k l (zs.map encI) :: .c id :: L)) 9 ⟨[], h.length, by simp, rfl, by simp (disch := omega) only [go_sem], by simp (disch := omega) only [go_sem] <;> rfl, by simp (disch := omega) only [go_sem] <;> rfl, by simp, S0⟩ ?_
  intro m e hp P
  refine Exists.elim P fun zs P => Exists.elim P fun l P => ?_
  have hk := P.1
  have hm := P.2.1
  have e0 := P.2.2.1
  have e3 := P.2.2.2.1
  have e4 := P.2.2.2.2.1
  have hz := P.2.2.2.2.2.1
  have S1 := P.2.2.2.2.2.2
  clear P
  subst hm
  simp only at e0 e3 e4 S1
  simp (disch := omega) only [go_sem, e0, e3, e4]
  refine S1.sw.goBelow (n := 9) (by omega) fun w h1 w0 w1 S2 => ?_
  simp (disch := omega) only [go_sem, e0, e3, e4]
  refine condP_dec (fun hlt => ?_) (fun hlt => ?_)
  · have hlt' : zs.length < 9 := by omega
    simp (disch := omega) only [go_sem, e0, e3, e4]
    refine S2.goBelow (n := 800) (by omega) fun x h9 x0 x1 S9 => ?_
    simp (disch := omega) only [go_sem, e0, e3, e4]
    have hap := append1 (sz := 1) (bytes := 8) (n := zs.length) (c := [.int .i64 (x - 200)]) (S9.blk 1 rfl) (by simp) (by omega)
    have S10 := S9.sw.push1 [.int .i64 (x - 200)]
    rw [← push_int] at hap S10
    simp (disch := omega) only [go_sem, hap, e0, e3, e4]
    refine nextP_intro (9 - (zs.length + 1)) (by omega) ⟨zs ++ [(x - 200)], l, by simp; omega, by simp, by simp (disch := omega) only [go_sem, hap, e0, e3, e4], by simp (disch := omega) only [go_sem, hap, e0, e3, e4] <;> simp, by simp (disch := omega) only [go_sem, hap, e0, e3, e4] <;> simp, all_snoc hz (by simp at *; omega), S10⟩
  · simp (disch := omega) only [go_sem, e0, e3, e4]
    exact ⟨zs, l, rfl, by omega, hz, S2.sw⟩
theorem energies_d {h : Heap} {id : Nat} {L : List It} (S : Sep h (.c id :: L)) : C Tryz.prog 110 [.ptr id 1 0 0] h (fun r h' => ∃ (zs : List Int) (l : Nat), r = .own l 1 0 zs.length zs.length ∧ zs.length ≤ 8 ∧ (∀ z ∈ zs, 0 ≤ z ∧ z ≤ 250) ∧ Sep h' (.k l (zs.map encI) :: .c id :: L)) := by
  refine C.by mixed (cfn_ok Tryz.func110 ok110) rfl ?_
  simp (disch := omega) only [s110, go_sem]
  have S0 : Sep (h ++ [[]]) (.k h.length (([] : List Int).map encI) :: .c id :: L) := S.newK []
  refine loopP_intro (fun m s => ∃ (zs : List Int) (l : Nat), zs.length ≤ 8 ∧ m = 8 - zs.length ∧ s.e 0 = .ptr id 1 0 0 ∧ s.e 3 = .own l 1 0 zs.length zs.length ∧ s.e 4 = .int .i64 zs.length ∧ (∀ z ∈ zs, 0 ≤ z ∧ z ≤ 250) ∧ Sep s.h (.k l (zs.map encI) :: .c id :: L)) 8 ⟨[], h.length, by simp, rfl, by simp (disch := omega) only [go_sem], by simp (disch := omega) only [go_sem] <;> rfl, by simp (disch := omega) only [go_sem] <;> rfl, by simp, S0⟩ ?_
  intro m e hp P
  refine Exists.elim P fun zs P => Exists.elim P fun l P => ?_
  have hk := P.1
  have hm := P.2.1
  have e0 := P.2.2.1
  have e3 := P.2.2.2.1
  have e4 := P.2.2.2.2.1
  have hz := P.2.2.2.2.2.1
  have S1 := P.2.2.2.2.2.2
  clear P
  subst hm
  simp only at e0 e3 e4 S1
  simp (disch := omega) only [go_sem, e0, e3, e4]
  refine S1.sw.goBelow (n := 9) (by omega) fun w h1 w0 w1 S2 => ?_
  simp (disch := omega) only [go_sem, e0, e3, e4]
  refine condP_dec (fun hlt => ?_) (fun hlt => ?_)
  · have hlt' : zs.length < 8 := by omega
    simp (disch := omega) only [go_sem, e0, e3, e4]
    have S4 : Sep (h1 ++ [[12, 60, 250].map encI]) (.c id :: .k h1.length ([12, 60, 250].map encI) :: .k l (zs.map encI) :: L) := (S2.newK _).perm (.swap _ _ _)
    refine S4.goPick rfl (by omega) (by omega) fun v h4 hv S5 => ?_
    simp only [List.mem_cons, List.not_mem_nil, or_false] at hv
    simp (disch := omega) only [go_sem, e0, e3, e4]
    refine S5.goBelow (n := v) (by omega) fun x h9 x0 x1 S9 => ?_
    simp (disch := omega) only [go_sem, e0, e3, e4]
    have hap := append1 (sz := 1) (bytes := 8) (n := zs.length) (c := [.int .i64 x]) (S9.blk 1 rfl) (by simp) (by omega)
    have S10 := S9.sw.push1 [.int .i64 x]
    rw [← push_int] at hap S10
    simp (disch := omega) only [go_sem, hap, e0, e3, e4]
    refine nextP_intro (8 - (zs.length + 1)) (by omega) ⟨zs ++ [x], l, by simp; omega, by simp, by simp (disch := omega) only [go_sem, hap, e0, e3, e4], by simp (disch := omega) only [go_sem, hap, e0, e3, e4] <;> simp, by simp (disch := omega) only [go_sem, hap, e0, e3, e4] <;> simp, all_snoc hz (by simp at *; omega), S10⟩
  · simp (disch := omega) only [go_sem, e0, e3, e4]
    exact ⟨zs, l, rfl, by omega, hz, S2.sw⟩
theorem harvest_d {h : Heap} {id : Nat} {L : List It} (S : Sep h (.c id :: L)) : C Tryz.prog 64 [.ptr id 1 0 0] h (fun r h' => ∃ (zs : List Int) (l : Nat), r = .own l 1 0 zs.length zs.length ∧ zs.length ≤ 11 ∧ (∀ z ∈ zs, 0 ≤ z ∧ z ≤ 400) ∧ Sep h' (.k l (zs.map encI) :: .c id :: L)) := by
  refine C.by mixed (cfn_ok Tryz.func64 ok64) rfl ?_
  simp (disch := omega) only [s64, go_sem]
  have S0 : Sep (h ++ [[]]) (.k h.length (([] : List Int).map encI) :: .c id :: L) := S.newK []
  refine loopP_intro (fun m s => ∃ (zs : List Int) (l : Nat), zs.length ≤ 11 ∧ m = 11 - zs.length ∧ s.e 0 = .ptr id 1 0 0 ∧ s.e 3 = .own l 1 0 zs.length zs.length ∧ s.e 4 = .int .i64 zs.length ∧ (∀ z ∈ zs, 0 ≤ z ∧ z ≤ 400) ∧ Sep s.h (.k l (zs.map encI) :: .c id :: L)) 11 ⟨[], h.length, by simp, rfl, by simp (disch := omega) only [go_sem], by simp (disch := omega) only [go_sem] <;> rfl, by simp (disch := omega) only [go_sem] <;> rfl, by simp, S0⟩ ?_
  intro m e hp P
  refine Exists.elim P fun zs P => Exists.elim P fun l P => ?_
  have hk := P.1
  have hm := P.2.1
  have e0 := P.2.2.1
  have e3 := P.2.2.2.1
  have e4 := P.2.2.2.2.1
  have hz := P.2.2.2.2.2.1
  have S1 := P.2.2.2.2.2.2
  clear P
  subst hm
  simp only at e0 e3 e4 S1
  simp (disch := omega) only [go_sem, e0, e3, e4]
  refine S1.sw.goBelow (n := 12) (by omega) fun w h1 w0 w1 S2 => ?_
  simp (disch := omega) only [go_sem, e0, e3, e4]
  refine condP_dec (fun hlt => ?_) (fun hlt => ?_)
  · have hlt' : zs.length < 11 := by omega
    simp (disch := omega) only [go_sem, e0, e3, e4]
    have S4 : Sep (h1 ++ [[0, 20, 100, 400].map encI]) (.c id :: .k h1.length ([0, 20, 100, 400].map encI) :: .k l (zs.map encI) :: L) := (S2.newK _).perm (.swap _ _ _)
    refine S4.goPick rfl (by omega) (by omega) fun v h9 hv S9 => ?_
    simp only [List.mem_cons, List.not_mem_nil, or_false] at hv
    simp (disch := omega) only [go_sem, e0, e3, e4]
    have hap := append1 (sz := 1) (bytes := 8) (n := zs.length) (c := [.int .i64 v]) (S9.blk 1 rfl) (by simp) (by omega)
    have S10 := S9.sw.push1 [.int .i64 v]
    rw [← push_int] at hap S10
    simp (disch := omega) only [go_sem, hap, e0, e3, e4]
    refine nextP_intro (11 - (zs.length + 1)) (by omega) ⟨zs ++ [v], l, by simp; omega, by simp, by simp (disch := omega) only [go_sem, hap, e0, e3, e4], by simp (disch := omega) only [go_sem, hap, e0, e3, e4] <;> simp, by simp (disch := omega) only [go_sem, hap, e0, e3, e4] <;> simp, all_snoc hz (by simp at *; omega), S10⟩
  · simp (disch := omega) only [go_sem, e0, e3, e4]
    exact ⟨zs, l, rfl, by omega, hz, S2.sw⟩
end Go.Av

namespace Go.Av
open Go.Proofs Go.RowKit
set_option linter.unusedVariables false
set_option linter.unusedSimpArgs false
set_option maxRecDepth 100000
set_option maxHeartbeats 4000000
structure MemD (n : Nat) (m : List Int) (t c l : Int) : Prop where
  len : m.length = 49
  val : ∀ z ∈ m, -1000000 ≤ z ∧ z ≤ 1000000
  t0 : 0 ≤ t
  t1 : t < n
  c0 : 0 ≤ c
  c1 : c ≤ 8
  l0 : 0 ≤ l
  l1 : l ≤ 24
  ctl : m[8]? = some (packM t c l)
theorem mem_d {h : Heap} {id : Nat} {ts : List Task} {v : V} {L : List It} (hl : 1 ≤ ts.length ∧ ts.length ≤ 6) (S : Sep h (.v (.lst 4 (ts.map encTask)) v :: .c id :: L)) : C Tryz.prog 61 [.ptr id 1 0 0, .agg [v]] h (fun r h' => ∃ (m : List Int) (l : Nat) (t c b : Int), r = .own l 1 0 49 49 ∧ MemD ts.length m t c b ∧ Sep h' (.k l (m.map encI) :: .v (.lst 4 (ts.map encTask)) v :: .c id :: L)) := by
  have zv := S.vv 0 rfl
  have hnh : [V.ptr id 1 0 0, .agg [v]].all V.noHole = true := rfl
  refine C.by mixed (cfn_ok Tryz.func61 ok61) hnh ?_
  simp (disch := omega) only [s61, go_sem, zv.1, zv.2.1, zv.2.2]
  refine C.go (vars_d ((S.newK [[v]]).pk (A := [_, _, _]) [2, 0, 1] rfl)) ?_
  rintro r h1 ⟨vs, l0, rfl, hv8, hv, S1⟩
  have hvo : varsOkM vs = true := by
    simp only [varsOkM, hv8, Bool.and_eq_true, decide_eq_true_eq, true_and]
    exact vals_iff.2 fun z hz => by have := hv z hz; simp [isValue, within]; omega
  simp (disch := omega) only [go_sem, zv.1, zv.2.1, zv.2.2]
  refine S1.goLstB (memNew_f vs hvo) (.cons (Snap.flatN (S1.blk 0 rfl) (by simp) (flat_encI _)) (.nil _)) fun r2 h2 x2 S2 o2 n2 c2 => ?_
  refine Exists.elim (show ∃ q, r2 = .own q 1 0 49 49 ∧ Sep h2 (.k q ((vs ++ List.replicate 41 0).map encI) :: .k l0 (vs.map encI) :: .c id :: .k h.length [[v]] :: .v (.lst 4 (ts.map encTask)) v :: L) from ?_) fun q z => ?_
  · rcases S2.flat_ (flat_encI _) with ⟨a, b, c⟩ | ⟨q, a, b⟩
    · simp at b
    · exact ⟨q, by simpa [hv8] using a, b⟩
  have z1 := z.1
  have S3 := z.2
  clear z
  subst z1
  have S4 := S3.pk (A := [_, _, _, _, _]) [2, 0, 3, 4] rfl
  have hm0 : ∀ z ∈ vs ++ List.replicate 41 0, -1000000 ≤ z ∧ z ≤ 1000000 := fun z hz => by
    rcases List.mem_append.1 hz with w | w
    · exact hv z w
    · rw [(List.mem_replicate.1 w).2]; omega
  have hm1 : (vs ++ List.replicate 41 (0 : Int)).length = 49 := by simp [hv8]
  generalize vs ++ List.replicate 41 (0 : Int) = m0 at S4 hm0 hm1
  simp (disch := omega) only [go_sem, zv.1, zv.2.1, zv.2.2]
  refine Sep.goBelow (n := 5) S4 (by omega) fun tl h3 t0 t1 S5 => ?_
  simp (disch := omega) only [go_sem, zv.1, zv.2.1, zv.2.2]
  refine loopP_intro (fun n s => ∃ (k : Nat) (m : List Int), (k : Int) ≤ tl ∧ n = tl.toNat - k ∧ m.length = 49 ∧ (∀ z ∈ m, -1000000 ≤ z ∧ z ≤ 1000000) ∧ s.e 0 = .ptr id 1 0 0 ∧ s.e 3 = .ptr h.length 1 0 0 ∧ s.e 5 = .own q 1 0 49 49 ∧ s.e 7 = .int .i64 tl ∧ s.e 8 = .int .i64 k ∧ Sep s.h (.c id :: .k q (m.map encI) :: .k h.length [[v]] :: .v (.lst 4 (ts.map encTask)) v :: L)) tl.toNat ⟨0, m0, by omega, by omega, hm1, hm0, by simp (disch := omega) only [go_sem, zv.1, zv.2.1, zv.2.2], by simp (disch := omega) only [go_sem, zv.1, zv.2.1, zv.2.2], by simp (disch := omega) only [go_sem, zv.1, zv.2.1, zv.2.2], by simp (disch := omega) only [go_sem, zv.1, zv.2.1, zv.2.2], by simp (disch := omega) only [go_sem, zv.1, zv.2.1, zv.2.2] <;> rfl, S5⟩ ?_
  intro n e hp P
  refine Exists.elim P fun k P => Exists.elim P fun m P => ?_
  have hk := P.1
  have hn := P.2.1
  have hml := P.2.2.1
  have hmv := P.2.2.2.1
  have e0 := P.2.2.2.2.1
  have e3 := P.2.2.2.2.2.1
  have e5 := P.2.2.2.2.2.2.1
  have e7 := P.2.2.2.2.2.2.2.1
  have e8 := P.2.2.2.2.2.2.2.2.1
  have S6 := P.2.2.2.2.2.2.2.2.2
  clear P
  subst hn
  simp only at e0 e3 e5 e7 e8 S6
  simp (disch := omega) only [go_sem, e0, e3, e5, e7, e8]
  refine condP_dec (fun hlt => ?_) (fun hlt => ?_)
  · simp (disch := omega) only [go_sem, e0, e3, e5, e7, e8]
    refine S6.goBelow (n := 500) (by omega) fun z h4 z0 z1 S7 => ?_
    have st := store_i (z := z) (i := (25 + (k : Int)).toNat) (S7.blk 1 rfl) hml (by omega)
    simp (disch := omega) only [go_sem, e0, e3, e5, e7, e8, Nat.zero_add, st]
    refine nextP_intro (tl.toNat - (k + 1)) (by omega) ⟨k + 1, m.set (25 + (k : Int)).toNat z, by omega, rfl, by simpa using hml, set_all hmv (by omega), by simp (disch := omega) only [go_sem, e0, e3, e5, e7, e8, Nat.zero_add, st], by simp (disch := omega) only [go_sem, e0, e3, e5, e7, e8, Nat.zero_add, st], by simp (disch := omega) only [go_sem, e0, e3, e5, e7, e8, Nat.zero_add, st], by simp (disch := omega) only [go_sem, e0, e3, e5, e7, e8, Nat.zero_add, st], by simp (disch := omega) only [go_sem, e0, e3, e5, e7, e8, Nat.zero_add, st] <;> rfl, (S7.sw.setK _).sw⟩
  simp (disch := omega) only [go_sem, e0, e3, e5, e7, e8]
  refine S6.goBelow (n := 2) (by omega) fun x h4 x0 x1 S7 => ?_
  simp (disch := omega) only [go_sem, e0, e3, e5, e7, e8]
  refine S7.goBelow (n := 4) (by omega) fun y h5 y0 y1 S8 => ?_
  have hxy : 0 ≤ x * y ∧ x * y ≤ 3 := by
    have : x = 0 ∨ x = 1 := by omega
    rcases this with rfl | rfl <;> omega
  refine Exists.elim (show ∃ c, c = x * y from ⟨_, rfl⟩) fun c hc => ?_
  rw [← hc] at hxy
  simp (disch := omega) only [go_sem, e0, e3, e5, e7, e8, hc.symm]
  refine loopP_intro (fun n s => ∃ (k : Nat) (m : List Int), (k : Int) ≤ c ∧ n = c.toNat - k ∧ m.length = 49 ∧ (∀ z ∈ m, -1000000 ≤ z ∧ z ≤ 1000000) ∧ s.e 0 = .ptr id 1 0 0 ∧ s.e 3 = .ptr h.length 1 0 0 ∧ s.e 5 = .own q 1 0 49 49 ∧ s.e 7 = .int .i64 tl ∧ s.e 9 = .int .i64 c ∧ s.e 10 = .int .i64 k ∧ Sep s.h (.c id :: .k q (m.map encI) :: .k h.length [[v]] :: .v (.lst 4 (ts.map encTask)) v :: L)) c.toNat ⟨0, m, by omega, by omega, hml, hmv, by simp (disch := omega) only [go_sem, e0, e3, e5, e7, e8, hc.symm], by simp (disch := omega) only [go_sem, e0, e3, e5, e7, e8, hc.symm], by simp (disch := omega) only [go_sem, e0, e3, e5, e7, e8, hc.symm], by simp (disch := omega) only [go_sem, e0, e3, e5, e7, e8, hc.symm], by simp (disch := omega) only [go_sem, e0, e3, e5, e7, e8, hc.symm], by simp (disch := omega) only [go_sem, e0, e3, e5, e7, e8, hc.symm] <;> rfl, S8⟩ ?_
  clear e0 e3 e5 e7 e8 hk hlt S6 S7 S8
  intro n e hp P
  refine Exists.elim P fun k P => Exists.elim P fun m P => ?_
  have hk := P.1
  have hn := P.2.1
  have hml := P.2.2.1
  have hmv := P.2.2.2.1
  have e0 := P.2.2.2.2.1
  have e3 := P.2.2.2.2.2.1
  have e5 := P.2.2.2.2.2.2.1
  have e7 := P.2.2.2.2.2.2.2.1
  have e9 := P.2.2.2.2.2.2.2.2.1
  have e10 := P.2.2.2.2.2.2.2.2.2.1
  have S6 := P.2.2.2.2.2.2.2.2.2.2
  clear P
  subst hn
  simp only at e0 e3 e5 e7 e9 e10 S6
  simp (disch := omega) only [go_sem, e0, e3, e5, e7, e9, e10]
  refine condP_dec (fun hlt => ?_) (fun hlt => ?_)
  · have st := store_i (z := k) (i := (9 + 2 * (k : Int)).toNat) (S6.blk 1 rfl) hml (by omega)
    have S6' := (S6.sw.setK ((m.set (9 + 2 * (k : Int)).toNat k).map encI)).sw
    simp (disch := omega) only [go_sem, e0, e3, e5, e7, e9, e10, Nat.zero_add, st]
    refine S6'.goBelow (n := 900) (by omega) fun z h4 z0 z1 S7 => ?_
    have st2 := store_i (z := z) (i := (9 + 2 * (k : Int) + 1).toNat) (S7.blk 1 rfl) (by simpa using hml) (by omega)
    simp (disch := omega) only [go_sem, e0, e3, e5, e7, e9, e10, Nat.zero_add, st2]
    refine nextP_intro (c.toNat - (k + 1)) (by omega) ⟨k + 1, (m.set (9 + 2 * (k : Int)).toNat k).set (9 + 2 * (k : Int) + 1).toNat z, by omega, rfl, by simpa using hml, set_all (set_all hmv (by omega)) (by omega), by simp (disch := omega) only [go_sem, e0, e3, e5, e7, e9, e10, Nat.zero_add, st2], by simp (disch := omega) only [go_sem, e0, e3, e5, e7, e9, e10, Nat.zero_add, st2], by simp (disch := omega) only [go_sem, e0, e3, e5, e7, e9, e10, Nat.zero_add, st2], by simp (disch := omega) only [go_sem, e0, e3, e5, e7, e9, e10, Nat.zero_add, st2], by simp (disch := omega) only [go_sem, e0, e3, e5, e7, e9, e10, Nat.zero_add, st2], by simp (disch := omega) only [go_sem, e0, e3, e5, e7, e9, e10, Nat.zero_add, st2] <;> rfl, (S7.sw.setK _).sw⟩
  have zv := S6.vv 3 rfl
  have lenv := fun G => (S6.lst 3 rfl).elim fun i o => o.len_ G
  simp only [List.length_map] at lenv
  have K6 := S6.blk 2 rfl
  simp (disch := omega) only [go_sem, e0, e3, e5, e7, e9, e10, K6, zv.1, zv.2.1, zv.2.2, lenv]
  refine S6.goBelow (n := ts.length) (by omega) fun t h4 t0 t1 S7 => ?_
  simp (disch := omega) only [go_sem, e0, e3, e5, e7, e9, e10]
  refine CP.go (pack_s _ _ _) rfl rfl ?_
  have st := store_i (z := packM t c tl) (i := 8) (S7.blk 1 rfl) hml (by omega)
  have hpb := packM_bd t c tl
  simp (disch := omega) only [go_sem, e0, e3, e5, e7, e9, e10, st]
  refine ⟨m.set 8 (packM t c tl), q, t, c, tl, rfl, ⟨by simpa using hml, set_all hmv (by omega), by omega, by omega, by omega, by omega, by omega, by omega, ?_⟩, (S7.sw.setK _).pk (A := [_, _, _, _]) [0, 3, 1] rfl⟩
  rw [List.getElem?_set_self (by omega)]
end Go.Av

namespace Go.Av
open Go.Proofs Go.RowKit
set_option linter.unusedVariables false
set_option linter.unusedSimpArgs false
set_option maxRecDepth 100000
set_option maxHeartbeats 4000000
theorem Snap.part {h : Heap} {id sz n : Nat} {b : Blk} (o u : Nat) (hb : h[id]? = some b) (hn : b.length = n) (hu : o + u ≤ n) (hf : Av.flat b = true) : Snap h (.own id sz o u n) (.lst sz ((b.drop o).take u)) := by
  subst hn
  have get : ∀ (i : Nat) (d : List V), ((b.drop o).take u)[i]? = some d → b[o + i]? = some d := fun i d h2 => by
    have hi : i < u := by have := (List.getElem?_eq_some_iff.1 h2).1; simp at this; omega
    rw [List.getElem?_take_of_lt hi, List.getElem?_drop] at h2; exact h2
  refine .own hb rfl hu (by simp; omega) (fun i e d h1 h2 => ?_) (fun i e d j c x h1 h2 h3 h4 => ?_)
  · have := get i d h2
    rw [h1] at this; cases this; rfl
  · have := get i d h2
    rw [h1] at this; cases this
    rw [h3] at h4; cases h4
    exact Snap.of_scalar h (flat_get hf h1 h3)
def splitM (ts : List Task) (t k : Nat) : List Task := match ts[t]? with
  | some tk => ts.set t ⟨tk.body.take k, ⟨1, ts.length, 0⟩⟩ ++ [⟨tk.body.drop k, tk.next⟩]
  | none => ts
theorem splitM_eq {ts : List Task} {t k : Nat} (ht : t < ts.length) : splitM ts t k = ts.set t ⟨ts[t].body.take k, ⟨1, ts.length, 0⟩⟩ ++ [⟨ts[t].body.drop k, ts[t].next⟩] := by
  unfold splitM; rw [List.getElem?_eq_getElem ht]
theorem splitM_map {ts : List Task} {t k : Nat} (ht : t < ts.length) : (splitM ts t k).map encTask = (ts.map encTask).set t (encTask ⟨ts[t].body.take k, ⟨1, ts.length, 0⟩⟩) ++ [encTask ⟨ts[t].body.drop k, ts[t].next⟩] := by
  rw [splitM_eq ht, List.map_append, List.map_set]; rfl
theorem Sep.goCopy {P : Program} {f : FuncId} {args args' : List V} {ts : List Task} {h : Heap} {L : List It} {K : V → Heap → Prop} (S : Sep h L) (hf : F P f args' (.agg [.lst 4 (ts.map encTask)])) (hs : Snaps h args args')
    (hk : ∀ v h', Ext h h' → Sep h' (.v (.lst 4 (ts.map encTask)) v :: L) → V.one v = true → V.nohole v = v → V.cells v = [v] → K (.agg [v]) h') : @callP P f args h ⟨K⟩ :=
  S.go hf hs fun r h' x S1 => by
    obtain ⟨_, rfl, S2⟩ := sep_agg.1 S1
    obtain ⟨c, _, rfl, S3⟩ := sep_ll.1 S2
    obtain ⟨rfl, S4⟩ := sep_l0.1 S3
    have S5 := S4.rot
    have z := S5.vv 0 rfl
    exact hk c h' x S5 z.1 z.2.1 z.2.2
theorem Sep.taskRow {h : Heap} {L : List It} (S : Sep h L) (n : Nat) {ts : List Task} {v : V} {t : Nat} (e : L[n]? = some (.v (.lst 4 (ts.map encTask)) v)) (ht : t < ts.length) (hb : 0 < ts[t].body.length) :
    ∃ id b vid, v = .own id 4 0 ts.length ts.length ∧ h[id]? = some b ∧ b.length = ts.length ∧ b[t]? = some [.own vid 6 0 ts[t].body.length ts[t].body.length, .int .i64 ts[t].next.op, .int .i64 ts[t].next.a, .int .i64 ts[t].next.b] ∧ h[vid]? = some (ts[t].body.map encStmt) := by
  obtain ⟨id, b, c, i, e1, e2, e3, e4, o⟩ := S.row n e (k := t) (d := encTask ts[t]) (by simp [ht])
  obtain ⟨va, rfl, o'⟩ := o.task
  rcases (Owns.flat_ (flat_Stmt _)).1 o' with ⟨_, q, _⟩ | ⟨vid, q1, q2, _⟩
  · have : ts[t].body = [] := by simpa using q
    rw [this] at hb; simp at hb
  · refine ⟨id, b, vid, by simpa using e1, e2, by simpa using e3, ?_, q2⟩
    rw [q1] at e4
    simpa using e4
theorem split_f (ts : List Task) (t k : Nat) (hx : ts.length ≤ 1048576) (hb : ∀ t ∈ ts, t.body.length ≤ 1048576) (ht : t < ts.length) (hk0 : 0 < k) (hk : k < ts[t].body.length) : F Tryz.prog 83 [.agg [.lst 4 (ts.map encTask)], .int .i64 t, .int .i64 k] (.agg [.lst 4 ((splitM ts t k).map encTask)]) := by
  have hbt := hb _ (List.getElem_mem ht)
  refine C.by mixed (cfn_ok Tryz.func83 ok83) rfl ?_
  simp (disch := omega) only [s83, go_sem, storeH, storeB, splice]
  have S0 : Sep ([[[.lst 4 (ts.map encTask)]], [[.nils]]] : Heap) [.k 1 [[.nils]], .k 0 [[.lst 4 (ts.map encTask)]]] := ((Sep.nil []).newK _).newK _
  refine S0.goCopy (copyProg_f ts hx hb) (.same (refs_prog1 _ _)) fun v1 h1 x1 S1 o1 n1 c1 => ?_
  refine Exists.elim (S1.taskRow 0 rfl ht (by omega)) fun id q => Exists.elim q fun b q => Exists.elim q fun vid q => ?_
  have q1 := q.1
  have q2 := q.2.1
  have q3 := q.2.2.1
  have q4 := q.2.2.2.1
  have q5 := q.2.2.2.2
  clear q
  subst q1
  have hid := heap_lt q2
  have hvid := heap_lt q5
  have u2 := fun r => heap_app (h' := r) q2
  have u5 := fun r => heap_app (h' := r) q5
  simp (disch := omega) only [go_sem, q2, q3, q4, q5, u2, u5, o1, n1, c1, storeH, storeB, splice]
  have S3 : Sep (h1 ++ [[[.own id 4 0 ts.length ts.length]], [[.own vid 6 0 ts[t].body.length ts[t].body.length, .int .i64 ts[t].next.op, .int .i64 ts[t].next.a, .int .i64 ts[t].next.b]]]) [.k (h1.length + 1) [[.own vid 6 0 ts[t].body.length ts[t].body.length, .int .i64 ts[t].next.op, .int .i64 ts[t].next.a, .int .i64 ts[t].next.b]], .k h1.length [[.own id 4 0 ts.length ts.length]], .v (.lst 4 (ts.map encTask)) (.own id 4 0 ts.length ts.length), .k 1 [[.nils]], .k 0 [[.lst 4 (ts.map encTask)]]] := by
    have w := (S1.newK [[.own id 4 0 ts.length ts.length]]).newK [[.own vid 6 0 ts[t].body.length ts[t].body.length, .int .i64 ts[t].next.op, .int .i64 ts[t].next.a, .int .i64 ts[t].next.b]]
    rw [List.append_assoc, List.length_append] at w
    exact w
  have em : ((ts[t].body.map encStmt).drop k).take (ts[t].body.length - k) = (ts[t].body.drop k).map encStmt := by
    rw [← List.map_drop, List.take_of_length_le (by simp)]
  have sn1 := Snap.part (sz := 6) (n := ts[t].body.length) k (ts[t].body.length - k) (u5 [[[.own id 4 0 ts.length ts.length]], [[.own vid 6 0 ts[t].body.length ts[t].body.length, .int .i64 ts[t].next.op, .int .i64 ts[t].next.a, .int .i64 ts[t].next.b]]]) (by simp) (by omega) (flat_Stmt _)
  rw [em] at sn1
  refine S3.goLst (cloneS_f (ts[t].body.drop k) (by simp; omega)) (.cons sn1 (.nil _)) fun r1 h3 x3 S4 ro rn rc => ?_
  have p8 := S4.blk 1 rfl
  have p7 := S4.blk 2 rfl
  have v3 := x3.get (u5 _)
  have i3 := x3.get (u2 _)
  have S5 := S4.newK [[r1, .int .i64 ts[t].next.op, .int .i64 ts[t].next.a, .int .i64 ts[t].next.b]]
  have p8' := S5.blk 2 rfl
  have p7' := S5.blk 3 rfl
  have k0' := S5.blk 6 rfl
  have v3' := fun r => heap_app (h' := r) v3
  have i3' := fun r => heap_app (h' := r) i3
  simp (disch := omega) only [go_sem, q3, q4, ro, rn, rc, p8, p7, v3, i3, p8', p7', k0', v3', i3', storeH, storeB, splice]
  have sn2 := Snap.head (sz := 6) (n := ts[t].body.length) k (v3' [[[r1, .int .i64 ts[t].next.op, .int .i64 ts[t].next.a, .int .i64 ts[t].next.b]]]) (by simp) (by omega) (flat_Stmt _)
  rw [← List.map_take] at sn2
  refine S5.goLst (cloneS_f (ts[t].body.take k) (by simp; omega)) (.cons sn2 (.nil _)) fun r2 h5 x5 S6 r2o r2n r2c => ?_
  have k7 := S6.blk 4 rfl
  have k8 := S6.blk 3 rfl
  have k0 := S6.blk 7 rfl
  have i5 := x5.get (i3' _)
  have S7 := ((S6.pull 2).mkTask (t := ⟨ts[t].body.drop k, ts[t].next⟩)).pull 1
  have S8 := (S7.mkTask (t := ⟨ts[t].body.take k, ⟨1, ts.length, 0⟩⟩)).pull 5
  refine Exists.elim (S8.rowSet (k := t) (by simp [ht])) fun id' q => Exists.elim q fun b' q => ?_
  have w1 := q.1
  have w2 := q.2.1
  have w3 := q.2.2.1
  have w4 := q.2.2.2.1
  have S9 := q.2.2.2.2
  clear q
  injection w1 with e1
  subst e1
  have e2 := Option.some.inj (w2.symm.trans i5)
  subst e2
  have y7 := S9.blk 4 rfl
  have y9 := S9.blk 2 rfl
  have S10 := S9.newK [[r1, .int .i64 ts[t].next.op, .int .i64 ts[t].next.a, .int .i64 ts[t].next.b]]
  have S11 := S10.pick [1, 2, 5, 6] (by decide)
  have hpu := S11.push (bytes := 48) (S10.blk 0 rfl) (by simp; omega)
  refine Exists.elim hpu fun v' q => Exists.elim q fun h7 q => ?_
  have hap := q.1
  have S12 : Sep h7 [.v (.lst 4 ((splitM ts t k).map encTask)) v', .k h1.length [[.own id 4 0 ts.length ts.length]], .k 1 [[.nils]]] := by
    rw [splitM_map ht]; exact q.2
  clear q hpu
  have z12 := S12.vv 0 rfl
  have y12 := S12.blk 1 rfl
  have S13 := ((S12.pull 1).setK [[v']])
  have y13 := S13.blk 0 rfl
  have y1 := S13.blk 2 rfl
  have y1' : ∀ d, ((h7.set h1.length [[v']]).set 1 d)[1]? = some d := fun d => heap_set _ y1
  simp (disch := omega) only [go_sem, q3, r2o, r2n, r2c, k0, k7, k8, w2, q4, y7, y9, ro, rn, rc, hap, z12.1, z12.2.1, z12.2.2, y12, y13, y1, y1', storeH, storeB, splice]
  exact (((S13.pull 2).setK [[v']]).drop1.drop1).prog
theorem append0' {h : Heap} {sz bytes m : Nat} {x : V} {xs : Blk} (hx : elemsOf (h ++ [[]]) sz x = some xs) (hm : xs.length = m) (hl : m * bytes ≤ 140737488355328) : appendH (h ++ [[]]) sz bytes (.own h.length sz 0 0 0) x = some (.own h.length sz 0 m m, h ++ [xs]) := by
  have := appendH_n (h := h ++ [[]]) (sz := sz) (bytes := bytes) (id := h.length) (n := 0) (m := m) (b := []) (xs := xs) (x := x) (by simp) rfl hx hm (by rw [Nat.zero_add]; exact hl)
  simpa using this
theorem elems_part {h : Heap} {sz id o u n : Nat} {b : Blk} (hb : h[id]? = some b) (hn : b.length = n) (hu : o + u ≤ n) : elemsOf h sz (.own id sz o u n) = some ((b.drop o).take u) := by
  subst hn
  simp [elemsOf, hb, hu]
theorem split_s (ts : List Task) (t k : Nat) (hx : ts.length ≤ 1048576) (hb : ∀ t ∈ ts, t.body.length ≤ 1048576) (ht : t < ts.length) (hk0 : 0 < k) (hk : k < ts[t].body.length) : F Tryz.prog 102 [.agg [.lst 4 (ts.map encTask)], .int .i64 t, .int .i64 k] (.agg [.lst 4 ((splitM ts t k).map encTask)]) := by
  have hbt := hb _ (List.getElem_mem ht)
  refine C.by mixed (cfn_ok Tryz.func102 ok102) rfl ?_
  simp (disch := omega) only [s102, go_sem, storeH, storeB, splice]
  have S0 : Sep ([[[.lst 4 (ts.map encTask)]], [[.nils]]] : Heap) [.k 1 [[.nils]], .k 0 [[.lst 4 (ts.map encTask)]]] := ((Sep.nil []).newK _).newK _
  refine S0.goCopy (copyProg_s ts hx hb) (.same (refs_prog1 _ _)) fun v1 h1 x1 S1 o1 n1 c1 => ?_
  refine Exists.elim (S1.taskRow 0 rfl ht (by omega)) fun id q => Exists.elim q fun b q => Exists.elim q fun vid q => ?_
  have q1 := q.1
  have q2 := q.2.1
  have q3 := q.2.2.1
  have q4 := q.2.2.2.1
  have q5 := q.2.2.2.2
  clear q
  subst q1
  have hid := heap_lt q2
  have hvid := heap_lt q5
  have u2 := fun r => heap_app (h' := r) q2
  have u5 := fun r => heap_app (h' := r) q5
  simp (disch := omega) only [go_sem, q2, q3, q4, q5, u2, u5, o1, n1, c1, storeH, storeB, splice]
  have em : ((ts[t].body.map encStmt).drop k).take (ts[t].body.length - k) = ((ts[t].body.drop k).map encStmt) := by
    rw [← List.map_drop, List.take_of_length_le (by simp)]
  have S3 : Sep (h1 ++ [[[.own id 4 0 ts.length ts.length]], [[.own vid 6 0 ts[t].body.length ts[t].body.length, .int .i64 ts[t].next.op, .int .i64 ts[t].next.a, .int .i64 ts[t].next.b]]]) (.k (h1.length + 1) [[.own vid 6 0 ts[t].body.length ts[t].body.length, .int .i64 ts[t].next.op, .int .i64 ts[t].next.a, .int .i64 ts[t].next.b]] :: [.k h1.length [[.own id 4 0 ts.length ts.length]], .v (.lst 4 (ts.map encTask)) (.own id 4 0 ts.length ts.length), .k 1 [[.nils]], .k 0 [[.lst 4 (ts.map encTask)]]]) := by
    have w := (S1.newK [[.own id 4 0 ts.length ts.length]]).newK [[.own vid 6 0 ts[t].body.length ts[t].body.length, .int .i64 ts[t].next.op, .int .i64 ts[t].next.a, .int .i64 ts[t].next.b]]
    rw [List.append_assoc, List.length_append] at w
    exact w
  have x3 := elems_part (sz := 6) (n := ts[t].body.length) (o := k) (u := (ts[t].body.length - k)) (u5 [[[.own id 4 0 ts.length ts.length]], [[.own vid 6 0 ts[t].body.length ts[t].body.length, .int .i64 ts[t].next.op, .int .i64 ts[t].next.a, .int .i64 ts[t].next.b]], []]) (by simp) (by omega)
  rw [em] at x3
  have ap1 : appendH (h1 ++ [[[.own id 4 0 ts.length ts.length]], [[.own vid 6 0 ts[t].body.length ts[t].body.length, .int .i64 ts[t].next.op, .int .i64 ts[t].next.a, .int .i64 ts[t].next.b]], []]) 6 48 (.own (h1.length + 2) 6 0 0 0) (.own vid 6 k (ts[t].body.length - k) ts[t].body.length) = some (.own (h1.length + 2) 6 0 (ts[t].body.length - k) (ts[t].body.length - k), h1 ++ [[[.own id 4 0 ts.length ts.length]], [[.own vid 6 0 ts[t].body.length ts[t].body.length, .int .i64 ts[t].next.op, .int .i64 ts[t].next.a, .int .i64 ts[t].next.b]], ((ts[t].body.drop k).map encStmt)]) := by
    have w := append0' (h := h1 ++ [[[.own id 4 0 ts.length ts.length]], [[.own vid 6 0 ts[t].body.length ts[t].body.length, .int .i64 ts[t].next.op, .int .i64 ts[t].next.a, .int .i64 ts[t].next.b]]]) (sz := 6) (bytes := 48) (m := (ts[t].body.length - k)) (x := .own vid 6 k (ts[t].body.length - k) ts[t].body.length) (xs := ((ts[t].body.drop k).map encStmt)) (by rw [List.append_assoc]; exact x3) (by simp) (by omega)
    simpa using w
  have S4 : Sep (h1 ++ [[[.own id 4 0 ts.length ts.length]], [[.own vid 6 0 ts[t].body.length ts[t].body.length, .int .i64 ts[t].next.op, .int .i64 ts[t].next.a, .int .i64 ts[t].next.b]], ((ts[t].body.drop k).map encStmt), [[.own (h1.length + 2) 6 0 (ts[t].body.length - k) (ts[t].body.length - k), .int .i64 ts[t].next.op, .int .i64 ts[t].next.a, .int .i64 ts[t].next.b]]]) (.k (h1.length + 3) [[.own (h1.length + 2) 6 0 (ts[t].body.length - k) (ts[t].body.length - k), .int .i64 ts[t].next.op, .int .i64 ts[t].next.a, .int .i64 ts[t].next.b]] :: .v (.lst 6 ((ts[t].body.drop k).map encStmt)) (.own (h1.length + 2) 6 0 (ts[t].body.length - k) (ts[t].body.length - k)) :: .k (h1.length + 1) [[.own vid 6 0 ts[t].body.length ts[t].body.length, .int .i64 ts[t].next.op, .int .i64 ts[t].next.a, .int .i64 ts[t].next.b]] :: [.k h1.length [[.own id 4 0 ts.length ts.length]], .v (.lst 4 (ts.map encTask)) (.own id 4 0 ts.length ts.length), .k 1 [[.nils]], .k 0 [[.lst 4 (ts.map encTask)]]]) := by
    have w := ((S3.newK ((ts[t].body.drop k).map encStmt)).ofFlat (sz := 6) (n := (ts[t].body.length - k)) (by simp) (flat_Stmt _)).newK [[.own (h1.length + 2) 6 0 (ts[t].body.length - k) (ts[t].body.length - k), .int .i64 ts[t].next.op, .int .i64 ts[t].next.a, .int .i64 ts[t].next.b]]
    simp only [List.append_assoc, List.length_append] at w
    exact w
  have s3a := S3.blk 0 rfl
  have s3b := S3.blk 1 rfl
  have S3n := S3.newK []
  rw [List.append_assoc] at S3n
  have s3c := S3n.blk 1 rfl
  have s3d := S3n.blk 2 rfl
  have S3m := S3.newK ((ts[t].body.drop k).map encStmt)
  rw [List.append_assoc] at S3m
  have s3e := S3m.blk 1 rfl
  have s3f := S3m.blk 2 rfl
  have s4a := S4.blk 0 rfl
  have s4b := S4.blk 2 rfl
  have s4c := S4.blk 3 rfl
  have x4 := elems_part (sz := 6) (n := ts[t].body.length) (o := 0) (u := k) (u5 [[[.own id 4 0 ts.length ts.length]], [[.own vid 6 0 ts[t].body.length ts[t].body.length, .int .i64 ts[t].next.op, .int .i64 ts[t].next.a, .int .i64 ts[t].next.b]], ((ts[t].body.drop k).map encStmt), [[.own (h1.length + 2) 6 0 (ts[t].body.length - k) (ts[t].body.length - k), .int .i64 ts[t].next.op, .int .i64 ts[t].next.a, .int .i64 ts[t].next.b]], []]) (by simp) (by omega)
  rw [List.drop_zero, ← List.map_take] at x4
  have ap2 : appendH (h1 ++ [[[.own id 4 0 ts.length ts.length]], [[.own vid 6 0 ts[t].body.length ts[t].body.length, .int .i64 ts[t].next.op, .int .i64 ts[t].next.a, .int .i64 ts[t].next.b]], ((ts[t].body.drop k).map encStmt), [[.own (h1.length + 2) 6 0 (ts[t].body.length - k) (ts[t].body.length - k), .int .i64 ts[t].next.op, .int .i64 ts[t].next.a, .int .i64 ts[t].next.b]], []]) 6 48 (.own (h1.length + 4) 6 0 0 0) (.own vid 6 0 k ts[t].body.length) = some (.own (h1.length + 4) 6 0 k k, h1 ++ [[[.own id 4 0 ts.length ts.length]], [[.own vid 6 0 ts[t].body.length ts[t].body.length, .int .i64 ts[t].next.op, .int .i64 ts[t].next.a, .int .i64 ts[t].next.b]], ((ts[t].body.drop k).map encStmt), [[.own (h1.length + 2) 6 0 (ts[t].body.length - k) (ts[t].body.length - k), .int .i64 ts[t].next.op, .int .i64 ts[t].next.a, .int .i64 ts[t].next.b]], ((ts[t].body.take k).map encStmt)]) := by
    have w := append0' (h := h1 ++ [[[.own id 4 0 ts.length ts.length]], [[.own vid 6 0 ts[t].body.length ts[t].body.length, .int .i64 ts[t].next.op, .int .i64 ts[t].next.a, .int .i64 ts[t].next.b]], ((ts[t].body.drop k).map encStmt), [[.own (h1.length + 2) 6 0 (ts[t].body.length - k) (ts[t].body.length - k), .int .i64 ts[t].next.op, .int .i64 ts[t].next.a, .int .i64 ts[t].next.b]]]) (sz := 6) (bytes := 48) (m := k) (x := .own vid 6 0 k ts[t].body.length) (xs := ((ts[t].body.take k).map encStmt)) (by rw [List.append_assoc]; exact x4) (by simp; omega) (by omega)
    simpa using w
  have S5n := S4.newK []
  rw [List.append_assoc] at S5n
  have s5a := S5n.blk 3 rfl
  have s5b := S5n.blk 4 rfl
  have S6 : Sep (h1 ++ [[[.own id 4 0 ts.length ts.length]], [[.own vid 6 0 ts[t].body.length ts[t].body.length, .int .i64 ts[t].next.op, .int .i64 ts[t].next.a, .int .i64 ts[t].next.b]], ((ts[t].body.drop k).map encStmt), [[.own (h1.length + 2) 6 0 (ts[t].body.length - k) (ts[t].body.length - k), .int .i64 ts[t].next.op, .int .i64 ts[t].next.a, .int .i64 ts[t].next.b]], ((ts[t].body.take k).map encStmt)]) (.v (.lst 6 ((ts[t].body.take k).map encStmt)) (.own (h1.length + 4) 6 0 k k) :: .k (h1.length + 3) [[.own (h1.length + 2) 6 0 (ts[t].body.length - k) (ts[t].body.length - k), .int .i64 ts[t].next.op, .int .i64 ts[t].next.a, .int .i64 ts[t].next.b]] :: .v (.lst 6 ((ts[t].body.drop k).map encStmt)) (.own (h1.length + 2) 6 0 (ts[t].body.length - k) (ts[t].body.length - k)) :: .k (h1.length + 1) [[.own vid 6 0 ts[t].body.length ts[t].body.length, .int .i64 ts[t].next.op, .int .i64 ts[t].next.a, .int .i64 ts[t].next.b]] :: [.k h1.length [[.own id 4 0 ts.length ts.length]], .v (.lst 4 (ts.map encTask)) (.own id 4 0 ts.length ts.length), .k 1 [[.nils]], .k 0 [[.lst 4 (ts.map encTask)]]]) := by
    have w := (S4.newK ((ts[t].body.take k).map encStmt)).ofFlat (sz := 6) (n := k) (by simp; omega) (flat_Stmt _)
    simp only [List.append_assoc, List.length_append] at w
    exact w
  have s6a := S6.blk 3 rfl
  have s6b := S6.blk 4 rfl
  have s6c := u2 [[[.own id 4 0 ts.length ts.length]], [[.own vid 6 0 ts[t].body.length ts[t].body.length, .int .i64 ts[t].next.op, .int .i64 ts[t].next.a, .int .i64 ts[t].next.b]], ((ts[t].body.drop k).map encStmt), [[.own (h1.length + 2) 6 0 (ts[t].body.length - k) (ts[t].body.length - k), .int .i64 ts[t].next.op, .int .i64 ts[t].next.a, .int .i64 ts[t].next.b]], ((ts[t].body.take k).map encStmt)]
  have S7 := ((S6.pull 2).mkTask (t := ⟨ts[t].body.drop k, ts[t].next⟩)).pull 1
  have S8 := (S7.mkTask (t := ⟨ts[t].body.take k, ⟨1, ts.length, 0⟩⟩)).pull 5
  refine Exists.elim (S8.rowSet (k := t) (by simp [ht])) fun id' q => Exists.elim q fun b' q => ?_
  have w1 := q.1
  have w2 := q.2.1
  have w3 := q.2.2.1
  have S9 := q.2.2.2.2
  clear q
  injection w1 with e1
  subst e1
  have e2 := Option.some.inj (w2.symm.trans s6c)
  subst e2
  have y7 := S9.blk 4 rfl
  have y9 := S9.blk 2 rfl
  have S10 := S9.newK [[.own (h1.length + 2) 6 0 (ts[t].body.length - k) (ts[t].body.length - k), .int .i64 ts[t].next.op, .int .i64 ts[t].next.a, .int .i64 ts[t].next.b]]
  have S11 := S10.pick [1, 2, 5, 6] (by decide)
  have hpu := S11.push (bytes := 48) (S10.blk 0 rfl) (by simp; omega)
  refine Exists.elim hpu fun v' q => Exists.elim q fun h7 q => ?_
  have hap := q.1
  have S12 : Sep h7 [.v (.lst 4 ((splitM ts t k).map encTask)) v', .k h1.length [[.own id 4 0 ts.length ts.length]], .k 1 [[.nils]]] := by
    rw [splitM_map ht]; exact q.2
  clear q hpu
  have z12 := S12.vv 0 rfl
  have y12 := S12.blk 1 rfl
  have S13 := ((S12.pull 1).setK [[v']])
  have y13 := S13.blk 0 rfl
  have y1 := S13.blk 2 rfl
  have y1' : ∀ d, ((h7.set h1.length [[v']]).set 1 d)[1]? = some d := fun d => heap_set _ y1
  simp (disch := omega) only [go_sem, q2, q3, q4, q5, u2, u5, o1, n1, c1, s3a, s3b, s3c, s3d, s3e, s3f, ap1, s4a, s4b, s4c, ap2, s5a, s5b, s6a, s6b, w2, y7, y9, hap, z12.1, z12.2.1, z12.2.2, y12, y13, y1, y1', storeH, storeB, splice]
  exact (((S13.pull 2).setK [[v']]).drop1.drop1).prog
end Go.Av

namespace Go.Av
open Go.Proofs Go.RowKit
set_option linter.unusedVariables false
set_option linter.unusedSimpArgs false
set_option maxRecDepth 100000
set_option maxHeartbeats 4000000
def cutsAt (ts : List Task) (t : Int) : List Int := match ts[t.toNat]? with
  | some tk => cutsM tk.body
  | none => []
def splitsB (ts : List Task) (t k : Int) : Bool := rigidM ts && within t 0 ((ts.length : Int) - 1) && decide (¬ ts.length = 6) && decide (k ∈ cutsAt ts t)
def splitTM (ts : List Task) (t k : Int) : List Task := if splitsB ts t k = true then splitM ts t.toNat k.toNat else ts
theorem cutM_mem (l : List Stmt) : ∀ (d i : Nat) (k : Int), k ∈ cutM l d i → (i : Int) ≤ k ∧ k < i + d
  | 0, i, k, h => absurd h List.not_mem_nil
  | d + 1, i, k, h => by
    rw [cutM, List.mem_append] at h
    rcases h with h | h
    · split at h
      · have := List.mem_singleton.1 h; omega
      · exact absurd h List.not_mem_nil
    · have := cutM_mem l d (i + 1) k h; omega
theorem cutsM_len (xs : List Stmt) : (cutsM xs).length ≤ xs.length := by
  unfold cutsM; split
  · have := cutM_len xs (xs.length - 1) 1; omega
  · simp
theorem cut_pos {xs : List Stmt} {k : Int} (h : k ∈ cutsM xs) : 1 ≤ k ∧ k < xs.length := by
  unfold cutsM at h
  split at h
  · have := cutM_mem xs (xs.length - 1) 1 k h; omega
  · exact absurd h List.not_mem_nil
theorem Sep.progB {h : Heap} {ts : List Task} {v : V} {b : Bool} {L : List It} (S : Sep h (.v (.lst 4 (ts.map encTask)) v :: L)) : ∃ ids : List Nat, ids.Nodup ∧ OwnsR h (.tup [.agg [.lst 4 (ts.map encTask)], .bool b]) (.tup [.agg [v], .bool b]) ids :=
  ((Sep.cons2 (fun es e => by cases e) (Sep.perm (List.Perm.swap _ _ _) (Sep.lb (Sep.l0 ((Sep.cons2 (fun es e => by cases e) ((Sep.perm (List.Perm.swap _ _ _) (Sep.l0 S)))).a))))).t).ret
theorem cutsAt_eq {ts : List Task} {t : Int} {n : Nat} (hn : t = n) (h : n < ts.length) : cutsAt ts t = cutsM ts[n].body := by
  subst hn; unfold cutsAt; rw [Int.toNat_natCast, List.getElem?_eq_getElem h]
theorem progOk_blocks {ts : List Task} (h : programOk ts = true) : ∀ t ∈ ts, blockOk t.body = true := fun t ht => by
  simp only [programOk, Bool.and_eq_true] at h
  have := List.all_eq_true.1 h.2 t ht
  simp only [taskOk, Bool.and_eq_true] at this
  exact this.1
theorem refs_progII (n : Nat) (ts : List Task) (t k : Int) : V.refsL n [.agg [.lst 4 (ts.map encTask)], .int .i64 t, .int .i64 k] = true := by simp only [V.refsL, refs_prog]; rfl
theorem splitTask_c (ts : List Task) (t k : Int) (hx : ts.length ≤ 1048576) (hb : ∀ t ∈ ts, t.body.length ≤ 1048576) : F Tryz.prog 27 [.agg [.lst 4 (ts.map encTask)], .int .i64 t, .int .i64 k] (.tup [.agg [.lst 4 ((splitTM ts t k).map encTask)], .bool (splitsB ts t k)]) := by
  have hb' : ∀ t ∈ ts, t.body.length ≤ 9223372036854775807 := fun t ht => by have := hb t ht; omega
  have S0 : Sep ([[[.lst 4 (ts.map encTask)]], [[.nils]]] : Heap) [.k 1 [[.nils]], .k 0 [[.lst 4 (ts.map encTask)]]] := ((Sep.nil []).newK _).newK _
  refine C.by mixed (cfn_ok Tryz.func27 ok27) rfl ?_
  simp (disch := omega) only [s27, go_sem]
  refine CP.go (hasTask_c ts t hx hb') rfl (refs_progI _ ts _) ?_
  simp (disch := omega) only [go_sem]
  refine condP_split (fun hT => ?_) (fun hT => ?_)
  case' refine_2 =>
    have hz : splitsB ts t k = false := by
      simp only [splitsB, rigidM]
      cases hp : programOk ts <;> cases hw : within t 0 ((ts.length : Int) - 1) <;> simp_all
    simp (disch := omega) only [go_sem, hT]
    refine S0.goCopy (copyProg_f ts hx hb) (.same (refs_prog1 _ _)) fun v1 h9 x9 S9 o1 n1 c1 => ?_
    have y1 := S9.blk 1 rfl
    have y1' : ∀ d, (h9.set 1 d)[1]? = some d := fun d => heap_set _ y1
    simp (disch := omega) only [go_sem, o1, n1, c1, y1, y1', storeH, storeB, splice]
    rw [splitTM, if_neg (by rw [hz]; simp), hz]
    exact (((S9.pull 1).setK [[v1]]).drop1).progB
  have hp : programOk ts = true := by cases hp : programOk ts <;> simp_all
  have hw : within t 0 ((ts.length : Int) - 1) = true := by cases hw : within t 0 ((ts.length : Int) - 1) <;> simp_all
  have htb : 0 ≤ t ∧ t ≤ (ts.length : Int) - 1 := by simpa [within] using hw
  refine Exists.elim (show ∃ n : Nat, t = n from ⟨t.toNat, by omega⟩) fun n hn => ?_
  have hnl : n < ts.length := by omega
  have hca := cutsAt_eq hn hnl
  subst hn
  have hbn := hb _ (List.getElem_mem hnl)
  simp (disch := omega) only [go_sem, hT, encTask]
  refine S0.goLst (CP.f (flat_encI _) (by simp) (cutPoints_c ts[n].body hbn (progOk_blocks hp _ (List.getElem_mem hnl)))) (.same (refs_arg _ _)) fun r h2 x2 S2 r1 r2 r3 => ?_
  have k2 := S2.blk 2 rfl
  simp (disch := omega) only [go_sem, hT, r1, r2, r3, k2]
  refine CP.goS (contains_c (cutsM ts[n].body) k ?_) rfl rfl (.cons (S2.snap 0 rfl) (.cons (.int _ _) (.nil _))) ?_
  · have := cutsM_len ts[n].body; omega
  simp (disch := omega) only [go_sem, hT, r1, r2, r3, k2]
  refine condP_dec (fun hk => ?_) (fun hk => ?_)
  case' refine_2 =>
    have hz : splitsB ts n k = false := by simp [splitsB, hca, hk]
    simp (disch := omega) only [go_sem, hT, r1, r2, r3, k2]
    refine S2.goCopy (copyProg_f ts hx hb) (.same (refs_prog1 _ _)) fun v1 h9 x9 S9 o1 n1 c1 => ?_
    have y1 := S9.blk 2 rfl
    have y1' : ∀ d, (h9.set 1 d)[1]? = some d := fun d => heap_set _ y1
    simp (disch := omega) only [go_sem, o1, n1, c1, y1, y1', storeH, storeB, splice]
    rw [splitTM, if_neg (by rw [hz]; simp), hz]
    exact (((S9.pull 2).setK [[v1]]).drop1).progB
  simp (disch := omega) only [go_sem, hT, r1, r2, r3, k2]
  refine condP_dec (fun h6 => ?_) (fun h6 => ?_)
  · have h6' : ts.length = 6 := by omega
    have hz : splitsB ts n k = false := by simp [splitsB, h6']
    simp (disch := omega) only [go_sem, hT, r1, r2, r3, k2]
    refine S2.goCopy (copyProg_f ts hx hb) (.same (refs_prog1 _ _)) fun v1 h9 x9 S9 o1 n1 c1 => ?_
    have y1 := S9.blk 2 rfl
    have y1' : ∀ d, (h9.set 1 d)[1]? = some d := fun d => heap_set _ y1
    simp (disch := omega) only [go_sem, o1, n1, c1, y1, y1', storeH, storeB, splice]
    rw [splitTM, if_neg (by rw [hz]; simp), hz]
    exact (((S9.pull 2).setK [[v1]]).drop1).progB
  have h6' : ¬ ts.length = 6 := by omega
  simp (disch := omega) only [go_sem, hT, r1, r2, r3, k2]
  refine CP.go (rigid_c ts hx hb') rfl (refs_prog1 _ ts) ?_
  simp (disch := omega) only [go_sem, hT, r1, r2, r3, k2]
  refine condP_split (fun hr => ?_) (fun hr => ?_)
  case' refine_2 =>
    have hz : splitsB ts n k = false := by simp [splitsB, hr]
    simp (disch := omega) only [go_sem, k2, hr]
    refine S2.goCopy (copyProg_f ts hx hb) (.same (refs_prog1 _ _)) fun v1 h9 x9 S9 o1 n1 c1 => ?_
    have y1 := S9.blk 2 rfl
    have y1' : ∀ d, (h9.set 1 d)[1]? = some d := fun d => heap_set _ y1
    simp (disch := omega) only [go_sem, o1, n1, c1, y1, y1', storeH, storeB, splice]
    rw [splitTM, if_neg (by rw [hz]; simp), hz]
    exact (((S9.pull 2).setK [[v1]]).drop1).progB
  have hz : splitsB ts n k = true := by simp [splitsB, hr, hw, h6', hca, hk]
  have hkp := cut_pos hk
  refine Exists.elim (show ∃ m : Nat, k = m from ⟨k.toNat, by omega⟩) fun m hm => ?_
  subst hm
  simp (disch := omega) only [go_sem, k2, hr]
  refine S2.goCopy (split_f ts n m hx hb hnl (by omega) (by omega)) (.same (refs_progII _ ts _ _)) fun v1 h9 x9 S9 o1 n1 c1 => ?_
  have y1 := S9.blk 2 rfl
  have y1' : ∀ d, (h9.set 1 d)[1]? = some d := fun d => heap_set _ y1
  simp (disch := omega) only [go_sem, o1, n1, c1, y1, y1', storeH, storeB, splice]
  rw [splitTM, if_pos hz, hz]
  exact (((S9.pull 2).setK [[v1]]).drop1).progB
theorem splitTask_s (ts : List Task) (t k : Int) (hx : ts.length ≤ 1048576) (hb : ∀ t ∈ ts, t.body.length ≤ 1048576) : F Tryz.prog 38 [.agg [.lst 4 (ts.map encTask)], .int .i64 t, .int .i64 k] (.tup [.agg [.lst 4 ((splitTM ts t k).map encTask)], .bool (splitsB ts t k)]) := by
  have hb' : ∀ t ∈ ts, t.body.length ≤ 9223372036854775807 := fun t ht => by have := hb t ht; omega
  have S0 : Sep ([[[.lst 4 (ts.map encTask)]], [[.nils]]] : Heap) [.k 1 [[.nils]], .k 0 [[.lst 4 (ts.map encTask)]]] := ((Sep.nil []).newK _).newK _
  refine C.by mixed (cfn_ok Tryz.func38 ok38) rfl ?_
  simp (disch := omega) only [s38, go_sem]
  refine CP.go (rigid_s ts hx hb') rfl (refs_prog1 _ ts) ?_
  simp (disch := omega) only [go_sem]
  refine condP_split (fun hr => ?_) (fun hr => ?_)
  case' refine_2 =>
    have hz : splitsB ts t k = false := by simp [splitsB, hr]
    simp (disch := omega) only [go_sem, hr]
    refine S0.goCopy (copyProg_s ts hx hb) (.same (refs_prog1 _ _)) fun v1 h9 x9 S9 o1 n1 c1 => ?_
    have y1 := S9.blk 1 rfl
    have y1' : ∀ d, (h9.set 1 d)[1]? = some d := fun d => heap_set _ y1
    simp (disch := omega) only [go_sem, o1, n1, c1, y1, y1', storeH, storeB, splice]
    rw [splitTM, if_neg (by rw [hz]; simp), hz]
    exact (((S9.pull 1).setK [[v1]]).drop1).progB
  simp (disch := omega) only [go_sem, hr]
  refine CP.go (l01In_c _ _ _) rfl rfl ?_
  simp (disch := omega) only [go_sem, hr]
  refine condP_split (fun hw => ?_) (fun hw => ?_)
  case' refine_2 =>
    have hz : splitsB ts t k = false := by simp [splitsB, hw]
    simp (disch := omega) only [go_sem, hw]
    refine S0.goCopy (copyProg_s ts hx hb) (.same (refs_prog1 _ _)) fun v1 h9 x9 S9 o1 n1 c1 => ?_
    have y1 := S9.blk 1 rfl
    have y1' : ∀ d, (h9.set 1 d)[1]? = some d := fun d => heap_set _ y1
    simp (disch := omega) only [go_sem, o1, n1, c1, y1, y1', storeH, storeB, splice]
    rw [splitTM, if_neg (by rw [hz]; simp), hz]
    exact (((S9.pull 1).setK [[v1]]).drop1).progB
  have htb : 0 ≤ t ∧ t ≤ (ts.length : Int) - 1 := by simpa [within] using hw
  refine Exists.elim (show ∃ n : Nat, t = n from ⟨t.toNat, by omega⟩) fun n hn => ?_
  have hnl : n < ts.length := by omega
  have hca := cutsAt_eq hn hnl
  subst hn
  have hbn := hb _ (List.getElem_mem hnl)
  simp (disch := omega) only [go_sem, hw, encTask]
  refine condP_dec (fun h6 => ?_) (fun h6 => ?_)
  · have h6' : ts.length = 6 := by omega
    have hz : splitsB ts n k = false := by simp [splitsB, h6']
    simp (disch := omega) only [go_sem, hw, encTask]
    refine S0.goCopy (copyProg_s ts hx hb) (.same (refs_prog1 _ _)) fun v1 h9 x9 S9 o1 n1 c1 => ?_
    have y1 := S9.blk 1 rfl
    have y1' : ∀ d, (h9.set 1 d)[1]? = some d := fun d => heap_set _ y1
    simp (disch := omega) only [go_sem, o1, n1, c1, y1, y1', storeH, storeB, splice]
    rw [splitTM, if_neg (by rw [hz]; simp), hz]
    exact (((S9.pull 1).setK [[v1]]).drop1).progB
  have h6' : ¬ ts.length = 6 := by omega
  simp (disch := omega) only [go_sem, hw, encTask]
  refine S0.goLst (CP.f (flat_encI _) (by simp) (cutPoints_s ts[n].body hbn)) (.same (refs_arg _ _)) fun r h2 x2 S2 r1 r2 r3 => ?_
  have k2 := S2.blk 2 rfl
  simp (disch := omega) only [go_sem, r1, r2, r3, k2]
  refine CP.goS (hasVar_s (cutsM ts[n].body) k ?_) rfl rfl (.cons (S2.snap 0 rfl) (.cons (.int _ _) (.nil _))) ?_
  · have := cutsM_len ts[n].body; omega
  simp (disch := omega) only [go_sem, r1, r2, r3, k2]
  refine condP_dec (fun hk => ?_) (fun hk => ?_)
  case' refine_2 =>
    have hz : splitsB ts n k = false := by simp [splitsB, hca, hk]
    simp (disch := omega) only [go_sem, k2]
    refine S2.goCopy (copyProg_s ts hx hb) (.same (refs_prog1 _ _)) fun v1 h9 x9 S9 o1 n1 c1 => ?_
    have y1 := S9.blk 2 rfl
    have y1' : ∀ d, (h9.set 1 d)[1]? = some d := fun d => heap_set _ y1
    simp (disch := omega) only [go_sem, o1, n1, c1, y1, y1', storeH, storeB, splice]
    rw [splitTM, if_neg (by rw [hz]; simp), hz]
    exact (((S9.pull 2).setK [[v1]]).drop1).progB
  have hz : splitsB ts n k = true := by simp [splitsB, hr, hw, h6', hca, hk]
  have hkp := cut_pos hk
  refine Exists.elim (show ∃ m : Nat, k = m from ⟨k.toNat, by omega⟩) fun m hm => ?_
  subst hm
  simp (disch := omega) only [go_sem, k2]
  refine S2.goCopy (split_s ts n m hx hb hnl (by omega) (by omega)) (.same (refs_progII _ ts _ _)) fun v1 h9 x9 S9 o1 n1 c1 => ?_
  have y1 := S9.blk 2 rfl
  have y1' : ∀ d, (h9.set 1 d)[1]? = some d := fun d => heap_set _ y1
  simp (disch := omega) only [go_sem, o1, n1, c1, y1, y1', storeH, storeB, splice]
  rw [splitTM, if_pos hz, hz]
  exact (((S9.pull 2).setK [[v1]]).drop1).progB
end Go.Av

