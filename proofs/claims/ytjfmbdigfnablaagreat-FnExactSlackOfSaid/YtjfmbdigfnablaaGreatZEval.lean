/- Values of expressions; both sides. No condition. -/
import Derived.Test.YtjfmbdigfnablaaGreatZFirst2
namespace Go.Av
open Go.Proofs Go.RowKit
set_option linter.unusedVariables false
set_option linter.unusedSimpArgs false
set_option maxRecDepth 100000
set_option maxHeartbeats 4000000
def sat (x : Int) : Int := if x < -1000000 then -1000000 else if 1000000 < x then 1000000 else x
theorem sat_bd (x : Int) : -1000000 ≤ sat x ∧ sat x ≤ 1000000 := by unfold sat; split <;> (try split) <;> omega
theorem sat_mul (x y : Int) : -9223372036854775808 ≤ sat x * sat y ∧ sat x * sat y ≤ 9223372036854775807 := by
  have h1 := sat_bd x
  have h2 := sat_bd y
  have h3 : (sat x * sat y).natAbs ≤ 1000000 * 1000000 := by
    rw [Int.natAbs_mul]
    exact Nat.mul_le_mul (by omega) (by omega)
  omega
theorem sat_c (x : Int) : CP Tryz.prog 237 [.int .i64 x] (.int .i64 (sat x)) [] := by
  have clamp : CP Tryz.prog 234 [.int .i64 x, .int .i64 (-1000000), .int .i64 1000000] (.int .i64 (sat x)) [] := by
    refine CP.by rfl mixed (cfn_ok Tryz.func234 ok234) rfl ?_
    simp (disch := omega) only [s234, go_sem]
    refine congrArg (V.int .i64) ?_
    unfold sat; split <;> (try split) <;> omega
  refine CP.by rfl mixed (cfn_ok Tryz.func237 ok237) rfl ?_
  simp (disch := omega) only [s237, go_sem]
  refine CP.go clamp rfl rfl ?_
  simp (disch := omega) only [go_sem]
theorem sat_s (x : Int) : CP Tryz.prog 238 [.int .i64 x] (.int .i64 (sat x)) [] := by
  have clamp : CP Tryz.prog 247 [.int .i64 x, .int .i64 (-1000000), .int .i64 1000000] (.int .i64 (sat x)) [] := by
    refine CP.by rfl mixed (cfn_ok Tryz.func247 ok247) rfl ?_
    simp (disch := omega) only [s247, go_sem]
    repeat' (first | (refine condP_t (by assumption) ?_ <;> (try simp (disch := omega) only [go_sem])) | (refine condP_f (by assumption) ?_ <;> (try simp (disch := omega) only [go_sem])) | (refine condP_dec (fun h => ?_) (fun h => ?_) <;> (try simp (disch := omega) only [go_sem])) | (refine condP_split (fun h => ?_) (fun h => ?_) <;> (try simp (disch := omega) only [go_sem])))
    all_goals refine congrArg (V.int .i64) ?_
    all_goals unfold sat
    all_goals split <;> (try split) <;> omega
  refine CP.by rfl mixed (cfn_ok Tryz.func238 ok238) rfl ?_
  simp (disch := omega) only [s238, go_sem]
  refine CP.go clamp rfl rfl ?_
  simp (disch := omega) only [go_sem]
theorem add_s (x y : Int) : CP Tryz.prog 208 [.int .i64 x, .int .i64 y] (.int .i64 (sat (sat x + sat y))) [] := by
  have h1 := sat_bd x
  have h2 := sat_bd y
  refine CP.by rfl mixed (cfn_ok Tryz.func208 ok208) rfl ?_
  simp (disch := omega) only [s208, go_sem]
  refine CP.go (sat_s _) rfl rfl ?_
  simp (disch := omega) only [go_sem]
  refine CP.go (sat_s _) rfl rfl ?_
  simp (disch := omega) only [go_sem]
  refine CP.go (sat_s _) rfl rfl ?_
  simp (disch := omega) only [go_sem]
theorem sub_s (x y : Int) : CP Tryz.prog 209 [.int .i64 x, .int .i64 y] (.int .i64 (sat (sat x - sat y))) [] := by
  have h1 := sat_bd x
  have h2 := sat_bd y
  refine CP.by rfl mixed (cfn_ok Tryz.func209 ok209) rfl ?_
  simp (disch := omega) only [s209, go_sem]
  refine CP.go (sat_s _) rfl rfl ?_
  simp (disch := omega) only [go_sem]
  refine CP.go (sat_s _) rfl rfl ?_
  simp (disch := omega) only [go_sem]
  refine CP.go (sat_s _) rfl rfl ?_
  simp (disch := omega) only [go_sem]
theorem mul_s (x y : Int) : CP Tryz.prog 210 [.int .i64 x, .int .i64 y] (.int .i64 (sat (sat x * sat y))) [] := by
  have h1 := sat_mul x y
  have hw : IntKind.wrap .i64 (sat x * sat y) = sat x * sat y := wrap64 h1.1 h1.2
  refine CP.by rfl mixed (cfn_ok Tryz.func210 ok210) rfl ?_
  simp (disch := omega) only [s210, go_sem]
  refine CP.go (sat_s _) rfl rfl ?_
  simp (disch := omega) only [go_sem]
  refine CP.go (sat_s _) rfl rfl ?_
  simp (disch := omega) only [go_sem, hw]
  refine CP.go (sat_s _) rfl rfl ?_
  simp (disch := omega) only [go_sem]
theorem add_c (x y : Int) : CP Tryz.prog 197 [.int .i64 x, .int .i64 y] (.int .i64 (sat (sat x + sat y))) [] := by
  have h1 := sat_bd x
  have h2 := sat_bd y
  refine CP.by rfl mixed (cfn_ok Tryz.func197 ok197) rfl ?_
  simp (disch := omega) only [s197, go_sem]
  refine CP.go (sat_c _) rfl rfl ?_
  simp (disch := omega) only [go_sem]
  refine CP.go (sat_c _) rfl rfl ?_
  simp (disch := omega) only [go_sem]
  refine CP.go (sat_c _) rfl rfl ?_
  simp (disch := omega) only [go_sem]
theorem sub_c (x y : Int) : CP Tryz.prog 198 [.int .i64 x, .int .i64 y] (.int .i64 (sat (sat x - sat y))) [] := by
  have h1 := sat_bd x
  have h2 := sat_bd y
  refine CP.by rfl mixed (cfn_ok Tryz.func198 ok198) rfl ?_
  simp (disch := omega) only [s198, go_sem]
  refine CP.go (sat_c _) rfl rfl ?_
  simp (disch := omega) only [go_sem]
  refine CP.go (sat_c _) rfl rfl ?_
  simp (disch := omega) only [go_sem]
  refine CP.go (sat_c _) rfl rfl ?_
  simp (disch := omega) only [go_sem]
theorem mul_c (x y : Int) : CP Tryz.prog 199 [.int .i64 x, .int .i64 y] (.int .i64 (sat (sat x * sat y))) [] := by
  have h1 := sat_bd x
  have h2 := sat_bd y
  have hw : IntKind.wrap .i64 (sat x * sat y) = sat x * sat y := wrap64 (sat_mul x y).1 (sat_mul x y).2
  refine CP.by rfl mixed (cfn_ok Tryz.func199 ok199) rfl ?_
  simp (disch := omega) only [s199, go_sem]
  refine CP.go (sat_c _) rfl rfl ?_
  simp (disch := omega) only [go_sem]
  refine CP.go (sat_c _) rfl rfl ?_
  simp (disch := omega) only [go_sem, hw]
  refine CP.go (sat_c _) rfl rfl ?_
  simp (disch := omega) only [go_sem]
def bitI (b : Bool) : Int := if b = true then 1 else 0
theorem bit_c (b : Bool) : CP Tryz.prog 71 [.bool b] (.int .i64 (bitI b)) [] := by
  refine CP.by rfl mixed (cfn_ok Tryz.func71 ok71) rfl ?_
  simp (disch := omega) only [s71, go_sem]
  cases b <;> simp (disch := omega) only [go_sem] <;> rfl
theorem bit_s (b : Bool) : CP Tryz.prog 211 [.bool b] (.int .i64 (bitI b)) [] := by
  refine CP.by rfl mixed (cfn_ok Tryz.func211 ok211) rfl ?_
  simp (disch := omega) only [s211, go_sem]
  cases b <;> simp (disch := omega) only [go_sem] <;> rfl
/-- What an operand stands for. -/
def valOf (zs : List Int) (x : Int) : Int := if x < 0 then (zs[(-1 - x).toNat]?).getD 0 else x
theorem operand_c (zs : List Int) (x : Int) (hl : -1 - x < zs.length) (hb : -1000000 ≤ x) : CP Tryz.prog 196 [.lst 1 (zs.map encI), .int .i64 x] (.int .i64 (valOf zs x)) [] := by
  refine CP.by rfl mixed (cfn_ok Tryz.func196 ok196) rfl ?_
  simp (disch := omega) only [s196, go_sem, encI]
  refine condP_dec (fun h => ?_) (fun h => ?_)
  · have hlt : (-1 - x).toNat < zs.length := by omega
    simp (disch := omega) only [go_sem, encI]
    simp [valOf, h, hlt]
  · simp (disch := omega) only [go_sem]
    simp [valOf, h]
theorem operand_s (zs : List Int) (x : Int) (hl : -1 - x < zs.length) (hb : -1000000 ≤ x) : CP Tryz.prog 207 [.lst 1 (zs.map encI), .int .i64 x] (.int .i64 (valOf zs x)) [] := by
  refine CP.by rfl mixed (cfn_ok Tryz.func207 ok207) rfl ?_
  simp (disch := omega) only [s207, go_sem, encI]
  refine condP_dec (fun h => ?_) (fun h => ?_)
  · have hlt : (-1 - x).toNat < zs.length := by omega
    simp (disch := omega) only [go_sem, encI]
    simp [valOf, h, hlt]
  · simp (disch := omega) only [go_sem]
    simp [valOf, h]
def isValue (x : Int) : Bool := within x (-1000000) 1000000
theorem isValue_c (x : Int) : CP Tryz.prog 145 [.int .i64 x] (.bool (isValue x)) [] := by
  refine CP.by rfl mixed (cfn_ok Tryz.func145 ok145) rfl ?_
  simp (disch := omega) only [s145, go_sem]
  refine CP.go (within_c _ _ _) rfl rfl ?_
  simp (disch := omega) only [go_sem]
  rfl
theorem notValue_c (x : Int) : CP Tryz.prog 144 [.int .i64 x] (.bool (!isValue x)) [] := by
  refine CP.by rfl mixed (cfn_ok Tryz.func144 ok144) rfl ?_
  simp (disch := omega) only [s144, go_sem]
  refine CP.go (isValue_c _) rfl rfl ?_
  simp (disch := omega) only [go_sem]
def evalE (zs : List Int) (e : Expr) : Int :=
  let a := valOf zs e.a
  let b := valOf zs e.b
  if e.op = 1 then sat (sat a + sat b) else if e.op = 2 then sat (sat a - sat b) else if e.op = 3 then sat (sat a * sat b) else if e.op = 4 then min a b else if e.op = 5 then max a b else if e.op = 6 then bitI (decide (a < b)) else bitI (decide (a = b))
theorem refs_ints (n : Nat) (zs : List Int) (x : V) (hx : V.refs n x = true) : V.refsL n [.lst 1 (zs.map encI), x] = true := by
  simp [V.refsL, V.refs, refsLL_map encI (fun _ => rfl) zs, hx]
theorem eval_s (zs : List Int) (e : Expr) (ha : -1 - e.a < zs.length) (hb : -1 - e.b < zs.length) (ha' : -1000000 ≤ e.a) (hb' : -1000000 ≤ e.b) : CP Tryz.prog 169 [.lst 1 (zs.map encI), .agg (encExpr e)] (.int .i64 (evalE zs e)) [] := by
  obtain ⟨op, a, b⟩ := e
  refine CP.by rfl mixed (cfn_ok Tryz.func169 ok169) rfl ?_
  simp (disch := omega) only [s169, go_sem, encExpr]
  refine CP.go (operand_s zs a ha ha') rfl (refs_ints _ _ _ rfl) ?_
  simp (disch := omega) only [go_sem]
  refine CP.go (operand_s zs b hb hb') rfl (refs_ints _ _ _ rfl) ?_
  simp (disch := omega) only [go_sem]
  repeat' (first | (refine CP.go (add_s _ _) rfl rfl ?_ <;> (try simp (disch := omega) only [go_sem])) | (refine CP.go (sub_s _ _) rfl rfl ?_ <;> (try simp (disch := omega) only [go_sem])) | (refine CP.go (mul_s _ _) rfl rfl ?_ <;> (try simp (disch := omega) only [go_sem])) | (refine CP.go (bit_s _) rfl rfl ?_ <;> (try simp (disch := omega) only [go_sem])) | (refine condP_t (by assumption) ?_ <;> (try simp (disch := omega) only [go_sem])) | (refine condP_f (by assumption) ?_ <;> (try simp (disch := omega) only [go_sem])) | (refine condP_dec (fun h => ?_) (fun h => ?_) <;> (try simp (disch := omega) only [go_sem])) | (refine condP_split (fun h => ?_) (fun h => ?_) <;> (try simp (disch := omega) only [go_sem])))
  all_goals simp_all [evalE]
theorem index_c (zs : List Int) (hz : ∀ z ∈ zs, isValue z = true) (hl : zs.length ≤ 1048576) : CP Tryz.prog 179 [.lst 1 (zs.map encI), .fn 144 []] (.int .i64 (-1)) [] := by
  refine CP.by rfl mixed (cfn_ok Tryz.func179 ok179) rfl ?_
  simp (disch := omega) only [s179, go_sem]
  refine loopP_intro (fun m s => ∃ k : Nat, k ≤ zs.length ∧ m = zs.length - k ∧ s.e 0 = .lst 1 (zs.map encI) ∧ s.e 1 = .fn 144 [] ∧ s.e 7 = .int .i64 zs.length ∧ s.e 8 = .int .i64 k) zs.length ⟨0, by omega, by omega, rfl, rfl, by simp (disch := omega) only [go_sem], rfl⟩ ?_
  rintro m e hp ⟨k, hk, rfl, e0, e1, e7, e8⟩
  simp only at e0 e1 e7 e8
  simp (disch := omega) only [go_sem, e0, e1, e7, e8, encI]
  refine condP_dec (fun hlt => ?_) (fun hlt => ?_)
  · have hlt' : k < zs.length := by omega
    have hv := hz zs[k] (List.getElem_mem hlt')
    simp (disch := omega) only [go_sem, e0, e1, e7, e8, encI]
    refine CP.go (notValue_c zs[k]) rfl rfl ?_
    simp (disch := omega) only [go_sem, hv, e0, e1, e7, e8, encI]
    refine nextP_intro (zs.length - (k + 1)) (by omega) ⟨k + 1, by omega, rfl, ?_, ?_, ?_, ?_⟩
    · simp (disch := omega) only [go_sem, e0, e1, e7, e8, encI]
    · simp (disch := omega) only [go_sem, e0, e1, e7, e8, encI]
    · simp (disch := omega) only [go_sem, e0, e1, e7, e8, encI]
    · simp (disch := omega) only [go_sem, e0, e1, e7, e8, encI]; rfl
  · simp (disch := omega) only [go_sem, e0, e1, e7, e8, encI]
theorem varsOk_c (zs : List Int) (hz : ∀ z ∈ zs, isValue z = true) (hl : zs.length = 8) : CP Tryz.prog 84 [.lst 1 (zs.map encI)] (.bool true) [] := by
  have cont : CP Tryz.prog 112 [.lst 1 (zs.map encI), .fn 144 []] (.bool false) [] := by
    refine CP.by rfl mixed (cfn_ok Tryz.func112 ok112) rfl ?_
    simp (disch := omega) only [s112, go_sem]
    refine CP.go (index_c zs hz (by omega)) rfl (refs_ints _ _ _ rfl) ?_
    simp (disch := omega) only [go_sem]
  have are : CP Tryz.prog 85 [.lst 1 (zs.map encI)] (.bool true) [] := by
    refine CP.by rfl mixed (cfn_ok Tryz.func85 ok85) rfl ?_
    simp (disch := omega) only [s85, go_sem]
    refine CP.go cont rfl (refs_ints _ _ _ rfl) ?_
    simp (disch := omega) only [go_sem]
  refine CP.by rfl mixed (cfn_ok Tryz.func84 ok84) rfl ?_
  simp (disch := omega) only [s84, go_sem, hl]
  refine CP.go are rfl (by simp [V.refsL, V.refs, refsLL_map encI (fun _ => rfl) zs]) ?_
  simp (disch := omega) only [go_sem]
theorem eval_c (zs : List Int) (e : Expr) (hz : ∀ z ∈ zs, isValue z = true) (hl : zs.length = 8) (he : exprOk e = true) : CP Tryz.prog 141 [.lst 1 (zs.map encI), .agg (encExpr e)] (.int .i64 (evalE zs e)) [] := by
  obtain ⟨h1, h2, h3⟩ := exprOk_facts he
  obtain ⟨op, a, b⟩ := e
  simp only at h1 h2 h3
  refine CP.by rfl mixed (cfn_ok Tryz.func141 ok141) rfl ?_
  simp (disch := omega) only [s141, go_sem, encExpr]
  refine CP.go (varsOk_c zs hz hl) rfl (by simp [V.refsL, V.refs, refsLL_map encI (fun _ => rfl) zs]) ?_
  simp (disch := omega) only [go_sem]
  refine CP.go (exprOk_c ⟨op, a, b⟩) rfl rfl ?_
  simp (disch := omega) only [go_sem, he]
  refine CP.go (operand_c zs a (by omega) (by omega)) rfl (refs_ints _ _ _ rfl) ?_
  simp (disch := omega) only [go_sem]
  refine CP.go (operand_c zs b (by omega) (by omega)) rfl (refs_ints _ _ _ rfl) ?_
  simp (disch := omega) only [go_sem]
  repeat' (first | (refine CP.go (add_c _ _) rfl rfl ?_ <;> (try simp (disch := omega) only [go_sem])) | (refine CP.go (sub_c _ _) rfl rfl ?_ <;> (try simp (disch := omega) only [go_sem])) | (refine CP.go (mul_c _ _) rfl rfl ?_ <;> (try simp (disch := omega) only [go_sem])) | (refine CP.go (bit_c _) rfl rfl ?_ <;> (try simp (disch := omega) only [go_sem])) | (refine condP_t (by assumption) ?_ <;> (try simp (disch := omega) only [go_sem])) | (refine condP_f (by assumption) ?_ <;> (try simp (disch := omega) only [go_sem])) | (refine condP_dec (fun h => ?_) (fun h => ?_) <;> (try simp (disch := omega) only [go_sem])) | (refine condP_split (fun h => ?_) (fun h => ?_) <;> (try simp (disch := omega) only [go_sem])))
  all_goals simp_all [evalE]
end Go.Av
