/- Saturated numbers. No condition. -/
import Derived.Test.YtpjcclgpkicadaaJ6Instr
namespace Go.Av
open Go.Proofs Go.RowKit
set_option linter.unusedVariables false
set_option linter.unusedSimpArgs false
set_option maxRecDepth 100000
set_option maxHeartbeats 4000000
def sat (x : Int) : Int := if x < -1000000 then -1000000 else if 1000000 < x then 1000000 else x
theorem sat_bd (x : Int) : -1000000 ≤ sat x ∧ sat x ≤ 1000000 := by unfold sat; split <;> (try split) <;> omega
theorem sat_mul (x y : Int) : -9223372036854775808 ≤ sat x * sat y ∧ sat x * sat y ≤ 9223372036854775807 := by
  have h1 := sat_bd x
  have h2 := sat_bd y
  have h3 : (sat x * sat y).natAbs ≤ 1000000 * 1000000 := by
    rw [Int.natAbs_mul]
    exact Nat.mul_le_mul (by omega) (by omega)
  omega
theorem sat_c (x : Int) : CP Try.prog 155 [.int .i64 x] (.int .i64 (sat x)) [] := by
  have clamp : CP Try.prog 154 [.int .i64 x, .int .i64 (-1000000), .int .i64 1000000] (.int .i64 (sat x)) [] := by
    refine CP.by rfl mixed (cfn_ok Try.func154 ok154) rfl ?_
    simp (disch := omega) only [s154, go_sem, Nat.reduceEqDiff, Nat.reduceAdd, Nat.reduceSub, Nat.reduceLeDiff, Nat.reduceLT, Nat.reduceMul, Nat.reduceBEq, Int.reduceEq, Int.reduceLT, Int.reduceLE, Int.reduceNeg, Int.reduceToNat, Int.reduceSub, Int.reduceAdd, reduceIte]
    refine congrArg (V.int .i64) ?_
    unfold sat; split <;> (try split) <;> omega
  refine CP.by rfl mixed (cfn_ok Try.func155 ok155) rfl ?_
  simp (disch := omega) only [s155, go_sem, Nat.reduceEqDiff, Nat.reduceAdd, Nat.reduceSub, Nat.reduceLeDiff, Nat.reduceLT, Nat.reduceMul, Nat.reduceBEq, Int.reduceEq, Int.reduceLT, Int.reduceLE, Int.reduceNeg, Int.reduceToNat, Int.reduceSub, Int.reduceAdd, reduceIte]
  refine CP.go clamp rfl rfl ?_
  simp (disch := omega) only [go_sem, Nat.reduceEqDiff, Nat.reduceAdd, Nat.reduceSub, Nat.reduceLeDiff, Nat.reduceLT, Nat.reduceMul, Nat.reduceBEq, Int.reduceEq, Int.reduceLT, Int.reduceLE, Int.reduceNeg, Int.reduceToNat, Int.reduceSub, Int.reduceAdd, reduceIte]
theorem sat_s (x : Int) : CP Try.prog 158 [.int .i64 x] (.int .i64 (sat x)) [] := by
  have clamp : CP Try.prog 151 [.int .i64 x, .int .i64 (-1000000), .int .i64 1000000] (.int .i64 (sat x)) [] := by
    refine CP.by rfl mixed (cfn_ok Try.func151 ok151) rfl ?_
    simp (disch := omega) only [s151, go_sem, Nat.reduceEqDiff, Nat.reduceAdd, Nat.reduceSub, Nat.reduceLeDiff, Nat.reduceLT, Nat.reduceMul, Nat.reduceBEq, Int.reduceEq, Int.reduceLT, Int.reduceLE, Int.reduceNeg, Int.reduceToNat, Int.reduceSub, Int.reduceAdd, reduceIte]
    repeat' (first | (refine condP_t (by assumption) ?_ <;> (try simp (disch := omega) only [go_sem, Nat.reduceEqDiff, Nat.reduceAdd, Nat.reduceSub, Nat.reduceLeDiff, Nat.reduceLT, Nat.reduceMul, Nat.reduceBEq, Int.reduceEq, Int.reduceLT, Int.reduceLE, Int.reduceNeg, Int.reduceToNat, Int.reduceSub, Int.reduceAdd, reduceIte])) | (refine condP_f (by assumption) ?_ <;> (try simp (disch := omega) only [go_sem, Nat.reduceEqDiff, Nat.reduceAdd, Nat.reduceSub, Nat.reduceLeDiff, Nat.reduceLT, Nat.reduceMul, Nat.reduceBEq, Int.reduceEq, Int.reduceLT, Int.reduceLE, Int.reduceNeg, Int.reduceToNat, Int.reduceSub, Int.reduceAdd, reduceIte])) | (refine condP_dec (fun h => ?_) (fun h => ?_) <;> (try simp (disch := omega) only [go_sem, Nat.reduceEqDiff, Nat.reduceAdd, Nat.reduceSub, Nat.reduceLeDiff, Nat.reduceLT, Nat.reduceMul, Nat.reduceBEq, Int.reduceEq, Int.reduceLT, Int.reduceLE, Int.reduceNeg, Int.reduceToNat, Int.reduceSub, Int.reduceAdd, reduceIte])) | (refine condP_split (fun h => ?_) (fun h => ?_) <;> (try simp (disch := omega) only [go_sem, Nat.reduceEqDiff, Nat.reduceAdd, Nat.reduceSub, Nat.reduceLeDiff, Nat.reduceLT, Nat.reduceMul, Nat.reduceBEq, Int.reduceEq, Int.reduceLT, Int.reduceLE, Int.reduceNeg, Int.reduceToNat, Int.reduceSub, Int.reduceAdd, reduceIte])))
    all_goals refine congrArg (V.int .i64) ?_
    all_goals unfold sat
    all_goals split <;> (try split) <;> omega
  refine CP.by rfl mixed (cfn_ok Try.func158 ok158) rfl ?_
  simp (disch := omega) only [s158, go_sem, Nat.reduceEqDiff, Nat.reduceAdd, Nat.reduceSub, Nat.reduceLeDiff, Nat.reduceLT, Nat.reduceMul, Nat.reduceBEq, Int.reduceEq, Int.reduceLT, Int.reduceLE, Int.reduceNeg, Int.reduceToNat, Int.reduceSub, Int.reduceAdd, reduceIte]
  refine CP.go clamp rfl rfl ?_
  simp (disch := omega) only [go_sem, Nat.reduceEqDiff, Nat.reduceAdd, Nat.reduceSub, Nat.reduceLeDiff, Nat.reduceLT, Nat.reduceMul, Nat.reduceBEq, Int.reduceEq, Int.reduceLT, Int.reduceLE, Int.reduceNeg, Int.reduceToNat, Int.reduceSub, Int.reduceAdd, reduceIte]
theorem add_s (x y : Int) : CP Try.prog 146 [.int .i64 x, .int .i64 y] (.int .i64 (sat (sat x + sat y))) [] := by
  have h1 := sat_bd x
  have h2 := sat_bd y
  refine CP.by rfl mixed (cfn_ok Try.func146 ok146) rfl ?_
  simp (disch := omega) only [s146, go_sem, Nat.reduceEqDiff, Nat.reduceAdd, Nat.reduceSub, Nat.reduceLeDiff, Nat.reduceLT, Nat.reduceMul, Nat.reduceBEq, Int.reduceEq, Int.reduceLT, Int.reduceLE, Int.reduceNeg, Int.reduceToNat, Int.reduceSub, Int.reduceAdd, reduceIte]
  refine CP.go (sat_s _) rfl rfl ?_
  simp (disch := omega) only [go_sem, Nat.reduceEqDiff, Nat.reduceAdd, Nat.reduceSub, Nat.reduceLeDiff, Nat.reduceLT, Nat.reduceMul, Nat.reduceBEq, Int.reduceEq, Int.reduceLT, Int.reduceLE, Int.reduceNeg, Int.reduceToNat, Int.reduceSub, Int.reduceAdd, reduceIte]
  refine CP.go (sat_s _) rfl rfl ?_
  simp (disch := omega) only [go_sem, Nat.reduceEqDiff, Nat.reduceAdd, Nat.reduceSub, Nat.reduceLeDiff, Nat.reduceLT, Nat.reduceMul, Nat.reduceBEq, Int.reduceEq, Int.reduceLT, Int.reduceLE, Int.reduceNeg, Int.reduceToNat, Int.reduceSub, Int.reduceAdd, reduceIte]
  refine CP.go (sat_s _) rfl rfl ?_
  simp (disch := omega) only [go_sem, Nat.reduceEqDiff, Nat.reduceAdd, Nat.reduceSub, Nat.reduceLeDiff, Nat.reduceLT, Nat.reduceMul, Nat.reduceBEq, Int.reduceEq, Int.reduceLT, Int.reduceLE, Int.reduceNeg, Int.reduceToNat, Int.reduceSub, Int.reduceAdd, reduceIte]
theorem sub_s (x y : Int) : CP Try.prog 147 [.int .i64 x, .int .i64 y] (.int .i64 (sat (sat x - sat y))) [] := by
  have h1 := sat_bd x
  have h2 := sat_bd y
  refine CP.by rfl mixed (cfn_ok Try.func147 ok147) rfl ?_
  simp (disch := omega) only [s147, go_sem, Nat.reduceEqDiff, Nat.reduceAdd, Nat.reduceSub, Nat.reduceLeDiff, Nat.reduceLT, Nat.reduceMul, Nat.reduceBEq, Int.reduceEq, Int.reduceLT, Int.reduceLE, Int.reduceNeg, Int.reduceToNat, Int.reduceSub, Int.reduceAdd, reduceIte]
  refine CP.go (sat_s _) rfl rfl ?_
  simp (disch := omega) only [go_sem, Nat.reduceEqDiff, Nat.reduceAdd, Nat.reduceSub, Nat.reduceLeDiff, Nat.reduceLT, Nat.reduceMul, Nat.reduceBEq, Int.reduceEq, Int.reduceLT, Int.reduceLE, Int.reduceNeg, Int.reduceToNat, Int.reduceSub, Int.reduceAdd, reduceIte]
  refine CP.go (sat_s _) rfl rfl ?_
  simp (disch := omega) only [go_sem, Nat.reduceEqDiff, Nat.reduceAdd, Nat.reduceSub, Nat.reduceLeDiff, Nat.reduceLT, Nat.reduceMul, Nat.reduceBEq, Int.reduceEq, Int.reduceLT, Int.reduceLE, Int.reduceNeg, Int.reduceToNat, Int.reduceSub, Int.reduceAdd, reduceIte]
  refine CP.go (sat_s _) rfl rfl ?_
  simp (disch := omega) only [go_sem, Nat.reduceEqDiff, Nat.reduceAdd, Nat.reduceSub, Nat.reduceLeDiff, Nat.reduceLT, Nat.reduceMul, Nat.reduceBEq, Int.reduceEq, Int.reduceLT, Int.reduceLE, Int.reduceNeg, Int.reduceToNat, Int.reduceSub, Int.reduceAdd, reduceIte]
theorem mul_s (x y : Int) : CP Try.prog 148 [.int .i64 x, .int .i64 y] (.int .i64 (sat (sat x * sat y))) [] := by
  have h1 := sat_mul x y
  have hw : IntKind.wrap .i64 (sat x * sat y) = sat x * sat y := wrap64 h1.1 h1.2
  refine CP.by rfl mixed (cfn_ok Try.func148 ok148) rfl ?_
  simp (disch := omega) only [s148, go_sem, Nat.reduceEqDiff, Nat.reduceAdd, Nat.reduceSub, Nat.reduceLeDiff, Nat.reduceLT, Nat.reduceMul, Nat.reduceBEq, Int.reduceEq, Int.reduceLT, Int.reduceLE, Int.reduceNeg, Int.reduceToNat, Int.reduceSub, Int.reduceAdd, reduceIte]
  refine CP.go (sat_s _) rfl rfl ?_
  simp (disch := omega) only [go_sem, Nat.reduceEqDiff, Nat.reduceAdd, Nat.reduceSub, Nat.reduceLeDiff, Nat.reduceLT, Nat.reduceMul, Nat.reduceBEq, Int.reduceEq, Int.reduceLT, Int.reduceLE, Int.reduceNeg, Int.reduceToNat, Int.reduceSub, Int.reduceAdd, reduceIte]
  refine CP.go (sat_s _) rfl rfl ?_
  simp (disch := omega) only [go_sem, Nat.reduceEqDiff, Nat.reduceAdd, Nat.reduceSub, Nat.reduceLeDiff, Nat.reduceLT, Nat.reduceMul, Nat.reduceBEq, Int.reduceEq, Int.reduceLT, Int.reduceLE, Int.reduceNeg, Int.reduceToNat, Int.reduceSub, Int.reduceAdd, reduceIte, hw]
  refine CP.go (sat_s _) rfl rfl ?_
  simp (disch := omega) only [go_sem, Nat.reduceEqDiff, Nat.reduceAdd, Nat.reduceSub, Nat.reduceLeDiff, Nat.reduceLT, Nat.reduceMul, Nat.reduceBEq, Int.reduceEq, Int.reduceLT, Int.reduceLE, Int.reduceNeg, Int.reduceToNat, Int.reduceSub, Int.reduceAdd, reduceIte]
theorem add_c (x y : Int) : CP Try.prog 137 [.int .i64 x, .int .i64 y] (.int .i64 (sat (sat x + sat y))) [] := by
  have h1 := sat_bd x
  have h2 := sat_bd y
  refine CP.by rfl mixed (cfn_ok Try.func137 ok137) rfl ?_
  simp (disch := omega) only [s137, go_sem, Nat.reduceEqDiff, Nat.reduceAdd, Nat.reduceSub, Nat.reduceLeDiff, Nat.reduceLT, Nat.reduceMul, Nat.reduceBEq, Int.reduceEq, Int.reduceLT, Int.reduceLE, Int.reduceNeg, Int.reduceToNat, Int.reduceSub, Int.reduceAdd, reduceIte]
  refine CP.go (sat_c _) rfl rfl ?_
  simp (disch := omega) only [go_sem, Nat.reduceEqDiff, Nat.reduceAdd, Nat.reduceSub, Nat.reduceLeDiff, Nat.reduceLT, Nat.reduceMul, Nat.reduceBEq, Int.reduceEq, Int.reduceLT, Int.reduceLE, Int.reduceNeg, Int.reduceToNat, Int.reduceSub, Int.reduceAdd, reduceIte]
  refine CP.go (sat_c _) rfl rfl ?_
  simp (disch := omega) only [go_sem, Nat.reduceEqDiff, Nat.reduceAdd, Nat.reduceSub, Nat.reduceLeDiff, Nat.reduceLT, Nat.reduceMul, Nat.reduceBEq, Int.reduceEq, Int.reduceLT, Int.reduceLE, Int.reduceNeg, Int.reduceToNat, Int.reduceSub, Int.reduceAdd, reduceIte]
  refine CP.go (sat_c _) rfl rfl ?_
  simp (disch := omega) only [go_sem, Nat.reduceEqDiff, Nat.reduceAdd, Nat.reduceSub, Nat.reduceLeDiff, Nat.reduceLT, Nat.reduceMul, Nat.reduceBEq, Int.reduceEq, Int.reduceLT, Int.reduceLE, Int.reduceNeg, Int.reduceToNat, Int.reduceSub, Int.reduceAdd, reduceIte]
theorem sub_c (x y : Int) : CP Try.prog 138 [.int .i64 x, .int .i64 y] (.int .i64 (sat (sat x - sat y))) [] := by
  have h1 := sat_bd x
  have h2 := sat_bd y
  refine CP.by rfl mixed (cfn_ok Try.func138 ok138) rfl ?_
  simp (disch := omega) only [s138, go_sem, Nat.reduceEqDiff, Nat.reduceAdd, Nat.reduceSub, Nat.reduceLeDiff, Nat.reduceLT, Nat.reduceMul, Nat.reduceBEq, Int.reduceEq, Int.reduceLT, Int.reduceLE, Int.reduceNeg, Int.reduceToNat, Int.reduceSub, Int.reduceAdd, reduceIte]
  refine CP.go (sat_c _) rfl rfl ?_
  simp (disch := omega) only [go_sem, Nat.reduceEqDiff, Nat.reduceAdd, Nat.reduceSub, Nat.reduceLeDiff, Nat.reduceLT, Nat.reduceMul, Nat.reduceBEq, Int.reduceEq, Int.reduceLT, Int.reduceLE, Int.reduceNeg, Int.reduceToNat, Int.reduceSub, Int.reduceAdd, reduceIte]
  refine CP.go (sat_c _) rfl rfl ?_
  simp (disch := omega) only [go_sem, Nat.reduceEqDiff, Nat.reduceAdd, Nat.reduceSub, Nat.reduceLeDiff, Nat.reduceLT, Nat.reduceMul, Nat.reduceBEq, Int.reduceEq, Int.reduceLT, Int.reduceLE, Int.reduceNeg, Int.reduceToNat, Int.reduceSub, Int.reduceAdd, reduceIte]
  refine CP.go (sat_c _) rfl rfl ?_
  simp (disch := omega) only [go_sem, Nat.reduceEqDiff, Nat.reduceAdd, Nat.reduceSub, Nat.reduceLeDiff, Nat.reduceLT, Nat.reduceMul, Nat.reduceBEq, Int.reduceEq, Int.reduceLT, Int.reduceLE, Int.reduceNeg, Int.reduceToNat, Int.reduceSub, Int.reduceAdd, reduceIte]
theorem mul_c (x y : Int) : CP Try.prog 139 [.int .i64 x, .int .i64 y] (.int .i64 (sat (sat x * sat y))) [] := by
  have h1 := sat_bd x
  have h2 := sat_bd y
  have hw : IntKind.wrap .i64 (sat x * sat y) = sat x * sat y := wrap64 (sat_mul x y).1 (sat_mul x y).2
  refine CP.by rfl mixed (cfn_ok Try.func139 ok139) rfl ?_
  simp (disch := omega) only [s139, go_sem, Nat.reduceEqDiff, Nat.reduceAdd, Nat.reduceSub, Nat.reduceLeDiff, Nat.reduceLT, Nat.reduceMul, Nat.reduceBEq, Int.reduceEq, Int.reduceLT, Int.reduceLE, Int.reduceNeg, Int.reduceToNat, Int.reduceSub, Int.reduceAdd, reduceIte]
  refine CP.go (sat_c _) rfl rfl ?_
  simp (disch := omega) only [go_sem, Nat.reduceEqDiff, Nat.reduceAdd, Nat.reduceSub, Nat.reduceLeDiff, Nat.reduceLT, Nat.reduceMul, Nat.reduceBEq, Int.reduceEq, Int.reduceLT, Int.reduceLE, Int.reduceNeg, Int.reduceToNat, Int.reduceSub, Int.reduceAdd, reduceIte]
  refine CP.go (sat_c _) rfl rfl ?_
  simp (disch := omega) only [go_sem, Nat.reduceEqDiff, Nat.reduceAdd, Nat.reduceSub, Nat.reduceLeDiff, Nat.reduceLT, Nat.reduceMul, Nat.reduceBEq, Int.reduceEq, Int.reduceLT, Int.reduceLE, Int.reduceNeg, Int.reduceToNat, Int.reduceSub, Int.reduceAdd, reduceIte, hw]
  refine CP.go (sat_c _) rfl rfl ?_
  simp (disch := omega) only [go_sem, Nat.reduceEqDiff, Nat.reduceAdd, Nat.reduceSub, Nat.reduceLeDiff, Nat.reduceLT, Nat.reduceMul, Nat.reduceBEq, Int.reduceEq, Int.reduceLT, Int.reduceLE, Int.reduceNeg, Int.reduceToNat, Int.reduceSub, Int.reduceAdd, reduceIte]
def isValue (x : Int) : Bool := within x (-1000000) 1000000
theorem isValue_c (x : Int) : CP Try.prog 120 [.int .i64 x] (.bool (isValue x)) [] := by
  refine CP.by rfl mixed (cfn_ok Try.func120 ok120) rfl ?_
  simp (disch := omega) only [s120, go_sem, Nat.reduceEqDiff, Nat.reduceAdd, Nat.reduceSub, Nat.reduceLeDiff, Nat.reduceLT, Nat.reduceMul, Nat.reduceBEq, Int.reduceEq, Int.reduceLT, Int.reduceLE, Int.reduceNeg, Int.reduceToNat, Int.reduceSub, Int.reduceAdd, reduceIte]
  refine CP.go (within_c _ _ _) rfl rfl ?_
  simp (disch := omega) only [go_sem, Nat.reduceEqDiff, Nat.reduceAdd, Nat.reduceSub, Nat.reduceLeDiff, Nat.reduceLT, Nat.reduceMul, Nat.reduceBEq, Int.reduceEq, Int.reduceLT, Int.reduceLE, Int.reduceNeg, Int.reduceToNat, Int.reduceSub, Int.reduceAdd, reduceIte]
  rfl
theorem notValue_c (x : Int) : CP Try.prog 141 [.int .i64 x] (.bool (!isValue x)) [] := by
  refine CP.by rfl mixed (cfn_ok Try.func141 ok141) rfl ?_
  simp (disch := omega) only [s141, go_sem, Nat.reduceEqDiff, Nat.reduceAdd, Nat.reduceSub, Nat.reduceLeDiff, Nat.reduceLT, Nat.reduceMul, Nat.reduceBEq, Int.reduceEq, Int.reduceLT, Int.reduceLE, Int.reduceNeg, Int.reduceToNat, Int.reduceSub, Int.reduceAdd, reduceIte]
  refine CP.go (isValue_c _) rfl rfl ?_
  simp (disch := omega) only [go_sem, Nat.reduceEqDiff, Nat.reduceAdd, Nat.reduceSub, Nat.reduceLeDiff, Nat.reduceLT, Nat.reduceMul, Nat.reduceBEq, Int.reduceEq, Int.reduceLT, Int.reduceLE, Int.reduceNeg, Int.reduceToNat, Int.reduceSub, Int.reduceAdd, reduceIte]
theorem isValue_s (x : Int) : CP Try.prog 94 [.int .i64 x] (.bool (isValue x)) [] := by
  refine CP.by rfl mixed (cfn_ok Try.func94 ok94) rfl ?_
  simp (disch := omega) only [s94, go_sem, Nat.reduceEqDiff, Nat.reduceAdd, Nat.reduceSub, Nat.reduceLeDiff, Nat.reduceLT, Nat.reduceMul, Nat.reduceBEq, Int.reduceEq, Int.reduceLT, Int.reduceLE, Int.reduceNeg, Int.reduceToNat, Int.reduceSub, Int.reduceAdd, reduceIte]
  refine CP.go (l01In_c _ _ _) rfl rfl ?_
  simp (disch := omega) only [go_sem, Nat.reduceEqDiff, Nat.reduceAdd, Nat.reduceSub, Nat.reduceLeDiff, Nat.reduceLT, Nat.reduceMul, Nat.reduceBEq, Int.reduceEq, Int.reduceLT, Int.reduceLE, Int.reduceNeg, Int.reduceToNat, Int.reduceSub, Int.reduceAdd, reduceIte]
  rfl
theorem areValues_c (zs : List Int) (hl : zs.length ≤ 9223372036854775807) : CP Try.prog 119 [.lst 1 (zs.map encI)] (.bool (zs.all isValue)) [] := by
  refine CP.by rfl mixed (cfn_ok Try.func119 ok119) rfl ?_
  simp (disch := omega) only [s119, go_sem, Nat.reduceEqDiff, Nat.reduceAdd, Nat.reduceSub, Nat.reduceLeDiff, Nat.reduceLT, Nat.reduceMul, Nat.reduceBEq, Int.reduceEq, Int.reduceLT, Int.reduceLE, Int.reduceNeg, Int.reduceToNat, Int.reduceSub, Int.reduceAdd, reduceIte]
  refine CP.go (containsI_c 141 (fun z => !isValue z) zs notValue_c hl) rfl (refs_ints2 _ _ _ rfl) ?_
  simp (disch := omega) only [go_sem, Nat.reduceEqDiff, Nat.reduceAdd, Nat.reduceSub, Nat.reduceLeDiff, Nat.reduceLT, Nat.reduceMul, Nat.reduceBEq, Int.reduceEq, Int.reduceLT, Int.reduceLE, Int.reduceNeg, Int.reduceToNat, Int.reduceSub, Int.reduceAdd, reduceIte]
  congr 1
  rw [List.all_eq_not_any_not]
theorem values_s (zs : List Int) (hl : zs.length ≤ 9223372036854775807) : CP Try.prog 127 [.lst 1 (zs.map encI)] (.bool (zs.all isValue)) [] := by
  refine CP.by rfl mixed (cfn_ok Try.func127 ok127) rfl ?_
  simp (disch := omega) only [s127, go_sem, Nat.reduceEqDiff, Nat.reduceAdd, Nat.reduceSub, Nat.reduceLeDiff, Nat.reduceLT, Nat.reduceMul, Nat.reduceBEq, Int.reduceEq, Int.reduceLT, Int.reduceLE, Int.reduceNeg, Int.reduceToNat, Int.reduceSub, Int.reduceAdd, reduceIte]
  refine loopP_intro (fun m s => ∃ k : Nat, k ≤ zs.length ∧ m = zs.length - k ∧ s.e 0 = .lst 1 (zs.map encI) ∧ s.e 3 = .int .i64 k ∧ ∀ j (hj : j < zs.length), j < k → isValue zs[j] = true) zs.length ⟨0, by omega, by omega, rfl, rfl, fun j _ h => absurd h (by omega)⟩ ?_
  rintro m e hp ⟨k, hk, rfl, e0, e3, hall⟩
  simp only at e0 e3
  simp (disch := omega) only [go_sem, Nat.reduceEqDiff, Nat.reduceAdd, Nat.reduceSub, Nat.reduceLeDiff, Nat.reduceLT, Nat.reduceMul, Nat.reduceBEq, Int.reduceEq, Int.reduceLT, Int.reduceLE, Int.reduceNeg, Int.reduceToNat, Int.reduceSub, Int.reduceAdd, reduceIte, e0, e3, encI]
  refine condP_dec (fun hlt => ?_) (fun hlt => ?_)
  · have hlt' : k < zs.length := by omega
    simp (disch := omega) only [go_sem, Nat.reduceEqDiff, Nat.reduceAdd, Nat.reduceSub, Nat.reduceLeDiff, Nat.reduceLT, Nat.reduceMul, Nat.reduceBEq, Int.reduceEq, Int.reduceLT, Int.reduceLE, Int.reduceNeg, Int.reduceToNat, Int.reduceSub, Int.reduceAdd, reduceIte, e0, e3, encI]
    refine CP.go (isValue_s zs[k]) rfl rfl ?_
    simp (disch := omega) only [go_sem, Nat.reduceEqDiff, Nat.reduceAdd, Nat.reduceSub, Nat.reduceLeDiff, Nat.reduceLT, Nat.reduceMul, Nat.reduceBEq, Int.reduceEq, Int.reduceLT, Int.reduceLE, Int.reduceNeg, Int.reduceToNat, Int.reduceSub, Int.reduceAdd, reduceIte, e0, e3, encI]
    refine condP_split (fun h => ?_) (fun h => ?_)
    · simp (disch := omega) only [go_sem, Nat.reduceEqDiff, Nat.reduceAdd, Nat.reduceSub, Nat.reduceLeDiff, Nat.reduceLT, Nat.reduceMul, Nat.reduceBEq, Int.reduceEq, Int.reduceLT, Int.reduceLE, Int.reduceNeg, Int.reduceToNat, Int.reduceSub, Int.reduceAdd, reduceIte, e0, e3, encI]
      refine nextP_intro (zs.length - (k + 1)) (by omega) ⟨k + 1, by omega, rfl, ?_, ?_, fun j hj hjk => ?_⟩
      · simp (disch := omega) only [go_sem, Nat.reduceEqDiff, Nat.reduceAdd, Nat.reduceSub, Nat.reduceLeDiff, Nat.reduceLT, Nat.reduceMul, Nat.reduceBEq, Int.reduceEq, Int.reduceLT, Int.reduceLE, Int.reduceNeg, Int.reduceToNat, Int.reduceSub, Int.reduceAdd, reduceIte, e0, e3, encI]
      · simp (disch := omega) only [go_sem, Nat.reduceEqDiff, Nat.reduceAdd, Nat.reduceSub, Nat.reduceLeDiff, Nat.reduceLT, Nat.reduceMul, Nat.reduceBEq, Int.reduceEq, Int.reduceLT, Int.reduceLE, Int.reduceNeg, Int.reduceToNat, Int.reduceSub, Int.reduceAdd, reduceIte, e0, e3, encI]; rfl
      · by_cases e : j = k
        · subst e; exact h
        · exact hall j hj (by omega)
    · simp (disch := omega) only [go_sem, Nat.reduceEqDiff, Nat.reduceAdd, Nat.reduceSub, Nat.reduceLeDiff, Nat.reduceLT, Nat.reduceMul, Nat.reduceBEq, Int.reduceEq, Int.reduceLT, Int.reduceLE, Int.reduceNeg, Int.reduceToNat, Int.reduceSub, Int.reduceAdd, reduceIte, e0, e3, encI]
      rw [all_at hlt' h]
  · simp (disch := omega) only [go_sem, Nat.reduceEqDiff, Nat.reduceAdd, Nat.reduceSub, Nat.reduceLeDiff, Nat.reduceLT, Nat.reduceMul, Nat.reduceBEq, Int.reduceEq, Int.reduceLT, Int.reduceLE, Int.reduceNeg, Int.reduceToNat, Int.reduceSub, Int.reduceAdd, reduceIte, e0, e3, encI]
    rw [all_take (fun j hj => hall j hj (by omega))]
end Go.Av
