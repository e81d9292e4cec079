import Derived.Test.YtjfmbdigfnablaaCpDepthThree
import Derived.Test.YtjfmbdigfnablaaAv19
namespace Go.Av
open Go.Proofs Go.RowKit
set_option linter.unusedVariables false
set_option linter.unusedSimpArgs false
set_option maxRecDepth 100000
theorem cut_step {xs : List Stmt} {k : Nat} (h : k < xs.length) : cutM xs (xs.length - k) k = (if depthOf xs k = 0 ∧ ¬ xs[k].kind = 6 then [(k : Int)] else []) ++ cutM xs (xs.length - (k + 1)) (k + 1) := by
  have e : xs.length - k = (xs.length - (k + 1)) + 1 := by omega
  rw [e]
  have e2 : (∀ h : k < xs.length, xs[k].kind = 6) ↔ xs[k].kind = 6 := ⟨fun g => g h, fun g _ => g⟩
  simp only [cutM, e2]
abbrev cutInv (xs : List Stmt) (sl sk : Nat) (m : Nat) (s : St) : Prop :=
  ∃ (k id : Nat) (cs : List Int), 1 ≤ k ∧ (k ≤ xs.length ∨ k = 1) ∧ m = xs.length - k ∧ cs.length ≤ k ∧ s.e 0 = .lst 6 (xs.map encStmt) ∧ s.e sk = .int .i64 k ∧ s.e sl = .own id 1 0 cs.length cs.length ∧ s.h[id]? = some (cs.map encI) ∧ cs ++ cutM xs (xs.length - k) k = cutM xs (xs.length - 1) 1
set_option maxHeartbeats 4000000 in
theorem cutPoints_c (xs : List Stmt) (hx : xs.length ≤ 1048576) (hb : blockOk xs = true) : CP Try.prog 8 [.lst 6 (xs.map encStmt)] (.own 0 1 0 (cutsM xs).length (cutsM xs).length) [(cutsM xs).map encI] := by
  have hcm : cutsM xs = cutM xs (xs.length - 1) 1 := by unfold cutsM; rw [if_pos hb]
  refine C.cpOwn (flat_encI _) (C.by mixed (cfn_ok Try.func8 ok8) rfl ?_)
  simp (disch := omega) only [s8, go_sem, Nat.reduceEqDiff, Nat.reduceAdd, Nat.reduceSub, Nat.reduceLeDiff, Nat.reduceLT, Nat.reduceMul, Nat.reduceBEq, Int.reduceEq, Int.reduceLT, Int.reduceLE, Int.reduceNeg, reduceIte]
  refine CP.go (blockOk_c xs (by omega)) rfl (refs_arg _ _) ?_
  simp (disch := omega) only [go_sem, Nat.reduceEqDiff, Nat.reduceAdd, Nat.reduceSub, Nat.reduceLeDiff, Nat.reduceLT, Nat.reduceMul, Nat.reduceBEq, Int.reduceEq, Int.reduceLT, Int.reduceLE, Int.reduceNeg, reduceIte, hb]
  refine loopP_intro (cutInv xs 3 4) (xs.length - 1) ⟨1, 0, [], by omega, by omega, rfl, by simp, rfl, rfl, rfl, rfl, rfl⟩ ?_
  rintro m e hp ⟨k, id, cs, hk1, hk2, rfl, hcl, e0, e4, e3, hid, hcs⟩
  simp only at e0 e4 e3 hid
  simp (disch := omega) only [go_sem, Nat.reduceEqDiff, Nat.reduceAdd, Nat.reduceSub, Nat.reduceLeDiff, Nat.reduceLT, Nat.reduceMul, Nat.reduceBEq, Int.reduceEq, Int.reduceLT, Int.reduceLE, Int.reduceNeg, reduceIte, e0, e4, e3, encStmt]
  refine condP_dec (fun hlt => ?_) (fun hlt => ?_)
  · have hlt' : k < xs.length := by omega
    rw [cut_step hlt'] at hcs
    simp (disch := omega) only [go_sem, Nat.reduceEqDiff, Nat.reduceAdd, Nat.reduceSub, Nat.reduceLeDiff, Nat.reduceLT, Nat.reduceMul, Nat.reduceBEq, Int.reduceEq, Int.reduceLT, Int.reduceLE, Int.reduceNeg, reduceIte, e0, e4, e3, encStmt]
    refine CP.go (depthOf_c xs k (by omega)) rfl (refs_args _ _ _) ?_
    simp (disch := omega) only [go_sem, Nat.reduceEqDiff, Nat.reduceAdd, Nat.reduceSub, Nat.reduceLeDiff, Nat.reduceLT, Nat.reduceMul, Nat.reduceBEq, Int.reduceEq, Int.reduceLT, Int.reduceLE, Int.reduceNeg, reduceIte, e0, e4, e3, encStmt]
    repeat' (first | (refine condP_t (by assumption) ?_ <;> (try simp (disch := omega) only [go_sem, Nat.reduceEqDiff, Nat.reduceAdd, Nat.reduceSub, Nat.reduceLeDiff, Nat.reduceLT, Nat.reduceMul, Nat.reduceBEq, Int.reduceEq, Int.reduceLT, Int.reduceLE, Int.reduceNeg, reduceIte, e0, e4, e3, encStmt])) | (refine condP_f (by assumption) ?_ <;> (try simp (disch := omega) only [go_sem, Nat.reduceEqDiff, Nat.reduceAdd, Nat.reduceSub, Nat.reduceLeDiff, Nat.reduceLT, Nat.reduceMul, Nat.reduceBEq, Int.reduceEq, Int.reduceLT, Int.reduceLE, Int.reduceNeg, reduceIte, e0, e4, e3, encStmt])) | (refine condP_dec (fun h => ?_) (fun h => ?_) <;> (try simp (disch := omega) only [go_sem, Nat.reduceEqDiff, Nat.reduceAdd, Nat.reduceSub, Nat.reduceLeDiff, Nat.reduceLT, Nat.reduceMul, Nat.reduceBEq, Int.reduceEq, Int.reduceLT, Int.reduceLE, Int.reduceNeg, reduceIte, e0, e4, e3, encStmt])) | (refine condP_split (fun h => ?_) (fun h => ?_) <;> (try simp (disch := omega) only [go_sem, Nat.reduceEqDiff, Nat.reduceAdd, Nat.reduceSub, Nat.reduceLeDiff, Nat.reduceLT, Nat.reduceMul, Nat.reduceBEq, Int.reduceEq, Int.reduceLT, Int.reduceLE, Int.reduceNeg, reduceIte, e0, e4, e3, encStmt])))
    · refine nextP_intro (xs.length - (k + 1)) (by omega) ⟨k + 1, id, cs, by omega, by omega, rfl, by omega, ?_, ?_, ?_, ?_, ?_⟩
      · simp (disch := omega) only [go_sem, Nat.reduceEqDiff, Nat.reduceAdd, Nat.reduceSub, Nat.reduceLeDiff, Nat.reduceLT, Nat.reduceMul, Nat.reduceBEq, Int.reduceEq, Int.reduceLT, Int.reduceLE, Int.reduceNeg, reduceIte, e0, e4, e3, encStmt]
      · simp (disch := omega) only [go_sem, Nat.reduceEqDiff, Nat.reduceAdd, Nat.reduceSub, Nat.reduceLeDiff, Nat.reduceLT, Nat.reduceMul, Nat.reduceBEq, Int.reduceEq, Int.reduceLT, Int.reduceLE, Int.reduceNeg, reduceIte, e0, e4, e3, encStmt]; rfl
      · simp (disch := omega) only [go_sem, Nat.reduceEqDiff, Nat.reduceAdd, Nat.reduceSub, Nat.reduceLeDiff, Nat.reduceLT, Nat.reduceMul, Nat.reduceBEq, Int.reduceEq, Int.reduceLT, Int.reduceLE, Int.reduceNeg, reduceIte, e0, e4, e3, encStmt]
      · exact hid
      · rw [← hcs, if_neg (by simp_all)]; simp
    · rw [append1 hid (List.length_map ..) (by omega)]
      simp (disch := omega) only [go_sem, Nat.reduceEqDiff, Nat.reduceAdd, Nat.reduceSub, Nat.reduceLeDiff, Nat.reduceLT, Nat.reduceMul, Nat.reduceBEq, Int.reduceEq, Int.reduceLT, Int.reduceLE, Int.reduceNeg, reduceIte, e0, e4, e3, encStmt]
      refine nextP_intro (xs.length - (k + 1)) (by omega) ⟨k + 1, id, cs ++ [(k : Int)], by omega, by omega, rfl, by simp; omega, ?_, ?_, ?_, ?_, ?_⟩
      · simp (disch := omega) only [go_sem, Nat.reduceEqDiff, Nat.reduceAdd, Nat.reduceSub, Nat.reduceLeDiff, Nat.reduceLT, Nat.reduceMul, Nat.reduceBEq, Int.reduceEq, Int.reduceLT, Int.reduceLE, Int.reduceNeg, reduceIte, e0, e4, e3, encStmt]
      · simp (disch := omega) only [go_sem, Nat.reduceEqDiff, Nat.reduceAdd, Nat.reduceSub, Nat.reduceLeDiff, Nat.reduceLT, Nat.reduceMul, Nat.reduceBEq, Int.reduceEq, Int.reduceLT, Int.reduceLE, Int.reduceNeg, reduceIte, e0, e4, e3, encStmt]; rfl
      · simp (disch := omega) only [go_sem, Nat.reduceEqDiff, Nat.reduceAdd, Nat.reduceSub, Nat.reduceLeDiff, Nat.reduceLT, Nat.reduceMul, Nat.reduceBEq, Int.reduceEq, Int.reduceLT, Int.reduceLE, Int.reduceNeg, reduceIte, e0, e4, e3, encStmt]; simp
      · simp only [List.map_append]; exact heap_set _ (heap_app hid)
      · rw [← hcs, if_pos ⟨by assumption, by assumption⟩]; simp
    · refine nextP_intro (xs.length - (k + 1)) (by omega) ⟨k + 1, id, cs, by omega, by omega, rfl, by omega, ?_, ?_, ?_, ?_, ?_⟩
      · simp (disch := omega) only [go_sem, Nat.reduceEqDiff, Nat.reduceAdd, Nat.reduceSub, Nat.reduceLeDiff, Nat.reduceLT, Nat.reduceMul, Nat.reduceBEq, Int.reduceEq, Int.reduceLT, Int.reduceLE, Int.reduceNeg, reduceIte, e0, e4, e3, encStmt]
      · simp (disch := omega) only [go_sem, Nat.reduceEqDiff, Nat.reduceAdd, Nat.reduceSub, Nat.reduceLeDiff, Nat.reduceLT, Nat.reduceMul, Nat.reduceBEq, Int.reduceEq, Int.reduceLT, Int.reduceLE, Int.reduceNeg, reduceIte, e0, e4, e3, encStmt]; rfl
      · simp (disch := omega) only [go_sem, Nat.reduceEqDiff, Nat.reduceAdd, Nat.reduceSub, Nat.reduceLeDiff, Nat.reduceLT, Nat.reduceMul, Nat.reduceBEq, Int.reduceEq, Int.reduceLT, Int.reduceLE, Int.reduceNeg, reduceIte, e0, e4, e3, encStmt]
      · exact hid
      · rw [← hcs, if_neg (by simp_all)]; simp
  · simp (disch := omega) only [go_sem, Nat.reduceEqDiff, Nat.reduceAdd, Nat.reduceSub, Nat.reduceLeDiff, Nat.reduceLT, Nat.reduceMul, Nat.reduceBEq, Int.reduceEq, Int.reduceLT, Int.reduceLE, Int.reduceNeg, reduceIte, e0, e4, e3, encStmt]
    refine ⟨id, ?_, ?_⟩
    · have : xs.length - k = 0 := by omega
      rw [this] at hcs
      rw [hcm, ← hcs]; simp [cutM]
    · have : xs.length - k = 0 := by omega
      rw [this] at hcs
      rw [hcm, ← hcs]; simpa [cutM] using hid
end Go.Av
