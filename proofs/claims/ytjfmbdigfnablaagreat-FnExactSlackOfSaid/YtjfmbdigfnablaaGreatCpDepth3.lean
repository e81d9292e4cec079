import Derived.Test.YtjfmbdigfnablaaGreatCpDepth2
namespace Go.Av
open Go.Proofs Go.RowKit
set_option linter.unusedVariables false
set_option linter.unusedSimpArgs false
set_option maxRecDepth 100000
theorem cnt_step {xs : List Stmt} {m j : Nat} (i : Int) (h : j < m) (hm : m ≤ xs.length) : cntM i j ((xs.take m).drop j) (xs.drop m) = (if (xs[j].kind = 4 ∨ xs[j].kind = 5) ∧ i ≤ endM 0 j (xs.drop j) then 1 else 0) + cntM i (j + 1) ((xs.take m).drop (j + 1)) (xs.drop m) := by
  have hl : (xs.take m).length = m := by simp; omega
  have e : (xs.take m).drop j = xs[j] :: (xs.take m).drop (j + 1) := by
    rw [List.drop_eq_getElem_cons (by omega)]; simp
  have e2 : (xs.take m).drop j ++ xs.drop m = xs.drop j := by
    rw [← List.drop_append_of_le_length (by omega), List.take_append_drop]
  rw [← e2]
  rw [e]
  rfl
theorem cntM_bd (i : Int) (v : List Stmt) : ∀ (q : List Stmt) (p : Int), 0 ≤ cntM i p q v ∧ cntM i p q v ≤ q.length
  | [], p => by simp [cntM]
  | x :: q, p => by
    have := cntM_bd i v q (p + 1)
    unfold cntM
    simp only [List.length_cons]
    split <;> omega
set_option maxHeartbeats 4000000 in
theorem depthOf_s (xs : List Stmt) (i : Int) (hx : xs.length ≤ 9223372036854775807) : CP Tryz.prog 78 [.lst 6 (xs.map encStmt), .int .i64 i] (.int .i64 (depthOf xs i)) [] := by
  refine CP.by rfl mixed (cfn_ok Tryz.func78 ok78) rfl ?_
  simp (disch := omega) only [s78, go_sem, within_dec]
  refine CP.go (blockOk_s xs hx) rfl (refs_arg _ _) ?_
  simp (disch := omega) only [go_sem, within_dec]
  repeat' (first | (refine CP.go (l01In_c _ _ _) rfl rfl ?_ <;> (try simp (disch := omega) only [go_sem, within_dec])) | (refine condP_t (by assumption) ?_ <;> (try simp (disch := omega) only [go_sem, within_dec])) | (refine condP_f (by assumption) ?_ <;> (try simp (disch := omega) only [go_sem, within_dec])) | (refine condP_dec (fun h => ?_) (fun h => ?_) <;> (try simp (disch := omega) only [go_sem, within_dec])) | (refine condP_split (fun h => ?_) (fun h => ?_) <;> (try simp (disch := omega) only [go_sem, within_dec])))
  · rename_i hbk
    have hi := h
    clear h
    have hr : depthOf xs i = cntM i 0 (xs.take i.toNat) (xs.drop i.toNat) := by rw [cnt_depth xs i hbk hi]; simp [depthOf, hbk, hi.1, hi.2]
    obtain ⟨m, rfl⟩ : ∃ m : Nat, i = m := ⟨i.toNat, by omega⟩
    have hm : m < xs.length := by omega
    rw [Int.toNat_natCast] at hr
    rw [hr]
    refine loopP_intro (fun t s => ∃ (j : Nat) (c : Int), j ≤ m ∧ t = m - j ∧ 0 ≤ c ∧ c ≤ j ∧ s.e 0 = .lst 6 (xs.map encStmt) ∧ s.e 1 = .int .i64 m ∧ s.e 6 = .int .i64 j ∧ s.e 5 = .int .i64 c ∧ cntM m 0 (xs.take m) (xs.drop m) = c + cntM m j ((xs.take m).drop j) (xs.drop m)) m ⟨0, 0, by omega, by omega, by omega, by omega, by simp (disch := omega) only [go_sem, within_dec], by simp (disch := omega) only [go_sem, within_dec], by simp (disch := omega) only [go_sem, within_dec]; rfl, by simp (disch := omega) only [go_sem, within_dec], by simp⟩ ?_
    rintro t e h ⟨j, c, hj, rfl, hc1, hc2, e0, e1, e6, e5, hb⟩
    simp only at e0 e1 e6 e5
    simp (disch := omega) only [go_sem, e0, e1, e6, e5, encStmt]
    refine condP_dec (fun hlt => ?_) (fun hlt => ?_)
    · have hlt' : j < xs.length := by omega
      have hO : isOpening xs[j].kind = decide (xs[j].kind = 4 ∨ xs[j].kind = 5) := by simp [isOpening]
      rw [cnt_step (m : Int) (by omega) (by omega)] at hb
      simp (disch := omega) only [go_sem, e0, e1, e6, e5, encStmt]
      refine CP.go (opens_c xs[j]) rfl rfl ?_
      simp only [hO]
      simp (disch := omega) only [go_sem, e0, e1, e6, e5, encStmt]
      repeat' (first | (refine CP.go (end_s xs j (by omega) hx) rfl (refs_args _ _ _) ?_ <;> simp (disch := omega) only [go_sem, e0, e1, e6, e5, encStmt]) | (refine condP_t (by assumption) ?_ <;> (try simp (disch := omega) only [go_sem, e0, e1, e6, e5, encStmt])) | (refine condP_f (by assumption) ?_ <;> (try simp (disch := omega) only [go_sem, e0, e1, e6, e5, encStmt])) | (refine condP_dec (fun h => ?_) (fun h => ?_) <;> (try simp (disch := omega) only [go_sem, e0, e1, e6, e5, encStmt])) | (refine condP_split (fun h => ?_) (fun h => ?_) <;> (try simp (disch := omega) only [go_sem, e0, e1, e6, e5, encStmt])))
      all_goals first
        | (refine nextP_intro (m - (j + 1)) (by omega) ⟨j + 1, c + 1, by omega, rfl, by omega, by omega, ?_, ?_, ?_, ?_, ?_⟩
           · simp (disch := omega) only [go_sem, e0, e1, e6, e5, encStmt]
           · simp (disch := omega) only [go_sem, e0, e1, e6, e5, encStmt]
           · simp (disch := omega) only [go_sem, e0, e1, e6, e5, encStmt]; rfl
           · simp (disch := omega) only [go_sem, e0, e1, e6, e5, encStmt]
           · rw [hb, if_pos ⟨by assumption, by assumption⟩]; push_cast; omega)
        | (refine nextP_intro (m - (j + 1)) (by omega) ⟨j + 1, c, by omega, rfl, by omega, by omega, ?_, ?_, ?_, ?_, ?_⟩
           · simp (disch := omega) only [go_sem, e0, e1, e6, e5, encStmt]
           · simp (disch := omega) only [go_sem, e0, e1, e6, e5, encStmt]
           · simp (disch := omega) only [go_sem, e0, e1, e6, e5, encStmt]; rfl
           · simp (disch := omega) only [go_sem, e0, e1, e6, e5, encStmt]
           · rw [hb, if_neg (by omega)]; push_cast; omega)
    · simp (disch := omega) only [go_sem, e0, e1, e6, e5, encStmt]
      have hk' : j = m := by omega
      subst hk'
      rw [hb]
      have : (xs.take j).drop j = [] := List.drop_eq_nil_of_le (by simp; omega)
      rw [this]
      simp [cntM]
  · rename_i hbk
    have hi := h
    have : depthOf xs i = -1 := by unfold depthOf; rw [if_neg (fun c => hi c.2)]
    rw [this]
  · have hbk := h
    have : depthOf xs i = -1 := by unfold depthOf; rw [if_neg (fun c => by rw [hbk] at c; exact Bool.noConfusion c.1)]
    rw [this]
end Go.Av
