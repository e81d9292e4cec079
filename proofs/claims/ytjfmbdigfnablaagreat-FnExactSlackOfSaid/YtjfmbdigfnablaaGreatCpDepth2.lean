import Derived.Test.YtjfmbdigfnablaaGreatCpDepth
namespace Go.Av
open Go.Proofs Go.RowKit
set_option linter.unusedVariables false
set_option linter.unusedSimpArgs false
set_option maxRecDepth 100000
theorem depM_take {xs : List Stmt} {k : Nat} (h : k < xs.length) : depM (xs.take (k + 1)) = depM (xs.take k) + delta xs[k].kind := by
  rw [List.take_succ_eq_append_getElem h, dep_app, depM_cons]
  have : depM [] = 0 := rfl
  show _ + (delta xs[k].kind + depM []) = _
  omega
@[simp] theorem refs_stmt (n : Nat) (s : Stmt) : V.refsL n (encStmt s) = true := rfl
theorem refs_stmts (n : Nat) (xs : List Stmt) : V.refs n (.lst 6 (xs.map encStmt)) = true := refsLL_map encStmt (refs_stmt n) xs
theorem refs_args (n : Nat) (xs : List Stmt) (i : Int) : V.refsL n [.lst 6 (xs.map encStmt), .int .i64 i] = true := by simp [V.refsL, V.refs, refsLL_map encStmt (refs_stmt n) xs]
theorem refs_arg (n : Nat) (xs : List Stmt) : V.refsL n [.lst 6 (xs.map encStmt)] = true := by simp [V.refsL, V.refs, refsLL_map encStmt (refs_stmt n) xs]
set_option maxHeartbeats 4000000 in
theorem depthOf_c (xs : List Stmt) (i : Int) (hx : xs.length ≤ 9223372036854775807) : CP Tryz.prog 76 [.lst 6 (xs.map encStmt), .int .i64 i] (.int .i64 (depthOf xs i)) [] := by
  refine CP.by rfl mixed (cfn_ok Tryz.func76 ok76) rfl ?_
  simp (disch := omega) only [s76, go_sem, within_dec]
  refine CP.go (blockOk_c xs hx) rfl (refs_arg _ _) ?_
  simp (disch := omega) only [go_sem, within_dec]
  repeat' (first | (refine CP.go (within_c _ _ _) rfl rfl ?_ <;> (try simp (disch := omega) only [go_sem, within_dec])) | (refine condP_t (by assumption) ?_ <;> (try simp (disch := omega) only [go_sem, within_dec])) | (refine condP_f (by assumption) ?_ <;> (try simp (disch := omega) only [go_sem, within_dec])) | (refine condP_dec (fun h => ?_) (fun h => ?_) <;> (try simp (disch := omega) only [go_sem, within_dec])) | (refine condP_split (fun h => ?_) (fun h => ?_) <;> (try simp (disch := omega) only [go_sem, within_dec])))
  · rename_i hbk
    have hi := h
    clear h
    have hys : (xs.take i.toNat).length = i.toNat := by simp; omega
    have hr : depthOf xs i = depM (xs.take i.toNat) := by simp [depthOf, hbk, hi.1, hi.2]
    rw [hr]
    generalize xs.take i.toNat = ys at hys
    refine loopP_intro (fun m s => ∃ (k : Nat), k ≤ ys.length ∧ m = ys.length - k ∧ s.e 21 = .lst 6 (ys.map encStmt) ∧ s.e 22 = .int .i64 ys.length ∧ s.e 23 = .int .i64 k ∧ s.e 5 = .int .i64 (depM (ys.take k))) ys.length ⟨0, by omega, by omega, by simp (disch := omega) only [go_sem, within_dec], by simp (disch := omega) only [go_sem, within_dec], by simp (disch := omega) only [go_sem, within_dec]; rfl, by simp (disch := omega) only [go_sem, within_dec]; rfl⟩ ?_
    rintro m e h ⟨k, hk, rfl, e21, e22, e23, e5⟩
    simp only at e21 e22 e23 e5
    simp (disch := omega) only [go_sem, e21, e22, e23, e5, encStmt]
    refine condP_dec (fun hlt => ?_) (fun hlt => ?_)
    · have hlt' : k < ys.length := by omega
      have hdt := depM_take hlt'
      have hbd := depM_bd (ys.take k)
      have hkl : (ys.take k).length = k := by simp; omega
      obtain ⟨hd4, hd5, hd6, hd0⟩ := delta_facts ys[k].kind
      have hO : isOpening ys[k].kind = decide (ys[k].kind = 4 ∨ ys[k].kind = 5) := by simp [isOpening]
      simp (disch := omega) only [go_sem, e21, e22, e23, e5, encStmt]
      refine CP.go (isOpening_c ys[k].kind) rfl rfl ?_
      simp only [hO]
      simp (disch := omega) only [go_sem, e21, e22, e23, e5, encStmt]
      repeat' (first | (refine condP_t (by assumption) ?_ <;> (try simp (disch := omega) only [go_sem, e21, e22, e23, e5, encStmt])) | (refine condP_f (by assumption) ?_ <;> (try simp (disch := omega) only [go_sem, e21, e22, e23, e5, encStmt])) | (refine condP_dec (fun h => ?_) (fun h => ?_) <;> (try simp (disch := omega) only [go_sem, e21, e22, e23, e5, encStmt])) | (refine condP_split (fun h => ?_) (fun h => ?_) <;> (try simp (disch := omega) only [go_sem, e21, e22, e23, e5, encStmt])))
      all_goals
        (refine nextP_intro (ys.length - (k + 1)) (by omega) ⟨k + 1, by omega, rfl, ?_, ?_, ?_, ?_⟩
         · simp (disch := omega) only [go_sem, e21, e22, e23, e5, encStmt]
         · simp (disch := omega) only [go_sem, e21, e22, e23, e5, encStmt]
         · simp (disch := omega) only [go_sem, e21, e22, e23, e5, encStmt]; rfl
         · simp (disch := omega) only [go_sem, e21, e22, e23, e5, encStmt]; congr 1; omega)
    · simp (disch := omega) only [go_sem, e21, e22, e23, e5, encStmt]
      have hk' : k = ys.length := by omega
      subst hk'
      rw [List.take_length]
  · rename_i hbk
    have hi := h
    have : depthOf xs i = -1 := by unfold depthOf; rw [if_neg (fun c => hi c.2)]
    rw [this]
  · have hbk := h
    have : depthOf xs i = -1 := by unfold depthOf; rw [if_neg (fun c => by rw [hbk] at c; exact Bool.noConfusion c.1)]
    rw [this]
set_option maxHeartbeats 4000000 in
theorem end_s (xs : List Stmt) (j : Nat) (hj : j ≤ xs.length) (hx : xs.length ≤ 9223372036854775807) : CP Tryz.prog 137 [.lst 6 (xs.map encStmt), .int .i64 j] (.int .i64 (endM 0 j (xs.drop j))) [] := by
  refine CP.by rfl mixed (cfn_ok Tryz.func137 ok137) rfl ?_
  simp (disch := omega) only [s137, go_sem]
  refine loopP_intro (fun m s => ∃ (k : Nat) (c : Int), k ≤ xs.length ∧ m = xs.length - k ∧ -(k : Int) ≤ c ∧ c ≤ k ∧ s.e 0 = .lst 6 (xs.map encStmt) ∧ s.e 6 = .int .i64 k ∧ s.e 5 = .int .i64 c ∧ endM 0 j (xs.drop j) = endM c k (xs.drop k)) (xs.length - j) ⟨j, 0, by omega, by omega, by omega, by omega, rfl, rfl, rfl, rfl⟩ ?_
  rintro m e h ⟨k, c, hk, rfl, hc1, hc2, e0, e6, e5, hb⟩
  simp only at e0 e6 e5
  simp (disch := omega) only [go_sem, e0, e6, e5, encStmt]
  refine condP_dec (fun hlt => ?_) (fun hlt => ?_)
  · have hlt' : k < xs.length := by omega
    obtain ⟨hd4, hd5, hd6, hd0⟩ := delta_facts xs[k].kind
    have hO : isOpening xs[k].kind = decide (xs[k].kind = 4 ∨ xs[k].kind = 5) := by simp [isOpening]
    have hs : endM c k (xs.drop k) = if xs[k].kind = 6 ∧ c + delta xs[k].kind = 0 then (k : Int) else endM (c + delta xs[k].kind) (k + 1) (xs.drop (k + 1)) := by
      rw [List.drop_eq_getElem_cons hlt']; rfl
    simp (disch := omega) only [go_sem, e0, e6, e5, encStmt]
    refine CP.go (opens_c xs[k]) rfl rfl ?_
    simp only [hO]
    simp (disch := omega) only [go_sem, e0, e6, e5, encStmt]
    repeat' (first | (refine condP_t (by assumption) ?_ <;> (try simp (disch := omega) only [go_sem, e0, e6, e5, encStmt])) | (refine condP_f (by assumption) ?_ <;> (try simp (disch := omega) only [go_sem, e0, e6, e5, encStmt])) | (refine condP_dec (fun h => ?_) (fun h => ?_) <;> (try simp (disch := omega) only [go_sem, e0, e6, e5, encStmt])) | (refine condP_split (fun h => ?_) (fun h => ?_) <;> (try simp (disch := omega) only [go_sem, e0, e6, e5, encStmt])))
    all_goals first
      | (refine nextP_intro (xs.length - (k + 1)) (by omega) ⟨k + 1, c + delta xs[k].kind, by omega, rfl, by omega, by omega, ?_, ?_, ?_, ?_⟩
         · simp (disch := omega) only [go_sem, e0, e6, e5, encStmt]
         · simp (disch := omega) only [go_sem, e0, e6, e5, encStmt]; rfl
         · simp (disch := omega) only [go_sem, e0, e6, e5, encStmt]; congr 1; omega
         · rw [hb, hs, if_neg (by omega)]; rfl)
      | (rw [hb, hs, if_pos (by omega)])
  · simp (disch := omega) only [go_sem, e0, e6, e5, encStmt]
    have hk' : k = xs.length := by omega
    subst hk'
    rw [hb, List.drop_length]
    rfl
end Go.Av
