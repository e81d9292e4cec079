import Derived.Test.YtjfmbdigfnablaaGreatCpPure
namespace Go.Av
open Go.Proofs Go.RowKit
set_option linter.unusedVariables false
set_option linter.unusedSimpArgs false
set_option maxRecDepth 100000
theorem within_dec (a b c : Int) : within a b c = decide (b ≤ a ∧ a ≤ c) := by simp [within]
theorem delta_facts (k : Int) : (k = 4 → delta k = 1) ∧ (k = 5 → delta k = 1) ∧ (k = 6 → delta k = -1) ∧ (k ≠ 4 → k ≠ 5 → k ≠ 6 → delta k = 0) := by
  refine ⟨?_, ?_, ?_, ?_⟩ <;> intros <;> simp_all [delta, isOpening]
set_option maxHeartbeats 4000000 in
theorem blockOk_s (xs : List Stmt) (hx : xs.length ≤ 9223372036854775807) : CP Tryz.prog 77 [.lst 6 (xs.map encStmt)] (.bool (blockOk xs)) [] := by
  refine CP.by rfl mixed (cfn_ok Tryz.func77 ok77) rfl ?_
  simp (disch := omega) only [s77, go_sem]
  refine loopP_intro (fun m s => ∃ (k : Nat) (o : Int), k ≤ xs.length ∧ m = xs.length - k ∧ 0 ≤ o ∧ o ≤ 3 ∧ s.e 0 = .lst 6 (xs.map encStmt) ∧ s.e 4 = .int .i64 k ∧ s.e 3 = .int .i64 o ∧ blockFrom 0 xs = blockFrom o (xs.drop k)) xs.length ⟨0, 0, by omega, by omega, by omega, by omega, rfl, rfl, rfl, rfl⟩ ?_
  rintro m e h ⟨k, o, hk, rfl, ho1, ho2, e0, e4, e3, hb⟩
  simp only at e0 e4 e3
  simp (disch := omega) only [go_sem, e0, e4, e3, encStmt, within_dec]
  refine condP_dec (fun hlt => ?_) (fun hlt => ?_)
  · have hlt' : k < xs.length := by omega
    rw [blockFrom_drop hlt'] at hb
    simp (disch := omega) only [go_sem, e0, e4, e3, encStmt, within_dec]
    refine CP.go (stmtOk_s xs[k]) rfl rfl ?_
    simp (disch := omega) only [go_sem, e0, e4, e3, encStmt, within_dec]
    obtain ⟨hd4, hd5, hd6, hd0⟩ := delta_facts xs[k].kind
    repeat' (first | (refine CP.go (l01In_c _ _ _) rfl rfl ?_ <;> (try simp (disch := omega) only [go_sem, e0, e4, e3, encStmt, within_dec])) | (refine condP_t (by assumption) ?_ <;> (try simp (disch := omega) only [go_sem, e0, e4, e3, encStmt, within_dec])) | (refine condP_f (by assumption) ?_ <;> (try simp (disch := omega) only [go_sem, e0, e4, e3, encStmt, within_dec])) | (refine condP_dec (fun h => ?_) (fun h => ?_) <;> (try simp (disch := omega) only [go_sem, e0, e4, e3, encStmt, within_dec])) | (refine condP_split (fun h => ?_) (fun h => ?_) <;> (try simp (disch := omega) only [go_sem, e0, e4, e3, encStmt, within_dec])))
    all_goals first
      | (refine nextP_intro (xs.length - (k + 1)) (by omega) ⟨k + 1, o + delta xs[k].kind, by omega, rfl, by omega, by omega, ?_, ?_, ?_, ?_⟩
         · simp (disch := omega) only [go_sem, e0, e4, e3, encStmt, within_dec]
         · simp (disch := omega) only [go_sem, e0, e4, e3, encStmt, within_dec]; rfl
         · simp (disch := omega) only [go_sem, e0, e4, e3, encStmt, within_dec]; congr 1; omega
         · rw [hb, if_pos ⟨by assumption, by omega, by omega⟩])
      | (simp only [blockOk, hb]; rw [if_neg (fun c => by first | omega | simp_all)]; rfl)
  · simp (disch := omega) only [go_sem, e0, e4, e3, encStmt, within_dec]
    have hk' : k = xs.length := by omega
    subst hk'
    rw [List.drop_length] at hb
    refine condP_dec (fun h0 => ?_) (fun h0 => ?_)
    · simp (disch := omega) only [go_sem, e0, e4, e3, encStmt, within_dec]
      simp only [blockOk, hb, blockFrom]; simp [h0]
    · simp (disch := omega) only [go_sem, e0, e4, e3, encStmt, within_dec]
      simp only [blockOk, hb, blockFrom]; simp [h0]
end Go.Av
