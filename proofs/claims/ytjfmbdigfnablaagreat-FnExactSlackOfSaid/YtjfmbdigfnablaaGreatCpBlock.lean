import Derived.Test.YtjfmbdigfnablaaGreatCpSpec
namespace Go.Av
open Go.Proofs Go.RowKit
set_option linter.unusedVariables false
set_option linter.unusedSimpArgs false
set_option maxRecDepth 100000
def delta (k : Int) : Int := (if isOpening k = true then 1 else 0) - (if k = 6 then 1 else 0)
def blockFrom : Int → List Stmt → Bool
  | o, [] => decide (o = 0)
  | o, s :: r => if stmtOk s = true ∧ 0 ≤ o + delta s.kind ∧ o + delta s.kind ≤ 3 then blockFrom (o + delta s.kind) r else false
def blockOk (xs : List Stmt) : Bool := blockFrom 0 xs && decide ((xs.length : Int) ≤ 24)
theorem blockFrom_drop {xs : List Stmt} {k : Nat} (h : k < xs.length) (o : Int) : blockFrom o (xs.drop k) = if stmtOk xs[k] = true ∧ 0 ≤ o + delta xs[k].kind ∧ o + delta xs[k].kind ≤ 3 then blockFrom (o + delta xs[k].kind) (xs.drop (k + 1)) else false := by
  rw [List.drop_eq_getElem_cons h]; rfl
set_option maxHeartbeats 4000000 in
theorem blockOk_c (xs : List Stmt) (hx : xs.length ≤ 9223372036854775807) : CP Tryz.prog 75 [.lst 6 (xs.map encStmt)] (.bool (blockOk xs)) [] := by
  refine CP.by rfl mixed (cfn_ok Tryz.func75 ok75) rfl ?_
  simp (disch := omega) only [s75, go_sem]
  refine loopP_intro (fun m s => ∃ (k : Nat) (o : Int), k ≤ xs.length ∧ m = xs.length - k ∧ 0 ≤ o ∧ o ≤ 3 ∧ s.e 0 = .lst 6 (xs.map encStmt) ∧ s.e 6 = .lst 6 (xs.map encStmt) ∧ s.e 7 = .int .i64 xs.length ∧ s.e 8 = .int .i64 k ∧ s.e 3 = .int .i64 o ∧ blockFrom 0 xs = blockFrom o (xs.drop k)) xs.length ⟨0, 0, by omega, by omega, by omega, by omega, rfl, rfl, by simp (disch := omega) only [go_sem], by simp (disch := omega) only [go_sem]; rfl, rfl, rfl⟩ ?_
  rintro m e h ⟨k, o, hk, rfl, ho1, ho2, e0, e6, e7, e8, e3, hb⟩
  simp only at e0 e6 e7 e8 e3
  simp (disch := omega) only [go_sem, e0, e6, e7, e8, e3]
  refine condP_dec (fun hlt => ?_) (fun hlt => ?_)
  · have hlt' : k < xs.length := by omega
    rw [blockFrom_drop hlt'] at hb
    simp (disch := omega) only [go_sem, encStmt, e0, e6, e7, e8, e3]
    refine CP.go (stmtOk_c xs[k]) rfl rfl ?_
    simp (disch := omega) only [go_sem, e0, e6, e7, e8, e3]
    cases hO : isOpening xs[k].kind <;> by_cases h6 : xs[k].kind = 6
    all_goals
      have hd : delta xs[k].kind = (if isOpening xs[k].kind = true then 1 else 0) - (if xs[k].kind = 6 then 1 else 0) := rfl
      rw [hO] at hd
      first | rw [if_pos h6] at hd | rw [if_neg h6] at hd
      simp only [if_true, if_false, Bool.false_eq_true] at hd
    all_goals repeat' (first | (refine CP.go (isOpening_c _) rfl rfl ?_ <;> (try simp (disch := omega) only [go_sem, e0, e6, e7, e8, e3])) | (refine condP_t (by assumption) ?_ <;> (try simp (disch := omega) only [go_sem, e0, e6, e7, e8, e3])) | (refine condP_f (by assumption) ?_ <;> (try simp (disch := omega) only [go_sem, e0, e6, e7, e8, e3])) | (refine condP_dec (fun h => ?_) (fun h => ?_) <;> (try simp (disch := omega) only [go_sem, e0, e6, e7, e8, e3])) | (refine condP_split (fun h => ?_) (fun h => ?_) <;> (try simp (disch := omega) only [go_sem, e0, e6, e7, e8, e3])))
    all_goals first
      | (refine nextP_intro (xs.length - (k + 1)) (by omega) ⟨k + 1, o + delta xs[k].kind, by omega, rfl, by omega, by omega, ?_, ?_, ?_, ?_, ?_, ?_⟩
         · simp (disch := omega) only [go_sem, e0, e6, e7, e8, e3]
         · simp (disch := omega) only [go_sem, e0, e6, e7, e8, e3]
         · simp (disch := omega) only [go_sem, e0, e6, e7, e8, e3]
         · simp (disch := omega) only [go_sem, e0, e6, e7, e8, e3]; rfl
         · simp (disch := omega) only [go_sem, e0, e6, e7, e8, e3]; congr 1; omega
         · rw [hb, if_pos ⟨by assumption, by omega, by omega⟩])
      | (simp only [blockOk, hb]; rw [if_neg (fun c => by first | omega | simp_all)]; rfl)
  · simp (disch := omega) only [go_sem, e0, e6, e7, e8, e3]
    have hk' : k = xs.length := by omega
    subst hk'
    rw [List.drop_length] at hb
    refine condP_dec (fun h0 => ?_) (fun h0 => ?_)
    · simp (disch := omega) only [go_sem, e0, e6, e7, e8, e3]
      simp only [blockOk, hb, blockFrom]; simp [h0]
    · simp (disch := omega) only [go_sem, e0, e6, e7, e8, e3]
      simp only [blockOk, hb, blockFrom]; simp [h0]
end Go.Av
