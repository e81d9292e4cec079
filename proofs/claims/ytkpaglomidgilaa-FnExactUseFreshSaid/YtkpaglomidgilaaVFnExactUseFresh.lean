/- The pure statement of the law FnExactUseFresh: what the printed function comes to is true. No condition beyond the numbers being int64. -/
import Derived.Test.YtkpaglomidgilaaPFnExactUseFreshx2
import Derived.OpenShut
namespace Go.Proofs.Ytkpaglomidgilaa.Pure
open Go.RowKit Go.Proofs.Ytkpaglomidgilaa.PFnExactUseFresh Go.Proofs.YtkpaglomidgilaaW.PrintWords Go.Proofs.YtkpaglomidgilaaW.PrintLast
set_option linter.unusedVariables false
set_option linter.unusedSimpArgs false
--BLOCKS
theorem wf_b {z : Int} (h : (Lit.int .i64 z).wf = true) : -9223372036854775808 ≤ z ∧ z ≤ 9223372036854775807 := bounds_i64 h
theorem wrap_id {z : Int} (h1 : -9223372036854775808 ≤ z) (h2 : z ≤ 9223372036854775807) : wrap64 z = z := by unfold wrap64; omega
theorem mn_min (a b : Int) : mn a b = min a b := by unfold mn; omega
theorem mx_max (a b : Int) : mx a b = max a b := by unfold mx; omega
theorem in_eq (x lo hi : Int) : spec_l01In.f x lo hi = some (decide (lo ≤ x ∧ x ≤ hi)) := by
  unfold spec_l01In.f; split <;> simp_all <;> omega
theorem within_eq (x lo hi : Int) : impl_within.f x lo hi = some (decide (lo ≤ x ∧ x ≤ hi)) := by
  unfold impl_within.f; split <;> simp_all <;> omega
theorem sSpan_eq (a b : Int) : spec_SpanOk.f a b = some (decide (0 ≤ a ∧ a ≤ b ∧ b ≤ 1000000)) := by
  unfold spec_SpanOk.f; split <;> (try split) <;> simp_all <;> omega
theorem iSpan_eq (a b : Int) : impl_SpanOk.f a b = some (decide (0 ≤ a ∧ a ≤ b ∧ b ≤ 1000000)) := by
  unfold impl_SpanOk.f; split <;> (try split) <;> simp_all <;> omega
theorem toSpan_eq (a b : Int) : laws_toSpan.f a b = some (a, b) := rfl
theorem toStamped_eq (a b c : Int) : laws_toStamped.f a b c = some (a, b, c) := rfl
theorem iTimes_eq (a b v c d n : Int) : impl_areTimes.f a b v c d n = some (decide ((0 ≤ a ∧ a ≤ b ∧ b ≤ 1000000) ∧ (0 ≤ c ∧ c ≤ d ∧ d ≤ 1000000) ∧ (0 ≤ n ∧ n ≤ 1000000))) := by
  simp only [impl_areTimes.f, impl_isTime.f, within_eq, iSpan_eq, Option.bind_some]
  split <;> (try split) <;> simp_all <;> omega
/-- 1: certainly fresh; 0: certainly not; 2: unknown. -/
def freshM (a b c d n : Int) : Int := if (0 ≤ a ∧ a ≤ b ∧ b ≤ 1000000) ∧ (0 ≤ c ∧ c ≤ d ∧ d ≤ 1000000) ∧ (0 ≤ n ∧ n ≤ 1000000) then (if b - c ≤ n then 1 else if a - d > n then 0 else 2) else 2
theorem iFresh_eq (a b v c d n : Int) : impl_FreshState.f a b v c d n = some (freshM a b c d n) := by
  unfold freshM
  simp only [impl_FreshState.f, iTimes_eq, Option.bind_some]
  by_cases h : (0 ≤ a ∧ a ≤ b ∧ b ≤ 1000000) ∧ (0 ≤ c ∧ c ≤ d ∧ d ≤ 1000000) ∧ (0 ≤ n ∧ n ≤ 1000000)
  · rw [if_pos (decide_eq_true h), if_pos h, wrap_id (z := b - c) (by omega) (by omega), wrap_id (z := a - d) (by omega) (by omega)]
    split
    · rfl
    · split <;> rfl
  · rw [if_neg (by simpa using h), if_neg h]
theorem sFresh_eq (k : Nat) (a b v c d n : Int) : spec_FreshState.f (k + 1) a b v c d n = some (freshM a b c d n) := by
  unfold freshM
  simp only [spec_FreshState.f, spec_FreshState.j0, sSpan_eq, in_eq, Option.bind_some]
  by_cases h1 : 0 ≤ a ∧ a ≤ b ∧ b ≤ 1000000
  · by_cases h2 : 0 ≤ c ∧ c ≤ d ∧ d ≤ 1000000
    · by_cases h3 : 0 ≤ n ∧ n ≤ 1000000
      · simp only [decide_eq_true h1, decide_eq_true h2, decide_eq_true h3, Bool.not_true, Bool.false_eq_true, if_true, if_false]
        have hh : (0 ≤ a ∧ a ≤ b ∧ b ≤ 1000000) ∧ (0 ≤ c ∧ c ≤ d ∧ d ≤ 1000000) ∧ (0 ≤ n ∧ n ≤ 1000000) := ⟨h1, h2, h3⟩
        rw [if_pos hh, wrap_id (z := b - c) (by omega) (by omega), wrap_id (z := a - d) (by omega) (by omega)]
        split
        · rfl
        · split <;> rfl
      · simp only [decide_eq_true h1, decide_eq_true h2, decide_eq_false h3, Bool.not_false, Bool.false_eq_true, if_true, if_false]
        rw [if_neg (fun h => h3 h.2.2)]
    · simp only [decide_eq_true h1, decide_eq_false h2, Bool.not_false, Bool.false_eq_true, if_true, if_false]
      rw [if_neg (fun h => h2 h.2.1)]
  · simp only [decide_eq_false h1, Bool.not_false, Bool.false_eq_true, if_true, if_false]
    rw [if_neg (fun h => h1 h.1)]
theorem sUse_eq (k : Nat) (a b v c d n o : Int) : spec_UseFresh.f (k + 1) a b v c d n o = some (if freshM a b c d n = 1 then v else o) := by
  simp only [spec_UseFresh.f, sFresh_eq, Option.bind_some]
  split <;> simp_all <;> omega
theorem iUse_eq (a b v c d n o : Int) : impl_UseFresh.f a b v c d n o = some (if freshM a b c d n = 1 then v else o) := by
  simp only [impl_UseFresh.f, iFresh_eq, Option.bind_some]
  split <;> simp_all <;> omega

theorem FnExactUseFresh : ∀ (a0_0 a0_1 a1_0 a1_1 a1_2 a2 a3 : Int), (Lit.int .i64 a0_0).wf = true → (Lit.int .i64 a0_1).wf = true → (Lit.int .i64 a1_0).wf = true → (Lit.int .i64 a1_1).wf = true → (Lit.int .i64 a1_2).wf = true → (Lit.int .i64 a2).wf = true → (Lit.int .i64 a3).wf = true → ∃ k, laws_FnExactUseFresh.f k a0_0 a0_1 a1_0 a1_1 a1_2 a2 a3 = some true := by
  intro a b v c d n o _ _ _ _ _ _ _
  exact ⟨1, by simp [laws_FnExactUseFresh.f, toSpan_eq, toStamped_eq, sUse_eq, iUse_eq]⟩

end Go.Proofs.Ytkpaglomidgilaa.Pure
