/- The pure statement of the law FnExactSynchronize: what the printed function comes to is true. No condition beyond the numbers being int64. -/
import Derived.Test.YtkpaglomidgilaaQFnExactSynchronize2
import Derived.OpenShut
namespace Go.Proofs.Ytkpaglomidgilaa.Pure
open Go.RowKit Go.Proofs.Ytkpaglomidgilaa.QFnExactSynchronize Go.Proofs.YtkpaglomidgilaaW.PrintWords Go.Proofs.YtkpaglomidgilaaW.PrintLast
set_option linter.unusedVariables false
set_option linter.unusedSimpArgs false
--BLOCKS
theorem wf_b {z : Int} (h : (Lit.int .i64 z).wf = true) : -9223372036854775808 ≤ z ∧ z ≤ 9223372036854775807 := bounds_i64 h
theorem wrap_id {z : Int} (h1 : -9223372036854775808 ≤ z) (h2 : z ≤ 9223372036854775807) : wrap64 z = z := by unfold wrap64; omega
theorem mn_min (a b : Int) : mn a b = min a b := by unfold mn; omega
theorem mx_max (a b : Int) : mx a b = max a b := by unfold mx; omega
theorem sSpan_eq (a b : Int) : spec_SpanOk.f a b = some (decide (0 ≤ a ∧ a ≤ b ∧ b ≤ 1000000)) := by
  unfold spec_SpanOk.f; split <;> (try split) <;> simp_all <;> omega
theorem iSpan_eq (a b : Int) : impl_SpanOk.f a b = some (decide (0 ≤ a ∧ a ≤ b ∧ b ≤ 1000000)) := by
  unfold impl_SpanOk.f; split <;> (try split) <;> simp_all <;> omega
theorem toSpan_eq (a b : Int) : laws_toSpan.f a b = some (a, b) := rfl
theorem eqSpan_eq (a b c d : Int) : laws_eqSpan.f a b c d = some (decide (a = c ∧ b = d)) := by
  unfold laws_eqSpan.f; split <;> (try split) <;> simp_all <;> omega
/-- The times that lie in both spans. -/
def syncM (a b c d : Int) : Int × Int × Bool := if (0 ≤ a ∧ a ≤ b ∧ b ≤ 1000000) ∧ (0 ≤ c ∧ c ≤ d ∧ d ≤ 1000000) ∧ max a c ≤ min b d then (max a c, min b d, true) else (a, b, false)
theorem iSync_eq (a b c d : Int) : impl_Synchronize.f a b c d = some (syncM a b c d) := by
  unfold syncM
  simp only [impl_Synchronize.f, iSpan_eq, Option.bind_some, mn_min, mx_max]
  by_cases h1 : 0 ≤ a ∧ a ≤ b ∧ b ≤ 1000000
  · rw [if_pos (decide_eq_true h1)]
    by_cases h2 : 0 ≤ c ∧ c ≤ d ∧ d ≤ 1000000
    · rw [if_pos (decide_eq_true h2)]
      by_cases h3 : max a c ≤ min b d
      · rw [if_pos (decide_eq_true (by omega)), if_pos ⟨h1, h2, h3⟩]
      · rw [if_neg (by simp only [decide_eq_true_eq]; omega), if_neg (fun h => h3 h.2.2)]
    · rw [if_neg (by simpa using h2), if_neg (fun h => h2 h.2.1)]
  · rw [if_neg (by simpa using h1), if_neg (fun h => h1 h.1)]
theorem sSync_eq (a b c d : Int) : spec_Synchronize.f a b c d = some (syncM a b c d) := by
  unfold syncM
  simp only [spec_Synchronize.f, sSpan_eq, Option.bind_some, mn_min, mx_max]
  by_cases h1 : 0 ≤ a ∧ a ≤ b ∧ b ≤ 1000000
  · rw [if_pos (decide_eq_true h1)]
    by_cases h2 : 0 ≤ c ∧ c ≤ d ∧ d ≤ 1000000
    · rw [if_pos (decide_eq_true h2)]
      by_cases h3 : max a c ≤ min b d
      · rw [if_neg (by omega), if_pos ⟨h1, h2, h3⟩]
      · rw [if_pos (by omega), if_neg (fun h => h3 h.2.2)]
    · rw [if_neg (by simpa using h2), if_neg (fun h => h2 h.2.1)]
  · rw [if_neg (by simpa using h1), if_neg (fun h => h1 h.1)]

theorem FnExactSynchronize : ∀ (a0_0 a0_1 a1_0 a1_1 : Int), (Lit.int .i64 a0_0).wf = true → (Lit.int .i64 a0_1).wf = true → (Lit.int .i64 a1_0).wf = true → (Lit.int .i64 a1_1).wf = true → laws_FnExactSynchronize.f a0_0 a0_1 a1_0 a1_1 = some true := by
  intro a b c d _ _ _ _
  simp [laws_FnExactSynchronize.f, toSpan_eq, sSync_eq, iSync_eq, eqSpan_eq]

end Go.Proofs.Ytkpaglomidgilaa.Pure
