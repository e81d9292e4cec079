/- The pure statement of the law FnExactUncertainty: what the printed function comes to is true. No condition beyond the numbers being int64. -/
import Derived.Test.YtkpaglomidgilaaPFnExactUncertaintyx1
import Derived.OpenShut
namespace Go.Proofs.Ytkpaglomidgilaa.Pure
open Go.RowKit Go.Proofs.Ytkpaglomidgilaa.PFnExactUncertainty Go.Proofs.YtkpaglomidgilaaW.PrintWords Go.Proofs.YtkpaglomidgilaaW.PrintLast
set_option linter.unusedVariables false
set_option linter.unusedSimpArgs false
--BLOCKS
theorem wf_b {z : Int} (h : (Lit.int .i64 z).wf = true) : -9223372036854775808 ≤ z ∧ z ≤ 9223372036854775807 := bounds_i64 h
theorem wrap_id {z : Int} (h1 : -9223372036854775808 ≤ z) (h2 : z ≤ 9223372036854775807) : wrap64 z = z := by unfold wrap64; omega
theorem mn_min (a b : Int) : mn a b = min a b := by unfold mn; omega
theorem mx_max (a b : Int) : mx a b = max a b := by unfold mx; omega
theorem sSpan_eq (a b : Int) : spec_SpanOk.f a b = some (decide (0 ≤ a ∧ a ≤ b ∧ b ≤ 1000000)) := by
  unfold spec_SpanOk.f; split <;> (try split) <;> simp_all <;> omega
theorem iSpan_eq (a b : Int) : impl_SpanOk.f a b = some (decide (0 ≤ a ∧ a ≤ b ∧ b ≤ 1000000)) := by
  unfold impl_SpanOk.f; split <;> (try split) <;> simp_all <;> omega
theorem toSpan_eq (a b : Int) : laws_toSpan.f a b = some (a, b) := rfl
theorem sUnc_eq (a b : Int) : spec_Uncertainty.f a b = some (if 0 ≤ a ∧ a ≤ b ∧ b ≤ 1000000 then b - a else -1) := by
  simp only [spec_Uncertainty.f, sSpan_eq, Option.bind_some]
  split
  · rename_i h
    have h := of_decide_eq_true h
    rw [if_pos h, wrap_id (by omega) (by omega)]
  · rename_i h
    rw [if_neg (by simpa using h)]
theorem iUnc_eq (a b : Int) : impl_Uncertainty.f a b = some (if 0 ≤ a ∧ a ≤ b ∧ b ≤ 1000000 then b - a else -1) := by
  simp only [impl_Uncertainty.f, iSpan_eq, Option.bind_some]
  split
  · rename_i h
    have h := of_decide_eq_true h
    rw [if_pos h, wrap_id (by omega) (by omega)]
  · rename_i h
    rw [if_neg (by simpa using h)]

theorem FnExactUncertainty : ∀ (a0_0 a0_1 : Int), (Lit.int .i64 a0_0).wf = true → (Lit.int .i64 a0_1).wf = true → laws_FnExactUncertainty.f a0_0 a0_1 = some true := by
  intro a b _ _
  simp [laws_FnExactUncertainty.f, toSpan_eq, sUnc_eq, iUnc_eq]

end Go.Proofs.Ytkpaglomidgilaa.Pure
