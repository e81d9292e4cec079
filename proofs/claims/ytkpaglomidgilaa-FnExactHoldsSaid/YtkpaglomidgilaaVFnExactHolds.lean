/- The pure statement of the law FnExactHolds: what the printed function comes to is true. No condition beyond the numbers being int64. -/
import Derived.Test.YtkpaglomidgilaaPFnExactHoldsx1
import Derived.OpenShut
namespace Go.Proofs.Ytkpaglomidgilaa.Pure
open Go.RowKit Go.Proofs.Ytkpaglomidgilaa.PFnExactHolds Go.Proofs.YtkpaglomidgilaaW.PrintWords Go.Proofs.YtkpaglomidgilaaW.PrintLast
set_option linter.unusedVariables false
set_option linter.unusedSimpArgs false
--BLOCKS
theorem wf_b {z : Int} (h : (Lit.int .i64 z).wf = true) : -9223372036854775808 ≤ z ∧ z ≤ 9223372036854775807 := bounds_i64 h
theorem wrap_id {z : Int} (h1 : -9223372036854775808 ≤ z) (h2 : z ≤ 9223372036854775807) : wrap64 z = z := by unfold wrap64; omega
theorem mn_min (a b : Int) : mn a b = min a b := by unfold mn; omega
theorem mx_max (a b : Int) : mx a b = max a b := by unfold mx; omega
theorem in_eq (x lo hi : Int) : spec_l01In.f x lo hi = some (decide (lo ≤ x ∧ x ≤ hi)) := by
  unfold spec_l01In.f; split <;> simp_all <;> omega
theorem within_eq (x lo hi : Int) : impl_within.f x lo hi = some (decide (lo ≤ x ∧ x ≤ hi)) := by
  unfold impl_within.f; split <;> simp_all <;> omega
theorem sSpan_eq (a b : Int) : spec_SpanOk.f a b = some (decide (0 ≤ a ∧ a ≤ b ∧ b ≤ 1000000)) := by
  unfold spec_SpanOk.f; split <;> (try split) <;> simp_all <;> omega
theorem iSpan_eq (a b : Int) : impl_SpanOk.f a b = some (decide (0 ≤ a ∧ a ≤ b ∧ b ≤ 1000000)) := by
  unfold impl_SpanOk.f; split <;> (try split) <;> simp_all <;> omega
theorem toSpan_eq (a b : Int) : laws_toSpan.f a b = some (a, b) := rfl
theorem sHolds_eq (a b c : Int) : spec_Holds.f a b c = some (decide ((0 ≤ a ∧ a ≤ b ∧ b ≤ 1000000) ∧ (a ≤ c ∧ c ≤ b))) := by
  simp only [spec_Holds.f, sSpan_eq, in_eq, Option.bind_some]
  split <;> simp_all <;> omega
theorem iHolds_eq (a b c : Int) : impl_Holds.f a b c = some (decide ((0 ≤ a ∧ a ≤ b ∧ b ≤ 1000000) ∧ (a ≤ c ∧ c ≤ b))) := by
  simp only [impl_Holds.f, iSpan_eq, within_eq, Option.bind_some]
  split <;> simp_all <;> omega

theorem FnExactHolds : ∀ (a0_0 a0_1 a1 : Int), (Lit.int .i64 a0_0).wf = true → (Lit.int .i64 a0_1).wf = true → (Lit.int .i64 a1).wf = true → laws_FnExactHolds.f a0_0 a0_1 a1 = some true := by
  intro a b c _ _ _
  simp [laws_FnExactHolds.f, toSpan_eq, sHolds_eq, iHolds_eq]

end Go.Proofs.Ytkpaglomidgilaa.Pure
