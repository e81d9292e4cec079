/- The pure statement of the law FnExactDecayOk: what the printed function comes to is true. No condition beyond the numbers being int64. -/
import Derived.Test.YtkpaglomidgilaaPFnExactDecayOkx1
import Derived.OpenShut
namespace Go.Proofs.Ytkpaglomidgilaa.Pure
open Go.RowKit Go.Proofs.Ytkpaglomidgilaa.PFnExactDecayOk Go.Proofs.YtkpaglomidgilaaW.PrintWords Go.Proofs.YtkpaglomidgilaaW.PrintLast
set_option linter.unusedVariables false
set_option linter.unusedSimpArgs false
--BLOCKS
theorem wf_b {z : Int} (h : (Lit.int .i64 z).wf = true) : -9223372036854775808 ≤ z ∧ z ≤ 9223372036854775807 := bounds_i64 h
theorem wrap_id {z : Int} (h1 : -9223372036854775808 ≤ z) (h2 : z ≤ 9223372036854775807) : wrap64 z = z := by unfold wrap64; omega
theorem mn_min (a b : Int) : mn a b = min a b := by unfold mn; omega
theorem mx_max (a b : Int) : mx a b = max a b := by unfold mx; omega
theorem in_eq (x lo hi : Int) : spec_l01In.f x lo hi = some (decide (lo ≤ x ∧ x ≤ hi)) := by
  unfold spec_l01In.f; split <;> simp_all <;> omega
theorem within_eq (x lo hi : Int) : impl_within.f x lo hi = some (decide (lo ≤ x ∧ x ≤ hi)) := by
  unfold impl_within.f; split <;> simp_all <;> omega
theorem sDecay_eq (a b c : Int) : spec_DecayOk.f a b c = some (decide ((1 ≤ a ∧ a ≤ 100000) ∧ (0 ≤ b ∧ b ≤ 999) ∧ (0 ≤ c ∧ c ≤ 1000))) := by
  simp only [spec_DecayOk.f, in_eq, Option.bind_some]
  split <;> (try split) <;> simp_all <;> omega
theorem iDecay_eq (a b c : Int) : impl_DecayOk.f a b c = some (decide ((1 ≤ a ∧ a ≤ 100000) ∧ (0 ≤ b ∧ b ≤ 999) ∧ (0 ≤ c ∧ c ≤ 1000))) := by
  simp only [impl_DecayOk.f, within_eq, Option.bind_some]
  split <;> (try split) <;> simp_all <;> omega
theorem toDecay_eq (a b c : Int) : laws_toDecay.f a b c = some (a, b, c) := rfl

theorem FnExactDecayOk : ∀ (a0_0 a0_1 a0_2 : Int), (Lit.int .i64 a0_0).wf = true → (Lit.int .i64 a0_1).wf = true → (Lit.int .i64 a0_2).wf = true → laws_FnExactDecayOk.f a0_0 a0_1 a0_2 = some true := by
  intro a b c _ _ _
  simp [laws_FnExactDecayOk.f, toDecay_eq, sDecay_eq, iDecay_eq]

end Go.Proofs.Ytkpaglomidgilaa.Pure
