/- The pure statement of the law FnExactPassOff: what the printed function comes to is true. No condition beyond the numbers being int64. -/
import Derived.Test.YtkpaglomidgilaaPFnExactPassOffx1
import Derived.OpenShut
namespace Go.Proofs.Ytkpaglomidgilaa.Pure
open Go.RowKit Go.Proofs.Ytkpaglomidgilaa.PFnExactPassOff Go.Proofs.YtkpaglomidgilaaW.PrintWords Go.Proofs.YtkpaglomidgilaaW.PrintLast
set_option linter.unusedVariables false
set_option linter.unusedSimpArgs false
--BLOCKS
theorem wf_b {z : Int} (h : (Lit.int .i64 z).wf = true) : -9223372036854775808 ≤ z ∧ z ≤ 9223372036854775807 := bounds_i64 h
theorem wrap_id {z : Int} (h1 : -9223372036854775808 ≤ z) (h2 : z ≤ 9223372036854775807) : wrap64 z = z := by unfold wrap64; omega
theorem mn_min (a b : Int) : mn a b = min a b := by unfold mn; omega
theorem mx_max (a b : Int) : mx a b = max a b := by unfold mx; omega
theorem in_eq (x lo hi : Int) : spec_l01In.f x lo hi = some (decide (lo ≤ x ∧ x ≤ hi)) := by
  unfold spec_l01In.f; split <;> simp_all <;> omega
theorem sSpan_eq (a b : Int) : spec_SpanOk.f a b = some (decide (0 ≤ a ∧ a ≤ b ∧ b ≤ 1000000)) := by
  unfold spec_SpanOk.f; split <;> (try split) <;> simp_all <;> omega
theorem iSpan_eq (a b : Int) : impl_SpanOk.f a b = some (decide (0 ≤ a ∧ a ≤ b ∧ b ≤ 1000000)) := by
  unfold impl_SpanOk.f; split <;> (try split) <;> simp_all <;> omega
theorem toSpan_eq (a b : Int) : laws_toSpan.f a b = some (a, b) := rfl
theorem eqSpan_eq (a b c d : Int) : laws_eqSpan.f a b c d = some (decide (a = c ∧ b = d)) := by
  unfold laws_eqSpan.f; split <;> (try split) <;> simp_all <;> omega
/-- Both bounds moved on. -/
def offM (a b lo hi : Int) : Int × Int := if (0 ≤ a ∧ a ≤ b ∧ b ≤ 1000000) ∧ (0 ≤ lo ∧ lo ≤ hi ∧ hi ≤ 1000000) then (min 1000000 (a + lo), min 1000000 (b + hi)) else (a, b)
theorem iPassOff_eq (a b lo hi : Int) : impl_PassOff.f a b lo hi = some (offM a b lo hi) := by
  unfold offM
  simp only [impl_PassOff.f, iSpan_eq, Option.bind_some, mn_min]
  by_cases h1 : 0 ≤ a ∧ a ≤ b ∧ b ≤ 1000000
  · by_cases h2 : 0 ≤ lo ∧ lo ≤ hi ∧ hi ≤ 1000000
    · rw [wrap_id (z := a + lo) (by omega) (by omega), wrap_id (z := b + hi) (by omega) (by omega)]
      simp [h1, h2]
    · simp [h1, h2]
  · simp [h1]
theorem sPassOff_eq (a b lo hi : Int) : spec_PassOff.f a b lo hi = some (offM a b lo hi) := by
  unfold offM
  simp only [spec_PassOff.f, spec_l28Add.f, sSpan_eq, in_eq, Option.bind_some, mn_min]
  by_cases h1 : 0 ≤ a ∧ a ≤ b ∧ b ≤ 1000000
  · by_cases h2 : 0 ≤ lo ∧ lo ≤ hi ∧ hi ≤ 1000000
    · have h3 : 0 ≤ hi ∧ hi ≤ 1000000 := by omega
      have h4 : 0 ≤ lo ∧ lo ≤ hi := by omega
      rw [wrap_id (z := a + lo) (by omega) (by omega), wrap_id (z := b + hi) (by omega) (by omega)]
      rw [if_pos (decide_eq_true h1), if_pos (decide_eq_true h3), if_pos (decide_eq_true h4), if_pos ⟨h1, h2⟩]
    · rw [if_pos (decide_eq_true h1), if_neg (c := _ ∧ _) (fun h => h2 h.2)]
      by_cases h3 : 0 ≤ hi ∧ hi ≤ 1000000
      · rw [if_pos (decide_eq_true h3), if_neg (by simp only [decide_eq_true_eq]; omega)]
      · rw [if_neg (by simpa using h3)]
  · rw [if_neg (by simpa using h1), if_neg (fun h => h1 h.1)]

theorem FnExactPassOff : ∀ (a0_0 a0_1 a1 a2 : Int), (Lit.int .i64 a0_0).wf = true → (Lit.int .i64 a0_1).wf = true → (Lit.int .i64 a1).wf = true → (Lit.int .i64 a2).wf = true → laws_FnExactPassOff.f a0_0 a0_1 a1 a2 = some true := by
  intro a b c d _ _ _ _
  simp [laws_FnExactPassOff.f, toSpan_eq, sPassOff_eq, iPassOff_eq, eqSpan_eq]

end Go.Proofs.Ytkpaglomidgilaa.Pure
