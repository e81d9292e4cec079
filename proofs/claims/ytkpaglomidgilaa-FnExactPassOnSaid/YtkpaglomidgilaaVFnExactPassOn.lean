/- The pure statement of the law FnExactPassOn: what the printed function comes to is true. No condition beyond the numbers being int64. -/
import Derived.Test.YtkpaglomidgilaaPFnExactPassOnx1
import Derived.OpenShut
namespace Go.Proofs.Ytkpaglomidgilaa.Pure
open Go.RowKit Go.Proofs.Ytkpaglomidgilaa.PFnExactPassOn Go.Proofs.YtkpaglomidgilaaW.PrintWords Go.Proofs.YtkpaglomidgilaaW.PrintLast
set_option linter.unusedVariables false
set_option linter.unusedSimpArgs false
--BLOCKS
theorem wf_b {z : Int} (h : (Lit.int .i64 z).wf = true) : -9223372036854775808 ≤ z ∧ z ≤ 9223372036854775807 := bounds_i64 h
theorem wrap_id {z : Int} (h1 : -9223372036854775808 ≤ z) (h2 : z ≤ 9223372036854775807) : wrap64 z = z := by unfold wrap64; omega
theorem mn_min (a b : Int) : mn a b = min a b := by unfold mn; omega
theorem mx_max (a b : Int) : mx a b = max a b := by unfold mx; omega
theorem in_eq (x lo hi : Int) : spec_l01In.f x lo hi = some (decide (lo ≤ x ∧ x ≤ hi)) := by
  unfold spec_l01In.f; split <;> simp_all <;> omega
theorem sSpan_eq (a b : Int) : spec_SpanOk.f a b = some (decide (0 ≤ a ∧ a ≤ b ∧ b ≤ 1000000)) := by
  unfold spec_SpanOk.f; split <;> (try split) <;> simp_all <;> omega
theorem iSpan_eq (a b : Int) : impl_SpanOk.f a b = some (decide (0 ≤ a ∧ a ≤ b ∧ b ≤ 1000000)) := by
  unfold impl_SpanOk.f; split <;> (try split) <;> simp_all <;> omega
theorem toSpan_eq (a b : Int) : laws_toSpan.f a b = some (a, b) := rfl
theorem eqSpan_eq (a b c d : Int) : laws_eqSpan.f a b c d = some (decide (a = c ∧ b = d)) := by
  unfold laws_eqSpan.f; split <;> (try split) <;> simp_all <;> omega
/-- Both bounds moved on. -/
def offM (a b lo hi : Int) : Int × Int := if (0 ≤ a ∧ a ≤ b ∧ b ≤ 1000000) ∧ (0 ≤ lo ∧ lo ≤ hi ∧ hi ≤ 1000000) then (min 1000000 (a + lo), min 1000000 (b + hi)) else (a, b)
theorem iPassOff_eq (a b lo hi : Int) : impl_PassOff.f a b lo hi = some (offM a b lo hi) := by
  unfold offM
  simp only [impl_PassOff.f, iSpan_eq, Option.bind_some, mn_min]
  by_cases h1 : 0 ≤ a ∧ a ≤ b ∧ b ≤ 1000000
  · by_cases h2 : 0 ≤ lo ∧ lo ≤ hi ∧ hi ≤ 1000000
    · rw [wrap_id (z := a + lo) (by omega) (by omega), wrap_id (z := b + hi) (by omega) (by omega)]
      simp [h1, h2]
    · simp [h1, h2]
  · simp [h1]
theorem iPassOn_eq (a b n : Int) : impl_PassOn.f a b n = some (offM a b n n) := by
  simp only [impl_PassOn.f, iPassOff_eq, Option.bind_some]
theorem sPassOn_eq (a b n : Int) : spec_PassOn.f a b n = some (offM a b n n) := by
  unfold offM
  simp only [spec_PassOn.f, spec_l28Add.f, sSpan_eq, in_eq, Option.bind_some, mn_min]
  by_cases h1 : 0 ≤ a ∧ a ≤ b ∧ b ≤ 1000000
  · by_cases h2 : 0 ≤ n ∧ n ≤ 1000000
    · rw [wrap_id (z := a + n) (by omega) (by omega), wrap_id (z := b + n) (by omega) (by omega)]
      rw [if_pos (decide_eq_true h1), if_pos (decide_eq_true h2), if_pos ⟨h1, by omega⟩]
    · rw [if_pos (decide_eq_true h1), if_neg (by simpa using h2), if_neg (fun h => h2 (by omega))]
  · rw [if_neg (by simpa using h1), if_neg (fun h => h1 h.1)]

theorem FnExactPassOn : ∀ (a0_0 a0_1 a1 : Int), (Lit.int .i64 a0_0).wf = true → (Lit.int .i64 a0_1).wf = true → (Lit.int .i64 a1).wf = true → laws_FnExactPassOn.f a0_0 a0_1 a1 = some true := by
  intro a b c _ _ _
  simp [laws_FnExactPassOn.f, toSpan_eq, sPassOn_eq, iPassOn_eq, eqSpan_eq]

end Go.Proofs.Ytkpaglomidgilaa.Pure
