/- The pure statement of the law FnExactFreshFor: what the printed function comes to is true. No condition beyond the numbers being int64. -/
import Derived.Test.YtkpaglomidgilaaPFnExactFreshForx2
import Derived.OpenShut
namespace Go.Proofs.Ytkpaglomidgilaa.Pure
open Go.RowKit Go.Proofs.Ytkpaglomidgilaa.PFnExactFreshFor Go.Proofs.YtkpaglomidgilaaW.PrintWords Go.Proofs.YtkpaglomidgilaaW.PrintLast
set_option linter.unusedVariables false
set_option linter.unusedSimpArgs false
--BLOCKS
theorem wf_b {z : Int} (h : (Lit.int .i64 z).wf = true) : -9223372036854775808 ≤ z ∧ z ≤ 9223372036854775807 := bounds_i64 h
theorem wrap_id {z : Int} (h1 : -9223372036854775808 ≤ z) (h2 : z ≤ 9223372036854775807) : wrap64 z = z := by unfold wrap64; omega
theorem mn_min (a b : Int) : mn a b = min a b := by unfold mn; omega
theorem mx_max (a b : Int) : mx a b = max a b := by unfold mx; omega
theorem in_eq (x lo hi : Int) : spec_l01In.f x lo hi = some (decide (lo ≤ x ∧ x ≤ hi)) := by
  unfold spec_l01In.f; split <;> simp_all <;> omega
theorem within_eq (x lo hi : Int) : impl_within.f x lo hi = some (decide (lo ≤ x ∧ x ≤ hi)) := by
  unfold impl_within.f; split <;> simp_all <;> omega
theorem sSpan_eq (a b : Int) : spec_SpanOk.f a b = some (decide (0 ≤ a ∧ a ≤ b ∧ b ≤ 1000000)) := by
  unfold spec_SpanOk.f; split <;> (try split) <;> simp_all <;> omega
theorem iSpan_eq (a b : Int) : impl_SpanOk.f a b = some (decide (0 ≤ a ∧ a ≤ b ∧ b ≤ 1000000)) := by
  unfold impl_SpanOk.f; split <;> (try split) <;> simp_all <;> omega
theorem toSpan_eq (a b : Int) : laws_toSpan.f a b = some (a, b) := rfl
theorem toStamped_eq (a b c : Int) : laws_toStamped.f a b c = some (a, b, c) := rfl
theorem iTimes_eq (a b v c d n : Int) : impl_areTimes.f a b v c d n = some (decide ((0 ≤ a ∧ a ≤ b ∧ b ≤ 1000000) ∧ (0 ≤ c ∧ c ≤ d ∧ d ≤ 1000000) ∧ (0 ≤ n ∧ n ≤ 1000000))) := by
  simp only [impl_areTimes.f, impl_isTime.f, within_eq, iSpan_eq, Option.bind_some]
  split <;> (try split) <;> simp_all <;> omega
/-- For how many ticks a value stays fresh. -/
def freshForM (a b c d n : Int) : Int := if ((0 ≤ a ∧ a ≤ b ∧ b ≤ 1000000) ∧ (0 ≤ c ∧ c ≤ d ∧ d ≤ 1000000) ∧ (0 ≤ n ∧ n ≤ 1000000)) ∧ b - c ≤ n then min (n - b + c) (1000000 - b) else -1
theorem iFreshForA_eq (a b v c d n : Int) : impl_FreshFor.f a b v c d n = some (freshForM a b c d n) := by
  unfold freshForM
  simp only [impl_FreshFor.f, iTimes_eq, Option.bind_some, mn_min, mx_max]
  by_cases h : (0 ≤ a ∧ a ≤ b ∧ b ≤ 1000000) ∧ (0 ≤ c ∧ c ≤ d ∧ d ≤ 1000000) ∧ (0 ≤ n ∧ n ≤ 1000000)
  · rw [if_pos (decide_eq_true h), wrap_id (z := n + c) (by omega) (by omega), wrap_id (z := n + c - b) (by omega) (by omega), wrap_id (z := 1000000 - b) (by omega) (by omega)]
    by_cases h4 : b - c ≤ n
    · rw [if_pos ⟨h, h4⟩]; congr 1; omega
    · rw [if_neg (fun h => h4 h.2)]; congr 1; omega
  · rw [if_neg (by simpa using h), if_neg (fun g => h g.1)]
theorem sFreshS_eq (k : Nat) (a b v c d n : Int) : spec_FreshState.f (k + 1) a b v c d n = some (if (0 ≤ a ∧ a ≤ b ∧ b ≤ 1000000) ∧ (0 ≤ c ∧ c ≤ d ∧ d ≤ 1000000) ∧ (0 ≤ n ∧ n ≤ 1000000) then (if b - c ≤ n then 1 else if a - d > n then 0 else 2) else 2) := by
  simp only [spec_FreshState.f, spec_FreshState.j0, sSpan_eq, in_eq, Option.bind_some]
  by_cases h1 : 0 ≤ a ∧ a ≤ b ∧ b ≤ 1000000
  · by_cases h2 : 0 ≤ c ∧ c ≤ d ∧ d ≤ 1000000
    · by_cases h3 : 0 ≤ n ∧ n ≤ 1000000
      · simp only [decide_eq_true h1, decide_eq_true h2, decide_eq_true h3, Bool.not_true, Bool.false_eq_true, if_true, if_false]
        have hh : (0 ≤ a ∧ a ≤ b ∧ b ≤ 1000000) ∧ (0 ≤ c ∧ c ≤ d ∧ d ≤ 1000000) ∧ (0 ≤ n ∧ n ≤ 1000000) := ⟨h1, h2, h3⟩
        rw [if_pos hh, wrap_id (z := b - c) (by omega) (by omega), wrap_id (z := a - d) (by omega) (by omega)]
        split
        · rfl
        · split <;> rfl
      · simp only [decide_eq_true h1, decide_eq_true h2, decide_eq_false h3, Bool.not_false, Bool.false_eq_true, if_true, if_false]
        rw [if_neg (fun h => h3 h.2.2)]
    · simp only [decide_eq_true h1, decide_eq_false h2, Bool.not_false, Bool.false_eq_true, if_true, if_false]
      rw [if_neg (fun h => h2 h.2.1)]
  · simp only [decide_eq_false h1, Bool.not_false, Bool.false_eq_true, if_true, if_false]
    rw [if_neg (fun h => h1 h.1)]
theorem sFreshFor_eq (k : Nat) (a b v c d n : Int) : spec_FreshFor.f (k + 1) a b v c d n = some (freshForM a b c d n) := by
  unfold freshForM
  simp only [spec_FreshFor.f, sFreshS_eq, Option.bind_some, mn_min]
  by_cases h : (0 ≤ a ∧ a ≤ b ∧ b ≤ 1000000) ∧ (0 ≤ c ∧ c ≤ d ∧ d ≤ 1000000) ∧ (0 ≤ n ∧ n ≤ 1000000)
  · rw [if_pos h, wrap_id (z := n - b) (by omega) (by omega), wrap_id (z := n - b + c) (by omega) (by omega), wrap_id (z := 1000000 - b) (by omega) (by omega)]
    by_cases h4 : b - c ≤ n
    · have hh := And.intro h h4
      rw [if_pos h4, if_pos hh]; rfl
    · have hh : ¬ (((0 ≤ a ∧ a ≤ b ∧ b ≤ 1000000) ∧ (0 ≤ c ∧ c ≤ d ∧ d ≤ 1000000) ∧ (0 ≤ n ∧ n ≤ 1000000)) ∧ b - c ≤ n) := fun g => h4 g.2
      rw [if_neg h4, if_neg hh]
      by_cases h5 : a - d > n
      · rw [if_pos h5]; rfl
      · rw [if_neg h5]; rfl
  · have hh : ¬ (((0 ≤ a ∧ a ≤ b ∧ b ≤ 1000000) ∧ (0 ≤ c ∧ c ≤ d ∧ d ≤ 1000000) ∧ (0 ≤ n ∧ n ≤ 1000000)) ∧ b - c ≤ n) := fun g => h g.1
    rw [if_neg h, if_neg hh]; rfl

theorem FnExactFreshFor : ∀ (a0_0 a0_1 a1_0 a1_1 a1_2 a2 : Int), (Lit.int .i64 a0_0).wf = true → (Lit.int .i64 a0_1).wf = true → (Lit.int .i64 a1_0).wf = true → (Lit.int .i64 a1_1).wf = true → (Lit.int .i64 a1_2).wf = true → (Lit.int .i64 a2).wf = true → ∃ k, laws_FnExactFreshFor.f k a0_0 a0_1 a1_0 a1_1 a1_2 a2 = some true := by
  intro a b v c d n _ _ _ _ _ _
  exact ⟨1, by simp [laws_FnExactFreshFor.f, toSpan_eq, toStamped_eq, sFreshFor_eq, iFreshForA_eq]⟩

end Go.Proofs.Ytkpaglomidgilaa.Pure
