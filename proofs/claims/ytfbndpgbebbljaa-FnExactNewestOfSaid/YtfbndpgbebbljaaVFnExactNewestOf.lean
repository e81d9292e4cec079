/- The pure statement of the law FnExactNewestOf: what the printed function comes to is true. No condition beyond what every argument of these types meets. -/
import Derived.Test.YtfbndpgbebbljaaQFnExactNewestOf2
import Derived.OpenShut
namespace Go.Proofs.Ytfbndpgbebbljaa.Pure
open Go.RowKit Go.Proofs.Ytfbndpgbebbljaa.QFnExactNewestOf Go.Proofs.YtfbndpgbebbljaaW.PrintWords Go.Proofs.YtfbndpgbebbljaaW.PrintLast Go.Proofs.YtfbndpgbebbljaaW.PrintMore
set_option linter.unusedVariables false
set_option linter.unusedSimpArgs false
--BLOCKS
theorem wf_b {z : Int} (h : (Lit.int .i64 z).wf = true) : -9223372036854775808 ≤ z ∧ z ≤ 9223372036854775807 := bounds_i64 h
theorem wrap_id {z : Int} (h1 : -9223372036854775808 ≤ z) (h2 : z ≤ 9223372036854775807) : wrap64 z = z := by unfold wrap64; omega
theorem mn_min (a b : Int) : mn a b = min a b := by unfold mn; omega
theorem mx_max (a b : Int) : mx a b = max a b := by unfold mx; omega
theorem sSpan_eq (a b : Int) : spec_SpanOk.f a b = some (decide (0 ≤ a ∧ a ≤ b ∧ b ≤ 1000000)) := by
  unfold spec_SpanOk.f; split <;> (try split) <;> simp_all <;> omega
theorem iSpan_eq (a b : Int) : impl_SpanOk.f a b = some (decide (0 ≤ a ∧ a ≤ b ∧ b ≤ 1000000)) := by
  unfold impl_SpanOk.f; split <;> (try split) <;> simp_all <;> omega
theorem toSpan_eq (a b : Int) : laws_toSpan.f a b = some (a, b) := rfl
theorem toStamped_eq (a b c : Int) : laws_toStamped.f a b c = some (a, b, c) := rfl
theorem eqSpan_eq (a b c d : Int) : laws_eqSpan.f a b c d = some (decide (a = c ∧ b = d)) := by
  unfold laws_eqSpan.f; split <;> (try split) <;> simp_all <;> omega
theorem rd_mid (pre : List Int) (a : Int) (suf : List Int) : rd (pre ++ a :: suf) (pre.length : Int) = a := by simp [rd]
theorem len_mid {α : Type} (pre : List α) (a : α) (suf : List α) : (pre ++ a :: suf).length = (pre ++ [a]).length + suf.length := by simp; omega
theorem app_mid {α : Type} (pre : List α) (a : α) (suf : List α) : pre ++ a :: suf = (pre ++ [a]) ++ suf := by simp
theorem wrap_len {α : Type} {pre : List α} {a : α} (h : pre.length < 9223372036854775807) : wrap64 ((pre.length : Int) + 1) = ((pre ++ [a]).length : Int) := by
  rw [wrap_id (by omega) (by omega)]; simp
theorem pred {d k : Nat} (h : d < k) : ∃ j, k = j + 1 := ⟨k - 1, by omega⟩
def cvStamped (x : S109) : S104 := ⟨x.f0, ⟨x.f1.f0, x.f1.f1⟩⟩
theorem rdA_Stamped (pre : List S109) (a : S109) (suf : List S109) : rd_T109 (pre ++ a :: suf) (pre.length : Int) = a := by simp [rd_T109]
theorem toStamped_loop : ∀ (suf pre : List S109) (rep : List S104) (k : Nat), suf.length < k → rep.length = suf.length → (pre ++ suf).length < 9223372036854775807 → laws_toStampedS.l0 k (pre ++ suf) (pre.map cvStamped ++ rep) (pre.length : Int) = some ((pre ++ suf).map cvStamped)
  | [], pre, rep, k, hk, hr, hb => by
    obtain ⟨k, rfl⟩ := pred hk
    obtain rfl : rep = [] := List.length_eq_zero_iff.1 hr
    simp only [laws_toStampedS.l0]
    rw [if_neg (by simp)]; simp
  | a :: suf, pre, r :: rep, k, hk, hr, hb => by
    obtain ⟨k, rfl⟩ := pred hk
    have hl : (pre ++ a :: suf).length = pre.length + suf.length + 1 := by simp; omega
    have hl2 : (pre.map cvStamped ++ r :: rep).length = pre.length + rep.length + 1 := by simp; omega
    have ih := toStamped_loop suf (pre ++ [a]) rep k (by simpa using hk) (by simpa using hr) (by simpa using hb)
    simp only [laws_toStampedS.l0]
    rw [if_pos (by omega), if_pos (by omega), rdA_Stamped]
    simp only [laws_toStamped.f, laws_toSpan.f, Option.bind_some]
    rw [if_pos (by omega), wrap_len (a := a) (by omega), Int.toNat_natCast]
    have e : (pre.map cvStamped ++ r :: rep).set pre.length (cvStamped a) = (pre ++ [a]).map cvStamped ++ rep := by
      rw [List.set_append_right _ _ (by simp)]; simp
    have e2 : (pre.map cvStamped ++ r :: rep).set pre.length (⟨a.f0, ⟨a.f1.f0, a.f1.f1⟩⟩ : S104) = (pre ++ [a]).map cvStamped ++ rep := e
    rw [e2]
    simpa using ih
  | _ :: _, _, [], _, _, hr, _ => by simp at hr
theorem toStampedS_eq (l : List S109) (hl : l.length ≤ 1048576) {k : Nat} (hk : l.length < k) : laws_toStampedS.f k l = some (l.map cvStamped) := by
  unfold laws_toStampedS.f
  rw [if_pos (by omega), if_pos (by omega), Int.toNat_natCast]
  have := toStamped_loop l [] (List.replicate l.length z104) k hk (by simp) (by simp; omega)
  simpa using this
theorem szStampedS_ev (l : List S109) (a : Int) (hl : l.length ≤ maxLen) (ha : 0 ≤ a ∧ a ≤ 1048576) : (laws_szStampedS.f l a = some (-1)) ∨ ((l.length : Int) ≤ a ∧ laws_szStampedS.f l a = some (a - l.length)) := by
  unfold laws_szStampedS.f
  unfold maxLen at hl
  rw [wrap_id (by omega) (by omega)]
  by_cases h : a - (l.length : Int) < 0
  · rw [if_pos h]; exact .inl rfl
  · rw [if_neg h]; exact .inr ⟨by omega, rfl⟩
theorem rdB_Stamped (pre : List S104) (a : S104) (suf : List S104) : rd_T104 (pre ++ a :: suf) (pre.length : Int) = a := by simp [rd_T104]
theorem eqStamped_loop : ∀ (suf pre : List S104) (k : Nat), suf.length < k → (pre ++ suf).length < 9223372036854775807 → laws_eqStampedS.l0 k (pre ++ suf) (pre ++ suf) (pre.length : Int) = some true
  | [], pre, k, hk, hb => by
    obtain ⟨k, rfl⟩ := pred hk
    simp only [laws_eqStampedS.l0]
    rw [if_neg (by simp)]
  | a :: suf, pre, k, hk, hb => by
    obtain ⟨k, rfl⟩ := pred hk
    have hl : (pre ++ a :: suf).length = pre.length + suf.length + 1 := by simp; omega
    have ih := eqStamped_loop suf (pre ++ [a]) k (by simpa using hk) (by simpa using hb)
    simp only [laws_eqStampedS.l0]
    rw [if_pos (by omega), if_pos (by omega), rdB_Stamped]
    simp only [laws_eqStamped.f, laws_eqSpan.f, Option.bind_some, if_true]
    try rw [if_pos (by omega)]
    rw [wrap_len (a := a) (by omega), app_mid]
    exact ih
theorem eqStampedS_eq (l : List S104) (hl : l.length < 9223372036854775807) {k : Nat} (hk : l.length < k) : laws_eqStampedS.f k l l = some true := by
  unfold laws_eqStampedS.f
  rw [if_pos rfl]
  have := eqStamped_loop l [] k hk (by simpa using hl)
  simpa using this
theorem spans_same (a b : Int) : impl_SpanOk.f a b = spec_SpanOk.f a b := rfl
theorem newest_same (x : List S104) : ∀ (k : Nat) (b i : Int), impl_NewestOf.l0 k x b x (x.length : Int) i = spec_NewestOf.l0 k x b i
  | 0, _, _ => rfl
  | k + 1, b, i => by
    simp only [impl_NewestOf.l0, spec_NewestOf.l0, spans_same, newest_same x k]
    by_cases h : i < (x.length : Int)
    · simp only [h, if_true]
    · simp only [h, if_false]
theorem rdN_mid (pre : List S104) (a : S104) (suf : List S104) : rd_T104 (pre ++ a :: suf) (pre.length : Int) = a := by simp [rd_T104]
theorem newest_tot : ∀ (suf pre : List S104) (k : Nat) (b : Int), suf.length < k → (pre ++ suf).length < 9223372036854775807 → (b < 0 ∨ b < pre.length) → ∃ r, spec_NewestOf.l0 k (pre ++ suf) b (pre.length : Int) = some r
  | [], pre, k, b, hk, hb, hr => by
    obtain ⟨k, rfl⟩ := pred hk
    simp only [spec_NewestOf.l0]
    rw [if_neg (by simp)]; exact ⟨_, rfl⟩
  | a :: suf, pre, k, b, hk, hb, hr => by
    obtain ⟨k, rfl⟩ := pred hk
    have hl : (pre ++ a :: suf).length = pre.length + suf.length + 1 := by simp; omega
    have hp : ((pre ++ [a]).length : Int) = pre.length + 1 := by simp
    have ih := fun c hc => newest_tot suf (pre ++ [a]) k c (by simpa using hk) (by simpa using hb) hc
    rw [← app_mid] at ih
    simp only [spec_NewestOf.l0]
    rw [if_pos (by omega), if_pos (by omega), sSpan_eq, Option.bind_some, wrap_len (a := a) (by omega)]
    have i1 := ih (pre.length : Int) (by omega)
    have i2 := ih b (by omega)
    split
    · split
      · exact i1
      · rename_i hb0
        rw [if_pos (by omega), if_pos (by omega)]
        split
        · exact i1
        · split
          · split
            · exact i1
            · exact i2
          · exact i2
    · exact ⟨_, rfl⟩

theorem FnExactNewestOf : ∀ (l0 : List S109), (l0.length ≤ maxLen ∧ ∀ x ∈ l0, ((Lit.int .i64 x.f0).wf = true) ∧ (((Lit.int .i64 x.f1.f0).wf = true) ∧ ((Lit.int .i64 x.f1.f1).wf = true))) → ∃ k, laws_FnExactNewestOf.f k l0 = some true := by
  intro l hl
  refine ⟨l.length + 1, ?_⟩
  unfold laws_FnExactNewestOf.f
  rcases szStampedS_ev l 1048576 hl.1 (by omega) with h | ⟨h1, h2⟩
  · rw [h, Option.bind_some, if_pos (by omega)]
  have hm : (l.map cvStamped).length = l.length := by simp
  obtain ⟨r, hr⟩ := newest_tot (l.map cvStamped) [] (l.length + 1) (-1) (by omega) (by simp; omega) (by simp)
  have hr : spec_NewestOf.l0 (l.length + 1) (l.map cvStamped) (-1) 0 = some r := hr
  rw [h2, Option.bind_some, if_neg (by omega), toStampedS_eq l (by omega) (by omega), Option.bind_some]
  unfold spec_NewestOf.f impl_NewestOf.f
  rw [hr, Option.bind_some, Option.bind_some, newest_same, hr, Option.bind_some, if_pos rfl, Option.bind_some, eqStampedS_eq _ (by omega) (by omega)]
  rfl

end Go.Proofs.Ytfbndpgbebbljaa.Pure
