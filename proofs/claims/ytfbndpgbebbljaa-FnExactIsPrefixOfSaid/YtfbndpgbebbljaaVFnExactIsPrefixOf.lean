/- The pure statement of the law FnExactIsPrefixOf: what the printed function comes to is true for every list of bytes. No condition beyond the row's own bounds. -/
import Derived.Test.YtfbndpgbebbljaaQFnExactIsPrefixOf1
import Derived.OpenShut
namespace Go.Proofs.Ytfbndpgbebbljaa.Pure
open Go.RowKit Go.Proofs.Ytfbndpgbebbljaa.QFnExactIsPrefixOf Go.Proofs.YtfbndpgbebbljaaW.PrintWords Go.Proofs.YtfbndpgbebbljaaW.PrintLast Go.Proofs.YtfbndpgbebbljaaW.PrintMore
set_option linter.unusedVariables false
set_option linter.unusedSimpArgs false
--BLOCKS
theorem wf_b {z : Int} (h : (Lit.int .i64 z).wf = true) : -9223372036854775808 ≤ z ∧ z ≤ 9223372036854775807 := bounds_i64 h
theorem wrap_id {z : Int} (h1 : -9223372036854775808 ≤ z) (h2 : z ≤ 9223372036854775807) : wrap64 z = z := by unfold wrap64; omega
theorem mn_min (a b : Int) : mn a b = min a b := by unfold mn; omega
theorem mx_max (a b : Int) : mx a b = max a b := by unfold mx; omega
theorem rd_mid (pre : List Int) (a : Int) (suf : List Int) : rd (pre ++ a :: suf) (pre.length : Int) = a := by simp [rd]
theorem len_mid {α : Type} (pre : List α) (a : α) (suf : List α) : (pre ++ a :: suf).length = (pre ++ [a]).length + suf.length := by simp; omega
theorem app_mid {α : Type} (pre : List α) (a : α) (suf : List α) : pre ++ a :: suf = (pre ++ [a]) ++ suf := by simp
theorem wrap_len {α : Type} {pre : List α} {a : α} (h : pre.length < 9223372036854775807) : wrap64 ((pre.length : Int) + 1) = ((pre ++ [a]).length : Int) := by
  rw [wrap_id (by omega) (by omega)]; simp
theorem pred {d k : Nat} (h : d < k) : ∃ j, k = j + 1 := ⟨k - 1, by omega⟩
theorem toInt_loop : ∀ (suf pre rep : List Int) (k : Nat), suf.length < k → rep.length = suf.length → (pre ++ suf).length < 9223372036854775807 → laws_toIntS.l0 k (pre ++ suf) (pre ++ rep) (pre.length : Int) = some (pre ++ suf)
  | [], pre, rep, k, hk, hr, hb => by
    obtain ⟨k, rfl⟩ := pred hk
    obtain rfl : rep = [] := List.length_eq_zero_iff.1 hr
    simp only [laws_toIntS.l0]
    rw [if_neg (by simp)]
  | a :: suf, pre, r :: rep, k, hk, hr, hb => by
    obtain ⟨k, rfl⟩ := pred hk
    have hl : (pre ++ a :: suf).length = pre.length + suf.length + 1 := by simp; omega
    have hl2 : (pre ++ r :: rep).length = pre.length + rep.length + 1 := by simp; omega
    have ih := toInt_loop suf (pre ++ [a]) rep k (by simpa using hk) (by simpa using hr) (by simpa using hb)
    simp only [laws_toIntS.l0]
    rw [if_pos (by omega), if_pos (by omega), if_pos (by omega), rd_mid, wrap_len (a := a) (by omega), Int.toNat_natCast]
    have e : (pre ++ r :: rep).set pre.length a = (pre ++ [a]) ++ rep := by simp
    rw [e]
    simpa using ih
  | _ :: _, _, [], _, _, hr, _ => by simp at hr
theorem toInt_eq (l : List Int) (hl : l.length ≤ 1048576) {k : Nat} (hk : l.length < k) : laws_toIntS.f k l = some l := by
  unfold laws_toIntS.f
  rw [if_pos (by omega), if_pos (by omega), Int.toNat_natCast]
  have := toInt_loop l [] (List.replicate l.length 0) k hk (by simp) (by simp; omega)
  simpa using this
theorem eqInt_loop : ∀ (s1 s2 pre : List Int) (k : Nat), s1.length < k → s2.length = s1.length → (pre ++ s1).length < 9223372036854775807 → laws_eqIntS.l0 k (pre ++ s1) (pre ++ s2) (pre.length : Int) = some (decide (s1 = s2))
  | [], s2, pre, k, hk, hr, hb => by
    obtain ⟨k, rfl⟩ := pred hk
    obtain rfl : s2 = [] := List.length_eq_zero_iff.1 hr
    simp only [laws_eqIntS.l0]
    rw [if_neg (by simp)]; simp
  | a :: s1, b :: s2, pre, k, hk, hr, hb => by
    obtain ⟨k, rfl⟩ := pred hk
    have hl : (pre ++ a :: s1).length = pre.length + s1.length + 1 := by simp; omega
    have hl2 : (pre ++ b :: s2).length = pre.length + s2.length + 1 := by simp; omega
    simp only [laws_eqIntS.l0]
    rw [if_pos (by omega), if_pos (by omega), if_pos (by omega), rd_mid, rd_mid]
    by_cases hab : a = b
    · subst hab
      have ih := eqInt_loop s1 s2 (pre ++ [a]) k (by simpa using hk) (by simpa using hr) (by simpa using hb)
      rw [if_pos rfl, wrap_len (a := a) (by omega), app_mid, app_mid pre a s2, ih]
      simp
    · rw [if_neg hab]; simp [hab]
  | _ :: _, [], _, _, _, hr, _ => by simp at hr
theorem eqInt_eq (l m : List Int) (hl : l.length < 9223372036854775807) {k : Nat} (hk : l.length < k) : laws_eqIntS.f k l m = some (decide (l = m)) := by
  unfold laws_eqIntS.f
  by_cases h : l.length = m.length
  · rw [if_pos (by omega)]
    have := eqInt_loop l m [] k hk h.symm (by simpa using hl)
    simpa using this
  · rw [if_neg (by omega), decide_eq_false (fun e => h (by rw [e]))]
theorem equal_loop : ∀ (s1 s2 pre : List Int) (k : Nat), s1.length < k → s2.length = s1.length → (pre ++ s1).length < 9223372036854775807 → slices_Equal_int_int.l0 k (pre ++ s1) (pre ++ s2) ((pre ++ s1).length : Int) (pre.length : Int) = some (decide (s1 = s2))
  | [], s2, pre, k, hk, hr, hb => by
    obtain ⟨k, rfl⟩ := pred hk
    obtain rfl : s2 = [] := List.length_eq_zero_iff.1 hr
    simp only [slices_Equal_int_int.l0]
    rw [if_neg (by simp)]; simp
  | a :: s1, b :: s2, pre, k, hk, hr, hb => by
    obtain ⟨k, rfl⟩ := pred hk
    have hl : (pre ++ a :: s1).length = pre.length + s1.length + 1 := by simp; omega
    have hl2 : (pre ++ b :: s2).length = pre.length + s2.length + 1 := by simp; omega
    simp only [slices_Equal_int_int.l0]
    rw [if_pos (by omega), if_pos (by omega), if_pos (by omega), if_pos (by simp at hr; omega), rd_mid, rd_mid]
    by_cases hab : a = b
    · subst hab
      have ih := equal_loop s1 s2 (pre ++ [a]) k (by simpa using hk) (by simpa using hr) (by simpa using hb)
      rw [if_pos rfl, wrap_len (a := a) (by omega), app_mid, app_mid pre a s2, ih]
      simp
    · rw [if_neg hab]; simp [hab]
  | _ :: _, [], _, _, _, hr, _ => by simp at hr
theorem equal_eq (l m : List Int) (hl : l.length < 9223372036854775807) {k : Nat} (hk : l.length < k) : slices_Equal_int_int.f k l m = some (decide (l = m)) := by
  unfold slices_Equal_int_int.f
  by_cases h : l.length = m.length
  · rw [if_pos (by omega)]
    have := equal_loop l m [] k hk h.symm (by simpa using hl)
    simpa using this
  · rw [if_neg (by omega), decide_eq_false (fun e => h (by rw [e]))]
theorem iPrefix_eq (l m : List Int) (hl : l.length < 9223372036854775807) {k : Nat} (hk : l.length < k) : impl_IsPrefixOf.f k l m = some (decide (l <+: m)) := by
  unfold impl_IsPrefixOf.f
  by_cases h : l.length ≤ m.length
  · rw [if_pos (by omega), if_pos (by omega), equal_eq l _ hl hk, Option.bind_some]
    congr 1
    rw [Bool.eq_iff_iff]
    simp only [decide_eq_true_eq]
    rw [Int.toNat_natCast, List.prefix_iff_eq_take]
  · rw [if_neg (by omega), decide_eq_false (fun e => h e.length_le)]
theorem sPrefix_loop : ∀ (s1 s2 pre : List Int) (k : Nat), s1.length < k → (pre ++ s1).length < 9223372036854775807 → spec_IsPrefixOf.l0 k (pre ++ s1) (pre ++ s2) (pre.length : Int) = some (decide (s1 <+: s2))
  | [], s2, pre, k, hk, hb => by
    obtain ⟨k, rfl⟩ := pred hk
    simp only [spec_IsPrefixOf.l0]
    rw [if_neg (by simp)]; simp
  | a :: s1, [], pre, k, hk, hb => by
    obtain ⟨k, rfl⟩ := pred hk
    simp only [spec_IsPrefixOf.l0]
    rw [if_pos (by simp; omega), if_pos (by simp)]; simp
  | a :: s1, b :: s2, pre, k, hk, hb => by
    obtain ⟨k, rfl⟩ := pred hk
    have hl : (pre ++ a :: s1).length = pre.length + s1.length + 1 := by simp; omega
    have hl2 : (pre ++ b :: s2).length = pre.length + s2.length + 1 := by simp; omega
    simp only [spec_IsPrefixOf.l0]
    rw [if_pos (by omega), if_neg (by omega), if_pos (by omega), if_pos (by omega), rd_mid, rd_mid]
    by_cases hab : a = b
    · subst hab
      have ih := sPrefix_loop s1 s2 (pre ++ [a]) k (by simpa using hk) (by simpa using hb)
      rw [if_pos rfl, wrap_len (a := a) (by omega), app_mid, app_mid pre a s2, ih]
      simp
    · rw [if_neg hab]; simp [List.cons_prefix_cons, hab]
theorem sPrefix_eq (l m : List Int) (hl : l.length < 9223372036854775807) {k : Nat} (hk : l.length < k) : spec_IsPrefixOf.f k l m = some (decide (l <+: m)) := by
  have := sPrefix_loop l m [] k hk (by simpa using hl)
  simpa [spec_IsPrefixOf.f] using this

theorem FnExactIsPrefixOf : laws_FnExactIsPrefixOf.Pure := by
  intro l m _ _ _ _ _ _
  refine ⟨l.length + m.length + 1, ?_⟩
  unfold laws_FnExactIsPrefixOf.f
  by_cases h1 : (l.length : Int) > 1048576
  · rw [if_pos h1]
  by_cases h2 : (m.length : Int) > 1048576
  · rw [if_neg h1, if_pos h2]
  rw [if_neg h1, if_neg h2]
  simp only [toInt_eq l (by omega) (k := l.length + m.length + 1) (by omega), toInt_eq m (by omega) (k := l.length + m.length + 1) (by omega), Option.bind_some, sPrefix_eq l m (by omega) (k := l.length + m.length + 1) (by omega), iPrefix_eq l m (by omega) (k := l.length + m.length + 1) (by omega),
    eqInt_eq l l (by omega) (k := l.length + m.length + 1) (by omega), eqInt_eq m m (by omega) (k := l.length + m.length + 1) (by omega)]
  simp

end Go.Proofs.Ytfbndpgbebbljaa.Pure
