/- The pure statement of the law FnExactIsRestored: what the printed function comes to is true. No condition beyond what every argument of these types meets. -/
import Derived.Test.YtmifaijfogipgaaQFnExactIsRestored3
import Derived.OpenShut
namespace Go.Proofs.Ytmifaijfogipgaa.Pure
open Go.RowKit Go.Proofs.Ytmifaijfogipgaa.QFnExactIsRestored Go.Proofs.YtmifaijfogipgaaW.PrintWords Go.Proofs.YtmifaijfogipgaaW.PrintLast Go.Proofs.YtmifaijfogipgaaW.PrintMore
set_option linter.unusedVariables false
set_option linter.unusedSimpArgs false
--BLOCKS
theorem wf_b {z : Int} (h : (Lit.int .i64 z).wf = true) : -9223372036854775808 ≤ z ∧ z ≤ 9223372036854775807 := bounds_i64 h
theorem wrap_id {z : Int} (h1 : -9223372036854775808 ≤ z) (h2 : z ≤ 9223372036854775807) : wrap64 z = z := by unfold wrap64; omega
theorem mn_min (a b : Int) : mn a b = min a b := by unfold mn; omega
theorem mx_max (a b : Int) : mx a b = max a b := by unfold mx; omega
theorem in_eq (x lo hi : Int) : spec_l01In.f x lo hi = some (decide (lo ≤ x ∧ x ≤ hi)) := by
  unfold spec_l01In.f; split <;> simp_all <;> omega
theorem within_eq (x lo hi : Int) : impl_within.f x lo hi = some (decide (lo ≤ x ∧ x ≤ hi)) := by
  unfold impl_within.f; split <;> simp_all <;> omega
theorem rd_mid (pre : List Int) (a : Int) (suf : List Int) : rd (pre ++ a :: suf) (pre.length : Int) = a := by simp [rd]
theorem len_mid {α : Type} (pre : List α) (a : α) (suf : List α) : (pre ++ a :: suf).length = (pre ++ [a]).length + suf.length := by simp; omega
theorem app_mid {α : Type} (pre : List α) (a : α) (suf : List α) : pre ++ a :: suf = (pre ++ [a]) ++ suf := by simp
theorem wrap_len {α : Type} {pre : List α} {a : α} (h : pre.length < 9223372036854775807) : wrap64 ((pre.length : Int) + 1) = ((pre ++ [a]).length : Int) := by
  rw [wrap_id (by omega) (by omega)]; simp
theorem pred {d k : Nat} (h : d < k) : ∃ j, k = j + 1 := ⟨k - 1, by omega⟩
theorem toInt_loop : ∀ (suf pre rep : List Int) (k : Nat), suf.length < k → rep.length = suf.length → (pre ++ suf).length < 9223372036854775807 → laws_toIntS.l0 k (pre ++ suf) (pre ++ rep) (pre.length : Int) = some (pre ++ suf)
  | [], pre, rep, k, hk, hr, hb => by
    obtain ⟨k, rfl⟩ := pred hk
    obtain rfl : rep = [] := List.length_eq_zero_iff.1 hr
    simp only [laws_toIntS.l0]
    rw [if_neg (by simp)]
  | a :: suf, pre, r :: rep, k, hk, hr, hb => by
    obtain ⟨k, rfl⟩ := pred hk
    have hl : (pre ++ a :: suf).length = pre.length + suf.length + 1 := by simp; omega
    have hl2 : (pre ++ r :: rep).length = pre.length + rep.length + 1 := by simp; omega
    have ih := toInt_loop suf (pre ++ [a]) rep k (by simpa using hk) (by simpa using hr) (by simpa using hb)
    simp only [laws_toIntS.l0]
    rw [if_pos (by omega), if_pos (by omega), if_pos (by omega), rd_mid, wrap_len (a := a) (by omega), Int.toNat_natCast]
    have e : (pre ++ r :: rep).set pre.length a = (pre ++ [a]) ++ rep := by simp
    rw [e]
    simpa using ih
  | _ :: _, _, [], _, _, hr, _ => by simp at hr
theorem toInt_eq (l : List Int) (hl : l.length ≤ 1048576) {k : Nat} (hk : l.length < k) : laws_toIntS.f k l = some l := by
  unfold laws_toIntS.f
  rw [if_pos (by omega), if_pos (by omega), Int.toNat_natCast]
  have := toInt_loop l [] (List.replicate l.length 0) k hk (by simp) (by simp; omega)
  simpa using this
theorem eqInt_loop : ∀ (s1 s2 pre : List Int) (k : Nat), s1.length < k → s2.length = s1.length → (pre ++ s1).length < 9223372036854775807 → laws_eqIntS.l0 k (pre ++ s1) (pre ++ s2) (pre.length : Int) = some (decide (s1 = s2))
  | [], s2, pre, k, hk, hr, hb => by
    obtain ⟨k, rfl⟩ := pred hk
    obtain rfl : s2 = [] := List.length_eq_zero_iff.1 hr
    simp only [laws_eqIntS.l0]
    rw [if_neg (by simp)]; simp
  | a :: s1, b :: s2, pre, k, hk, hr, hb => by
    obtain ⟨k, rfl⟩ := pred hk
    have hl : (pre ++ a :: s1).length = pre.length + s1.length + 1 := by simp; omega
    have hl2 : (pre ++ b :: s2).length = pre.length + s2.length + 1 := by simp; omega
    simp only [laws_eqIntS.l0]
    rw [if_pos (by omega), if_pos (by omega), if_pos (by omega), rd_mid, rd_mid]
    by_cases hab : a = b
    · subst hab
      have ih := eqInt_loop s1 s2 (pre ++ [a]) k (by simpa using hk) (by simpa using hr) (by simpa using hb)
      rw [if_pos rfl, wrap_len (a := a) (by omega), app_mid, app_mid pre a s2, ih]
      simp
    · rw [if_neg hab]; simp [hab]
  | _ :: _, [], _, _, _, hr, _ => by simp at hr
theorem eqInt_eq (l m : List Int) (hl : l.length < 9223372036854775807) {k : Nat} (hk : l.length < k) : laws_eqIntS.f k l m = some (decide (l = m)) := by
  unfold laws_eqIntS.f
  by_cases h : l.length = m.length
  · rw [if_pos (by omega)]
    have := eqInt_loop l m [] k hk h.symm (by simpa using hl)
    simpa using this
  · rw [if_neg (by omega), decide_eq_false (fun e => h (by rw [e]))]
theorem equal_loop : ∀ (s1 s2 pre : List Int) (k : Nat), s1.length < k → s2.length = s1.length → (pre ++ s1).length < 9223372036854775807 → slices_Equal_int_int.l0 k (pre ++ s1) (pre ++ s2) ((pre ++ s1).length : Int) (pre.length : Int) = some (decide (s1 = s2))
  | [], s2, pre, k, hk, hr, hb => by
    obtain ⟨k, rfl⟩ := pred hk
    obtain rfl : s2 = [] := List.length_eq_zero_iff.1 hr
    simp only [slices_Equal_int_int.l0]
    rw [if_neg (by simp)]; simp
  | a :: s1, b :: s2, pre, k, hk, hr, hb => by
    obtain ⟨k, rfl⟩ := pred hk
    have hl : (pre ++ a :: s1).length = pre.length + s1.length + 1 := by simp; omega
    have hl2 : (pre ++ b :: s2).length = pre.length + s2.length + 1 := by simp; omega
    simp only [slices_Equal_int_int.l0]
    rw [if_pos (by omega), if_pos (by omega), if_pos (by omega), if_pos (by simp at hr; omega), rd_mid, rd_mid]
    by_cases hab : a = b
    · subst hab
      have ih := equal_loop s1 s2 (pre ++ [a]) k (by simpa using hk) (by simpa using hr) (by simpa using hb)
      rw [if_pos rfl, wrap_len (a := a) (by omega), app_mid, app_mid pre a s2, ih]
      simp
    · rw [if_neg hab]; simp [hab]
  | _ :: _, [], _, _, _, hr, _ => by simp at hr
theorem equal_eq (l m : List Int) (hl : l.length < 9223372036854775807) {k : Nat} (hk : l.length < k) : slices_Equal_int_int.f k l m = some (decide (l = m)) := by
  unfold slices_Equal_int_int.f
  by_cases h : l.length = m.length
  · rw [if_pos (by omega)]
    have := equal_loop l m [] k hk h.symm (by simpa using hl)
    simpa using this
  · rw [if_neg (by omega), decide_eq_false (fun e => h (by rw [e]))]
theorem szInt_ev (l : List Int) (a : Int) (hl : l.length ≤ maxLen) (ha : 0 ≤ a ∧ a ≤ 1048576) : (laws_szIntS.f l a = some (-1)) ∨ ((l.length : Int) ≤ a ∧ laws_szIntS.f l a = some (a - l.length)) := by
  unfold laws_szIntS.f
  unfold maxLen at hl
  rw [wrap_id (by omega) (by omega)]
  by_cases h : a - (l.length : Int) < 0
  · rw [if_pos h]; exact .inl rfl
  · rw [if_neg h]; exact .inr ⟨by omega, rfl⟩
def cvSetting (x : S59) : S56 := ⟨x.f0, x.f1⟩
theorem rdA_Setting (pre : List S59) (a : S59) (suf : List S59) : rd_T59 (pre ++ a :: suf) (pre.length : Int) = a := by simp [rd_T59]
theorem toSetting_loop : ∀ (suf pre : List S59) (rep : List S56) (k : Nat), suf.length < k → rep.length = suf.length → (pre ++ suf).length < 9223372036854775807 → laws_toSettingS.l0 k (pre ++ suf) (pre.map cvSetting ++ rep) (pre.length : Int) = some ((pre ++ suf).map cvSetting)
  | [], pre, rep, k, hk, hr, hb => by
    obtain ⟨k, rfl⟩ := pred hk
    obtain rfl : rep = [] := List.length_eq_zero_iff.1 hr
    simp only [laws_toSettingS.l0]
    rw [if_neg (by simp)]; simp
  | a :: suf, pre, r :: rep, k, hk, hr, hb => by
    obtain ⟨k, rfl⟩ := pred hk
    have hl : (pre ++ a :: suf).length = pre.length + suf.length + 1 := by simp; omega
    have hl2 : (pre.map cvSetting ++ r :: rep).length = pre.length + rep.length + 1 := by simp; omega
    have ih := toSetting_loop suf (pre ++ [a]) rep k (by simpa using hk) (by simpa using hr) (by simpa using hb)
    simp only [laws_toSettingS.l0]
    rw [if_pos (by omega), if_pos (by omega), rdA_Setting]
    simp only [laws_toSetting.f, Option.bind_some]
    rw [if_pos (by omega), wrap_len (a := a) (by omega), Int.toNat_natCast]
    have e : (pre.map cvSetting ++ r :: rep).set pre.length (cvSetting a) = (pre ++ [a]).map cvSetting ++ rep := by
      rw [List.set_append_right _ _ (by simp)]; simp
    have e2 : (pre.map cvSetting ++ r :: rep).set pre.length (⟨a.f0, a.f1⟩ : S56) = (pre ++ [a]).map cvSetting ++ rep := e
    rw [e2]
    simpa using ih
  | _ :: _, _, [], _, _, hr, _ => by simp at hr
theorem toSettingS_eq (l : List S59) (hl : l.length ≤ 1048576) {k : Nat} (hk : l.length < k) : laws_toSettingS.f k l = some (l.map cvSetting) := by
  unfold laws_toSettingS.f
  rw [if_pos (by omega), if_pos (by omega), Int.toNat_natCast]
  have := toSetting_loop l [] (List.replicate l.length z56) k hk (by simp) (by simp; omega)
  simpa using this
theorem szSettingS_ev (l : List S59) (a : Int) (hl : l.length ≤ maxLen) (ha : 0 ≤ a ∧ a ≤ 1048576) : (laws_szSettingS.f l a = some (-1)) ∨ ((l.length : Int) ≤ a ∧ laws_szSettingS.f l a = some (a - l.length)) := by
  unfold laws_szSettingS.f
  unfold maxLen at hl
  rw [wrap_id (by omega) (by omega)]
  by_cases h : a - (l.length : Int) < 0
  · rw [if_pos h]; exact .inl rfl
  · rw [if_neg h]; exact .inr ⟨by omega, rfl⟩
theorem rdB_Setting (pre : List S56) (a : S56) (suf : List S56) : rd_T56 (pre ++ a :: suf) (pre.length : Int) = a := by simp [rd_T56]
theorem eqSetting_loop : ∀ (suf pre : List S56) (k : Nat), suf.length < k → (pre ++ suf).length < 9223372036854775807 → laws_eqSettingS.l0 k (pre ++ suf) (pre ++ suf) (pre.length : Int) = some true
  | [], pre, k, hk, hb => by
    obtain ⟨k, rfl⟩ := pred hk
    simp only [laws_eqSettingS.l0]
    rw [if_neg (by simp)]
  | a :: suf, pre, k, hk, hb => by
    obtain ⟨k, rfl⟩ := pred hk
    have hl : (pre ++ a :: suf).length = pre.length + suf.length + 1 := by simp; omega
    have ih := eqSetting_loop suf (pre ++ [a]) k (by simpa using hk) (by simpa using hb)
    simp only [laws_eqSettingS.l0]
    rw [if_pos (by omega), if_pos (by omega), rdB_Setting]
    simp only [laws_eqSetting.f, Option.bind_some, if_true]
    try rw [if_pos (by omega)]
    rw [wrap_len (a := a) (by omega), app_mid]
    exact ih
theorem eqSettingS_eq (l : List S56) (hl : l.length < 9223372036854775807) {k : Nat} (hk : l.length < k) : laws_eqSettingS.f k l l = some true := by
  unfold laws_eqSettingS.f
  rw [if_pos rfl]
  have := eqSetting_loop l [] k hk (by simpa using hl)
  simpa using this
theorem eqDevice_eq (l : List Int) (s : List S56) (h1 : l.length < 9223372036854775807) (h2 : s.length < 9223372036854775807) {k : Nat} (hk : l.length + s.length < k) : laws_eqDevice.f k l s l s = some true := by
  unfold laws_eqDevice.f
  rw [eqInt_eq l l h1 (by omega), Option.bind_some, if_pos (decide_eq_true rfl), eqSettingS_eq s h2 (by omega), Option.bind_some, if_pos rfl]
theorem clone_eq (l : List Int) (hl : l.length ≤ 1048576) : slices_Clone_int_int.f l = some l := by
  unfold slices_Clone_int_int.f
  rw [Option.bind_some, if_pos (by simp; omega), List.nil_append]
def isValM (x : Int) : Bool := decide (-1000000 ≤ x ∧ x ≤ 1000000)
def valsM (l : List Int) : Bool := l.all isValM
theorem iIsV (x : Int) : impl_IsValue.f x = some (isValM x) := by
  unfold impl_IsValue.f isValM
  rw [within_eq, Option.bind_some]
theorem iVals_loop : ∀ (suf pre : List Int) (k : Nat), suf.length < k → (pre ++ suf).length < 9223372036854775807 → impl_areValues.l0 k (pre ++ suf) (pre.length : Int) = some (valsM suf)
  | [], pre, k, hk, hb => by
    obtain ⟨k, rfl⟩ := pred hk
    simp only [impl_areValues.l0]
    rw [if_neg (by simp)]; rfl
  | a :: suf, pre, k, hk, hb => by
    obtain ⟨k, rfl⟩ := pred hk
    have hl : (pre ++ a :: suf).length = pre.length + suf.length + 1 := by simp; omega
    have ih := iVals_loop suf (pre ++ [a]) k (by simpa using hk) (by simpa using hb)
    simp only [impl_areValues.l0]
    rw [if_pos (by omega), if_pos (by omega), rd_mid, iIsV, Option.bind_some, wrap_len (a := a) (by omega), app_mid, ih]
    unfold valsM
    rw [List.all_cons]
    cases isValM a <;> simp
theorem iVals_eq (l : List Int) (hl : l.length < 9223372036854775807) {k : Nat} (hk : l.length < k) : impl_areValues.f k l = some (valsM l) := by
  have := iVals_loop l [] k hk (by simpa using hl)
  simpa [impl_areValues.f] using this
theorem sIsV (x : Int) : spec_IsValue.f x = some (isValM x) := by
  unfold spec_IsValue.f isValM
  rw [in_eq, Option.bind_some]
theorem sVals_loop : ∀ (suf pre : List Int) (k : Nat), suf.length < k → (pre ++ suf).length < 9223372036854775807 → spec_l09Values.l0 k (pre ++ suf) (pre.length : Int) = some (valsM suf)
  | [], pre, k, hk, hb => by
    obtain ⟨k, rfl⟩ := pred hk
    simp only [spec_l09Values.l0]
    rw [if_neg (by simp)]; rfl
  | a :: suf, pre, k, hk, hb => by
    obtain ⟨k, rfl⟩ := pred hk
    have hl : (pre ++ a :: suf).length = pre.length + suf.length + 1 := by simp; omega
    have ih := sVals_loop suf (pre ++ [a]) k (by simpa using hk) (by simpa using hb)
    simp only [spec_l09Values.l0]
    rw [if_pos (by omega), if_pos (by omega), rd_mid, sIsV, Option.bind_some, wrap_len (a := a) (by omega), app_mid, ih]
    unfold valsM
    rw [List.all_cons]
    cases isValM a <;> simp
theorem sVals_eq (l : List Int) (hl : l.length < 9223372036854775807) {k : Nat} (hk : l.length < k) : spec_l09Values.f k l = some (valsM l) := by
  have := sVals_loop l [] k hk (by simpa using hl)
  simpa [spec_l09Values.f] using this
/-- Settings in order, each behind port p. -/
def setM : Int → List S56 → Bool
  | _, [] => true
  | p, x :: s => decide (p + 1 ≤ x.f0 ∧ x.f0 ≤ 3) && isValM x.f1 && setM x.f0 s
def devM (l : List Int) (s : List S56) : Bool := decide (l.length = 4) && valsM l && setM (-1) s
theorem setM_mem : ∀ (s : List S56) (p : Int), -1 ≤ p → setM p s = true → ∀ x ∈ s, 0 ≤ x.f0 ∧ x.f0 ≤ 3
  | [], _, _, _ => by simp
  | x :: s, p, hp, h => by
    unfold setM at h
    simp only [Bool.and_eq_true, decide_eq_true_eq] at h
    intro y hy
    rcases List.mem_cons.1 hy with rfl | hy
    · omega
    · exact setM_mem s x.f0 (by omega) h.2 y hy
theorem rdD_mid (pre : List S56) (a : S56) (suf : List S56) : rd_T56 (pre ++ a :: suf) (pre.length : Int) = a := by simp [rd_T56]
theorem iSet_eq (a b : Int) : impl_isSetting.f a b = some (decide (0 ≤ a ∧ a ≤ 3) && isValM b) := by
  unfold impl_isSetting.f
  rw [within_eq, Option.bind_some]
  by_cases h : 0 ≤ a ∧ a ≤ 3
  · rw [if_pos (decide_eq_true h), iIsV, Option.bind_some, decide_eq_true h]; rfl
  · rw [if_neg (by simpa using h), decide_eq_false h]; rfl
theorem iDev_loop (l : List Int) (hl : l.length < 9223372036854775807) : ∀ (suf pre : List S56) (k : Nat) (p : Int), l.length + suf.length + 1 < k → (pre ++ suf).length < 9223372036854775807 → ((pre = [] ∧ p = -1) ∨ ∃ pr q, pre = pr ++ [q] ∧ q.f0 = p ∧ 0 ≤ p) → impl_DeviceOk.l0 k (pre ++ suf) ((pre ++ suf).length : Int) (pre.length : Int) l (pre ++ suf) = some (decide (l.length = 4) && valsM l && setM p suf)
  | [], pre, k, p, hk, hb, hp => by
    obtain ⟨k, rfl⟩ := pred hk
    simp only [impl_DeviceOk.l0]
    rw [if_neg (by simp)]
    by_cases h4 : l.length = 4
    · rw [if_pos (by omega), iVals_eq l hl (by simp at hk; omega), Option.bind_some]; simp [h4, setM]
    · rw [if_neg (by omega)]; simp [h4]
  | a :: suf, pre, k, p, hk, hb, hp => by
    obtain ⟨k, rfl⟩ := pred hk
    have hlen : (pre ++ a :: suf).length = pre.length + suf.length + 1 := by simp; omega
    have hk' : l.length + suf.length + 1 < k := by simp at hk; omega
    have ih := fun h0 => iDev_loop l hl suf (pre ++ [a]) k a.f0 hk' (by simpa using hb) (.inr ⟨pre, a, rfl, rfl, h0⟩)
    rw [← app_mid] at ih
    simp only [impl_DeviceOk.l0]
    rw [if_pos (by omega), if_pos (by omega), if_pos (by omega), rdD_mid, iSet_eq, Option.bind_some]
    unfold setM
    by_cases h1 : 0 ≤ a.f0 ∧ a.f0 ≤ 3
    · cases hv : isValM a.f1 with
      | false => rw [if_neg (by simp)]; simp
      | true =>
        rw [if_pos (by simp [h1])]
        rcases hp with ⟨rfl, rfl⟩ | ⟨pr, q, rfl, rfl, hq⟩
        · rw [if_neg (by simp), wrap_len (a := a) (by omega), ih h1.1, decide_eq_true (show -1 + 1 ≤ a.f0 ∧ a.f0 ≤ 3 by omega)]; simp
        · have e : ((pr ++ [q]).length : Int) - 1 = (pr.length : Int) := by simp
          have hlp : (pr ++ [q]).length = pr.length + 1 := by simp
          have hr : rd_T56 (pr ++ [q] ++ a :: suf) (pr.length : Int) = q := by rw [← app_mid, rdD_mid]
          rw [if_pos (by omega), e, wrap_id (z := (pr.length : Int)) (by omega) (by omega), if_pos (by omega), if_pos (by omega), hr]
          by_cases h2 : a.f0 ≤ q.f0
          · rw [if_pos h2, decide_eq_false (show ¬ (q.f0 + 1 ≤ a.f0 ∧ a.f0 ≤ 3) by omega)]; simp
          · rw [if_neg h2, wrap_len (a := a) (by omega), ih h1.1, decide_eq_true (show q.f0 + 1 ≤ a.f0 ∧ a.f0 ≤ 3 by omega)]; simp
    · rw [if_neg (by simp [h1])]
      have : ¬ (p + 1 ≤ a.f0 ∧ a.f0 ≤ 3) := by
        rcases hp with ⟨_, rfl⟩ | ⟨_, _, _, _, h⟩ <;> omega
      rw [decide_eq_false this]; simp
theorem iDev_eq (l : List Int) (s : List S56) (hl : l.length < 9223372036854775807) (hs : s.length < 9223372036854775807) {k : Nat} (hk : l.length + s.length + 1 < k) : impl_DeviceOk.f k l s = some (devM l s) := by
  have := iDev_loop l hl s [] k (-1) hk (by simpa using hs) (.inl ⟨rfl, rfl⟩)
  simpa [impl_DeviceOk.f, devM] using this
theorem sDev_loop (l : List Int) : ∀ (suf pre : List S56) (k : Nat) (p : Int), suf.length < k → (pre ++ suf).length < 9223372036854775807 → -1 ≤ p → p ≤ 3 → spec_DeviceOk.l0 k p (pre.length : Int) l (pre ++ suf) = some (setM p suf)
  | [], pre, k, p, hk, hb, h1, h2 => by
    obtain ⟨k, rfl⟩ := pred hk
    simp only [spec_DeviceOk.l0]
    rw [if_neg (by simp)]; simp [setM]
  | a :: suf, pre, k, p, hk, hb, h1, h2 => by
    obtain ⟨k, rfl⟩ := pred hk
    have hlen : (pre ++ a :: suf).length = pre.length + suf.length + 1 := by simp; omega
    have ih := fun h0 h3 => sDev_loop l suf (pre ++ [a]) k a.f0 (by simpa using hk) (by simpa using hb) h0 h3
    rw [← app_mid] at ih
    simp only [spec_DeviceOk.l0]
    rw [if_pos (by omega), if_pos (by omega), rdD_mid, wrap_id (z := p + 1) (by omega) (by omega), in_eq, Option.bind_some]
    unfold setM
    by_cases h : p + 1 ≤ a.f0 ∧ a.f0 ≤ 3
    · rw [if_pos (decide_eq_true h), sIsV, Option.bind_some, decide_eq_true h]
      cases isValM a.f1 with
      | false => simp
      | true => rw [if_pos rfl, wrap_len (a := a) (by omega), ih (by omega) (by omega)]; simp
    · rw [if_neg (by simpa using h), decide_eq_false h]; simp
theorem sDev_eq (l : List Int) (s : List S56) (hl : l.length < 9223372036854775807) (hs : s.length < 9223372036854775807) {k : Nat} (hk : l.length + s.length + 1 < k) : spec_DeviceOk.f k l s = some (devM l s) := by
  obtain ⟨k, rfl⟩ : ∃ j, k = j + 1 := ⟨k - 1, by omega⟩
  unfold spec_DeviceOk.f devM
  by_cases h4 : l.length = 4
  · rw [if_pos (by omega), sVals_eq l hl (by omega), Option.bind_some]
    simp only [spec_DeviceOk.j0]
    cases valsM l with
    | false => simp
    | true =>
      have := sDev_loop l s [] k (-1) (by omega) (by simpa using hs) (by omega) (by omega)
      simp only [List.nil_append, List.length_nil] at this
      simp [h4]
      exact this
  · rw [if_neg (by omega)]
    simp only [spec_DeviceOk.j0]
    simp [h4]
theorem szDevice_ev (l : List Int) (s : List S59) (a : Int) (hl : l.length ≤ maxLen) (hs : s.length ≤ maxLen) (ha : 0 ≤ a ∧ a ≤ 1048576) :
    (laws_szDevice.f l s a = some (-1)) ∨ ((l.length : Int) + s.length ≤ a ∧ laws_szDevice.f l s a = some (a - l.length - s.length)) := by
  unfold laws_szDevice.f
  rcases szInt_ev l a hl ha with h | ⟨h1, h2⟩
  · rw [h, Option.bind_some, if_pos (by omega)]; exact .inl rfl
  · rw [h2, Option.bind_some, if_neg (by omega)]
    rcases szSettingS_ev s (a - l.length) hs (by omega) with g | ⟨g1, g2⟩
    · rw [g, Option.bind_some, if_pos (by omega)]; exact .inl rfl
    · rw [g2, Option.bind_some, if_neg (by omega)]; exact .inr ⟨by omega, rfl⟩
theorem toDevice_eq (l : List Int) (s : List S59) (hl : l.length ≤ 1048576) (hs : s.length ≤ 1048576) {k : Nat} (hk : l.length + s.length < k) : laws_toDevice.f k l s = some (l, s.map cvSetting) := by
  unfold laws_toDevice.f
  rw [toInt_eq l hl (by omega), Option.bind_some, toSettingS_eq s hs (by omega), Option.bind_some]
theorem cloneSet_eq (s : List S56) (hs : s.length ≤ 1048576) : impl_Setting.f s = some s := by
  unfold impl_Setting.f
  rw [Option.bind_some, if_pos (by simp; omega), List.nil_append]
theorem copyDevice_eq (l : List Int) (s : List S56) (hl : l.length ≤ 1048576) (hs : s.length ≤ 1048576) : impl_copyDevice.f l s = some (l, s) := by
  unfold impl_copyDevice.f
  rw [clone_eq l hl, Option.bind_some, cloneSet_eq s hs, Option.bind_some]
theorem sCopyDev_eq (l : List Int) (s : List S56) (hl : l.length ≤ 1048576) (hs : s.length ≤ 1048576) : spec_l26Copy.f l s = some (l, s) := by
  unfold spec_l26Copy.f
  rw [Option.bind_some, if_pos (by simp; omega), Option.bind_some, if_pos (by simp; omega), List.nil_append, List.nil_append]
def putS (p : List Int) (x : S56) : List Int := p.set x.f0.toNat x.f1
def restM (l : List Int) (s : List S56) : List Int := if devM l s = true then s.foldl putS l else l
theorem put_len (s : List S56) : ∀ (l : List Int), (s.foldl putS l).length = l.length := by
  induction s with
  | nil => exact fun _ => rfl
  | cons a s ih => intro l; rw [List.foldl_cons, ih]; simp [putS]
theorem restM_len (l : List Int) (s : List S56) : (restM l s).length = l.length := by
  unfold restM; split
  · exact put_len s l
  · rfl
theorem iRest_loop (d : List S56) : ∀ (suf pre : List S56) (k : Nat) (l : List Int), suf.length < k → (pre ++ suf).length < 9223372036854775807 → l.length = 4 → (∀ x ∈ suf, 0 ≤ x.f0 ∧ x.f0 ≤ 3) → impl_Restore.l0 k (pre ++ suf) ((pre ++ suf).length : Int) (pre.length : Int) l d = some (suf.foldl putS l, d)
  | [], pre, k, l, hk, hb, h4, hx => by
    obtain ⟨k, rfl⟩ := pred hk
    simp only [impl_Restore.l0]
    rw [if_neg (by simp)]; rfl
  | a :: suf, pre, k, l, hk, hb, h4, hx => by
    obtain ⟨k, rfl⟩ := pred hk
    have hlen : (pre ++ a :: suf).length = pre.length + suf.length + 1 := by simp; omega
    have ha := hx a (by simp)
    have ih := iRest_loop d suf (pre ++ [a]) k (putS l a) (by simpa using hk) (by simpa using hb) (by simp [putS, h4]) (fun x h => hx x (by simp [h]))
    rw [← app_mid] at ih
    simp only [impl_Restore.l0]
    rw [if_pos (by omega), if_pos (by omega), if_pos (by omega), rdD_mid, if_pos (by omega), if_pos (by omega), wrap_len (a := a) (by omega)]
    exact ih
theorem iRest_eq (l : List Int) (s : List S56) (hl : l.length ≤ 1048576) (hs : s.length ≤ 1048576) {k : Nat} (hk : l.length + s.length + 1 < k) : impl_Restore.f k l s = some (restM l s, s) := by
  unfold impl_Restore.f restM
  rw [copyDevice_eq l s hl hs, Option.bind_some, iDev_eq l s (by omega) (by omega) hk, Option.bind_some]
  by_cases h : devM l s = true
  · rw [if_pos h, if_pos h]
    unfold devM at h
    simp only [Bool.and_eq_true, decide_eq_true_eq] at h
    have := iRest_loop s s [] k l (by omega) (by simp; omega) h.1.1 (setM_mem s (-1) (by omega) h.2)
    simpa using this
  · rw [if_neg h, if_neg h]
theorem sRest_loop (l0 : List Int) (hl : l0.length ≤ 1048576) : ∀ (suf pre : List S56) (k : Nat) (l : List Int), l0.length + pre.length + 2 * suf.length + 2 < k → (pre ++ suf).length ≤ 1048576 → devM l0 (pre ++ suf) = true → l.length = 4 → (∀ x ∈ suf, 0 ≤ x.f0 ∧ x.f0 ≤ 3) → spec_Restore.l0 k (pre.length : Int) l0 (pre ++ suf) l (pre ++ suf) = some (suf.foldl putS l, pre ++ suf)
  | [], pre, k, l, hk, hb, hd, h4, hx => by
    obtain ⟨k, rfl⟩ := pred hk
    simp only [spec_Restore.l0]
    rw [if_neg (by simp)]; rfl
  | a :: suf, pre, k, l, hk, hb, hd, h4, hx => by
    obtain ⟨k, rfl⟩ := pred hk
    have hlen : (pre ++ a :: suf).length = pre.length + suf.length + 1 := by simp; omega
    have ha := hx a (by simp)
    have hc : (a :: suf).length = suf.length + 1 := rfl
    have ih := sRest_loop l0 hl suf (pre ++ [a]) k (putS l a) (by simp; omega) (by simpa using hb) (by simpa using hd) (by simp [putS, h4]) (fun x h => hx x (by simp [h]))
    rw [← app_mid] at ih
    simp only [spec_Restore.l0]
    rw [if_pos (by omega), sDev_eq l0 _ (by omega) (by omega) (by omega), Option.bind_some, if_pos hd, if_pos (by omega), rdD_mid, if_pos (by omega), if_pos (by omega), wrap_len (a := a) (by omega)]
    exact ih
theorem sRest_eq (l : List Int) (s : List S56) (hl : l.length ≤ 1048576) (hs : s.length ≤ 1048576) {k : Nat} (hk : l.length + 2 * s.length + 3 < k) : spec_Restore.f k l s = some (restM l s, s) := by
  unfold spec_Restore.f restM
  rw [sCopyDev_eq l s hl hs, Option.bind_some]
  by_cases h : devM l s = true
  · rw [if_pos h]
    have h' := h
    unfold devM at h
    simp only [Bool.and_eq_true, decide_eq_true_eq] at h
    have := sRest_loop l hl s [] k l (by simp; omega) (by simpa using hs) h' h.1.1 (setM_mem s (-1) (by omega) h.2)
    simpa using this
  · rw [if_neg h]
    obtain ⟨k, rfl⟩ : ∃ j, k = j + 1 := ⟨k - 1, by omega⟩
    simp only [spec_Restore.l0]
    by_cases h0 : (0 : Int) < (s.length : Int)
    · rw [if_pos h0, sDev_eq l s (by omega) (by omega) (by omega), Option.bind_some, if_neg h]
    · rw [if_neg h0]
def powM (l : List Int) (s : List S56) : List Int := if devM l s = true then List.replicate 4 0 else l
theorem powM_len (l : List Int) (s : List S56) : (powM l s).length = l.length := by
  unfold powM; split
  · rename_i h
    unfold devM at h
    simp only [Bool.and_eq_true, decide_eq_true_eq] at h
    rw [h.1.1]; rfl
  · rfl
theorem iPow_eq (l : List Int) (s : List S56) (hl : l.length ≤ 1048576) (hs : s.length ≤ 1048576) {k : Nat} (hk : l.length + s.length + 1 < k) : impl_PowerFail.f k l s = some (powM l s, s) := by
  unfold impl_PowerFail.f powM
  rw [copyDevice_eq l s hl hs, Option.bind_some, iDev_eq l s (by omega) (by omega) hk, Option.bind_some]
  by_cases h : devM l s = true
  · rw [if_pos h, if_pos h]
    unfold devM at h
    simp only [Bool.and_eq_true, decide_eq_true_eq] at h
    simp only
    rw [if_pos (by omega)]
  · rw [if_neg h, if_neg h]
theorem sPow_eq (l : List Int) (s : List S56) (hl : l.length ≤ 1048576) (hs : s.length ≤ 1048576) {k : Nat} (hk : l.length + s.length + 1 < k) : spec_PowerFail.f k l s = some (powM l s, s) := by
  unfold spec_PowerFail.f powM
  rw [sCopyDev_eq l s hl hs, Option.bind_some, sDev_eq l s (by omega) (by omega) hk, Option.bind_some]
  by_cases h : devM l s = true
  · rw [if_pos h, if_pos h, if_pos (by omega)]
  · rw [if_neg h, if_neg h]
def isrM (l : List Int) (s : List S56) : Bool := devM l s && decide (restM (powM l s) s = l)
theorem iIsr_eq (l : List Int) (s : List S56) (hl : l.length ≤ 1048576) (hs : s.length ≤ 1048576) {k : Nat} (hk : l.length + s.length + 1 < k) : impl_IsRestored.f k l s = some (isrM l s) := by
  unfold impl_IsRestored.f isrM
  have h1 := powM_len l s
  have h2 := restM_len (powM l s) s
  rw [iDev_eq l s (by omega) (by omega) hk, Option.bind_some]
  cases devM l s with
  | false => simp
  | true => rw [if_pos rfl, iPow_eq l s hl hs hk, Option.bind_some]; simp only; rw [iRest_eq _ s (by omega) hs (by omega), Option.bind_some]; simp only; rw [equal_eq _ l (by omega) (by omega), Option.bind_some]; rfl
theorem sDiff_loop : ∀ (s1 s2 pre : List Int) (k : Nat), 2 * s1.length + 2 < k → s2.length = s1.length → (pre ++ s1).length < 9223372036854775807 → ∃ r, spec_FirstDiffering.l0 k (pre ++ s1) (pre ++ s2) (pre.length : Int) = some r ∧ decide (r < 0) = decide (s1 = s2)
  | [], s2, pre, k, hk, hr, hb => by
    obtain ⟨k, rfl⟩ := pred hk
    obtain ⟨k, rfl⟩ := pred (show 1 < k by simp at hk; omega)
    obtain rfl : s2 = [] := List.length_eq_zero_iff.1 hr
    refine ⟨-1, ?_, by simp⟩
    simp only [spec_FirstDiffering.l0]
    rw [if_neg (by simp), decide_eq_false (by simp)]
    simp [spec_FirstDiffering.j1]
  | a :: s1, b :: s2, pre, k, hk, hr, hb => by
    obtain ⟨k, rfl⟩ := pred hk
    have hk2 : 2 * s1.length + 3 < k := by simp at hk; omega
    obtain ⟨k, rfl⟩ := pred hk2
    have hl : (pre ++ a :: s1).length = pre.length + s1.length + 1 := by simp; omega
    have hl2 : (pre ++ b :: s2).length = pre.length + s2.length + 1 := by simp; omega
    have hrr : s2.length = s1.length := by simpa using hr
    simp only [spec_FirstDiffering.l0]
    rw [if_pos (by omega)]
    simp only [spec_FirstDiffering.j1, if_true]
    rw [if_neg (by omega), if_neg (by omega), if_pos (by omega), if_pos (by omega), if_pos (by omega), rd_mid, rd_mid]
    by_cases hab : a = b
    · subst hab
      obtain ⟨r, e, hd⟩ := sDiff_loop s1 s2 (pre ++ [a]) k (by omega) hrr (by simpa using hb)
      rw [if_pos rfl, wrap_len (a := a) (by omega), app_mid, app_mid pre a s2]
      exact ⟨r, e, by rw [hd]; simp⟩
    · rw [if_neg hab]
      exact ⟨_, rfl, by rw [decide_eq_false (show ¬ ((pre.length : Int) < 0) by omega), decide_eq_false (show ¬ (a :: s1 = b :: s2) by simp [hab])]⟩
  | _ :: _, [], _, _, _, hr, _ => by simp at hr
theorem sSame_eq (l m : List Int) (h : m.length = l.length) (hl : l.length < 9223372036854775807) {k : Nat} (hk : 2 * l.length + 2 < k) : spec_l13Same.f k l m = some (decide (l = m)) := by
  unfold spec_l13Same.f spec_FirstDiffering.f
  obtain ⟨r, e, hd⟩ := sDiff_loop l m [] k hk h (by simpa using hl)
  have e' : spec_FirstDiffering.l0 k l m 0 = some r := by simpa using e
  rw [e', Option.bind_some, hd]
theorem sIsr_eq (l : List Int) (s : List S56) (hl : l.length ≤ 1048576) (hs : s.length ≤ 1048576) {k : Nat} (hk : 2 * l.length + 2 * s.length + 3 < k) : spec_IsRestored.f k l s = some (isrM l s) := by
  unfold spec_IsRestored.f isrM
  have h1 := powM_len l s
  have h2 := restM_len (powM l s) s
  rw [sDev_eq l s (by omega) (by omega) (by omega), Option.bind_some]
  cases devM l s with
  | false => simp
  | true =>
    rw [if_pos rfl, sPow_eq l s hl hs (by omega), Option.bind_some]; simp only
    rw [sRest_eq _ s (by omega) hs (by omega), Option.bind_some]; simp only
    rw [sSame_eq l _ (by omega) (by omega) (by omega), Option.bind_some]
    congr 1
    rw [Bool.true_and]
    by_cases h : l = restM (powM l s) s
    · rw [decide_eq_true h, decide_eq_true h.symm]
    · rw [decide_eq_false h, decide_eq_false (fun g => h g.symm)]

theorem FnExactIsRestored : ∀ (l0_0 : List Int) (l0_1 : List S59), (l0_0.length ≤ maxLen ∧ ∀ x ∈ l0_0, (Lit.int .i64 x).wf = true) → (l0_1.length ≤ maxLen ∧ ∀ x ∈ l0_1, ((Lit.int .i64 x.f0).wf = true) ∧ ((Lit.int .i64 x.f1).wf = true)) → ∃ k, laws_FnExactIsRestored.f k l0_0 l0_1 = some true := by
  intro l s hl hs
  refine ⟨2 * l.length + 2 * s.length + 8, ?_⟩
  unfold laws_FnExactIsRestored.f
  rcases szDevice_ev l s 1048576 hl.1 hs.1 (by omega) with h | ⟨h1, h2⟩
  · rw [h, Option.bind_some, if_pos (by omega)]
  have hm : (s.map cvSetting).length = s.length := by simp
  rw [h2, Option.bind_some, if_neg (by omega), toDevice_eq l s (by omega) (by omega) (by omega), Option.bind_some]
  simp only
  rw [sIsr_eq l _ (by omega) (by omega) (by omega), Option.bind_some, Option.bind_some]
  simp only
  rw [iIsr_eq l _ (by omega) (by omega) (by omega), Option.bind_some, bne_self_eq_false, if_neg (by decide), Option.bind_some]
  simp only
  rw [eqDevice_eq l _ (by omega) (by omega) (by omega), Option.bind_some, if_pos rfl]

end Go.Proofs.Ytmifaijfogipgaa.Pure
