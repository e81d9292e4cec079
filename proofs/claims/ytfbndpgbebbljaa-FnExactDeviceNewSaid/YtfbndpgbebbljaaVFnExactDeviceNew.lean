/- The pure statement of the law FnExactDeviceNew: what the printed function comes to is true for every list of bytes. No condition beyond the row's own bounds. -/
import Derived.Test.YtfbndpgbebbljaaQFnExactDeviceNew1
import Derived.OpenShut
namespace Go.Proofs.Ytfbndpgbebbljaa.Pure
open Go.RowKit Go.Proofs.Ytfbndpgbebbljaa.QFnExactDeviceNew Go.Proofs.YtfbndpgbebbljaaW.PrintWords Go.Proofs.YtfbndpgbebbljaaW.PrintLast Go.Proofs.YtfbndpgbebbljaaW.PrintMore
set_option linter.unusedVariables false
set_option linter.unusedSimpArgs false

--BLOCKS
theorem wf_b {z : Int} (h : (Lit.int .i64 z).wf = true) : -9223372036854775808 ≤ z ∧ z ≤ 9223372036854775807 := bounds_i64 h
theorem wrap_id {z : Int} (h1 : -9223372036854775808 ≤ z) (h2 : z ≤ 9223372036854775807) : wrap64 z = z := by unfold wrap64; omega
theorem mn_min (a b : Int) : mn a b = min a b := by unfold mn; omega
theorem mx_max (a b : Int) : mx a b = max a b := by unfold mx; omega
theorem rd_mid (pre : List Int) (a : Int) (suf : List Int) : rd (pre ++ a :: suf) (pre.length : Int) = a := by simp [rd]
theorem len_mid {α : Type} (pre : List α) (a : α) (suf : List α) : (pre ++ a :: suf).length = (pre ++ [a]).length + suf.length := by simp; omega
theorem app_mid {α : Type} (pre : List α) (a : α) (suf : List α) : pre ++ a :: suf = (pre ++ [a]) ++ suf := by simp
theorem wrap_len {α : Type} {pre : List α} {a : α} (h : pre.length < 9223372036854775807) : wrap64 ((pre.length : Int) + 1) = ((pre ++ [a]).length : Int) := by
  rw [wrap_id (by omega) (by omega)]; simp
theorem pred {d k : Nat} (h : d < k) : ∃ j, k = j + 1 := ⟨k - 1, by omega⟩
theorem eqInt_loop : ∀ (s1 s2 pre : List Int) (k : Nat), s1.length < k → s2.length = s1.length → (pre ++ s1).length < 9223372036854775807 → laws_eqIntS.l0 k (pre ++ s1) (pre ++ s2) (pre.length : Int) = some (decide (s1 = s2))
  | [], s2, pre, k, hk, hr, hb => by
    obtain ⟨k, rfl⟩ := pred hk
    obtain rfl : s2 = [] := List.length_eq_zero_iff.1 hr
    simp only [laws_eqIntS.l0]
    rw [if_neg (by simp)]; simp
  | a :: s1, b :: s2, pre, k, hk, hr, hb => by
    obtain ⟨k, rfl⟩ := pred hk
    have hl : (pre ++ a :: s1).length = pre.length + s1.length + 1 := by simp; omega
    have hl2 : (pre ++ b :: s2).length = pre.length + s2.length + 1 := by simp; omega
    simp only [laws_eqIntS.l0]
    rw [if_pos (by omega), if_pos (by omega), if_pos (by omega), rd_mid, rd_mid]
    by_cases hab : a = b
    · subst hab
      have ih := eqInt_loop s1 s2 (pre ++ [a]) k (by simpa using hk) (by simpa using hr) (by simpa using hb)
      rw [if_pos rfl, wrap_len (a := a) (by omega), app_mid, app_mid pre a s2, ih]
      simp
    · rw [if_neg hab]; simp [hab]
  | _ :: _, [], _, _, _, hr, _ => by simp at hr
theorem eqInt_eq (l m : List Int) (hl : l.length < 9223372036854775807) {k : Nat} (hk : l.length < k) : laws_eqIntS.f k l m = some (decide (l = m)) := by
  unfold laws_eqIntS.f
  by_cases h : l.length = m.length
  · rw [if_pos (by omega)]
    have := eqInt_loop l m [] k hk h.symm (by simpa using hl)
    simpa using this
  · rw [if_neg (by omega), decide_eq_false (fun e => h (by rw [e]))]
/-- The marks from m on. -/
def mkInt : Int → Nat → List Int
  | _, 0 => []
  | m, i + 1 => m :: mkInt (m + 1) i
theorem mkInt_len : ∀ (d : Nat) (m : Int), (mkInt m d).length = d
  | 0, _ => rfl
  | d + 1, m => by simp [mkInt, mkInt_len d]
theorem markInt_loop : ∀ (suf pre : List Int) (k : Nat) (m : Int), suf.length < k → (pre ++ suf).length ≤ 4611686018427387 → 0 ≤ m → m + suf.length ≤ 4611686018427387904 → laws_markIntS.l0 k (pre ++ suf) m (pre.length : Int) = some (m + suf.length, pre ++ mkInt m suf.length)
  | [], pre, k, m, hk, hb, h0, hm => by
    obtain ⟨k, rfl⟩ := pred hk
    simp only [laws_markIntS.l0]
    rw [if_neg (by simp)]; simp [mkInt]
  | a :: suf, pre, k, m, hk, hb, h0, hm => by
    obtain ⟨k, rfl⟩ := pred hk
    have hl : (pre ++ a :: suf).length = pre.length + suf.length + 1 := by simp; omega
    have hc : ((a :: suf).length : Int) = suf.length + 1 := by simp
    rw [hc] at hm
    have ih := markInt_loop suf (pre ++ [m]) k (m + 1) (by simpa using hk) (by simp at hb ⊢; omega) (by omega) (by omega)
    simp only [laws_markIntS.l0]
    have hset : (pre ++ a :: suf).set pre.length m = pre ++ m :: suf := by rw [List.set_append_right _ _ (by omega)]; simp
    rw [if_pos (by omega), if_pos (by omega), Int.toNat_natCast, hset, wrap_id (z := m + 1) (by omega) (by omega), wrap_len (a := m) (by omega), app_mid, ih]
    simp [mkInt]
    omega
theorem heldInt_loop : ∀ (d : Nat) (pre : List Int) (k : Nat) (m : Int), d < k → (pre ++ mkInt m d).length ≤ 4611686018427387 → 0 ≤ m → m + d ≤ 4611686018427387904 → laws_heldIntS.l0 k (pre ++ mkInt m d) m (pre.length : Int) = some (m + d)
  | 0, pre, k, m, hk, hb, h0, hm => by
    obtain ⟨k, rfl⟩ := pred hk
    rw [show mkInt m 0 = [] from rfl]
    simp only [laws_heldIntS.l0]
    rw [if_neg (by simp)]; simp
  | d + 1, pre, k, m, hk, hb, h0, hm => by
    obtain ⟨k, rfl⟩ := pred hk
    have ih := heldInt_loop d (pre ++ [m]) k (m + 1) (by omega) (by simp [mkInt] at hb ⊢; omega) (by omega) (by omega)
    rw [show mkInt m (d + 1) = m :: mkInt (m + 1) d from rfl] at hb ⊢
    simp only [laws_heldIntS.l0]
    have hl : ∀ (a : Int) (suf : List Int), (pre ++ a :: suf).length = pre.length + suf.length + 1 := fun a suf => by simp; omega
    rw [hl] at hb
    rw [if_pos (by rw [hl]; omega), if_pos (by omega), rd_mid, if_pos rfl, wrap_id (z := m + 1) (by omega) (by omega), wrap_len (a := m) (by omega), app_mid, ih]
    congr 1
    omega
theorem markInt_eq (l : List Int) (m : Int) (h0 : 0 ≤ m) (hm : m + l.length ≤ 4611686018427387) {k : Nat} (hk : l.length < k) : laws_markIntS.f k l m = some (m + l.length, mkInt m l.length) := by
  have := markInt_loop l [] k m hk (by simp; omega) h0 (by omega)
  simpa [laws_markIntS.f] using this
theorem heldInt_eq (d : Nat) (m : Int) (h0 : 0 ≤ m) (hm : m + d ≤ 4611686018427387) {k : Nat} (hk : d < k) : laws_heldIntS.f k (mkInt m d) m = some (m + d) := by
  have := heldInt_loop d [] k m hk (by simp [mkInt_len]; omega) h0 (by omega)
  simpa [laws_heldIntS.f] using this
theorem rdB_Setting (pre : List S133) (a : S133) (suf : List S133) : rd_T133 (pre ++ a :: suf) (pre.length : Int) = a := by simp [rd_T133]
theorem eqSetting_loop : ∀ (suf pre : List S133) (k : Nat), suf.length < k → (pre ++ suf).length < 9223372036854775807 → laws_eqSettingS.l0 k (pre ++ suf) (pre ++ suf) (pre.length : Int) = some true
  | [], pre, k, hk, hb => by
    obtain ⟨k, rfl⟩ := pred hk
    simp only [laws_eqSettingS.l0]
    rw [if_neg (by simp)]
  | a :: suf, pre, k, hk, hb => by
    obtain ⟨k, rfl⟩ := pred hk
    have hl : (pre ++ a :: suf).length = pre.length + suf.length + 1 := by simp; omega
    have ih := eqSetting_loop suf (pre ++ [a]) k (by simpa using hk) (by simpa using hb)
    simp only [laws_eqSettingS.l0]
    rw [if_pos (by omega), if_pos (by omega), rdB_Setting]
    simp only [laws_eqSetting.f, Option.bind_some, if_true]
    try rw [if_pos (by omega)]
    rw [wrap_len (a := a) (by omega), app_mid]
    exact ih
theorem eqSettingS_eq (l : List S133) (hl : l.length < 9223372036854775807) {k : Nat} (hk : l.length < k) : laws_eqSettingS.f k l l = some true := by
  unfold laws_eqSettingS.f
  rw [if_pos rfl]
  have := eqSetting_loop l [] k hk (by simpa using hl)
  simpa using this
/-- The marks from m on. -/
def mkSetting : Int → Nat → List S133
  | _, 0 => []
  | m, i + 1 => ⟨m, m + 1⟩ :: mkSetting (m + 2) i
theorem rdM_Setting (pre : List S133) (a : S133) (suf : List S133) : rd_T133 (pre ++ a :: suf) (pre.length : Int) = a := by simp [rd_T133]
theorem wrap1_Setting {m : Int} (h0 : 0 ≤ m) (h1 : m < 4611686018427387904) : wrap64 (m + 1) = m + 1 := wrap_id (by omega) (by omega)
theorem markSetting_loop : ∀ (suf pre : List S133) (k : Nat) (m : Int), suf.length < k → (pre ++ suf).length ≤ 4611686018427387 → 0 ≤ m → m + 2 * suf.length ≤ 4611686018427387904 → laws_markSettingS.l0 k (pre ++ suf) m (pre.length : Int) = some (m + 2 * suf.length, pre ++ mkSetting m suf.length)
  | [], pre, k, m, hk, hb, h0, hm => by
    obtain ⟨k, rfl⟩ := pred hk
    simp only [laws_markSettingS.l0]
    rw [if_neg (by simp)]; simp [mkSetting]
  | a :: suf, pre, k, m, hk, hb, h0, hm => by
    obtain ⟨k, rfl⟩ := pred hk
    have hl : (pre ++ a :: suf).length = pre.length + suf.length + 1 := by simp; omega
    have hc : ((a :: suf).length : Int) = suf.length + 1 := by simp
    rw [hc] at hm
    have ih := markSetting_loop suf (pre ++ [⟨m, m + 1⟩]) k (m + 2) (by simpa using hk) (by simp at hb ⊢; omega) (by omega) (by omega)
    simp only [laws_markSettingS.l0]
    rw [if_pos (by omega), if_pos (by omega), rdM_Setting, Int.toNat_natCast]
    have hset : ∀ b c : S133, (pre ++ b :: suf).set pre.length c = pre ++ c :: suf := fun b c => by rw [List.set_append_right _ _ (by omega)]; simp
    simp only [hset, Option.bind_some, rdM_Setting]
    rw [wrap1_Setting (m := m) (by omega) (by omega), wrap1_Setting (m := m + 1) (by omega) (by omega)]
    rw [wrap_len (a := (⟨m, m + 1⟩ : S133)) (by omega), app_mid]
    rw [show m + 1 + 1 = m + 2 from by omega]
    rw [ih]
    simp [mkSetting]
    omega
theorem mkSetting_len : ∀ (d : Nat) (m : Int), (mkSetting m d).length = d
  | 0, _ => rfl
  | d + 1, m => by simp [mkSetting, mkSetting_len d]
theorem markSetting_eq (l : List S133) (m : Int) (h0 : 0 ≤ m) (hm : m + 2 * l.length ≤ 4611686018427387) {k : Nat} (hk : l.length < k) : laws_markSettingS.f k l m = some (m + 2 * l.length, mkSetting m l.length) := by
  have := markSetting_loop l [] k m hk (by simp; omega) h0 (by omega)
  simpa [laws_markSettingS.f] using this
theorem heldSetting_loop : ∀ (d : Nat) (pre : List S133) (k : Nat) (m : Int), d < k → (pre ++ mkSetting m d).length ≤ 4611686018427387 → 0 ≤ m → m + 2 * d ≤ 4611686018427387904 → laws_heldSettingS.l0 k (pre ++ mkSetting m d) m (pre.length : Int) = some (m + 2 * d)
  | 0, pre, k, m, hk, hb, h0, hm => by
    obtain ⟨k, rfl⟩ := pred hk
    rw [show mkSetting m 0 = [] from rfl]
    simp only [laws_heldSettingS.l0]
    rw [if_neg (by simp)]; simp
  | d + 1, pre, k, m, hk, hb, h0, hm => by
    obtain ⟨k, rfl⟩ := pred hk
    have ih := heldSetting_loop d (pre ++ [⟨m, m + 1⟩]) k (m + 2) (by omega) (by simp [mkSetting] at hb ⊢; omega) (by omega) (by omega)
    rw [show mkSetting m (d + 1) = (⟨m, m + 1⟩ : S133) :: mkSetting (m + 2) d from rfl] at hb ⊢
    simp only [laws_heldSettingS.l0]
    have hl : ∀ (a : S133) (suf : List S133), (pre ++ a :: suf).length = pre.length + suf.length + 1 := fun a suf => by simp; omega
    rw [if_pos (by rw [hl]; omega), if_pos (by omega), rdM_Setting]
    rw [hl] at hb
    rw [wrap1_Setting (m := m) (by omega) (by omega), wrap1_Setting (m := m + 1) (by omega) (by omega)]
    rw [show m + 1 + 1 = m + 2 from by omega]
    simp only [if_true]
    rw [wrap_len (a := (⟨m, m + 1⟩ : S133)) (by omega), app_mid, ih]
    congr 1
    omega
theorem heldSetting_eq (d : Nat) (m : Int) (h0 : 0 ≤ m) (hm : m + 2 * d ≤ 4611686018427387) {k : Nat} (hk : d < k) : laws_heldSettingS.f k (mkSetting m d) m = some (m + 2 * d) := by
  have := heldSetting_loop d [] k m hk (by simp [mkSetting_len]; omega) h0 (by omega)
  simpa [laws_heldSettingS.f] using this
theorem eqDevice_eq (l : List Int) (s : List S133) (h1 : l.length < 9223372036854775807) (h2 : s.length < 9223372036854775807) {k : Nat} (hk : l.length + s.length < k) : laws_eqDevice.f k l s l s = some true := by
  unfold laws_eqDevice.f
  rw [eqInt_eq l l h1 (by omega), Option.bind_some, if_pos (decide_eq_true rfl), eqSettingS_eq s h2 (by omega), Option.bind_some, if_pos rfl]

theorem FnExactDeviceNew : laws_FnExactDeviceNew.Pure := by
  refine ⟨10, ?_⟩
  have e1 : spec_DeviceNew.f = some (List.replicate 4 0, []) := by unfold spec_DeviceNew.f; rw [if_pos (by omega)]
  have e2 : impl_DeviceNew.f = some (List.replicate 4 0, []) := by unfold impl_DeviceNew.f; rw [if_pos (by omega)]
  have e3 := eqDevice_eq (List.replicate 4 0) [] (by simp) (by simp) (k := 10) (by simp)
  have e4 := markInt_eq (List.replicate 4 0) 1 (by omega) (by simp) (k := 10) (by simp)
  have e5 := markSetting_eq [] (1 + ((List.replicate 4 (0 : Int)).length : Int)) (by simp) (by simp) (k := 10) (by simp)
  have e6 := heldInt_eq 4 1 (by omega) (by omega) (k := 10) (by omega)
  have e7 := heldSetting_eq 0 (1 + 4) (by omega) (by omega) (k := 10) (by omega)
  simp only [List.length_replicate, List.length_nil] at e4 e5
  have e8 : laws_heldDevice.f 10 (mkInt 1 4) (mkSetting (1 + 4) 0) 1 = some 5 := by
    unfold laws_heldDevice.f
    rw [e6, Option.bind_some, if_neg (by omega)]
    have : (1 : Int) + ((4 : Nat) : Int) = 1 + 4 := by omega
    rw [this, e7, Option.bind_some, if_neg (by omega)]
    rfl
  have e9 : laws_markDevice.f 10 (List.replicate 4 0) [] 1 = some (5, mkInt 1 4, mkSetting (1 + 4) 0) := by
    unfold laws_markDevice.f
    rw [e4, Option.bind_some]
    have : (1 : Int) + ((4 : Nat) : Int) = 1 + 4 := by omega
    rw [this] at e5
    simp only
    rw [this, e5, Option.bind_some]
    rfl
  unfold laws_FnExactDeviceNew.f
  rw [e1, Option.bind_some, e2, Option.bind_some]
  simp only
  rw [e3, Option.bind_some, if_pos rfl, e9, Option.bind_some]
  simp only
  rw [e8, Option.bind_some, if_neg (by omega), if_pos rfl, Option.bind_some]
  simp only
  rw [e3, Option.bind_some, if_pos rfl, Option.bind_some, if_neg (by omega), if_pos rfl]

end Go.Proofs.Ytfbndpgbebbljaa.Pure
