/- The pure statement of the law FnDevices: what the printed function comes to is true for every list of bytes. No condition beyond the row's own bounds. -/
import Derived.Test.YtmifaijfogipgaaQFnDevices4
import Derived.OpenShut
namespace Go.Proofs.Ytmifaijfogipgaa.Pure
open Go.RowKit Go.Proofs.Ytmifaijfogipgaa.QFnDevices Go.Proofs.YtmifaijfogipgaaW.PrintWords Go.Proofs.YtmifaijfogipgaaW.PrintLast Go.Proofs.YtmifaijfogipgaaW.PrintMore
set_option linter.unusedVariables false
set_option linter.unusedSimpArgs false
--BLOCKS
theorem wf_b {z : Int} (h : (Lit.int .i64 z).wf = true) : -9223372036854775808 ≤ z ∧ z ≤ 9223372036854775807 := bounds_i64 h
theorem wrap_id {z : Int} (h1 : -9223372036854775808 ≤ z) (h2 : z ≤ 9223372036854775807) : wrap64 z = z := by unfold wrap64; omega
theorem mn_min (a b : Int) : mn a b = min a b := by unfold mn; omega
theorem mx_max (a b : Int) : mx a b = max a b := by unfold mx; omega
theorem in_eq (x lo hi : Int) : spec_l01In.f x lo hi = some (decide (lo ≤ x ∧ x ≤ hi)) := by
  unfold spec_l01In.f; split <;> simp_all <;> omega
theorem within_eq (x lo hi : Int) : impl_within.f x lo hi = some (decide (lo ≤ x ∧ x ≤ hi)) := by
  unfold impl_within.f; split <;> simp_all <;> omega
theorem and255 (n : Int) : Go.bits .and .i64 n 255 = n % 256 := by
  have h255 : (BitVec.ofInt 64 255).toNat = 2 ^ 8 - 1 := by decide
  have key : (BitVec.ofInt 64 n &&& BitVec.ofInt 64 255).toNat = (n % ((2 ^ 64 : Nat) : Int)).toNat % 2 ^ 8 := by
    rw [BitVec.toNat_and, BitVec.toNat_ofInt, h255, Nat.and_two_pow_sub_one_eq_mod]
  show IntKind.i64.wrap ((BitVec.ofInt 64 n &&& BitVec.ofInt 64 255).toNat : Nat) = n % 256
  rw [key, IntKind.wrap_i64]
  omega
/-- The cursor lies within its bytes. -/
def Cur (s : List Int) (i : Int) : Prop := 0 ≤ i ∧ i ≤ s.length ∧ s.length ≤ 140737488351232
theorem byte_ev (s : List Int) (i h : Int) (hc : Cur s i) : ∃ x i' h', spec_l01Byte.f s i h = some (x, i', h') ∧ (0 ≤ x ∧ x ≤ 255) ∧ Cur s i' := by
  obtain ⟨h0, h1, h2⟩ := hc
  unfold spec_l01Byte.f
  split
  · try rw [if_pos h0]
    rw [and255, wrap_id (z := i + 1) (by omega) (by omega)]
    exact ⟨_, _, _, rfl, by omega, by omega, by omega, h2⟩
  · rw [and255]
    exact ⟨_, _, _, rfl, by omega, h0, h1, h2⟩
theorem below_ev (s : List Int) (i h n : Int) (hc : Cur s i) (hn : 0 < n) : ∃ x i' h', spec_l01Below.f s i h n = some (x, i', h') ∧ (0 ≤ x ∧ x < n) ∧ Cur s i' := by
  unfold spec_l01Below.f
  rw [if_neg (by omega)]
  split
  · obtain ⟨x, i1, h1, e1, hx, hc1⟩ := byte_ev s i h hc
    rw [e1]; simp only [Option.bind_some]
    rw [if_neg (by omega)]
    refine ⟨_, _, _, rfl, ?_, hc1⟩
    have := Int.tmod_eq_emod_of_nonneg hx.1 (b := n)
    rw [this]
    exact ⟨Int.emod_nonneg _ (by omega), Int.emod_lt_of_pos _ hn⟩
  · obtain ⟨x, i1, h1, e1, hx, hc1⟩ := byte_ev s i h hc
    obtain ⟨y, i2, h2, e2, hy, hc2⟩ := byte_ev s i1 h1 hc1
    obtain ⟨z, i3, h3, e3, hz, hc3⟩ := byte_ev s i2 h2 hc2
    obtain ⟨v, i4, h4, e4, hv, hc4⟩ := byte_ev s i3 h3 hc3
    rw [e1]; simp only [Option.bind_some]
    rw [e2]; simp only [Option.bind_some]
    rw [e3]; simp only [Option.bind_some]
    rw [e4]; simp only [Option.bind_some]
    rw [if_neg (by omega)]
    refine ⟨_, _, _, rfl, ?_, hc4⟩
    have hw : wrap64 ((wrap64 ((wrap64 ((wrap64 (x * 16777216)) + (wrap64 (y * 65536)))) + (wrap64 (z * 256)))) + v) = x * 16777216 + y * 65536 + z * 256 + v := by
      rw [wrap_id (z := x * 16777216) (by omega) (by omega), wrap_id (z := y * 65536) (by omega) (by omega), wrap_id (z := z * 256) (by omega) (by omega), wrap_id (z := x * 16777216 + y * 65536) (by omega) (by omega), wrap_id (z := x * 16777216 + y * 65536 + z * 256) (by omega) (by omega), wrap_id (by omega) (by omega)]
    rw [hw, Int.tmod_eq_emod_of_nonneg (by omega)]
    exact ⟨Int.emod_nonneg _ (by omega), Int.emod_lt_of_pos _ hn⟩
theorem new_loop (s : List Int) (hs : s.length ≤ 140737488351232) : ∀ (d k i : Nat) (h : Int), i + d = s.length → d < k → ∃ h', spec_l01New.l0 k s h (i : Int) = some (s, 0, h')
  | 0, k, i, h, hi, hk => by
    obtain ⟨k, rfl⟩ : ∃ j, k = j + 1 := ⟨k - 1, by omega⟩
    simp only [spec_l01New.l0]
    rw [if_neg (by omega)]
    exact ⟨_, rfl⟩
  | d + 1, k, i, h, hi, hk => by
    obtain ⟨k, rfl⟩ : ∃ j, k = j + 1 := ⟨k - 1, by omega⟩
    simp only [spec_l01New.l0]
    rw [if_pos (by omega)]
    split
    · rw [if_pos (by omega), wrap_id (z := (i : Int) + 1) (by omega) (by omega)]
      exact new_loop s hs d k (i + 1) _ (by omega) (by omega)
    · exact ⟨_, rfl⟩
/-- A cursor of the call's own, with enough rounds. -/
theorem new_ev (s : List Int) (hs : s.length ≤ 140737488351232) {k : Nat} (hk : s.length < k) : ∃ h', spec_l01New.f k s = some (s, 0, h') := new_loop s hs s.length k 0 _ (by omega) hk
theorem cur0 {s : List Int} (hs : s.length ≤ 140737488351232) : Cur s 0 := ⟨by omega, by omega, hs⟩
theorem rd_mem {t : List Int} {i : Int} (h0 : 0 ≤ i) (h1 : i < t.length) : rd t i ∈ t := by
  unfold rd
  rw [List.getD_eq_getElem?_getD, List.getElem?_eq_getElem (by omega)]
  exact List.getElem_mem _
theorem pick_ev (s : List Int) (i h : Int) (l : List Int) (hc : Cur s i) (hl : 0 < l.length) : ∃ x i' h', spec_l01PickInt.f s i h l = some (x, i', h') ∧ x ∈ l ∧ Cur s i' := by
  obtain ⟨x, i', h', e, hx, hc'⟩ := below_ev s i h (l.length : Int) hc (by omega)
  unfold spec_l01PickInt.f
  rw [e]; simp only [Option.bind_some]
  rw [if_pos hx.1, if_pos hx.2]
  exact ⟨_, _, _, rfl, rd_mem hx.1 hx.2, hc'⟩
theorem rd_mid (pre : List Int) (a : Int) (suf : List Int) : rd (pre ++ a :: suf) (pre.length : Int) = a := by simp [rd]
theorem len_mid {α : Type} (pre : List α) (a : α) (suf : List α) : (pre ++ a :: suf).length = (pre ++ [a]).length + suf.length := by simp; omega
theorem app_mid {α : Type} (pre : List α) (a : α) (suf : List α) : pre ++ a :: suf = (pre ++ [a]) ++ suf := by simp
theorem wrap_len {α : Type} {pre : List α} {a : α} (h : pre.length < 9223372036854775807) : wrap64 ((pre.length : Int) + 1) = ((pre ++ [a]).length : Int) := by
  rw [wrap_id (by omega) (by omega)]; simp
theorem pred {d k : Nat} (h : d < k) : ∃ j, k = j + 1 := ⟨k - 1, by omega⟩
theorem equal_loop : ∀ (s1 s2 pre : List Int) (k : Nat), s1.length < k → s2.length = s1.length → (pre ++ s1).length < 9223372036854775807 → slices_Equal_int_int.l0 k (pre ++ s1) (pre ++ s2) ((pre ++ s1).length : Int) (pre.length : Int) = some (decide (s1 = s2))
  | [], s2, pre, k, hk, hr, hb => by
    obtain ⟨k, rfl⟩ := pred hk
    obtain rfl : s2 = [] := List.length_eq_zero_iff.1 hr
    simp only [slices_Equal_int_int.l0]
    rw [if_neg (by simp)]; simp
  | a :: s1, b :: s2, pre, k, hk, hr, hb => by
    obtain ⟨k, rfl⟩ := pred hk
    have hl : (pre ++ a :: s1).length = pre.length + s1.length + 1 := by simp; omega
    have hl2 : (pre ++ b :: s2).length = pre.length + s2.length + 1 := by simp; omega
    simp only [slices_Equal_int_int.l0]
    rw [if_pos (by omega), if_pos (by omega), if_pos (by omega), if_pos (by simp at hr; omega), rd_mid, rd_mid]
    by_cases hab : a = b
    · subst hab
      have ih := equal_loop s1 s2 (pre ++ [a]) k (by simpa using hk) (by simpa using hr) (by simpa using hb)
      rw [if_pos rfl, wrap_len (a := a) (by omega), app_mid, app_mid pre a s2, ih]
      simp
    · rw [if_neg hab]; simp [hab]
  | _ :: _, [], _, _, _, hr, _ => by simp at hr
theorem equal_eq (l m : List Int) (hl : l.length < 9223372036854775807) {k : Nat} (hk : l.length < k) : slices_Equal_int_int.f k l m = some (decide (l = m)) := by
  unfold slices_Equal_int_int.f
  by_cases h : l.length = m.length
  · rw [if_pos (by omega)]
    have := equal_loop l m [] k hk h.symm (by simpa using hl)
    simpa using this
  · rw [if_neg (by omega), decide_eq_false (fun e => h (by rw [e]))]
theorem clone_eq (l : List Int) (hl : l.length ≤ 1048576) : slices_Clone_int_int.f l = some l := by
  unfold slices_Clone_int_int.f
  rw [Option.bind_some, if_pos (by simp; omega), List.nil_append]
def isValM (x : Int) : Bool := decide (-1000000 ≤ x ∧ x ≤ 1000000)
def valsM (l : List Int) : Bool := l.all isValM
theorem iIsV (x : Int) : impl_IsValue.f x = some (isValM x) := by
  unfold impl_IsValue.f isValM
  rw [within_eq, Option.bind_some]
theorem iVals_loop : ∀ (suf pre : List Int) (k : Nat), suf.length < k → (pre ++ suf).length < 9223372036854775807 → impl_areValues.l0 k (pre ++ suf) (pre.length : Int) = some (valsM suf)
  | [], pre, k, hk, hb => by
    obtain ⟨k, rfl⟩ := pred hk
    simp only [impl_areValues.l0]
    rw [if_neg (by simp)]; rfl
  | a :: suf, pre, k, hk, hb => by
    obtain ⟨k, rfl⟩ := pred hk
    have hl : (pre ++ a :: suf).length = pre.length + suf.length + 1 := by simp; omega
    have ih := iVals_loop suf (pre ++ [a]) k (by simpa using hk) (by simpa using hb)
    simp only [impl_areValues.l0]
    rw [if_pos (by omega), if_pos (by omega), rd_mid, iIsV, Option.bind_some, wrap_len (a := a) (by omega), app_mid, ih]
    unfold valsM
    rw [List.all_cons]
    cases isValM a <;> simp
theorem iVals_eq (l : List Int) (hl : l.length < 9223372036854775807) {k : Nat} (hk : l.length < k) : impl_areValues.f k l = some (valsM l) := by
  have := iVals_loop l [] k hk (by simpa using hl)
  simpa [impl_areValues.f] using this
theorem sIsV (x : Int) : spec_IsValue.f x = some (isValM x) := by
  unfold spec_IsValue.f isValM
  rw [in_eq, Option.bind_some]
theorem sVals_loop : ∀ (suf pre : List Int) (k : Nat), suf.length < k → (pre ++ suf).length < 9223372036854775807 → spec_l09Values.l0 k (pre ++ suf) (pre.length : Int) = some (valsM suf)
  | [], pre, k, hk, hb => by
    obtain ⟨k, rfl⟩ := pred hk
    simp only [spec_l09Values.l0]
    rw [if_neg (by simp)]; rfl
  | a :: suf, pre, k, hk, hb => by
    obtain ⟨k, rfl⟩ := pred hk
    have hl : (pre ++ a :: suf).length = pre.length + suf.length + 1 := by simp; omega
    have ih := sVals_loop suf (pre ++ [a]) k (by simpa using hk) (by simpa using hb)
    simp only [spec_l09Values.l0]
    rw [if_pos (by omega), if_pos (by omega), rd_mid, sIsV, Option.bind_some, wrap_len (a := a) (by omega), app_mid, ih]
    unfold valsM
    rw [List.all_cons]
    cases isValM a <;> simp
theorem sVals_eq (l : List Int) (hl : l.length < 9223372036854775807) {k : Nat} (hk : l.length < k) : spec_l09Values.f k l = some (valsM l) := by
  have := sVals_loop l [] k hk (by simpa using hl)
  simpa [spec_l09Values.f] using this
/-- Settings in order, each behind port p. -/
def setM : Int → List S56 → Bool
  | _, [] => true
  | p, x :: s => decide (p + 1 ≤ x.f0 ∧ x.f0 ≤ 3) && isValM x.f1 && setM x.f0 s
def devM (l : List Int) (s : List S56) : Bool := decide (l.length = 4) && valsM l && setM (-1) s
theorem setM_mem : ∀ (s : List S56) (p : Int), -1 ≤ p → setM p s = true → ∀ x ∈ s, 0 ≤ x.f0 ∧ x.f0 ≤ 3
  | [], _, _, _ => by simp
  | x :: s, p, hp, h => by
    unfold setM at h
    simp only [Bool.and_eq_true, decide_eq_true_eq] at h
    intro y hy
    rcases List.mem_cons.1 hy with rfl | hy
    · omega
    · exact setM_mem s x.f0 (by omega) h.2 y hy
theorem rdD_mid (pre : List S56) (a : S56) (suf : List S56) : rd_T56 (pre ++ a :: suf) (pre.length : Int) = a := by simp [rd_T56]
theorem iSet_eq (a b : Int) : impl_isSetting.f a b = some (decide (0 ≤ a ∧ a ≤ 3) && isValM b) := by
  unfold impl_isSetting.f
  rw [within_eq, Option.bind_some]
  by_cases h : 0 ≤ a ∧ a ≤ 3
  · rw [if_pos (decide_eq_true h), iIsV, Option.bind_some, decide_eq_true h]; rfl
  · rw [if_neg (by simpa using h), decide_eq_false h]; rfl
theorem iDev_loop (l : List Int) (hl : l.length < 9223372036854775807) : ∀ (suf pre : List S56) (k : Nat) (p : Int), l.length + suf.length + 1 < k → (pre ++ suf).length < 9223372036854775807 → ((pre = [] ∧ p = -1) ∨ ∃ pr q, pre = pr ++ [q] ∧ q.f0 = p ∧ 0 ≤ p) → impl_DeviceOk.l0 k (pre ++ suf) ((pre ++ suf).length : Int) (pre.length : Int) l (pre ++ suf) = some (decide (l.length = 4) && valsM l && setM p suf)
  | [], pre, k, p, hk, hb, hp => by
    obtain ⟨k, rfl⟩ := pred hk
    simp only [impl_DeviceOk.l0]
    rw [if_neg (by simp)]
    by_cases h4 : l.length = 4
    · rw [if_pos (by omega), iVals_eq l hl (by simp at hk; omega), Option.bind_some]; simp [h4, setM]
    · rw [if_neg (by omega)]; simp [h4]
  | a :: suf, pre, k, p, hk, hb, hp => by
    obtain ⟨k, rfl⟩ := pred hk
    have hlen : (pre ++ a :: suf).length = pre.length + suf.length + 1 := by simp; omega
    have hk' : l.length + suf.length + 1 < k := by simp at hk; omega
    have ih := fun h0 => iDev_loop l hl suf (pre ++ [a]) k a.f0 hk' (by simpa using hb) (.inr ⟨pre, a, rfl, rfl, h0⟩)
    rw [← app_mid] at ih
    simp only [impl_DeviceOk.l0]
    rw [if_pos (by omega), if_pos (by omega), if_pos (by omega), rdD_mid, iSet_eq, Option.bind_some]
    unfold setM
    by_cases h1 : 0 ≤ a.f0 ∧ a.f0 ≤ 3
    · cases hv : isValM a.f1 with
      | false => rw [if_neg (by simp)]; simp
      | true =>
        rw [if_pos (by simp [h1])]
        rcases hp with ⟨rfl, rfl⟩ | ⟨pr, q, rfl, rfl, hq⟩
        · rw [if_neg (by simp), wrap_len (a := a) (by omega), ih h1.1, decide_eq_true (show -1 + 1 ≤ a.f0 ∧ a.f0 ≤ 3 by omega)]; simp
        · have e : ((pr ++ [q]).length : Int) - 1 = (pr.length : Int) := by simp
          have hlp : (pr ++ [q]).length = pr.length + 1 := by simp
          have hr : rd_T56 (pr ++ [q] ++ a :: suf) (pr.length : Int) = q := by rw [← app_mid, rdD_mid]
          rw [if_pos (by omega), e, wrap_id (z := (pr.length : Int)) (by omega) (by omega), if_pos (by omega), if_pos (by omega), hr]
          by_cases h2 : a.f0 ≤ q.f0
          · rw [if_pos h2, decide_eq_false (show ¬ (q.f0 + 1 ≤ a.f0 ∧ a.f0 ≤ 3) by omega)]; simp
          · rw [if_neg h2, wrap_len (a := a) (by omega), ih h1.1, decide_eq_true (show q.f0 + 1 ≤ a.f0 ∧ a.f0 ≤ 3 by omega)]; simp
    · rw [if_neg (by simp [h1])]
      have : ¬ (p + 1 ≤ a.f0 ∧ a.f0 ≤ 3) := by
        rcases hp with ⟨_, rfl⟩ | ⟨_, _, _, _, h⟩ <;> omega
      rw [decide_eq_false this]; simp
theorem iDev_eq (l : List Int) (s : List S56) (hl : l.length < 9223372036854775807) (hs : s.length < 9223372036854775807) {k : Nat} (hk : l.length + s.length + 1 < k) : impl_DeviceOk.f k l s = some (devM l s) := by
  have := iDev_loop l hl s [] k (-1) hk (by simpa using hs) (.inl ⟨rfl, rfl⟩)
  simpa [impl_DeviceOk.f, devM] using this
theorem sDev_loop (l : List Int) : ∀ (suf pre : List S56) (k : Nat) (p : Int), suf.length < k → (pre ++ suf).length < 9223372036854775807 → -1 ≤ p → p ≤ 3 → spec_DeviceOk.l0 k p (pre.length : Int) l (pre ++ suf) = some (setM p suf)
  | [], pre, k, p, hk, hb, h1, h2 => by
    obtain ⟨k, rfl⟩ := pred hk
    simp only [spec_DeviceOk.l0]
    rw [if_neg (by simp)]; simp [setM]
  | a :: suf, pre, k, p, hk, hb, h1, h2 => by
    obtain ⟨k, rfl⟩ := pred hk
    have hlen : (pre ++ a :: suf).length = pre.length + suf.length + 1 := by simp; omega
    have ih := fun h0 h3 => sDev_loop l suf (pre ++ [a]) k a.f0 (by simpa using hk) (by simpa using hb) h0 h3
    rw [← app_mid] at ih
    simp only [spec_DeviceOk.l0]
    rw [if_pos (by omega), if_pos (by omega), rdD_mid, wrap_id (z := p + 1) (by omega) (by omega), in_eq, Option.bind_some]
    unfold setM
    by_cases h : p + 1 ≤ a.f0 ∧ a.f0 ≤ 3
    · rw [if_pos (decide_eq_true h), sIsV, Option.bind_some, decide_eq_true h]
      cases isValM a.f1 with
      | false => simp
      | true => rw [if_pos rfl, wrap_len (a := a) (by omega), ih (by omega) (by omega)]; simp
    · rw [if_neg (by simpa using h), decide_eq_false h]; simp
theorem sDev_eq (l : List Int) (s : List S56) (hl : l.length < 9223372036854775807) (hs : s.length < 9223372036854775807) {k : Nat} (hk : l.length + s.length + 1 < k) : spec_DeviceOk.f k l s = some (devM l s) := by
  obtain ⟨k, rfl⟩ : ∃ j, k = j + 1 := ⟨k - 1, by omega⟩
  unfold spec_DeviceOk.f devM
  by_cases h4 : l.length = 4
  · rw [if_pos (by omega), sVals_eq l hl (by omega), Option.bind_some]
    simp only [spec_DeviceOk.j0]
    cases valsM l with
    | false => simp
    | true =>
      have := sDev_loop l s [] k (-1) (by omega) (by simpa using hs) (by omega) (by omega)
      simp only [List.nil_append, List.length_nil] at this
      simp [h4]
      exact this
  · rw [if_neg (by omega)]
    simp only [spec_DeviceOk.j0]
    simp [h4]
theorem cloneSet_eq (s : List S56) (hs : s.length ≤ 1048576) : impl_Setting.f s = some s := by
  unfold impl_Setting.f
  rw [Option.bind_some, if_pos (by simp; omega), List.nil_append]
theorem copyDevice_eq (l : List Int) (s : List S56) (hl : l.length ≤ 1048576) (hs : s.length ≤ 1048576) : impl_copyDevice.f l s = some (l, s) := by
  unfold impl_copyDevice.f
  rw [clone_eq l hl, Option.bind_some, cloneSet_eq s hs, Option.bind_some]
theorem sCopyDev_eq (l : List Int) (s : List S56) (hl : l.length ≤ 1048576) (hs : s.length ≤ 1048576) : spec_l26Copy.f l s = some (l, s) := by
  unfold spec_l26Copy.f
  rw [Option.bind_some, if_pos (by simp; omega), Option.bind_some, if_pos (by simp; omega), List.nil_append, List.nil_append]
def putS (p : List Int) (x : S56) : List Int := p.set x.f0.toNat x.f1
def restM (l : List Int) (s : List S56) : List Int := if devM l s = true then s.foldl putS l else l
theorem put_len (s : List S56) : ∀ (l : List Int), (s.foldl putS l).length = l.length := by
  induction s with
  | nil => exact fun _ => rfl
  | cons a s ih => intro l; rw [List.foldl_cons, ih]; simp [putS]
theorem restM_len (l : List Int) (s : List S56) : (restM l s).length = l.length := by
  unfold restM; split
  · exact put_len s l
  · rfl
theorem iRest_loop (d : List S56) : ∀ (suf pre : List S56) (k : Nat) (l : List Int), suf.length < k → (pre ++ suf).length < 9223372036854775807 → l.length = 4 → (∀ x ∈ suf, 0 ≤ x.f0 ∧ x.f0 ≤ 3) → impl_Restore.l0 k (pre ++ suf) ((pre ++ suf).length : Int) (pre.length : Int) l d = some (suf.foldl putS l, d)
  | [], pre, k, l, hk, hb, h4, hx => by
    obtain ⟨k, rfl⟩ := pred hk
    simp only [impl_Restore.l0]
    rw [if_neg (by simp)]; rfl
  | a :: suf, pre, k, l, hk, hb, h4, hx => by
    obtain ⟨k, rfl⟩ := pred hk
    have hlen : (pre ++ a :: suf).length = pre.length + suf.length + 1 := by simp; omega
    have ha := hx a (by simp)
    have ih := iRest_loop d suf (pre ++ [a]) k (putS l a) (by simpa using hk) (by simpa using hb) (by simp [putS, h4]) (fun x h => hx x (by simp [h]))
    rw [← app_mid] at ih
    simp only [impl_Restore.l0]
    rw [if_pos (by omega), if_pos (by omega), if_pos (by omega), rdD_mid, if_pos (by omega), if_pos (by omega), wrap_len (a := a) (by omega)]
    exact ih
theorem iRest_eq (l : List Int) (s : List S56) (hl : l.length ≤ 1048576) (hs : s.length ≤ 1048576) {k : Nat} (hk : l.length + s.length + 1 < k) : impl_Restore.f k l s = some (restM l s, s) := by
  unfold impl_Restore.f restM
  rw [copyDevice_eq l s hl hs, Option.bind_some, iDev_eq l s (by omega) (by omega) hk, Option.bind_some]
  by_cases h : devM l s = true
  · rw [if_pos h, if_pos h]
    unfold devM at h
    simp only [Bool.and_eq_true, decide_eq_true_eq] at h
    have := iRest_loop s s [] k l (by omega) (by simp; omega) h.1.1 (setM_mem s (-1) (by omega) h.2)
    simpa using this
  · rw [if_neg h, if_neg h]
def powM (l : List Int) (s : List S56) : List Int := if devM l s = true then List.replicate 4 0 else l
theorem powM_len (l : List Int) (s : List S56) : (powM l s).length = l.length := by
  unfold powM; split
  · rename_i h
    unfold devM at h
    simp only [Bool.and_eq_true, decide_eq_true_eq] at h
    rw [h.1.1]; rfl
  · rfl
theorem iPow_eq (l : List Int) (s : List S56) (hl : l.length ≤ 1048576) (hs : s.length ≤ 1048576) {k : Nat} (hk : l.length + s.length + 1 < k) : impl_PowerFail.f k l s = some (powM l s, s) := by
  unfold impl_PowerFail.f powM
  rw [copyDevice_eq l s hl hs, Option.bind_some, iDev_eq l s (by omega) (by omega) hk, Option.bind_some]
  by_cases h : devM l s = true
  · rw [if_pos h, if_pos h]
    unfold devM at h
    simp only [Bool.and_eq_true, decide_eq_true_eq] at h
    simp only
    rw [if_pos (by omega)]
  · rw [if_neg h, if_neg h]
def isrM (l : List Int) (s : List S56) : Bool := devM l s && decide (restM (powM l s) s = l)
theorem iIsr_eq (l : List Int) (s : List S56) (hl : l.length ≤ 1048576) (hs : s.length ≤ 1048576) {k : Nat} (hk : l.length + s.length + 1 < k) : impl_IsRestored.f k l s = some (isrM l s) := by
  unfold impl_IsRestored.f isrM
  have h1 := powM_len l s
  have h2 := restM_len (powM l s) s
  rw [iDev_eq l s (by omega) (by omega) hk, Option.bind_some]
  cases devM l s with
  | false => simp
  | true => rw [if_pos rfl, iPow_eq l s hl hs hk, Option.bind_some]; simp only; rw [iRest_eq _ s (by omega) hs (by omega), Option.bind_some]; simp only; rw [equal_eq _ l (by omega) (by omega), Option.bind_some]; rfl
/-- A setting kept in a list in order. -/
def keepM (r v : Int) : List S56 → List S56
  | [] => [⟨r, v⟩]
  | x :: s => if x.f0 < r then x :: keepM r v s else if x.f0 = r then ⟨r, v⟩ :: s else ⟨r, v⟩ :: x :: s
theorem keepM_len (r v : Int) : ∀ s : List S56, (keepM r v s).length ≤ s.length + 1 ∧ s.length ≤ (keepM r v s).length
  | [] => by simp [keepM]
  | x :: s => by
    have := keepM_len r v s
    unfold keepM
    split
    · simp; omega
    · split <;> simp
theorem keepM_ok (r v : Int) (hv : isValM v = true) (h3 : r ≤ 3) : ∀ (s : List S56) (p : Int), p + 1 ≤ r → setM p s = true → setM p (keepM r v s) = true
  | [], p, hp, _ => by simp [keepM, setM, hv]; omega
  | x :: s, p, hp, h => by
    unfold setM at h
    simp only [Bool.and_eq_true, decide_eq_true_eq] at h
    unfold keepM
    split
    · rename_i h1
      unfold setM
      simp only [Bool.and_eq_true, decide_eq_true_eq]
      exact ⟨h.1, keepM_ok r v hv h3 s x.f0 (by omega) h.2⟩
    · split
      · rename_i h1 h2
        unfold setM
        simp only [Bool.and_eq_true, decide_eq_true_eq]
        exact ⟨⟨⟨hp, h3⟩, hv⟩, by rw [← h2]; exact h.2⟩
      · rename_i h1 h2
        unfold setM
        simp only [Bool.and_eq_true, decide_eq_true_eq]
        refine ⟨⟨⟨hp, h3⟩, hv⟩, ?_⟩
        unfold setM
        simp only [Bool.and_eq_true, decide_eq_true_eq]
        exact ⟨⟨⟨by omega, h.1.1.2⟩, h.1.2⟩, h.2⟩
theorem sPut_loop (r v : Int) : ∀ (suf pre : List S56) (k : Nat), suf.length < k → (pre ++ suf).length ≤ 1048576 → spec_l26Put.l0 k (pre ++ suf) (pre.length : Int) r v = some (pre ++ keepM r v suf)
  | [], pre, k, hk, hb => by
    obtain ⟨k, rfl⟩ := pred hk
    have hb' : pre.length ≤ 1048576 := by simpa using hb
    simp only [spec_l26Put.l0]
    rw [if_neg (by simp), Option.bind_some, if_pos (by omega), if_pos (by simp), List.append_nil, Int.toNat_natCast, List.take_length, List.drop_length, Option.bind_some, if_pos (by simp; omega), Option.bind_some, if_pos (by simp; omega), Option.bind_some, Option.bind_some, if_pos (by simp; omega)]
    simp [keepM]
  | a :: suf, pre, k, hk, hb => by
    obtain ⟨k, rfl⟩ := pred hk
    have hlen : (pre ++ a :: suf).length = pre.length + suf.length + 1 := by simp; omega
    have ih := sPut_loop r v suf (pre ++ [a]) k (by simpa using hk) (by simpa using hb)
    rw [← app_mid] at ih
    simp only [spec_l26Put.l0]
    rw [if_pos (by omega), if_pos (by omega), rdD_mid]
    unfold keepM
    by_cases h1 : a.f0 < r
    · rw [if_pos h1, if_pos h1, wrap_len (a := a) (by omega), ih]; simp
    · have ht : (pre ++ a :: suf).take pre.length = pre := by simp
      have hd : (pre ++ a :: suf).drop pre.length = a :: suf := by simp
      have hw : wrap64 ((pre.length : Int) + 1) = ((pre.length + 1 : Nat) : Int) := by rw [wrap_id (by omega) (by omega)]; omega
      have hd1 : (pre ++ a :: suf).drop (pre.length + 1) = suf := by rw [← List.drop_drop, hd]; rfl
      rw [if_neg h1, if_neg h1, Option.bind_some, if_pos (by omega), Option.bind_some, Int.toNat_natCast, ht, List.nil_append, if_pos (by simp; omega), Option.bind_some, if_pos (by omega), Option.bind_some]
      by_cases h2 : a.f0 = r
      · rw [if_pos h2, if_pos h2, hw, if_pos (by omega), if_pos (by omega), Int.toNat_natCast, hd1, Option.bind_some, if_pos (by simp; omega)]; simp
      · rw [if_neg h2, if_neg h2, hd, Option.bind_some, if_pos (by simp; omega)]; simp
theorem sPut_eq (r v : Int) (s : List S56) (hs : s.length ≤ 1048576) {k : Nat} (hk : s.length < k) : spec_l26Put.f k s r v = some (keepM r v s) := by
  have := sPut_loop r v s [] k hk (by simpa using hs)
  simpa [spec_l26Put.f] using this
def confM (l : List Int) (s : List S56) (r v n : Int) : List Int × List S56 × Bool :=
  if devM l s = true ∧ (0 ≤ r ∧ r ≤ 3) ∧ isValM v = true ∧ (0 ≤ n ∧ n ≤ 2) then (if n = 2 then l.set r.toNat v else l, if n ≥ 1 then keepM r v s else s, true) else (l, s, false)
theorem sConf_eq (l : List Int) (s : List S56) (r v n : Int) (hl : l.length ≤ 1048576) (hs : s.length ≤ 1048576) {k : Nat} (hk : l.length + s.length + 2 < k) : spec_Configure.f k l s r v n = some (confM l s r v n) := by
  obtain ⟨k, rfl⟩ : ∃ j, k = j + 1 := ⟨k - 1, by omega⟩
  unfold spec_Configure.f confM
  rw [sCopyDev_eq l s hl hs, Option.bind_some, sDev_eq l s (by omega) (by omega) (by omega), Option.bind_some]
  simp only
  have bad : spec_Configure.j0 (k + 1) n true r v l s = some (l, s, false) := by simp [spec_Configure.j0]
  by_cases h1 : devM l s = true
  · rw [if_pos h1, in_eq, Option.bind_some]
    by_cases h2 : 0 ≤ r ∧ r ≤ 3
    · rw [if_pos (decide_eq_true h2), sIsV, Option.bind_some]
      by_cases h3 : isValM v = true
      · rw [if_pos h3, in_eq, Option.bind_some]
        by_cases h4 : 0 ≤ n ∧ n ≤ 2
        · rw [if_pos ⟨h1, h2, h3, h4⟩, decide_eq_true h4]
          have hl4 : l.length = 4 := by
            unfold devM at h1
            simp only [Bool.and_eq_true, decide_eq_true_eq] at h1
            exact h1.1.1
          simp only [spec_Configure.j0, Bool.not_true, Bool.false_eq_true, if_false]
          by_cases g1 : n ≥ 1
          · rw [if_pos g1, if_pos g1, sPut_eq r v s hs (by omega), Option.bind_some]
            by_cases g2 : n = 2
            · rw [if_pos g2, if_pos g2, if_pos h2.1, if_pos (by omega)]
            · rw [if_neg g2, if_neg g2]
          · rw [if_neg g1, if_neg g1, if_neg (by omega), if_neg (by omega)]
        · rw [decide_eq_false h4, if_neg (fun h => h4 h.2.2.2)]; exact bad
      · rw [if_neg h3, if_neg (fun h => h3 h.2.2.1)]; exact bad
    · rw [if_neg (by simpa using h2), if_neg (fun h => h2 h.2.1)]; exact bad
  · rw [if_neg h1, if_neg (fun h => h1 h.1)]; exact bad
theorem vals_set {l : List Int} (h : valsM l = true) (i : Nat) {v : Int} (hv : isValM v = true) : valsM (l.set i v) = true := by
  unfold valsM at *
  rw [List.all_eq_true] at *
  intro x hx
  rcases List.mem_or_eq_of_mem_set hx with hx | rfl
  · exact h x hx
  · exact hv
theorem confM_ok (l : List Int) (s : List S56) (r v n : Int) (h : devM l s = true) : devM (confM l s r v n).1 (confM l s r v n).2.1 = true ∧ (confM l s r v n).2.1.length ≤ s.length + 1 := by
  have hd := h
  unfold confM
  split
  · rename_i g
    unfold devM at h
    simp only [Bool.and_eq_true, decide_eq_true_eq] at h
    have hk := keepM_len r v s
    refine ⟨?_, by simp only; split <;> omega⟩
    unfold devM
    simp only [Bool.and_eq_true, decide_eq_true_eq]
    refine ⟨⟨?_, ?_⟩, ?_⟩
    · split
      · simpa using h.1.1
      · exact h.1.1
    · split
      · exact vals_set h.1.2 _ g.2.2.1
      · exact h.1.2
    · split
      · exact keepM_ok r v g.2.2.1 g.2.1.2 s (-1) (by omega) h.2
      · exact h.2
  · exact ⟨hd, by simp only; omega⟩
theorem isVal_small {x : Int} (h : 0 ≤ x ∧ x < 1000) : isValM x = true := by unfold isValM; exact decide_eq_true (by omega)
theorem drawDev_loop (t : List Int) : ∀ (d i : Nat) (k : Nat) (c h : Int) (l : List Int) (s : List S56), i + d = 5 → d + 40 < k → Cur t c → devM l s = true → s.length ≤ i → ∃ l' s' c' h', spec_l26Device.l0 k (i : Int) t c h l s = some (l', s', c', h') ∧ devM l' s' = true ∧ s'.length ≤ 10
  | d, i, k, c, h, l, s, hi, hk, hc, hd, hs => by
    obtain ⟨k, rfl⟩ := pred hk
    have hl4 : l.length = 4 := by
      unfold devM at hd
      simp only [Bool.and_eq_true, decide_eq_true_eq] at hd
      exact hd.1.1
    simp only [spec_l26Device.l0]
    obtain ⟨x, c1, h1, e1, hx, hc1⟩ := below_ev t c h 5 hc (by omega)
    rw [e1, Option.bind_some]
    simp only
    by_cases hxi : (i : Int) < x
    · obtain ⟨r, c2, h2, e2, hr, hc2⟩ := below_ev t c1 h1 4 hc1 (by omega)
      obtain ⟨v, c3, h3, e3, hv, hc3⟩ := below_ev t c2 h2 90 hc2 (by omega)
      obtain ⟨n, c4, h4, e4, hn, hc4⟩ := pick_ev t c3 h3 [2, 2, 1] hc3 (by simp)
      rw [if_pos hxi, e2, Option.bind_some]
      simp only
      rw [e3, Option.bind_some]
      simp only
      rw [e4, Option.bind_some]
      simp only
      rw [sConf_eq l s r v n (by omega) (by omega) (by omega), Option.bind_some]
      have ho := confM_ok l s r v n hd
      generalize confM l s r v n = C at *
      obtain ⟨l1, s1, b1⟩ := C
      simp only at ho ⊢
      match d, hi with
      | 0, hi => exfalso; omega
      | d + 1, hi =>
        rw [wrap_id (z := (i : Int) + 1) (by omega) (by omega)]
        exact drawDev_loop t d (i + 1) k c4 h4 l1 s1 (by omega) (by omega) hc4 ho.1 (by omega)
    · rw [if_neg hxi]
      unfold spec_l01Once.f
      obtain ⟨y, c2, h2, e2, hy, hc2⟩ := below_ev t c1 h1 4 hc1 (by omega)
      rw [e2, Option.bind_some, Option.bind_some]
      simp only
      by_cases hy0 : (y == 0) = true
      · obtain ⟨r, c3, h3, e3, hr, hc3⟩ := below_ev t c2 h2 4 hc2 (by omega)
        obtain ⟨v, c4, h4, e4, hv, hc4⟩ := below_ev t c3 h3 9 hc3 (by omega)
        rw [if_pos hy0, e3, Option.bind_some]
        simp only
        rw [e4, Option.bind_some]
        simp only
        rw [if_pos hr.1, if_pos (by omega)]
        refine ⟨_, _, _, _, rfl, ?_, by omega⟩
        unfold devM at hd ⊢
        simp only [Bool.and_eq_true, decide_eq_true_eq] at hd ⊢
        exact ⟨⟨by simpa using hd.1.1, vals_set hd.1.2 _ (isVal_small (by omega))⟩, hd.2⟩
      · rw [if_neg hy0]
        exact ⟨_, _, _, _, rfl, hd, by omega⟩
theorem drawDev_ev (t : List Int) (ht : t.length ≤ 140737488351232) {k : Nat} (hk : t.length + 60 < k) : ∃ l s, spec_DrawDevice.f k t = some (l, s) ∧ devM l s = true ∧ s.length ≤ 10 := by
  obtain ⟨h, e⟩ := new_ev t ht (k := k) (by omega)
  unfold spec_DrawDevice.f
  rw [e, Option.bind_some]
  simp only
  unfold spec_l26Device.f spec_DeviceNew.f
  rw [if_pos (by omega), Option.bind_some]
  simp only
  obtain ⟨l', s', c', h', e2, hd, hs⟩ := drawDev_loop t 5 0 k 0 h (List.replicate 4 0) [] (by omega) (by omega) (cur0 ht) (by decide) (by simp)
  have e2' : spec_l26Device.l0 k 0 t 0 h (List.replicate 4 0) [] = some (l', s', c', h') := e2
  rw [e2', Option.bind_some]
  exact ⟨l', s', rfl, hd, hs⟩
theorem sameInts_loop : ∀ (s1 pre : List Int) (k : Nat), s1.length < k → (pre ++ s1).length < 9223372036854775807 → laws_sameInts.l0 k (pre ++ s1) (pre ++ s1) (pre.length : Int) = some true
  | [], pre, k, hk, hb => by
    obtain ⟨k, rfl⟩ := pred hk
    simp only [laws_sameInts.l0]
    rw [if_neg (by simp)]
  | a :: s1, pre, k, hk, hb => by
    obtain ⟨k, rfl⟩ := pred hk
    have hl : (pre ++ a :: s1).length = pre.length + s1.length + 1 := by simp; omega
    have ih := sameInts_loop s1 (pre ++ [a]) k (by simpa using hk) (by simpa using hb)
    simp only [laws_sameInts.l0]
    rw [if_pos (by omega), if_pos (by omega), if_pos (by omega), if_pos trivial, wrap_len (a := a) (by omega), app_mid, ih]
theorem sameInts_self (l : List Int) (hl : l.length < 9223372036854775807) {k : Nat} (hk : l.length < k) : laws_sameInts.f k l l = some true := by
  unfold laws_sameInts.f
  rw [if_pos rfl]
  have := sameInts_loop l [] k hk (by simpa using hl)
  simpa using this

theorem FnDevices : laws_FnDevices.Pure := by
  intro t hm h8 hw
  have ht : t.length ≤ 140737488351232 := by omega
  obtain ⟨l, s, e1, hd, hs⟩ := drawDev_ev t ht (k := t.length + 200) (by omega)
  refine ⟨t.length + 200, ?_⟩
  unfold laws_FnDevices.f laws_big.f
  rw [Option.bind_some]
  by_cases hbig : decide ((t.length : Int) > 1048576) = true
  · rw [if_pos hbig]
  have hdd := hd
  unfold devM at hdd
  simp only [Bool.and_eq_true, decide_eq_true_eq] at hdd
  obtain ⟨⟨hl4, hv⟩, hset⟩ := hdd
  have hp : powM l s = List.replicate 4 0 := by unfold powM; rw [if_pos hd]
  have hd0 : devM (List.replicate 4 0) s = true := by
    unfold devM
    simp only [Bool.and_eq_true, decide_eq_true_eq]
    exact ⟨⟨rfl, by decide⟩, hset⟩
  have hr1 : restM (List.replicate 4 0) s = s.foldl putS (List.replicate 4 0) := by unfold restM; rw [if_pos hd0]
  have hsv : ∀ (q : List _) (p : Int) (m : List Int), setM p q = true → valsM m = true → valsM (q.foldl putS m) = true := by
    intro q
    induction q with
    | nil => exact fun _ _ _ h => h
    | cons x q ih =>
      intro p m h hm
      unfold setM at h
      simp only [Bool.and_eq_true, decide_eq_true_eq] at h
      exact ih x.f0 _ h.2 (vals_set hm _ h.1.2)
  have hpl := put_len s (List.replicate 4 0)
  rw [List.length_replicate] at hpl
  have hR : ∃ R, s.foldl putS (List.replicate 4 0) = R ∧ R.length = 4 ∧ valsM R = true := ⟨_, rfl, hpl, hsv s (-1) _ hset (by decide)⟩
  obtain ⟨R, hRe, hRl, hRv⟩ := hR
  have hdR : devM R s = true := by
    unfold devM
    simp only [Bool.and_eq_true, decide_eq_true_eq]
    exact ⟨⟨hRl, hRv⟩, hset⟩
  have hpR : powM R s = List.replicate 4 0 := by unfold powM; rw [if_pos hdR]
  have hI : isrM R s = true := by
    unfold isrM
    rw [hdR, hpR, hr1, hRe]; simp
  have hidem : ∀ (q : List _) (p : Int) (m : List Int), setM p q = true → -1 ≤ p → q.foldl putS (q.foldl putS m) = q.foldl putS m := by
    have hcomm : ∀ (q : List _) (p : Int) (m : List Int) (i : Nat) (v : Int), setM p q = true → -1 ≤ p → (i : Int) ≤ p → q.foldl putS (m.set i v) = (q.foldl putS m).set i v := by
      intro q
      induction q with
      | nil => exact fun _ _ _ _ _ _ _ => rfl
      | cons x q ih =>
        intro p m i v h hp hi
        unfold setM at h
        simp only [Bool.and_eq_true, decide_eq_true_eq] at h
        rw [List.foldl_cons, List.foldl_cons]
        have : putS (m.set i v) x = (putS m x).set i v := by
          unfold putS
          rw [List.set_comm]
          omega
        rw [this, ih x.f0 _ i v h.2 (by omega) (by omega)]
    intro q
    induction q with
    | nil => exact fun _ _ _ _ => rfl
    | cons x q ih =>
      intro p m h hp
      unfold setM at h
      simp only [Bool.and_eq_true, decide_eq_true_eq] at h
      rw [List.foldl_cons, List.foldl_cons]
      have e : putS (q.foldl putS (putS m x)) x = q.foldl putS (putS m x) := by
        have h1 : putS m x = (putS m x).set x.f0.toNat x.f1 := by unfold putS; rw [List.set_set]
        rw [h1, hcomm q x.f0 _ x.f0.toNat x.f1 h.2 (by omega) (by omega)]
        unfold putS
        rw [List.set_set]
      rw [e]
      exact ih x.f0 _ h.2 (by omega)
  have hRR : restM R s = R := by
    unfold restM
    rw [if_pos hdR, ← hRe]
    exact hidem s (-1) _ hset (by omega)
  have hsum : ∀ k, 6 ≤ k → laws_sumOf.f k (List.replicate 4 0) = some 0 := by
    intro k hk
    obtain ⟨k, rfl⟩ : ∃ j, k = j + 5 := ⟨k - 5, by omega⟩
    show laws_sumOf.l0 (k + 5) [0, 0, 0, 0] 0 0 = some 0
    simp [laws_sumOf.l0, rd, wrap64]
  rw [if_neg hbig, e1, Option.bind_some]
  simp only
  rw [iPow_eq l s (by omega) (by omega) (by omega), hp, Option.bind_some]
  simp only
  rw [iRest_eq _ s (by simp) (by omega) (by simp; omega), hr1, hRe, Option.bind_some]
  simp only
  rw [iDev_eq l s (by omega) (by omega) (by omega), hd, Option.bind_some, if_pos rfl, iIsr_eq R s (by omega) (by omega) (by omega), hI, Option.bind_some, if_pos rfl, iRest_eq R s (by omega) (by omega) (by omega), hRR, Option.bind_some]
  simp only
  rw [sameInts_self R (by omega) (by omega), Option.bind_some, if_pos rfl, if_pos (by trivial), Option.bind_some]
  simp only
  rw [hsum _ (by omega), Option.bind_some]
  rfl

end Go.Proofs.Ytmifaijfogipgaa.Pure
