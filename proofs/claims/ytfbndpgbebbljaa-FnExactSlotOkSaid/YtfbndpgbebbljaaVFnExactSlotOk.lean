/- The pure statement of the law FnExactSlotOk: what the printed function comes to is true. No condition beyond what every argument of these types meets. -/
import Derived.Test.YtfbndpgbebbljaaQFnExactSlotOk1
import Derived.OpenShut
namespace Go.Proofs.Ytfbndpgbebbljaa.Pure
open Go.RowKit Go.Proofs.Ytfbndpgbebbljaa.QFnExactSlotOk Go.Proofs.YtfbndpgbebbljaaW.PrintWords Go.Proofs.YtfbndpgbebbljaaW.PrintLast Go.Proofs.YtfbndpgbebbljaaW.PrintMore
set_option linter.unusedVariables false
set_option linter.unusedSimpArgs false

--BLOCKS
theorem wf_b {z : Int} (h : (Lit.int .i64 z).wf = true) : -9223372036854775808 ≤ z ∧ z ≤ 9223372036854775807 := bounds_i64 h
theorem wrap_id {z : Int} (h1 : -9223372036854775808 ≤ z) (h2 : z ≤ 9223372036854775807) : wrap64 z = z := by unfold wrap64; omega
theorem mn_min (a b : Int) : mn a b = min a b := by unfold mn; omega
theorem mx_max (a b : Int) : mx a b = max a b := by unfold mx; omega
theorem rd_mid (pre : List Int) (a : Int) (suf : List Int) : rd (pre ++ a :: suf) (pre.length : Int) = a := by simp [rd]
theorem len_mid {α : Type} (pre : List α) (a : α) (suf : List α) : (pre ++ a :: suf).length = (pre ++ [a]).length + suf.length := by simp; omega
theorem app_mid {α : Type} (pre : List α) (a : α) (suf : List α) : pre ++ a :: suf = (pre ++ [a]) ++ suf := by simp
theorem wrap_len {α : Type} {pre : List α} {a : α} (h : pre.length < 9223372036854775807) : wrap64 ((pre.length : Int) + 1) = ((pre ++ [a]).length : Int) := by
  rw [wrap_id (by omega) (by omega)]; simp
theorem pred {d k : Nat} (h : d < k) : ∃ j, k = j + 1 := ⟨k - 1, by omega⟩
theorem toInt_loop : ∀ (suf pre rep : List Int) (k : Nat), suf.length < k → rep.length = suf.length → (pre ++ suf).length < 9223372036854775807 → laws_toIntS.l0 k (pre ++ suf) (pre ++ rep) (pre.length : Int) = some (pre ++ suf)
  | [], pre, rep, k, hk, hr, hb => by
    obtain ⟨k, rfl⟩ := pred hk
    obtain rfl : rep = [] := List.length_eq_zero_iff.1 hr
    simp only [laws_toIntS.l0]
    rw [if_neg (by simp)]
  | a :: suf, pre, r :: rep, k, hk, hr, hb => by
    obtain ⟨k, rfl⟩ := pred hk
    have hl : (pre ++ a :: suf).length = pre.length + suf.length + 1 := by simp; omega
    have hl2 : (pre ++ r :: rep).length = pre.length + rep.length + 1 := by simp; omega
    have ih := toInt_loop suf (pre ++ [a]) rep k (by simpa using hk) (by simpa using hr) (by simpa using hb)
    simp only [laws_toIntS.l0]
    rw [if_pos (by omega), if_pos (by omega), if_pos (by omega), rd_mid, wrap_len (a := a) (by omega), Int.toNat_natCast]
    have e : (pre ++ r :: rep).set pre.length a = (pre ++ [a]) ++ rep := by simp
    rw [e]
    simpa using ih
  | _ :: _, _, [], _, _, hr, _ => by simp at hr
theorem toInt_eq (l : List Int) (hl : l.length ≤ 1048576) {k : Nat} (hk : l.length < k) : laws_toIntS.f k l = some l := by
  unfold laws_toIntS.f
  rw [if_pos (by omega), if_pos (by omega), Int.toNat_natCast]
  have := toInt_loop l [] (List.replicate l.length 0) k hk (by simp) (by simp; omega)
  simpa using this
theorem eqInt_loop : ∀ (s1 s2 pre : List Int) (k : Nat), s1.length < k → s2.length = s1.length → (pre ++ s1).length < 9223372036854775807 → laws_eqIntS.l0 k (pre ++ s1) (pre ++ s2) (pre.length : Int) = some (decide (s1 = s2))
  | [], s2, pre, k, hk, hr, hb => by
    obtain ⟨k, rfl⟩ := pred hk
    obtain rfl : s2 = [] := List.length_eq_zero_iff.1 hr
    simp only [laws_eqIntS.l0]
    rw [if_neg (by simp)]; simp
  | a :: s1, b :: s2, pre, k, hk, hr, hb => by
    obtain ⟨k, rfl⟩ := pred hk
    have hl : (pre ++ a :: s1).length = pre.length + s1.length + 1 := by simp; omega
    have hl2 : (pre ++ b :: s2).length = pre.length + s2.length + 1 := by simp; omega
    simp only [laws_eqIntS.l0]
    rw [if_pos (by omega), if_pos (by omega), if_pos (by omega), rd_mid, rd_mid]
    by_cases hab : a = b
    · subst hab
      have ih := eqInt_loop s1 s2 (pre ++ [a]) k (by simpa using hk) (by simpa using hr) (by simpa using hb)
      rw [if_pos rfl, wrap_len (a := a) (by omega), app_mid, app_mid pre a s2, ih]
      simp
    · rw [if_neg hab]; simp [hab]
  | _ :: _, [], _, _, _, hr, _ => by simp at hr
theorem eqInt_eq (l m : List Int) (hl : l.length < 9223372036854775807) {k : Nat} (hk : l.length < k) : laws_eqIntS.f k l m = some (decide (l = m)) := by
  unfold laws_eqIntS.f
  by_cases h : l.length = m.length
  · rw [if_pos (by omega)]
    have := eqInt_loop l m [] k hk h.symm (by simpa using hl)
    simpa using this
  · rw [if_neg (by omega), decide_eq_false (fun e => h (by rw [e]))]
theorem tmod_fix (a : Int) : Int.tmod a 100003 = a % 100003 ∨ Int.tmod a 100003 = a % 100003 - 100003 := by
  have h := Int.tmod_eq_emod (a := a) (b := 100003)
  rw [h]; split <;> omega
theorem tmod_bd (a : Int) : -100003 ≤ Int.tmod a 100003 ∧ Int.tmod a 100003 < 100003 := by
  have := tmod_fix a
  omega
theorem imod_eq (a : Int) : impl_modulo.f a 100003 = some (a % 100003) := by
  unfold impl_modulo.f
  have h := tmod_bd a
  have h2 := tmod_fix a
  rw [if_neg (by omega), wrap_id (by omega) (by omega), Int.tmod_eq_emod_of_nonneg (by omega)]
  congr 1
  omega
/-- One word more of a sum. -/
def sumStep (r w : Int) : Int := (31 * r + w % 100003) % 100003
def sumM (s : Int) (l : List Int) : Int := if l.length = 6 then l.foldl sumStep (s % 100003) else -1
theorem sumStep_bd (r w : Int) : 0 ≤ sumStep r w ∧ sumStep r w < 100003 := by unfold sumStep; omega
theorem sum_tmod {r w : Int} (h : 0 ≤ r ∧ r < 100003) : Int.tmod (wrap64 ((wrap64 (31 * r)) + w % 100003)) 100003 = sumStep r w := by
  rw [wrap_id (z := 31 * r) (by omega) (by omega), wrap_id (by omega) (by omega), Int.tmod_eq_emod_of_nonneg (by omega)]; rfl
theorem iSum_loop : ∀ (suf pre : List Int) (k : Nat) (r : Int), suf.length < k → (pre ++ suf).length < 9223372036854775807 → 0 ≤ r ∧ r < 100003 → impl_SumOf.l0 k r (pre ++ suf) ((pre ++ suf).length : Int) (pre.length : Int) = some (suf.foldl sumStep r)
  | [], pre, k, r, hk, hb, hr => by
    obtain ⟨k, rfl⟩ := pred hk
    simp only [impl_SumOf.l0]
    rw [if_neg (by simp)]; rfl
  | a :: suf, pre, k, r, hk, hb, hr => by
    obtain ⟨k, rfl⟩ := pred hk
    have hl : (pre ++ a :: suf).length = pre.length + suf.length + 1 := by simp; omega
    have ih := iSum_loop suf (pre ++ [a]) k (sumStep r a) (by simpa using hk) (by simpa using hb) (sumStep_bd r a)
    simp only [impl_SumOf.l0]
    rw [if_pos (by omega), if_pos (by omega), if_pos (by omega), rd_mid, imod_eq, Option.bind_some, sum_tmod hr, wrap_len (a := a) (by omega), app_mid, ih]
    rfl
theorem iSum_eq (s : Int) (l : List Int) {k : Nat} (hk : l.length < k) : impl_SumOf.f k s l = some (sumM s l) := by
  unfold impl_SumOf.f sumM
  by_cases h : l.length = 6
  · rw [if_pos (by omega), if_pos h, imod_eq, Option.bind_some]
    have := iSum_loop l [] k (s % 100003) hk (by simp; omega) (by omega)
    simpa using this
  · rw [if_neg (by omega), if_neg h]
theorem smod_eq (a : Int) : spec_l24Mod.f a = some (a % 100003) := by
  unfold spec_l24Mod.f
  have h := tmod_bd a
  have h2 := tmod_fix a
  split
  · rw [wrap_id (by omega) (by omega)]; congr 1; omega
  · congr 1; omega
theorem sSum_loop : ∀ (suf pre : List Int) (k : Nat) (r : Int), suf.length < k → (pre ++ suf).length < 9223372036854775807 → 0 ≤ r ∧ r < 100003 → spec_SumOf.l0 k (pre ++ suf) r (pre.length : Int) = some (suf.foldl sumStep r)
  | [], pre, k, r, hk, hb, hr => by
    obtain ⟨k, rfl⟩ := pred hk
    simp only [spec_SumOf.l0]
    rw [if_neg (by simp)]; rfl
  | a :: suf, pre, k, r, hk, hb, hr => by
    obtain ⟨k, rfl⟩ := pred hk
    have hl : (pre ++ a :: suf).length = pre.length + suf.length + 1 := by simp; omega
    have ih := sSum_loop suf (pre ++ [a]) k (sumStep r a) (by simpa using hk) (by simpa using hb) (sumStep_bd r a)
    simp only [spec_SumOf.l0]
    rw [if_pos (by omega), if_pos (by omega), rd_mid, smod_eq, Option.bind_some, sum_tmod hr, wrap_len (a := a) (by omega), app_mid, ih]
    rfl
theorem sSum_eq (s : Int) (l : List Int) {k : Nat} (hk : l.length < k) : spec_SumOf.f k s l = some (sumM s l) := by
  unfold spec_SumOf.f sumM
  by_cases h : l.length = 6
  · rw [if_pos (by omega), if_pos h, smod_eq, Option.bind_some]
    have := sSum_loop l [] k (s % 100003) hk (by simp; omega) (by omega)
    simpa using this
  · rw [if_neg (by omega), if_neg h]
theorem szInt_ev (l : List Int) (a : Int) (hl : l.length ≤ maxLen) (ha : 0 ≤ a ∧ a ≤ 1048576) : (laws_szIntS.f l a = some (-1)) ∨ ((l.length : Int) ≤ a ∧ laws_szIntS.f l a = some (a - l.length)) := by
  unfold laws_szIntS.f
  unfold maxLen at hl
  rw [wrap_id (by omega) (by omega)]
  by_cases h : a - (l.length : Int) < 0
  · rw [if_pos h]; exact .inl rfl
  · rw [if_neg h]; exact .inr ⟨by omega, rfl⟩
def slotM (q : Int) (l : List Int) (s : Int) : Bool := decide (1 ≤ q ∧ l.length = 6 ∧ s = sumM q l)
theorem iSlot_eq (q : Int) (l : List Int) (s : Int) {k : Nat} (hk : 7 ≤ k) : impl_SlotOk.f k q l s = some (slotM q l s) := by
  unfold impl_SlotOk.f slotM
  by_cases h1 : q ≥ 1
  · by_cases h2 : l.length = 6
    · rw [if_pos h1, if_pos (by omega), iSum_eq q l (by omega), Option.bind_some]
      congr 1
      rw [Bool.eq_iff_iff]; simp [h2]; omega
    · rw [if_pos h1, if_neg (by omega), decide_eq_false (fun h => h2 h.2.1)]
  · rw [if_neg h1, decide_eq_false (fun h => h1 h.1)]
theorem sSlot_eq (q : Int) (l : List Int) (s : Int) {k : Nat} (hk : 7 ≤ k) : spec_SlotOk.f k q l s = some (slotM q l s) := by
  unfold spec_SlotOk.f slotM
  by_cases h1 : q ≥ 1
  · by_cases h2 : l.length = 6
    · rw [if_pos h1, if_pos (by omega), sSum_eq q l (by omega), Option.bind_some]
      congr 1
      rw [Bool.eq_iff_iff]; simp [h2]; omega
    · rw [if_pos h1, if_neg (by omega), decide_eq_false (fun h => h2 h.2.1)]
  · rw [if_neg h1, decide_eq_false (fun h => h1 h.1)]
theorem szSlot_ev (q : Int) (l : List Int) (s : Int) (a : Int) (hl : l.length ≤ maxLen) (ha : 0 ≤ a ∧ a ≤ 1048576) : (laws_szSlot.f q l s a = some (-1)) ∨ ((l.length : Int) ≤ a ∧ laws_szSlot.f q l s a = some (a - l.length)) := by
  unfold laws_szSlot.f
  rcases szInt_ev l a hl ha with h | ⟨h1, h2⟩
  · rw [h, Option.bind_some, if_pos (by omega)]; exact .inl rfl
  · rw [h2, Option.bind_some, if_neg (by omega)]; exact .inr ⟨h1, rfl⟩
theorem toSlot_eq (q : Int) (l : List Int) (s : Int) (hl : l.length ≤ 1048576) {k : Nat} (hk : l.length < k) : laws_toSlot.f k q l s = some (q, l, s) := by
  unfold laws_toSlot.f
  rw [toInt_eq l hl hk, Option.bind_some]
theorem eqSlot_eq (q : Int) (l : List Int) (s : Int) (hl : l.length < 9223372036854775807) {k : Nat} (hk : l.length < k) : laws_eqSlot.f k q l s q l s = some true := by
  unfold laws_eqSlot.f
  rw [if_pos rfl, eqInt_eq l l hl hk, Option.bind_some, if_pos (decide_eq_true rfl), if_pos rfl]

theorem FnExactSlotOk : ∀ (a0_0 : Int) (l0_1 : List Int) (a0_2 : Int), ((Lit.int .i64 a0_0).wf = true) → (l0_1.length ≤ maxLen ∧ ∀ x ∈ l0_1, (Lit.int .i64 x).wf = true) → ((Lit.int .i64 a0_2).wf = true) → ∃ k, laws_FnExactSlotOk.f k a0_0 l0_1 a0_2 = some true := by
  intro q l s _ hl _
  refine ⟨l.length + 7, ?_⟩
  unfold laws_FnExactSlotOk.f
  rcases szSlot_ev q l s 1048576 hl.1 (by omega) with h | ⟨h1, h2⟩
  · rw [h, Option.bind_some, if_pos (by omega)]
  rw [h2, Option.bind_some, if_neg (by omega), toSlot_eq q l s (by omega) (by omega)]
  simp only [Option.bind_some, sSlot_eq q l s (k := l.length + 7) (by omega), iSlot_eq q l s (k := l.length + 7) (by omega), eqSlot_eq q l s (show l.length < 9223372036854775807 by omega) (k := l.length + 7) (by omega)]
  simp

end Go.Proofs.Ytfbndpgbebbljaa.Pure
