/- The pure statement of the law FnExactStateAfter: what the printed function comes to is true. No condition beyond what every argument of these types meets. -/
import Derived.Test.YtboidohbhoehgaaQFnExactStateAfter4
import Derived.OpenShut
namespace Go.Proofs.Ytboidohbhoehgaa.Pure
open Go.RowKit Go.Proofs.Ytboidohbhoehgaa.QFnExactStateAfter Go.Proofs.YtboidohbhoehgaaW.PrintWords Go.Proofs.YtboidohbhoehgaaW.PrintLast Go.Proofs.YtboidohbhoehgaaW.PrintMore
set_option linter.unusedVariables false
set_option linter.unusedSimpArgs false
--BLOCKS
theorem wf_b {z : Int} (h : (Lit.int .i64 z).wf = true) : -9223372036854775808 ≤ z ∧ z ≤ 9223372036854775807 := bounds_i64 h
theorem wrap_id {z : Int} (h1 : -9223372036854775808 ≤ z) (h2 : z ≤ 9223372036854775807) : wrap64 z = z := by unfold wrap64; omega
theorem mn_min (a b : Int) : mn a b = min a b := by unfold mn; omega
theorem mx_max (a b : Int) : mx a b = max a b := by unfold mx; omega
theorem in_eq (x lo hi : Int) : spec_l01In.f x lo hi = some (decide (lo ≤ x ∧ x ≤ hi)) := by
  unfold spec_l01In.f; split <;> simp_all <;> omega
theorem within_eq (x lo hi : Int) : impl_within.f x lo hi = some (decide (lo ≤ x ∧ x ≤ hi)) := by
  unfold impl_within.f; split <;> simp_all <;> omega
theorem rd_mid (pre : List Int) (a : Int) (suf : List Int) : rd (pre ++ a :: suf) (pre.length : Int) = a := by simp [rd]
theorem len_mid {α : Type} (pre : List α) (a : α) (suf : List α) : (pre ++ a :: suf).length = (pre ++ [a]).length + suf.length := by simp; omega
theorem app_mid {α : Type} (pre : List α) (a : α) (suf : List α) : pre ++ a :: suf = (pre ++ [a]) ++ suf := by simp
theorem wrap_len {α : Type} {pre : List α} {a : α} (h : pre.length < 9223372036854775807) : wrap64 ((pre.length : Int) + 1) = ((pre ++ [a]).length : Int) := by
  rw [wrap_id (by omega) (by omega)]; simp
theorem pred {d k : Nat} (h : d < k) : ∃ j, k = j + 1 := ⟨k - 1, by omega⟩
theorem eqInt_loop : ∀ (s1 s2 pre : List Int) (k : Nat), s1.length < k → s2.length = s1.length → (pre ++ s1).length < 9223372036854775807 → laws_eqIntS.l0 k (pre ++ s1) (pre ++ s2) (pre.length : Int) = some (decide (s1 = s2))
  | [], s2, pre, k, hk, hr, hb => by
    obtain ⟨k, rfl⟩ := pred hk
    obtain rfl : s2 = [] := List.length_eq_zero_iff.1 hr
    simp only [laws_eqIntS.l0]
    rw [if_neg (by simp)]; simp
  | a :: s1, b :: s2, pre, k, hk, hr, hb => by
    obtain ⟨k, rfl⟩ := pred hk
    have hl : (pre ++ a :: s1).length = pre.length + s1.length + 1 := by simp; omega
    have hl2 : (pre ++ b :: s2).length = pre.length + s2.length + 1 := by simp; omega
    simp only [laws_eqIntS.l0]
    rw [if_pos (by omega), if_pos (by omega), if_pos (by omega), rd_mid, rd_mid]
    by_cases hab : a = b
    · subst hab
      have ih := eqInt_loop s1 s2 (pre ++ [a]) k (by simpa using hk) (by simpa using hr) (by simpa using hb)
      rw [if_pos rfl, wrap_len (a := a) (by omega), app_mid, app_mid pre a s2, ih]
      simp
    · rw [if_neg hab]; simp [hab]
  | _ :: _, [], _, _, _, hr, _ => by simp at hr
theorem eqInt_eq (l m : List Int) (hl : l.length < 9223372036854775807) {k : Nat} (hk : l.length < k) : laws_eqIntS.f k l m = some (decide (l = m)) := by
  unfold laws_eqIntS.f
  by_cases h : l.length = m.length
  · rw [if_pos (by omega)]
    have := eqInt_loop l m [] k hk h.symm (by simpa using hl)
    simpa using this
  · rw [if_neg (by omega), decide_eq_false (fun e => h (by rw [e]))]
/-- The marks from m on. -/
def mkInt : Int → Nat → List Int
  | _, 0 => []
  | m, i + 1 => m :: mkInt (m + 1) i
theorem mkInt_len : ∀ (d : Nat) (m : Int), (mkInt m d).length = d
  | 0, _ => rfl
  | d + 1, m => by simp [mkInt, mkInt_len d]
theorem markInt_loop : ∀ (suf pre : List Int) (k : Nat) (m : Int), suf.length < k → (pre ++ suf).length ≤ 4611686018427387 → 0 ≤ m → m + suf.length ≤ 4611686018427387904 → laws_markIntS.l0 k (pre ++ suf) m (pre.length : Int) = some (m + suf.length, pre ++ mkInt m suf.length)
  | [], pre, k, m, hk, hb, h0, hm => by
    obtain ⟨k, rfl⟩ := pred hk
    simp only [laws_markIntS.l0]
    rw [if_neg (by simp)]; simp [mkInt]
  | a :: suf, pre, k, m, hk, hb, h0, hm => by
    obtain ⟨k, rfl⟩ := pred hk
    have hl : (pre ++ a :: suf).length = pre.length + suf.length + 1 := by simp; omega
    have hc : ((a :: suf).length : Int) = suf.length + 1 := by simp
    rw [hc] at hm
    have ih := markInt_loop suf (pre ++ [m]) k (m + 1) (by simpa using hk) (by simp at hb ⊢; omega) (by omega) (by omega)
    simp only [laws_markIntS.l0]
    have hset : (pre ++ a :: suf).set pre.length m = pre ++ m :: suf := by rw [List.set_append_right _ _ (by omega)]; simp
    rw [if_pos (by omega), if_pos (by omega), Int.toNat_natCast, hset, wrap_id (z := m + 1) (by omega) (by omega), wrap_len (a := m) (by omega), app_mid, ih]
    simp [mkInt]
    omega
theorem markInt_eq (l : List Int) (m : Int) (h0 : 0 ≤ m) (hm : m + l.length ≤ 4611686018427387) {k : Nat} (hk : l.length < k) : laws_markIntS.f k l m = some (m + l.length, mkInt m l.length) := by
  have := markInt_loop l [] k m hk (by simp; omega) h0 (by omega)
  simpa [laws_markIntS.f] using this
theorem heldInt_loop : ∀ (d : Nat) (pre : List Int) (k : Nat) (m : Int), d < k → (pre ++ mkInt m d).length ≤ 4611686018427387 → 0 ≤ m → m + d ≤ 4611686018427387904 → laws_heldIntS.l0 k (pre ++ mkInt m d) m (pre.length : Int) = some (m + d)
  | 0, pre, k, m, hk, hb, h0, hm => by
    obtain ⟨k, rfl⟩ := pred hk
    rw [show mkInt m 0 = [] from rfl]
    simp only [laws_heldIntS.l0]
    rw [if_neg (by simp)]; simp
  | d + 1, pre, k, m, hk, hb, h0, hm => by
    obtain ⟨k, rfl⟩ := pred hk
    have ih := heldInt_loop d (pre ++ [m]) k (m + 1) (by omega) (by simp [mkInt] at hb ⊢; omega) (by omega) (by omega)
    rw [show mkInt m (d + 1) = m :: mkInt (m + 1) d from rfl] at hb ⊢
    simp only [laws_heldIntS.l0]
    have hl : ∀ (a : Int) (suf : List Int), (pre ++ a :: suf).length = pre.length + suf.length + 1 := fun a suf => by simp; omega
    rw [hl] at hb
    rw [if_pos (by rw [hl]; omega), if_pos (by omega), rd_mid, if_pos rfl, wrap_id (z := m + 1) (by omega) (by omega), wrap_len (a := m) (by omega), app_mid, ih]
    congr 1
    omega
theorem heldInt_eq (d : Nat) (m : Int) (h0 : 0 ≤ m) (hm : m + d ≤ 4611686018427387) {k : Nat} (hk : d < k) : laws_heldIntS.f k (mkInt m d) m = some (m + d) := by
  have := heldInt_loop d [] k m hk (by simp [mkInt_len]; omega) h0 (by omega)
  simpa [laws_heldIntS.f] using this
def cvInstr (x : S96) : S94 := ⟨x.f0, x.f1, x.f2⟩
theorem rdA_Instr (pre : List S96) (a : S96) (suf : List S96) : rd_T96 (pre ++ a :: suf) (pre.length : Int) = a := by simp [rd_T96]
theorem toInstr_loop : ∀ (suf pre : List S96) (rep : List S94) (k : Nat), suf.length < k → rep.length = suf.length → (pre ++ suf).length < 9223372036854775807 → laws_toInstrS.l0 k (pre ++ suf) (pre.map cvInstr ++ rep) (pre.length : Int) = some ((pre ++ suf).map cvInstr)
  | [], pre, rep, k, hk, hr, hb => by
    obtain ⟨k, rfl⟩ := pred hk
    obtain rfl : rep = [] := List.length_eq_zero_iff.1 hr
    simp only [laws_toInstrS.l0]
    rw [if_neg (by simp)]; simp
  | a :: suf, pre, r :: rep, k, hk, hr, hb => by
    obtain ⟨k, rfl⟩ := pred hk
    have hl : (pre ++ a :: suf).length = pre.length + suf.length + 1 := by simp; omega
    have hl2 : (pre.map cvInstr ++ r :: rep).length = pre.length + rep.length + 1 := by simp; omega
    have ih := toInstr_loop suf (pre ++ [a]) rep k (by simpa using hk) (by simpa using hr) (by simpa using hb)
    simp only [laws_toInstrS.l0]
    rw [if_pos (by omega), if_pos (by omega), rdA_Instr]
    simp only [laws_toInstr.f, Option.bind_some]
    rw [if_pos (by omega), wrap_len (a := a) (by omega), Int.toNat_natCast]
    have e : (pre.map cvInstr ++ r :: rep).set pre.length (cvInstr a) = (pre ++ [a]).map cvInstr ++ rep := by
      rw [List.set_append_right _ _ (by simp)]; simp
    have e2 : (pre.map cvInstr ++ r :: rep).set pre.length (⟨a.f0, a.f1, a.f2⟩ : S94) = (pre ++ [a]).map cvInstr ++ rep := e
    rw [e2]
    simpa using ih
  | _ :: _, _, [], _, _, hr, _ => by simp at hr
theorem toInstrS_eq (l : List S96) (hl : l.length ≤ 1048576) {k : Nat} (hk : l.length < k) : laws_toInstrS.f k l = some (l.map cvInstr) := by
  unfold laws_toInstrS.f
  rw [if_pos (by omega), if_pos (by omega), Int.toNat_natCast]
  have := toInstr_loop l [] (List.replicate l.length z94) k hk (by simp) (by simp; omega)
  simpa using this
theorem szInstrS_ev (l : List S96) (a : Int) (hl : l.length ≤ maxLen) (ha : 0 ≤ a ∧ a ≤ 1048576) : (laws_szInstrS.f l a = some (-1)) ∨ ((l.length : Int) ≤ a ∧ laws_szInstrS.f l a = some (a - l.length)) := by
  unfold laws_szInstrS.f
  unfold maxLen at hl
  rw [wrap_id (by omega) (by omega)]
  by_cases h : a - (l.length : Int) < 0
  · rw [if_pos h]; exact .inl rfl
  · rw [if_neg h]; exact .inr ⟨by omega, rfl⟩
theorem rdB_Instr (pre : List S94) (a : S94) (suf : List S94) : rd_T94 (pre ++ a :: suf) (pre.length : Int) = a := by simp [rd_T94]
theorem eqInstr_loop : ∀ (suf pre : List S94) (k : Nat), suf.length < k → (pre ++ suf).length < 9223372036854775807 → laws_eqInstrS.l0 k (pre ++ suf) (pre ++ suf) (pre.length : Int) = some true
  | [], pre, k, hk, hb => by
    obtain ⟨k, rfl⟩ := pred hk
    simp only [laws_eqInstrS.l0]
    rw [if_neg (by simp)]
  | a :: suf, pre, k, hk, hb => by
    obtain ⟨k, rfl⟩ := pred hk
    have hl : (pre ++ a :: suf).length = pre.length + suf.length + 1 := by simp; omega
    have ih := eqInstr_loop suf (pre ++ [a]) k (by simpa using hk) (by simpa using hb)
    simp only [laws_eqInstrS.l0]
    rw [if_pos (by omega), if_pos (by omega), rdB_Instr]
    simp only [laws_eqInstr.f, Option.bind_some, if_true]
    try rw [if_pos (by omega)]
    rw [wrap_len (a := a) (by omega), app_mid]
    exact ih
theorem eqInstrS_eq (l : List S94) (hl : l.length < 9223372036854775807) {k : Nat} (hk : l.length < k) : laws_eqInstrS.f k l l = some true := by
  unfold laws_eqInstrS.f
  rw [if_pos rfl]
  have := eqInstr_loop l [] k hk (by simpa using hl)
  simpa using this
/-- The marks from m on. -/
def mkInstr : Int → Nat → List S94
  | _, 0 => []
  | m, i + 1 => ⟨m, m + 1, m + 2⟩ :: mkInstr (m + 3) i
theorem rdM_Instr (pre : List S94) (a : S94) (suf : List S94) : rd_T94 (pre ++ a :: suf) (pre.length : Int) = a := by simp [rd_T94]
theorem wrap1_Instr {m : Int} (h0 : 0 ≤ m) (h1 : m < 4611686018427387904) : wrap64 (m + 1) = m + 1 := wrap_id (by omega) (by omega)
theorem markInstr_loop : ∀ (suf pre : List S94) (k : Nat) (m : Int), suf.length < k → (pre ++ suf).length ≤ 4611686018427387 → 0 ≤ m → m + 3 * suf.length ≤ 4611686018427387904 → laws_markInstrS.l0 k (pre ++ suf) m (pre.length : Int) = some (m + 3 * suf.length, pre ++ mkInstr m suf.length)
  | [], pre, k, m, hk, hb, h0, hm => by
    obtain ⟨k, rfl⟩ := pred hk
    simp only [laws_markInstrS.l0]
    rw [if_neg (by simp)]; simp [mkInstr]
  | a :: suf, pre, k, m, hk, hb, h0, hm => by
    obtain ⟨k, rfl⟩ := pred hk
    have hl : (pre ++ a :: suf).length = pre.length + suf.length + 1 := by simp; omega
    have hc : ((a :: suf).length : Int) = suf.length + 1 := by simp
    rw [hc] at hm
    have ih := markInstr_loop suf (pre ++ [⟨m, m + 1, m + 2⟩]) k (m + 3) (by simpa using hk) (by simp at hb ⊢; omega) (by omega) (by omega)
    simp only [laws_markInstrS.l0]
    rw [if_pos (by omega), if_pos (by omega), rdM_Instr, Int.toNat_natCast]
    have hset : ∀ b c : S94, (pre ++ b :: suf).set pre.length c = pre ++ c :: suf := fun b c => by rw [List.set_append_right _ _ (by omega)]; simp
    simp only [hset, Option.bind_some, rdM_Instr]
    rw [wrap1_Instr (m := m) (by omega) (by omega), wrap1_Instr (m := m + 1) (by omega) (by omega), show m + 1 + 1 = m + 2 from by omega, wrap1_Instr (m := m + 2) (by omega) (by omega)]
    rw [wrap_len (a := (⟨m, m + 1, m + 2⟩ : S94)) (by omega), app_mid]
    rw [show m + 2 + 1 = m + 3 from by omega]
    rw [ih]
    simp [mkInstr]
    omega
theorem mkInstr_len : ∀ (d : Nat) (m : Int), (mkInstr m d).length = d
  | 0, _ => rfl
  | d + 1, m => by simp [mkInstr, mkInstr_len d]
theorem markInstr_eq (l : List S94) (m : Int) (h0 : 0 ≤ m) (hm : m + 3 * l.length ≤ 4611686018427387) {k : Nat} (hk : l.length < k) : laws_markInstrS.f k l m = some (m + 3 * l.length, mkInstr m l.length) := by
  have := markInstr_loop l [] k m hk (by simp; omega) h0 (by omega)
  simpa [laws_markInstrS.f] using this
/-- An instruction of a code of n instructions. -/
def okI (n : Int) (x : S94) : Bool := decide ((1 ≤ x.f0 ∧ x.f0 ≤ 5) ∧ (0 ≤ x.f1 ∧ x.f1 ≤ 3) ∧ (0 ≤ x.f2 ∧ x.f2 ≤ (if x.f0 = 1 then 999 else if x.f0 = 5 then n else 3)))
def codeM (l : List S94) : Bool := decide (1 ≤ (l.length : Int) ∧ (l.length : Int) ≤ 16) && l.all (okI (l.length : Int))
theorem rdC_mid (pre : List S94) (a : S94) (suf : List S94) : rd_T94 (pre ++ a :: suf) (pre.length : Int) = a := by simp [rd_T94]
theorem iCode_j (x0 x10 : List S94) (x11 x12 m a b c : Int) (k : Nat) : impl_CodeOk.j1 (k + 1) x0 m x10 x11 x12 a b c = if (1 ≤ a ∧ a ≤ 5) ∧ (0 ≤ b ∧ b ≤ 3) ∧ (0 ≤ c ∧ c ≤ m) then impl_CodeOk.l0 k x0 x10 x11 (wrap64 (x12 + 1)) else some false := by
  simp only [impl_CodeOk.j1, within_eq, Option.bind_some]
  by_cases h1 : 1 ≤ a ∧ a ≤ 5
  · by_cases h2 : 0 ≤ b ∧ b ≤ 3
    · by_cases h3 : 0 ≤ c ∧ c ≤ m
      · simp only [decide_eq_true h1, decide_eq_true h2, decide_eq_true h3, if_true]
        rw [if_pos ⟨h1, h2, h3⟩]
      · simp only [decide_eq_true h1, decide_eq_true h2, decide_eq_false h3, if_true, Bool.false_eq_true, if_false]
        rw [if_neg (fun h => h3 h.2.2)]
    · simp only [decide_eq_true h1, decide_eq_false h2, if_true, Bool.false_eq_true, if_false]
      rw [if_neg (fun h => h2 h.2.1)]
  · simp only [decide_eq_false h1, Bool.false_eq_true, if_false]
    rw [if_neg (fun h => h1 h.1)]
theorem iCode_loop (l : List S94) : ∀ (suf pre : List S94) (k : Nat), 2 * suf.length < k → l = pre ++ suf → (pre ++ suf).length < 9223372036854775807 → impl_CodeOk.l0 k l l (l.length : Int) (pre.length : Int) = some (suf.all (okI (l.length : Int)))
  | [], pre, k, hk, e, hb => by
    obtain ⟨k, rfl⟩ := pred hk
    simp only [impl_CodeOk.l0]
    rw [if_neg (by rw [e]; simp)]; rfl
  | a :: suf, pre, k, hk, e, hb => by
    have hk2 : 2 * suf.length + 2 < k := by simp at hk; omega
    obtain ⟨k, rfl⟩ : ∃ j, k = j + 2 := ⟨k - 2, by omega⟩
    have hl : l.length = pre.length + suf.length + 1 := by rw [e]; simp; omega
    have hb2 : pre.length + suf.length + 1 < 9223372036854775807 := by simp at hb; omega
    have ih := iCode_loop l suf (pre ++ [a]) k (by omega) (by rw [e]; simp) (by simpa using hb)
    have hr : rd_T94 l (pre.length : Int) = a := by rw [e, rdC_mid]
    simp only [impl_CodeOk.l0]
    rw [if_pos (by omega), if_pos (by omega), if_pos (by omega), hr]
    simp only [iCode_j, wrap_len (a := a) (show pre.length < 9223372036854775807 by omega), ih, List.all_cons]
    unfold okI
    by_cases h1 : a.f0 = 1
    · simp only [if_pos h1]
      split
      · rename_i h; rw [decide_eq_true h, Bool.true_and]
      · rename_i h; rw [decide_eq_false h]; rfl
    · by_cases h5 : a.f0 = 5
      · simp only [if_neg h1, if_pos h5]
        split
        · rename_i h; rw [decide_eq_true h, Bool.true_and]
        · rename_i h; rw [decide_eq_false h]; rfl
      · simp only [if_neg h1, if_neg h5]
        split
        · rename_i h; rw [decide_eq_true h, Bool.true_and]
        · rename_i h; rw [decide_eq_false h]; rfl
theorem iCode_eq (l : List S94) (hl : l.length < 9223372036854775807) {k : Nat} (hk : 2 * l.length < k) : impl_CodeOk.f k l = some (codeM l) := by
  unfold impl_CodeOk.f codeM
  rw [within_eq, Option.bind_some]
  by_cases h : 1 ≤ (l.length : Int) ∧ (l.length : Int) ≤ 16
  · rw [if_pos (decide_eq_true h), decide_eq_true h, Bool.true_and]
    exact iCode_loop l l [] k hk rfl (by simpa using hl)
  · rw [decide_eq_false h]; rfl
theorem sCode_j (x0 : List S94) (x12 m a b c : Int) (k : Nat) : spec_CodeOk.j1 (k + 1) x0 x12 m a b c = if (1 ≤ a ∧ a ≤ 5) ∧ (0 ≤ b ∧ b ≤ 3) ∧ (0 ≤ c ∧ c ≤ m) then spec_CodeOk.l0 k x0 (wrap64 (x12 + 1)) else some false := by
  simp only [spec_CodeOk.j1, in_eq, Option.bind_some]
  by_cases h1 : 1 ≤ a ∧ a ≤ 5
  · by_cases h2 : 0 ≤ b ∧ b ≤ 3
    · by_cases h3 : 0 ≤ c ∧ c ≤ m
      · simp only [decide_eq_true h1, decide_eq_true h2, decide_eq_true h3, if_true]
        rw [if_pos ⟨h1, h2, h3⟩]
      · simp only [decide_eq_true h1, decide_eq_true h2, decide_eq_false h3, if_true, Bool.false_eq_true, if_false]
        rw [if_neg (fun h => h3 h.2.2)]
    · simp only [decide_eq_true h1, decide_eq_false h2, if_true, Bool.false_eq_true, if_false]
      rw [if_neg (fun h => h2 h.2.1)]
  · simp only [decide_eq_false h1, Bool.false_eq_true, if_false]
    rw [if_neg (fun h => h1 h.1)]
theorem sCode_loop (l : List S94) : ∀ (suf pre : List S94) (k : Nat), 2 * suf.length < k → l = pre ++ suf → (pre ++ suf).length < 9223372036854775807 → spec_CodeOk.l0 k l (pre.length : Int) = some (suf.all (okI (l.length : Int)) && decide (1 ≤ (l.length : Int) ∧ (l.length : Int) ≤ 16))
  | [], pre, k, hk, e, hb => by
    obtain ⟨k, rfl⟩ := pred hk
    simp only [spec_CodeOk.l0]
    rw [if_neg (by rw [e]; simp), in_eq]; rfl
  | a :: suf, pre, k, hk, e, hb => by
    have hk2 : 2 * suf.length + 2 < k := by simp at hk; omega
    obtain ⟨k, rfl⟩ : ∃ j, k = j + 2 := ⟨k - 2, by omega⟩
    have hl : l.length = pre.length + suf.length + 1 := by rw [e]; simp; omega
    have hb2 : pre.length + suf.length + 1 < 9223372036854775807 := by simp at hb; omega
    have ih := sCode_loop l suf (pre ++ [a]) k (by omega) (by rw [e]; simp) (by simpa using hb)
    have hr : rd_T94 l (pre.length : Int) = a := by rw [e, rdC_mid]
    simp only [spec_CodeOk.l0]
    rw [if_pos (by omega), if_pos (by omega), hr]
    simp only [sCode_j, wrap_len (a := a) (show pre.length < 9223372036854775807 by omega), ih, List.all_cons]
    unfold okI
    by_cases h1 : a.f0 = 1
    · simp only [if_pos h1]
      split
      · rename_i h; rw [decide_eq_true h, Bool.true_and]
      · rename_i h; rw [decide_eq_false h]; rfl
    · by_cases h5 : a.f0 = 5
      · simp only [if_neg h1, if_pos h5]
        split
        · rename_i h; rw [decide_eq_true h, Bool.true_and]
        · rename_i h; rw [decide_eq_false h]; rfl
      · simp only [if_neg h1, if_neg h5]
        split
        · rename_i h; rw [decide_eq_true h, Bool.true_and]
        · rename_i h; rw [decide_eq_false h]; rfl
theorem sCode_eq (l : List S94) (hl : l.length < 9223372036854775807) {k : Nat} (hk : 2 * l.length < k) : spec_CodeOk.f k l = some (codeM l) := by
  unfold spec_CodeOk.f codeM
  have := sCode_loop l l [] k hk rfl (by simpa using hl)
  rw [Bool.and_comm]
  exact this
theorem clone_eq (l : List Int) (hl : l.length ≤ 1048576) : slices_Clone_int_int.f l = some l := by
  unfold slices_Clone_int_int.f
  rw [Option.bind_some, if_pos (by simp; omega), List.nil_append]
def isValM (x : Int) : Bool := decide (-1000000 ≤ x ∧ x ≤ 1000000)
def valsM (l : List Int) : Bool := l.all isValM
theorem iIsV (x : Int) : impl_IsValue.f x = some (isValM x) := by
  unfold impl_IsValue.f isValM
  rw [within_eq, Option.bind_some]
theorem iVals_loop : ∀ (suf pre : List Int) (k : Nat), suf.length < k → (pre ++ suf).length < 9223372036854775807 → impl_areValues.l0 k (pre ++ suf) (pre.length : Int) = some (valsM suf)
  | [], pre, k, hk, hb => by
    obtain ⟨k, rfl⟩ := pred hk
    simp only [impl_areValues.l0]
    rw [if_neg (by simp)]; rfl
  | a :: suf, pre, k, hk, hb => by
    obtain ⟨k, rfl⟩ := pred hk
    have hl : (pre ++ a :: suf).length = pre.length + suf.length + 1 := by simp; omega
    have ih := iVals_loop suf (pre ++ [a]) k (by simpa using hk) (by simpa using hb)
    simp only [impl_areValues.l0]
    rw [if_pos (by omega), if_pos (by omega), rd_mid, iIsV, Option.bind_some, wrap_len (a := a) (by omega), app_mid, ih]
    unfold valsM
    rw [List.all_cons]
    cases isValM a <;> simp
theorem iVals_eq (l : List Int) (hl : l.length < 9223372036854775807) {k : Nat} (hk : l.length < k) : impl_areValues.f k l = some (valsM l) := by
  have := iVals_loop l [] k hk (by simpa using hl)
  simpa [impl_areValues.f] using this
theorem sIsV (x : Int) : spec_IsValue.f x = some (isValM x) := by
  unfold spec_IsValue.f isValM
  rw [in_eq, Option.bind_some]
theorem sVals_loop : ∀ (suf pre : List Int) (k : Nat), suf.length < k → (pre ++ suf).length < 9223372036854775807 → spec_l09Values.l0 k (pre ++ suf) (pre.length : Int) = some (valsM suf)
  | [], pre, k, hk, hb => by
    obtain ⟨k, rfl⟩ := pred hk
    simp only [spec_l09Values.l0]
    rw [if_neg (by simp)]; rfl
  | a :: suf, pre, k, hk, hb => by
    obtain ⟨k, rfl⟩ := pred hk
    have hl : (pre ++ a :: suf).length = pre.length + suf.length + 1 := by simp; omega
    have ih := sVals_loop suf (pre ++ [a]) k (by simpa using hk) (by simpa using hb)
    simp only [spec_l09Values.l0]
    rw [if_pos (by omega), if_pos (by omega), rd_mid, sIsV, Option.bind_some, wrap_len (a := a) (by omega), app_mid, ih]
    unfold valsM
    rw [List.all_cons]
    cases isValM a <;> simp
theorem sVals_eq (l : List Int) (hl : l.length < 9223372036854775807) {k : Nat} (hk : l.length < k) : spec_l09Values.f k l = some (valsM l) := by
  have := sVals_loop l [] k hk (by simpa using hl)
  simpa [spec_l09Values.f] using this
def satM (x : Int) : Int := mn (mx x (-1000000)) 1000000
theorem iSat_eq (x : Int) : impl_Saturate.f x = some (satM x) := by
  unfold impl_Saturate.f impl_Clamp.f satM
  rw [if_neg (by omega), Option.bind_some]
theorem sSat_eq (x : Int) {k : Nat} (hk : 1 ≤ k) : spec_Saturate.f k x = some (satM x) := by
  obtain ⟨k, rfl⟩ : ∃ j, k = j + 1 := ⟨k - 1, by omega⟩
  unfold spec_Saturate.f spec_Clamp.f satM
  rw [if_neg (by omega)]
  simp only [spec_Clamp.j0, mn_min, mx_max]
  by_cases h1 : x < -1000000
  · rw [if_pos (decide_eq_true h1), Option.bind_some]; congr 1; omega
  · rw [if_neg (by simpa using h1)]
    by_cases h2 : x > 1000000
    · rw [if_pos h2, Option.bind_some]; congr 1; omega
    · rw [if_neg h2, Option.bind_some]; congr 1; omega
theorem iAdd_eq (a b : Int) : impl_AddValues.f a b = some (satM (wrap64 (satM a + satM b))) := by
  unfold impl_AddValues.f
  rw [iSat_eq, Option.bind_some, iSat_eq, Option.bind_some, iSat_eq, Option.bind_some]
theorem iSub_eq (a b : Int) : impl_SubValues.f a b = some (satM (wrap64 (satM a - satM b))) := by
  unfold impl_SubValues.f
  rw [iSat_eq, Option.bind_some, iSat_eq, Option.bind_some, iSat_eq, Option.bind_some]
theorem iMul_eq (a b : Int) : impl_MulValues.f a b = some (satM (wrap64 (satM a * satM b))) := by
  unfold impl_MulValues.f
  rw [iSat_eq, Option.bind_some, iSat_eq, Option.bind_some, iSat_eq, Option.bind_some]
theorem sAdd_eq (a b : Int) {k : Nat} (hk : 1 ≤ k) : spec_AddValues.f k a b = some (satM (wrap64 (satM a + satM b))) := by
  unfold spec_AddValues.f
  rw [sSat_eq _ hk, Option.bind_some, sSat_eq _ hk, Option.bind_some, sSat_eq _ hk, Option.bind_some]
theorem sSub_eq (a b : Int) {k : Nat} (hk : 1 ≤ k) : spec_SubValues.f k a b = some (satM (wrap64 (satM a - satM b))) := by
  unfold spec_SubValues.f
  rw [sSat_eq _ hk, Option.bind_some, sSat_eq _ hk, Option.bind_some, sSat_eq _ hk, Option.bind_some]
theorem sMul_eq (a b : Int) {k : Nat} (hk : 1 ≤ k) : spec_MulValues.f k a b = some (satM (wrap64 (satM a * satM b))) := by
  unfold spec_MulValues.f
  rw [sSat_eq _ hk, Option.bind_some, sSat_eq _ hk, Option.bind_some, sSat_eq _ hk, Option.bind_some]
def canM (n : Int) (l : List Int) : Bool := decide (l.length = 6) && valsM (l.take 4) && decide (0 ≤ rd l 4 ∧ rd l 4 ≤ n - 1) && decide (0 ≤ rd l 5 ∧ rd l 5 ≤ 100000)
theorem rd_set45 (l : List Int) (v : Int) : rd (l.set 4 v) 5 = rd l 5 := by
  unfold rd
  rw [List.getD_eq_getElem?_getD, List.getD_eq_getElem?_getD, List.getElem?_set_ne (by decide)]
theorem step_both (c : List S94) (l : List Int) (h6 : l.length = 6) (hc : 0 ≤ rd l 4 ∧ rd l 4 < (c.length : Int)) (hi : okI (c.length : Int) (rd_T94 c (rd l 4)) = true) {k : Nat} (hk : 1 ≤ k) :
    ∃ r, r.length = 6 ∧ spec_l25Step.f k c l = some r ∧ impl_StepCode.j0 (k + 1) c l l false = some (r, true) := by
  have h6' : (l.length : Int) = 6 := by omega
  unfold okI at hi
  have hi := of_decide_eq_true hi
  unfold spec_l25Step.f
  rw [Option.bind_some, if_pos (by simp; omega), List.nil_append, Option.bind_some]
  simp only [impl_StepCode.j0, Bool.false_eq_true, if_false]
  have n4 : ((4 : Int)).toNat = 4 := rfl
  have n5 : ((5 : Int)).toNat = 5 := rfl
  have c4 : (4 < (l.length : Int)) = True := eq_true (by omega)
  have c5 : (5 < (l.length : Int)) = True := eq_true (by omega)
  have cA : (0 ≤ rd l 4) = True := eq_true hc.1
  have cB : (rd l 4 < (c.length : Int)) = True := eq_true hc.2
  simp only [c4, c5, cA, cB, if_true, Option.bind_some, n4, n5, rd_set45]
  have hY : ((l.set 4 (wrap64 (rd l 4 + 1))).set 5 (wrap64 (rd l 5 + 1))).length = 6 := by simp [h6]
  generalize (l.set 4 (wrap64 (rd l 4 + 1))).set 5 (wrap64 (rd l 5 + 1)) = Y at *
  generalize rd_T94 c (rd l 4) = x at *
  obtain ⟨hf, hg, hv⟩ := hi
  have a0 : (0 ≤ x.f1) = True := eq_true hg.1
  have a1 : (x.f1 < (l.length : Int)) = True := eq_true (by omega)
  rcases (show x.f0 = 1 ∨ x.f0 = 2 ∨ x.f0 = 3 ∨ x.f0 = 4 ∨ x.f0 = 5 by omega) with e | e | e | e | e
  · simp only [e, a0, a1, if_true]
    exact ⟨_, by simp [hY], rfl, rfl⟩
  · have hv' : 0 ≤ x.f2 ∧ x.f2 ≤ 3 := by rw [e] at hv; simpa using hv
    have b1 : (x.f2 < (l.length : Int)) = True := eq_true (by omega)
    have b0 : (0 ≤ x.f2) = True := eq_true hv'.1
    simp only [e, a0, a1, b0, b1, if_true, iAdd_eq, sAdd_eq _ _ hk, Option.bind_some, show ((2 : Int) = 1) = False from by decide, if_false]
    exact ⟨_, by simp [hY], rfl, rfl⟩
  · have hv' : 0 ≤ x.f2 ∧ x.f2 ≤ 3 := by rw [e] at hv; simpa using hv
    have b1 : (x.f2 < (l.length : Int)) = True := eq_true (by omega)
    have b0 : (0 ≤ x.f2) = True := eq_true hv'.1
    simp only [e, a0, a1, b0, b1, if_true, iSub_eq, sSub_eq _ _ hk, Option.bind_some, show ((3 : Int) = 1) = False from by decide, show ((3 : Int) = 2) = False from by decide, if_false]
    exact ⟨_, by simp [hY], rfl, rfl⟩
  · have hv' : 0 ≤ x.f2 ∧ x.f2 ≤ 3 := by rw [e] at hv; simpa using hv
    have b1 : (x.f2 < (l.length : Int)) = True := eq_true (by omega)
    have b0 : (0 ≤ x.f2) = True := eq_true hv'.1
    simp only [e, a0, a1, b0, b1, if_true, iMul_eq, sMul_eq _ _ hk, Option.bind_some, show ((4 : Int) = 1) = False from by decide, show ((4 : Int) = 2) = False from by decide, show ((4 : Int) = 3) = False from by decide, if_false]
    exact ⟨_, by simp [hY], rfl, rfl⟩
  · simp only [e, a0, a1, if_true, show ((5 : Int) = 1) = False from by decide, show ((5 : Int) = 2) = False from by decide, show ((5 : Int) = 3) = False from by decide, show ((5 : Int) = 4) = False from by decide, if_false]
    by_cases z : rd l x.f1 = 0
    · simp only [z, if_true]
      exact ⟨_, hY, rfl, rfl⟩
    · simp only [z, if_false]
      exact ⟨_, by simp [hY], rfl, rfl⟩
theorem all_rd {p : S94 → Bool} (c : List S94) (i : Int) (h0 : 0 ≤ i) (h1 : i < (c.length : Int)) (h : c.all p = true) : p (rd_T94 c i) = true := by
  obtain ⟨n, rfl⟩ := Int.eq_ofNat_of_zero_le h0
  have hn : n < c.length := by omega
  have : rd_T94 c (n : Int) ∈ c := by
    unfold rd_T94
    rw [Int.toNat_natCast, List.getD_eq_getElem?_getD, List.getElem?_eq_getElem hn]
    exact List.getElem_mem hn
  exact List.all_eq_true.1 h _ this
theorem sCan_eq (c : List S94) (l : List Int) (hc : codeM c = true) {k : Nat} (hk : 5 ≤ k) : spec_l25Can.f k c l = some (canM (c.length : Int) l) := by
  unfold codeM at hc
  simp only [Bool.and_eq_true, decide_eq_true_eq] at hc
  unfold spec_l25Can.f canM
  by_cases h6 : l.length = 6
  · rw [if_pos (by omega), if_pos (by omega), sVals_eq _ (by simp; omega) (by simp; omega), Option.bind_some]
    cases valsM (l.take 4) with
    | false => simp
    | true =>
      rw [if_pos rfl, if_pos (by omega), wrap_id (z := (c.length : Int) - 1) (by omega) (by omega), in_eq, Option.bind_some]
      by_cases h1 : 0 ≤ rd l 4 ∧ rd l 4 ≤ (c.length : Int) - 1
      · rw [if_pos (decide_eq_true h1), if_pos (by omega), in_eq, Option.bind_some, decide_eq_true h1, decide_eq_true h6]; simp
      · rw [if_neg (by simpa using h1), decide_eq_false h1]; simp
  · rw [if_neg (by omega), decide_eq_false h6]; simp
def stepF (c : List S94) (l : List Int) : List Int := (spec_l25Step.f 1 c l).getD l
theorem canM_inv {n : Int} {l : List Int} (h : canM n l = true) : l.length = 6 ∧ valsM (l.take 4) = true ∧ (0 ≤ rd l 4 ∧ rd l 4 ≤ n - 1) ∧ (0 ≤ rd l 5 ∧ rd l 5 ≤ 100000) := by
  unfold canM at h
  simp only [Bool.and_eq_true, decide_eq_true_eq] at h
  exact ⟨h.1.1.1, h.1.1.2, h.1.2, h.2⟩
theorem stepF_spec (c : List S94) (l : List Int) (hc : codeM c = true) (h : canM (c.length : Int) l = true) : (stepF c l).length = 6 ∧ ∀ k, 1 ≤ k → spec_l25Step.f k c l = some (stepF c l) := by
  obtain ⟨h6, hv, h4, h5⟩ := canM_inv h
  have hco := hc
  unfold codeM at hco
  simp only [Bool.and_eq_true, decide_eq_true_eq] at hco
  obtain ⟨r, hr, e1, _⟩ := step_both c l h6 ⟨h4.1, by omega⟩ (all_rd c _ h4.1 (by omega) hco.2) (k := 1) (by omega)
  have e : stepF c l = r := by unfold stepF; rw [e1]; rfl
  rw [e]
  refine ⟨hr, fun k hk => ?_⟩
  obtain ⟨j, rfl⟩ : ∃ j, k = j + 1 := ⟨k - 1, by omega⟩
  induction j with
  | zero => exact e1
  | succ j ih => exact spec_l25Step.mono c l _ _ (ih (by omega))
theorem stepF_impl (c : List S94) (l : List Int) (hcl : c.length < 9223372036854775807) (hl : l.length ≤ 1048576) (hc : codeM c = true) {k : Nat} (hk : 2 * c.length + 10 ≤ k) : impl_StepCode.f k c l = some (if canM (c.length : Int) l = true then (stepF c l, true) else (l, false)) := by
  obtain ⟨k, rfl⟩ : ∃ j, k = j + 1 := ⟨k - 1, by omega⟩
  have bad : impl_StepCode.j0 (k + 1) c l l true = some (l, false) := by simp [impl_StepCode.j0]
  have hco := hc
  unfold codeM at hco
  simp only [Bool.and_eq_true, decide_eq_true_eq] at hco
  unfold impl_StepCode.f
  rw [clone_eq l hl, Option.bind_some, iCode_eq c hcl (by omega), Option.bind_some, if_pos hc]
  by_cases h : canM (c.length : Int) l = true
  · obtain ⟨h6, hv, h4, h5⟩ := canM_inv h
    obtain ⟨r, hr, e1, e2⟩ := step_both c l h6 ⟨h4.1, by omega⟩ (all_rd c _ h4.1 (by omega) hco.2) (k := k) (by omega)
    have e : stepF c l = r := by
      have := (stepF_spec c l hc h).2 k (by omega)
      rw [e1] at this
      exact (Option.some.inj this).symm
    rw [if_pos (by omega), if_pos (by omega), iVals_eq _ (by simp; omega) (by simp; omega), hv, Option.bind_some, if_pos rfl, if_pos (by omega), within_eq, Option.bind_some, wrap_id (z := (c.length : Int) - 1) (by omega) (by omega), if_pos (decide_eq_true h4), if_pos (by omega), within_eq, Option.bind_some, decide_eq_true h5, if_pos h, e]
    exact e2
  · rw [if_neg h]
    by_cases h6 : l.length = 6
    · rw [if_pos (by omega), if_pos (by omega), iVals_eq _ (by simp; omega) (by simp; omega), Option.bind_some]
      cases hv : valsM (l.take 4) with
      | false => rw [if_neg (by simp)]; exact bad
      | true =>
        rw [if_pos rfl, if_pos (by omega), within_eq, Option.bind_some, wrap_id (z := (c.length : Int) - 1) (by omega) (by omega)]
        by_cases h4 : 0 ≤ rd l 4 ∧ rd l 4 ≤ (c.length : Int) - 1
        · rw [if_pos (decide_eq_true h4), if_pos (by omega), within_eq, Option.bind_some]
          by_cases h5 : 0 ≤ rd l 5 ∧ rd l 5 ≤ 100000
          · exfalso; apply h
            unfold canM
            rw [decide_eq_true h6, hv, decide_eq_true h4, decide_eq_true h5]
            rfl
          · rw [decide_eq_false h5]; exact bad
        · rw [if_neg (by simpa using h4)]; exact bad
    · rw [if_neg (by omega)]; exact bad
/-- What n steps lead to. -/
def runM (c : List S94) : Nat → List Int → List Int
  | 0, l => l
  | n + 1, l => if canM (c.length : Int) l = true then runM c n (stepF c l) else l
theorem runM_len (c : List S94) (hc : codeM c = true) : ∀ (n : Nat) (l : List Int), (runM c n l).length = l.length
  | 0, _ => rfl
  | n + 1, l => by
    unfold runM
    split
    · rename_i h
      rw [runM_len c hc n, (stepF_spec c l hc h).1, (canM_inv h).1]
    · rfl
theorem iSteps_loop (c : List S94) (hcl : c.length < 9223372036854775807) (hc : codeM c = true) (n : Int) (hn : n < 9223372036854775807) : ∀ (d : Nat) (i : Int) (l : List Int) (k : Nat), 0 ≤ i → i + d = n → l.length ≤ 1048576 → d + 2 * c.length + 10 < k → impl_stepsOf.l0 k c l n i = some (runM c d l)
  | 0, i, l, k, h0, hi, hl, hk => by
    obtain ⟨k, rfl⟩ := pred hk
    simp only [impl_stepsOf.l0]
    rw [if_neg (by omega)]; rfl
  | d + 1, i, l, k, h0, hi, hl, hk => by
    obtain ⟨k, rfl⟩ := pred hk
    simp only [impl_stepsOf.l0]
    rw [if_pos (by omega), stepF_impl c l hcl hl hc (by omega), Option.bind_some]
    unfold runM
    by_cases h : canM (c.length : Int) l = true
    · rw [if_pos h, if_pos h]
      simp only
      rw [if_pos trivial, wrap_id (z := i + 1) (by omega) (by omega)]
      have := (stepF_spec c l hc h).1
      exact iSteps_loop c hcl hc n hn d (i + 1) _ k (by omega) (by omega) (by omega) (by omega)
    · rw [if_neg h, if_neg h]
      simp only
      rw [if_neg (by decide)]
theorem sSteps_loop (c : List S94) (hcl : c.length < 9223372036854775807) (hc : codeM c = true) (n : Int) (hn : n < 9223372036854775807) : ∀ (d : Nat) (i : Int) (l : List Int) (k : Nat), 0 ≤ i → i + d = n → l.length ≤ 1048576 → d + 10 < k → spec_l25Steps.l0 k c n l i = some (runM c d l)
  | 0, i, l, k, h0, hi, hl, hk => by
    obtain ⟨k, rfl⟩ := pred hk
    simp only [spec_l25Steps.l0]
    rw [if_neg (by omega)]; rfl
  | d + 1, i, l, k, h0, hi, hl, hk => by
    obtain ⟨k, rfl⟩ := pred hk
    simp only [spec_l25Steps.l0]
    rw [if_pos (by omega), sCan_eq c l hc (by omega), Option.bind_some]
    unfold runM
    by_cases h : canM (c.length : Int) l = true
    · rw [if_pos h, if_pos h, (stepF_spec c l hc h).2 k (by omega), Option.bind_some, wrap_id (z := i + 1) (by omega) (by omega)]
      have := (stepF_spec c l hc h).1
      exact sSteps_loop c hcl hc n hn d (i + 1) _ k (by omega) (by omega) (by omega) (by omega)
    · rw [if_neg h, if_neg h]
def stateM (c : List S94) (n : Int) : List Int × Bool := if codeM c = true ∧ (0 ≤ n ∧ n ≤ 2000) then (runM c n.toNat (List.replicate 6 0), true) else ([], false)
theorem stateM_len (c : List S94) (n : Int) : (stateM c n).1.length ≤ 6 := by
  unfold stateM; split
  · rename_i h; simp only; rw [runM_len c h.1]; simp
  · simp
theorem iState_eq (c : List S94) (n : Int) (hcl : c.length < 9223372036854775807) {k : Nat} (hk : 2 * c.length + 2100 ≤ k) : impl_StateAfter.f k c n = some (stateM c n) := by
  unfold impl_StateAfter.f stateM
  rw [iCode_eq c hcl (by omega), Option.bind_some]
  by_cases hc : codeM c = true
  · rw [if_pos hc, within_eq, Option.bind_some]
    by_cases hn : 0 ≤ n ∧ n ≤ 2000
    · rw [if_pos (decide_eq_true hn), if_pos (by omega), if_pos ⟨hc, hn⟩]
      unfold impl_stepsOf.f
      rw [iSteps_loop c hcl hc n (by omega) n.toNat 0 _ k (by omega) (by omega) (by simp) (by omega), Option.bind_some]
    · rw [if_neg (by simpa using hn), if_neg (fun h => hn h.2)]
  · rw [if_neg hc, if_neg (fun h => hc h.1)]
theorem sState_eq (c : List S94) (n : Int) (hcl : c.length < 9223372036854775807) {k : Nat} (hk : 2 * c.length + 2100 ≤ k) : spec_StateAfter.f k c n = some (stateM c n) := by
  unfold spec_StateAfter.f stateM
  rw [sCode_eq c hcl (by omega), Option.bind_some]
  by_cases hc : codeM c = true
  · rw [if_pos hc, in_eq, Option.bind_some]
    by_cases hn : 0 ≤ n ∧ n ≤ 2000
    · rw [if_pos (decide_eq_true hn), if_pos (by omega), if_pos ⟨hc, hn⟩]
      unfold spec_l25Steps.f
      rw [Option.bind_some, if_pos (by simp), List.nil_append, sSteps_loop c hcl hc n (by omega) n.toNat 0 _ k (by omega) (by omega) (by simp) (by omega), Option.bind_some]
    · rw [if_neg (by simpa using hn), if_neg (fun h => hn h.2)]
  · rw [if_neg hc, if_neg (fun h => hc h.1)]

theorem FnExactStateAfter : ∀ (l0 : List S96) (a1 : Int), (l0.length ≤ maxLen ∧ ∀ x ∈ l0, ((Lit.int .i64 x.f0).wf = true) ∧ ((Lit.int .i64 x.f1).wf = true) ∧ ((Lit.int .i64 x.f2).wf = true)) → ((Lit.int .i64 a1).wf = true) → ∃ k, laws_FnExactStateAfter.f k l0 a1 = some true := by
  intro c n hc _
  refine ⟨2 * c.length + 2110, ?_⟩
  unfold laws_FnExactStateAfter.f
  rcases szInstrS_ev c 1048576 hc.1 (by omega) with h | ⟨h2, h3⟩
  · rw [h, Option.bind_some, if_pos (by omega)]
  have hm : (c.map cvInstr).length = c.length := by simp
  have t1 := fun k hk => toInstrS_eq c (by omega) (k := k) hk
  generalize c.map cvInstr = C at *
  have e1 := fun k hk => eqInstrS_eq C (by omega) (k := k) hk
  have i1 := fun k hk => iState_eq C n (by omega) (k := k) hk
  have hr := stateM_len C n
  rw [h3, Option.bind_some, if_neg (by omega), t1 _ (by omega), Option.bind_some, sState_eq C n (by omega) (by omega), Option.bind_some, Option.bind_some, i1 _ (by omega), Option.bind_some]
  generalize stateM C n = N at *
  obtain ⟨r, b⟩ := N
  simp only at hr
  have e3 := fun k hk => eqInt_eq r r (by omega) (k := k) hk
  have j2 : laws_FnExactStateAfter.j2 (2 * c.length + 2108) (mkInt 1 r.length) (1 + r.length) false = some true := by
    simp only [laws_FnExactStateAfter.j2, Bool.false_eq_true, if_false]
    rw [heldInt_eq r.length 1 (by omega) (by omega) (by omega), Option.bind_some, if_neg (by omega), if_pos rfl]
  have j1 : laws_FnExactStateAfter.j1 (2 * c.length + 2109) c n r b r false = some true := by
    simp only [laws_FnExactStateAfter.j1, Bool.false_eq_true, if_false]
    rw [markInt_eq r 1 (by omega) (by omega) (by omega), Option.bind_some]
    simp only
    rw [heldInt_eq r.length 1 (by omega) (by omega) (by omega), Option.bind_some, if_neg (by omega), if_pos (by trivial), t1 _ (by omega), Option.bind_some, i1 _ (by omega), Option.bind_some]
    simp only
    rw [e3 _ (by omega), Option.bind_some, if_pos (decide_eq_true rfl), bne_self_eq_false]
    exact j2
  simp only
  rw [e3 _ (by omega), Option.bind_some, if_pos (decide_eq_true rfl), bne_self_eq_false]
  simp only [laws_FnExactStateAfter.j0, Bool.false_eq_true, if_false]
  rw [t1 _ (by omega), Option.bind_some, e1 _ (by omega), Option.bind_some, if_pos rfl, markInstr_eq C 1 (by omega) (by omega) (by omega), Option.bind_some]
  simp only
  rw [if_neg (by omega), e3 _ (by omega), Option.bind_some, if_pos (decide_eq_true rfl), bne_self_eq_false]
  exact j1

end Go.Proofs.Ytboidohbhoehgaa.Pure
