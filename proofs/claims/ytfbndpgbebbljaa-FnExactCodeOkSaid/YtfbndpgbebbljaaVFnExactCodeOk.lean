/- The pure statement of the law FnExactCodeOk: what the printed function comes to is true. No condition beyond what every argument of these types meets. -/
import Derived.Test.YtfbndpgbebbljaaQFnExactCodeOk1
import Derived.OpenShut
namespace Go.Proofs.Ytfbndpgbebbljaa.Pure
open Go.RowKit Go.Proofs.Ytfbndpgbebbljaa.QFnExactCodeOk Go.Proofs.YtfbndpgbebbljaaW.PrintWords Go.Proofs.YtfbndpgbebbljaaW.PrintLast Go.Proofs.YtfbndpgbebbljaaW.PrintMore
set_option linter.unusedVariables false
set_option linter.unusedSimpArgs false
--BLOCKS
theorem wf_b {z : Int} (h : (Lit.int .i64 z).wf = true) : -9223372036854775808 ≤ z ∧ z ≤ 9223372036854775807 := bounds_i64 h
theorem wrap_id {z : Int} (h1 : -9223372036854775808 ≤ z) (h2 : z ≤ 9223372036854775807) : wrap64 z = z := by unfold wrap64; omega
theorem mn_min (a b : Int) : mn a b = min a b := by unfold mn; omega
theorem mx_max (a b : Int) : mx a b = max a b := by unfold mx; omega
theorem in_eq (x lo hi : Int) : spec_l01In.f x lo hi = some (decide (lo ≤ x ∧ x ≤ hi)) := by
  unfold spec_l01In.f; split <;> simp_all <;> omega
theorem within_eq (x lo hi : Int) : impl_within.f x lo hi = some (decide (lo ≤ x ∧ x ≤ hi)) := by
  unfold impl_within.f; split <;> simp_all <;> omega
theorem rd_mid (pre : List Int) (a : Int) (suf : List Int) : rd (pre ++ a :: suf) (pre.length : Int) = a := by simp [rd]
theorem len_mid {α : Type} (pre : List α) (a : α) (suf : List α) : (pre ++ a :: suf).length = (pre ++ [a]).length + suf.length := by simp; omega
theorem app_mid {α : Type} (pre : List α) (a : α) (suf : List α) : pre ++ a :: suf = (pre ++ [a]) ++ suf := by simp
theorem wrap_len {α : Type} {pre : List α} {a : α} (h : pre.length < 9223372036854775807) : wrap64 ((pre.length : Int) + 1) = ((pre ++ [a]).length : Int) := by
  rw [wrap_id (by omega) (by omega)]; simp
theorem pred {d k : Nat} (h : d < k) : ∃ j, k = j + 1 := ⟨k - 1, by omega⟩
def cvInstr (x : S99) : S97 := ⟨x.f0, x.f1, x.f2⟩
theorem rdA_Instr (pre : List S99) (a : S99) (suf : List S99) : rd_T99 (pre ++ a :: suf) (pre.length : Int) = a := by simp [rd_T99]
theorem toInstr_loop : ∀ (suf pre : List S99) (rep : List S97) (k : Nat), suf.length < k → rep.length = suf.length → (pre ++ suf).length < 9223372036854775807 → laws_toInstrS.l0 k (pre ++ suf) (pre.map cvInstr ++ rep) (pre.length : Int) = some ((pre ++ suf).map cvInstr)
  | [], pre, rep, k, hk, hr, hb => by
    obtain ⟨k, rfl⟩ := pred hk
    obtain rfl : rep = [] := List.length_eq_zero_iff.1 hr
    simp only [laws_toInstrS.l0]
    rw [if_neg (by simp)]; simp
  | a :: suf, pre, r :: rep, k, hk, hr, hb => by
    obtain ⟨k, rfl⟩ := pred hk
    have hl : (pre ++ a :: suf).length = pre.length + suf.length + 1 := by simp; omega
    have hl2 : (pre.map cvInstr ++ r :: rep).length = pre.length + rep.length + 1 := by simp; omega
    have ih := toInstr_loop suf (pre ++ [a]) rep k (by simpa using hk) (by simpa using hr) (by simpa using hb)
    simp only [laws_toInstrS.l0]
    rw [if_pos (by omega), if_pos (by omega), rdA_Instr]
    simp only [laws_toInstr.f, Option.bind_some]
    rw [if_pos (by omega), wrap_len (a := a) (by omega), Int.toNat_natCast]
    have e : (pre.map cvInstr ++ r :: rep).set pre.length (cvInstr a) = (pre ++ [a]).map cvInstr ++ rep := by
      rw [List.set_append_right _ _ (by simp)]; simp
    have e2 : (pre.map cvInstr ++ r :: rep).set pre.length (⟨a.f0, a.f1, a.f2⟩ : S97) = (pre ++ [a]).map cvInstr ++ rep := e
    rw [e2]
    simpa using ih
  | _ :: _, _, [], _, _, hr, _ => by simp at hr
theorem toInstrS_eq (l : List S99) (hl : l.length ≤ 1048576) {k : Nat} (hk : l.length < k) : laws_toInstrS.f k l = some (l.map cvInstr) := by
  unfold laws_toInstrS.f
  rw [if_pos (by omega), if_pos (by omega), Int.toNat_natCast]
  have := toInstr_loop l [] (List.replicate l.length z97) k hk (by simp) (by simp; omega)
  simpa using this
theorem szInstrS_ev (l : List S99) (a : Int) (hl : l.length ≤ maxLen) (ha : 0 ≤ a ∧ a ≤ 1048576) : (laws_szInstrS.f l a = some (-1)) ∨ ((l.length : Int) ≤ a ∧ laws_szInstrS.f l a = some (a - l.length)) := by
  unfold laws_szInstrS.f
  unfold maxLen at hl
  rw [wrap_id (by omega) (by omega)]
  by_cases h : a - (l.length : Int) < 0
  · rw [if_pos h]; exact .inl rfl
  · rw [if_neg h]; exact .inr ⟨by omega, rfl⟩
theorem rdB_Instr (pre : List S97) (a : S97) (suf : List S97) : rd_T97 (pre ++ a :: suf) (pre.length : Int) = a := by simp [rd_T97]
theorem eqInstr_loop : ∀ (suf pre : List S97) (k : Nat), suf.length < k → (pre ++ suf).length < 9223372036854775807 → laws_eqInstrS.l0 k (pre ++ suf) (pre ++ suf) (pre.length : Int) = some true
  | [], pre, k, hk, hb => by
    obtain ⟨k, rfl⟩ := pred hk
    simp only [laws_eqInstrS.l0]
    rw [if_neg (by simp)]
  | a :: suf, pre, k, hk, hb => by
    obtain ⟨k, rfl⟩ := pred hk
    have hl : (pre ++ a :: suf).length = pre.length + suf.length + 1 := by simp; omega
    have ih := eqInstr_loop suf (pre ++ [a]) k (by simpa using hk) (by simpa using hb)
    simp only [laws_eqInstrS.l0]
    rw [if_pos (by omega), if_pos (by omega), rdB_Instr]
    simp only [laws_eqInstr.f, Option.bind_some, if_true]
    try rw [if_pos (by omega)]
    rw [wrap_len (a := a) (by omega), app_mid]
    exact ih
theorem eqInstrS_eq (l : List S97) (hl : l.length < 9223372036854775807) {k : Nat} (hk : l.length < k) : laws_eqInstrS.f k l l = some true := by
  unfold laws_eqInstrS.f
  rw [if_pos rfl]
  have := eqInstr_loop l [] k hk (by simpa using hl)
  simpa using this
/-- An instruction of a code of n instructions. -/
def okI (n : Int) (x : S97) : Bool := decide ((1 ≤ x.f0 ∧ x.f0 ≤ 5) ∧ (0 ≤ x.f1 ∧ x.f1 ≤ 3) ∧ (0 ≤ x.f2 ∧ x.f2 ≤ (if x.f0 = 1 then 999 else if x.f0 = 5 then n else 3)))
def codeM (l : List S97) : Bool := decide (1 ≤ (l.length : Int) ∧ (l.length : Int) ≤ 16) && l.all (okI (l.length : Int))
theorem rdC_mid (pre : List S97) (a : S97) (suf : List S97) : rd_T97 (pre ++ a :: suf) (pre.length : Int) = a := by simp [rd_T97]
theorem iCode_j (x0 x10 : List S97) (x11 x12 m a b c : Int) (k : Nat) : impl_CodeOk.j1 (k + 1) x0 m x10 x11 x12 a b c = if (1 ≤ a ∧ a ≤ 5) ∧ (0 ≤ b ∧ b ≤ 3) ∧ (0 ≤ c ∧ c ≤ m) then impl_CodeOk.l0 k x0 x10 x11 (wrap64 (x12 + 1)) else some false := by
  simp only [impl_CodeOk.j1, within_eq, Option.bind_some]
  by_cases h1 : 1 ≤ a ∧ a ≤ 5
  · by_cases h2 : 0 ≤ b ∧ b ≤ 3
    · by_cases h3 : 0 ≤ c ∧ c ≤ m
      · simp only [decide_eq_true h1, decide_eq_true h2, decide_eq_true h3, if_true]
        rw [if_pos ⟨h1, h2, h3⟩]
      · simp only [decide_eq_true h1, decide_eq_true h2, decide_eq_false h3, if_true, Bool.false_eq_true, if_false]
        rw [if_neg (fun h => h3 h.2.2)]
    · simp only [decide_eq_true h1, decide_eq_false h2, if_true, Bool.false_eq_true, if_false]
      rw [if_neg (fun h => h2 h.2.1)]
  · simp only [decide_eq_false h1, Bool.false_eq_true, if_false]
    rw [if_neg (fun h => h1 h.1)]
theorem iCode_loop (l : List S97) : ∀ (suf pre : List S97) (k : Nat), 2 * suf.length < k → l = pre ++ suf → (pre ++ suf).length < 9223372036854775807 → impl_CodeOk.l0 k l l (l.length : Int) (pre.length : Int) = some (suf.all (okI (l.length : Int)))
  | [], pre, k, hk, e, hb => by
    obtain ⟨k, rfl⟩ := pred hk
    simp only [impl_CodeOk.l0]
    rw [if_neg (by rw [e]; simp)]; rfl
  | a :: suf, pre, k, hk, e, hb => by
    have hk2 : 2 * suf.length + 2 < k := by simp at hk; omega
    obtain ⟨k, rfl⟩ : ∃ j, k = j + 2 := ⟨k - 2, by omega⟩
    have hl : l.length = pre.length + suf.length + 1 := by rw [e]; simp; omega
    have hb2 : pre.length + suf.length + 1 < 9223372036854775807 := by simp at hb; omega
    have ih := iCode_loop l suf (pre ++ [a]) k (by omega) (by rw [e]; simp) (by simpa using hb)
    have hr : rd_T97 l (pre.length : Int) = a := by rw [e, rdC_mid]
    simp only [impl_CodeOk.l0]
    rw [if_pos (by omega), if_pos (by omega), if_pos (by omega), hr]
    simp only [iCode_j, wrap_len (a := a) (show pre.length < 9223372036854775807 by omega), ih, List.all_cons]
    unfold okI
    by_cases h1 : a.f0 = 1
    · simp only [if_pos h1]
      split
      · rename_i h; rw [decide_eq_true h, Bool.true_and]
      · rename_i h; rw [decide_eq_false h]; rfl
    · by_cases h5 : a.f0 = 5
      · simp only [if_neg h1, if_pos h5]
        split
        · rename_i h; rw [decide_eq_true h, Bool.true_and]
        · rename_i h; rw [decide_eq_false h]; rfl
      · simp only [if_neg h1, if_neg h5]
        split
        · rename_i h; rw [decide_eq_true h, Bool.true_and]
        · rename_i h; rw [decide_eq_false h]; rfl
theorem iCode_eq (l : List S97) (hl : l.length < 9223372036854775807) {k : Nat} (hk : 2 * l.length < k) : impl_CodeOk.f k l = some (codeM l) := by
  unfold impl_CodeOk.f codeM
  rw [within_eq, Option.bind_some]
  by_cases h : 1 ≤ (l.length : Int) ∧ (l.length : Int) ≤ 16
  · rw [if_pos (decide_eq_true h), decide_eq_true h, Bool.true_and]
    exact iCode_loop l l [] k hk rfl (by simpa using hl)
  · rw [decide_eq_false h]; rfl
theorem sCode_j (x0 : List S97) (x12 m a b c : Int) (k : Nat) : spec_CodeOk.j1 (k + 1) x0 x12 m a b c = if (1 ≤ a ∧ a ≤ 5) ∧ (0 ≤ b ∧ b ≤ 3) ∧ (0 ≤ c ∧ c ≤ m) then spec_CodeOk.l0 k x0 (wrap64 (x12 + 1)) else some false := by
  simp only [spec_CodeOk.j1, in_eq, Option.bind_some]
  by_cases h1 : 1 ≤ a ∧ a ≤ 5
  · by_cases h2 : 0 ≤ b ∧ b ≤ 3
    · by_cases h3 : 0 ≤ c ∧ c ≤ m
      · simp only [decide_eq_true h1, decide_eq_true h2, decide_eq_true h3, if_true]
        rw [if_pos ⟨h1, h2, h3⟩]
      · simp only [decide_eq_true h1, decide_eq_true h2, decide_eq_false h3, if_true, Bool.false_eq_true, if_false]
        rw [if_neg (fun h => h3 h.2.2)]
    · simp only [decide_eq_true h1, decide_eq_false h2, if_true, Bool.false_eq_true, if_false]
      rw [if_neg (fun h => h2 h.2.1)]
  · simp only [decide_eq_false h1, Bool.false_eq_true, if_false]
    rw [if_neg (fun h => h1 h.1)]
theorem sCode_loop (l : List S97) : ∀ (suf pre : List S97) (k : Nat), 2 * suf.length < k → l = pre ++ suf → (pre ++ suf).length < 9223372036854775807 → spec_CodeOk.l0 k l (pre.length : Int) = some (suf.all (okI (l.length : Int)) && decide (1 ≤ (l.length : Int) ∧ (l.length : Int) ≤ 16))
  | [], pre, k, hk, e, hb => by
    obtain ⟨k, rfl⟩ := pred hk
    simp only [spec_CodeOk.l0]
    rw [if_neg (by rw [e]; simp), in_eq]; rfl
  | a :: suf, pre, k, hk, e, hb => by
    have hk2 : 2 * suf.length + 2 < k := by simp at hk; omega
    obtain ⟨k, rfl⟩ : ∃ j, k = j + 2 := ⟨k - 2, by omega⟩
    have hl : l.length = pre.length + suf.length + 1 := by rw [e]; simp; omega
    have hb2 : pre.length + suf.length + 1 < 9223372036854775807 := by simp at hb; omega
    have ih := sCode_loop l suf (pre ++ [a]) k (by omega) (by rw [e]; simp) (by simpa using hb)
    have hr : rd_T97 l (pre.length : Int) = a := by rw [e, rdC_mid]
    simp only [spec_CodeOk.l0]
    rw [if_pos (by omega), if_pos (by omega), hr]
    simp only [sCode_j, wrap_len (a := a) (show pre.length < 9223372036854775807 by omega), ih, List.all_cons]
    unfold okI
    by_cases h1 : a.f0 = 1
    · simp only [if_pos h1]
      split
      · rename_i h; rw [decide_eq_true h, Bool.true_and]
      · rename_i h; rw [decide_eq_false h]; rfl
    · by_cases h5 : a.f0 = 5
      · simp only [if_neg h1, if_pos h5]
        split
        · rename_i h; rw [decide_eq_true h, Bool.true_and]
        · rename_i h; rw [decide_eq_false h]; rfl
      · simp only [if_neg h1, if_neg h5]
        split
        · rename_i h; rw [decide_eq_true h, Bool.true_and]
        · rename_i h; rw [decide_eq_false h]; rfl
theorem sCode_eq (l : List S97) (hl : l.length < 9223372036854775807) {k : Nat} (hk : 2 * l.length < k) : spec_CodeOk.f k l = some (codeM l) := by
  unfold spec_CodeOk.f codeM
  have := sCode_loop l l [] k hk rfl (by simpa using hl)
  rw [Bool.and_comm]
  exact this

theorem FnExactCodeOk : ∀ (l0 : List S99), (l0.length ≤ maxLen ∧ ∀ x ∈ l0, ((Lit.int .i64 x.f0).wf = true) ∧ ((Lit.int .i64 x.f1).wf = true) ∧ ((Lit.int .i64 x.f2).wf = true)) → ∃ k, laws_FnExactCodeOk.f k l0 = some true := by
  intro l hl
  refine ⟨2 * l.length + 1, ?_⟩
  unfold laws_FnExactCodeOk.f
  rcases szInstrS_ev l 1048576 hl.1 (by omega) with h | ⟨h1, h2⟩
  · rw [h, Option.bind_some, if_pos (by omega)]
  have hm : (l.map cvInstr).length = l.length := by simp
  rw [h2, Option.bind_some, if_neg (by omega), toInstrS_eq l (by omega) (by omega), Option.bind_some, sCode_eq _ (by omega) (by omega), Option.bind_some, Option.bind_some, iCode_eq _ (by omega) (by omega), Option.bind_some, if_neg (by simp), Option.bind_some, eqInstrS_eq _ (by omega) (by omega)]
  rfl

end Go.Proofs.Ytfbndpgbebbljaa.Pure
