/- The pure statement of the law FnExactCutPoints: what the printed function comes to is true. No condition beyond what every argument of these types meets. -/
import Derived.Test.YtjfmbdigfnablaaQFnExactCutPoints3
import Derived.OpenShut
namespace Go.Proofs.Ytjfmbdigfnablaa.Pure
open Go.RowKit Go.Proofs.Ytjfmbdigfnablaa.QFnExactCutPoints Go.Proofs.YtjfmbdigfnablaaW.PrintWords Go.Proofs.YtjfmbdigfnablaaW.PrintLast Go.Proofs.YtjfmbdigfnablaaW.PrintMore
set_option linter.unusedVariables false
set_option linter.unusedSimpArgs false
--BLOCKS
theorem wf_b {z : Int} (h : (Lit.int .i64 z).wf = true) : -9223372036854775808 ≤ z ∧ z ≤ 9223372036854775807 := bounds_i64 h
theorem wrap_id {z : Int} (h1 : -9223372036854775808 ≤ z) (h2 : z ≤ 9223372036854775807) : wrap64 z = z := by unfold wrap64; omega
theorem mn_min (a b : Int) : mn a b = min a b := by unfold mn; omega
theorem mx_max (a b : Int) : mx a b = max a b := by unfold mx; omega
theorem in_eq (x lo hi : Int) : spec_l01In.f x lo hi = some (decide (lo ≤ x ∧ x ≤ hi)) := by
  unfold spec_l01In.f; split <;> simp_all <;> omega
theorem within_eq (x lo hi : Int) : impl_within.f x lo hi = some (decide (lo ≤ x ∧ x ≤ hi)) := by
  unfold impl_within.f; split <;> simp_all <;> omega
theorem rd_mid (pre : List Int) (a : Int) (suf : List Int) : rd (pre ++ a :: suf) (pre.length : Int) = a := by simp [rd]
theorem len_mid {α : Type} (pre : List α) (a : α) (suf : List α) : (pre ++ a :: suf).length = (pre ++ [a]).length + suf.length := by simp; omega
theorem app_mid {α : Type} (pre : List α) (a : α) (suf : List α) : pre ++ a :: suf = (pre ++ [a]) ++ suf := by simp
theorem wrap_len {α : Type} {pre : List α} {a : α} (h : pre.length < 9223372036854775807) : wrap64 ((pre.length : Int) + 1) = ((pre ++ [a]).length : Int) := by
  rw [wrap_id (by omega) (by omega)]; simp
theorem pred {d k : Nat} (h : d < k) : ∃ j, k = j + 1 := ⟨k - 1, by omega⟩
theorem eqInt_loop : ∀ (s1 s2 pre : List Int) (k : Nat), s1.length < k → s2.length = s1.length → (pre ++ s1).length < 9223372036854775807 → laws_eqIntS.l0 k (pre ++ s1) (pre ++ s2) (pre.length : Int) = some (decide (s1 = s2))
  | [], s2, pre, k, hk, hr, hb => by
    obtain ⟨k, rfl⟩ := pred hk
    obtain rfl : s2 = [] := List.length_eq_zero_iff.1 hr
    simp only [laws_eqIntS.l0]
    rw [if_neg (by simp)]; simp
  | a :: s1, b :: s2, pre, k, hk, hr, hb => by
    obtain ⟨k, rfl⟩ := pred hk
    have hl : (pre ++ a :: s1).length = pre.length + s1.length + 1 := by simp; omega
    have hl2 : (pre ++ b :: s2).length = pre.length + s2.length + 1 := by simp; omega
    simp only [laws_eqIntS.l0]
    rw [if_pos (by omega), if_pos (by omega), if_pos (by omega), rd_mid, rd_mid]
    by_cases hab : a = b
    · subst hab
      have ih := eqInt_loop s1 s2 (pre ++ [a]) k (by simpa using hk) (by simpa using hr) (by simpa using hb)
      rw [if_pos rfl, wrap_len (a := a) (by omega), app_mid, app_mid pre a s2, ih]
      simp
    · rw [if_neg hab]; simp [hab]
  | _ :: _, [], _, _, _, hr, _ => by simp at hr
theorem eqInt_eq (l m : List Int) (hl : l.length < 9223372036854775807) {k : Nat} (hk : l.length < k) : laws_eqIntS.f k l m = some (decide (l = m)) := by
  unfold laws_eqIntS.f
  by_cases h : l.length = m.length
  · rw [if_pos (by omega)]
    have := eqInt_loop l m [] k hk h.symm (by simpa using hl)
    simpa using this
  · rw [if_neg (by omega), decide_eq_false (fun e => h (by rw [e]))]
/-- The marks from m on. -/
def mkInt : Int → Nat → List Int
  | _, 0 => []
  | m, i + 1 => m :: mkInt (m + 1) i
theorem mkInt_len : ∀ (d : Nat) (m : Int), (mkInt m d).length = d
  | 0, _ => rfl
  | d + 1, m => by simp [mkInt, mkInt_len d]
theorem markInt_loop : ∀ (suf pre : List Int) (k : Nat) (m : Int), suf.length < k → (pre ++ suf).length ≤ 4611686018427387 → 0 ≤ m → m + suf.length ≤ 4611686018427387904 → laws_markIntS.l0 k (pre ++ suf) m (pre.length : Int) = some (m + suf.length, pre ++ mkInt m suf.length)
  | [], pre, k, m, hk, hb, h0, hm => by
    obtain ⟨k, rfl⟩ := pred hk
    simp only [laws_markIntS.l0]
    rw [if_neg (by simp)]; simp [mkInt]
  | a :: suf, pre, k, m, hk, hb, h0, hm => by
    obtain ⟨k, rfl⟩ := pred hk
    have hl : (pre ++ a :: suf).length = pre.length + suf.length + 1 := by simp; omega
    have hc : ((a :: suf).length : Int) = suf.length + 1 := by simp
    rw [hc] at hm
    have ih := markInt_loop suf (pre ++ [m]) k (m + 1) (by simpa using hk) (by simp at hb ⊢; omega) (by omega) (by omega)
    simp only [laws_markIntS.l0]
    have hset : (pre ++ a :: suf).set pre.length m = pre ++ m :: suf := by rw [List.set_append_right _ _ (by omega)]; simp
    rw [if_pos (by omega), if_pos (by omega), Int.toNat_natCast, hset, wrap_id (z := m + 1) (by omega) (by omega), wrap_len (a := m) (by omega), app_mid, ih]
    simp [mkInt]
    omega
theorem markInt_eq (l : List Int) (m : Int) (h0 : 0 ≤ m) (hm : m + l.length ≤ 4611686018427387) {k : Nat} (hk : l.length < k) : laws_markIntS.f k l m = some (m + l.length, mkInt m l.length) := by
  have := markInt_loop l [] k m hk (by simp; omega) h0 (by omega)
  simpa [laws_markIntS.f] using this
theorem heldInt_loop : ∀ (d : Nat) (pre : List Int) (k : Nat) (m : Int), d < k → (pre ++ mkInt m d).length ≤ 4611686018427387 → 0 ≤ m → m + d ≤ 4611686018427387904 → laws_heldIntS.l0 k (pre ++ mkInt m d) m (pre.length : Int) = some (m + d)
  | 0, pre, k, m, hk, hb, h0, hm => by
    obtain ⟨k, rfl⟩ := pred hk
    rw [show mkInt m 0 = [] from rfl]
    simp only [laws_heldIntS.l0]
    rw [if_neg (by simp)]; simp
  | d + 1, pre, k, m, hk, hb, h0, hm => by
    obtain ⟨k, rfl⟩ := pred hk
    have ih := heldInt_loop d (pre ++ [m]) k (m + 1) (by omega) (by simp [mkInt] at hb ⊢; omega) (by omega) (by omega)
    rw [show mkInt m (d + 1) = m :: mkInt (m + 1) d from rfl] at hb ⊢
    simp only [laws_heldIntS.l0]
    have hl : ∀ (a : Int) (suf : List Int), (pre ++ a :: suf).length = pre.length + suf.length + 1 := fun a suf => by simp; omega
    rw [hl] at hb
    rw [if_pos (by rw [hl]; omega), if_pos (by omega), rd_mid, if_pos rfl, wrap_id (z := m + 1) (by omega) (by omega), wrap_len (a := m) (by omega), app_mid, ih]
    congr 1
    omega
theorem heldInt_eq (d : Nat) (m : Int) (h0 : 0 ≤ m) (hm : m + d ≤ 4611686018427387) {k : Nat} (hk : d < k) : laws_heldIntS.f k (mkInt m d) m = some (m + d) := by
  have := heldInt_loop d [] k m hk (by simp [mkInt_len]; omega) h0 (by omega)
  simpa [laws_heldIntS.f] using this
def cvStmt (x : S52) : S48 := ⟨x.f0, x.f1, x.f2, ⟨x.f3.f0, x.f3.f1, x.f3.f2⟩⟩
theorem rdA_Stmt (pre : List S52) (a : S52) (suf : List S52) : rd_T52 (pre ++ a :: suf) (pre.length : Int) = a := by simp [rd_T52]
theorem toStmt_loop : ∀ (suf pre : List S52) (rep : List S48) (k : Nat), suf.length < k → rep.length = suf.length → (pre ++ suf).length < 9223372036854775807 → laws_toStmtS.l0 k (pre ++ suf) (pre.map cvStmt ++ rep) (pre.length : Int) = some ((pre ++ suf).map cvStmt)
  | [], pre, rep, k, hk, hr, hb => by
    obtain ⟨k, rfl⟩ := pred hk
    obtain rfl : rep = [] := List.length_eq_zero_iff.1 hr
    simp only [laws_toStmtS.l0]
    rw [if_neg (by simp)]; simp
  | a :: suf, pre, r :: rep, k, hk, hr, hb => by
    obtain ⟨k, rfl⟩ := pred hk
    have hl : (pre ++ a :: suf).length = pre.length + suf.length + 1 := by simp; omega
    have hl2 : (pre.map cvStmt ++ r :: rep).length = pre.length + rep.length + 1 := by simp; omega
    have ih := toStmt_loop suf (pre ++ [a]) rep k (by simpa using hk) (by simpa using hr) (by simpa using hb)
    simp only [laws_toStmtS.l0]
    rw [if_pos (by omega), if_pos (by omega), rdA_Stmt]
    simp only [laws_toStmt.f, laws_toExpr.f, Option.bind_some]
    rw [if_pos (by omega), wrap_len (a := a) (by omega), Int.toNat_natCast]
    have e : (pre.map cvStmt ++ r :: rep).set pre.length (cvStmt a) = (pre ++ [a]).map cvStmt ++ rep := by
      rw [List.set_append_right _ _ (by simp)]; simp
    have e2 : (pre.map cvStmt ++ r :: rep).set pre.length (⟨a.f0, a.f1, a.f2, ⟨a.f3.f0, a.f3.f1, a.f3.f2⟩⟩ : S48) = (pre ++ [a]).map cvStmt ++ rep := e
    rw [e2]
    simpa using ih
  | _ :: _, _, [], _, _, hr, _ => by simp at hr
theorem toStmtS_eq (l : List S52) (hl : l.length ≤ 1048576) {k : Nat} (hk : l.length < k) : laws_toStmtS.f k l = some (l.map cvStmt) := by
  unfold laws_toStmtS.f
  rw [if_pos (by omega), if_pos (by omega), Int.toNat_natCast]
  have := toStmt_loop l [] (List.replicate l.length z48) k hk (by simp) (by simp; omega)
  simpa using this
theorem szStmtS_ev (l : List S52) (a : Int) (hl : l.length ≤ maxLen) (ha : 0 ≤ a ∧ a ≤ 1048576) : (laws_szStmtS.f l a = some (-1)) ∨ ((l.length : Int) ≤ a ∧ laws_szStmtS.f l a = some (a - l.length)) := by
  unfold laws_szStmtS.f
  unfold maxLen at hl
  rw [wrap_id (by omega) (by omega)]
  by_cases h : a - (l.length : Int) < 0
  · rw [if_pos h]; exact .inl rfl
  · rw [if_neg h]; exact .inr ⟨by omega, rfl⟩
theorem rdB_Stmt (pre : List S48) (a : S48) (suf : List S48) : rd_T48 (pre ++ a :: suf) (pre.length : Int) = a := by simp [rd_T48]
theorem eqStmt_loop : ∀ (suf pre : List S48) (k : Nat), suf.length < k → (pre ++ suf).length < 9223372036854775807 → laws_eqStmtS.l0 k (pre ++ suf) (pre ++ suf) (pre.length : Int) = some true
  | [], pre, k, hk, hb => by
    obtain ⟨k, rfl⟩ := pred hk
    simp only [laws_eqStmtS.l0]
    rw [if_neg (by simp)]
  | a :: suf, pre, k, hk, hb => by
    obtain ⟨k, rfl⟩ := pred hk
    have hl : (pre ++ a :: suf).length = pre.length + suf.length + 1 := by simp; omega
    have ih := eqStmt_loop suf (pre ++ [a]) k (by simpa using hk) (by simpa using hb)
    simp only [laws_eqStmtS.l0]
    rw [if_pos (by omega), if_pos (by omega), rdB_Stmt]
    simp only [laws_eqStmt.f, laws_eqExpr.f, Option.bind_some, if_true]
    try rw [if_pos (by omega)]
    rw [wrap_len (a := a) (by omega), app_mid]
    exact ih
theorem eqStmtS_eq (l : List S48) (hl : l.length < 9223372036854775807) {k : Nat} (hk : l.length < k) : laws_eqStmtS.f k l l = some true := by
  unfold laws_eqStmtS.f
  rw [if_pos rfl]
  have := eqStmt_loop l [] k hk (by simpa using hl)
  simpa using this
/-- The marks from m on. -/
def mkStmt : Int → Nat → List S48
  | _, 0 => []
  | m, i + 1 => ⟨m, m + 1, m + 2, ⟨m + 3, m + 4, m + 5⟩⟩ :: mkStmt (m + 6) i
theorem rdM_Stmt (pre : List S48) (a : S48) (suf : List S48) : rd_T48 (pre ++ a :: suf) (pre.length : Int) = a := by simp [rd_T48]
theorem wrap1_Stmt {m : Int} (h0 : 0 ≤ m) (h1 : m < 4611686018427387904) : wrap64 (m + 1) = m + 1 := wrap_id (by omega) (by omega)
theorem markStmt_loop : ∀ (suf pre : List S48) (k : Nat) (m : Int), suf.length < k → (pre ++ suf).length ≤ 4611686018427387 → 0 ≤ m → m + 6 * suf.length ≤ 4611686018427387904 → laws_markStmtS.l0 k (pre ++ suf) m (pre.length : Int) = some (m + 6 * suf.length, pre ++ mkStmt m suf.length)
  | [], pre, k, m, hk, hb, h0, hm => by
    obtain ⟨k, rfl⟩ := pred hk
    simp only [laws_markStmtS.l0]
    rw [if_neg (by simp)]; simp [mkStmt]
  | a :: suf, pre, k, m, hk, hb, h0, hm => by
    obtain ⟨k, rfl⟩ := pred hk
    have hl : (pre ++ a :: suf).length = pre.length + suf.length + 1 := by simp; omega
    have hc : ((a :: suf).length : Int) = suf.length + 1 := by simp
    rw [hc] at hm
    have ih := markStmt_loop suf (pre ++ [⟨m, m + 1, m + 2, ⟨m + 3, m + 4, m + 5⟩⟩]) k (m + 6) (by simpa using hk) (by simp at hb ⊢; omega) (by omega) (by omega)
    simp only [laws_markStmtS.l0]
    rw [if_pos (by omega), if_pos (by omega), rdM_Stmt, Int.toNat_natCast]
    have hset : ∀ b c : S48, (pre ++ b :: suf).set pre.length c = pre ++ c :: suf := fun b c => by rw [List.set_append_right _ _ (by omega)]; simp
    simp only [hset, Option.bind_some, rdM_Stmt]
    rw [wrap1_Stmt (m := m) (by omega) (by omega), wrap1_Stmt (m := m + 1) (by omega) (by omega), show m + 1 + 1 = m + 2 from by omega, wrap1_Stmt (m := m + 2) (by omega) (by omega), show m + 2 + 1 = m + 3 from by omega, wrap1_Stmt (m := m + 3) (by omega) (by omega), show m + 3 + 1 = m + 4 from by omega, wrap1_Stmt (m := m + 4) (by omega) (by omega), show m + 4 + 1 = m + 5 from by omega, wrap1_Stmt (m := m + 5) (by omega) (by omega)]
    rw [wrap_len (a := (⟨m, m + 1, m + 2, ⟨m + 3, m + 4, m + 5⟩⟩ : S48)) (by omega), app_mid]
    rw [show m + 5 + 1 = m + 6 from by omega]
    rw [ih]
    simp [mkStmt]
    omega
theorem mkStmt_len : ∀ (d : Nat) (m : Int), (mkStmt m d).length = d
  | 0, _ => rfl
  | d + 1, m => by simp [mkStmt, mkStmt_len d]
theorem markStmt_eq (l : List S48) (m : Int) (h0 : 0 ≤ m) (hm : m + 6 * l.length ≤ 4611686018427387) {k : Nat} (hk : l.length < k) : laws_markStmtS.f k l m = some (m + 6 * l.length, mkStmt m l.length) := by
  have := markStmt_loop l [] k m hk (by simp; omega) h0 (by omega)
  simpa [laws_markStmtS.f] using this
def exprM (a b c : Int) : Bool := decide (1 ≤ a ∧ a ≤ 7) && decide (-8 ≤ b ∧ b ≤ 999) && decide (-8 ≤ c ∧ c ≤ 999)
theorem iExpr_eq (a b c : Int) : impl_ExprOk.f a b c = some (exprM a b c) := by
  unfold impl_ExprOk.f impl_OperandOk.f exprM
  simp only [within_eq, Option.bind_some]
  cases decide (1 ≤ a ∧ a ≤ 7) <;> cases decide (-8 ≤ b ∧ b ≤ 999) <;> simp
theorem sExpr_eq (a b c : Int) : spec_ExprOk.f a b c = some (exprM a b c) := by
  unfold spec_ExprOk.f spec_OperandOk.f exprM
  simp only [in_eq, Option.bind_some]
  cases decide (1 ≤ a ∧ a ≤ 7) <;> cases decide (-8 ≤ b ∧ b ≤ 999) <;> simp
def zeroM (a b c : Int) : Bool := a == 0 && b == 0 && c == 0
def stM (a0 a1 a2 a3 a4 a5 : Int) : Bool :=
  if a0 = 1 then decide (0 ≤ a1 ∧ a1 ≤ 7) && exprM a3 a4 a5 && a2 == 0
  else if a0 = 2 then decide (0 ≤ a1 ∧ a1 ≤ 7) && decide (0 ≤ a2 ∧ a2 ≤ 3) && zeroM a3 a4 a5
  else if a0 = 3 ∨ a0 = 4 then a1 == 0 && a2 == 0 && exprM a3 a4 a5
  else if a0 = 5 then a1 == 0 && decide (1 ≤ a2 ∧ a2 ≤ 5) && zeroM a3 a4 a5
  else a0 == 6 && (a1 == 0 && a2 == 0 && zeroM a3 a4 a5)
theorem iStmt_eq (a0 a1 a2 a3 a4 a5 : Int) {k : Nat} (hk : 2 ≤ k) : impl_StmtOk.f k a0 a1 a2 a3 a4 a5 = some (stM a0 a1 a2 a3 a4 a5) := by
  obtain ⟨k, rfl⟩ : ∃ j, k = j + 2 := ⟨k - 2, by omega⟩
  have hz : (!(a3 == 0) || (!(a4 == 0) || (!(a5 == 0)))) = !(zeroM a3 a4 a5) := by
    unfold zeroM; cases a3 == 0 <;> cases a4 == 0 <;> cases a5 == 0 <;> rfl
  have hb : (a1 != 0) = !(a1 == 0) := rfl
  unfold impl_StmtOk.f stM
  simp only [impl_StmtOk.j0, impl_StmtOk.j1, within_eq, impl_hasVar.f, impl_isVar.f, impl_hasExpr.f, impl_isSensor.f, iExpr_eq, hz, hb, Option.bind_some]
  generalize zeroM a3 a4 a5 = z
  generalize exprM a3 a4 a5 = e
  by_cases h1 : a0 = 1
  · subst h1
    cases decide (0 ≤ a1 ∧ a1 ≤ 7) <;> cases e <;> simp
  by_cases h2 : a0 = 2
  · subst h2
    cases decide (0 ≤ a1 ∧ a1 ≤ 7) <;> cases z <;> simp
  by_cases h3 : a0 = 3
  · subst h3
    cases a1 == 0 <;> cases e <;> simp
  by_cases h4 : a0 = 4
  · subst h4
    cases a1 == 0 <;> cases e <;> simp
  by_cases h5 : a0 = 5
  · subst h5
    cases a1 == 0 <;> cases z <;> simp
  by_cases h6 : a0 = 6
  · subst h6
    cases a1 == 0 <;> cases z <;> simp
  · have : ¬ (1 ≤ a0 ∧ a0 ≤ 6) := by omega
    simp [this, h1, h2, h3, h4, h5, h6]
theorem sStmt_eq (a0 a1 a2 a3 a4 a5 : Int) {k : Nat} (hk : 2 ≤ k) : spec_StmtOk.f k a0 a1 a2 a3 a4 a5 = some (stM a0 a1 a2 a3 a4 a5) := by
  obtain ⟨k, rfl⟩ : ∃ j, k = j + 2 := ⟨k - 2, by omega⟩
  unfold spec_StmtOk.f spec_l04Plain.f stM
  simp only [spec_StmtOk.j0, spec_l04Plain.j0, in_eq, sExpr_eq, Option.bind_some]
  generalize exprM a3 a4 a5 = e
  unfold zeroM
  by_cases h1 : a0 = 1
  · subst h1
    cases decide (0 ≤ a1 ∧ a1 ≤ 7) <;> cases e <;> cases h : a2 == 0 <;> simp_all
  by_cases h2 : a0 = 2
  · subst h2
    cases decide (0 ≤ a1 ∧ a1 ≤ 7) <;> cases h3 : a3 == 0 <;> cases h4 : a4 == 0 <;> cases h5 : a5 == 0 <;> simp_all
  by_cases h3 : a0 = 3
  · subst h3
    cases h : a1 == 0 <;> cases h' : a2 == 0 <;> cases e <;> simp_all
  by_cases h4 : a0 = 4
  · subst h4
    cases h : a1 == 0 <;> cases h' : a2 == 0 <;> cases e <;> simp_all
  by_cases h5 : a0 = 5
  · subst h5
    cases h : a1 == 0 <;> cases h3 : a3 == 0 <;> cases h4 : a4 == 0 <;> cases h5 : a5 == 0 <;> simp_all
  by_cases h6 : a0 = 6
  · subst h6
    cases h : a1 == 0 <;> cases h2 : a2 == 0 <;> cases h3 : a3 == 0 <;> cases h4 : a4 == 0 <;> cases h5 : a5 == 0 <;> simp_all
  · simp [h1, h2, h3, h4, h5, h6]
    split <;> simp [h6]
def stS (x : S48) : Bool := stM x.f0 x.f1 x.f2 x.f3.f0 x.f3.f1 x.f3.f2
/-- One statement's step in depth. -/
def dlt (x : S48) : Int := (if x.f0 = 4 ∨ x.f0 = 5 then 1 else 0) - (if x.f0 = 6 then 1 else 0)
def blkM : Int → List S48 → Bool
  | d, [] => d == 0
  | d, x :: s => stS x && decide (0 ≤ d + dlt x ∧ d + dlt x ≤ 3) && blkM (d + dlt x) s
def blockM (l : List S48) : Bool := blkM 0 l && decide (l.length ≤ 24)
theorem rdS_mid (pre : List S48) (a : S48) (suf : List S48) : rd_T48 (pre ++ a :: suf) (pre.length : Int) = a := by simp [rd_T48]
theorem dlt_bd (x : S48) : -1 ≤ dlt x ∧ dlt x ≤ 1 := by unfold dlt; split <;> split <;> omega
theorem iBlk_loop (l : List S48) : ∀ (suf pre : List S48) (k : Nat) (d : Int), 2 * suf.length + 2 < k → (pre ++ suf).length < 9223372036854775807 → 0 ≤ d ∧ d ≤ 3 → impl_BlockOk.l0 k l d (pre ++ suf) ((pre ++ suf).length : Int) (pre.length : Int) = some (blkM d suf && decide (l.length ≤ 24))
  | [], pre, k, d, hk, hb, hd => by
    obtain ⟨k, rfl⟩ := pred hk
    simp only [impl_BlockOk.l0]
    rw [if_neg (by simp)]
    unfold blkM
    by_cases h : d = 0
    · rw [if_pos h, h]
      simp
      omega
    · rw [if_neg h]; simp [h]
  | a :: suf, pre, k, d, hk, hb, hd => by
    obtain ⟨k, rfl⟩ := pred hk
    obtain ⟨k, rfl⟩ := pred (show 0 < k by simp at hk; omega)
    have hk' : 2 * suf.length + 2 < k := by simp at hk; omega
    have hlen : (pre ++ a :: suf).length = pre.length + suf.length + 1 := by simp; omega
    have ih := fun d' hd' => iBlk_loop l suf (pre ++ [a]) k d' hk' (by simpa using hb) hd'
    rw [← app_mid] at ih
    have hop : impl_isOpening.f a.f0 = some (decide (a.f0 = 4 ∨ a.f0 = 5)) := by
      unfold impl_isOpening.f
      by_cases h4 : a.f0 = 4
      · simp [h4]
      · rw [if_neg h4]
        congr 1
        rw [Bool.eq_iff_iff]; simp [h4]
    simp only [impl_BlockOk.l0]
    rw [if_pos (by omega), if_pos (by omega), if_pos (by omega), rdS_mid, iStmt_eq _ _ _ _ _ _ (by omega), Option.bind_some]
    unfold blkM stS
    cases stM a.f0 a.f1 a.f2 a.f3.f0 a.f3.f1 a.f3.f2 with
    | false => simp
    | true =>
      rw [if_pos rfl, hop, Option.bind_some]
      simp only [impl_BlockOk.j1]
      unfold dlt
      by_cases ho : a.f0 = 4 ∨ a.f0 = 5
      · have h6 : ¬ a.f0 = 6 := by omega
        rw [if_pos (decide_eq_true ho), if_neg h6, if_pos ho, if_neg h6, wrap_id (z := d + 1) (by omega) (by omega), show d + (1 - 0) = d + 1 from by omega]
        by_cases g : d + 1 ≤ 3
        · rw [if_neg (by omega), if_neg (by omega), wrap_len (a := a) (by omega), ih (d + 1) (by omega), decide_eq_true (show 0 ≤ d + 1 ∧ d + 1 ≤ 3 by omega)]; simp
        · rw [if_neg (by omega), if_pos (by omega), decide_eq_false (show ¬ (0 ≤ d + 1 ∧ d + 1 ≤ 3) by omega)]; simp
      · rw [if_neg (by simpa using ho), if_neg ho]
        by_cases h6 : a.f0 = 6
        · rw [if_pos h6, if_pos h6, wrap_id (z := d - 1) (by omega) (by omega), show d + (0 - 1) = d - 1 from by omega]
          by_cases g : 0 ≤ d - 1
          · rw [if_neg (by omega), if_neg (by omega), wrap_len (a := a) (by omega), ih (d - 1) (by omega), decide_eq_true (show 0 ≤ d - 1 ∧ d - 1 ≤ 3 by omega)]; simp
          · rw [if_pos (by omega), decide_eq_false (show ¬ (0 ≤ d - 1 ∧ d - 1 ≤ 3) by omega)]; simp
        · rw [if_neg h6, if_neg h6, if_neg (by omega), if_neg (by omega), show d + (0 - 0) = d from by omega, wrap_len (a := a) (by omega), ih d hd, decide_eq_true hd]; simp
theorem iBlock_eq (l : List S48) (hl : l.length < 9223372036854775807) {k : Nat} (hk : 2 * l.length + 2 < k) : impl_BlockOk.f k l = some (blockM l) := by
  have := iBlk_loop l l [] k 0 hk (by simpa using hl) (by omega)
  simpa [impl_BlockOk.f, blockM] using this
theorem sBlk_loop : ∀ (suf pre : List S48) (k : Nat) (d : Int), 2 * suf.length + 2 < k → (pre ++ suf).length < 9223372036854775807 → 0 ≤ d ∧ d ≤ 3 → spec_BlockOk.l0 k (pre ++ suf) d (pre.length : Int) = some (blkM d suf && decide ((pre ++ suf).length ≤ 24))
  | [], pre, k, d, hk, hb, hd => by
    obtain ⟨k, rfl⟩ := pred hk
    simp only [spec_BlockOk.l0]
    rw [if_neg (by simp)]
    unfold blkM
    by_cases h : d = 0
    · rw [if_pos h, h]
      simp
      omega
    · rw [if_neg h]; simp [h]
  | a :: suf, pre, k, d, hk, hb, hd => by
    obtain ⟨k, rfl⟩ := pred hk
    obtain ⟨k, rfl⟩ := pred (show 0 < k by simp at hk; omega)
    have hk' : 2 * suf.length + 2 < k := by simp at hk; omega
    have hlen : (pre ++ a :: suf).length = pre.length + suf.length + 1 := by simp; omega
    have ih := fun d' hd' => sBlk_loop suf (pre ++ [a]) k d' hk' (by simpa using hb) hd'
    rw [← app_mid] at ih
    simp only [spec_BlockOk.l0]
    rw [if_pos (by omega), if_pos (by omega), rdS_mid, sStmt_eq _ _ _ _ _ _ (by omega), Option.bind_some]
    have hj : ∀ b : Bool, b = decide (a.f0 = 4 ∨ a.f0 = 5) → spec_BlockOk.j1 (k + 1) (pre ++ a :: suf) d (pre.length : Int) a.f0 b = some (decide (0 ≤ d + dlt a ∧ d + dlt a ≤ 3) && blkM (d + dlt a) suf && decide ((pre ++ a :: suf).length ≤ 24)) := by
      intro b hb'
      simp only [spec_BlockOk.j1, in_eq, Option.bind_some]
      unfold dlt
      by_cases ho : a.f0 = 4 ∨ a.f0 = 5
      · have h6 : ¬ a.f0 = 6 := by omega
        rw [hb', if_pos (decide_eq_true ho), if_pos ho, if_neg h6, wrap_id (z := d + 1) (by omega) (by omega), show d + (1 - 0) = d + 1 from by omega]
        by_cases g : 0 ≤ d + 1 ∧ d + 1 ≤ 3
        · rw [if_pos (decide_eq_true g), wrap_len (a := a) (by omega), ih (d + 1) g, decide_eq_true g]; simp
        · rw [if_neg (by simpa using g), decide_eq_false g]; simp
      · rw [hb', if_neg (by simpa using ho), if_neg ho]
        by_cases h6 : a.f0 = 6
        · rw [if_pos h6, if_pos h6, wrap_id (z := d - 1) (by omega) (by omega), show d + (0 - 1) = d - 1 from by omega]
          by_cases g : 0 ≤ d - 1 ∧ d - 1 ≤ 3
          · rw [if_pos (decide_eq_true g), wrap_len (a := a) (by omega), ih (d - 1) g, decide_eq_true g]; simp
          · rw [if_neg (by simpa using g), decide_eq_false g]; simp
        · rw [if_neg h6, if_neg h6, if_pos (decide_eq_true hd), show d + (0 - 0) = d from by omega, wrap_len (a := a) (by omega), ih d hd, decide_eq_true hd]; simp
    unfold blkM stS
    cases stM a.f0 a.f1 a.f2 a.f3.f0 a.f3.f1 a.f3.f2 with
    | false => simp
    | true =>
      rw [if_pos rfl]
      by_cases h4 : a.f0 = 4
      · rw [if_pos h4, hj _ (by simp [h4])]; simp
      · rw [if_neg h4, hj _ (by rw [Bool.eq_iff_iff]; simp [h4])]; simp
theorem sBlock_eq (l : List S48) (hl : l.length < 9223372036854775807) {k : Nat} (hk : 2 * l.length + 2 < k) : spec_BlockOk.f k l = some (blockM l) := by
  have := sBlk_loop l [] k 0 hk (by simpa using hl) (by omega)
  simpa [spec_BlockOk.f, blockM] using this
theorem iOpen_eq (x : S48) : impl_isOpening.f x.f0 = some (decide (x.f0 = 4 ∨ x.f0 = 5)) := by
  unfold impl_isOpening.f
  by_cases h4 : x.f0 = 4
  · simp [h4]
  · rw [if_neg h4]
    congr 1
    rw [Bool.eq_iff_iff]; simp [h4]
def depM (l : List S48) : Int := l.foldl (fun d x => d + dlt x) 0
theorem dep_from : ∀ (l : List S48) (d : Int), l.foldl (fun d x => d + dlt x) d = d + depM l
  | [], d => by simp [depM]
  | x :: l, d => by
    rw [List.foldl_cons, dep_from l (d + dlt x)]
    have := dep_from l (0 + dlt x)
    unfold depM at *
    rw [List.foldl_cons, this]
    omega
theorem depM_cons (x : S48) (l : List S48) : depM (x :: l) = dlt x + depM l := by
  have := dep_from l (0 + dlt x)
  unfold depM at *
  rw [List.foldl_cons, this]
  omega
theorem depM_bd : ∀ (l : List S48), -(l.length : Int) ≤ depM l ∧ depM l ≤ l.length
  | [] => by simp [depM]
  | x :: l => by
    have h1 := depM_bd l
    have h2 := dlt_bd x
    rw [depM_cons]
    have : ((x :: l).length : Int) = l.length + 1 := by simp
    omega
theorem iDep_loop : ∀ (suf pre : List S48) (k : Nat) (d : Int), suf.length < k → (pre ++ suf).length ≤ 1048576 → -(pre.length : Int) ≤ d ∧ d ≤ pre.length → impl_DepthOf.l0 k d (pre ++ suf) ((pre ++ suf).length : Int) (pre.length : Int) = some (d + depM suf)
  | [], pre, k, d, hk, hb, hd => by
    obtain ⟨k, rfl⟩ := pred hk
    simp only [impl_DepthOf.l0]
    rw [if_neg (by simp)]; simp [depM]
  | a :: suf, pre, k, d, hk, hb, hd => by
    obtain ⟨k, rfl⟩ := pred hk
    have hlen : (pre ++ a :: suf).length = pre.length + suf.length + 1 := by simp; omega
    have hpl : ((pre ++ [a]).length : Int) = pre.length + 1 := by simp
    have ih := fun d' hd' => iDep_loop suf (pre ++ [a]) k d' (by simpa using hk) (by simpa using hb) hd'
    rw [← app_mid] at ih
    simp only [impl_DepthOf.l0]
    rw [if_pos (by omega), if_pos (by omega), if_pos (by omega), rdS_mid, iOpen_eq, Option.bind_some, depM_cons]
    unfold dlt
    by_cases ho : a.f0 = 4 ∨ a.f0 = 5
    · have h6 : ¬ a.f0 = 6 := by omega
      rw [if_pos (decide_eq_true ho), if_neg h6, if_pos ho, if_neg h6, wrap_id (z := d + 1) (by omega) (by omega), wrap_len (a := a) (by omega), ih (d + 1) (by omega)]
      congr 1; omega
    · rw [if_neg (by simpa using ho), if_neg ho]
      by_cases h6 : a.f0 = 6
      · rw [if_pos h6, if_pos h6, wrap_id (z := d - 1) (by omega) (by omega), wrap_len (a := a) (by omega), ih (d - 1) (by omega)]
        congr 1; omega
      · rw [if_neg h6, if_neg h6, wrap_len (a := a) (by omega), ih d (by omega)]
        congr 1; omega
def depthOfM (l : List S48) (i : Int) : Int := if blockM l = true ∧ (0 ≤ i ∧ i ≤ (l.length : Int) - 1) then depM (l.take i.toNat) else -1
theorem iDepth_eq (l : List S48) (i : Int) (hl : l.length ≤ 1048576) {k : Nat} (hk : 2 * l.length + 3 < k) : impl_DepthOf.f k l i = some (depthOfM l i) := by
  obtain ⟨k, rfl⟩ : ∃ j, k = j + 1 := ⟨k - 1, by omega⟩
  unfold impl_DepthOf.f depthOfM
  have bad : impl_DepthOf.j0 (k + 1) l i true = some (-1) := by simp [impl_DepthOf.j0]
  rw [iBlock_eq l (by omega) (by omega), Option.bind_some]
  by_cases hb : blockM l = true
  · rw [if_pos hb, wrap_id (z := (l.length : Int) - 1) (by omega) (by omega), within_eq, Option.bind_some]
    by_cases hi : 0 ≤ i ∧ i ≤ (l.length : Int) - 1
    · rw [decide_eq_true hi, if_pos ⟨hb, hi⟩]
      simp only [impl_DepthOf.j0, Bool.not_true, Bool.false_eq_true, if_false]
      rw [if_pos hi.1, if_pos (by omega), Option.bind_some]
      have ht : (l.take i.toNat).length ≤ l.length := by simp; omega
      have := iDep_loop (l.take i.toNat) [] k 0 (by simp; omega) (by simp; omega) (by simp)
      have e : (0 : Int) + depM (l.take i.toNat) = depM (l.take i.toNat) := by omega
      rw [e] at this
      simpa using this
    · rw [decide_eq_false hi, if_neg (fun h => hi h.2)]; exact bad
  · rw [if_neg hb, if_neg (fun h => hb h.1)]; exact bad
theorem sOpen_eq (x : S48) : spec_l05Opens.f x.f0 x.f1 x.f2 x.f3.f0 x.f3.f1 x.f3.f2 = some (decide (x.f0 = 4 ∨ x.f0 = 5)) := by
  unfold spec_l05Opens.f
  by_cases h4 : x.f0 = 4
  · simp [h4]
  · rw [if_neg h4]
    congr 1
    rw [Bool.eq_iff_iff]; simp [h4]
/-- Where the depth c comes to 0 at an end. -/
def endM : Int → Int → List S48 → Int
  | _, _, [] => -1
  | c, p, x :: s => if x.f0 = 6 ∧ c + dlt x = 0 then p else endM (c + dlt x) (p + 1) s
theorem sEnd_loop : ∀ (suf pre : List S48) (k : Nat) (c : Int), 2 * suf.length + 2 < k → (pre ++ suf).length ≤ 1048576 → -(pre.length : Int) ≤ c ∧ c ≤ pre.length → spec_l05End.l0 k (pre ++ suf) c (pre.length : Int) = some (endM c (pre.length : Int) suf)
  | [], pre, k, c, hk, hb, hd => by
    obtain ⟨k, rfl⟩ := pred hk
    simp only [spec_l05End.l0]
    rw [if_neg (by simp)]; rfl
  | a :: suf, pre, k, c, hk, hb, hd => by
    obtain ⟨k, rfl⟩ := pred hk
    obtain ⟨k, rfl⟩ := pred (show 0 < k by simp at hk; omega)
    have hk' : 2 * suf.length + 2 < k := by simp at hk; omega
    have hlen : (pre ++ a :: suf).length = pre.length + suf.length + 1 := by simp; omega
    have hpl : ((pre ++ [a]).length : Int) = pre.length + 1 := by simp
    have ih := fun d' hd' => sEnd_loop suf (pre ++ [a]) k d' hk' (by simpa using hb) hd'
    rw [← app_mid, hpl] at ih
    simp only [spec_l05End.l0]
    rw [if_pos (by omega), if_pos (by omega), rdS_mid, sOpen_eq, Option.bind_some]
    simp only [spec_l05End.j1]
    have e1 : endM c (pre.length : Int) (a :: suf) = if a.f0 = 6 ∧ c + dlt a = 0 then (pre.length : Int) else endM (c + dlt a) ((pre.length : Int) + 1) suf := rfl
    rw [e1]
    by_cases ho : a.f0 = 4 ∨ a.f0 = 5
    · have h6 : ¬ a.f0 = 6 := by omega
      have hd1 : dlt a = 1 := by unfold dlt; rw [if_pos ho, if_neg h6]; rfl
      rw [if_pos (decide_eq_true ho), rdS_mid, if_pos (by omega), if_pos (by omega), if_neg h6, hd1, if_neg (fun h => h6 h.1), wrap_id (z := (pre.length : Int) + 1) (by omega) (by omega), wrap_id (z := c + 1) (by omega) (by omega), ih (c + 1) (by omega)]
    · rw [if_neg (by simpa using ho), rdS_mid, if_pos (by omega), if_pos (by omega)]
      by_cases h6 : a.f0 = 6
      · have hd1 : dlt a = -1 := by unfold dlt; rw [if_neg ho, if_pos h6]; rfl
        rw [if_pos h6, hd1, wrap_id (z := c - 1) (by omega) (by omega), show c + -1 = c - 1 from by omega]
        by_cases h0 : c - 1 = 0
        · rw [if_pos h0, if_pos ⟨h6, h0⟩]
        · rw [if_neg h0, if_neg (fun h => h0 h.2), wrap_id (z := (pre.length : Int) + 1) (by omega) (by omega), ih (c - 1) (by omega)]
      · have hd1 : dlt a = 0 := by unfold dlt; rw [if_neg ho, if_neg h6]; rfl
        rw [if_neg h6, hd1, if_neg (fun h => h6 h.1), wrap_id (z := (pre.length : Int) + 1) (by omega) (by omega), ih c (by omega), show c + 0 = c from by omega]
/-- The least sum of a prefix. -/
def mp : List S48 → Int
  | [] => 0
  | x :: s => min 0 (dlt x + mp s)
theorem mp_le (l : List S48) : mp l ≤ 0 := by
  cases l with
  | nil => exact Int.le_refl _
  | cons x s => unfold mp; omega
theorem mp_dep : ∀ (l : List S48), mp l ≤ depM l
  | [] => by simp [mp, depM]
  | x :: s => by
    have := mp_dep s
    rw [depM_cons]; unfold mp; omega
theorem mp_app : ∀ (q v : List S48), mp (q ++ v) ≤ mp q
  | [], v => mp_le v
  | x :: q, v => by
    have := mp_app q v
    show mp (x :: (q ++ v)) ≤ mp (x :: q)
    unfold mp; omega
theorem dep_app (q v : List S48) : depM (q ++ v) = depM q + depM v := by
  induction q with
  | nil => simp [depM]
  | cons x q ih => rw [List.cons_append, depM_cons, depM_cons, ih]; omega
theorem dlt_end {x : S48} (h : dlt x = -1) : x.f0 = 6 := by
  unfold dlt at h
  by_cases h6 : x.f0 = 6
  · exact h6
  · rw [if_neg h6] at h; split at h <;> omega
theorem endM_far : ∀ (q v : List S48) (c p : Int), 1 ≤ c + mp q → endM c p (q ++ v) = endM (c + depM q) (p + q.length) v
  | [], v, c, p, h => by simp [depM]
  | x :: q, v, c, p, h => by
    have hm := mp_le q
    unfold mp at h
    rw [depM_cons, List.cons_append]
    show (if x.f0 = 6 ∧ c + dlt x = 0 then p else endM (c + dlt x) (p + 1) (q ++ v)) = _
    rw [if_neg (fun g => by omega), endM_far q v (c + dlt x) (p + 1) (by omega), show c + dlt x + depM q = c + (dlt x + depM q) from by omega, show p + 1 + (q.length : Int) = p + ((x :: q).length : Int) from by simp; omega]
theorem endM_near : ∀ (q v : List S48) (c p : Int), 1 ≤ c → c + mp q ≤ 0 → p ≤ endM c p (q ++ v) ∧ endM c p (q ++ v) < p + q.length
  | [], v, c, p, hc, h => by simp [mp] at h; omega
  | x :: q, v, c, p, hc, h => by
    have hd := dlt_bd x
    unfold mp at h
    rw [List.cons_append]
    unfold endM
    by_cases g : x.f0 = 6 ∧ c + dlt x = 0
    · rw [if_pos g]; simp; omega
    · rw [if_neg g]
      have hc' : 1 ≤ c + dlt x := by
        by_cases h1 : dlt x = -1
        · have := dlt_end h1
          omega
        · omega
      have := endM_near q v (c + dlt x) (p + 1) hc' (by omega)
      simp only [List.length_cons]
      omega
def cntM (i : Int) : Int → List S48 → List S48 → Int
  | _, [], _ => 0
  | p, x :: q, v => (if (x.f0 = 4 ∨ x.f0 = 5) ∧ i ≤ endM 0 p (x :: q ++ v) then 1 else 0) + cntM i (p + 1) q v
theorem cnt_eq (i : Int) (v : List S48) (hi0 : 0 ≤ i) : ∀ (q : List S48) (p D : Int), p + q.length = i → 0 ≤ p → 0 ≤ D + mp q → D + depM q + depM v = 0 → cntM i p q v = depM q - mp q
  | [], p, D, hp, h0, hD, ht => by simp [cntM, depM, mp]
  | x :: q, p, D, hp, h0, hD, ht => by
    have hd := dlt_bd x
    have hmq := mp_le q
    rw [depM_cons] at ht ⊢
    have hD' := hD
    unfold mp at hD'
    have hlen : ((x :: q).length : Int) = q.length + 1 := by simp
    have ih := cnt_eq i v hi0 q (p + 1) (D + dlt x) (by omega) (by omega) (by omega) (by omega)
    unfold cntM mp
    rw [ih]
    by_cases ho : x.f0 = 4 ∨ x.f0 = 5
    · have h1 : dlt x = 1 := by unfold dlt; rw [if_pos ho, if_neg (by omega)]; rfl
      have he : endM 0 p (x :: q ++ v) = endM 1 (p + 1) (q ++ v) := by
        rw [List.cons_append]
        show (if x.f0 = 6 ∧ 0 + dlt x = 0 then p else endM (0 + dlt x) (p + 1) (q ++ v)) = _
        rw [if_neg (by omega), h1]; rfl
      by_cases hm : mp q = 0
      · have hf := endM_far q v 1 (p + 1) (by omega)
        have hvd := mp_dep v
        have hqd := mp_dep q
        have hn := endM_near v [] (1 + depM q) (p + 1 + q.length) (by omega) (by omega)
        rw [List.append_nil] at hn
        rw [if_pos ⟨ho, by rw [he, hf]; omega⟩]
        omega
      · have hn := endM_near q v 1 (p + 1) (by omega) (by omega)
        rw [if_neg (fun g => by rw [he] at g; omega)]
        omega
    · have h1 : dlt x ≤ 0 := by unfold dlt; rw [if_neg ho]; split <;> omega
      rw [if_neg (fun g => ho g.1)]
      omega
theorem blk_mp : ∀ (s : List S48) (d : Int), 0 ≤ d → blkM d s = true → 0 ≤ d + mp s ∧ d + depM s = 0
  | [], d, hd, h => by
    unfold blkM at h
    have := beq_iff_eq.1 h
    simp [mp, depM]; omega
  | x :: s, d, hd, h => by
    unfold blkM at h
    simp only [Bool.and_eq_true, decide_eq_true_eq] at h
    have := blk_mp s (d + dlt x) (by omega) h.2
    rw [depM_cons]; unfold mp
    omega
theorem endM_bd : ∀ (s : List S48) (c p : Int), 0 ≤ p → -1 ≤ endM c p s ∧ endM c p s < p + s.length + 1
  | [], c, p, h => by unfold endM; simp; omega
  | x :: s, c, p, h => by
    unfold endM
    have := endM_bd s (c + dlt x) (p + 1) (by omega)
    simp only [List.length_cons]
    split <;> omega
theorem sDep_loop (v : List S48) (i : Int) : ∀ (q p : List S48) (k : Nat) (d : Int), 3 * (p ++ (q ++ v)).length + q.length + 10 < k → (p ++ (q ++ v)).length ≤ 1048576 → i = (p.length : Int) + q.length → 0 ≤ d ∧ d ≤ p.length → spec_DepthOf.l0 k (p ++ (q ++ v)) i d (p.length : Int) = some (d + cntM i (p.length : Int) q v)
  | [], p, k, d, hk, hb, hi, hd => by
    obtain ⟨k, rfl⟩ := pred hk
    simp only [spec_DepthOf.l0]
    rw [if_neg (by simp at hi; omega)]; simp [cntM]
  | a :: q, p, k, d, hk, hb, hi, hd => by
    obtain ⟨k, rfl⟩ := pred hk
    have hlen : (p ++ (a :: q ++ v)).length = p.length + q.length + v.length + 1 := by simp; omega
    have hpl : ((p ++ [a]).length : Int) = p.length + 1 := by simp
    have hql : ((a :: q).length : Int) = q.length + 1 := by simp
    have hqn : (a :: q).length = q.length + 1 := rfl
    have e : p ++ (a :: q ++ v) = (p ++ [a]) ++ (q ++ v) := by simp
    have hrd : rd_T48 (p ++ (a :: q ++ v)) (p.length : Int) = a := by rw [List.cons_append, rdS_mid]
    have hend := sEnd_loop (a :: q ++ v) p k 0 (by simp only [List.length_append, List.length_cons] at hk ⊢; omega) hb (by omega)
    have ih := fun d' hd' => sDep_loop v i q (p ++ [a]) k d' (by rw [← e, hlen]; rw [hlen, hqn] at hk; omega) (by rw [← e]; exact hb) (by omega) hd'
    rw [← e, hpl] at ih
    simp only [spec_DepthOf.l0]
    rw [if_pos (by omega), if_pos (by omega), if_pos (by omega), hrd, sOpen_eq, Option.bind_some, wrap_id (z := (p.length : Int) + 1) (by omega) (by omega)]
    unfold cntM
    by_cases ho : a.f0 = 4 ∨ a.f0 = 5
    · rw [if_pos (decide_eq_true ho)]
      unfold spec_l05End.f
      rw [hend, Option.bind_some]
      by_cases hg : endM 0 (p.length : Int) (a :: q ++ v) ≥ i
      · rw [if_pos hg, if_pos ⟨ho, hg⟩, wrap_id (z := d + 1) (by omega) (by omega), ih (d + 1) (by omega)]
        congr 1; omega
      · rw [if_neg hg, if_neg (fun g => hg g.2), ih d (by omega)]
        congr 1; omega
    · rw [if_neg (by simpa using ho), if_neg (fun g => ho g.1), ih d (by omega)]
      congr 1; omega
theorem sDepth_eq (l : List S48) (i : Int) (hl : l.length ≤ 1048576) {k : Nat} (hk : 5 * l.length + 20 < k) : spec_DepthOf.f k l i = some (depthOfM l i) := by
  obtain ⟨k, rfl⟩ : ∃ j, k = j + 1 := ⟨k - 1, by omega⟩
  unfold spec_DepthOf.f depthOfM
  have bad : spec_DepthOf.j0 (k + 1) l i true = some (-1) := by simp [spec_DepthOf.j0]
  rw [sBlock_eq l (by omega) (by omega), Option.bind_some]
  by_cases hb : blockM l = true
  · rw [if_pos hb, wrap_id (z := (l.length : Int) - 1) (by omega) (by omega), in_eq, Option.bind_some]
    by_cases hi : 0 ≤ i ∧ i ≤ (l.length : Int) - 1
    · rw [decide_eq_true hi, if_pos ⟨hb, hi⟩]
      simp only [spec_DepthOf.j0, Bool.not_true, Bool.false_eq_true, if_false]
      have hb' := hb
      unfold blockM at hb'
      simp only [Bool.and_eq_true, decide_eq_true_eq] at hb'
      obtain ⟨hm, hd0⟩ := blk_mp l 0 (by omega) hb'.1
      have hsplit : l.take i.toNat ++ l.drop i.toNat = l := List.take_append_drop _ _
      have hma := mp_app (l.take i.toNat) (l.drop i.toNat)
      have hda := dep_app (l.take i.toNat) (l.drop i.toNat)
      rw [hsplit] at hma hda
      have hml := mp_le (l.take i.toNat)
      have hlt : (l.take i.toNat).length = i.toNat := by simp; omega
      have hc := cnt_eq i (l.drop i.toNat) hi.1 (l.take i.toNat) 0 0 (by omega) (by omega) (by omega) (by omega)
      have := sDep_loop (l.drop i.toNat) i (l.take i.toNat) [] k 0 (by simp only [List.nil_append]; rw [hsplit]; omega) (by simp only [List.nil_append]; rw [hsplit]; exact hl) (by simp; omega) (by simp)
      simp only [List.nil_append, List.length_nil] at this
      rw [hsplit] at this
      have e2 : spec_DepthOf.l0 k l i 0 0 = some (0 + cntM i 0 (l.take i.toNat) (l.drop i.toNat)) := this
      rw [e2, hc]
      congr 1; omega
    · rw [decide_eq_false hi, if_neg (fun h => hi h.2)]; exact bad
  · rw [if_neg hb, if_neg (fun h => hb h.1)]; exact bad
/-- The places from i on, d of them, where a block can be divided. -/
def cutM (l : List S48) : Nat → Int → List Int
  | 0, _ => []
  | d + 1, i => (if depthOfM l i = 0 ∧ ¬ (rd_T48 l i).f0 = 6 then [i] else []) ++ cutM l d (i + 1)
theorem cutM_len (l : List S48) : ∀ (d : Nat) (i : Int), (cutM l d i).length ≤ d
  | 0, _ => Nat.le_refl _
  | d + 1, i => by
    have := cutM_len l d (i + 1)
    unfold cutM
    rw [List.length_append]
    split <;> simp <;> omega
def cutsM (l : List S48) : List Int := if blockM l = true then cutM l (l.length - 1) 1 else []
theorem iCut_loop (l : List S48) (hl : l.length ≤ 1048576) : ∀ (d : Nat) (i : Nat) (k : Nat) (acc : List Int), i + d = l.length → 2 * l.length + d + 5 < k → acc.length ≤ i → impl_CutPoints.l0 k l acc (i : Int) = some (acc ++ cutM l d (i : Int))
  | 0, i, k, acc, hi, hk, ha => by
    obtain ⟨k, rfl⟩ := pred hk
    simp only [impl_CutPoints.l0]
    rw [if_neg (by omega)]; simp [cutM]
  | d + 1, i, k, acc, hi, hk, ha => by
    obtain ⟨k, rfl⟩ := pred hk
    have ih := fun acc' h => iCut_loop l hl d (i + 1) k acc' (by omega) (by omega) h
    have e : ((i + 1 : Nat) : Int) = (i : Int) + 1 := by omega
    rw [e] at ih
    simp only [impl_CutPoints.l0]
    rw [if_pos (by omega), iDepth_eq l _ hl (by omega), Option.bind_some, wrap_id (z := (i : Int) + 1) (by omega) (by omega)]
    unfold cutM
    by_cases h0 : depthOfM l (i : Int) = 0
    · rw [if_pos h0, if_pos (by omega)]
      by_cases h6 : (rd_T48 l (i : Int)).f0 = 6
      · rw [if_pos h6, if_neg (fun h => h.2 h6), ih acc (by omega)]; simp
      · rw [if_neg h6, if_pos (show acc.length < 17592186044416 by omega), if_pos ⟨h0, h6⟩, ih (acc ++ [(i : Int)]) (by simp; omega)]; simp
    · rw [if_neg h0, if_neg (fun h => h0 h.1), ih acc (by omega)]; simp
theorem iCut_eq (l : List S48) (hl : l.length ≤ 1048576) {k : Nat} (hk : 3 * l.length + 8 < k) : impl_CutPoints.f k l = some (cutsM l) := by
  unfold impl_CutPoints.f cutsM
  rw [iBlock_eq l (by omega) (by omega), Option.bind_some]
  by_cases hb : blockM l = true
  · rw [if_pos hb, if_pos hb]
    by_cases h0 : l.length = 0
    · obtain ⟨k, rfl⟩ : ∃ j, k = j + 1 := ⟨k - 1, by omega⟩
      simp only [impl_CutPoints.l0]
      rw [if_neg (by omega), h0]; rfl
    · have := iCut_loop l hl (l.length - 1) 1 k [] (by omega) (by omega) (by simp)
      simpa using this
  · rw [if_neg hb, if_neg hb]
theorem sCut_loop (l : List S48) (hl : l.length ≤ 1048576) (hb : blockM l = true) : ∀ (d : Nat) (i : Nat) (k : Nat) (acc : List Int), i + d = l.length → 5 * l.length + 2 * d + 30 < k → acc.length ≤ i → spec_CutPoints.l0 k l acc (i : Int) = some (acc ++ cutM l d (i : Int))
  | 0, i, k, acc, hi, hk, ha => by
    obtain ⟨k, rfl⟩ := pred hk
    obtain ⟨k, rfl⟩ := pred (show 0 < k by omega)
    simp only [spec_CutPoints.l0]
    rw [if_neg (by omega)]
    simp [spec_CutPoints.j1, cutM]
  | d + 1, i, k, acc, hi, hk, ha => by
    obtain ⟨k, rfl⟩ := pred hk
    obtain ⟨k, rfl⟩ := pred (show 0 < k by omega)
    have ih := fun acc' h => sCut_loop l hl hb d (i + 1) k acc' (by omega) (by omega) h
    have e : ((i + 1 : Nat) : Int) = (i : Int) + 1 := by omega
    rw [e] at ih
    simp only [spec_CutPoints.l0]
    rw [if_pos (by omega), sBlock_eq l (by omega) (by omega), Option.bind_some, hb]
    simp only [spec_CutPoints.j1]
    rw [if_pos trivial, if_pos (by omega), if_pos (by omega), wrap_id (z := (i : Int) + 1) (by omega) (by omega)]
    unfold cutM
    by_cases h6 : (rd_T48 l (i : Int)).f0 = 6
    · rw [if_pos h6, if_neg (fun h => h.2 h6), ih acc (by omega)]; simp
    · rw [if_neg h6, sDepth_eq l _ hl (by omega), Option.bind_some]
      by_cases h0 : depthOfM l (i : Int) = 0
      · rw [if_pos h0, if_pos (show acc.length < 17592186044416 by omega), if_pos ⟨h0, h6⟩, ih (acc ++ [(i : Int)]) (by simp; omega)]; simp
      · rw [if_neg h0, if_neg (fun h => h0 h.1), ih acc (by omega)]; simp
theorem sCut_eq (l : List S48) (hl : l.length ≤ 1048576) {k : Nat} (hk : 7 * l.length + 40 < k) : spec_CutPoints.f k l = some (cutsM l) := by
  unfold spec_CutPoints.f cutsM
  obtain ⟨k, rfl⟩ : ∃ j, k = j + 2 := ⟨k - 2, by omega⟩
  by_cases hb : blockM l = true
  · rw [if_pos hb]
    by_cases h0 : l.length = 0
    · simp only [spec_CutPoints.l0]
      rw [if_neg (by omega), h0]
      simp [spec_CutPoints.j1, cutM]
    · have := sCut_loop l hl hb (l.length - 1) 1 (k + 2) [] (by omega) (by omega) (by simp)
      simpa using this
  · rw [if_neg hb]
    simp only [spec_CutPoints.l0]
    by_cases h1 : (1 : Int) < (l.length : Int)
    · rw [if_pos h1, sBlock_eq l (by omega) (by omega), Option.bind_some]
      simp only [spec_CutPoints.j1]
      rw [if_neg hb]
    · rw [if_neg h1]
      simp [spec_CutPoints.j1]

theorem FnExactCutPoints : ∀ (l0 : List S52), (l0.length ≤ maxLen ∧ ∀ x ∈ l0, ((Lit.int .i64 x.f0).wf = true) ∧ ((Lit.int .i64 x.f1).wf = true) ∧ ((Lit.int .i64 x.f2).wf = true) ∧ (((Lit.int .i64 x.f3.f0).wf = true) ∧ ((Lit.int .i64 x.f3.f1).wf = true) ∧ ((Lit.int .i64 x.f3.f2).wf = true))) → ∃ k, laws_FnExactCutPoints.f k l0 = some true := by
  intro l hl
  refine ⟨7 * l.length + 60, ?_⟩
  unfold laws_FnExactCutPoints.f
  rcases szStmtS_ev l 1048576 hl.1 (by omega) with h | ⟨h1, h2⟩
  · rw [h, Option.bind_some, if_pos (by omega)]
  have hm : (l.map cvStmt).length = l.length := by simp
  have t1 := fun k hk => toStmtS_eq l (by omega) (k := k) hk
  generalize l.map cvStmt = L at *
  have i1 := fun k hk => iCut_eq L (by omega) (k := k) hk
  have hc : (cutsM L).length ≤ L.length := by
    unfold cutsM
    split
    · have := cutM_len L (L.length - 1) 1
      omega
    · simp
  rw [h2, Option.bind_some, if_neg (by omega), t1 _ (by omega), Option.bind_some, sCut_eq L (by omega) (by omega), Option.bind_some, Option.bind_some, i1 _ (by omega), Option.bind_some]
  generalize cutsM L = C at *
  have e3 := fun k hk => eqInt_eq C C (by omega) (k := k) hk
  rw [e3 _ (by omega), Option.bind_some, if_pos (decide_eq_true rfl), Option.bind_some, eqStmtS_eq L (by omega) (by omega), Option.bind_some, if_pos rfl, markStmt_eq L 1 (by omega) (by omega) (by omega), Option.bind_some]
  simp only
  rw [if_neg (by omega), Option.bind_some]
  simp only [laws_FnExactCutPoints.j0, decide_true, Bool.not_true, Bool.false_eq_true, if_false]
  rw [markInt_eq C 1 (by omega) (by omega) (by omega), Option.bind_some]
  simp only
  rw [heldInt_eq C.length 1 (by omega) (by omega) (by omega), Option.bind_some, if_neg (by omega), if_pos (by trivial), t1 _ (by omega), Option.bind_some, i1 _ (by omega), Option.bind_some, e3 _ (by omega), Option.bind_some, if_pos (decide_eq_true rfl), Option.bind_some, if_neg (by omega), if_pos (by trivial)]

end Go.Proofs.Ytjfmbdigfnablaa.Pure
