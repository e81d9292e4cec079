/- A block of statements as a tree: what lies between an opening statement and its end. No condition. -/
import Derived.Test.YtjfmbdigfnablaaGreatCpPure
namespace Go.Av
set_option linter.unusedVariables false
set_option linter.unusedSimpArgs false
/-- Nothing; a statement and what follows; an opening statement, what lies inside, and what follows its end. -/
inductive Tr where
  | nil
  | one (s : Stmt) (r : Tr)
  | grp (s : Stmt) (a r : Tr)
def endS : Stmt := ⟨6, 0, 0, ⟨0, 0, 0⟩⟩
def Tr.flat : Tr → List Stmt
  | .nil => []
  | .one s r => s :: r.flat
  | .grp s a r => s :: (a.flat ++ endS :: r.flat)
def Tr.ok : Tr → Bool
  | .nil => true
  | .one s r => stmtOk s && (decide (s.kind = 1) || decide (s.kind = 2) || decide (s.kind = 3)) && r.ok
  | .grp s a r => stmtOk s && (decide (s.kind = 4) || decide (s.kind = 5)) && a.ok && r.ok
def Tr.size : Tr → Nat
  | .nil => 0
  | .one s r => 1 + r.size
  | .grp s a r => 1 + a.size + r.size
theorem Tr.one_ok {s : Stmt} {r : Tr} (h : (Tr.one s r).ok = true) : stmtOk s = true ∧ (s.kind = 1 ∨ s.kind = 2 ∨ s.kind = 3) ∧ r.ok = true := by
  simp only [Tr.ok, Bool.and_eq_true, Bool.or_eq_true, decide_eq_true_eq] at h
  exact ⟨h.1.1, by rcases h.1.2 with (h | h) | h <;> simp [h], h.2⟩
theorem Tr.grp_ok {s : Stmt} {a r : Tr} (h : (Tr.grp s a r).ok = true) : stmtOk s = true ∧ (s.kind = 4 ∨ s.kind = 5) ∧ a.ok = true ∧ r.ok = true := by
  simp only [Tr.ok, Bool.and_eq_true, Bool.or_eq_true, decide_eq_true_eq] at h
  exact ⟨h.1.1.1, h.1.1.2, h.1.2, h.2⟩
theorem Tr.flat_len : ∀ t : Tr, t.size ≤ t.flat.length
  | .nil => Nat.le_refl _
  | .one s r => by have := r.flat_len; simp only [Tr.size, Tr.flat, List.length_cons]; omega
  | .grp s a r => by have := a.flat_len; have := r.flat_len; simp only [Tr.size, Tr.flat, List.length_cons, List.length_append]; omega
theorem stmt_end {s : Stmt} (h : stmtOk s = true) (hk : s.kind = 6) : s = endS := by
  obtain ⟨kind, var, n, ⟨op, a, b⟩⟩ := s
  simp only at hk
  subst hk
  simp [stmtOk, hasVar, hasExpr, within] at h
  obtain ⟨⟨h1, h2, h3, h4⟩, h5⟩ : (var = 0 ∧ op = 0 ∧ a = 0 ∧ b = 0) ∧ n = 0 := by simpa [and_assoc] using h
  subst h1 h2 h3 h4 h5; rfl
theorem stmt_kinds {s : Stmt} (h : stmtOk s = true) : 1 ≤ s.kind ∧ s.kind ≤ 6 := by
  unfold stmtOk at h
  split at h
  · cases h
  · rename_i hc
    simp only [Bool.or_eq_true, not_or, within] at hc
    have := hc.1.1
    simp at this
    exact this
theorem delta_of (s : Stmt) : delta s.kind = if s.kind = 4 ∨ s.kind = 5 then 1 else if s.kind = 6 then -1 else 0 := by
  have := dlt_def s
  unfold dlt at this
  rw [this]
  split
  · rw [if_neg (by omega)]; rfl
  · split <;> rfl
theorem tree_of : ∀ (n : Nat) (xs : List Stmt) (d : Int), xs.length ≤ n → 0 ≤ d → blockFrom d xs = true →
    ∃ t : Tr, t.ok = true ∧ ((d = 0 ∧ xs = t.flat) ∨ ∃ rest, xs = t.flat ++ endS :: rest ∧ 0 < d ∧ blockFrom (d - 1) rest = true)
  | n, [], d, hn, hd, h => by
    unfold blockFrom at h
    exact ⟨.nil, rfl, .inl ⟨by simpa using h, rfl⟩⟩
  | 0, s :: xs, d, hn, hd, h => by simp at hn
  | n + 1, s :: xs, d, hn, hd, h => by
    simp only [List.length_cons] at hn
    unfold blockFrom at h
    split at h
    case isFalse => cases h
    rename_i hc
    obtain ⟨hs, h0, h3⟩ := hc
    have hk := stmt_kinds hs
    rw [delta_of] at h h0 h3
    by_cases h45 : s.kind = 4 ∨ s.kind = 5
    · rw [if_pos h45] at h
      obtain ⟨a, ha, hb⟩ := tree_of n xs (d + 1) (by omega) (by omega) h
      rcases hb with ⟨e, _⟩ | ⟨rest, e, _, hr⟩
      · omega
      · have hl : rest.length ≤ n := by
          have := congrArg List.length e
          simp only [List.length_append, List.length_cons] at this
          omega
        obtain ⟨r, hr1, hr2⟩ := tree_of n rest (d + 1 - 1) hl (by omega) hr
        have hok : (Tr.grp s a r).ok = true := by simp [Tr.ok, hs, ha, hr1, h45]
        refine ⟨.grp s a r, hok, ?_⟩
        rcases hr2 with ⟨e1, e2⟩ | ⟨rest', e1, e2, e3⟩
        · refine .inl ⟨by omega, ?_⟩
          rw [e, e2]; rfl
        · refine .inr ⟨rest', ?_, by omega, by rw [show d + 1 - 1 - 1 = d - 1 by omega] at e3; exact e3⟩
          rw [e, e1]; simp [Tr.flat]
    · rw [if_neg h45] at h h0 h3
      by_cases h6 : s.kind = 6
      · rw [if_pos h6] at h h0
        refine ⟨.nil, rfl, .inr ⟨xs, ?_, by omega, by rw [show d - 1 = d + -1 by omega]; exact h⟩⟩
        rw [stmt_end hs h6]; rfl
      · rw [if_neg h6] at h
        obtain ⟨r, hr1, hr2⟩ := tree_of n xs (d + 0) (by omega) (by omega) h
        have hok : (Tr.one s r).ok = true := by
          simp only [Tr.ok, hs, hr1, Bool.true_and, Bool.and_true, Bool.or_eq_true, decide_eq_true_eq]
          omega
        refine ⟨.one s r, hok, ?_⟩
        rcases hr2 with ⟨e1, e2⟩ | ⟨rest', e1, e2, e3⟩
        · exact .inl ⟨by omega, by rw [e2]; rfl⟩
        · exact .inr ⟨rest', by rw [e1]; rfl, by omega, by rw [show d + 0 - 1 = d - 1 by omega] at e3; exact e3⟩
/-- A valid block is the flat form of a tree. -/
theorem block_tree {xs : List Stmt} (h : blockOk xs = true) : ∃ t : Tr, t.ok = true ∧ xs = t.flat ∧ xs.length ≤ 24 := by
  simp only [blockOk, Bool.and_eq_true, decide_eq_true_eq] at h
  obtain ⟨t, h1, h2⟩ := tree_of xs.length xs 0 (Nat.le_refl _) (by omega) h.1
  rcases h2 with ⟨_, e⟩ | ⟨_, _, e, _⟩
  · exact ⟨t, h1, e, by omega⟩
  · omega
theorem endM_cons (c p : Int) (x : Stmt) (s : List Stmt) : endM c p (x :: s) = if x.kind = 6 ∧ c + dlt x = 0 then p else endM (c + dlt x) (p + 1) s := rfl
theorem endM_tree : ∀ (t : Tr) (c p : Int) (v : List Stmt), t.ok = true → 1 ≤ c → endM c p (t.flat ++ v) = endM c (p + t.flat.length) v
  | .nil, c, p, v, h, hc => by simp [Tr.flat]
  | .one s r, c, p, v, h, hc => by
    obtain ⟨hs, hk, hr⟩ := Tr.one_ok h
    have hd : dlt s = 0 := by rw [dlt_def, if_neg (by omega), if_neg (by omega)]; rfl
    simp only [Tr.flat, List.cons_append, List.length_cons]
    rw [endM_cons, if_neg (by omega), hd, endM_tree r (c + 0) (p + 1) v hr (by omega)]
    congr 1 <;> push_cast <;> omega
  | .grp s a r, c, p, v, h, hc => by
    obtain ⟨hs, hk, ha, hr⟩ := Tr.grp_ok h
    have hd : dlt s = 1 := by rw [dlt_def, if_pos hk, if_neg (by omega)]; rfl
    have he : dlt endS = -1 := by rw [dlt_def]; rfl
    simp only [Tr.flat, List.cons_append, List.length_cons, List.append_assoc, List.length_append]
    rw [endM_cons, if_neg (by omega), hd, endM_tree a (c + 1) (p + 1) _ ha (by omega)]
    rw [endM_cons, if_neg (by rw [he]; omega), he, endM_tree r _ _ v hr (by omega)]
    congr 1 <;> push_cast <;> omega
/-- The end of an opening statement. -/
theorem endM_grp {s : Stmt} {a : Tr} (p : Int) (v : List Stmt) (hk : s.kind = 4 ∨ s.kind = 5) (ha : a.ok = true) : endM 0 p (s :: (a.flat ++ endS :: v)) = p + 1 + a.flat.length := by
  have hd : dlt s = 1 := by rw [dlt_def, if_pos hk, if_neg (by omega)]; rfl
  have he : dlt endS = -1 := by rw [dlt_def]; rfl
  rw [endM_cons, if_neg (by omega), hd, endM_tree a (0 + 1) (p + 1) _ ha (by omega)]
  rw [endM_cons, if_pos ⟨rfl, by rw [he]; rfl⟩]
end Go.Av
