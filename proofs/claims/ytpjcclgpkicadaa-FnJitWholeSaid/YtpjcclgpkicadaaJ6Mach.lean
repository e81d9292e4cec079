/- The machine, in plain terms: states, steps, runs over power failures. No condition. -/
import Derived.Test.YtpjcclgpkicadaaJ6Sat
import Derived.Test.YtpjcclgpkicadaaJ6Torn
namespace Go.Av
open Go.Proofs Go.RowKit
set_option linter.unusedVariables false
set_option linter.unusedSimpArgs false
set_option maxRecDepth 100000
set_option maxHeartbeats 4000000
def gt (st : List Int) (i : Nat) : Int := (st[i]?).getD 0
theorem gt_set_ne {st : List Int} {i j : Nat} {v : Int} (h : i ≠ j) : gt (st.set i v) j = gt st j := by simp [gt, List.getElem?_set_ne h]
theorem gt_set {st : List Int} {i : Nat} {v : Int} (h : i < st.length) : gt (st.set i v) i = v := by simp [gt, h]
def canRun (n : Nat) (st : List Int) : Bool := decide (st.length = 6) && (st.take 4).all isValue && within (gt st 4) 0 ((n : Int) - 1) && within (gt st 5) 0 100000
def instrAt (xs : List Instr) (i : Int) : Instr := (xs[i.toNat]?).getD ⟨0, 0, 0⟩
def execS (x : Instr) (st o : List Int) : List Int :=
  if x.op = 1 then o.set x.a.toNat x.b
  else if x.op = 2 then o.set x.a.toNat (sat (sat (gt st x.a.toNat) + sat (gt st x.b.toNat)))
  else if x.op = 3 then o.set x.a.toNat (sat (sat (gt st x.a.toNat) - sat (gt st x.b.toNat)))
  else if x.op = 4 then o.set x.a.toNat (sat (sat (gt st x.a.toNat) * sat (gt st x.b.toNat)))
  else if x.op = 5 then (if gt st x.a.toNat = 0 then o else o.set 4 x.b)
  else o
def stepS (xs : List Instr) (st : List Int) : List Int := execS (instrAt xs (gt st 4)) st ((st.set 4 (gt st 4 + 1)).set 5 (gt st 5 + 1))
def runS (xs : List Instr) : Nat → List Int → List Int
  | 0, st => st
  | n + 1, st => if canRun xs.length st = true then runS xs n (stepS xs st) else st
def zero6 : List Int := [0, 0, 0, 0, 0, 0]
theorem exec_len (x : Instr) (st o : List Int) : (execS x st o).length = o.length := by
  unfold execS; repeat' split
  all_goals simp
theorem step_len (xs : List Instr) (st : List Int) : (stepS xs st).length = st.length := by simp [stepS, exec_len]
theorem run_stuck {xs : List Instr} {st : List Int} (h : canRun xs.length st = false) : ∀ n, runS xs n st = st
  | 0 => rfl
  | n + 1 => by rw [runS, if_neg (by simp [h])]
theorem run_add (xs : List Instr) : ∀ (m n : Nat) (st : List Int), runS xs (m + n) st = runS xs n (runS xs m st)
  | 0, n, st => by rw [Nat.zero_add]; rfl
  | m + 1, n, st => by
    rw [show m + 1 + n = (m + n) + 1 by omega, runS, runS]
    cases h : canRun xs.length st
    · rw [if_neg (by simp), if_neg (by simp), run_stuck h]
    · rw [if_pos rfl, if_pos rfl, run_add]
theorem runS_len (xs : List Instr) : ∀ (n : Nat) (st : List Int), (runS xs n st).length = st.length
  | 0, st => rfl
  | n + 1, st => by
    rw [runS]; split
    · rw [runS_len, step_len]
    · rfl
theorem can_facts {n : Nat} {st : List Int} (h : canRun n st = true) : st.length = 6 ∧ (st.take 4).all isValue = true ∧ (0 ≤ gt st 4 ∧ gt st 4 ≤ (n : Int) - 1) ∧ (0 ≤ gt st 5 ∧ gt st 5 ≤ 100000) := by
  simp only [canRun, within, Bool.and_eq_true, decide_eq_true_eq] at h
  exact ⟨h.1.1.1, h.1.1.2, h.1.2, h.2⟩
theorem instr_facts {n : Nat} {x : Instr} (h : instrOk n x = true) : (1 ≤ x.op ∧ x.op ≤ 5) ∧ (0 ≤ x.a ∧ x.a ≤ 3) ∧ (0 ≤ x.b ∧ x.b ≤ mostB n x) := by
  simp only [instrOk, within, Bool.and_eq_true, decide_eq_true_eq] at h
  exact ⟨h.1.1, h.1.2, h.2⟩
theorem code_facts {xs : List Instr} (h : codeOk xs = true) : (1 ≤ xs.length ∧ xs.length ≤ 16) ∧ ∀ x ∈ xs, instrOk xs.length x = true := by
  simp only [codeOk, within, Bool.and_eq_true, decide_eq_true_eq, List.all_eq_true] at h
  exact ⟨by omega, h.2⟩
theorem instrAt_ok {xs : List Instr} {st : List Int} (hk : codeOk xs = true) (h : canRun xs.length st = true) : instrAt xs (gt st 4) ∈ xs := by
  have h4 := (can_facts h).2.2.1
  have hlt : (gt st 4).toNat < xs.length := by omega
  unfold instrAt
  rw [List.getElem?_eq_getElem hlt]
  exact List.getElem_mem hlt
theorem exec_5 {n : Nat} {x : Instr} (st o : List Int) (h : instrOk n x = true) : gt (execS x st o) 5 = gt o 5 := by
  have h3 := (instr_facts h).2.1
  have hne : x.a.toNat ≠ 5 := by omega
  unfold execS
  repeat' split
  all_goals first | rfl | exact gt_set_ne hne | exact gt_set_ne (by omega)
theorem step_5 {xs : List Instr} {st : List Int} (hk : codeOk xs = true) (h : canRun xs.length st = true) : gt (stepS xs st) 5 = gt st 5 + 1 := by
  unfold stepS
  rw [exec_5 _ _ ((code_facts hk).2 _ (instrAt_ok hk h)), gt_set (by rw [List.length_set, (can_facts h).1]; omega)]
/-- A run of n steps is a run of as many steps as its counter grew by. -/
theorem run_count {xs : List Instr} (hk : codeOk xs = true) : ∀ (n : Nat) (st : List Int), gt st 5 ≤ gt (runS xs n st) 5 ∧ gt (runS xs n st) 5 ≤ gt st 5 + n ∧ runS xs (gt (runS xs n st) 5 - gt st 5).toNat st = runS xs n st
  | 0, st => by simp [runS]
  | n + 1, st => by
    cases h : canRun xs.length st
    · rw [run_stuck h]; simp [runS]; omega
    · have e : runS xs (n + 1) st = runS xs n (stepS xs st) := by rw [runS, if_pos h]
      have ih := run_count hk n (stepS xs st)
      rw [step_5 hk h] at ih
      rw [e]
      refine ⟨by omega, by omega, ?_⟩
      have : (gt (runS xs n (stepS xs st)) 5 - gt st 5).toNat = (gt (runS xs n (stepS xs st)) 5 - (gt st 5 + 1)).toNat + 1 := by omega
      rw [this, runS, if_pos h]
      exact ih.2.2
structure Shot where
  steps : Int
  writes : Int
def encShot (s : Shot) : List V := [.int .i64 s.steps, .int .i64 s.writes]
def shotOk (s : Shot) : Bool := within s.steps 0 40 && within s.writes 0 9
def jitOk (xs : List Instr) (ss : List Shot) : Bool := codeOk xs && decide (ss.length ≤ 50) && ss.all shotOk
/-- The words of the newest slot, or zeros. -/
def wordsM (p : Pair) : List Int := if isNewM p = true then (newestM p).words else zero6
def shotM (xs : List Instr) (p : Pair) (s : Shot) : Pair := savedP p (runS xs s.steps.toNat (wordsM p)) s.writes
def pair0 : Pair := ⟨emptySlot, emptySlot⟩
def jitP (xs : List Instr) (ss : List Shot) : Pair := ss.foldl (shotM xs) pair0
/-- What lies in the pair, behind some shots: the state behind n steps, and a number of at most q. -/
structure At (xs : List Instr) (p : Pair) (n q : Nat) : Prop where
  w : wordsM p = runS xs n zero6
  q : (newestM p).seq ≤ q
theorem at_zero (xs : List Instr) : At xs pair0 0 0 := by
  have h : whichM pair0 = -1 := by simp [whichM, pair0, slotOk, emptySlot]
  refine ⟨?_, ?_⟩
  · rw [wordsM, (newest_ofN h).2]; rfl
  · rw [(newest_ofN h).1]; simp [emptySlot]
theorem at_ok {xs : List Instr} {p : Pair} {n q m : Nat} (h : At xs p n q) (hq : q < 1000000) : saveOk p (runS xs m (wordsM p)) = true := by
  have hl : (runS xs m (wordsM p)).length = 6 := by rw [runS_len, h.w, runS_len]; rfl
  have := h.q
  simp [saveOk, hl]; omega
theorem at_shot {xs : List Instr} {p : Pair} {n q : Nat} (h : At xs p n q) (hq : q < 1000000) (s : Shot) (h0 : 0 ≤ s.writes) : ∃ m, (m = 0 ∨ m = s.steps.toNat) ∧ (9 ≤ s.writes → m = s.steps.toNat) ∧ At xs (shotM xs p s) (n + m) (q + 1) := by
  have hk := at_ok (m := s.steps.toNat) h hq
  by_cases h9 : 9 ≤ s.writes
  · have t := torn_full hk h9
    refine ⟨s.steps.toNat, .inr rfl, fun _ => rfl, ?_, ?_⟩
    · have e : wordsM (shotM xs p s) = runS xs s.steps.toNat (wordsM p) := by
        show (if isNewM (savedP p (runS xs s.steps.toNat (wordsM p)) s.writes) = true then (newestM (savedP p (runS xs s.steps.toNat (wordsM p)) s.writes)).words else zero6) = _
        rw [if_pos t.2, t.1]
      rw [e, h.w, ← run_add]
    · unfold shotM
      rw [t.1]
      have := h.q
      simp only
      omega
  · have t := torn_part hk h0 (by omega)
    refine ⟨0, .inl rfl, fun h => absurd h h9, ?_, ?_⟩
    · have e : wordsM (shotM xs p s) = wordsM p := by
        show (if isNewM (savedP p (runS xs s.steps.toNat (wordsM p)) s.writes) = true then (newestM (savedP p (runS xs s.steps.toNat (wordsM p)) s.writes)).words else zero6) = _
        rw [t.1, t.2]; rfl
      rw [e, h.w]; rfl
    · unfold shotM
      rw [t.1]
      have := h.q
      omega
def stepsSum (ss : List Shot) : Nat := (ss.map fun s => s.steps.toNat).sum
theorem at_run {xs : List Instr} : ∀ (ss : List Shot) {p : Pair} {n q : Nat}, At xs p n q → q + ss.length < 1000000 → (∀ s ∈ ss, 0 ≤ s.writes) → ∃ m, m ≤ stepsSum ss ∧ ((∀ s ∈ ss, 9 ≤ s.writes) → m = stepsSum ss) ∧ At xs (ss.foldl (shotM xs) p) (n + m) (q + ss.length)
  | [], p, n, q, h, hq, h0 => ⟨0, Nat.zero_le _, fun _ => rfl, h⟩
  | s :: ss, p, n, q, h, hq, h0 => by
    simp only [List.length_cons] at hq
    obtain ⟨m, hm, h9, h1⟩ := at_shot h (by omega) s (h0 s (by simp))
    obtain ⟨m', hm', h9', h2⟩ := at_run ss h1 (by omega) (fun t ht => h0 t (by simp [ht]))
    have e : stepsSum (s :: ss) = s.steps.toNat + stepsSum ss := by simp [stepsSum]
    refine ⟨m + m', by omega, fun ha => ?_, ?_⟩
    · have := h9 (ha s (by simp))
      have := h9' (fun t ht => ha t (by simp [ht]))
      omega
    · rw [List.foldl_cons, List.length_cons, show n + (m + m') = n + m + m' by omega, show q + (ss.length + 1) = q + 1 + ss.length by omega]
      exact h2
theorem at_jit (xs : List Instr) (ss : List Shot) (hl : ss.length ≤ 50) (h0 : ∀ s ∈ ss, 0 ≤ s.writes) : ∃ m, m ≤ stepsSum ss ∧ ((∀ s ∈ ss, 9 ≤ s.writes) → m = stepsSum ss) ∧ wordsM (jitP xs ss) = runS xs m zero6 := by
  obtain ⟨m, h1, h2, h3⟩ := at_run ss (at_zero xs) (by omega) h0
  refine ⟨m, h1, h2, ?_⟩
  have := h3.w
  rwa [Nat.zero_add] at this
/-- The first shots leave no later state than all of them. -/
theorem at_take (xs : List Instr) (ss : List Shot) (k : Nat) (hl : ss.length ≤ 50) (h0 : ∀ s ∈ ss, 0 ≤ s.writes) : ∃ m m', m ≤ m' ∧ m' ≤ stepsSum ss ∧ wordsM (jitP xs (ss.take k)) = runS xs m zero6 ∧ wordsM (jitP xs ss) = runS xs m' zero6 := by
  have hlk : (ss.take k).length ≤ 50 := by simp only [List.length_take]; omega
  have hld : (ss.take k).length + (ss.drop k).length = ss.length := by simp only [List.length_take, List.length_drop]; omega
  obtain ⟨m, h1, _, h3⟩ := at_run (ss.take k) (at_zero xs) (by omega) (fun s hs => h0 s (List.mem_of_mem_take hs))
  obtain ⟨m', h1', _, h3'⟩ := at_run (ss.drop k) h3 (by omega) (fun s hs => h0 s (List.mem_of_mem_drop hs))
  rw [← List.foldl_append, List.take_append_drop] at h3'
  have e : stepsSum ss = stepsSum (ss.take k) + stepsSum (ss.drop k) := by
    unfold stepsSum
    rw [← List.sum_append, ← List.map_append, List.take_append_drop]
  refine ⟨m, m + m', by omega, by omega, ?_, ?_⟩
  · have := h3.w
    rwa [Nat.zero_add] at this
  · have := h3'.w
    rwa [Nat.zero_add] at this
theorem jit_law {xs : List Instr} {ss : List Shot} (k : Nat) (hk : codeOk xs = true) (hl : ss.length ≤ 50) (h0 : ∀ s ∈ ss, 0 ≤ s.writes) (hs : stepsSum ss ≤ 2000) :
    (wordsM (jitP xs ss)).length = 6 ∧ (0 ≤ gt (wordsM (jitP xs ss)) 5 ∧ gt (wordsM (jitP xs ss)) 5 ≤ 2000) ∧ runS xs (gt (wordsM (jitP xs ss)) 5).toNat zero6 = wordsM (jitP xs ss) ∧
    (wordsM (jitP xs (ss.take k))).length = 6 ∧ gt (wordsM (jitP xs (ss.take k))) 5 ≤ gt (wordsM (jitP xs ss)) 5 := by
  obtain ⟨m, m', h1, h2, h3, h4⟩ := at_take xs ss k hl h0
  have c := run_count hk m' zero6
  have c' := run_count hk (m' - m) (runS xs m zero6)
  have z : gt zero6 5 = 0 := rfl
  rw [z] at c
  rw [← run_add, show m + (m' - m) = m' by omega] at c'
  rw [h3, h4]
  refine ⟨by rw [runS_len]; rfl, by omega, ?_, by rw [runS_len]; rfl, by omega⟩
  have := c.2.2
  rwa [Int.sub_zero] at this
theorem whole_law {xs : List Instr} {ss : List Shot} (hk : codeOk xs = true) (hl : ss.length ≤ 50) (h9 : ∀ s ∈ ss, 9 ≤ s.writes) : wordsM (jitP xs ss) = runS xs (stepsSum ss) zero6 := by
  obtain ⟨m, h1, h2, h3⟩ := at_jit xs ss hl (fun s hs => by have := h9 s hs; omega)
  rw [h3, h2 h9]
end Go.Av
