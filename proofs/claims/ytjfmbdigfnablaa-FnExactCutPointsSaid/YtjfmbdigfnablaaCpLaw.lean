import Derived.Test.YtjfmbdigfnablaaCpCutTwo
namespace Go.Av
open Go.Proofs Go.RowKit
set_option linter.unusedVariables false
set_option linter.unusedSimpArgs false
set_option maxRecDepth 100000
set_option maxHeartbeats 4000000
theorem szStmtS_c (xs : List Stmt) (hx : xs.length ≤ 9223372036854775807) : CP Try.prog 5 [.lst 6 (xs.map encStmt), .int .i64 1048576] (.int .i64 (if (1048576 - (xs.length : Int)) < 0 then -1 else 1048576 - xs.length)) [] := by
  refine CP.by rfl mixed (cfn_ok Try.func5 ok5) rfl ?_
  simp (disch := omega) only [s5, go_sem, Nat.reduceEqDiff, Nat.reduceAdd, Nat.reduceSub, Nat.reduceLeDiff, Nat.reduceLT, Nat.reduceMul, Nat.reduceBEq, Int.reduceEq, Int.reduceLT, Int.reduceLE, Int.reduceNeg, reduceIte]
  refine condP_dec (fun h => ?_) (fun h => ?_) <;> simp (disch := omega) only [go_sem, Nat.reduceEqDiff, Nat.reduceAdd, Nat.reduceSub, Nat.reduceLeDiff, Nat.reduceLT, Nat.reduceMul, Nat.reduceBEq, Int.reduceEq, Int.reduceLT, Int.reduceLE, Int.reduceNeg, reduceIte] <;> simp [h]
theorem storeH_row {h : Heap} {id n i sz : Nat} {b : Blk} {x : V} (hb : h[id]? = some b) (hn : b.length = n) (hi : i < n) (he : ∀ e ∈ b, e.length = sz) (hf : fit sz x.cells = true) : storeH h sz (.ptr id n i 0) x = some (h.set id (b.set i x.cells)) := by
  subst hn
  have h1 : b[i]? = some b[i] := List.getElem?_eq_getElem hi
  have h2 := he b[i] (List.getElem_mem hi)
  simp only [fit, Bool.and_eq_true, decide_eq_true_eq] at hf
  have h3 : splice b[i] 0 x.cells = x.cells := by
    have : b[i].drop x.cells.length = [] := List.drop_eq_nil_of_le (by omega)
    simp [splice, this]
  simp [storeH, storeB, hb, h1, hf.1, h2, h3]
  simpa using hf.2
theorem storeH_cell {h : Heap} {id n i j : Nat} {b : Blk} {e : List V} {v : V} (hb : h[id]? = some b) (hn : b.length = n) (he : b[i]? = some e) (hj : j < e.length) (hv : v.one = true) (hc : v.cells = [v]) : storeH h 1 (.ptr id n i j) v = some (h.set id (b.set i (e.set j v))) := by
  subst hn
  have h3 : splice e j [v] = e.set j v := by
    rw [List.set_eq_take_append_cons_drop, if_pos hj]
    simp [splice]
  simp [storeH, storeB, hb, he, hc, hv, h3]
  omega
def zStmt : List V := [.int .i64 0, .int .i64 0, .int .i64 0, .int .i64 0, .int .i64 0, .int .i64 0]
theorem toStmtS_c (xs : List Stmt) (hx : xs.length ≤ 1048576) : CP Try.prog 7 [.lst 6 (xs.map encStmt)] (.own 0 6 0 xs.length xs.length) [xs.map encStmt] := by
  refine C.cpOwn (by simp [flat, encStmt, V.scalar]) (C.by mixed (cfn_ok Try.func7 ok7) rfl ?_)
  simp (disch := omega) only [s7, go_sem, Nat.reduceEqDiff, Nat.reduceAdd, Nat.reduceSub, Nat.reduceLeDiff, Nat.reduceLT, Nat.reduceMul, Nat.reduceBEq, Int.reduceEq, Int.reduceLT, Int.reduceLE, Int.reduceNeg, reduceIte]
  refine loopP_intro (fun m s => ∃ k : Nat, k ≤ xs.length ∧ m = xs.length - k ∧ s.e 0 = .lst 6 (xs.map encStmt) ∧ s.e 4 = .int .i64 k ∧ s.e 3 = .own 0 6 0 xs.length xs.length ∧ s.h[0]? = some ((xs.take k).map encStmt ++ List.replicate (xs.length - k) zStmt)) xs.length ⟨0, by omega, by omega, rfl, rfl, rfl, by simp [zStmt]⟩ ?_
  rintro m e hp ⟨k, hk, rfl, e0, e4, e3, hid⟩
  simp only at e0 e4 e3 hid
  simp (disch := omega) only [go_sem, Nat.reduceEqDiff, Nat.reduceAdd, Nat.reduceSub, Nat.reduceLeDiff, Nat.reduceLT, Nat.reduceMul, Nat.reduceBEq, Int.reduceEq, Int.reduceLT, Int.reduceLE, Int.reduceNeg, reduceIte, e0, e4, e3, encStmt]
  refine condP_dec (fun hlt => ?_) (fun hlt => ?_)
  · have hlt' : k < xs.length := by omega
    simp (disch := omega) only [go_sem, Nat.reduceEqDiff, Nat.reduceAdd, Nat.reduceSub, Nat.reduceLeDiff, Nat.reduceLT, Nat.reduceMul, Nat.reduceBEq, Int.reduceEq, Int.reduceLT, Int.reduceLE, Int.reduceNeg, reduceIte, e0, e4, e3, encStmt]
    refine CP.go (toStmt_c xs[k]) rfl rfl ?_
    simp (disch := omega) only [go_sem, Nat.reduceEqDiff, Nat.reduceAdd, Nat.reduceSub, Nat.reduceLeDiff, Nat.reduceLT, Nat.reduceMul, Nat.reduceBEq, Int.reduceEq, Int.reduceLT, Int.reduceLE, Int.reduceNeg, reduceIte, e0, e4, e3, encStmt]
    rw [storeH_row hid (by simp; omega) hlt' (fun e he => by
      rcases List.mem_append.1 he with h1 | h1
      · obtain ⟨s, _, rfl⟩ := List.mem_map.1 h1; rfl
      · rw [(List.mem_replicate.1 h1).2]; rfl) rfl]
    simp (disch := omega) only [go_sem, Nat.reduceEqDiff, Nat.reduceAdd, Nat.reduceSub, Nat.reduceLeDiff, Nat.reduceLT, Nat.reduceMul, Nat.reduceBEq, Int.reduceEq, Int.reduceLT, Int.reduceLE, Int.reduceNeg, reduceIte, e0, e4, e3, encStmt]
    refine nextP_intro (xs.length - (k + 1)) (by omega) ⟨k + 1, by omega, rfl, ?_, ?_, ?_, ?_⟩
    · simp (disch := omega) only [go_sem, Nat.reduceEqDiff, Nat.reduceAdd, Nat.reduceSub, Nat.reduceLeDiff, Nat.reduceLT, Nat.reduceMul, Nat.reduceBEq, Int.reduceEq, Int.reduceLT, Int.reduceLE, Int.reduceNeg, reduceIte, e0, e4, e3, encStmt]
    · simp (disch := omega) only [go_sem, Nat.reduceEqDiff, Nat.reduceAdd, Nat.reduceSub, Nat.reduceLeDiff, Nat.reduceLT, Nat.reduceMul, Nat.reduceBEq, Int.reduceEq, Int.reduceLT, Int.reduceLE, Int.reduceNeg, reduceIte, e0, e4, e3, encStmt]; rfl
    · simp (disch := omega) only [go_sem, Nat.reduceEqDiff, Nat.reduceAdd, Nat.reduceSub, Nat.reduceLeDiff, Nat.reduceLT, Nat.reduceMul, Nat.reduceBEq, Int.reduceEq, Int.reduceLT, Int.reduceLE, Int.reduceNeg, reduceIte, e0, e4, e3, encStmt]
    · rw [heap_set _ hid]
      congr 1
      have e1 : xs.length - k = (xs.length - (k + 1)) + 1 := by omega
      have e2 : ((xs.take k).map encStmt).length = k := by simp; omega
      rw [e1, List.replicate_succ, List.set_append_right _ _ (by omega), e2, Nat.sub_self, List.set_cons_zero, List.take_succ_eq_append_getElem hlt', List.map_append, List.append_assoc]
      rfl
  · simp (disch := omega) only [go_sem, Nat.reduceEqDiff, Nat.reduceAdd, Nat.reduceSub, Nat.reduceLeDiff, Nat.reduceLT, Nat.reduceMul, Nat.reduceBEq, Int.reduceEq, Int.reduceLT, Int.reduceLE, Int.reduceNeg, reduceIte, e0, e4, e3, encStmt]
    refine ⟨0, rfl, ?_⟩
    have : k = xs.length := by omega
    subst this
    rw [hid]; simp
theorem eqB_refl (x : Stmt) : eqStmtB x x = true := by simp [eqStmtB, eqExprB]
theorem eqStmtS_c (xs : List Stmt) (hx : xs.length ≤ 1048576) : CP Try.prog 10 [.lst 6 (xs.map encStmt), .lst 6 (xs.map encStmt)] (.bool true) [] := by
  refine CP.by rfl mixed (cfn_ok Try.func10 ok10) rfl ?_
  simp (disch := omega) only [s10, go_sem, Nat.reduceEqDiff, Nat.reduceAdd, Nat.reduceSub, Nat.reduceLeDiff, Nat.reduceLT, Nat.reduceMul, Nat.reduceBEq, Int.reduceEq, Int.reduceLT, Int.reduceLE, Int.reduceNeg, reduceIte]
  refine loopP_intro (fun m s => ∃ k : Nat, k ≤ xs.length ∧ m = xs.length - k ∧ s.e 0 = .lst 6 (xs.map encStmt) ∧ s.e 1 = .lst 6 (xs.map encStmt) ∧ s.e 5 = .int .i64 k) xs.length ⟨0, by omega, by omega, rfl, rfl, rfl⟩ ?_
  rintro m e hp ⟨k, hk, rfl, e0, e1, e5⟩
  simp only at e0 e1 e5
  simp (disch := omega) only [go_sem, Nat.reduceEqDiff, Nat.reduceAdd, Nat.reduceSub, Nat.reduceLeDiff, Nat.reduceLT, Nat.reduceMul, Nat.reduceBEq, Int.reduceEq, Int.reduceLT, Int.reduceLE, Int.reduceNeg, reduceIte, e0, e1, e5, encStmt]
  refine condP_dec (fun hlt => ?_) (fun hlt => ?_)
  · have hlt' : k < xs.length := by omega
    simp (disch := omega) only [go_sem, Nat.reduceEqDiff, Nat.reduceAdd, Nat.reduceSub, Nat.reduceLeDiff, Nat.reduceLT, Nat.reduceMul, Nat.reduceBEq, Int.reduceEq, Int.reduceLT, Int.reduceLE, Int.reduceNeg, reduceIte, e0, e1, e5, encStmt]
    refine CP.go (eqStmt_c xs[k] xs[k]) rfl rfl ?_
    simp (disch := omega) only [go_sem, Nat.reduceEqDiff, Nat.reduceAdd, Nat.reduceSub, Nat.reduceLeDiff, Nat.reduceLT, Nat.reduceMul, Nat.reduceBEq, Int.reduceEq, Int.reduceLT, Int.reduceLE, Int.reduceNeg, reduceIte, eqB_refl, e0, e1, e5, encStmt]
    refine nextP_intro (xs.length - (k + 1)) (by omega) ⟨k + 1, by omega, rfl, ?_, ?_, ?_⟩
    · simp (disch := omega) only [go_sem, Nat.reduceEqDiff, Nat.reduceAdd, Nat.reduceSub, Nat.reduceLeDiff, Nat.reduceLT, Nat.reduceMul, Nat.reduceBEq, Int.reduceEq, Int.reduceLT, Int.reduceLE, Int.reduceNeg, reduceIte, e0, e1, e5, encStmt]
    · simp (disch := omega) only [go_sem, Nat.reduceEqDiff, Nat.reduceAdd, Nat.reduceSub, Nat.reduceLeDiff, Nat.reduceLT, Nat.reduceMul, Nat.reduceBEq, Int.reduceEq, Int.reduceLT, Int.reduceLE, Int.reduceNeg, reduceIte, e0, e1, e5, encStmt]
    · simp (disch := omega) only [go_sem, Nat.reduceEqDiff, Nat.reduceAdd, Nat.reduceSub, Nat.reduceLeDiff, Nat.reduceLT, Nat.reduceMul, Nat.reduceBEq, Int.reduceEq, Int.reduceLT, Int.reduceLE, Int.reduceNeg, reduceIte, e0, e1, e5, encStmt]; rfl
  · simp (disch := omega) only [go_sem, Nat.reduceEqDiff, Nat.reduceAdd, Nat.reduceSub, Nat.reduceLeDiff, Nat.reduceLT, Nat.reduceMul, Nat.reduceBEq, Int.reduceEq, Int.reduceLT, Int.reduceLE, Int.reduceNeg, reduceIte, e0, e1, e5, encStmt]
theorem eqIntS_c (xs ys : List Int) (hx : xs.length ≤ 1048576) : CP Try.prog 9 [.lst 1 (xs.map encI), .lst 1 (ys.map encI)] (.bool (decide (xs = ys))) [] := by
  refine CP.by rfl mixed (cfn_ok Try.func9 ok9) rfl ?_
  simp (disch := omega) only [s9, go_sem, Nat.reduceEqDiff, Nat.reduceAdd, Nat.reduceSub, Nat.reduceLeDiff, Nat.reduceLT, Nat.reduceMul, Nat.reduceBEq, Int.reduceEq, Int.reduceLT, Int.reduceLE, Int.reduceNeg, reduceIte, encI]
  refine condP_dec (fun hl => ?_) (fun hl => ?_)
  · simp (disch := omega) only [go_sem, Nat.reduceEqDiff, Nat.reduceAdd, Nat.reduceSub, Nat.reduceLeDiff, Nat.reduceLT, Nat.reduceMul, Nat.reduceBEq, Int.reduceEq, Int.reduceLT, Int.reduceLE, Int.reduceNeg, reduceIte, encI]
    have hl' : xs.length = ys.length := by omega
    refine loopP_intro (fun m s => ∃ k : Nat, k ≤ xs.length ∧ m = xs.length - k ∧ s.e 0 = .lst 1 (xs.map encI) ∧ s.e 1 = .lst 1 (ys.map encI) ∧ s.e 5 = .int .i64 k ∧ xs.take k = ys.take k) xs.length ⟨0, by omega, by omega, rfl, rfl, rfl, rfl⟩ ?_
    rintro m e hp ⟨k, hk, rfl, e0, e1, e5, ht⟩
    simp only at e0 e1 e5
    simp (disch := omega) only [go_sem, Nat.reduceEqDiff, Nat.reduceAdd, Nat.reduceSub, Nat.reduceLeDiff, Nat.reduceLT, Nat.reduceMul, Nat.reduceBEq, Int.reduceEq, Int.reduceLT, Int.reduceLE, Int.reduceNeg, reduceIte, e0, e1, e5, encI]
    refine condP_dec (fun hlt => ?_) (fun hlt => ?_)
    · have hlt' : k < xs.length := by omega
      have hlt2 : k < ys.length := by omega
      simp (disch := omega) only [go_sem, Nat.reduceEqDiff, Nat.reduceAdd, Nat.reduceSub, Nat.reduceLeDiff, Nat.reduceLT, Nat.reduceMul, Nat.reduceBEq, Int.reduceEq, Int.reduceLT, Int.reduceLE, Int.reduceNeg, reduceIte, e0, e1, e5, encI]
      refine condP_dec (fun hq => ?_) (fun hq => ?_)
      · simp (disch := omega) only [go_sem, Nat.reduceEqDiff, Nat.reduceAdd, Nat.reduceSub, Nat.reduceLeDiff, Nat.reduceLT, Nat.reduceMul, Nat.reduceBEq, Int.reduceEq, Int.reduceLT, Int.reduceLE, Int.reduceNeg, reduceIte, e0, e1, e5, encI]
        refine nextP_intro (xs.length - (k + 1)) (by omega) ⟨k + 1, by omega, rfl, ?_, ?_, ?_, ?_⟩
        · simp (disch := omega) only [go_sem, Nat.reduceEqDiff, Nat.reduceAdd, Nat.reduceSub, Nat.reduceLeDiff, Nat.reduceLT, Nat.reduceMul, Nat.reduceBEq, Int.reduceEq, Int.reduceLT, Int.reduceLE, Int.reduceNeg, reduceIte, e0, e1, e5, encI]
        · simp (disch := omega) only [go_sem, Nat.reduceEqDiff, Nat.reduceAdd, Nat.reduceSub, Nat.reduceLeDiff, Nat.reduceLT, Nat.reduceMul, Nat.reduceBEq, Int.reduceEq, Int.reduceLT, Int.reduceLE, Int.reduceNeg, reduceIte, e0, e1, e5, encI]
        · simp (disch := omega) only [go_sem, Nat.reduceEqDiff, Nat.reduceAdd, Nat.reduceSub, Nat.reduceLeDiff, Nat.reduceLT, Nat.reduceMul, Nat.reduceBEq, Int.reduceEq, Int.reduceLT, Int.reduceLE, Int.reduceNeg, reduceIte, e0, e1, e5, encI]; rfl
        · rw [List.take_succ_eq_append_getElem hlt', List.take_succ_eq_append_getElem hlt2, ht, hq]
      · simp (disch := omega) only [go_sem, Nat.reduceEqDiff, Nat.reduceAdd, Nat.reduceSub, Nat.reduceLeDiff, Nat.reduceLT, Nat.reduceMul, Nat.reduceBEq, Int.reduceEq, Int.reduceLT, Int.reduceLE, Int.reduceNeg, reduceIte, e0, e1, e5, encI]
        have : xs ≠ ys := fun e => by subst e; exact hq rfl
        simp [this]
    · simp (disch := omega) only [go_sem, Nat.reduceEqDiff, Nat.reduceAdd, Nat.reduceSub, Nat.reduceLeDiff, Nat.reduceLT, Nat.reduceMul, Nat.reduceBEq, Int.reduceEq, Int.reduceLT, Int.reduceLE, Int.reduceNeg, reduceIte, e0, e1, e5, encI]
      have : k = xs.length := by omega
      subst this
      rw [List.take_length] at ht
      have : xs = ys := by rw [ht, hl', List.take_length]
      simp [this]
  · simp (disch := omega) only [go_sem, Nat.reduceEqDiff, Nat.reduceAdd, Nat.reduceSub, Nat.reduceLeDiff, Nat.reduceLT, Nat.reduceMul, Nat.reduceBEq, Int.reduceEq, Int.reduceLT, Int.reduceLE, Int.reduceNeg, reduceIte, encI]
    have : xs ≠ ys := fun e => by subst e; exact hl rfl
    simp [this]
theorem heap_self {h : Heap} {id : Nat} {b : Blk} (hb : h[id]? = some b) : h = h.set id b := by
  obtain ⟨hl, he⟩ := List.getElem?_eq_some_iff.1 hb
  subst he
  simp
theorem markStmtS_c (h : Heap) (id n : Nat) (b : Blk) (hid : h[id]? = some b) (hn : b.length = n) (hr : ∀ e ∈ b, e.length = 6) (hx : n ≤ 1048576) : C Try.prog 11 [.own id 6 0 n n, .int .i64 1] h (fun r h' => r = .int .i64 (1 + 6 * n) ∧ ∃ b', h' = h.set id b') := by
  refine C.by mixed (cfn_ok Try.func11 ok11) rfl ?_
  simp (disch := omega) only [s11, go_sem, Nat.reduceEqDiff, Nat.reduceAdd, Nat.reduceSub, Nat.reduceLeDiff, Nat.reduceLT, Nat.reduceMul, Nat.reduceBEq, Int.reduceEq, Int.reduceLT, Int.reduceLE, Int.reduceNeg, reduceIte]
  refine loopP_intro (fun m s => ∃ (k : Nat) (c : Blk), k ≤ n ∧ m = n - k ∧ s.e 0 = .own id 6 0 n n ∧ s.e 1 = .int .i64 (1 + 6 * k) ∧ s.e 5 = .int .i64 k ∧ s.h = h.set id c ∧ c.length = n ∧ ∀ e ∈ c, e.length = 6) n ⟨0, b, by omega, by omega, rfl, rfl, rfl, heap_self hid, hn, hr⟩ ?_
  rintro m e hp ⟨k, c, hk, rfl, e0, e1, e5, hh, hcn, hcr⟩
  simp only at e0 e1 e5 hh
  subst hh
  simp (disch := omega) only [go_sem, Nat.reduceEqDiff, Nat.reduceAdd, Nat.reduceSub, Nat.reduceLeDiff, Nat.reduceLT, Nat.reduceMul, Nat.reduceBEq, Int.reduceEq, Int.reduceLT, Int.reduceLE, Int.reduceNeg, reduceIte, e0, e1, e5]
  refine condP_dec (fun hlt => ?_) (fun hlt => ?_)
  · have hlt' : k < c.length := by omega
    have hc0 : c[k]? = some c[k] := List.getElem?_eq_getElem hlt'
    have hl0 : c[k].length = 6 := hcr _ (List.getElem_mem hlt')
    have step : ∀ (d : Blk) (j : Nat) (v : Int), d.length = n → (∀ e ∈ d, e.length = 6) → j < 6 → ∃ d', storeH (h.set id d) 1 (.ptr id n k j) (.int .i64 v) = some (h.set id d') ∧ d'.length = n ∧ ∀ e ∈ d', e.length = 6 := fun d j v h1 h2 h3 => by
      have hk' : k < d.length := by omega
      refine ⟨d.set k (d[k].set j (.int .i64 v)), ?_, by simpa using h1, fun e he => ?_⟩
      · rw [storeH_cell (heap_set _ hid) h1 (List.getElem?_eq_getElem hk') (by rw [h2 _ (List.getElem_mem hk')]; exact h3) rfl rfl, List.set_set]
      · rcases List.mem_or_eq_of_mem_set he with h4 | h4
        · exact h2 e h4
        · rw [h4]; simpa using h2 _ (List.getElem_mem hk')
    obtain ⟨d1, s1, l1, r1⟩ := step c 0 (1 + 6 * k) hcn hcr (by omega)
    obtain ⟨d2, s2, l2, r2⟩ := step d1 1 (1 + 6 * k + 1) l1 r1 (by omega)
    obtain ⟨d3, s3, l3, r3⟩ := step d2 2 (1 + 6 * k + 1 + 1) l2 r2 (by omega)
    obtain ⟨d4, s4, l4, r4⟩ := step d3 3 (1 + 6 * k + 1 + 1 + 1) l3 r3 (by omega)
    obtain ⟨d5, s5, l5, r5⟩ := step d4 4 (1 + 6 * k + 1 + 1 + 1 + 1) l4 r4 (by omega)
    obtain ⟨d6, s6, l6, r6⟩ := step d5 5 (1 + 6 * k + 1 + 1 + 1 + 1 + 1) l5 r5 (by omega)
    simp (disch := omega) only [go_sem, Nat.reduceEqDiff, Nat.reduceAdd, Nat.reduceSub, Nat.reduceLeDiff, Nat.reduceLT, Nat.reduceMul, Nat.reduceBEq, Int.reduceEq, Int.reduceLT, Int.reduceLE, Int.reduceNeg, reduceIte, s1, s2, s3, s4, s5, s6, e0, e1, e5]
    refine nextP_intro (n - (k + 1)) (by omega) ⟨k + 1, d6, by omega, rfl, ?_, ?_, ?_, ?_, l6, r6⟩
    · simp (disch := omega) only [go_sem, Nat.reduceEqDiff, Nat.reduceAdd, Nat.reduceSub, Nat.reduceLeDiff, Nat.reduceLT, Nat.reduceMul, Nat.reduceBEq, Int.reduceEq, Int.reduceLT, Int.reduceLE, Int.reduceNeg, reduceIte, e0, e1, e5]
    · simp (disch := omega) only [go_sem, Nat.reduceEqDiff, Nat.reduceAdd, Nat.reduceSub, Nat.reduceLeDiff, Nat.reduceLT, Nat.reduceMul, Nat.reduceBEq, Int.reduceEq, Int.reduceLT, Int.reduceLE, Int.reduceNeg, reduceIte, e0, e1, e5]; try (exact congrArg (V.int .i64) (by omega))
    · simp (disch := omega) only [go_sem, Nat.reduceEqDiff, Nat.reduceAdd, Nat.reduceSub, Nat.reduceLeDiff, Nat.reduceLT, Nat.reduceMul, Nat.reduceBEq, Int.reduceEq, Int.reduceLT, Int.reduceLE, Int.reduceNeg, reduceIte, e0, e1, e5]; try rfl
    · rfl
  · simp (disch := omega) only [go_sem, Nat.reduceEqDiff, Nat.reduceAdd, Nat.reduceSub, Nat.reduceLeDiff, Nat.reduceLT, Nat.reduceMul, Nat.reduceBEq, Int.reduceEq, Int.reduceLT, Int.reduceLE, Int.reduceNeg, reduceIte, e0, e1, e5]
    have : k = n := by omega
    subst this
    exact ⟨rfl, c, rfl⟩
/-- What a marked row of whole numbers holds. -/
def marked (n : Nat) : List Int := (List.range n).map fun (i : Nat) => (1 : Int) + (i : Int)
theorem markIntS_c (h : Heap) (id n : Nat) (b : Blk) (hid : h[id]? = some b) (hn : b.length = n) (hr : ∀ e ∈ b, e.length = 1) (hx : n ≤ 1048576) : C Try.prog 12 [.own id 1 0 n n, .int .i64 1] h (fun r h' => r = .int .i64 (1 + n) ∧ h' = h.set id ((marked n).map encI)) := by
  refine C.by mixed (cfn_ok Try.func12 ok12) rfl ?_
  simp (disch := omega) only [s12, go_sem, Nat.reduceEqDiff, Nat.reduceAdd, Nat.reduceSub, Nat.reduceLeDiff, Nat.reduceLT, Nat.reduceMul, Nat.reduceBEq, Int.reduceEq, Int.reduceLT, Int.reduceLE, Int.reduceNeg, reduceIte]
  refine loopP_intro (fun m s => ∃ (k : Nat) (c : Blk), k ≤ n ∧ m = n - k ∧ s.e 0 = .own id 1 0 n n ∧ s.e 1 = .int .i64 (1 + k) ∧ s.e 5 = .int .i64 k ∧ s.h = h.set id c ∧ c.length = n ∧ (∀ e ∈ c, e.length = 1) ∧ ∀ i, i < k → c[i]? = some (encI (1 + i))) n ⟨0, b, by omega, by omega, rfl, rfl, rfl, heap_self hid, hn, hr, fun i hi => absurd hi (by omega)⟩ ?_
  rintro m e hp ⟨k, c, hk, rfl, e0, e1, e5, hh, hcn, hcr, hck⟩
  simp only at e0 e1 e5 hh
  subst hh
  simp (disch := omega) only [go_sem, Nat.reduceEqDiff, Nat.reduceAdd, Nat.reduceSub, Nat.reduceLeDiff, Nat.reduceLT, Nat.reduceMul, Nat.reduceBEq, Int.reduceEq, Int.reduceLT, Int.reduceLE, Int.reduceNeg, reduceIte, e0, e1, e5]
  refine condP_dec (fun hlt => ?_) (fun hlt => ?_)
  · have hlt' : k < n := by omega
    simp (disch := omega) only [go_sem, Nat.reduceEqDiff, Nat.reduceAdd, Nat.reduceSub, Nat.reduceLeDiff, Nat.reduceLT, Nat.reduceMul, Nat.reduceBEq, Int.reduceEq, Int.reduceLT, Int.reduceLE, Int.reduceNeg, reduceIte, e0, e1, e5]
    rw [storeH_row (heap_set _ hid) hcn hlt' hcr rfl, List.set_set]
    simp (disch := omega) only [go_sem, Nat.reduceEqDiff, Nat.reduceAdd, Nat.reduceSub, Nat.reduceLeDiff, Nat.reduceLT, Nat.reduceMul, Nat.reduceBEq, Int.reduceEq, Int.reduceLT, Int.reduceLE, Int.reduceNeg, reduceIte, e0, e1, e5]
    refine nextP_intro (n - (k + 1)) (by omega) ⟨k + 1, c.set k [.int .i64 (1 + k)], by omega, rfl, ?_, ?_, ?_, rfl, by simpa using hcn, fun e he => ?_, fun i hi => ?_⟩
    · simp (disch := omega) only [go_sem, Nat.reduceEqDiff, Nat.reduceAdd, Nat.reduceSub, Nat.reduceLeDiff, Nat.reduceLT, Nat.reduceMul, Nat.reduceBEq, Int.reduceEq, Int.reduceLT, Int.reduceLE, Int.reduceNeg, reduceIte, e0, e1, e5]
    · simp (disch := omega) only [go_sem, Nat.reduceEqDiff, Nat.reduceAdd, Nat.reduceSub, Nat.reduceLeDiff, Nat.reduceLT, Nat.reduceMul, Nat.reduceBEq, Int.reduceEq, Int.reduceLT, Int.reduceLE, Int.reduceNeg, reduceIte, e0, e1, e5]; try (exact congrArg (V.int .i64) (by omega))
    · simp (disch := omega) only [go_sem, Nat.reduceEqDiff, Nat.reduceAdd, Nat.reduceSub, Nat.reduceLeDiff, Nat.reduceLT, Nat.reduceMul, Nat.reduceBEq, Int.reduceEq, Int.reduceLT, Int.reduceLE, Int.reduceNeg, reduceIte, e0, e1, e5]; try rfl
    · rcases List.mem_or_eq_of_mem_set he with h4 | h4
      · exact hcr e h4
      · rw [h4]; rfl
    · by_cases hik : i = k
      · subst hik; rw [List.getElem?_set_self (by omega)]; rfl
      · rw [List.getElem?_set_ne (by omega)]; exact hck i (by omega)
  · simp (disch := omega) only [go_sem, Nat.reduceEqDiff, Nat.reduceAdd, Nat.reduceSub, Nat.reduceLeDiff, Nat.reduceLT, Nat.reduceMul, Nat.reduceBEq, Int.reduceEq, Int.reduceLT, Int.reduceLE, Int.reduceNeg, reduceIte, e0, e1, e5]
    have : k = n := by omega
    subst this
    refine ⟨rfl, ?_⟩
    congr 1
    refine List.ext_getElem? fun i => ?_
    by_cases hi : i < k
    · rw [hck i hi]; simp [marked, hi]
    · rw [List.getElem?_eq_none (by omega), List.getElem?_eq_none (by simp [marked]; omega)]
theorem markIntS_n (h : Heap) : C Try.prog 12 [.nils, .int .i64 1] h (fun r h' => r = .int .i64 1 ∧ h' = h) := by
  refine C.by mixed (cfn_ok Try.func12 ok12) rfl ?_
  simp (disch := omega) only [s12, go_sem, Nat.reduceEqDiff, Nat.reduceAdd, Nat.reduceSub, Nat.reduceLeDiff, Nat.reduceLT, Nat.reduceMul, Nat.reduceBEq, Int.reduceEq, Int.reduceLT, Int.reduceLE, Int.reduceNeg, reduceIte]
  refine loopP_intro (fun m s => m = 0 ∧ s.e 0 = .nils ∧ s.e 1 = .int .i64 1 ∧ s.e 5 = .int .i64 0 ∧ s.h = h) 0 ⟨rfl, rfl, rfl, rfl, rfl⟩ ?_
  rintro m e hp ⟨rfl, e0, e1, e5, hh⟩
  simp only at e0 e1 e5 hh
  subst hh
  simp (disch := omega) only [go_sem, Nat.reduceEqDiff, Nat.reduceAdd, Nat.reduceSub, Nat.reduceLeDiff, Nat.reduceLT, Nat.reduceMul, Nat.reduceBEq, Int.reduceEq, Int.reduceLT, Int.reduceLE, Int.reduceNeg, reduceIte, e0, e1, e5]
  all_goals first | exact ⟨rfl, rfl⟩ | trace_state
theorem heldIntS_c (n : Nat) (hx : n ≤ 1048576) : CP Try.prog 13 [.lst 1 ((marked n).map encI), .int .i64 1] (.int .i64 (1 + n)) [] := by
  have hml : (marked n).length = n := by simp [marked]
  refine CP.by rfl mixed (cfn_ok Try.func13 ok13) rfl ?_
  simp (disch := omega) only [s13, go_sem, Nat.reduceEqDiff, Nat.reduceAdd, Nat.reduceSub, Nat.reduceLeDiff, Nat.reduceLT, Nat.reduceMul, Nat.reduceBEq, Int.reduceEq, Int.reduceLT, Int.reduceLE, Int.reduceNeg, reduceIte, encI, hml]
  refine loopP_intro (fun m s => ∃ k : Nat, k ≤ n ∧ m = n - k ∧ s.e 0 = .lst 1 ((marked n).map encI) ∧ s.e 1 = .int .i64 (1 + k) ∧ s.e 5 = .int .i64 k) n ⟨0, by omega, by omega, rfl, rfl, rfl⟩ ?_
  rintro m e hp ⟨k, hk, rfl, e0, e1, e5⟩
  simp only at e0 e1 e5
  simp (disch := omega) only [go_sem, Nat.reduceEqDiff, Nat.reduceAdd, Nat.reduceSub, Nat.reduceLeDiff, Nat.reduceLT, Nat.reduceMul, Nat.reduceBEq, Int.reduceEq, Int.reduceLT, Int.reduceLE, Int.reduceNeg, reduceIte, e0, e1, e5, encI, hml]
  refine condP_dec (fun hlt => ?_) (fun hlt => ?_)
  · have hlt' : k < (marked n).length := by omega
    have hm : (marked n)[k] = 1 + (k : Int) := by simp [marked]
    simp (disch := omega) only [go_sem, Nat.reduceEqDiff, Nat.reduceAdd, Nat.reduceSub, Nat.reduceLeDiff, Nat.reduceLT, Nat.reduceMul, Nat.reduceBEq, Int.reduceEq, Int.reduceLT, Int.reduceLE, Int.reduceNeg, reduceIte, hm, e0, e1, e5, encI, hml]

    refine nextP_intro (n - (k + 1)) (by omega) ⟨k + 1, by omega, rfl, ?_, ?_, ?_⟩
    · simp (disch := omega) only [go_sem, Nat.reduceEqDiff, Nat.reduceAdd, Nat.reduceSub, Nat.reduceLeDiff, Nat.reduceLT, Nat.reduceMul, Nat.reduceBEq, Int.reduceEq, Int.reduceLT, Int.reduceLE, Int.reduceNeg, reduceIte, e0, e1, e5, encI, hml]
    · simp (disch := omega) only [go_sem, Nat.reduceEqDiff, Nat.reduceAdd, Nat.reduceSub, Nat.reduceLeDiff, Nat.reduceLT, Nat.reduceMul, Nat.reduceBEq, Int.reduceEq, Int.reduceLT, Int.reduceLE, Int.reduceNeg, reduceIte, e0, e1, e5, encI, hml]; try (exact congrArg (V.int .i64) (by omega))
    · simp (disch := omega) only [go_sem, Nat.reduceEqDiff, Nat.reduceAdd, Nat.reduceSub, Nat.reduceLeDiff, Nat.reduceLT, Nat.reduceMul, Nat.reduceBEq, Int.reduceEq, Int.reduceLT, Int.reduceLE, Int.reduceNeg, reduceIte, e0, e1, e5, encI, hml]; try rfl
  · simp (disch := omega) only [go_sem, Nat.reduceEqDiff, Nat.reduceAdd, Nat.reduceSub, Nat.reduceLeDiff, Nat.reduceLT, Nat.reduceMul, Nat.reduceBEq, Int.reduceEq, Int.reduceLT, Int.reduceLE, Int.reduceNeg, reduceIte, e0, e1, e5, encI, hml]
    have : k = n := by omega
    subst this
    rfl
end Go.Av
