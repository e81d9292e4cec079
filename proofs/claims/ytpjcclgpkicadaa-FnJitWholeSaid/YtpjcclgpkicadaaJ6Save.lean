import Derived.Test.YtpjcclgpkicadaaJ6Copy
namespace Go.Av
open Go.Proofs Go.RowKit
set_option linter.unusedVariables false
set_option linter.unusedSimpArgs false
set_option maxRecDepth 100000
set_option maxHeartbeats 4000000
def bitI (b : Bool) : Int := if b = true then 1 else 0
theorem bit_c (b : Bool) : CP Try.prog 67 [.bool b] (.int .i64 (bitI b)) [] := by
  refine CP.by rfl mixed (cfn_ok Try.func67 ok67) rfl ?_
  simp (disch := omega) only [s67, go_sem, Nat.reduceEqDiff, Nat.reduceAdd, Nat.reduceSub, Nat.reduceLeDiff, Nat.reduceLT, Nat.reduceMul, Nat.reduceBEq, Int.reduceEq, Int.reduceLT, Int.reduceLE, Int.reduceNeg, Int.reduceToNat, Int.reduceSub, Int.reduceAdd, reduceIte]
  cases b <;> simp (disch := omega) only [go_sem, Nat.reduceEqDiff, Nat.reduceAdd, Nat.reduceSub, Nat.reduceLeDiff, Nat.reduceLT, Nat.reduceMul, Nat.reduceBEq, Int.reduceEq, Int.reduceLT, Int.reduceLE, Int.reduceNeg, Int.reduceToNat, Int.reduceSub, Int.reduceAdd, reduceIte] <;> rfl
def saveOk (p : Pair) (ws : List Int) : Bool := decide (ws.length = 6) && decide ((newestM p).seq < 1000000)
/-- The words that have to be written. -/
def saveList (p : Pair) (ws : List Int) : List Int := if saveOk p ws = true then 0 :: (ws ++ [sumOf ((newestM p).seq + 1) ws, (newestM p).seq + 1]) else []
def saveSlot (p : Pair) (ws : List Int) : Int := if saveOk p ws = true then bitI (decide (whichM p = 0)) else 0
theorem slotOk_seq {s : Slot} (h : slotOk s = true) : 1 ≤ s.seq := by
  simp [slotOk] at h; exact h.1.1
theorem which_0 {p : Pair} (h : whichM p = 0) : slotOk p.a = true := by
  unfold whichM at h
  split at h
  · rename_i hc; exact hc.1
  · split at h <;> omega
theorem which_1 {p : Pair} (h : whichM p = 1) : slotOk p.b = true := by
  unfold whichM at h
  split at h
  · omega
  · split at h
    · assumption
    · omega
theorem newest_seq (p : Pair) : 0 ≤ (newestM p).seq := by
  unfold newestM
  by_cases h0 : whichM p = 0
  · rw [if_pos h0]; have := slotOk_seq (which_0 h0); omega
  · rw [if_neg h0]
    by_cases h1 : whichM p = 1
    · rw [if_pos h1]; have := slotOk_seq (which_1 h1); omega
    · rw [if_neg h1]; exact Int.le_refl _
theorem refs_save (n : Nat) (p : Pair) (ws : List Int) : V.refsL n [.agg (encPair p), .lst 1 (ws.map encI)] = true := by simp [V.refsL, V.refs, refs_pair, refsLL_map encI (fun _ => rfl) ws]
def saveRes (p : Pair) (ws : List Int) : V := .tup [.lst 1 ((saveList p ws).map encI), .int .i64 (saveSlot p ws), .bool (saveOk p ws)]
theorem save_no {p : Pair} {ws : List Int} {h : Heap} (hk : saveOk p ws = false) : ∃ ids : List Nat, ids.Nodup ∧ OwnsR h (saveRes p ws) (.tup [.nils, .int .i64 0, .bool false]) ids := by
  have e1 : saveList p ws = [] := by simp [saveList, hk]
  have e2 : saveSlot p ws = 0 := by simp [saveSlot, hk]
  unfold saveRes
  rw [e1, e2, hk]
  exact ⟨[] ++ [], by simp, OwnsR.tup.2 ⟨_, rfl, .o Owns.nils_ (.i (.b .e))⟩⟩
theorem save_no0 {p : Pair} {ws : List Int} {h : Heap} {l : Nat} (hk : saveOk p ws = false) (hl : h[l]? = some []) : ∃ ids : List Nat, ids.Nodup ∧ OwnsR h (saveRes p ws) (.tup [.own l 1 0 0 0, .int .i64 0, .bool false]) ids := by
  have e1 : saveList p ws = [] := by simp [saveList, hk]
  have e2 : saveSlot p ws = 0 := by simp [saveSlot, hk]
  unfold saveRes
  rw [e1, e2, hk]
  exact ⟨[l] ++ [], by simp, OwnsR.tup.2 ⟨_, rfl, .o (Owns.own_flat hl rfl rfl) (.i (.b .e))⟩⟩
theorem save_yes {p : Pair} {ws : List Int} {h : Heap} {l n : Nat} {b : Int} (hk : saveOk p ws = true) (hn : n = 9) (hb : b = bitI (decide (whichM p = 0))) (hl : h[l]? = some (([0] ++ ws ++ [sumOf ((newestM p).seq + 1) ws, (newestM p).seq + 1]).map encI)) : ∃ ids : List Nat, ids.Nodup ∧ OwnsR h (saveRes p ws) (.tup [.own l 1 0 n n, .int .i64 b, .bool true]) ids := by
  subst hn hb
  have h6 : ws.length = 6 := by simp [saveOk] at hk; exact hk.1
  have e1 : saveList p ws = [0] ++ ws ++ [sumOf ((newestM p).seq + 1) ws, (newestM p).seq + 1] := by simp [saveList, hk]
  have e2 : saveSlot p ws = bitI (decide (whichM p = 0)) := by simp [saveSlot, hk]
  unfold saveRes
  rw [e1, e2, hk]
  exact ⟨[l] ++ [], by simp, OwnsR.tup.2 ⟨_, rfl, .o (Owns.own_flat hl (by simp [h6]) (flat_encI _)) (.i (.b .e))⟩⟩
theorem saveWrites_c (p : Pair) (ws : List Int) (hp : PairIn p) (hw : ws.length ≤ 1048576) : F Try.prog 23 [.agg (encPair p), .lst 1 (ws.map encI)] (saveRes p ws) := by
  have hseq := newest_seq p
  refine C.by mixed (cfn_ok Try.func23 ok23) rfl ?_
  simp (disch := omega) only [s23, go_sem, Nat.reduceEqDiff, Nat.reduceAdd, Nat.reduceSub, Nat.reduceLeDiff, Nat.reduceLT, Nat.reduceMul, Nat.reduceBEq, Int.reduceEq, Int.reduceLT, Int.reduceLE, Int.reduceNeg, Int.reduceToNat, Int.reduceSub, Int.reduceAdd, reduceIte, encPair]
  refine F.go (newest_c p hp) (.same (refs_pair1 _ p)) fun r h1 ids x1 n1 g1 o1 => ?_
  obtain ⟨cs, rfl, p1⟩ := o1.aggB
  obtain ⟨va, rfl, oa⟩ := p1.slot
  obtain ⟨ov, on, oc⟩ := oa.vv
  have b0 := x1.get (i := 0) rfl
  have b0' := fun t => heap_app (h' := t) b0
  simp (disch := omega) only [go_sem, Nat.reduceEqDiff, Nat.reduceAdd, Nat.reduceSub, Nat.reduceLeDiff, Nat.reduceLT, Nat.reduceMul, Nat.reduceBEq, Int.reduceEq, Int.reduceLT, Int.reduceLE, Int.reduceNeg, Int.reduceToNat, Int.reduceSub, Int.reduceAdd, reduceIte, ov, on, oc, b0']
  refine condP_dec (fun h6 => ?_) (fun h6 => ?_)
  · simp (disch := omega) only [go_sem, Nat.reduceEqDiff, Nat.reduceAdd, Nat.reduceSub, Nat.reduceLeDiff, Nat.reduceLT, Nat.reduceMul, Nat.reduceBEq, Int.reduceEq, Int.reduceLT, Int.reduceLE, Int.reduceNeg, Int.reduceToNat, Int.reduceSub, Int.reduceAdd, reduceIte, ov, on, oc, b0']
    have h6' : ws.length = 6 := by omega
    refine condP_dec (fun hm => ?_) (fun hm => ?_)
    · simp (disch := omega) only [go_sem, Nat.reduceEqDiff, Nat.reduceAdd, Nat.reduceSub, Nat.reduceLeDiff, Nat.reduceLT, Nat.reduceMul, Nat.reduceBEq, Int.reduceEq, Int.reduceLT, Int.reduceLE, Int.reduceNeg, Int.reduceToNat, Int.reduceSub, Int.reduceAdd, reduceIte, ov, on, oc, b0']
      exact save_no (by simp [saveOk]; omega)
    · have hk : saveOk p ws = true := by simp [saveOk, h6']; omega
      have ha := appendH_n (sz := 1) (bytes := 8) (h := h1 ++ [[[.int .i64 (newestM p).seq, va, .int .i64 (newestM p).sum]], [[.int .i64 0]]]) (id := h1.length + 1) (n := 1) (m := 6) (b := [[.int .i64 0]]) (xs := ws.map encI) (x := .lst 1 (ws.map encI)) (at_app _ _ 1) rfl (by simp [elemsOf]) (by simpa using h6') (by omega)
      rw [set_app] at ha
      have hl7 : ([[V.int .i64 0]] ++ ws.map encI).length = 7 := by simp [h6']
      have ha2 := fun a b c => appendH_n (sz := 1) (bytes := 8) (h := h1 ++ [a, [[V.int .i64 0]] ++ ws.map encI, [[.int .i64 b], [.int .i64 c]]]) (id := h1.length + 1) (n := 7) (m := 2) (b := [[V.int .i64 0]] ++ ws.map encI) (xs := [[.int .i64 b], [.int .i64 c]]) (x := .own (h1.length + 2) 1 0 2 2) (at_app _ _ 1) hl7 (elemsOf_n (at_app _ _ 2) rfl) rfl (by omega)
      simp only [set_app, List.set_cons_succ, List.set_cons_zero, List.cons_append, List.nil_append] at ha ha2
      simp (disch := omega) only [go_sem, Nat.reduceEqDiff, Nat.reduceAdd, Nat.reduceSub, Nat.reduceLeDiff, Nat.reduceLT, Nat.reduceMul, Nat.reduceBEq, Int.reduceEq, Int.reduceLT, Int.reduceLE, Int.reduceNeg, Int.reduceToNat, Int.reduceSub, Int.reduceAdd, reduceIte, ov, on, oc, b0', ha, ha2]
      refine CP.go (sum_c _ ws (by omega)) rfl (refs_sum _ _ _) ?_
      simp (disch := omega) only [go_sem, Nat.reduceEqDiff, Nat.reduceAdd, Nat.reduceSub, Nat.reduceLeDiff, Nat.reduceLT, Nat.reduceMul, Nat.reduceBEq, Int.reduceEq, Int.reduceLT, Int.reduceLE, Int.reduceNeg, Int.reduceToNat, Int.reduceSub, Int.reduceAdd, reduceIte, ov, on, oc, b0', ha, ha2]
      refine CP.go (which_c p hp) rfl (refs_pair1 _ p) ?_
      simp (disch := omega) only [go_sem, Nat.reduceEqDiff, Nat.reduceAdd, Nat.reduceSub, Nat.reduceLeDiff, Nat.reduceLT, Nat.reduceMul, Nat.reduceBEq, Int.reduceEq, Int.reduceLT, Int.reduceLE, Int.reduceNeg, Int.reduceToNat, Int.reduceSub, Int.reduceAdd, reduceIte, ov, on, oc, b0', ha, ha2]
      refine CP.go (bit_c _) rfl rfl ?_
      simp (disch := omega) only [go_sem, Nat.reduceEqDiff, Nat.reduceAdd, Nat.reduceSub, Nat.reduceLeDiff, Nat.reduceLT, Nat.reduceMul, Nat.reduceBEq, Int.reduceEq, Int.reduceLT, Int.reduceLE, Int.reduceNeg, Int.reduceToNat, Int.reduceSub, Int.reduceAdd, reduceIte, ov, on, oc, b0', ha, ha2]
      exact save_yes hk rfl rfl (by rw [at_app]; simp [encI])
  · simp (disch := omega) only [go_sem, Nat.reduceEqDiff, Nat.reduceAdd, Nat.reduceSub, Nat.reduceLeDiff, Nat.reduceLT, Nat.reduceMul, Nat.reduceBEq, Int.reduceEq, Int.reduceLT, Int.reduceLE, Int.reduceNeg, Int.reduceToNat, Int.reduceSub, Int.reduceAdd, reduceIte, ov, on, oc, b0']
    exact save_no (by simp [saveOk]; omega)
theorem notNew {p : Pair} (h : isNewM p = false) : (newestM p).seq = 0 := by
  simp [isNewM] at h
  simp [newestM, h.1, h.2, emptySlot]
theorem saveWrites_s (p : Pair) (ws : List Int) (hp : PairIn p) (hw : ws.length ≤ 1048576) : F Try.prog 83 [.agg (encPair p), .lst 1 (ws.map encI)] (saveRes p ws) := by
  have hseq := newest_seq p
  refine C.by mixed (cfn_ok Try.func83 ok83) rfl ?_
  simp (disch := omega) only [s83, go_sem, Nat.reduceEqDiff, Nat.reduceAdd, Nat.reduceSub, Nat.reduceLeDiff, Nat.reduceLT, Nat.reduceMul, Nat.reduceBEq, Int.reduceEq, Int.reduceLT, Int.reduceLE, Int.reduceNeg, Int.reduceToNat, Int.reduceSub, Int.reduceAdd, reduceIte, encPair]
  refine F.go (newest_s p hp) (.same (refs_pair1 _ p)) fun r h1 ids x1 n1 g1 o1 => ?_
  obtain ⟨cs, rfl, p1⟩ := o1.aggB
  obtain ⟨va, rfl, oa⟩ := p1.slot
  obtain ⟨ov, on, oc⟩ := oa.vv
  have b0 := x1.get (i := 0) rfl
  have b0' := fun t => heap_app (h' := t) b0
  simp (disch := omega) only [go_sem, Nat.reduceEqDiff, Nat.reduceAdd, Nat.reduceSub, Nat.reduceLeDiff, Nat.reduceLT, Nat.reduceMul, Nat.reduceBEq, Int.reduceEq, Int.reduceLT, Int.reduceLE, Int.reduceNeg, Int.reduceToNat, Int.reduceSub, Int.reduceAdd, reduceIte, ov, on, oc, b0']
  refine condP_split (fun hi => ?_) (fun hi => ?_)
  case' refine_2 =>
    have hq := notNew hi
    have hno : (newestM p).seq < 1000000 := by omega
    have hqq : (1 : Int) = (newestM p).seq + 1 := by omega
    simp (disch := omega) only [go_sem, Nat.reduceEqDiff, Nat.reduceAdd, Nat.reduceSub, Nat.reduceLeDiff, Nat.reduceLT, Nat.reduceMul, Nat.reduceBEq, Int.reduceEq, Int.reduceLT, Int.reduceLE, Int.reduceNeg, Int.reduceToNat, Int.reduceSub, Int.reduceAdd, reduceIte, ov, on, oc, b0']
  case' refine_1 =>
    simp (disch := omega) only [go_sem, Nat.reduceEqDiff, Nat.reduceAdd, Nat.reduceSub, Nat.reduceLeDiff, Nat.reduceLT, Nat.reduceMul, Nat.reduceBEq, Int.reduceEq, Int.reduceLT, Int.reduceLE, Int.reduceNeg, Int.reduceToNat, Int.reduceSub, Int.reduceAdd, reduceIte, ov, on, oc, b0']
    refine condP_dec (fun hm => ?_) (fun hm => ?_)
    case' refine_1 =>
      simp (disch := omega) only [go_sem, Nat.reduceEqDiff, Nat.reduceAdd, Nat.reduceSub, Nat.reduceLeDiff, Nat.reduceLT, Nat.reduceMul, Nat.reduceBEq, Int.reduceEq, Int.reduceLT, Int.reduceLE, Int.reduceNeg, Int.reduceToNat, Int.reduceSub, Int.reduceAdd, reduceIte, ov, on, oc, b0']
      exact save_no0 (by simp [saveOk]; omega) (at_app _ _ 1)
    have hno : (newestM p).seq < 1000000 := by omega
    have hqq : (newestM p).seq + 1 = (newestM p).seq + 1 := rfl
    simp (disch := omega) only [go_sem, Nat.reduceEqDiff, Nat.reduceAdd, Nat.reduceSub, Nat.reduceLeDiff, Nat.reduceLT, Nat.reduceMul, Nat.reduceBEq, Int.reduceEq, Int.reduceLT, Int.reduceLE, Int.reduceNeg, Int.reduceToNat, Int.reduceSub, Int.reduceAdd, reduceIte, ov, on, oc, b0']
  all_goals
    refine condP_dec (fun h6 => ?_) (fun h6 => ?_)
    case' refine_2 =>
      simp (disch := omega) only [go_sem, Nat.reduceEqDiff, Nat.reduceAdd, Nat.reduceSub, Nat.reduceLeDiff, Nat.reduceLT, Nat.reduceMul, Nat.reduceBEq, Int.reduceEq, Int.reduceLT, Int.reduceLE, Int.reduceNeg, Int.reduceToNat, Int.reduceSub, Int.reduceAdd, reduceIte, ov, on, oc, b0']
      exact save_no0 (by simp [saveOk]; omega) (at_app _ _ 1)
    have h6' : ws.length = 6 := by omega
    have hk : saveOk p ws = true := by simp [saveOk, h6']; omega
    have ha := appendH_n (sz := 1) (bytes := 8) (h := h1 ++ [[[.int .i64 (newestM p).seq, va, .int .i64 (newestM p).sum]], [[.int .i64 0]]]) (id := h1.length + 1) (n := 1) (m := 6) (b := [[.int .i64 0]]) (xs := ws.map encI) (x := .lst 1 (ws.map encI)) (at_app _ _ 1) rfl (by simp [elemsOf]) (by simpa using h6') (by omega)
    have hl7 : ([[V.int .i64 0]] ++ ws.map encI).length = 7 := by simp [h6']
    have ha2 := fun a b c => appendH_n (sz := 1) (bytes := 8) (h := h1 ++ [a, [[V.int .i64 0]] ++ ws.map encI, [[.int .i64 b], [.int .i64 c]]]) (id := h1.length + 1) (n := 7) (m := 2) (b := [[V.int .i64 0]] ++ ws.map encI) (xs := [[.int .i64 b], [.int .i64 c]]) (x := .own (h1.length + 2) 1 0 2 2) (at_app _ _ 1) hl7 (elemsOf_n (at_app _ _ 2) rfl) rfl (by omega)
    simp only [set_app, List.set_cons_succ, List.set_cons_zero, List.cons_append, List.nil_append] at ha ha2
    simp (disch := omega) only [go_sem, Nat.reduceEqDiff, Nat.reduceAdd, Nat.reduceSub, Nat.reduceLeDiff, Nat.reduceLT, Nat.reduceMul, Nat.reduceBEq, Int.reduceEq, Int.reduceLT, Int.reduceLE, Int.reduceNeg, Int.reduceToNat, Int.reduceSub, Int.reduceAdd, reduceIte, ov, on, oc, b0', ha, ha2]
    refine CP.go (which_s p hp) rfl (refs_pair1 _ p) ?_
    simp (disch := omega) only [go_sem, Nat.reduceEqDiff, Nat.reduceAdd, Nat.reduceSub, Nat.reduceLeDiff, Nat.reduceLT, Nat.reduceMul, Nat.reduceBEq, Int.reduceEq, Int.reduceLT, Int.reduceLE, Int.reduceNeg, Int.reduceToNat, Int.reduceSub, Int.reduceAdd, reduceIte, ov, on, oc, b0', ha, ha2]
    refine condP_dec (fun h0 => ?_) (fun h0 => ?_) <;> simp (disch := omega) only [go_sem, Nat.reduceEqDiff, Nat.reduceAdd, Nat.reduceSub, Nat.reduceLeDiff, Nat.reduceLT, Nat.reduceMul, Nat.reduceBEq, Int.reduceEq, Int.reduceLT, Int.reduceLE, Int.reduceNeg, Int.reduceToNat, Int.reduceSub, Int.reduceAdd, reduceIte, ov, on, oc, b0', ha, ha2]
    all_goals
      refine CP.go (sum_s _ ws (by omega)) rfl (refs_sum _ _ _) ?_
      simp (disch := omega) only [go_sem, Nat.reduceEqDiff, Nat.reduceAdd, Nat.reduceSub, Nat.reduceLeDiff, Nat.reduceLT, Nat.reduceMul, Nat.reduceBEq, Int.reduceEq, Int.reduceLT, Int.reduceLE, Int.reduceNeg, Int.reduceToNat, Int.reduceSub, Int.reduceAdd, reduceIte, ov, on, oc, b0', ha, ha2]
      refine save_yes hk rfl (by simp [bitI, h0]) ?_
      rw [at_app]
      first | (simp [encI]; done) | (simp [encI, hq]; done)
end Go.Av
