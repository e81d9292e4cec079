/- Drawn codes and shots. No condition. -/
import Derived.Test.YtpjcclgpkicadaaJ6Jit
namespace Go.Av
open Go.Proofs Go.RowKit
set_option linter.unusedVariables false
set_option linter.unusedSimpArgs false
set_option maxRecDepth 100000
set_option maxHeartbeats 4000000
theorem flat_instr (xs : List Instr) : flat (xs.map encInstr) = true := flat_Instr xs
theorem code_d (h : Heap) (id : Nat) (L : List It) (S : Sep h (.c id :: L)) : C Try.prog 68 [.ptr id 1 0 0] h (fun r h' => ∃ (xs : List Instr), codeOk xs = true ∧ Sep h' (.v (.lst 3 (xs.map encInstr)) r :: .c id :: L)) := by
  refine C.by mixed (cfn_ok Try.func68 ok68) rfl ?_
  simp (disch := omega) only [s68, go_sem, Nat.reduceEqDiff, Nat.reduceAdd, Nat.reduceSub, Nat.reduceLeDiff, Nat.reduceLT, Nat.reduceMul, Nat.reduceBEq, Int.reduceEq, Int.reduceLT, Int.reduceLE, Int.reduceNeg, Int.reduceToNat, Int.reduceSub, Int.reduceAdd, reduceIte]
  refine ((S.newK []).pull 1).goDI (below_c _ _ _ (((S.newK []).pull 1).cur) (by omega)) fun z h1 z0 z1 S1 => ?_
  simp (disch := omega) only [go_sem, Nat.reduceEqDiff, Nat.reduceAdd, Nat.reduceSub, Nat.reduceLeDiff, Nat.reduceLT, Nat.reduceMul, Nat.reduceBEq, Int.reduceEq, Int.reduceLT, Int.reduceLE, Int.reduceNeg, Int.reduceToNat, Int.reduceSub, Int.reduceAdd, reduceIte]
  refine loopP_intro (fun m s => ∃ (k : Nat) (xs : List Instr) (l : Nat), (k : Int) ≤ 1 + z ∧ m = (1 + z).toNat - k ∧ s.e 0 = .ptr id 1 0 0 ∧ s.e 4 = .int .i64 (1 + z) ∧ s.e 5 = .int .i64 k ∧ s.e 3 = .own l 3 0 k k ∧ xs.length = k ∧ (∀ x ∈ xs, instrOk (1 + z).toNat x = true) ∧ Sep s.h (.c id :: .k l (xs.map encInstr) :: L)) (1 + z).toNat ⟨0, [], h.length, by omega, by omega, by simp (disch := omega) only [go_sem, Nat.reduceEqDiff, Nat.reduceAdd, Nat.reduceSub, Nat.reduceLeDiff, Nat.reduceLT, Nat.reduceMul, Nat.reduceBEq, Int.reduceEq, Int.reduceLT, Int.reduceLE, Int.reduceNeg, Int.reduceToNat, Int.reduceSub, Int.reduceAdd, reduceIte], by simp (disch := omega) only [go_sem, Nat.reduceEqDiff, Nat.reduceAdd, Nat.reduceSub, Nat.reduceLeDiff, Nat.reduceLT, Nat.reduceMul, Nat.reduceBEq, Int.reduceEq, Int.reduceLT, Int.reduceLE, Int.reduceNeg, Int.reduceToNat, Int.reduceSub, Int.reduceAdd, reduceIte], by simp (disch := omega) only [go_sem, Nat.reduceEqDiff, Nat.reduceAdd, Nat.reduceSub, Nat.reduceLeDiff, Nat.reduceLT, Nat.reduceMul, Nat.reduceBEq, Int.reduceEq, Int.reduceLT, Int.reduceLE, Int.reduceNeg, Int.reduceToNat, Int.reduceSub, Int.reduceAdd, reduceIte]; rfl, by simp (disch := omega) only [go_sem, Nat.reduceEqDiff, Nat.reduceAdd, Nat.reduceSub, Nat.reduceLeDiff, Nat.reduceLT, Nat.reduceMul, Nat.reduceBEq, Int.reduceEq, Int.reduceLT, Int.reduceLE, Int.reduceNeg, Int.reduceToNat, Int.reduceSub, Int.reduceAdd, reduceIte], rfl, by simp, S1⟩ ?_
  rintro m e hp ⟨k, xs, l, hk, rfl, e0, e4, e5, e3, hl, hall, S⟩
  simp only at e0 e4 e5 e3 S
  simp (disch := omega) only [go_sem, Nat.reduceEqDiff, Nat.reduceAdd, Nat.reduceSub, Nat.reduceLeDiff, Nat.reduceLT, Nat.reduceMul, Nat.reduceBEq, Int.reduceEq, Int.reduceLT, Int.reduceLE, Int.reduceNeg, Int.reduceToNat, Int.reduceSub, Int.reduceAdd, reduceIte, e0, e4, e5, e3]
  refine condP_dec (fun hlt => ?_) (fun hlt => ?_)
  · simp (disch := omega) only [go_sem, Nat.reduceEqDiff, Nat.reduceAdd, Nat.reduceSub, Nat.reduceLeDiff, Nat.reduceLT, Nat.reduceMul, Nat.reduceBEq, Int.reduceEq, Int.reduceLT, Int.reduceLE, Int.reduceNeg, Int.reduceToNat, Int.reduceSub, Int.reduceAdd, reduceIte, e0, e4, e5, e3]
    refine S.goDI (below_c _ _ _ S.cur (by omega)) fun op h2 op0 op1 S2 => ?_
    simp (disch := omega) only [go_sem, Nat.reduceEqDiff, Nat.reduceAdd, Nat.reduceSub, Nat.reduceLeDiff, Nat.reduceLT, Nat.reduceMul, Nat.reduceBEq, Int.reduceEq, Int.reduceLT, Int.reduceLE, Int.reduceNeg, Int.reduceToNat, Int.reduceSub, Int.reduceAdd, reduceIte, e0, e4, e5, e3]
    refine S2.goDI (below_c _ _ _ S2.cur (by omega)) fun a h3 a0 a1 S3 => ?_
    simp (disch := omega) only [go_sem, Nat.reduceEqDiff, Nat.reduceAdd, Nat.reduceSub, Nat.reduceLeDiff, Nat.reduceLT, Nat.reduceMul, Nat.reduceBEq, Int.reduceEq, Int.reduceLT, Int.reduceLE, Int.reduceNeg, Int.reduceToNat, Int.reduceSub, Int.reduceAdd, reduceIte, e0, e4, e5, e3]
    refine S3.goDI (below_c _ _ _ S3.cur (by omega)) fun b h4 b0 b1 S4 => ?_
    have S5 := S4.newK [[.int .i64 (1 + op), .int .i64 a, .int .i64 b]]
    simp (disch := omega) only [go_sem, Nat.reduceEqDiff, Nat.reduceAdd, Nat.reduceSub, Nat.reduceLeDiff, Nat.reduceLT, Nat.reduceMul, Nat.reduceBEq, Int.reduceEq, Int.reduceLT, Int.reduceLE, Int.reduceNeg, Int.reduceToNat, Int.reduceSub, Int.reduceAdd, reduceIte, e0, e4, e5, e3, storeH, storeB, splice]
    have fin : ∀ (hh : Heap) (x : Instr) (q : Nat), instrOk (1 + z).toNat x = true → Sep hh (.c id :: .k q [encInstr x] :: .k l (xs.map encInstr) :: L) → ∃ (xs' : List Instr), xs'.length = k + 1 ∧ (∀ y ∈ xs', instrOk (1 + z).toNat y = true) ∧ appendH (hh ++ [[encInstr x]]) 3 24 (.own l 3 0 k k) (.own hh.length 3 0 1 1) = some (.own l 3 0 (k + 1) (k + 1), (hh ++ [[encInstr x]]).set l (xs'.map encInstr)) ∧ Sep ((hh ++ [[encInstr x]]).set l (xs'.map encInstr)) (.c id :: .k l (xs'.map encInstr) :: L) := fun hh x q hx S => by
      refine ⟨xs ++ [x], by simp [hl], fun y hy => ?_, ?_, ?_⟩
      · rcases List.mem_append.1 hy with h1 | h1
        · exact hall y h1
        · simp at h1; subst h1; exact hx
      · rw [append1 (S.blk 2 rfl) (by simpa using hl) (by omega), List.map_append]; rfl
      · exact ((((S.app [[encInstr x]]).drop 1).pull 1).setK _).pull 1
    have nxt : ∀ (e' : Nat → V) (hh : Heap) (xs' : List Instr), xs'.length = k + 1 → (∀ y ∈ xs', instrOk (1 + z).toNat y = true) → e' 0 = .ptr id 1 0 0 → e' 4 = .int .i64 (1 + z) → e' 5 = .int .i64 ((k : Int) + 1) → e' 3 = .own l 3 0 (k + 1) (k + 1) → Sep hh (.c id :: .k l (xs'.map encInstr) :: L) → @nextP ((1 + z).toNat - k) ⟨e', hh⟩ ⟨fun m s => ∃ (k : Nat) (xs : List Instr) (l : Nat), (k : Int) ≤ 1 + z ∧ m = (1 + z).toNat - k ∧ s.e 0 = .ptr id 1 0 0 ∧ s.e 4 = .int .i64 (1 + z) ∧ s.e 5 = .int .i64 k ∧ s.e 3 = .own l 3 0 k k ∧ xs.length = k ∧ (∀ x ∈ xs, instrOk (1 + z).toNat x = true) ∧ Sep s.h (.c id :: .k l (xs.map encInstr) :: L)⟩ := fun e' hh xs' a1 a2 a3 a4 a5 a6 a7 =>
      nextP_intro ((1 + z).toNat - (k + 1)) (by omega) ⟨k + 1, xs', l, by omega, rfl, a3, a4, a5, a6, a1, a2, a7⟩
    refine condP_dec (fun h5 => ?_) (fun h5 => ?_)
    · simp (disch := omega) only [go_sem, Nat.reduceEqDiff, Nat.reduceAdd, Nat.reduceSub, Nat.reduceLeDiff, Nat.reduceLT, Nat.reduceMul, Nat.reduceBEq, Int.reduceEq, Int.reduceLT, Int.reduceLE, Int.reduceNeg, Int.reduceToNat, Int.reduceSub, Int.reduceAdd, reduceIte, e0, e4, e5, e3, storeH, storeB, splice]
      refine (S5.pull 1).goDI (below_c _ _ _ (S5.pull 1).cur (by omega)) fun b' h6 b0' b1' S6 => ?_
      have bx := S6.blk 1 rfl
      have S7 := ((S6.pull 1).setK [[.int .i64 (1 + op), .int .i64 a, .int .i64 b']]).pull 1
      have bx7 := S7.blk 1 rfl
      have hx : instrOk (1 + z).toNat ⟨1 + op, a, b'⟩ = true := by simp [instrOk, within, mostB, h5]; omega
      refine Exists.elim (fin _ ⟨1 + op, a, b'⟩ _ hx S7) fun xs' f => ?_
      have f3 := f.2.2.1
      simp only [encInstr] at f3
      simp (disch := omega) only [go_sem, Nat.reduceEqDiff, Nat.reduceAdd, Nat.reduceSub, Nat.reduceLeDiff, Nat.reduceLT, Nat.reduceMul, Nat.reduceBEq, Int.reduceEq, Int.reduceLT, Int.reduceLE, Int.reduceNeg, Int.reduceToNat, Int.reduceSub, Int.reduceAdd, reduceIte, e0, e4, e5, e3, storeH, storeB, splice, bx, bx7, f3]
      exact nxt _ _ xs' f.1 f.2.1 (by simp (disch := omega) only [go_sem, Nat.reduceEqDiff, Nat.reduceAdd, Nat.reduceSub, Nat.reduceLeDiff, Nat.reduceLT, Nat.reduceMul, Nat.reduceBEq, Int.reduceEq, Int.reduceLT, Int.reduceLE, Int.reduceNeg, Int.reduceToNat, Int.reduceSub, Int.reduceAdd, reduceIte, e0, e4, e5, e3, storeH, storeB, splice, bx, bx7, f3]) (by simp (disch := omega) only [go_sem, Nat.reduceEqDiff, Nat.reduceAdd, Nat.reduceSub, Nat.reduceLeDiff, Nat.reduceLT, Nat.reduceMul, Nat.reduceBEq, Int.reduceEq, Int.reduceLT, Int.reduceLE, Int.reduceNeg, Int.reduceToNat, Int.reduceSub, Int.reduceAdd, reduceIte, e0, e4, e5, e3, storeH, storeB, splice, bx, bx7, f3]) (by simp (disch := omega) only [go_sem, Nat.reduceEqDiff, Nat.reduceAdd, Nat.reduceSub, Nat.reduceLeDiff, Nat.reduceLT, Nat.reduceMul, Nat.reduceBEq, Int.reduceEq, Int.reduceLT, Int.reduceLE, Int.reduceNeg, Int.reduceToNat, Int.reduceSub, Int.reduceAdd, reduceIte, e0, e4, e5, e3, storeH, storeB, splice, bx, bx7, f3]) (by simp (disch := omega) only [go_sem, Nat.reduceEqDiff, Nat.reduceAdd, Nat.reduceSub, Nat.reduceLeDiff, Nat.reduceLT, Nat.reduceMul, Nat.reduceBEq, Int.reduceEq, Int.reduceLT, Int.reduceLE, Int.reduceNeg, Int.reduceToNat, Int.reduceSub, Int.reduceAdd, reduceIte, e0, e4, e5, e3, storeH, storeB, splice, bx, bx7, f3]) f.2.2.2
    · have hx : instrOk (1 + z).toNat ⟨1 + op, a, b⟩ = true := by
        simp only [instrOk, within, mostB, Bool.and_eq_true, decide_eq_true_eq]
        refine ⟨⟨by omega, by omega⟩, by omega, ?_⟩
        split <;> omega
      refine Exists.elim (fin _ ⟨1 + op, a, b⟩ _ hx (S5.pull 1)) fun xs' f => ?_
      have f3 := f.2.2.1
      have f4 := f.2.2.2
      simp only [encInstr, List.append_assoc, List.cons_append, List.nil_append, List.length_append, List.length_cons, List.length_nil, Nat.zero_add] at f3 f4
      simp (disch := omega) only [go_sem, Nat.reduceEqDiff, Nat.reduceAdd, Nat.reduceSub, Nat.reduceLeDiff, Nat.reduceLT, Nat.reduceMul, Nat.reduceBEq, Int.reduceEq, Int.reduceLT, Int.reduceLE, Int.reduceNeg, Int.reduceToNat, Int.reduceSub, Int.reduceAdd, reduceIte, e0, e4, e5, e3, storeH, storeB, splice, f3]
      exact nxt _ _ xs' f.1 f.2.1 (by simp (disch := omega) only [go_sem, Nat.reduceEqDiff, Nat.reduceAdd, Nat.reduceSub, Nat.reduceLeDiff, Nat.reduceLT, Nat.reduceMul, Nat.reduceBEq, Int.reduceEq, Int.reduceLT, Int.reduceLE, Int.reduceNeg, Int.reduceToNat, Int.reduceSub, Int.reduceAdd, reduceIte, e0, e4, e5, e3, storeH, storeB, splice, f3]) (by simp (disch := omega) only [go_sem, Nat.reduceEqDiff, Nat.reduceAdd, Nat.reduceSub, Nat.reduceLeDiff, Nat.reduceLT, Nat.reduceMul, Nat.reduceBEq, Int.reduceEq, Int.reduceLT, Int.reduceLE, Int.reduceNeg, Int.reduceToNat, Int.reduceSub, Int.reduceAdd, reduceIte, e0, e4, e5, e3, storeH, storeB, splice, f3]) (by simp (disch := omega) only [go_sem, Nat.reduceEqDiff, Nat.reduceAdd, Nat.reduceSub, Nat.reduceLeDiff, Nat.reduceLT, Nat.reduceMul, Nat.reduceBEq, Int.reduceEq, Int.reduceLT, Int.reduceLE, Int.reduceNeg, Int.reduceToNat, Int.reduceSub, Int.reduceAdd, reduceIte, e0, e4, e5, e3, storeH, storeB, splice, f3]) (by simp (disch := omega) only [go_sem, Nat.reduceEqDiff, Nat.reduceAdd, Nat.reduceSub, Nat.reduceLeDiff, Nat.reduceLT, Nat.reduceMul, Nat.reduceBEq, Int.reduceEq, Int.reduceLT, Int.reduceLE, Int.reduceNeg, Int.reduceToNat, Int.reduceSub, Int.reduceAdd, reduceIte, e0, e4, e5, e3, storeH, storeB, splice, f3]) f4
  · simp (disch := omega) only [go_sem, Nat.reduceEqDiff, Nat.reduceAdd, Nat.reduceSub, Nat.reduceLeDiff, Nat.reduceLT, Nat.reduceMul, Nat.reduceBEq, Int.reduceEq, Int.reduceLT, Int.reduceLE, Int.reduceNeg, Int.reduceToNat, Int.reduceSub, Int.reduceAdd, reduceIte, e0, e4, e5, e3]
    have hn : (k : Int) = 1 + z := by omega
    refine ⟨xs, ?_, (S.pull 1).ofFlat (by simpa using hl) (flat_Instr _)⟩
    have e : (1 + z).toNat = xs.length := by omega
    rw [e] at hall
    have : xs.all (instrOk xs.length) = true := List.all_eq_true.2 hall
    simp [codeOk, this, within]; omega
def shotIn (s : Shot) : Prop := (0 ≤ s.steps ∧ s.steps ≤ 11) ∧ (0 ≤ s.writes ∧ s.writes ≤ 9)
theorem shots_d (h : Heap) (id : Nat) (L : List It) (S : Sep h (.c id :: L)) : C Try.prog 69 [.ptr id 1 0 0] h (fun r h' => ∃ (ss : List Shot) (l : Nat), r = .own l 2 0 ss.length ss.length ∧ ss.length ≤ 7 ∧ (∀ s ∈ ss, shotIn s) ∧ Sep h' (.k l (ss.map encShot) :: .c id :: L)) := by
  refine C.by mixed (cfn_ok Try.func69 ok69) rfl ?_
  simp (disch := omega) only [s69, go_sem, Nat.reduceEqDiff, Nat.reduceAdd, Nat.reduceSub, Nat.reduceLeDiff, Nat.reduceLT, Nat.reduceMul, Nat.reduceBEq, Int.reduceEq, Int.reduceLT, Int.reduceLE, Int.reduceNeg, Int.reduceToNat, Int.reduceSub, Int.reduceAdd, reduceIte]
  refine loopP_intro (fun m s => ∃ (k : Nat) (ss : List Shot) (l : Nat), k ≤ 7 ∧ m = 8 - k ∧ s.e 0 = .ptr id 1 0 0 ∧ s.e 4 = .int .i64 k ∧ s.e 3 = .own l 2 0 k k ∧ ss.length = k ∧ (∀ s ∈ ss, shotIn s) ∧ Sep s.h (.c id :: .k l (ss.map encShot) :: L)) 8 ⟨0, [], h.length, by omega, by omega, by simp (disch := omega) only [go_sem, Nat.reduceEqDiff, Nat.reduceAdd, Nat.reduceSub, Nat.reduceLeDiff, Nat.reduceLT, Nat.reduceMul, Nat.reduceBEq, Int.reduceEq, Int.reduceLT, Int.reduceLE, Int.reduceNeg, Int.reduceToNat, Int.reduceSub, Int.reduceAdd, reduceIte], by simp (disch := omega) only [go_sem, Nat.reduceEqDiff, Nat.reduceAdd, Nat.reduceSub, Nat.reduceLeDiff, Nat.reduceLT, Nat.reduceMul, Nat.reduceBEq, Int.reduceEq, Int.reduceLT, Int.reduceLE, Int.reduceNeg, Int.reduceToNat, Int.reduceSub, Int.reduceAdd, reduceIte]; rfl, by simp (disch := omega) only [go_sem, Nat.reduceEqDiff, Nat.reduceAdd, Nat.reduceSub, Nat.reduceLeDiff, Nat.reduceLT, Nat.reduceMul, Nat.reduceBEq, Int.reduceEq, Int.reduceLT, Int.reduceLE, Int.reduceNeg, Int.reduceToNat, Int.reduceSub, Int.reduceAdd, reduceIte], rfl, by simp, (S.newK []).pull 1⟩ ?_
  rintro m e hp ⟨k, ss, l, hk, rfl, e0, e4, e3, hl, hall, S⟩
  simp only at e0 e4 e3 S
  simp (disch := omega) only [go_sem, Nat.reduceEqDiff, Nat.reduceAdd, Nat.reduceSub, Nat.reduceLeDiff, Nat.reduceLT, Nat.reduceMul, Nat.reduceBEq, Int.reduceEq, Int.reduceLT, Int.reduceLE, Int.reduceNeg, Int.reduceToNat, Int.reduceSub, Int.reduceAdd, reduceIte, e0, e4, e3]
  refine S.goDI (below_c _ _ _ S.cur (by omega)) fun z h1 z0 z1 S1 => ?_
  simp (disch := omega) only [go_sem, Nat.reduceEqDiff, Nat.reduceAdd, Nat.reduceSub, Nat.reduceLeDiff, Nat.reduceLT, Nat.reduceMul, Nat.reduceBEq, Int.reduceEq, Int.reduceLT, Int.reduceLE, Int.reduceNeg, Int.reduceToNat, Int.reduceSub, Int.reduceAdd, reduceIte, e0, e4, e3]
  refine condP_dec (fun hlt => ?_) (fun hlt => ?_)
  · simp (disch := omega) only [go_sem, Nat.reduceEqDiff, Nat.reduceAdd, Nat.reduceSub, Nat.reduceLeDiff, Nat.reduceLT, Nat.reduceMul, Nat.reduceBEq, Int.reduceEq, Int.reduceLT, Int.reduceLE, Int.reduceNeg, Int.reduceToNat, Int.reduceSub, Int.reduceAdd, reduceIte, e0, e4, e3]
    refine S1.goDI (below_c _ _ _ S1.cur (by omega)) fun st h2 st0 st1 S2 => ?_
    simp (disch := omega) only [go_sem, Nat.reduceEqDiff, Nat.reduceAdd, Nat.reduceSub, Nat.reduceLeDiff, Nat.reduceLT, Nat.reduceMul, Nat.reduceBEq, Int.reduceEq, Int.reduceLT, Int.reduceLE, Int.reduceNeg, Int.reduceToNat, Int.reduceSub, Int.reduceAdd, reduceIte, e0, e4, e3]
    refine S2.goDI (below_c _ _ _ S2.cur (by omega)) fun w h3 w0 w1 S3 => ?_
    simp (disch := omega) only [go_sem, Nat.reduceEqDiff, Nat.reduceAdd, Nat.reduceSub, Nat.reduceLeDiff, Nat.reduceLT, Nat.reduceMul, Nat.reduceBEq, Int.reduceEq, Int.reduceLT, Int.reduceLE, Int.reduceNeg, Int.reduceToNat, Int.reduceSub, Int.reduceAdd, reduceIte, e0, e4, e3]
    have S4 := (S3.newK ([9, 9, 9, 8, 0, w].map encI)).pull 1
    refine C.go (pick_c _ id h3.length [9, 9, 9, 8, 0, w] 6 S4.cur (S4.blk 1 rfl) (by have := S3.cur.lt; omega) rfl (by omega) (by omega)) ?_
    rintro r h5 ⟨wr, rfl, hm, c5, x5⟩
    have S5 := S4.curX c5 x5
    have hwr : 0 ≤ wr ∧ wr ≤ 9 := by
      simp at hm; omega
    have ha := append1 (sz := 2) (bytes := 16) (c := encShot ⟨st, wr⟩) (S5.blk 2 rfl) (by simpa using hl) (by omega : (k + 1) * 16 ≤ 140737488355328)
    simp only [encShot] at ha
    simp (disch := omega) only [go_sem, Nat.reduceEqDiff, Nat.reduceAdd, Nat.reduceSub, Nat.reduceLeDiff, Nat.reduceLT, Nat.reduceMul, Nat.reduceBEq, Int.reduceEq, Int.reduceLT, Int.reduceLE, Int.reduceNeg, Int.reduceToNat, Int.reduceSub, Int.reduceAdd, reduceIte, e0, e4, e3, ha, splice]
    refine nextP_intro (8 - (k + 1)) (by omega) ⟨k + 1, ss ++ [⟨st, wr⟩], l, by omega, rfl, by simp (disch := omega) only [go_sem, Nat.reduceEqDiff, Nat.reduceAdd, Nat.reduceSub, Nat.reduceLeDiff, Nat.reduceLT, Nat.reduceMul, Nat.reduceBEq, Int.reduceEq, Int.reduceLT, Int.reduceLE, Int.reduceNeg, Int.reduceToNat, Int.reduceSub, Int.reduceAdd, reduceIte, e0, e4, e3, ha, splice], by simp (disch := omega) only [go_sem, Nat.reduceEqDiff, Nat.reduceAdd, Nat.reduceSub, Nat.reduceLeDiff, Nat.reduceLT, Nat.reduceMul, Nat.reduceBEq, Int.reduceEq, Int.reduceLT, Int.reduceLE, Int.reduceNeg, Int.reduceToNat, Int.reduceSub, Int.reduceAdd, reduceIte, e0, e4, e3, ha, splice] <;> rfl, by simp (disch := omega) only [go_sem, Nat.reduceEqDiff, Nat.reduceAdd, Nat.reduceSub, Nat.reduceLeDiff, Nat.reduceLT, Nat.reduceMul, Nat.reduceBEq, Int.reduceEq, Int.reduceLT, Int.reduceLE, Int.reduceNeg, Int.reduceToNat, Int.reduceSub, Int.reduceAdd, reduceIte, e0, e4, e3, ha, splice], by simp [hl], fun s hs => ?_, ?_⟩
    · rcases List.mem_append.1 hs with h1 | h1
      · exact hall s h1
      · simp at h1; subst h1; exact ⟨by simp only; omega, hwr⟩
    · have := ((((S5.app [[encShot ⟨st, wr⟩]]).drop 1).pull 1).setK (ss.map encShot ++ [encShot ⟨st, wr⟩])).pull 1
      simp only [List.map_append, List.map_cons, List.map_nil]
      exact this
  · simp (disch := omega) only [go_sem, Nat.reduceEqDiff, Nat.reduceAdd, Nat.reduceSub, Nat.reduceLeDiff, Nat.reduceLT, Nat.reduceMul, Nat.reduceBEq, Int.reduceEq, Int.reduceLT, Int.reduceLE, Int.reduceNeg, Int.reduceToNat, Int.reduceSub, Int.reduceAdd, reduceIte, e0, e4, e3]
    subst hl
    exact ⟨ss, l, rfl, hk, hall, S1.pull 1⟩
theorem jit_d (bs : List Int) (h : Heap) (L : List It) (hb : bs.length ≤ 1048576) (S : Sep h L) : C Try.prog 25 [.lst 1 (bs.map encB)] h (fun r h' => ∃ (xs : List Instr) (ss : List Shot) (rc : V) (l : Nat), r = .tup [rc, .own l 2 0 ss.length ss.length] ∧ codeOk xs = true ∧ ss.length ≤ 7 ∧ (∀ s ∈ ss, shotIn s) ∧ Sep h' (.k l (ss.map encShot) :: .v (.lst 3 (xs.map encInstr)) rc :: L)) := by
  refine C.by mixed (cfn_ok Try.func25 ok25) rfl ?_
  simp (disch := omega) only [s25, go_sem, Nat.reduceEqDiff, Nat.reduceAdd, Nat.reduceSub, Nat.reduceLeDiff, Nat.reduceLT, Nat.reduceMul, Nat.reduceBEq, Int.reduceEq, Int.reduceLT, Int.reduceLE, Int.reduceNeg, Int.reduceToNat, Int.reduceSub, Int.reduceAdd, reduceIte]
  refine C.go (new_c bs h hb) ?_
  rintro r h1 ⟨rfl, X1, C1⟩
  have S1 := S.curNew X1 C1
  simp (disch := omega) only [go_sem, Nat.reduceEqDiff, Nat.reduceAdd, Nat.reduceSub, Nat.reduceLeDiff, Nat.reduceLT, Nat.reduceMul, Nat.reduceBEq, Int.reduceEq, Int.reduceLT, Int.reduceLE, Int.reduceNeg, Int.reduceToNat, Int.reduceSub, Int.reduceAdd, reduceIte]
  refine C.go (code_d h1 h.length L S1) ?_
  rintro r2 h2 ⟨xs, hk, S2⟩
  obtain ⟨ro, rn, rc⟩ := S2.vv 0 rfl
  simp (disch := omega) only [go_sem, Nat.reduceEqDiff, Nat.reduceAdd, Nat.reduceSub, Nat.reduceLeDiff, Nat.reduceLT, Nat.reduceMul, Nat.reduceBEq, Int.reduceEq, Int.reduceLT, Int.reduceLE, Int.reduceNeg, Int.reduceToNat, Int.reduceSub, Int.reduceAdd, reduceIte, ro, rn, rc]
  refine C.go (shots_d h2 h.length _ (S2.pull 1)) ?_
  rintro r3 h3 ⟨ss, l, rfl, h7, hall, S3⟩
  simp (disch := omega) only [go_sem, Nat.reduceEqDiff, Nat.reduceAdd, Nat.reduceSub, Nat.reduceLeDiff, Nat.reduceLT, Nat.reduceMul, Nat.reduceBEq, Int.reduceEq, Int.reduceLT, Int.reduceLE, Int.reduceNeg, Int.reduceToNat, Int.reduceSub, Int.reduceAdd, reduceIte, ro, rn, rc]
  exact ⟨xs, ss, r2, l, rfl, hk, h7, hall, S3.drop 1⟩
end Go.Av
