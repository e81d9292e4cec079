/- Starts of the machine, on both sides. No condition. -/
import Derived.Test.YtpjcclgpkicadaaJ6Run
import Derived.Test.YtpjcclgpkicadaaJ6SaveU
namespace Go.Av
open Go.Proofs Go.RowKit
set_option linter.unusedVariables false
set_option linter.unusedSimpArgs false
set_option maxRecDepth 100000
set_option maxHeartbeats 4000000
theorem Sep.ofSlot {h : Heap} {s : Slot} {cs : List V} {L : List It} (S : Sep h (.l (encSlot s) cs :: L)) : ∃ v, cs = [.int .i64 s.seq, v, .int .i64 s.sum] ∧ Sep h (.v (.lst 1 (s.words.map encI)) v :: L) := by
  obtain ⟨_, rfl, S1⟩ := sep_li.1 S
  obtain ⟨v, _, rfl, S2⟩ := sep_ll.1 S1
  obtain ⟨_, rfl, S3⟩ := sep_li.1 S2
  obtain ⟨rfl, S4⟩ := sep_l0.1 S3
  exact ⟨v, rfl, S4.rot⟩
theorem Sep.ofPair {h : Heap} {p : Pair} {cs : List V} {L : List It} (S : Sep h (.l (encPair p) cs :: L)) : ∃ va vb, cs = [.int .i64 p.a.seq, va, .int .i64 p.a.sum, .int .i64 p.b.seq, vb, .int .i64 p.b.sum] ∧ Sep h (.v (.lst 1 (p.a.words.map encI)) va :: .v (.lst 1 (p.b.words.map encI)) vb :: L) := by
  obtain ⟨_, rfl, S1⟩ := sep_li.1 S
  obtain ⟨va, _, rfl, S2⟩ := sep_ll.1 S1
  obtain ⟨_, rfl, S3⟩ := sep_li.1 S2
  obtain ⟨_, rfl, S4⟩ := sep_li.1 S3
  obtain ⟨vb, _, rfl, S5⟩ := sep_ll.1 S4
  obtain ⟨_, rfl, S6⟩ := sep_li.1 S5
  obtain ⟨rfl, S7⟩ := sep_l0.1 S6
  exact ⟨va, vb, rfl, S7.rot.perm ((List.Perm.cons _ List.perm_append_comm).trans (.swap _ _ _))⟩
theorem Sep.mkPair {h : Heap} {p : Pair} {va vb : V} {L : List It} (S : Sep h (.v (.lst 1 (p.a.words.map encI)) va :: .v (.lst 1 (p.b.words.map encI)) vb :: L)) : Sep h (.l (encPair p) [.int .i64 p.a.seq, va, .int .i64 p.a.sum, .int .i64 p.b.seq, vb, .int .i64 p.b.sum] :: L) := by
  refine sep_li.2 ⟨_, rfl, sep_ll.2 ⟨_, _, rfl, sep_li.2 ⟨_, rfl, sep_li.2 ⟨_, rfl, sep_ll.2 ⟨_, _, rfl, sep_li.2 ⟨_, rfl, sep_l0.2 ⟨rfl, ?_⟩⟩⟩⟩⟩⟩⟩
  refine S.perm (List.Perm.trans ?_ List.perm_append_comm)
  exact (List.Perm.swap _ _ _).trans (List.Perm.cons _ (List.perm_append_comm (l₁ := [_])))
theorem Sep.goSlotB {P : Program} {f : FuncId} {args args' : List V} {s : Slot} {b : Bool} {h : Heap} {L : List It} {K : V → Heap → Prop} (S : Sep h L) (hf : F P f args' (.tup [.agg (encSlot s), .bool b])) (hs : Snaps h args args')
    (hk : ∀ v h', Ext h h' → Sep h' (.v (.lst 1 (s.words.map encI)) v :: L) → V.one v = true → V.nohole v = v → V.cells v = [v] → K (.tup [.agg [.int .i64 s.seq, v, .int .i64 s.sum], .bool b]) h') : @callP P f args h ⟨K⟩ :=
  S.go hf hs fun r h' x S => by
    obtain ⟨_, rfl, S1⟩ := sep_tup.1 S
    obtain ⟨_, _, rfl, S2⟩ := sep_la.1 S1
    obtain ⟨v, rfl, S3⟩ := S2.ofSlot
    obtain ⟨_, rfl, S4⟩ := sep_lb.1 (S3.perm (.swap _ _ _))
    obtain ⟨rfl, S5⟩ := sep_l0.1 S4
    have z := S5.vv 0 rfl
    exact hk v h' x S5 z.1 z.2.1 z.2.2
theorem Sep.goPairB {P : Program} {f : FuncId} {args args' : List V} {p : Pair} {b : Bool} {h : Heap} {L : List It} {K : V → Heap → Prop} (S : Sep h L) (hf : F P f args' (.tup [.agg (encPair p), .bool b])) (hs : Snaps h args args')
    (hk : ∀ va vb h', Ext h h' → Sep h' (.v (.lst 1 (p.a.words.map encI)) va :: .v (.lst 1 (p.b.words.map encI)) vb :: L) → V.one va = true → V.nohole va = va → V.cells va = [va] → V.one vb = true → V.nohole vb = vb → V.cells vb = [vb] → K (.tup [.agg [.int .i64 p.a.seq, va, .int .i64 p.a.sum, .int .i64 p.b.seq, vb, .int .i64 p.b.sum], .bool b]) h') : @callP P f args h ⟨K⟩ :=
  S.go hf hs fun r h' x S => by
    obtain ⟨_, rfl, S1⟩ := sep_tup.1 S
    obtain ⟨_, _, rfl, S2⟩ := sep_la.1 S1
    obtain ⟨va, vb, rfl, S3⟩ := S2.ofPair
    obtain ⟨_, rfl, S4⟩ := sep_lb.1 (S3.pull 2)
    obtain ⟨rfl, S5⟩ := sep_l0.1 S4
    have z := S5.vv 0 rfl
    have z' := S5.vv 1 rfl
    exact hk va vb h' x S5 z.1 z.2.1 z.2.2 z'.1 z'.2.1 z'.2.2
theorem one_noHole {v : V} (h : V.one v = true) : V.noHole v = true := by cases v <;> first | rfl | cases h
theorem nw_c (p : Pair) (hp : PairIn p) : F Try.prog 75 [.agg (encPair p)] (.lst 1 ((wordsM p).map encI)) := by
  refine C.by mixed (cfn_ok Try.func75 ok75) rfl ?_
  simp (disch := omega) only [s75, go_sem, Nat.reduceEqDiff, Nat.reduceAdd, Nat.reduceSub, Nat.reduceLeDiff, Nat.reduceLT, Nat.reduceMul, Nat.reduceBEq, Int.reduceEq, Int.reduceLT, Int.reduceLE, Int.reduceNeg, Int.reduceToNat, Int.reduceSub, Int.reduceAdd, reduceIte, encPair]
  refine (Sep.nil _).goSlotB (newest_c p hp) (.same (refs_pair1 _ p)) fun v h1 x1 S ao an ac => ?_
  simp (disch := omega) only [go_sem, Nat.reduceEqDiff, Nat.reduceAdd, Nat.reduceSub, Nat.reduceLeDiff, Nat.reduceLT, Nat.reduceMul, Nat.reduceBEq, Int.reduceEq, Int.reduceLT, Int.reduceLE, Int.reduceNeg, Int.reduceToNat, Int.reduceSub, Int.reduceAdd, reduceIte, ao, an, ac, storeH, storeB, splice]
  refine condP_split (fun hi => ?_) (fun hi => ?_)
  · simp (disch := omega) only [go_sem, Nat.reduceEqDiff, Nat.reduceAdd, Nat.reduceSub, Nat.reduceLeDiff, Nat.reduceLT, Nat.reduceMul, Nat.reduceBEq, Int.reduceEq, Int.reduceLT, Int.reduceLE, Int.reduceNeg, Int.reduceToNat, Int.reduceSub, Int.reduceAdd, reduceIte, ao, an, ac, storeH, storeB, splice]
    have e : wordsM p = (newestM p).words := by rw [wordsM, if_pos hi]
    rw [e]
    exact (S.app _).ret
  · simp (disch := omega) only [go_sem, Nat.reduceEqDiff, Nat.reduceAdd, Nat.reduceSub, Nat.reduceLeDiff, Nat.reduceLT, Nat.reduceMul, Nat.reduceBEq, Int.reduceEq, Int.reduceLT, Int.reduceLE, Int.reduceNeg, Int.reduceToNat, Int.reduceSub, Int.reduceAdd, reduceIte, ao, an, ac, storeH, storeB, splice]
    have e : wordsM p = zero6 := by rw [wordsM, if_neg (by simp [hi])]
    rw [e]
    exact ⟨[h1.length + 1], by simp, Owns.own_flat (at_app _ _ 1) rfl (flat_encI _)⟩
theorem nw_s (p : Pair) (hp : PairIn p) : F Try.prog 102 [.agg (encPair p)] (.lst 1 ((wordsM p).map encI)) := by
  refine C.by mixed (cfn_ok Try.func102 ok102) rfl ?_
  simp (disch := omega) only [s102, go_sem, Nat.reduceEqDiff, Nat.reduceAdd, Nat.reduceSub, Nat.reduceLeDiff, Nat.reduceLT, Nat.reduceMul, Nat.reduceBEq, Int.reduceEq, Int.reduceLT, Int.reduceLE, Int.reduceNeg, Int.reduceToNat, Int.reduceSub, Int.reduceAdd, reduceIte, encPair]
  refine (Sep.nil _).goSlotB (newest_s p hp) (.same (refs_pair1 _ p)) fun v h1 x1 S ao an ac => ?_
  simp (disch := omega) only [go_sem, Nat.reduceEqDiff, Nat.reduceAdd, Nat.reduceSub, Nat.reduceLeDiff, Nat.reduceLT, Nat.reduceMul, Nat.reduceBEq, Int.reduceEq, Int.reduceLT, Int.reduceLE, Int.reduceNeg, Int.reduceToNat, Int.reduceSub, Int.reduceAdd, reduceIte, ao, an, ac, storeH, storeB, splice]
  refine condP_split (fun hi => ?_) (fun hi => ?_)
  · simp (disch := omega) only [go_sem, Nat.reduceEqDiff, Nat.reduceAdd, Nat.reduceSub, Nat.reduceLeDiff, Nat.reduceLT, Nat.reduceMul, Nat.reduceBEq, Int.reduceEq, Int.reduceLT, Int.reduceLE, Int.reduceNeg, Int.reduceToNat, Int.reduceSub, Int.reduceAdd, reduceIte, ao, an, ac, storeH, storeB, splice]
    have e : wordsM p = (newestM p).words := by rw [wordsM, if_pos hi]
    rw [e]
    exact (S.app _).ret
  · simp (disch := omega) only [go_sem, Nat.reduceEqDiff, Nat.reduceAdd, Nat.reduceSub, Nat.reduceLeDiff, Nat.reduceLT, Nat.reduceMul, Nat.reduceBEq, Int.reduceEq, Int.reduceLT, Int.reduceLE, Int.reduceNeg, Int.reduceToNat, Int.reduceSub, Int.reduceAdd, reduceIte, ao, an, ac, storeH, storeB, splice]
    have e : wordsM p = zero6 := by rw [wordsM, if_neg (by simp [hi])]
    rw [e]
    exact ⟨[h1.length + 1], by simp, Owns.own_flat (at_app _ _ 1) rfl (flat_encI _)⟩
theorem stepsOf_c (xs : List Instr) (st : List Int) (n : Int) (v : V) (h : Heap) (L : List It) (hk : codeOk xs = true) (hs : st.length ≤ 1048576) (hn : 0 ≤ n ∧ n ≤ 1000000) (S : Sep h (.v (.lst 1 (st.map encI)) v :: L)) :
    C Try.prog 74 [.lst 3 (xs.map encInstr), v, .int .i64 n] h (fun r h' => Ext h h' ∧ Sep h' (.v (.lst 1 ((runS xs n.toNat st).map encI)) r :: L)) := by
  have hcx := code_facts hk
  obtain ⟨ro, rn, rc⟩ := S.vv 0 rfl
  refine C.by mixed (cfn_ok Try.func74 ok74) (by show (true && (V.noHole v && (true && true))) = true; rw [one_noHole ro]; rfl) ?_
  simp (disch := omega) only [s74, go_sem, Nat.reduceEqDiff, Nat.reduceAdd, Nat.reduceSub, Nat.reduceLeDiff, Nat.reduceLT, Nat.reduceMul, Nat.reduceBEq, Int.reduceEq, Int.reduceLT, Int.reduceLE, Int.reduceNeg, Int.reduceToNat, Int.reduceSub, Int.reduceAdd, reduceIte, ro, rn, rc]
  refine loopP_intro (fun m s => ∃ (k : Nat) (cur : List Int) (r : V), k ≤ n.toNat ∧ m = n.toNat - k ∧ cur.length = st.length ∧ s.e 0 = .lst 3 (xs.map encInstr) ∧ s.e 9 = .int .i64 n ∧ s.e 10 = .int .i64 k ∧ s.e 1 = r ∧ Ext h s.h ∧ Sep s.h (.v (.lst 1 (cur.map encI)) r :: L) ∧ runS xs (n.toNat - k) cur = runS xs n.toNat st) n.toNat ⟨0, st, v, by omega, by omega, rfl, by simp (disch := omega) only [go_sem, Nat.reduceEqDiff, Nat.reduceAdd, Nat.reduceSub, Nat.reduceLeDiff, Nat.reduceLT, Nat.reduceMul, Nat.reduceBEq, Int.reduceEq, Int.reduceLT, Int.reduceLE, Int.reduceNeg, Int.reduceToNat, Int.reduceSub, Int.reduceAdd, reduceIte, ro, rn, rc], by simp (disch := omega) only [go_sem, Nat.reduceEqDiff, Nat.reduceAdd, Nat.reduceSub, Nat.reduceLeDiff, Nat.reduceLT, Nat.reduceMul, Nat.reduceBEq, Int.reduceEq, Int.reduceLT, Int.reduceLE, Int.reduceNeg, Int.reduceToNat, Int.reduceSub, Int.reduceAdd, reduceIte, ro, rn, rc], by simp (disch := omega) only [go_sem, Nat.reduceEqDiff, Nat.reduceAdd, Nat.reduceSub, Nat.reduceLeDiff, Nat.reduceLT, Nat.reduceMul, Nat.reduceBEq, Int.reduceEq, Int.reduceLT, Int.reduceLE, Int.reduceNeg, Int.reduceToNat, Int.reduceSub, Int.reduceAdd, reduceIte, ro, rn, rc]; rfl, by simp (disch := omega) only [go_sem, Nat.reduceEqDiff, Nat.reduceAdd, Nat.reduceSub, Nat.reduceLeDiff, Nat.reduceLT, Nat.reduceMul, Nat.reduceBEq, Int.reduceEq, Int.reduceLT, Int.reduceLE, Int.reduceNeg, Int.reduceToNat, Int.reduceSub, Int.reduceAdd, reduceIte, ro, rn, rc], .refl _, S, rfl⟩ ?_
  rintro m e hp ⟨k, cur, r, hk', rfl, hcl, e0, e9, e10, e1, X, S, hrun⟩
  simp only at e0 e9 e10 e1 S X
  obtain ⟨ro, rn, rc⟩ := S.vv 0 rfl
  simp (disch := omega) only [go_sem, Nat.reduceEqDiff, Nat.reduceAdd, Nat.reduceSub, Nat.reduceLeDiff, Nat.reduceLT, Nat.reduceMul, Nat.reduceBEq, Int.reduceEq, Int.reduceLT, Int.reduceLE, Int.reduceNeg, Int.reduceToNat, Int.reduceSub, Int.reduceAdd, reduceIte, e0, e9, e10, e1, ro, rn, rc]
  refine condP_dec (fun hlt => ?_) (fun hlt => ?_)
  · have hlt' : n.toNat - k = (n.toNat - (k + 1)) + 1 := by omega
    rw [hlt', runS] at hrun
    simp (disch := omega) only [go_sem, Nat.reduceEqDiff, Nat.reduceAdd, Nat.reduceSub, Nat.reduceLeDiff, Nat.reduceLT, Nat.reduceMul, Nat.reduceBEq, Int.reduceEq, Int.reduceLT, Int.reduceLE, Int.reduceNeg, Int.reduceToNat, Int.reduceSub, Int.reduceAdd, reduceIte, e0, e9, e10, e1, ro, rn, rc]
    refine S.goLstB (step_c xs cur (by omega) (by omega)) (.cons (.same _ (refs_code _ _)) (.cons (S.snap 0 rfl) (.nil _))) fun w h' x S' wo wn wc => ?_
    simp (disch := omega) only [go_sem, Nat.reduceEqDiff, Nat.reduceAdd, Nat.reduceSub, Nat.reduceLeDiff, Nat.reduceLT, Nat.reduceMul, Nat.reduceBEq, Int.reduceEq, Int.reduceLT, Int.reduceLE, Int.reduceNeg, Int.reduceToNat, Int.reduceSub, Int.reduceAdd, reduceIte, e0, e9, e10, e1, wo, wn, wc, ro, rn, rc]
    have hgo : goOn xs cur = canRun xs.length cur := by simp [goOn, hk]
    rw [hgo] at S'
    refine condP_split (fun hc => ?_) (fun hc => ?_)
    · rw [hgo] at hc
      rw [if_pos hc] at hrun S'
      simp (disch := omega) only [go_sem, Nat.reduceEqDiff, Nat.reduceAdd, Nat.reduceSub, Nat.reduceLeDiff, Nat.reduceLT, Nat.reduceMul, Nat.reduceBEq, Int.reduceEq, Int.reduceLT, Int.reduceLE, Int.reduceNeg, Int.reduceToNat, Int.reduceSub, Int.reduceAdd, reduceIte, e0, e9, e10, e1, wo, wn, wc, ro, rn, rc]
      refine nextP_intro (n.toNat - (k + 1)) (by omega) ⟨k + 1, _, w, by omega, rfl, by rw [step_len, hcl], ?_, ?_, ?_, ?_, X.trans x, S'.drop 1, hrun⟩
      · simp (disch := omega) only [go_sem, Nat.reduceEqDiff, Nat.reduceAdd, Nat.reduceSub, Nat.reduceLeDiff, Nat.reduceLT, Nat.reduceMul, Nat.reduceBEq, Int.reduceEq, Int.reduceLT, Int.reduceLE, Int.reduceNeg, Int.reduceToNat, Int.reduceSub, Int.reduceAdd, reduceIte, e0, e9, e10, e1, wo, wn, wc, ro, rn, rc]
      · simp (disch := omega) only [go_sem, Nat.reduceEqDiff, Nat.reduceAdd, Nat.reduceSub, Nat.reduceLeDiff, Nat.reduceLT, Nat.reduceMul, Nat.reduceBEq, Int.reduceEq, Int.reduceLT, Int.reduceLE, Int.reduceNeg, Int.reduceToNat, Int.reduceSub, Int.reduceAdd, reduceIte, e0, e9, e10, e1, wo, wn, wc, ro, rn, rc]
      · simp (disch := omega) only [go_sem, Nat.reduceEqDiff, Nat.reduceAdd, Nat.reduceSub, Nat.reduceLeDiff, Nat.reduceLT, Nat.reduceMul, Nat.reduceBEq, Int.reduceEq, Int.reduceLT, Int.reduceLE, Int.reduceNeg, Int.reduceToNat, Int.reduceSub, Int.reduceAdd, reduceIte, e0, e9, e10, e1, wo, wn, wc, ro, rn, rc]; rfl
      · simp (disch := omega) only [go_sem, Nat.reduceEqDiff, Nat.reduceAdd, Nat.reduceSub, Nat.reduceLeDiff, Nat.reduceLT, Nat.reduceMul, Nat.reduceBEq, Int.reduceEq, Int.reduceLT, Int.reduceLE, Int.reduceNeg, Int.reduceToNat, Int.reduceSub, Int.reduceAdd, reduceIte, e0, e9, e10, e1, wo, wn, wc, ro, rn, rc]
    · rw [hgo] at hc
      rw [if_neg (by simp [hc])] at hrun
      simp (disch := omega) only [go_sem, Nat.reduceEqDiff, Nat.reduceAdd, Nat.reduceSub, Nat.reduceLeDiff, Nat.reduceLT, Nat.reduceMul, Nat.reduceBEq, Int.reduceEq, Int.reduceLT, Int.reduceLE, Int.reduceNeg, Int.reduceToNat, Int.reduceSub, Int.reduceAdd, reduceIte, e0, e9, e10, e1, wo, wn, wc, ro, rn, rc]
      rw [← hrun]
      exact ⟨X.trans x, S'.drop1⟩
  · simp (disch := omega) only [go_sem, Nat.reduceEqDiff, Nat.reduceAdd, Nat.reduceSub, Nat.reduceLeDiff, Nat.reduceLT, Nat.reduceMul, Nat.reduceBEq, Int.reduceEq, Int.reduceLT, Int.reduceLE, Int.reduceNeg, Int.reduceToNat, Int.reduceSub, Int.reduceAdd, reduceIte, e0, e9, e10, e1, ro, rn, rc]
    have : n.toNat - k = 0 := by omega
    rw [this, runS] at hrun
    rw [← hrun]
    exact ⟨X, S⟩
end Go.Av
