/- JitRun and StateAfter, on both sides. No condition. -/
import Derived.Test.YtpjcclgpkicadaaJ6TyJit
namespace Go.Av
open Go.Proofs Go.RowKit
set_option linter.unusedVariables false
set_option linter.unusedSimpArgs false
set_option maxRecDepth 100000
set_option maxHeartbeats 4000000
def afterOk (xs : List Instr) (n : Int) : Bool := codeOk xs && within n 0 2000
def afterM (xs : List Instr) (n : Int) : List Int := if afterOk xs n = true then runS xs n.toNat zero6 else []
theorem after_c (xs : List Instr) (n : Int) (hx : xs.length ≤ 1048576) : F Try.prog 27 [.lst 3 (xs.map encInstr), .int .i64 n] (.tup [.lst 1 ((afterM xs n).map encI), .bool (afterOk xs n)]) := by
  have hno : afterOk xs n = false → ∃ ids : List Nat, ids.Nodup ∧ OwnsR [] (.tup [.lst 1 ((afterM xs n).map encI), .bool (afterOk xs n)]) (.tup [.nils, .bool false]) ids := fun h => by
    have e : afterM xs n = [] := by simp [afterM, h]
    rw [e, h]
    exact ⟨[] ++ [], by simp, OwnsR.tup.2 ⟨_, rfl, .o Owns.nils_ (.b .e)⟩⟩
  refine C.by mixed (cfn_ok Try.func27 ok27) rfl ?_
  simp (disch := omega) only [s27, go_sem, Nat.reduceEqDiff, Nat.reduceAdd, Nat.reduceSub, Nat.reduceLeDiff, Nat.reduceLT, Nat.reduceMul, Nat.reduceBEq, Int.reduceEq, Int.reduceLT, Int.reduceLE, Int.reduceNeg, Int.reduceToNat, Int.reduceSub, Int.reduceAdd, reduceIte]
  refine CP.go (codeOk_c xs (by omega)) rfl (refs_code1 _ _) ?_
  simp (disch := omega) only [go_sem, Nat.reduceEqDiff, Nat.reduceAdd, Nat.reduceSub, Nat.reduceLeDiff, Nat.reduceLT, Nat.reduceMul, Nat.reduceBEq, Int.reduceEq, Int.reduceLT, Int.reduceLE, Int.reduceNeg, Int.reduceToNat, Int.reduceSub, Int.reduceAdd, reduceIte]
  refine condP_split (fun hk => ?_) (fun hk => ?_)
  case' refine_2 =>
    simp (disch := omega) only [go_sem, Nat.reduceEqDiff, Nat.reduceAdd, Nat.reduceSub, Nat.reduceLeDiff, Nat.reduceLT, Nat.reduceMul, Nat.reduceBEq, Int.reduceEq, Int.reduceLT, Int.reduceLE, Int.reduceNeg, Int.reduceToNat, Int.reduceSub, Int.reduceAdd, reduceIte, hk]
    exact hno (by simp [afterOk, hk])
  simp (disch := omega) only [go_sem, Nat.reduceEqDiff, Nat.reduceAdd, Nat.reduceSub, Nat.reduceLeDiff, Nat.reduceLT, Nat.reduceMul, Nat.reduceBEq, Int.reduceEq, Int.reduceLT, Int.reduceLE, Int.reduceNeg, Int.reduceToNat, Int.reduceSub, Int.reduceAdd, reduceIte, hk, within_dec]
  refine CP.go (within_c _ _ _) rfl rfl ?_
  simp (disch := omega) only [go_sem, Nat.reduceEqDiff, Nat.reduceAdd, Nat.reduceSub, Nat.reduceLeDiff, Nat.reduceLT, Nat.reduceMul, Nat.reduceBEq, Int.reduceEq, Int.reduceLT, Int.reduceLE, Int.reduceNeg, Int.reduceToNat, Int.reduceSub, Int.reduceAdd, reduceIte, hk, within_dec]
  refine condP_dec (fun hn => ?_) (fun hn => ?_)
  case' refine_2 =>
    simp (disch := omega) only [go_sem, Nat.reduceEqDiff, Nat.reduceAdd, Nat.reduceSub, Nat.reduceLeDiff, Nat.reduceLT, Nat.reduceMul, Nat.reduceBEq, Int.reduceEq, Int.reduceLT, Int.reduceLE, Int.reduceNeg, Int.reduceToNat, Int.reduceSub, Int.reduceAdd, reduceIte, hk, within_dec]
    exact hno (by simp [afterOk, within]; omega)
  simp (disch := omega) only [go_sem, Nat.reduceEqDiff, Nat.reduceAdd, Nat.reduceSub, Nat.reduceLeDiff, Nat.reduceLT, Nat.reduceMul, Nat.reduceBEq, Int.reduceEq, Int.reduceLT, Int.reduceLE, Int.reduceNeg, Int.reduceToNat, Int.reduceSub, Int.reduceAdd, reduceIte, hk, within_dec]
  refine C.go (stepsOf_c xs zero6 n _ _ [] hk (by simp [zero6]) (by omega) (((Sep.nil []).newK (zero6.map encI)).ofFlat (sz := 1) (n := 6) rfl rfl)) ?_
  rintro r h' ⟨X, S⟩
  obtain ⟨ro, rn, rc⟩ := S.vv 0 rfl
  simp (disch := omega) only [go_sem, Nat.reduceEqDiff, Nat.reduceAdd, Nat.reduceSub, Nat.reduceLeDiff, Nat.reduceLT, Nat.reduceMul, Nat.reduceBEq, Int.reduceEq, Int.reduceLT, Int.reduceLE, Int.reduceNeg, Int.reduceToNat, Int.reduceSub, Int.reduceAdd, reduceIte, ro, rn, rc]
  have e1 : afterOk xs n = true := by simp [afterOk, hk, within]; omega
  have e : afterM xs n = runS xs n.toNat zero6 := by simp [afterM, e1]
  rw [e, e1]
  exact (S.l0.lb.perm (.swap _ _ _)).cons2 (fun es => V.noConfusion) |>.t.ret
def jitM (xs : List Instr) (ss : List Shot) : Pair := if jitOk xs ss = true then jitP xs ss else pair0
def jitW (xs : List Instr) (ss : List Shot) : List Int := if jitOk xs ss = true then wordsM (jitP xs ss) else []
def jitR (xs : List Instr) (ss : List Shot) : V := .tup [.agg (encPair (jitM xs ss)), .lst 1 ((jitW xs ss).map encI), .bool (jitOk xs ss)]
theorem jit_no {xs : List Instr} {ss : List Shot} {h : Heap} {v : V} {L : List It} (hk : jitOk xs ss = false) (S : Sep h (.v (.lst 1 []) v :: L)) : ∃ ids : List Nat, ids.Nodup ∧ OwnsR h (jitR xs ss) (.tup [.agg [.int .i64 0, .nils, .int .i64 0, .int .i64 0, .nils, .int .i64 0], v, .bool false]) ids := by
  have e1 : jitM xs ss = pair0 := by simp [jitM, hk]
  have e2 : jitW xs ss = [] := by simp [jitW, hk]
  unfold jitR
  rw [e1, e2, hk]
  have S1 : Sep h (.l [.lst 1 [], .bool false] [v, .bool false] :: L) := (S.l0.lb.perm (.swap _ _ _)).cons2 (fun es => V.noConfusion)
  have S2 := (Sep.mkPair (p := pair0) S1.nils.nils)
  exact (S2.a.cons2 (fun es => V.noConfusion)).t.ret
theorem jit_yes {xs : List Instr} {ss : List Shot} {h : Heap} {v va vb : V} {L : List It} {p : Pair} (hk : jitOk xs ss = true) (hp : jitP xs ss = p) (S : Sep h (.v (.lst 1 ((wordsM p).map encI)) v :: .l (encPair p) [.int .i64 p.a.seq, va, .int .i64 p.a.sum, .int .i64 p.b.seq, vb, .int .i64 p.b.sum] :: L)) :
    ∃ ids : List Nat, ids.Nodup ∧ OwnsR h (jitR xs ss) (.tup [.agg [.int .i64 p.a.seq, va, .int .i64 p.a.sum, .int .i64 p.b.seq, vb, .int .i64 p.b.sum], v, .bool true]) ids := by
  subst hp
  have e1 : jitM xs ss = jitP xs ss := by simp [jitM, hk]
  have e2 : jitW xs ss = wordsM (jitP xs ss) := by simp [jitW, hk]
  unfold jitR
  rw [e1, e2, hk]
  have S1 : Sep h (.l [.lst 1 ((wordsM (jitP xs ss)).map encI), .bool true] [v, .bool true] :: .l (encPair (jitP xs ss)) _ :: L) := (S.l0.lb.perm (.swap _ _ _)).cons2 (fun es => V.noConfusion)
  exact ((S1.perm (.swap _ _ _)).a.cons2 (fun es => V.noConfusion)).t.ret
theorem jit_take {xs : List Instr} {ss : List Shot} {k : Nat} (h : k < ss.length) : jitP xs (ss.take (k + 1)) = shotM xs (jitP xs (ss.take k)) ss[k] := by
  unfold jitP
  rw [List.take_succ_eq_append_getElem h, List.foldl_append]; rfl
theorem shot_facts {s : Shot} (h : shotOk s = true) : (0 ≤ s.steps ∧ s.steps ≤ 40) ∧ (0 ≤ s.writes ∧ s.writes ≤ 9) := by
  simp only [shotOk, within, Bool.and_eq_true, decide_eq_true_eq] at h
  exact h
theorem words_in {p : Pair} (hp : PairIn p) : (wordsM p).length ≤ 1048576 := by
  unfold wordsM; split
  · unfold newestM; split
    · exact hp.a
    · split
      · exact hp.b
      · exact Nat.zero_le _
  · simp [zero6]
theorem pair0_in : PairIn pair0 := ⟨Nat.zero_le _, Nat.zero_le _⟩
theorem shot_in {xs : List Instr} {p : Pair} {s : Shot} (hp : PairIn p) : PairIn (shotM xs p s) := saved_in hp _ _
theorem refs_shotsF (g : Nat) (ss : List Shot) : V.refsL 0 [.lst 2 (ss.map encShot), .fn g []] = true := by simp only [V.refsL, refs_shots]; rfl
theorem jit_c (xs : List Instr) (ss : List Shot) (hx : xs.length ≤ 1048576) (hs : ss.length ≤ 1048576) : F Try.prog 26 [.lst 3 (xs.map encInstr), .lst 2 (ss.map encShot)] (jitR xs ss) := by
  have zz : ∀ h : Heap, storeH (h ++ [[[.int .i64 0, .nils, .int .i64 0, .int .i64 0, .nils, .int .i64 0]]]) 6 (.ptr h.length 1 0 0) (.agg [.int .i64 0, .nils, .int .i64 0, .int .i64 0, .nils, .int .i64 0]) = some (h ++ [[[.int .i64 0, .nils, .int .i64 0, .int .i64 0, .nils, .int .i64 0]]]) := fun h => storeBox rfl rfl
  have z0 := zz []
  have z1 := zz [[[.int .i64 0, .nils, .int .i64 0, .int .i64 0, .nils, .int .i64 0]]]
  simp only [List.nil_append, List.cons_append, List.length_cons, List.length_nil, Nat.zero_add] at z0 z1
  refine C.by mixed (cfn_ok Try.func26 ok26) rfl ?_
  simp (disch := omega) only [s26, go_sem, Nat.reduceEqDiff, Nat.reduceAdd, Nat.reduceSub, Nat.reduceLeDiff, Nat.reduceLT, Nat.reduceMul, Nat.reduceBEq, Int.reduceEq, Int.reduceLT, Int.reduceLE, Int.reduceNeg, Int.reduceToNat, Int.reduceSub, Int.reduceAdd, reduceIte]
  refine CP.go (codeOk_c xs (by omega)) rfl (refs_code1 _ _) ?_
  simp (disch := omega) only [go_sem, Nat.reduceEqDiff, Nat.reduceAdd, Nat.reduceSub, Nat.reduceLeDiff, Nat.reduceLT, Nat.reduceMul, Nat.reduceBEq, Int.reduceEq, Int.reduceLT, Int.reduceLE, Int.reduceNeg, Int.reduceToNat, Int.reduceSub, Int.reduceAdd, reduceIte]
  refine condP_split (fun hk => ?_) (fun hk => ?_)
  case' refine_2 =>
    simp (disch := omega) only [go_sem, Nat.reduceEqDiff, Nat.reduceAdd, Nat.reduceSub, Nat.reduceLeDiff, Nat.reduceLT, Nat.reduceMul, Nat.reduceBEq, Int.reduceEq, Int.reduceLT, Int.reduceLE, Int.reduceNeg, Int.reduceToNat, Int.reduceSub, Int.reduceAdd, reduceIte, hk, z0]
    exact jit_no (by simp [jitOk, hk]) ((Sep.nil _).nils)
  simp (disch := omega) only [go_sem, Nat.reduceEqDiff, Nat.reduceAdd, Nat.reduceSub, Nat.reduceLeDiff, Nat.reduceLT, Nat.reduceMul, Nat.reduceBEq, Int.reduceEq, Int.reduceLT, Int.reduceLE, Int.reduceNeg, Int.reduceToNat, Int.reduceSub, Int.reduceAdd, reduceIte, hk]
  refine condP_dec (fun hl => ?_) (fun hl => ?_)
  case' refine_1 =>
    simp (disch := omega) only [go_sem, Nat.reduceEqDiff, Nat.reduceAdd, Nat.reduceSub, Nat.reduceLeDiff, Nat.reduceLT, Nat.reduceMul, Nat.reduceBEq, Int.reduceEq, Int.reduceLT, Int.reduceLE, Int.reduceNeg, Int.reduceToNat, Int.reduceSub, Int.reduceAdd, reduceIte, hk, z0]
    exact jit_no (by simp [jitOk]; omega) ((Sep.nil _).nils)
  simp (disch := omega) only [go_sem, Nat.reduceEqDiff, Nat.reduceAdd, Nat.reduceSub, Nat.reduceLeDiff, Nat.reduceLT, Nat.reduceMul, Nat.reduceBEq, Int.reduceEq, Int.reduceLT, Int.reduceLE, Int.reduceNeg, Int.reduceToNat, Int.reduceSub, Int.reduceAdd, reduceIte, hk]
  refine CP.go (containsShot_c 72 (fun s => !shotOk s) ss (fun s _ => badShot_c s) (by omega) (refs_shotsF _ _)) rfl (refs_shotsF _ _) ?_
  simp (disch := omega) only [go_sem, Nat.reduceEqDiff, Nat.reduceAdd, Nat.reduceSub, Nat.reduceLeDiff, Nat.reduceLT, Nat.reduceMul, Nat.reduceBEq, Int.reduceEq, Int.reduceLT, Int.reduceLE, Int.reduceNeg, Int.reduceToNat, Int.reduceSub, Int.reduceAdd, reduceIte, hk]
  refine condP_split (fun hb => ?_) (fun hb => ?_)
  case' refine_1 =>
    simp (disch := omega) only [go_sem, Nat.reduceEqDiff, Nat.reduceAdd, Nat.reduceSub, Nat.reduceLeDiff, Nat.reduceLT, Nat.reduceMul, Nat.reduceBEq, Int.reduceEq, Int.reduceLT, Int.reduceLE, Int.reduceNeg, Int.reduceToNat, Int.reduceSub, Int.reduceAdd, reduceIte, hk, hb, z0]
    exact jit_no (by simp only [jitOk, List.all_eq_not_any_not, hb]; simp) ((Sep.nil _).nils)
  have hall : ss.all shotOk = true := by rw [List.all_eq_not_any_not, hb]; rfl
  have hjk : jitOk xs ss = true := by simp only [jitOk, hk, hall]; simp; omega
  simp (disch := omega) only [go_sem, Nat.reduceEqDiff, Nat.reduceAdd, Nat.reduceSub, Nat.reduceLeDiff, Nat.reduceLT, Nat.reduceMul, Nat.reduceBEq, Int.reduceEq, Int.reduceLT, Int.reduceLE, Int.reduceNeg, Int.reduceToNat, Int.reduceSub, Int.reduceAdd, reduceIte, hk, hb, z1]
  refine loopP_intro (fun m s => ∃ (k : Nat) (p : Pair) (va vb : V), k ≤ ss.length ∧ m = ss.length - k ∧ PairIn p ∧ jitP xs (ss.take k) = p ∧ (V.one va = true ∧ V.nohole va = va ∧ V.cells va = [va]) ∧ (V.one vb = true ∧ V.nohole vb = vb ∧ V.cells vb = [vb]) ∧ s.e 0 = .lst 3 (xs.map encInstr) ∧ s.e 4 = .ptr 0 1 0 0 ∧ s.e 7 = .ptr 1 1 0 0 ∧ s.e 24 = .lst 2 (ss.map encShot) ∧ s.e 25 = .int .i64 ss.length ∧ s.e 26 = .int .i64 k ∧
    Sep s.h [.b 1 (encPair p) [.int .i64 p.a.seq, va, .int .i64 p.a.sum, .int .i64 p.b.seq, vb, .int .i64 p.b.sum], .k 0 [[.int .i64 0, .nils, .int .i64 0, .int .i64 0, .nils, .int .i64 0]]]) ss.length ⟨0, pair0, .nils, .nils, by omega, by omega, pair0_in, rfl, ⟨rfl, rfl, rfl⟩, ⟨rfl, rfl, rfl⟩, by simp (disch := omega) only [go_sem, Nat.reduceEqDiff, Nat.reduceAdd, Nat.reduceSub, Nat.reduceLeDiff, Nat.reduceLT, Nat.reduceMul, Nat.reduceBEq, Int.reduceEq, Int.reduceLT, Int.reduceLE, Int.reduceNeg, Int.reduceToNat, Int.reduceSub, Int.reduceAdd, reduceIte, hk, hb, z1], by simp (disch := omega) only [go_sem, Nat.reduceEqDiff, Nat.reduceAdd, Nat.reduceSub, Nat.reduceLeDiff, Nat.reduceLT, Nat.reduceMul, Nat.reduceBEq, Int.reduceEq, Int.reduceLT, Int.reduceLE, Int.reduceNeg, Int.reduceToNat, Int.reduceSub, Int.reduceAdd, reduceIte, hk, hb, z1], by simp (disch := omega) only [go_sem, Nat.reduceEqDiff, Nat.reduceAdd, Nat.reduceSub, Nat.reduceLeDiff, Nat.reduceLT, Nat.reduceMul, Nat.reduceBEq, Int.reduceEq, Int.reduceLT, Int.reduceLE, Int.reduceNeg, Int.reduceToNat, Int.reduceSub, Int.reduceAdd, reduceIte, hk, hb, z1], by simp (disch := omega) only [go_sem, Nat.reduceEqDiff, Nat.reduceAdd, Nat.reduceSub, Nat.reduceLeDiff, Nat.reduceLT, Nat.reduceMul, Nat.reduceBEq, Int.reduceEq, Int.reduceLT, Int.reduceLE, Int.reduceNeg, Int.reduceToNat, Int.reduceSub, Int.reduceAdd, reduceIte, hk, hb, z1], by simp (disch := omega) only [go_sem, Nat.reduceEqDiff, Nat.reduceAdd, Nat.reduceSub, Nat.reduceLeDiff, Nat.reduceLT, Nat.reduceMul, Nat.reduceBEq, Int.reduceEq, Int.reduceLT, Int.reduceLE, Int.reduceNeg, Int.reduceToNat, Int.reduceSub, Int.reduceAdd, reduceIte, hk, hb, z1], by simp (disch := omega) only [go_sem, Nat.reduceEqDiff, Nat.reduceAdd, Nat.reduceSub, Nat.reduceLeDiff, Nat.reduceLT, Nat.reduceMul, Nat.reduceBEq, Int.reduceEq, Int.reduceLT, Int.reduceLE, Int.reduceNeg, Int.reduceToNat, Int.reduceSub, Int.reduceAdd, reduceIte, hk, hb, z1]; rfl, ?_⟩ ?_
  · exact (Sep.mkPair (p := pair0) (((Sep.nil []).newK [[.int .i64 0, .nils, .int .i64 0, .int .i64 0, .nils, .int .i64 0]]).nils.nils)).toBox
  rintro m e hp ⟨k, p, va, vb, hk', rfl, hpi, hpk, ⟨vao, van, vac⟩, ⟨vbo, vbn, vbc⟩, e0, e4, e7, e24, e25, e26, S⟩
  simp only at e0 e4 e7 e24 e25 e26 S
  have hb0 := S.box 0 rfl
  simp (disch := omega) only [go_sem, Nat.reduceEqDiff, Nat.reduceAdd, Nat.reduceSub, Nat.reduceLeDiff, Nat.reduceLT, Nat.reduceMul, Nat.reduceBEq, Int.reduceEq, Int.reduceLT, Int.reduceLE, Int.reduceNeg, Int.reduceToNat, Int.reduceSub, Int.reduceAdd, reduceIte, e0, e4, e7, e24, e25, e26, encShot]
  refine condP_dec (fun hlt => ?_) (fun hlt => ?_)
  · have hlt' : k < ss.length := by omega
    have hsk := shot_facts (List.all_eq_true.1 hall _ (List.getElem_mem hlt'))
    have S1 := S.newK [[.int .i64 ss[k].steps, .int .i64 ss[k].writes]]
    have hb1 := S1.box 1 rfl
    have zs : storeH (hp ++ [[[V.int .i64 0, .int .i64 0]]]) 2 (.ptr hp.length 1 0 0) (.agg [.int .i64 ss[k].steps, .int .i64 ss[k].writes]) = some (hp ++ [[[.int .i64 ss[k].steps, .int .i64 ss[k].writes]]]) := storeBox rfl rfl
    simp (disch := omega) only [go_sem, Nat.reduceEqDiff, Nat.reduceAdd, Nat.reduceSub, Nat.reduceLeDiff, Nat.reduceLT, Nat.reduceMul, Nat.reduceBEq, Int.reduceEq, Int.reduceLT, Int.reduceLE, Int.reduceNeg, Int.reduceToNat, Int.reduceSub, Int.reduceAdd, reduceIte, e0, e4, e7, e24, e25, e26, encShot, hb1, zs]
    refine S1.goLst (nw_c p hpi) (.cons (.ofSnaps (S1.boxSnaps 1 rfl)) (.nil _)) fun r h2 X2 S2 ro rn rc => ?_
    have hb2 := S2.box 2 rfl
    have hs2 := S2.blk 1 rfl
    simp (disch := omega) only [go_sem, Nat.reduceEqDiff, Nat.reduceAdd, Nat.reduceSub, Nat.reduceLeDiff, Nat.reduceLT, Nat.reduceMul, Nat.reduceBEq, Int.reduceEq, Int.reduceLT, Int.reduceLE, Int.reduceNeg, Int.reduceToNat, Int.reduceSub, Int.reduceAdd, reduceIte, e0, e4, e7, e24, e25, e26, hb2, hs2, ro, rn, rc]
    refine C.go (stepsOf_c xs (wordsM p) ss[k].steps r h2 _ hk (words_in hpi) (by omega) S2) ?_
    rintro r3 h3 ⟨X3, S3⟩
    obtain ⟨ro3, rn3, rc3⟩ := S3.vv 0 rfl
    have hb3 := S3.box 2 rfl
    have hs3 := S3.blk 1 rfl
    simp (disch := omega) only [go_sem, Nat.reduceEqDiff, Nat.reduceAdd, Nat.reduceSub, Nat.reduceLeDiff, Nat.reduceLT, Nat.reduceMul, Nat.reduceBEq, Int.reduceEq, Int.reduceLT, Int.reduceLE, Int.reduceNeg, Int.reduceToNat, Int.reduceSub, Int.reduceAdd, reduceIte, e0, e4, e7, e24, e25, e26, hb3, hs3, ro3, rn3, rc3]
    refine S3.goPairB (saveSome_f p (runS xs ss[k].steps.toNat (wordsM p)) ss[k].writes hpi (by rw [runS_len]; exact words_in hpi)) (.cons (.ofSnaps (S3.boxSnaps 2 rfl)) (.cons (S3.snap 0 rfl) (.cons (.int _ _) (.nil _)))) fun ua ub h4 X4 S4 ao an ac bo bn bc => ?_
    have hb4 := S4.box 4 rfl
    have S5 := (Sep.mkPair (p := savedP p (runS xs ss[k].steps.toNat (wordsM p)) ss[k].writes) S4).pick [3, 0, 4] (by decide)
    have S6 := Sep.reBox S5
    have st := storeBoxAt (sz := 6) (x := .agg [.int .i64 (savedP p (runS xs ss[k].steps.toNat (wordsM p)) ss[k].writes).a.seq, ua, .int .i64 (savedP p (runS xs ss[k].steps.toNat (wordsM p)) ss[k].writes).a.sum, .int .i64 (savedP p (runS xs ss[k].steps.toNat (wordsM p)) ss[k].writes).b.seq, ub, .int .i64 (savedP p (runS xs ss[k].steps.toNat (wordsM p)) ss[k].writes).b.sum]) hb4 rfl (by simp only [cells_agg, fit_cons, fit_nil, one_int, ao, bo]; rfl)
    simp only [cells_agg] at st
    simp (disch := omega) only [go_sem, Nat.reduceEqDiff, Nat.reduceAdd, Nat.reduceSub, Nat.reduceLeDiff, Nat.reduceLT, Nat.reduceMul, Nat.reduceBEq, Int.reduceEq, Int.reduceLT, Int.reduceLE, Int.reduceNeg, Int.reduceToNat, Int.reduceSub, Int.reduceAdd, reduceIte, e0, e4, e7, e24, e25, e26, hb4, st, ao, an, ac, bo, bn, bc]
    refine nextP_intro (ss.length - (k + 1)) (by omega) ⟨k + 1, shotM xs p ss[k], ua, ub, by omega, rfl, shot_in hpi, by rw [jit_take hlt', hpk], ⟨ao, an, ac⟩, ⟨bo, bn, bc⟩, ?_, ?_, ?_, ?_, ?_, ?_, S6⟩
    · simp (disch := omega) only [go_sem, Nat.reduceEqDiff, Nat.reduceAdd, Nat.reduceSub, Nat.reduceLeDiff, Nat.reduceLT, Nat.reduceMul, Nat.reduceBEq, Int.reduceEq, Int.reduceLT, Int.reduceLE, Int.reduceNeg, Int.reduceToNat, Int.reduceSub, Int.reduceAdd, reduceIte, e0, e4, e7, e24, e25, e26, hb4, st, ao, an, ac, bo, bn, bc]
    · simp (disch := omega) only [go_sem, Nat.reduceEqDiff, Nat.reduceAdd, Nat.reduceSub, Nat.reduceLeDiff, Nat.reduceLT, Nat.reduceMul, Nat.reduceBEq, Int.reduceEq, Int.reduceLT, Int.reduceLE, Int.reduceNeg, Int.reduceToNat, Int.reduceSub, Int.reduceAdd, reduceIte, e0, e4, e7, e24, e25, e26, hb4, st, ao, an, ac, bo, bn, bc]
    · simp (disch := omega) only [go_sem, Nat.reduceEqDiff, Nat.reduceAdd, Nat.reduceSub, Nat.reduceLeDiff, Nat.reduceLT, Nat.reduceMul, Nat.reduceBEq, Int.reduceEq, Int.reduceLT, Int.reduceLE, Int.reduceNeg, Int.reduceToNat, Int.reduceSub, Int.reduceAdd, reduceIte, e0, e4, e7, e24, e25, e26, hb4, st, ao, an, ac, bo, bn, bc]
    · simp (disch := omega) only [go_sem, Nat.reduceEqDiff, Nat.reduceAdd, Nat.reduceSub, Nat.reduceLeDiff, Nat.reduceLT, Nat.reduceMul, Nat.reduceBEq, Int.reduceEq, Int.reduceLT, Int.reduceLE, Int.reduceNeg, Int.reduceToNat, Int.reduceSub, Int.reduceAdd, reduceIte, e0, e4, e7, e24, e25, e26, hb4, st, ao, an, ac, bo, bn, bc]
    · simp (disch := omega) only [go_sem, Nat.reduceEqDiff, Nat.reduceAdd, Nat.reduceSub, Nat.reduceLeDiff, Nat.reduceLT, Nat.reduceMul, Nat.reduceBEq, Int.reduceEq, Int.reduceLT, Int.reduceLE, Int.reduceNeg, Int.reduceToNat, Int.reduceSub, Int.reduceAdd, reduceIte, e0, e4, e7, e24, e25, e26, hb4, st, ao, an, ac, bo, bn, bc]
    · simp (disch := omega) only [go_sem, Nat.reduceEqDiff, Nat.reduceAdd, Nat.reduceSub, Nat.reduceLeDiff, Nat.reduceLT, Nat.reduceMul, Nat.reduceBEq, Int.reduceEq, Int.reduceLT, Int.reduceLE, Int.reduceNeg, Int.reduceToNat, Int.reduceSub, Int.reduceAdd, reduceIte, e0, e4, e7, e24, e25, e26, hb4, st, ao, an, ac, bo, bn, bc]; rfl
  · have : k = ss.length := by omega
    subst this
    rw [List.take_length] at hpk
    simp (disch := omega) only [go_sem, Nat.reduceEqDiff, Nat.reduceAdd, Nat.reduceSub, Nat.reduceLeDiff, Nat.reduceLT, Nat.reduceMul, Nat.reduceBEq, Int.reduceEq, Int.reduceLT, Int.reduceLE, Int.reduceNeg, Int.reduceToNat, Int.reduceSub, Int.reduceAdd, reduceIte, e0, e4, e7, e24, e25, e26, hb0]
    refine S.goLst (nw_c p hpi) (.cons (.ofSnaps (S.boxSnaps 0 rfl)) (.nil _)) fun r h2 X2 S2 ro rn rc => ?_
    have h0 := S2.blk 2 rfl
    have hb2 := S2.box 1 rfl
    have st := storeBoxAt (sz := 6) (x := .agg [.int .i64 p.a.seq, va, .int .i64 p.a.sum, .int .i64 p.b.seq, vb, .int .i64 p.b.sum]) h0 rfl (by simp only [cells_agg, fit_cons, fit_nil, one_int, vao, vbo]; rfl)
    simp only [cells_agg] at st
    have S3 := (S2.pull 2).setK [[.int .i64 p.a.seq, va, .int .i64 p.a.sum, .int .i64 p.b.seq, vb, .int .i64 p.b.sum]]
    have h3 := S3.blk 0 rfl
    simp (disch := omega) only [go_sem, Nat.reduceEqDiff, Nat.reduceAdd, Nat.reduceSub, Nat.reduceLeDiff, Nat.reduceLT, Nat.reduceMul, Nat.reduceBEq, Int.reduceEq, Int.reduceLT, Int.reduceLE, Int.reduceNeg, Int.reduceToNat, Int.reduceSub, Int.reduceAdd, reduceIte, e0, e4, e7, e24, e25, e26, hb2, st, h3, ro, rn, rc]
    exact jit_yes hjk hpk ((sep_box.1 (S3.pull 2)).pick [3, 1] (by decide))
theorem jitOk_s (xs : List Instr) (ss : List Shot) (hx : xs.length ≤ 1048576) (hs : ss.length ≤ 1048576) : CP Try.prog 100 [.lst 3 (xs.map encInstr), .lst 2 (ss.map encShot)] (.bool (jitOk xs ss)) [] := by
  refine CP.by rfl mixed (cfn_ok Try.func100 ok100) rfl ?_
  simp (disch := omega) only [s100, go_sem, Nat.reduceEqDiff, Nat.reduceAdd, Nat.reduceSub, Nat.reduceLeDiff, Nat.reduceLT, Nat.reduceMul, Nat.reduceBEq, Int.reduceEq, Int.reduceLT, Int.reduceLE, Int.reduceNeg, Int.reduceToNat, Int.reduceSub, Int.reduceAdd, reduceIte]
  refine loopP_intro (fun m s => ∃ k : Nat, k ≤ ss.length ∧ m = ss.length - k ∧ s.e 0 = .lst 3 (xs.map encInstr) ∧ s.e 1 = .lst 2 (ss.map encShot) ∧ s.e 5 = .int .i64 k ∧ ∀ j (hj : j < ss.length), j < k → shotOk ss[j] = true) ss.length ⟨0, by omega, by omega, rfl, rfl, rfl, fun j _ h => absurd h (by omega)⟩ ?_
  rintro m e hp ⟨k, hk, rfl, e0, e1, e5, hall⟩
  simp only at e0 e1 e5
  simp (disch := omega) only [go_sem, Nat.reduceEqDiff, Nat.reduceAdd, Nat.reduceSub, Nat.reduceLeDiff, Nat.reduceLT, Nat.reduceMul, Nat.reduceBEq, Int.reduceEq, Int.reduceLT, Int.reduceLE, Int.reduceNeg, Int.reduceToNat, Int.reduceSub, Int.reduceAdd, reduceIte, e0, e1, e5, encShot]
  refine condP_dec (fun hlt => ?_) (fun hlt => ?_)
  · have hlt' : k < ss.length := by omega
    simp (disch := omega) only [go_sem, Nat.reduceEqDiff, Nat.reduceAdd, Nat.reduceSub, Nat.reduceLeDiff, Nat.reduceLT, Nat.reduceMul, Nat.reduceBEq, Int.reduceEq, Int.reduceLT, Int.reduceLE, Int.reduceNeg, Int.reduceToNat, Int.reduceSub, Int.reduceAdd, reduceIte, e0, e1, e5, encShot]
    repeat' (first | (refine CP.go (l01In_c _ _ _) rfl rfl ?_ <;> (try simp (disch := omega) only [go_sem, Nat.reduceEqDiff, Nat.reduceAdd, Nat.reduceSub, Nat.reduceLeDiff, Nat.reduceLT, Nat.reduceMul, Nat.reduceBEq, Int.reduceEq, Int.reduceLT, Int.reduceLE, Int.reduceNeg, Int.reduceToNat, Int.reduceSub, Int.reduceAdd, reduceIte, e0, e1, e5, encShot])) | (refine condP_t (by assumption) ?_ <;> (try simp (disch := omega) only [go_sem, Nat.reduceEqDiff, Nat.reduceAdd, Nat.reduceSub, Nat.reduceLeDiff, Nat.reduceLT, Nat.reduceMul, Nat.reduceBEq, Int.reduceEq, Int.reduceLT, Int.reduceLE, Int.reduceNeg, Int.reduceToNat, Int.reduceSub, Int.reduceAdd, reduceIte, e0, e1, e5, encShot])) | (refine condP_f (by assumption) ?_ <;> (try simp (disch := omega) only [go_sem, Nat.reduceEqDiff, Nat.reduceAdd, Nat.reduceSub, Nat.reduceLeDiff, Nat.reduceLT, Nat.reduceMul, Nat.reduceBEq, Int.reduceEq, Int.reduceLT, Int.reduceLE, Int.reduceNeg, Int.reduceToNat, Int.reduceSub, Int.reduceAdd, reduceIte, e0, e1, e5, encShot])) | (refine condP_dec (fun h => ?_) (fun h => ?_) <;> (try simp (disch := omega) only [go_sem, Nat.reduceEqDiff, Nat.reduceAdd, Nat.reduceSub, Nat.reduceLeDiff, Nat.reduceLT, Nat.reduceMul, Nat.reduceBEq, Int.reduceEq, Int.reduceLT, Int.reduceLE, Int.reduceNeg, Int.reduceToNat, Int.reduceSub, Int.reduceAdd, reduceIte, e0, e1, e5, encShot])) | (refine condP_split (fun h => ?_) (fun h => ?_) <;> (try simp (disch := omega) only [go_sem, Nat.reduceEqDiff, Nat.reduceAdd, Nat.reduceSub, Nat.reduceLeDiff, Nat.reduceLT, Nat.reduceMul, Nat.reduceBEq, Int.reduceEq, Int.reduceLT, Int.reduceLE, Int.reduceNeg, Int.reduceToNat, Int.reduceSub, Int.reduceAdd, reduceIte, e0, e1, e5, encShot])))
    all_goals first
      | (refine nextP_intro (ss.length - (k + 1)) (by omega) ⟨k + 1, by omega, rfl, ?_, ?_, ?_, fun j hj hjk => ?_⟩
         · simp (disch := omega) only [go_sem, Nat.reduceEqDiff, Nat.reduceAdd, Nat.reduceSub, Nat.reduceLeDiff, Nat.reduceLT, Nat.reduceMul, Nat.reduceBEq, Int.reduceEq, Int.reduceLT, Int.reduceLE, Int.reduceNeg, Int.reduceToNat, Int.reduceSub, Int.reduceAdd, reduceIte, e0, e1, e5, encShot]
         · simp (disch := omega) only [go_sem, Nat.reduceEqDiff, Nat.reduceAdd, Nat.reduceSub, Nat.reduceLeDiff, Nat.reduceLT, Nat.reduceMul, Nat.reduceBEq, Int.reduceEq, Int.reduceLT, Int.reduceLE, Int.reduceNeg, Int.reduceToNat, Int.reduceSub, Int.reduceAdd, reduceIte, e0, e1, e5, encShot]
         · simp (disch := omega) only [go_sem, Nat.reduceEqDiff, Nat.reduceAdd, Nat.reduceSub, Nat.reduceLeDiff, Nat.reduceLT, Nat.reduceMul, Nat.reduceBEq, Int.reduceEq, Int.reduceLT, Int.reduceLE, Int.reduceNeg, Int.reduceToNat, Int.reduceSub, Int.reduceAdd, reduceIte, e0, e1, e5, encShot]; rfl
         · by_cases e : j = k
           · subst e; simp_all [shotOk]
           · exact hall j hj (by omega))
      | (have : ss.all shotOk = false := all_at hlt' (by simp_all [shotOk])
         simp [jitOk, this])
  · simp (disch := omega) only [go_sem, Nat.reduceEqDiff, Nat.reduceAdd, Nat.reduceSub, Nat.reduceLeDiff, Nat.reduceLT, Nat.reduceMul, Nat.reduceBEq, Int.reduceEq, Int.reduceLT, Int.reduceLE, Int.reduceNeg, Int.reduceToNat, Int.reduceSub, Int.reduceAdd, reduceIte, e0, e1, e5, encShot]
    have : ss.all shotOk = true := all_take (fun j hj => hall j hj (by omega))
    refine CP.go (codeOk_s xs (by omega)) rfl (refs_code1 _ _) ?_
    simp (disch := omega) only [go_sem, Nat.reduceEqDiff, Nat.reduceAdd, Nat.reduceSub, Nat.reduceLeDiff, Nat.reduceLT, Nat.reduceMul, Nat.reduceBEq, Int.reduceEq, Int.reduceLT, Int.reduceLE, Int.reduceNeg, Int.reduceToNat, Int.reduceSub, Int.reduceAdd, reduceIte, e0, e1, e5, encShot]
    repeat' (first | (refine condP_t (by assumption) ?_ <;> (try simp (disch := omega) only [go_sem, Nat.reduceEqDiff, Nat.reduceAdd, Nat.reduceSub, Nat.reduceLeDiff, Nat.reduceLT, Nat.reduceMul, Nat.reduceBEq, Int.reduceEq, Int.reduceLT, Int.reduceLE, Int.reduceNeg, Int.reduceToNat, Int.reduceSub, Int.reduceAdd, reduceIte, e0, e1, e5, encShot])) | (refine condP_f (by assumption) ?_ <;> (try simp (disch := omega) only [go_sem, Nat.reduceEqDiff, Nat.reduceAdd, Nat.reduceSub, Nat.reduceLeDiff, Nat.reduceLT, Nat.reduceMul, Nat.reduceBEq, Int.reduceEq, Int.reduceLT, Int.reduceLE, Int.reduceNeg, Int.reduceToNat, Int.reduceSub, Int.reduceAdd, reduceIte, e0, e1, e5, encShot])) | (refine condP_dec (fun h => ?_) (fun h => ?_) <;> (try simp (disch := omega) only [go_sem, Nat.reduceEqDiff, Nat.reduceAdd, Nat.reduceSub, Nat.reduceLeDiff, Nat.reduceLT, Nat.reduceMul, Nat.reduceBEq, Int.reduceEq, Int.reduceLT, Int.reduceLE, Int.reduceNeg, Int.reduceToNat, Int.reduceSub, Int.reduceAdd, reduceIte, e0, e1, e5, encShot])) | (refine condP_split (fun h => ?_) (fun h => ?_) <;> (try simp (disch := omega) only [go_sem, Nat.reduceEqDiff, Nat.reduceAdd, Nat.reduceSub, Nat.reduceLeDiff, Nat.reduceLT, Nat.reduceMul, Nat.reduceBEq, Int.reduceEq, Int.reduceLT, Int.reduceLE, Int.reduceNeg, Int.reduceToNat, Int.reduceSub, Int.reduceAdd, reduceIte, e0, e1, e5, encShot])))
    all_goals simp only [jitOk, this, h, Bool.and_true, Bool.true_and, Bool.false_and, decide_eq_decide.2 (show (ss.length : Int) ≤ 50 ↔ ss.length ≤ 50 by omega)]
theorem jit_s (xs : List Instr) (ss : List Shot) (hx : xs.length ≤ 1048576) (hs : ss.length ≤ 1048576) : F Try.prog 48 [.lst 3 (xs.map encInstr), .lst 2 (ss.map encShot)] (jitR xs ss) := by
  have zz : ∀ h : Heap, storeH (h ++ [[[.int .i64 0, .nils, .int .i64 0, .int .i64 0, .nils, .int .i64 0]]]) 6 (.ptr h.length 1 0 0) (.agg [.int .i64 0, .nils, .int .i64 0, .int .i64 0, .nils, .int .i64 0]) = some (h ++ [[[.int .i64 0, .nils, .int .i64 0, .int .i64 0, .nils, .int .i64 0]]]) := fun h => storeBox rfl rfl
  have z1 := zz [[[.int .i64 0, .nils, .int .i64 0, .int .i64 0, .nils, .int .i64 0]]]
  simp only [List.nil_append, List.cons_append, List.length_cons, List.length_nil, Nat.zero_add] at z1
  refine C.by mixed (cfn_ok Try.func48 ok48) rfl ?_
  simp (disch := omega) only [s48, go_sem, Nat.reduceEqDiff, Nat.reduceAdd, Nat.reduceSub, Nat.reduceLeDiff, Nat.reduceLT, Nat.reduceMul, Nat.reduceBEq, Int.reduceEq, Int.reduceLT, Int.reduceLE, Int.reduceNeg, Int.reduceToNat, Int.reduceSub, Int.reduceAdd, reduceIte, z1]
  refine CP.go (jitOk_s xs ss hx hs) rfl (refs_jit _ _ _) ?_
  simp (disch := omega) only [go_sem, Nat.reduceEqDiff, Nat.reduceAdd, Nat.reduceSub, Nat.reduceLeDiff, Nat.reduceLT, Nat.reduceMul, Nat.reduceBEq, Int.reduceEq, Int.reduceLT, Int.reduceLE, Int.reduceNeg, Int.reduceToNat, Int.reduceSub, Int.reduceAdd, reduceIte, z1]
  refine condP_split (fun hjk => ?_) (fun hjk => ?_)
  case' refine_2 =>
    simp (disch := omega) only [go_sem, Nat.reduceEqDiff, Nat.reduceAdd, Nat.reduceSub, Nat.reduceLeDiff, Nat.reduceLT, Nat.reduceMul, Nat.reduceBEq, Int.reduceEq, Int.reduceLT, Int.reduceLE, Int.reduceNeg, Int.reduceToNat, Int.reduceSub, Int.reduceAdd, reduceIte, storeH, storeB, splice]
    exact jit_no hjk (Sep.ofFlat (L := []) (b := []) (id := 2) (n := 0) ⟨[2], by simp, [2], [], rfl, ⟨rfl, rfl⟩, rfl⟩ rfl rfl)
  have hk : codeOk xs = true := by simp only [jitOk, Bool.and_eq_true] at hjk; exact hjk.1.1
  have hall : ss.all shotOk = true := by simp only [jitOk, Bool.and_eq_true] at hjk; exact hjk.2
  simp (disch := omega) only [go_sem, Nat.reduceEqDiff, Nat.reduceAdd, Nat.reduceSub, Nat.reduceLeDiff, Nat.reduceLT, Nat.reduceMul, Nat.reduceBEq, Int.reduceEq, Int.reduceLT, Int.reduceLE, Int.reduceNeg, Int.reduceToNat, Int.reduceSub, Int.reduceAdd, reduceIte, z1]
  refine loopP_intro (fun m s => ∃ (k : Nat) (p : Pair) (va vb : V), k ≤ ss.length ∧ m = ss.length - k ∧ PairIn p ∧ jitP xs (ss.take k) = p ∧ (V.one va = true ∧ V.nohole va = va ∧ V.cells va = [va]) ∧ (V.one vb = true ∧ V.nohole vb = vb ∧ V.cells vb = [vb]) ∧ s.e 0 = .lst 3 (xs.map encInstr) ∧ s.e 1 = .lst 2 (ss.map encShot) ∧ s.e 4 = .ptr 0 1 0 0 ∧ s.e 7 = .ptr 1 1 0 0 ∧ s.e 8 = .int .i64 k ∧
    Sep s.h [.b 1 (encPair p) [.int .i64 p.a.seq, va, .int .i64 p.a.sum, .int .i64 p.b.seq, vb, .int .i64 p.b.sum], .k 0 [[.int .i64 0, .nils, .int .i64 0, .int .i64 0, .nils, .int .i64 0]]]) ss.length ⟨0, pair0, .nils, .nils, by omega, by omega, pair0_in, rfl, ⟨rfl, rfl, rfl⟩, ⟨rfl, rfl, rfl⟩, by simp (disch := omega) only [go_sem, Nat.reduceEqDiff, Nat.reduceAdd, Nat.reduceSub, Nat.reduceLeDiff, Nat.reduceLT, Nat.reduceMul, Nat.reduceBEq, Int.reduceEq, Int.reduceLT, Int.reduceLE, Int.reduceNeg, Int.reduceToNat, Int.reduceSub, Int.reduceAdd, reduceIte, z1], by simp (disch := omega) only [go_sem, Nat.reduceEqDiff, Nat.reduceAdd, Nat.reduceSub, Nat.reduceLeDiff, Nat.reduceLT, Nat.reduceMul, Nat.reduceBEq, Int.reduceEq, Int.reduceLT, Int.reduceLE, Int.reduceNeg, Int.reduceToNat, Int.reduceSub, Int.reduceAdd, reduceIte, z1], by simp (disch := omega) only [go_sem, Nat.reduceEqDiff, Nat.reduceAdd, Nat.reduceSub, Nat.reduceLeDiff, Nat.reduceLT, Nat.reduceMul, Nat.reduceBEq, Int.reduceEq, Int.reduceLT, Int.reduceLE, Int.reduceNeg, Int.reduceToNat, Int.reduceSub, Int.reduceAdd, reduceIte, z1], by simp (disch := omega) only [go_sem, Nat.reduceEqDiff, Nat.reduceAdd, Nat.reduceSub, Nat.reduceLeDiff, Nat.reduceLT, Nat.reduceMul, Nat.reduceBEq, Int.reduceEq, Int.reduceLT, Int.reduceLE, Int.reduceNeg, Int.reduceToNat, Int.reduceSub, Int.reduceAdd, reduceIte, z1], by simp (disch := omega) only [go_sem, Nat.reduceEqDiff, Nat.reduceAdd, Nat.reduceSub, Nat.reduceLeDiff, Nat.reduceLT, Nat.reduceMul, Nat.reduceBEq, Int.reduceEq, Int.reduceLT, Int.reduceLE, Int.reduceNeg, Int.reduceToNat, Int.reduceSub, Int.reduceAdd, reduceIte, z1]; rfl, ?_⟩ ?_
  · exact (Sep.mkPair (p := pair0) (((Sep.nil []).newK [[.int .i64 0, .nils, .int .i64 0, .int .i64 0, .nils, .int .i64 0]]).nils.nils)).toBox
  rintro m e hp ⟨k, p, va, vb, hk', rfl, hpi, hpk, ⟨vao, van, vac⟩, ⟨vbo, vbn, vbc⟩, e0, e1, e4, e7, e8, S⟩
  simp only at e0 e1 e4 e7 e8 S
  have hb0 := S.box 0 rfl
  simp (disch := omega) only [go_sem, Nat.reduceEqDiff, Nat.reduceAdd, Nat.reduceSub, Nat.reduceLeDiff, Nat.reduceLT, Nat.reduceMul, Nat.reduceBEq, Int.reduceEq, Int.reduceLT, Int.reduceLE, Int.reduceNeg, Int.reduceToNat, Int.reduceSub, Int.reduceAdd, reduceIte, e0, e1, e4, e7, e8, encShot]
  refine condP_dec (fun hlt => ?_) (fun hlt => ?_)
  · have hlt' : k < ss.length := by omega
    have hsk := shot_facts (List.all_eq_true.1 hall _ (List.getElem_mem hlt'))
    simp (disch := omega) only [go_sem, Nat.reduceEqDiff, Nat.reduceAdd, Nat.reduceSub, Nat.reduceLeDiff, Nat.reduceLT, Nat.reduceMul, Nat.reduceBEq, Int.reduceEq, Int.reduceLT, Int.reduceLE, Int.reduceNeg, Int.reduceToNat, Int.reduceSub, Int.reduceAdd, reduceIte, e0, e1, e4, e7, e8, encShot, hb0]
    refine S.goLst (nw_s p hpi) (.cons (.ofSnaps (S.boxSnaps 0 rfl)) (.nil _)) fun r h2 X2 S2 ro rn rc => ?_
    have hb2 := S2.box 1 rfl
    simp (disch := omega) only [go_sem, Nat.reduceEqDiff, Nat.reduceAdd, Nat.reduceSub, Nat.reduceLeDiff, Nat.reduceLT, Nat.reduceMul, Nat.reduceBEq, Int.reduceEq, Int.reduceLT, Int.reduceLE, Int.reduceNeg, Int.reduceToNat, Int.reduceSub, Int.reduceAdd, reduceIte, e0, e1, e4, e7, e8, encShot, hb2, ro, rn, rc]
    refine S2.goLst (steps_s xs (wordsM p) ss[k].steps hk (words_in hpi) (by omega)) (.cons (.same _ (refs_code _ _)) (.cons (S2.snap 0 rfl) (.cons (.int _ _) (.nil _)))) fun r3 h3 X3 S3 ro3 rn3 rc3 => ?_
    have hb3 := S3.box 2 rfl
    simp (disch := omega) only [go_sem, Nat.reduceEqDiff, Nat.reduceAdd, Nat.reduceSub, Nat.reduceLeDiff, Nat.reduceLT, Nat.reduceMul, Nat.reduceBEq, Int.reduceEq, Int.reduceLT, Int.reduceLE, Int.reduceNeg, Int.reduceToNat, Int.reduceSub, Int.reduceAdd, reduceIte, e0, e1, e4, e7, e8, encShot, hb3, ro3, rn3, rc3]
    refine S3.goPairB (saveSome_g p (runS xs ss[k].steps.toNat (wordsM p)) ss[k].writes hpi (by rw [runS_len]; exact words_in hpi)) (.cons (.ofSnaps (S3.boxSnaps 2 rfl)) (.cons (S3.snap 0 rfl) (.cons (.int _ _) (.nil _)))) fun ua ub h4 X4 S4 ao an ac bo bn bc => ?_
    have hb4 := S4.box 4 rfl
    have S5 := (Sep.mkPair (p := savedP p (runS xs ss[k].steps.toNat (wordsM p)) ss[k].writes) S4).pick [3, 0, 4] (by decide)
    have S6 := Sep.reBox S5
    have st := storeBoxAt (sz := 6) (x := .agg [.int .i64 (savedP p (runS xs ss[k].steps.toNat (wordsM p)) ss[k].writes).a.seq, ua, .int .i64 (savedP p (runS xs ss[k].steps.toNat (wordsM p)) ss[k].writes).a.sum, .int .i64 (savedP p (runS xs ss[k].steps.toNat (wordsM p)) ss[k].writes).b.seq, ub, .int .i64 (savedP p (runS xs ss[k].steps.toNat (wordsM p)) ss[k].writes).b.sum]) hb4 rfl (by simp only [cells_agg, fit_cons, fit_nil, one_int, ao, bo]; rfl)
    simp only [cells_agg] at st
    simp (disch := omega) only [go_sem, Nat.reduceEqDiff, Nat.reduceAdd, Nat.reduceSub, Nat.reduceLeDiff, Nat.reduceLT, Nat.reduceMul, Nat.reduceBEq, Int.reduceEq, Int.reduceLT, Int.reduceLE, Int.reduceNeg, Int.reduceToNat, Int.reduceSub, Int.reduceAdd, reduceIte, e0, e1, e4, e7, e8, hb4, st, ao, an, ac, bo, bn, bc]
    refine nextP_intro (ss.length - (k + 1)) (by omega) ⟨k + 1, shotM xs p ss[k], ua, ub, by omega, rfl, shot_in hpi, by rw [jit_take hlt', hpk], ⟨ao, an, ac⟩, ⟨bo, bn, bc⟩, ?_, ?_, ?_, ?_, ?_, S6⟩
    · simp (disch := omega) only [go_sem, Nat.reduceEqDiff, Nat.reduceAdd, Nat.reduceSub, Nat.reduceLeDiff, Nat.reduceLT, Nat.reduceMul, Nat.reduceBEq, Int.reduceEq, Int.reduceLT, Int.reduceLE, Int.reduceNeg, Int.reduceToNat, Int.reduceSub, Int.reduceAdd, reduceIte, e0, e1, e4, e7, e8, hb4, st, ao, an, ac, bo, bn, bc]
    · simp (disch := omega) only [go_sem, Nat.reduceEqDiff, Nat.reduceAdd, Nat.reduceSub, Nat.reduceLeDiff, Nat.reduceLT, Nat.reduceMul, Nat.reduceBEq, Int.reduceEq, Int.reduceLT, Int.reduceLE, Int.reduceNeg, Int.reduceToNat, Int.reduceSub, Int.reduceAdd, reduceIte, e0, e1, e4, e7, e8, hb4, st, ao, an, ac, bo, bn, bc]
    · simp (disch := omega) only [go_sem, Nat.reduceEqDiff, Nat.reduceAdd, Nat.reduceSub, Nat.reduceLeDiff, Nat.reduceLT, Nat.reduceMul, Nat.reduceBEq, Int.reduceEq, Int.reduceLT, Int.reduceLE, Int.reduceNeg, Int.reduceToNat, Int.reduceSub, Int.reduceAdd, reduceIte, e0, e1, e4, e7, e8, hb4, st, ao, an, ac, bo, bn, bc]
    · simp (disch := omega) only [go_sem, Nat.reduceEqDiff, Nat.reduceAdd, Nat.reduceSub, Nat.reduceLeDiff, Nat.reduceLT, Nat.reduceMul, Nat.reduceBEq, Int.reduceEq, Int.reduceLT, Int.reduceLE, Int.reduceNeg, Int.reduceToNat, Int.reduceSub, Int.reduceAdd, reduceIte, e0, e1, e4, e7, e8, hb4, st, ao, an, ac, bo, bn, bc]
    · simp (disch := omega) only [go_sem, Nat.reduceEqDiff, Nat.reduceAdd, Nat.reduceSub, Nat.reduceLeDiff, Nat.reduceLT, Nat.reduceMul, Nat.reduceBEq, Int.reduceEq, Int.reduceLT, Int.reduceLE, Int.reduceNeg, Int.reduceToNat, Int.reduceSub, Int.reduceAdd, reduceIte, e0, e1, e4, e7, e8, hb4, st, ao, an, ac, bo, bn, bc]; rfl
  · have : k = ss.length := by omega
    subst this
    rw [List.take_length] at hpk
    simp (disch := omega) only [go_sem, Nat.reduceEqDiff, Nat.reduceAdd, Nat.reduceSub, Nat.reduceLeDiff, Nat.reduceLT, Nat.reduceMul, Nat.reduceBEq, Int.reduceEq, Int.reduceLT, Int.reduceLE, Int.reduceNeg, Int.reduceToNat, Int.reduceSub, Int.reduceAdd, reduceIte, e0, e1, e4, e7, e8, hb0]
    refine S.goLst (nw_s p hpi) (.cons (.ofSnaps (S.boxSnaps 0 rfl)) (.nil _)) fun r h2 X2 S2 ro rn rc => ?_
    have h0 := S2.blk 2 rfl
    have hb2 := S2.box 1 rfl
    have st := storeBoxAt (sz := 6) (x := .agg [.int .i64 p.a.seq, va, .int .i64 p.a.sum, .int .i64 p.b.seq, vb, .int .i64 p.b.sum]) h0 rfl (by simp only [cells_agg, fit_cons, fit_nil, one_int, vao, vbo]; rfl)
    simp only [cells_agg] at st
    have S3 := (S2.pull 2).setK [[.int .i64 p.a.seq, va, .int .i64 p.a.sum, .int .i64 p.b.seq, vb, .int .i64 p.b.sum]]
    have h3 := S3.blk 0 rfl
    simp (disch := omega) only [go_sem, Nat.reduceEqDiff, Nat.reduceAdd, Nat.reduceSub, Nat.reduceLeDiff, Nat.reduceLT, Nat.reduceMul, Nat.reduceBEq, Int.reduceEq, Int.reduceLT, Int.reduceLE, Int.reduceNeg, Int.reduceToNat, Int.reduceSub, Int.reduceAdd, reduceIte, e0, e1, e4, e7, e8, hb2, st, h3, ro, rn, rc]
    exact jit_yes hjk hpk ((sep_box.1 (S3.pull 2)).pick [3, 1] (by decide))
end Go.Av
