/- The laws FnJit and FnJitWhole, told by their contracts. No condition. -/
import Derived.Test.YtpjcclgpkicadaaJ6JitDraw
import Derived.Test.YtpjcclgpkicadaaJ6JitLib
namespace Go.Av
open Go.Proofs Go.RowKit
set_option linter.unusedVariables false
set_option linter.unusedSimpArgs false
set_option maxRecDepth 100000
set_option maxHeartbeats 4000000
theorem sameInts_c (xs ys : List Int) (hx : xs.length ≤ 9223372036854775807) : CP Try.prog 24 [.lst 1 (xs.map encI), .lst 1 (ys.map encI)] (.bool (decide (xs = ys))) [] := by
  refine CP.by rfl mixed (cfn_ok Try.func24 ok24) rfl ?_
  simp (disch := omega) only [s24, go_sem, Nat.reduceEqDiff, Nat.reduceAdd, Nat.reduceSub, Nat.reduceLeDiff, Nat.reduceLT, Nat.reduceMul, Nat.reduceBEq, Int.reduceEq, Int.reduceLT, Int.reduceLE, Int.reduceNeg, Int.reduceToNat, Int.reduceSub, Int.reduceAdd, reduceIte, encI]
  refine condP_dec (fun hl => ?_) (fun hl => ?_)
  · simp (disch := omega) only [go_sem, Nat.reduceEqDiff, Nat.reduceAdd, Nat.reduceSub, Nat.reduceLeDiff, Nat.reduceLT, Nat.reduceMul, Nat.reduceBEq, Int.reduceEq, Int.reduceLT, Int.reduceLE, Int.reduceNeg, Int.reduceToNat, Int.reduceSub, Int.reduceAdd, reduceIte, encI]
    have hl' : xs.length = ys.length := by omega
    refine loopP_intro (fun m s => ∃ k : Nat, k ≤ xs.length ∧ m = xs.length - k ∧ s.e 0 = .lst 1 (xs.map encI) ∧ s.e 1 = .lst 1 (ys.map encI) ∧ s.e 5 = .int .i64 k ∧ xs.take k = ys.take k) xs.length ⟨0, by omega, by omega, rfl, rfl, rfl, rfl⟩ ?_
    rintro m e hp ⟨k, hk, rfl, e0, e1, e5, ht⟩
    simp only at e0 e1 e5
    simp (disch := omega) only [go_sem, Nat.reduceEqDiff, Nat.reduceAdd, Nat.reduceSub, Nat.reduceLeDiff, Nat.reduceLT, Nat.reduceMul, Nat.reduceBEq, Int.reduceEq, Int.reduceLT, Int.reduceLE, Int.reduceNeg, Int.reduceToNat, Int.reduceSub, Int.reduceAdd, reduceIte, e0, e1, e5, encI]
    refine condP_dec (fun hlt => ?_) (fun hlt => ?_)
    · have hlt' : k < xs.length := by omega
      have hlt2 : k < ys.length := by omega
      simp (disch := omega) only [go_sem, Nat.reduceEqDiff, Nat.reduceAdd, Nat.reduceSub, Nat.reduceLeDiff, Nat.reduceLT, Nat.reduceMul, Nat.reduceBEq, Int.reduceEq, Int.reduceLT, Int.reduceLE, Int.reduceNeg, Int.reduceToNat, Int.reduceSub, Int.reduceAdd, reduceIte, e0, e1, e5, encI]
      refine condP_dec (fun hq => ?_) (fun hq => ?_)
      · simp (disch := omega) only [go_sem, Nat.reduceEqDiff, Nat.reduceAdd, Nat.reduceSub, Nat.reduceLeDiff, Nat.reduceLT, Nat.reduceMul, Nat.reduceBEq, Int.reduceEq, Int.reduceLT, Int.reduceLE, Int.reduceNeg, Int.reduceToNat, Int.reduceSub, Int.reduceAdd, reduceIte, e0, e1, e5, encI]
        refine nextP_intro (xs.length - (k + 1)) (by omega) ⟨k + 1, by omega, rfl, ?_, ?_, ?_, ?_⟩
        · simp (disch := omega) only [go_sem, Nat.reduceEqDiff, Nat.reduceAdd, Nat.reduceSub, Nat.reduceLeDiff, Nat.reduceLT, Nat.reduceMul, Nat.reduceBEq, Int.reduceEq, Int.reduceLT, Int.reduceLE, Int.reduceNeg, Int.reduceToNat, Int.reduceSub, Int.reduceAdd, reduceIte, e0, e1, e5, encI]
        · simp (disch := omega) only [go_sem, Nat.reduceEqDiff, Nat.reduceAdd, Nat.reduceSub, Nat.reduceLeDiff, Nat.reduceLT, Nat.reduceMul, Nat.reduceBEq, Int.reduceEq, Int.reduceLT, Int.reduceLE, Int.reduceNeg, Int.reduceToNat, Int.reduceSub, Int.reduceAdd, reduceIte, e0, e1, e5, encI]
        · simp (disch := omega) only [go_sem, Nat.reduceEqDiff, Nat.reduceAdd, Nat.reduceSub, Nat.reduceLeDiff, Nat.reduceLT, Nat.reduceMul, Nat.reduceBEq, Int.reduceEq, Int.reduceLT, Int.reduceLE, Int.reduceNeg, Int.reduceToNat, Int.reduceSub, Int.reduceAdd, reduceIte, e0, e1, e5, encI]; rfl
        · rw [List.take_succ_eq_append_getElem hlt', List.take_succ_eq_append_getElem hlt2, ht, hq]
      · simp (disch := omega) only [go_sem, Nat.reduceEqDiff, Nat.reduceAdd, Nat.reduceSub, Nat.reduceLeDiff, Nat.reduceLT, Nat.reduceMul, Nat.reduceBEq, Int.reduceEq, Int.reduceLT, Int.reduceLE, Int.reduceNeg, Int.reduceToNat, Int.reduceSub, Int.reduceAdd, reduceIte, e0, e1, e5, encI]
        have : xs ≠ ys := fun e => by subst e; exact hq rfl
        simp [this]
    · simp (disch := omega) only [go_sem, Nat.reduceEqDiff, Nat.reduceAdd, Nat.reduceSub, Nat.reduceLeDiff, Nat.reduceLT, Nat.reduceMul, Nat.reduceBEq, Int.reduceEq, Int.reduceLT, Int.reduceLE, Int.reduceNeg, Int.reduceToNat, Int.reduceSub, Int.reduceAdd, reduceIte, e0, e1, e5, encI]
      have : k = xs.length := by omega
      subst this
      rw [List.take_length] at ht
      have : xs = ys := by rw [ht, hl', List.take_length]
      simp [this]
  · simp (disch := omega) only [go_sem, Nat.reduceEqDiff, Nat.reduceAdd, Nat.reduceSub, Nat.reduceLeDiff, Nat.reduceLT, Nat.reduceMul, Nat.reduceBEq, Int.reduceEq, Int.reduceLT, Int.reduceLE, Int.reduceNeg, Int.reduceToNat, Int.reduceSub, Int.reduceAdd, reduceIte, encI]
    have : xs ≠ ys := fun e => by subst e; exact hl rfl
    simp [this]
theorem Sep.ownN {h : Heap} {sz n : Nat} {b : Blk} {v : V} {L : List It} (S : Sep h (.v (.lst sz b) v :: L)) (hf : flat b = true) (hn : b.length = n) (h0 : n ≠ 0) : ∃ id, v = .own id sz 0 n n ∧ Sep h (.k id b :: L) := by
  subst hn
  rcases S.flat_ hf with ⟨_, e, _⟩ | z
  · subst e; exact absurd rfl h0
  · exact z
theorem Snap.flatCut {h : Heap} {id sz n : Nat} {b : Blk} (u : Nat) (hb : h[id]? = some b) (hn : b.length = n) (hu : u ≤ n) (hf : Av.flat b = true) : Snap h (.own id sz 0 u n) (.lst sz (b.take u)) := by
  subst hn
  refine .own hb rfl (by omega) (by simp; omega) (fun i e d h1 h2 => ?_) (fun i e d j c x h1 h2 h3 h4 => ?_)
  · rw [Nat.zero_add] at h1
    have hi : i < u := by have := (List.getElem?_eq_some_iff.1 h2).1; simp at this; omega
    rw [List.getElem?_take_of_lt hi, h1] at h2; cases h2; rfl
  · rw [Nat.zero_add] at h1
    have hi : i < u := by have := (List.getElem?_eq_some_iff.1 h2).1; simp at this; omega
    rw [List.getElem?_take_of_lt hi, h1] at h2; cases h2
    rw [h3] at h4; cases h4
    exact Snap.of_scalar h (flat_get hf h1 h3)
theorem shots_ok {xs : List Instr} {ss : List Shot} (hk : codeOk xs = true) (h7 : ss.length ≤ 7) (hs : ∀ s ∈ ss, (0 ≤ s.steps ∧ s.steps ≤ 11) ∧ (0 ≤ s.writes ∧ s.writes ≤ 9)) : jitOk xs ss = true := by
  have : ss.all shotOk = true := List.all_eq_true.2 fun s hm => by
    have := hs s hm
    simp only [shotOk, within, Bool.and_eq_true, decide_eq_true_eq]; omega
  simp [jitOk, hk, this]; omega
theorem sum_in : ∀ {ss : List Shot}, (∀ s ∈ ss, 0 ≤ s.steps ∧ s.steps ≤ 11) → stepsSum ss ≤ 11 * ss.length
  | [], _ => Nat.zero_le _
  | s :: ss, h => by
    have e : stepsSum (s :: ss) = s.steps.toNat + stepsSum ss := by simp [stepsSum]
    have := sum_in (ss := ss) fun t ht => h t (by simp [ht])
    have := h s (by simp)
    rw [e, List.length_cons]; omega
theorem jit_len {xs : List Instr} {ss : List Shot} : PairIn (jitM xs ss) → True := fun _ => trivial
theorem jitLaw_c (bs : List Int) (hb : bs.length ≤ 9223372036854775807) : CP Try.prog 7 [.lst 1 (bs.map encB)] (.bool true) [] := by
  refine CP.by rfl mixed (cfn_ok Try.func7 ok7) rfl ?_
  simp (disch := omega) only [s7, go_sem, Nat.reduceEqDiff, Nat.reduceAdd, Nat.reduceSub, Nat.reduceLeDiff, Nat.reduceLT, Nat.reduceMul, Nat.reduceBEq, Int.reduceEq, Int.reduceLT, Int.reduceLE, Int.reduceNeg, Int.reduceToNat, Int.reduceSub, Int.reduceAdd, reduceIte]
  refine CP.go (big_c bs hb) rfl (by simp [V.refsL, V.refs, refsLL_map encB (fun _ => rfl) bs]) ?_
  simp (disch := omega) only [go_sem, Nat.reduceEqDiff, Nat.reduceAdd, Nat.reduceSub, Nat.reduceLeDiff, Nat.reduceLT, Nat.reduceMul, Nat.reduceBEq, Int.reduceEq, Int.reduceLT, Int.reduceLE, Int.reduceNeg, Int.reduceToNat, Int.reduceSub, Int.reduceAdd, reduceIte]
  refine condP_dec (fun hbig => ?_) (fun hbig => ?_)
  · simp (disch := omega) only [go_sem, Nat.reduceEqDiff, Nat.reduceAdd, Nat.reduceSub, Nat.reduceLeDiff, Nat.reduceLT, Nat.reduceMul, Nat.reduceBEq, Int.reduceEq, Int.reduceLT, Int.reduceLE, Int.reduceNeg, Int.reduceToNat, Int.reduceSub, Int.reduceAdd, reduceIte]
  have hb' : bs.length ≤ 1048576 := by omega
  simp (disch := omega) only [go_sem, Nat.reduceEqDiff, Nat.reduceAdd, Nat.reduceSub, Nat.reduceLeDiff, Nat.reduceLT, Nat.reduceMul, Nat.reduceBEq, Int.reduceEq, Int.reduceLT, Int.reduceLE, Int.reduceNeg, Int.reduceToNat, Int.reduceSub, Int.reduceAdd, reduceIte]
  refine C.go (jit_d bs _ [] hb' (Sep.nil _)) ?_
  intro r h1 z
  refine Exists.elim z fun xs z => Exists.elim z fun ss z => Exists.elim z fun rc z => Exists.elim z fun l z => ?_
  have hk := z.2.1
  have h7 := z.2.2.1
  have hin := z.2.2.2.1
  have S1 := z.2.2.2.2
  have z1 := z.1
  clear z
  subst z1
  have hj := shots_ok hk h7 hin
  have hx := code_facts hk
  have hw0 : jitW xs ss = wordsM (jitP xs ss) := by simp [jitW, hj]
  have hsum := sum_in (ss := ss) fun s hs => (hin s hs).1
  have h50 : ∀ s ∈ ss, 0 ≤ s.writes := fun s hs => (hin s hs).2.1
  have hlw : ∀ k, _ := fun k => jit_law (xs := xs) (ss := ss) k hk (by omega) h50 (by omega)
  rw [← hw0] at hlw
  obtain ⟨co, cn, cc⟩ := S1.vv 1 rfl
  simp (disch := omega) only [go_sem, Nat.reduceEqDiff, Nat.reduceAdd, Nat.reduceSub, Nat.reduceLeDiff, Nat.reduceLT, Nat.reduceMul, Nat.reduceBEq, Int.reduceEq, Int.reduceLT, Int.reduceLE, Int.reduceNeg, Int.reduceToNat, Int.reduceSub, Int.reduceAdd, reduceIte, co, cn, cc]
  refine S1.goJit (jit_c xs ss (by omega) (by omega)) (.cons (S1.snap 1 rfl) (.cons (Snap.flatN (S1.blk 0 rfl) (by simp) (flat_Shot _)) (.nil _))) fun va vb w h2 X2 S2 ua ub uw => ?_
  have S3 := S2.newK [cellsP (jitM xs ss) va vb]
  refine Exists.elim ((S3.pull 3).ownN (flat_encI _) (n := 6) (by rw [List.length_map]; exact (hlw 0).1) (by omega)) fun wid z => ?_
  have z1 := z.1
  have S4 := z.2
  clear z
  subst z1
  have w6 := (hlw 0).1
  have hwb := S4.blk 0 rfl
  have g5 : (jitW xs ss)[5]? = some (gt (jitW xs ss) 5) := gt_some (by omega)
  have hb5 := (hlw 0).2.1
  simp (disch := omega) only [go_sem, Nat.reduceEqDiff, Nat.reduceAdd, Nat.reduceSub, Nat.reduceLeDiff, Nat.reduceLT, Nat.reduceMul, Nat.reduceBEq, Int.reduceEq, Int.reduceLT, Int.reduceLE, Int.reduceNeg, Int.reduceToNat, Int.reduceSub, Int.reduceAdd, reduceIte, co, cn, cc, ua.1, ua.2.1, ua.2.2, ub.1, ub.2.1, ub.2.2, hj, hwb, g5, List.getElem?_map, List.length_map, w6, encI]
  refine S4.goLstB (after_c xs (gt (jitW xs ss) 5) (by omega)) (.cons (S4.snap 5 rfl) (.cons (.int _ _) (.nil _))) fun s h5 X5 S5 so sn sc => ?_
  have haf : afterOk xs (gt (jitW xs ss) 5) = true := by simp [afterOk, hk, within]; omega
  have hae : afterM xs (gt (jitW xs ss) 5) = jitW xs ss := by
    unfold afterM
    rw [if_pos haf, hw0]
    have := (hlw 0).2.2.1
    rw [hw0] at this
    exact this
  simp (disch := omega) only [go_sem, Nat.reduceEqDiff, Nat.reduceAdd, Nat.reduceSub, Nat.reduceLeDiff, Nat.reduceLT, Nat.reduceMul, Nat.reduceBEq, Int.reduceEq, Int.reduceLT, Int.reduceLE, Int.reduceNeg, Int.reduceToNat, Int.reduceSub, Int.reduceAdd, reduceIte, co, cn, cc, so, sn, sc, haf]
  refine C.go (drawPlaces_c bs _ hb') ?_
  intro r h6 z
  refine Exists.elim z fun xs' z => Exists.elim z fun l2 z => ?_
  have z1 := z.1
  have hl2 := z.2.1
  have hx12 := z.2.2.1
  have hxs := z.2.2.2.1
  have X6 := z.2.2.2.2.2
  clear z
  subst z1
  have S6 := S5.up X6
  refine Exists.elim (show ∃ x0, xs'[0]? = some x0 from ⟨_, List.getElem?_eq_getElem (by omega)⟩) fun x0 h0 => ?_
  have b0 := hxs x0 (List.mem_of_getElem? h0)
  have t0 := tmod_bd (a := x0) (n := (ss.length : Int) + 1) b0.1 (by omega)
  simp (disch := omega) only [go_sem, Nat.reduceEqDiff, Nat.reduceAdd, Nat.reduceSub, Nat.reduceLeDiff, Nat.reduceLT, Nat.reduceMul, Nat.reduceBEq, Int.reduceEq, Int.reduceLT, Int.reduceLE, Int.reduceNeg, Int.reduceToNat, Int.reduceSub, Int.reduceAdd, reduceIte, cn, hl2, hx12, h0, List.getElem?_map, List.length_map, encI]
  have hu : (x0.tmod ((ss.length : Int) + 1)).toNat ≤ ss.length := by omega
  have hlk : (ss.take (x0.tmod ((ss.length : Int) + 1)).toNat).length ≤ 7 := by simp only [List.length_take]; omega
  have hj2 := shots_ok (xs := xs) (ss := ss.take (x0.tmod ((ss.length : Int) + 1)).toNat) hk hlk (fun s hs => hin s (List.mem_of_mem_take hs))
  have hw2 : jitW xs (ss.take (x0.tmod ((ss.length : Int) + 1)).toNat) = wordsM (jitP xs (ss.take (x0.tmod ((ss.length : Int) + 1)).toNat)) := by simp [jitW, hj2]
  have hcut : Snap h6 (.own l 2 0 (x0.tmod ((ss.length : Int) + 1)).toNat ss.length) (.lst 2 ((ss.take (x0.tmod ((ss.length : Int) + 1)).toNat).map encShot)) := by
    rw [List.map_take]
    exact Snap.flatCut _ (S6.blk 5 rfl) (by simp) hu (flat_Shot _)
  have hl4 := (hlw (x0.tmod ((ss.length : Int) + 1)).toNat).2.2.2
  rw [← hw2] at hl4
  refine S6.goJit (jit_c xs (ss.take (x0.tmod ((ss.length : Int) + 1)).toNat) (by omega) (by omega)) (.cons (S6.snap 6 rfl) (.cons hcut (.nil _))) fun ya yb y h7 X7 S7 za zb zy => ?_
  have S8 := S7.newK [cellsP (jitM xs (ss.take (x0.tmod ((ss.length : Int) + 1)).toNat)) ya yb]
  refine Exists.elim ((S8.pull 3).ownN (flat_encI _) (n := 6) (by rw [List.length_map]; exact hl4.1) (by omega)) fun yid z => ?_
  have z1 := z.1
  have S9 := z.2
  clear z
  subst z1
  have hyb := S9.blk 0 rfl
  have y5 : (jitW xs (ss.take (x0.tmod ((ss.length : Int) + 1)).toNat))[5]? = some (gt (jitW xs (ss.take (x0.tmod ((ss.length : Int) + 1)).toNat)) 5) := gt_some (by omega)
  have y6 := hl4.1
  have hwb9 := S9.blk 5 rfl
  have hle := hl4.2
  have s9 := S9.snap 4 rfl
  have dle : decide (gt (jitW xs (ss.take (x0.tmod ((ss.length : Int) + 1)).toNat)) 5 ≤ gt (jitW xs ss) 5) = true := by simpa using hle
  simp (disch := omega) only [go_sem, Nat.reduceEqDiff, Nat.reduceAdd, Nat.reduceSub, Nat.reduceLeDiff, Nat.reduceLT, Nat.reduceMul, Nat.reduceBEq, Int.reduceEq, Int.reduceLT, Int.reduceLE, Int.reduceNeg, Int.reduceToNat, Int.reduceSub, Int.reduceAdd, reduceIte, cn, sn, za.1, za.2.1, za.2.2, zb.1, zb.2.1, zb.2.2, hj2, haf]
  refine CP.goS (sameInts_c (afterM xs (gt (jitW xs ss) 5)) (jitW xs ss) (by rw [hae]; omega)) rfl rfl (.cons s9 (.cons (Snap.flatN hwb9 (by simpa using w6) (flat_encI _)) (.nil _))) ?_
  simp (disch := omega) only [go_sem, Nat.reduceEqDiff, Nat.reduceAdd, Nat.reduceSub, Nat.reduceLeDiff, Nat.reduceLT, Nat.reduceMul, Nat.reduceBEq, Int.reduceEq, Int.reduceLT, Int.reduceLE, Int.reduceNeg, Int.reduceToNat, Int.reduceSub, Int.reduceAdd, reduceIte, cn, sn, hae, hyb, hwb9, g5, y5, y6, w6, dle, decide_eq_true_eq, List.getElem?_map, List.length_map, encI]
def whole (s : Shot) : Shot := ⟨s.steps, 9⟩
theorem sum_take {ss : List Shot} {k : Nat} (h : k < ss.length) : stepsSum (ss.take (k + 1)) = stepsSum (ss.take k) + ss[k].steps.toNat := by
  unfold stepsSum
  rw [List.take_succ_eq_append_getElem h, List.map_append, List.sum_append]; simp
theorem sum_whole (ss : List Shot) : stepsSum (ss.map whole) = stepsSum ss := by
  unfold stepsSum
  rw [List.map_map]; rfl
theorem wholeLaw_c (bs : List Int) (hb : bs.length ≤ 9223372036854775807) : CP Try.prog 6 [.lst 1 (bs.map encB)] (.bool true) [] := by
  refine CP.by rfl mixed (cfn_ok Try.func6 ok6) rfl ?_
  simp (disch := omega) only [s6, go_sem, Nat.reduceEqDiff, Nat.reduceAdd, Nat.reduceSub, Nat.reduceLeDiff, Nat.reduceLT, Nat.reduceMul, Nat.reduceBEq, Int.reduceEq, Int.reduceLT, Int.reduceLE, Int.reduceNeg, Int.reduceToNat, Int.reduceSub, Int.reduceAdd, reduceIte]
  refine CP.go (big_c bs hb) rfl (by simp [V.refsL, V.refs, refsLL_map encB (fun _ => rfl) bs]) ?_
  simp (disch := omega) only [go_sem, Nat.reduceEqDiff, Nat.reduceAdd, Nat.reduceSub, Nat.reduceLeDiff, Nat.reduceLT, Nat.reduceMul, Nat.reduceBEq, Int.reduceEq, Int.reduceLT, Int.reduceLE, Int.reduceNeg, Int.reduceToNat, Int.reduceSub, Int.reduceAdd, reduceIte]
  refine condP_dec (fun hbig => ?_) (fun hbig => ?_)
  · simp (disch := omega) only [go_sem, Nat.reduceEqDiff, Nat.reduceAdd, Nat.reduceSub, Nat.reduceLeDiff, Nat.reduceLT, Nat.reduceMul, Nat.reduceBEq, Int.reduceEq, Int.reduceLT, Int.reduceLE, Int.reduceNeg, Int.reduceToNat, Int.reduceSub, Int.reduceAdd, reduceIte]
  have hb' : bs.length ≤ 1048576 := by omega
  simp (disch := omega) only [go_sem, Nat.reduceEqDiff, Nat.reduceAdd, Nat.reduceSub, Nat.reduceLeDiff, Nat.reduceLT, Nat.reduceMul, Nat.reduceBEq, Int.reduceEq, Int.reduceLT, Int.reduceLE, Int.reduceNeg, Int.reduceToNat, Int.reduceSub, Int.reduceAdd, reduceIte]
  refine C.go (jit_d bs _ [] hb' (Sep.nil _)) ?_
  intro r h1 z
  refine Exists.elim z fun xs z => Exists.elim z fun ss z => Exists.elim z fun rc z => Exists.elim z fun l z => ?_
  have hk := z.2.1
  have h7 := z.2.2.1
  have hin := z.2.2.2.1
  have S1 := z.2.2.2.2
  have z1 := z.1
  clear z
  subst z1
  have hx := code_facts hk
  have hsum : ∀ k, stepsSum (ss.take k) ≤ 77 := fun k => by
    have := sum_in (ss := ss.take k) fun s hs => (hin s (List.mem_of_mem_take hs)).1
    simp only [List.length_take] at this
    omega
  obtain ⟨co, cn, cc⟩ := S1.vv 1 rfl
  simp (disch := omega) only [go_sem, Nat.reduceEqDiff, Nat.reduceAdd, Nat.reduceSub, Nat.reduceLeDiff, Nat.reduceLT, Nat.reduceMul, Nat.reduceBEq, Int.reduceEq, Int.reduceLT, Int.reduceLE, Int.reduceNeg, Int.reduceToNat, Int.reduceSub, Int.reduceAdd, reduceIte, co, cn, cc]
  refine loopP_intro (fun m s => ∃ (k : Nat) (q : Nat), k ≤ ss.length ∧ m = ss.length - k ∧ s.e 0 = .lst 1 (bs.map encB) ∧ s.e 3 = rc ∧ s.e 4 = .own l 2 0 ss.length ss.length ∧ s.e 5 = .int .i64 (stepsSum (ss.take k)) ∧ s.e 6 = .own q 2 0 k k ∧ s.e 7 = .int .i64 k ∧ Sep s.h [.k q (((ss.take k).map whole).map encShot), .k l (ss.map encShot), .v (.lst 3 (xs.map encInstr)) rc]) ss.length ⟨0, h1.length, by omega, by omega, by simp (disch := omega) only [go_sem, Nat.reduceEqDiff, Nat.reduceAdd, Nat.reduceSub, Nat.reduceLeDiff, Nat.reduceLT, Nat.reduceMul, Nat.reduceBEq, Int.reduceEq, Int.reduceLT, Int.reduceLE, Int.reduceNeg, Int.reduceToNat, Int.reduceSub, Int.reduceAdd, reduceIte, co, cn, cc], by simp (disch := omega) only [go_sem, Nat.reduceEqDiff, Nat.reduceAdd, Nat.reduceSub, Nat.reduceLeDiff, Nat.reduceLT, Nat.reduceMul, Nat.reduceBEq, Int.reduceEq, Int.reduceLT, Int.reduceLE, Int.reduceNeg, Int.reduceToNat, Int.reduceSub, Int.reduceAdd, reduceIte, co, cn, cc], by simp (disch := omega) only [go_sem, Nat.reduceEqDiff, Nat.reduceAdd, Nat.reduceSub, Nat.reduceLeDiff, Nat.reduceLT, Nat.reduceMul, Nat.reduceBEq, Int.reduceEq, Int.reduceLT, Int.reduceLE, Int.reduceNeg, Int.reduceToNat, Int.reduceSub, Int.reduceAdd, reduceIte, co, cn, cc], by simp (disch := omega) only [go_sem, Nat.reduceEqDiff, Nat.reduceAdd, Nat.reduceSub, Nat.reduceLeDiff, Nat.reduceLT, Nat.reduceMul, Nat.reduceBEq, Int.reduceEq, Int.reduceLT, Int.reduceLE, Int.reduceNeg, Int.reduceToNat, Int.reduceSub, Int.reduceAdd, reduceIte, co, cn, cc]; rfl, by simp (disch := omega) only [go_sem, Nat.reduceEqDiff, Nat.reduceAdd, Nat.reduceSub, Nat.reduceLeDiff, Nat.reduceLT, Nat.reduceMul, Nat.reduceBEq, Int.reduceEq, Int.reduceLT, Int.reduceLE, Int.reduceNeg, Int.reduceToNat, Int.reduceSub, Int.reduceAdd, reduceIte, co, cn, cc], by simp (disch := omega) only [go_sem, Nat.reduceEqDiff, Nat.reduceAdd, Nat.reduceSub, Nat.reduceLeDiff, Nat.reduceLT, Nat.reduceMul, Nat.reduceBEq, Int.reduceEq, Int.reduceLT, Int.reduceLE, Int.reduceNeg, Int.reduceToNat, Int.reduceSub, Int.reduceAdd, reduceIte, co, cn, cc]; rfl, S1.newK []⟩ ?_
  rintro m e hp ⟨k, q, hk', rfl, e0, e3, e4, e5, e6, e7, S⟩
  simp only at e0 e3 e4 e5 e6 e7 S
  simp (disch := omega) only [go_sem, Nat.reduceEqDiff, Nat.reduceAdd, Nat.reduceSub, Nat.reduceLeDiff, Nat.reduceLT, Nat.reduceMul, Nat.reduceBEq, Int.reduceEq, Int.reduceLT, Int.reduceLE, Int.reduceNeg, Int.reduceToNat, Int.reduceSub, Int.reduceAdd, reduceIte, e0, e3, e4, e5, e6, e7, cn]
  refine condP_dec (fun hlt => ?_) (fun hlt => ?_)
  · have hlt' : k < ss.length := by omega
    have hlb := S.blk 1 rfl
    have hg : ss[k]? = some ss[k] := List.getElem?_eq_getElem hlt'
    have hss := (hin _ (List.getElem_mem hlt')).1
    have hst := sum_take hlt'
    have hs1 := hsum (k + 1)
    have ha := append1 (sz := 2) (bytes := 16) (c := encShot (whole ss[k])) (S.blk 0 rfl) (n := k) (by simp; omega) (by omega : (k + 1) * 16 ≤ 140737488355328)
    simp only [encShot, whole] at ha
    have hlb2 : ∀ (c d : Blk), ((hp ++ [c]).set q d)[l]? = some (ss.map encShot) := fun c d => (((S.app [c]).setK d).blk 1 rfl)
    simp (disch := omega) only [go_sem, Nat.reduceEqDiff, Nat.reduceAdd, Nat.reduceSub, Nat.reduceLeDiff, Nat.reduceLT, Nat.reduceMul, Nat.reduceBEq, Int.reduceEq, Int.reduceLT, Int.reduceLE, Int.reduceNeg, Int.reduceToNat, Int.reduceSub, Int.reduceAdd, reduceIte, e0, e3, e4, e5, e6, e7, cn, hlb, hlb2, hg, ha, List.getElem?_map, List.length_map, encShot, splice]
    refine nextP_intro (ss.length - (k + 1)) (by omega) ⟨k + 1, q, by omega, rfl, by simp (disch := omega) only [go_sem, Nat.reduceEqDiff, Nat.reduceAdd, Nat.reduceSub, Nat.reduceLeDiff, Nat.reduceLT, Nat.reduceMul, Nat.reduceBEq, Int.reduceEq, Int.reduceLT, Int.reduceLE, Int.reduceNeg, Int.reduceToNat, Int.reduceSub, Int.reduceAdd, reduceIte, e0, e3, e4, e5, e6, e7, cn, hlb, hlb2, hg, ha, List.getElem?_map, List.length_map, encShot, splice], by simp (disch := omega) only [go_sem, Nat.reduceEqDiff, Nat.reduceAdd, Nat.reduceSub, Nat.reduceLeDiff, Nat.reduceLT, Nat.reduceMul, Nat.reduceBEq, Int.reduceEq, Int.reduceLT, Int.reduceLE, Int.reduceNeg, Int.reduceToNat, Int.reduceSub, Int.reduceAdd, reduceIte, e0, e3, e4, e5, e6, e7, cn, hlb, hlb2, hg, ha, List.getElem?_map, List.length_map, encShot, splice], by simp (disch := omega) only [go_sem, Nat.reduceEqDiff, Nat.reduceAdd, Nat.reduceSub, Nat.reduceLeDiff, Nat.reduceLT, Nat.reduceMul, Nat.reduceBEq, Int.reduceEq, Int.reduceLT, Int.reduceLE, Int.reduceNeg, Int.reduceToNat, Int.reduceSub, Int.reduceAdd, reduceIte, e0, e3, e4, e5, e6, e7, cn, hlb, hlb2, hg, ha, List.getElem?_map, List.length_map, encShot, splice], ?_, by simp (disch := omega) only [go_sem, Nat.reduceEqDiff, Nat.reduceAdd, Nat.reduceSub, Nat.reduceLeDiff, Nat.reduceLT, Nat.reduceMul, Nat.reduceBEq, Int.reduceEq, Int.reduceLT, Int.reduceLE, Int.reduceNeg, Int.reduceToNat, Int.reduceSub, Int.reduceAdd, reduceIte, e0, e3, e4, e5, e6, e7, cn, hlb, hlb2, hg, ha, List.getElem?_map, List.length_map, encShot, splice], by simp (disch := omega) only [go_sem, Nat.reduceEqDiff, Nat.reduceAdd, Nat.reduceSub, Nat.reduceLeDiff, Nat.reduceLT, Nat.reduceMul, Nat.reduceBEq, Int.reduceEq, Int.reduceLT, Int.reduceLE, Int.reduceNeg, Int.reduceToNat, Int.reduceSub, Int.reduceAdd, reduceIte, e0, e3, e4, e5, e6, e7, cn, hlb, hlb2, hg, ha, List.getElem?_map, List.length_map, encShot, splice] <;> rfl, ?_⟩
    · simp (disch := omega) only [go_sem, Nat.reduceEqDiff, Nat.reduceAdd, Nat.reduceSub, Nat.reduceLeDiff, Nat.reduceLT, Nat.reduceMul, Nat.reduceBEq, Int.reduceEq, Int.reduceLT, Int.reduceLE, Int.reduceNeg, Int.reduceToNat, Int.reduceSub, Int.reduceAdd, reduceIte, e0, e3, e4, e5, e6, e7, cn, hlb, hlb2, hg, ha, List.getElem?_map, List.length_map, encShot, splice]
      exact congrArg (V.int .i64) (by omega)
    · have := (S.app [[encShot (whole ss[k])]]).setK (((ss.take k).map whole).map encShot ++ [encShot (whole ss[k])])
      rw [List.take_succ_eq_append_getElem hlt', List.map_append, List.map_append]
      exact this
  · have : k = ss.length := by omega
    subst this
    rw [List.take_length] at S e5
    have hwl : (ss.map whole).length ≤ 7 := by simpa using h7
    have hj := shots_ok (xs := xs) (ss := ss.map whole) hk hwl (fun s hs => by
      obtain ⟨t, ht, rfl⟩ := List.mem_map.1 hs
      have := hin t ht
      exact ⟨this.1, by simp [whole]⟩)
    have hw0 : jitW xs (ss.map whole) = runS xs (stepsSum ss) zero6 := by
      have := whole_law (xs := xs) (ss := ss.map whole) hk (by omega) (fun s hs => by
        obtain ⟨t, ht, rfl⟩ := List.mem_map.1 hs
        simp [whole])
      rw [sum_whole] at this
      simp [jitW, hj, this]
    have hs77 := hsum ss.length
    rw [List.take_length] at hs77
    have haf : afterOk xs (stepsSum ss : Int) = true := by simp [afterOk, hk, within]; omega
    have hae : afterM xs (stepsSum ss : Int) = jitW xs (ss.map whole) := by
      unfold afterM
      rw [if_pos haf, hw0]; simp
    have hw6 : (jitW xs (ss.map whole)).length = 6 := by rw [hw0, runS_len]; rfl
    simp (disch := omega) only [go_sem, Nat.reduceEqDiff, Nat.reduceAdd, Nat.reduceSub, Nat.reduceLeDiff, Nat.reduceLT, Nat.reduceMul, Nat.reduceBEq, Int.reduceEq, Int.reduceLT, Int.reduceLE, Int.reduceNeg, Int.reduceToNat, Int.reduceSub, Int.reduceAdd, reduceIte, e0, e3, e4, e5, e6, e7, cn]
    refine S.goJit (jit_c xs (ss.map whole) (by omega) (by omega)) (.cons (S.snap 2 rfl) (.cons (Snap.flatN (S.blk 0 rfl) (by simp) (flat_Shot _)) (.nil _))) fun va vb w h2 X2 S2 ua ub uw => ?_
    have S3 := S2.newK [cellsP (jitM xs (ss.map whole)) va vb]
    simp (disch := omega) only [go_sem, Nat.reduceEqDiff, Nat.reduceAdd, Nat.reduceSub, Nat.reduceLeDiff, Nat.reduceLT, Nat.reduceMul, Nat.reduceBEq, Int.reduceEq, Int.reduceLT, Int.reduceLE, Int.reduceNeg, Int.reduceToNat, Int.reduceSub, Int.reduceAdd, reduceIte, e0, e3, e4, e5, e6, e7, cn, ua.1, ua.2.1, ua.2.2, ub.1, ub.2.1, ub.2.2, uw.1, uw.2.1, uw.2.2, hj]
    refine S3.goLstB (after_c xs (stepsSum ss : Int) (by omega)) (.cons (S3.snap 6 rfl) (.cons (.int _ _) (.nil _))) fun s h5 X5 S5 so sn sc => ?_
    have s5 := S5.snap 0 rfl
    simp (disch := omega) only [go_sem, Nat.reduceEqDiff, Nat.reduceAdd, Nat.reduceSub, Nat.reduceLeDiff, Nat.reduceLT, Nat.reduceMul, Nat.reduceBEq, Int.reduceEq, Int.reduceLT, Int.reduceLE, Int.reduceNeg, Int.reduceToNat, Int.reduceSub, Int.reduceAdd, reduceIte, cn, uw.2.1, so, sn, sc, haf]
    refine CP.goS (sameInts_c (jitW xs (ss.map whole)) (afterM xs (stepsSum ss : Int)) (by omega)) rfl rfl (.cons (S5.snap 4 rfl) (.cons s5 (.nil _))) ?_
    simp (disch := omega) only [go_sem, Nat.reduceEqDiff, Nat.reduceAdd, Nat.reduceSub, Nat.reduceLeDiff, Nat.reduceLT, Nat.reduceMul, Nat.reduceBEq, Int.reduceEq, Int.reduceLT, Int.reduceLE, Int.reduceNeg, Int.reduceToNat, Int.reduceSub, Int.reduceAdd, reduceIte, hae, decide_eq_true_eq]
end Go.Av
