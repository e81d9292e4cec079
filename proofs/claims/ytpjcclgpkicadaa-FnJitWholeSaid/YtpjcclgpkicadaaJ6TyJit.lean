/- Codes and shots as the law handles them. No condition. -/
import Derived.Test.YtpjcclgpkicadaaJ6Run2
namespace Go.Av
open Go.Proofs Go.RowKit
set_option linter.unusedVariables false
set_option linter.unusedSimpArgs false
set_option maxRecDepth 100000
set_option maxHeartbeats 4000000
theorem refs_Instr (n : Nat) (x : Instr) : V.refsL n (encInstr x) = true := rfl
theorem refs_InstrS (n : Nat) (xs : List Instr) : V.refs n (.lst 3 (xs.map encInstr)) = true := by simp [V.refs, refsLL_map encInstr (refs_Instr n) xs]
theorem flat_Instr (xs : List Instr) : flat (xs.map encInstr) = true := by simp [flat, encInstr, V.scalar]
theorem szInstrS_c (xs : List Instr) (left : Int) (hx : xs.length ≤ 9223372036854775807) (hl : 0 ≤ left ∧ left ≤ 1048576) : CP Try.prog 46 [.lst 3 (xs.map encInstr), .int .i64 left] (.int .i64 (szM xs.length left)) [] := by
  refine CP.by rfl mixed (cfn_ok Try.func46 ok46) rfl ?_
  simp (disch := omega) only [s46, go_sem, Nat.reduceEqDiff, Nat.reduceAdd, Nat.reduceSub, Nat.reduceLeDiff, Nat.reduceLT, Nat.reduceMul, Nat.reduceBEq, Int.reduceEq, Int.reduceLT, Int.reduceLE, Int.reduceNeg, Int.reduceToNat, Int.reduceSub, Int.reduceAdd, reduceIte]
  refine condP_dec (fun h => ?_) (fun h => ?_) <;> simp (disch := omega) only [go_sem, Nat.reduceEqDiff, Nat.reduceAdd, Nat.reduceSub, Nat.reduceLeDiff, Nat.reduceLT, Nat.reduceMul, Nat.reduceBEq, Int.reduceEq, Int.reduceLT, Int.reduceLE, Int.reduceNeg, Int.reduceToNat, Int.reduceSub, Int.reduceAdd, reduceIte] <;> simp [szM, h]
theorem toInstr_c (s : Instr) : CP Try.prog 103 [.agg (encInstr s)] (.agg (encInstr s)) [] := by
  obtain ⟨f0, f1, f2⟩ := s
  refine CP.by rfl mixed (cfn_ok Try.func103 ok103) rfl ?_
  simp (disch := omega) only [s103, go_sem, Nat.reduceEqDiff, Nat.reduceAdd, Nat.reduceSub, Nat.reduceLeDiff, Nat.reduceLT, Nat.reduceMul, Nat.reduceBEq, Int.reduceEq, Int.reduceLT, Int.reduceLE, Int.reduceNeg, Int.reduceToNat, Int.reduceSub, Int.reduceAdd, reduceIte, encInstr, storeH, storeB, splice]
theorem toInstrS_c (xs : List Instr) (hx : xs.length ≤ 1048576) : CP Try.prog 49 [.lst 3 (xs.map encInstr)] (.own 0 3 0 xs.length xs.length) [xs.map encInstr] := by
  refine C.cpOwn (flat_Instr _) (C.by mixed (cfn_ok Try.func49 ok49) rfl ?_)
  simp (disch := omega) only [s49, go_sem, Nat.reduceEqDiff, Nat.reduceAdd, Nat.reduceSub, Nat.reduceLeDiff, Nat.reduceLT, Nat.reduceMul, Nat.reduceBEq, Int.reduceEq, Int.reduceLT, Int.reduceLE, Int.reduceNeg, Int.reduceToNat, Int.reduceSub, Int.reduceAdd, reduceIte]
  refine loopP_intro (fun m s => ∃ k : Nat, k ≤ xs.length ∧ m = xs.length - k ∧ s.e 0 = .lst 3 (xs.map encInstr) ∧ s.e 4 = .int .i64 k ∧ s.e 3 = .own 0 3 0 xs.length xs.length ∧ s.h[0]? = some ((xs.take k).map encInstr ++ List.replicate (xs.length - k) [.int .i64 0, .int .i64 0, .int .i64 0])) xs.length ⟨0, by omega, by omega, rfl, rfl, rfl, by simp⟩ ?_
  rintro m e hp ⟨k, hk, rfl, e0, e4, e3, hid⟩
  simp only at e0 e4 e3 hid
  simp (disch := omega) only [go_sem, Nat.reduceEqDiff, Nat.reduceAdd, Nat.reduceSub, Nat.reduceLeDiff, Nat.reduceLT, Nat.reduceMul, Nat.reduceBEq, Int.reduceEq, Int.reduceLT, Int.reduceLE, Int.reduceNeg, Int.reduceToNat, Int.reduceSub, Int.reduceAdd, reduceIte, e0, e4, e3, encInstr]
  refine condP_dec (fun hlt => ?_) (fun hlt => ?_)
  · have hlt' : k < xs.length := by omega
    simp (disch := omega) only [go_sem, Nat.reduceEqDiff, Nat.reduceAdd, Nat.reduceSub, Nat.reduceLeDiff, Nat.reduceLT, Nat.reduceMul, Nat.reduceBEq, Int.reduceEq, Int.reduceLT, Int.reduceLE, Int.reduceNeg, Int.reduceToNat, Int.reduceSub, Int.reduceAdd, reduceIte, e0, e4, e3, encInstr]
    refine CP.go (toInstr_c xs[k]) rfl rfl ?_
    simp (disch := omega) only [go_sem, Nat.reduceEqDiff, Nat.reduceAdd, Nat.reduceSub, Nat.reduceLeDiff, Nat.reduceLT, Nat.reduceMul, Nat.reduceBEq, Int.reduceEq, Int.reduceLT, Int.reduceLE, Int.reduceNeg, Int.reduceToNat, Int.reduceSub, Int.reduceAdd, reduceIte, e0, e4, e3, encInstr]
    have hst := storeH_row (sz := 3) (x := .agg (encInstr xs[k])) hid (half_len _ _ hk) hlt' (half_sz (fun _ => rfl) rfl) rfl
    simp only [encInstr, cells_agg] at hst
    simp (disch := omega) only [go_sem, Nat.reduceEqDiff, Nat.reduceAdd, Nat.reduceSub, Nat.reduceLeDiff, Nat.reduceLT, Nat.reduceMul, Nat.reduceBEq, Int.reduceEq, Int.reduceLT, Int.reduceLE, Int.reduceNeg, Int.reduceToNat, Int.reduceSub, Int.reduceAdd, reduceIte, e0, e4, e3, encInstr, hst]
    refine nextP_intro (xs.length - (k + 1)) (by omega) ⟨k + 1, by omega, rfl, ?_, ?_, ?_, ?_⟩
    · simp (disch := omega) only [go_sem, Nat.reduceEqDiff, Nat.reduceAdd, Nat.reduceSub, Nat.reduceLeDiff, Nat.reduceLT, Nat.reduceMul, Nat.reduceBEq, Int.reduceEq, Int.reduceLT, Int.reduceLE, Int.reduceNeg, Int.reduceToNat, Int.reduceSub, Int.reduceAdd, reduceIte, e0, e4, e3, encInstr, hst]
    · simp (disch := omega) only [go_sem, Nat.reduceEqDiff, Nat.reduceAdd, Nat.reduceSub, Nat.reduceLeDiff, Nat.reduceLT, Nat.reduceMul, Nat.reduceBEq, Int.reduceEq, Int.reduceLT, Int.reduceLE, Int.reduceNeg, Int.reduceToNat, Int.reduceSub, Int.reduceAdd, reduceIte, e0, e4, e3, encInstr, hst]; rfl
    · simp (disch := omega) only [go_sem, Nat.reduceEqDiff, Nat.reduceAdd, Nat.reduceSub, Nat.reduceLeDiff, Nat.reduceLT, Nat.reduceMul, Nat.reduceBEq, Int.reduceEq, Int.reduceLT, Int.reduceLE, Int.reduceNeg, Int.reduceToNat, Int.reduceSub, Int.reduceAdd, reduceIte, e0, e4, e3, encInstr, hst]
    · rw [heap_set _ hid]
      congr 1
      exact half_set encInstr _ hlt'
  · simp (disch := omega) only [go_sem, Nat.reduceEqDiff, Nat.reduceAdd, Nat.reduceSub, Nat.reduceLeDiff, Nat.reduceLT, Nat.reduceMul, Nat.reduceBEq, Int.reduceEq, Int.reduceLT, Int.reduceLE, Int.reduceNeg, Int.reduceToNat, Int.reduceSub, Int.reduceAdd, reduceIte, e0, e4, e3, encInstr]
    refine ⟨0, rfl, ?_⟩
    have : k = xs.length := by omega
    subst this
    rw [hid]; simp
theorem toInstrS_f (xs : List Instr) (hx : xs.length ≤ 1048576) : F Try.prog 49 [.lst 3 (xs.map encInstr)] (.lst 3 (xs.map encInstr)) := CP.f (flat_Instr _) (by simp) (toInstrS_c xs hx)
def eqInstrB (x y : Instr) : Bool := decide (x.op = y.op) && decide (x.a = y.a) && decide (x.b = y.b)
theorem eqInstr_c (x y : Instr) : CP Try.prog 105 [.agg (encInstr x), .agg (encInstr y)] (.bool (eqInstrB x y)) [] := by
  obtain ⟨f0, f1, f2⟩ := x
  refine CP.by rfl mixed (cfn_ok Try.func105 ok105) rfl ?_
  simp (disch := omega) only [s105, go_sem, Nat.reduceEqDiff, Nat.reduceAdd, Nat.reduceSub, Nat.reduceLeDiff, Nat.reduceLT, Nat.reduceMul, Nat.reduceBEq, Int.reduceEq, Int.reduceLT, Int.reduceLE, Int.reduceNeg, Int.reduceToNat, Int.reduceSub, Int.reduceAdd, reduceIte, encInstr]
  repeat' (first | (refine condP_t (by assumption) ?_ <;> (try simp (disch := omega) only [go_sem, Nat.reduceEqDiff, Nat.reduceAdd, Nat.reduceSub, Nat.reduceLeDiff, Nat.reduceLT, Nat.reduceMul, Nat.reduceBEq, Int.reduceEq, Int.reduceLT, Int.reduceLE, Int.reduceNeg, Int.reduceToNat, Int.reduceSub, Int.reduceAdd, reduceIte])) | (refine condP_f (by assumption) ?_ <;> (try simp (disch := omega) only [go_sem, Nat.reduceEqDiff, Nat.reduceAdd, Nat.reduceSub, Nat.reduceLeDiff, Nat.reduceLT, Nat.reduceMul, Nat.reduceBEq, Int.reduceEq, Int.reduceLT, Int.reduceLE, Int.reduceNeg, Int.reduceToNat, Int.reduceSub, Int.reduceAdd, reduceIte])) | (refine condP_dec (fun h => ?_) (fun h => ?_) <;> (try simp (disch := omega) only [go_sem, Nat.reduceEqDiff, Nat.reduceAdd, Nat.reduceSub, Nat.reduceLeDiff, Nat.reduceLT, Nat.reduceMul, Nat.reduceBEq, Int.reduceEq, Int.reduceLT, Int.reduceLE, Int.reduceNeg, Int.reduceToNat, Int.reduceSub, Int.reduceAdd, reduceIte])) | (refine condP_split (fun h => ?_) (fun h => ?_) <;> (try simp (disch := omega) only [go_sem, Nat.reduceEqDiff, Nat.reduceAdd, Nat.reduceSub, Nat.reduceLeDiff, Nat.reduceLT, Nat.reduceMul, Nat.reduceBEq, Int.reduceEq, Int.reduceLT, Int.reduceLE, Int.reduceNeg, Int.reduceToNat, Int.reduceSub, Int.reduceAdd, reduceIte])))
  all_goals simp_all [eqInstrB]
theorem eqInstrB_refl (x : Instr) : eqInstrB x x = true := by simp [eqInstrB]
theorem eqInstrS_c (xs : List Instr) (hx : xs.length ≤ 9223372036854775807) : CP Try.prog 51 [.lst 3 (xs.map encInstr), .lst 3 (xs.map encInstr)] (.bool true) [] := by
  refine CP.by rfl mixed (cfn_ok Try.func51 ok51) rfl ?_
  simp (disch := omega) only [s51, go_sem, Nat.reduceEqDiff, Nat.reduceAdd, Nat.reduceSub, Nat.reduceLeDiff, Nat.reduceLT, Nat.reduceMul, Nat.reduceBEq, Int.reduceEq, Int.reduceLT, Int.reduceLE, Int.reduceNeg, Int.reduceToNat, Int.reduceSub, Int.reduceAdd, reduceIte]
  refine loopP_intro (fun m s => ∃ k : Nat, k ≤ xs.length ∧ m = xs.length - k ∧ s.e 0 = .lst 3 (xs.map encInstr) ∧ s.e 1 = .lst 3 (xs.map encInstr) ∧ s.e 5 = .int .i64 k) xs.length ⟨0, by omega, by omega, rfl, rfl, rfl⟩ ?_
  rintro m e hp ⟨k, hk, rfl, e0, e1, e5⟩
  simp only at e0 e1 e5
  simp (disch := omega) only [go_sem, Nat.reduceEqDiff, Nat.reduceAdd, Nat.reduceSub, Nat.reduceLeDiff, Nat.reduceLT, Nat.reduceMul, Nat.reduceBEq, Int.reduceEq, Int.reduceLT, Int.reduceLE, Int.reduceNeg, Int.reduceToNat, Int.reduceSub, Int.reduceAdd, reduceIte, e0, e1, e5, encInstr]
  refine condP_dec (fun hlt => ?_) (fun hlt => ?_)
  · have hlt' : k < xs.length := by omega
    simp (disch := omega) only [go_sem, Nat.reduceEqDiff, Nat.reduceAdd, Nat.reduceSub, Nat.reduceLeDiff, Nat.reduceLT, Nat.reduceMul, Nat.reduceBEq, Int.reduceEq, Int.reduceLT, Int.reduceLE, Int.reduceNeg, Int.reduceToNat, Int.reduceSub, Int.reduceAdd, reduceIte, e0, e1, e5, encInstr]
    refine CP.go (eqInstr_c xs[k] xs[k]) rfl rfl ?_
    simp (disch := omega) only [go_sem, Nat.reduceEqDiff, Nat.reduceAdd, Nat.reduceSub, Nat.reduceLeDiff, Nat.reduceLT, Nat.reduceMul, Nat.reduceBEq, Int.reduceEq, Int.reduceLT, Int.reduceLE, Int.reduceNeg, Int.reduceToNat, Int.reduceSub, Int.reduceAdd, reduceIte, eqInstrB_refl, e0, e1, e5, encInstr]
    refine nextP_intro (xs.length - (k + 1)) (by omega) ⟨k + 1, by omega, rfl, ?_, ?_, ?_⟩
    · simp (disch := omega) only [go_sem, Nat.reduceEqDiff, Nat.reduceAdd, Nat.reduceSub, Nat.reduceLeDiff, Nat.reduceLT, Nat.reduceMul, Nat.reduceBEq, Int.reduceEq, Int.reduceLT, Int.reduceLE, Int.reduceNeg, Int.reduceToNat, Int.reduceSub, Int.reduceAdd, reduceIte, e0, e1, e5, encInstr]
    · simp (disch := omega) only [go_sem, Nat.reduceEqDiff, Nat.reduceAdd, Nat.reduceSub, Nat.reduceLeDiff, Nat.reduceLT, Nat.reduceMul, Nat.reduceBEq, Int.reduceEq, Int.reduceLT, Int.reduceLE, Int.reduceNeg, Int.reduceToNat, Int.reduceSub, Int.reduceAdd, reduceIte, e0, e1, e5, encInstr]
    · simp (disch := omega) only [go_sem, Nat.reduceEqDiff, Nat.reduceAdd, Nat.reduceSub, Nat.reduceLeDiff, Nat.reduceLT, Nat.reduceMul, Nat.reduceBEq, Int.reduceEq, Int.reduceLT, Int.reduceLE, Int.reduceNeg, Int.reduceToNat, Int.reduceSub, Int.reduceAdd, reduceIte, e0, e1, e5, encInstr]; rfl
  · simp (disch := omega) only [go_sem, Nat.reduceEqDiff, Nat.reduceAdd, Nat.reduceSub, Nat.reduceLeDiff, Nat.reduceLT, Nat.reduceMul, Nat.reduceBEq, Int.reduceEq, Int.reduceLT, Int.reduceLE, Int.reduceNeg, Int.reduceToNat, Int.reduceSub, Int.reduceAdd, reduceIte, e0, e1, e5, encInstr]
theorem markInstrS_c (h : Heap) (xs : List Instr) (v : V) (ids : List Nat) (k0 : Int) (o : Owns h (.lst 3 (xs.map encInstr)) v ids) (hx : xs.length ≤ 1048576) (hk : 0 ≤ k0 ∧ k0 ≤ 1000000000000) :
    C Try.prog 53 [v, .int .i64 k0] h (fun r h' => r = .int .i64 (k0 + 3 * xs.length) ∧ Off ids h h' ∧ h'.length = h.length) := by
  have lenv := Owns.len_ o
  have ovn := o.nohole
  simp only [List.length_map] at lenv
  have hnh : [v, .int .i64 k0].all V.noHole = true := by
    rcases (Owns.flat_ (flat_Instr xs)).1 o with ⟨rfl, _, _⟩ | ⟨l, rfl, _, _⟩ <;> rfl
  refine C.by mixed (cfn_ok Try.func53 ok53) hnh ?_
  simp (disch := omega) only [s53, go_sem, Nat.reduceEqDiff, Nat.reduceAdd, Nat.reduceSub, Nat.reduceLeDiff, Nat.reduceLT, Nat.reduceMul, Nat.reduceBEq, Int.reduceEq, Int.reduceLT, Int.reduceLE, Int.reduceNeg, Int.reduceToNat, Int.reduceSub, Int.reduceAdd, reduceIte]
  refine loopP_intro (fun m s => ∃ (k : Nat), k ≤ xs.length ∧ m = xs.length - k ∧ s.e 0 = v ∧ s.e 1 = .int .i64 (k0 + 3 * k) ∧ s.e 5 = .int .i64 k ∧ Off ids h s.h ∧ s.h.length = h.length ∧ (k < xs.length → ∃ (id : Nat) (c : Blk), id ∈ ids ∧ v = .own id 3 0 xs.length xs.length ∧ s.h[id]? = some c ∧ c.length = xs.length ∧ ∀ e ∈ c, e.length = 3)) xs.length ⟨0, by omega, by omega, by simp (disch := omega) only [go_sem, Nat.reduceEqDiff, Nat.reduceAdd, Nat.reduceSub, Nat.reduceLeDiff, Nat.reduceLT, Nat.reduceMul, Nat.reduceBEq, Int.reduceEq, Int.reduceLT, Int.reduceLE, Int.reduceNeg, Int.reduceToNat, Int.reduceSub, Int.reduceAdd, reduceIte], by simp (disch := omega) only [go_sem, Nat.reduceEqDiff, Nat.reduceAdd, Nat.reduceSub, Nat.reduceLeDiff, Nat.reduceLT, Nat.reduceMul, Nat.reduceBEq, Int.reduceEq, Int.reduceLT, Int.reduceLE, Int.reduceNeg, Int.reduceToNat, Int.reduceSub, Int.reduceAdd, reduceIte] <;> simp, by simp (disch := omega) only [go_sem, Nat.reduceEqDiff, Nat.reduceAdd, Nat.reduceSub, Nat.reduceLeDiff, Nat.reduceLT, Nat.reduceMul, Nat.reduceBEq, Int.reduceEq, Int.reduceLT, Int.reduceLE, Int.reduceNeg, Int.reduceToNat, Int.reduceSub, Int.reduceAdd, reduceIte] <;> rfl, fun _ _ => rfl, rfl, fun h0 => by
    rcases (Owns.flat_ (flat_Instr xs)).1 o with ⟨_, e, _⟩ | ⟨l, e, hl, e2⟩
    · simp at e; subst e; simp at h0
    · rw [e2]
      exact ⟨l, _, by simp, by rw [e]; simp, hl, by simp, fun e he => by obtain ⟨s, _, rfl⟩ := List.mem_map.1 he; rfl⟩⟩ ?_
  rintro m e hp ⟨k, hk', rfl, e0, e1, e5, hoff, hlen, hc⟩
  simp only at e0 e1 e5 hoff hlen hc
  simp (disch := omega) only [go_sem, Nat.reduceEqDiff, Nat.reduceAdd, Nat.reduceSub, Nat.reduceLeDiff, Nat.reduceLT, Nat.reduceMul, Nat.reduceBEq, Int.reduceEq, Int.reduceLT, Int.reduceLE, Int.reduceNeg, Int.reduceToNat, Int.reduceSub, Int.reduceAdd, reduceIte, e0, e1, e5, ovn, lenv]
  refine condP_dec (fun hlt => ?_) (fun hlt => ?_)
  · have hlt' : k < xs.length := by omega
    refine Exists.elim (hc hlt') fun id z => ?_
    refine Exists.elim z fun c z => ?_
    have hidm := z.1
    have hv := z.2.1
    have hid := z.2.2.1
    have hcn := z.2.2.2.1
    have hcr := z.2.2.2.2
    clear z
    subst hv
    have hlk : k < c.length := by omega
    have hid0 : hp = hp.set id c := by
      obtain ⟨hl, he⟩ := List.getElem?_eq_some_iff.1 hid
      subst he
      simp
    have step : ∀ (d : Blk) (j : Nat) (v : Int), d.length = xs.length → (∀ e ∈ d, e.length = 3) → j < 3 → ∃ d', storeH (hp.set id d) 1 (.ptr id xs.length k j) (.int .i64 v) = some (hp.set id d') ∧ d'.length = xs.length ∧ ∀ e ∈ d', e.length = 3 := fun d j v h1 h2 h3 => by
      have hk' : k < d.length := by omega
      refine ⟨d.set k (d[k].set j (.int .i64 v)), ?_, by simpa using h1, fun e he => ?_⟩
      · rw [storeH_cell (heap_set _ hid) h1 (List.getElem?_eq_getElem hk') (by rw [h2 _ (List.getElem_mem hk')]; exact h3) rfl rfl, List.set_set]
      · rcases List.mem_or_eq_of_mem_set he with h4 | h4
        · exact h2 e h4
        · rw [h4]; simpa using h2 _ (List.getElem_mem hk')
    obtain ⟨d1, s1, l1, r1⟩ := step c 0 (k0 + 3 * k) hcn hcr (by omega)
    obtain ⟨d2, s2, l2, r2⟩ := step d1 1 (k0 + 3 * k + 1) l1 r1 (by omega)
    obtain ⟨d3, s3, l3, r3⟩ := step d2 2 (k0 + 3 * k + 1 + 1) l2 r2 (by omega)
    rw [← hid0] at s1
    simp (disch := omega) only [go_sem, Nat.reduceEqDiff, Nat.reduceAdd, Nat.reduceSub, Nat.reduceLeDiff, Nat.reduceLT, Nat.reduceMul, Nat.reduceBEq, Int.reduceEq, Int.reduceLT, Int.reduceLE, Int.reduceNeg, Int.reduceToNat, Int.reduceSub, Int.reduceAdd, reduceIte, e0, e1, e5, s1, s2, s3]
    refine nextP_intro (xs.length - (k + 1)) (by omega) ⟨k + 1, by omega, rfl, by simp (disch := omega) only [go_sem, Nat.reduceEqDiff, Nat.reduceAdd, Nat.reduceSub, Nat.reduceLeDiff, Nat.reduceLT, Nat.reduceMul, Nat.reduceBEq, Int.reduceEq, Int.reduceLT, Int.reduceLE, Int.reduceNeg, Int.reduceToNat, Int.reduceSub, Int.reduceAdd, reduceIte, e0, e1, e5, s1, s2, s3], by simp (disch := omega) only [go_sem, Nat.reduceEqDiff, Nat.reduceAdd, Nat.reduceSub, Nat.reduceLeDiff, Nat.reduceLT, Nat.reduceMul, Nat.reduceBEq, Int.reduceEq, Int.reduceLT, Int.reduceLE, Int.reduceNeg, Int.reduceToNat, Int.reduceSub, Int.reduceAdd, reduceIte, e0, e1, e5, s1, s2, s3]; exact congrArg (V.int .i64) (by omega), by simp (disch := omega) only [go_sem, Nat.reduceEqDiff, Nat.reduceAdd, Nat.reduceSub, Nat.reduceLeDiff, Nat.reduceLT, Nat.reduceMul, Nat.reduceBEq, Int.reduceEq, Int.reduceLT, Int.reduceLE, Int.reduceNeg, Int.reduceToNat, Int.reduceSub, Int.reduceAdd, reduceIte, e0, e1, e5, s1, s2, s3] <;> rfl, ?_, ?_, fun _ => ⟨id, _, hidm, rfl, heap_set _ hid, l3, r3⟩⟩
    · intro i hi
      have : id ≠ i := by rintro rfl; exact hi hidm
      rw [List.getElem?_set_ne this]; exact hoff i hi
    · rw [List.length_set]; exact hlen
  · simp (disch := omega) only [go_sem, Nat.reduceEqDiff, Nat.reduceAdd, Nat.reduceSub, Nat.reduceLeDiff, Nat.reduceLT, Nat.reduceMul, Nat.reduceBEq, Int.reduceEq, Int.reduceLT, Int.reduceLE, Int.reduceNeg, Int.reduceToNat, Int.reduceSub, Int.reduceAdd, reduceIte, e0, e1, e5, ovn, lenv]
    have : k = xs.length := by omega
    subst this
    exact ⟨rfl, hoff, hlen⟩

theorem refs_Shot (n : Nat) (x : Shot) : V.refsL n (encShot x) = true := rfl
theorem refs_ShotS (n : Nat) (xs : List Shot) : V.refs n (.lst 2 (xs.map encShot)) = true := by simp [V.refs, refsLL_map encShot (refs_Shot n) xs]
theorem flat_Shot (xs : List Shot) : flat (xs.map encShot) = true := by simp [flat, encShot, V.scalar]
theorem szShotS_c (xs : List Shot) (left : Int) (hx : xs.length ≤ 9223372036854775807) (hl : 0 ≤ left ∧ left ≤ 1048576) : CP Try.prog 47 [.lst 2 (xs.map encShot), .int .i64 left] (.int .i64 (szM xs.length left)) [] := by
  refine CP.by rfl mixed (cfn_ok Try.func47 ok47) rfl ?_
  simp (disch := omega) only [s47, go_sem, Nat.reduceEqDiff, Nat.reduceAdd, Nat.reduceSub, Nat.reduceLeDiff, Nat.reduceLT, Nat.reduceMul, Nat.reduceBEq, Int.reduceEq, Int.reduceLT, Int.reduceLE, Int.reduceNeg, Int.reduceToNat, Int.reduceSub, Int.reduceAdd, reduceIte]
  refine condP_dec (fun h => ?_) (fun h => ?_) <;> simp (disch := omega) only [go_sem, Nat.reduceEqDiff, Nat.reduceAdd, Nat.reduceSub, Nat.reduceLeDiff, Nat.reduceLT, Nat.reduceMul, Nat.reduceBEq, Int.reduceEq, Int.reduceLT, Int.reduceLE, Int.reduceNeg, Int.reduceToNat, Int.reduceSub, Int.reduceAdd, reduceIte] <;> simp [szM, h]
theorem toShot_c (s : Shot) : CP Try.prog 104 [.agg (encShot s)] (.agg (encShot s)) [] := by
  obtain ⟨f0, f1⟩ := s
  refine CP.by rfl mixed (cfn_ok Try.func104 ok104) rfl ?_
  simp (disch := omega) only [s104, go_sem, Nat.reduceEqDiff, Nat.reduceAdd, Nat.reduceSub, Nat.reduceLeDiff, Nat.reduceLT, Nat.reduceMul, Nat.reduceBEq, Int.reduceEq, Int.reduceLT, Int.reduceLE, Int.reduceNeg, Int.reduceToNat, Int.reduceSub, Int.reduceAdd, reduceIte, encShot, storeH, storeB, splice]
theorem toShotS_c (xs : List Shot) (hx : xs.length ≤ 1048576) : CP Try.prog 50 [.lst 2 (xs.map encShot)] (.own 0 2 0 xs.length xs.length) [xs.map encShot] := by
  refine C.cpOwn (flat_Shot _) (C.by mixed (cfn_ok Try.func50 ok50) rfl ?_)
  simp (disch := omega) only [s50, go_sem, Nat.reduceEqDiff, Nat.reduceAdd, Nat.reduceSub, Nat.reduceLeDiff, Nat.reduceLT, Nat.reduceMul, Nat.reduceBEq, Int.reduceEq, Int.reduceLT, Int.reduceLE, Int.reduceNeg, Int.reduceToNat, Int.reduceSub, Int.reduceAdd, reduceIte]
  refine loopP_intro (fun m s => ∃ k : Nat, k ≤ xs.length ∧ m = xs.length - k ∧ s.e 0 = .lst 2 (xs.map encShot) ∧ s.e 4 = .int .i64 k ∧ s.e 3 = .own 0 2 0 xs.length xs.length ∧ s.h[0]? = some ((xs.take k).map encShot ++ List.replicate (xs.length - k) [.int .i64 0, .int .i64 0])) xs.length ⟨0, by omega, by omega, rfl, rfl, rfl, by simp⟩ ?_
  rintro m e hp ⟨k, hk, rfl, e0, e4, e3, hid⟩
  simp only at e0 e4 e3 hid
  simp (disch := omega) only [go_sem, Nat.reduceEqDiff, Nat.reduceAdd, Nat.reduceSub, Nat.reduceLeDiff, Nat.reduceLT, Nat.reduceMul, Nat.reduceBEq, Int.reduceEq, Int.reduceLT, Int.reduceLE, Int.reduceNeg, Int.reduceToNat, Int.reduceSub, Int.reduceAdd, reduceIte, e0, e4, e3, encShot]
  refine condP_dec (fun hlt => ?_) (fun hlt => ?_)
  · have hlt' : k < xs.length := by omega
    simp (disch := omega) only [go_sem, Nat.reduceEqDiff, Nat.reduceAdd, Nat.reduceSub, Nat.reduceLeDiff, Nat.reduceLT, Nat.reduceMul, Nat.reduceBEq, Int.reduceEq, Int.reduceLT, Int.reduceLE, Int.reduceNeg, Int.reduceToNat, Int.reduceSub, Int.reduceAdd, reduceIte, e0, e4, e3, encShot]
    refine CP.go (toShot_c xs[k]) rfl rfl ?_
    simp (disch := omega) only [go_sem, Nat.reduceEqDiff, Nat.reduceAdd, Nat.reduceSub, Nat.reduceLeDiff, Nat.reduceLT, Nat.reduceMul, Nat.reduceBEq, Int.reduceEq, Int.reduceLT, Int.reduceLE, Int.reduceNeg, Int.reduceToNat, Int.reduceSub, Int.reduceAdd, reduceIte, e0, e4, e3, encShot]
    have hst := storeH_row (sz := 2) (x := .agg (encShot xs[k])) hid (half_len _ _ hk) hlt' (half_sz (fun _ => rfl) rfl) rfl
    simp only [encShot, cells_agg] at hst
    simp (disch := omega) only [go_sem, Nat.reduceEqDiff, Nat.reduceAdd, Nat.reduceSub, Nat.reduceLeDiff, Nat.reduceLT, Nat.reduceMul, Nat.reduceBEq, Int.reduceEq, Int.reduceLT, Int.reduceLE, Int.reduceNeg, Int.reduceToNat, Int.reduceSub, Int.reduceAdd, reduceIte, e0, e4, e3, encShot, hst]
    refine nextP_intro (xs.length - (k + 1)) (by omega) ⟨k + 1, by omega, rfl, ?_, ?_, ?_, ?_⟩
    · simp (disch := omega) only [go_sem, Nat.reduceEqDiff, Nat.reduceAdd, Nat.reduceSub, Nat.reduceLeDiff, Nat.reduceLT, Nat.reduceMul, Nat.reduceBEq, Int.reduceEq, Int.reduceLT, Int.reduceLE, Int.reduceNeg, Int.reduceToNat, Int.reduceSub, Int.reduceAdd, reduceIte, e0, e4, e3, encShot, hst]
    · simp (disch := omega) only [go_sem, Nat.reduceEqDiff, Nat.reduceAdd, Nat.reduceSub, Nat.reduceLeDiff, Nat.reduceLT, Nat.reduceMul, Nat.reduceBEq, Int.reduceEq, Int.reduceLT, Int.reduceLE, Int.reduceNeg, Int.reduceToNat, Int.reduceSub, Int.reduceAdd, reduceIte, e0, e4, e3, encShot, hst]; rfl
    · simp (disch := omega) only [go_sem, Nat.reduceEqDiff, Nat.reduceAdd, Nat.reduceSub, Nat.reduceLeDiff, Nat.reduceLT, Nat.reduceMul, Nat.reduceBEq, Int.reduceEq, Int.reduceLT, Int.reduceLE, Int.reduceNeg, Int.reduceToNat, Int.reduceSub, Int.reduceAdd, reduceIte, e0, e4, e3, encShot, hst]
    · rw [heap_set _ hid]
      congr 1
      exact half_set encShot _ hlt'
  · simp (disch := omega) only [go_sem, Nat.reduceEqDiff, Nat.reduceAdd, Nat.reduceSub, Nat.reduceLeDiff, Nat.reduceLT, Nat.reduceMul, Nat.reduceBEq, Int.reduceEq, Int.reduceLT, Int.reduceLE, Int.reduceNeg, Int.reduceToNat, Int.reduceSub, Int.reduceAdd, reduceIte, e0, e4, e3, encShot]
    refine ⟨0, rfl, ?_⟩
    have : k = xs.length := by omega
    subst this
    rw [hid]; simp
theorem toShotS_f (xs : List Shot) (hx : xs.length ≤ 1048576) : F Try.prog 50 [.lst 2 (xs.map encShot)] (.lst 2 (xs.map encShot)) := CP.f (flat_Shot _) (by simp) (toShotS_c xs hx)
def eqShotB (x y : Shot) : Bool := decide (x.steps = y.steps) && decide (x.writes = y.writes)
theorem eqShot_c (x y : Shot) : CP Try.prog 106 [.agg (encShot x), .agg (encShot y)] (.bool (eqShotB x y)) [] := by
  obtain ⟨f0, f1⟩ := x
  refine CP.by rfl mixed (cfn_ok Try.func106 ok106) rfl ?_
  simp (disch := omega) only [s106, go_sem, Nat.reduceEqDiff, Nat.reduceAdd, Nat.reduceSub, Nat.reduceLeDiff, Nat.reduceLT, Nat.reduceMul, Nat.reduceBEq, Int.reduceEq, Int.reduceLT, Int.reduceLE, Int.reduceNeg, Int.reduceToNat, Int.reduceSub, Int.reduceAdd, reduceIte, encShot]
  repeat' (first | (refine condP_t (by assumption) ?_ <;> (try simp (disch := omega) only [go_sem, Nat.reduceEqDiff, Nat.reduceAdd, Nat.reduceSub, Nat.reduceLeDiff, Nat.reduceLT, Nat.reduceMul, Nat.reduceBEq, Int.reduceEq, Int.reduceLT, Int.reduceLE, Int.reduceNeg, Int.reduceToNat, Int.reduceSub, Int.reduceAdd, reduceIte])) | (refine condP_f (by assumption) ?_ <;> (try simp (disch := omega) only [go_sem, Nat.reduceEqDiff, Nat.reduceAdd, Nat.reduceSub, Nat.reduceLeDiff, Nat.reduceLT, Nat.reduceMul, Nat.reduceBEq, Int.reduceEq, Int.reduceLT, Int.reduceLE, Int.reduceNeg, Int.reduceToNat, Int.reduceSub, Int.reduceAdd, reduceIte])) | (refine condP_dec (fun h => ?_) (fun h => ?_) <;> (try simp (disch := omega) only [go_sem, Nat.reduceEqDiff, Nat.reduceAdd, Nat.reduceSub, Nat.reduceLeDiff, Nat.reduceLT, Nat.reduceMul, Nat.reduceBEq, Int.reduceEq, Int.reduceLT, Int.reduceLE, Int.reduceNeg, Int.reduceToNat, Int.reduceSub, Int.reduceAdd, reduceIte])) | (refine condP_split (fun h => ?_) (fun h => ?_) <;> (try simp (disch := omega) only [go_sem, Nat.reduceEqDiff, Nat.reduceAdd, Nat.reduceSub, Nat.reduceLeDiff, Nat.reduceLT, Nat.reduceMul, Nat.reduceBEq, Int.reduceEq, Int.reduceLT, Int.reduceLE, Int.reduceNeg, Int.reduceToNat, Int.reduceSub, Int.reduceAdd, reduceIte])))
  all_goals simp_all [eqShotB]
theorem eqShotB_refl (x : Shot) : eqShotB x x = true := by simp [eqShotB]
theorem eqShotS_c (xs : List Shot) (hx : xs.length ≤ 9223372036854775807) : CP Try.prog 52 [.lst 2 (xs.map encShot), .lst 2 (xs.map encShot)] (.bool true) [] := by
  refine CP.by rfl mixed (cfn_ok Try.func52 ok52) rfl ?_
  simp (disch := omega) only [s52, go_sem, Nat.reduceEqDiff, Nat.reduceAdd, Nat.reduceSub, Nat.reduceLeDiff, Nat.reduceLT, Nat.reduceMul, Nat.reduceBEq, Int.reduceEq, Int.reduceLT, Int.reduceLE, Int.reduceNeg, Int.reduceToNat, Int.reduceSub, Int.reduceAdd, reduceIte]
  refine loopP_intro (fun m s => ∃ k : Nat, k ≤ xs.length ∧ m = xs.length - k ∧ s.e 0 = .lst 2 (xs.map encShot) ∧ s.e 1 = .lst 2 (xs.map encShot) ∧ s.e 5 = .int .i64 k) xs.length ⟨0, by omega, by omega, rfl, rfl, rfl⟩ ?_
  rintro m e hp ⟨k, hk, rfl, e0, e1, e5⟩
  simp only at e0 e1 e5
  simp (disch := omega) only [go_sem, Nat.reduceEqDiff, Nat.reduceAdd, Nat.reduceSub, Nat.reduceLeDiff, Nat.reduceLT, Nat.reduceMul, Nat.reduceBEq, Int.reduceEq, Int.reduceLT, Int.reduceLE, Int.reduceNeg, Int.reduceToNat, Int.reduceSub, Int.reduceAdd, reduceIte, e0, e1, e5, encShot]
  refine condP_dec (fun hlt => ?_) (fun hlt => ?_)
  · have hlt' : k < xs.length := by omega
    simp (disch := omega) only [go_sem, Nat.reduceEqDiff, Nat.reduceAdd, Nat.reduceSub, Nat.reduceLeDiff, Nat.reduceLT, Nat.reduceMul, Nat.reduceBEq, Int.reduceEq, Int.reduceLT, Int.reduceLE, Int.reduceNeg, Int.reduceToNat, Int.reduceSub, Int.reduceAdd, reduceIte, e0, e1, e5, encShot]
    refine CP.go (eqShot_c xs[k] xs[k]) rfl rfl ?_
    simp (disch := omega) only [go_sem, Nat.reduceEqDiff, Nat.reduceAdd, Nat.reduceSub, Nat.reduceLeDiff, Nat.reduceLT, Nat.reduceMul, Nat.reduceBEq, Int.reduceEq, Int.reduceLT, Int.reduceLE, Int.reduceNeg, Int.reduceToNat, Int.reduceSub, Int.reduceAdd, reduceIte, eqShotB_refl, e0, e1, e5, encShot]
    refine nextP_intro (xs.length - (k + 1)) (by omega) ⟨k + 1, by omega, rfl, ?_, ?_, ?_⟩
    · simp (disch := omega) only [go_sem, Nat.reduceEqDiff, Nat.reduceAdd, Nat.reduceSub, Nat.reduceLeDiff, Nat.reduceLT, Nat.reduceMul, Nat.reduceBEq, Int.reduceEq, Int.reduceLT, Int.reduceLE, Int.reduceNeg, Int.reduceToNat, Int.reduceSub, Int.reduceAdd, reduceIte, e0, e1, e5, encShot]
    · simp (disch := omega) only [go_sem, Nat.reduceEqDiff, Nat.reduceAdd, Nat.reduceSub, Nat.reduceLeDiff, Nat.reduceLT, Nat.reduceMul, Nat.reduceBEq, Int.reduceEq, Int.reduceLT, Int.reduceLE, Int.reduceNeg, Int.reduceToNat, Int.reduceSub, Int.reduceAdd, reduceIte, e0, e1, e5, encShot]
    · simp (disch := omega) only [go_sem, Nat.reduceEqDiff, Nat.reduceAdd, Nat.reduceSub, Nat.reduceLeDiff, Nat.reduceLT, Nat.reduceMul, Nat.reduceBEq, Int.reduceEq, Int.reduceLT, Int.reduceLE, Int.reduceNeg, Int.reduceToNat, Int.reduceSub, Int.reduceAdd, reduceIte, e0, e1, e5, encShot]; rfl
  · simp (disch := omega) only [go_sem, Nat.reduceEqDiff, Nat.reduceAdd, Nat.reduceSub, Nat.reduceLeDiff, Nat.reduceLT, Nat.reduceMul, Nat.reduceBEq, Int.reduceEq, Int.reduceLT, Int.reduceLE, Int.reduceNeg, Int.reduceToNat, Int.reduceSub, Int.reduceAdd, reduceIte, e0, e1, e5, encShot]
theorem markShotS_c (h : Heap) (xs : List Shot) (v : V) (ids : List Nat) (k0 : Int) (o : Owns h (.lst 2 (xs.map encShot)) v ids) (hx : xs.length ≤ 1048576) (hk : 0 ≤ k0 ∧ k0 ≤ 1000000000000) :
    C Try.prog 54 [v, .int .i64 k0] h (fun r h' => r = .int .i64 (k0 + 2 * xs.length) ∧ Off ids h h' ∧ h'.length = h.length) := by
  have lenv := Owns.len_ o
  have ovn := o.nohole
  simp only [List.length_map] at lenv
  have hnh : [v, .int .i64 k0].all V.noHole = true := by
    rcases (Owns.flat_ (flat_Shot xs)).1 o with ⟨rfl, _, _⟩ | ⟨l, rfl, _, _⟩ <;> rfl
  refine C.by mixed (cfn_ok Try.func54 ok54) hnh ?_
  simp (disch := omega) only [s54, go_sem, Nat.reduceEqDiff, Nat.reduceAdd, Nat.reduceSub, Nat.reduceLeDiff, Nat.reduceLT, Nat.reduceMul, Nat.reduceBEq, Int.reduceEq, Int.reduceLT, Int.reduceLE, Int.reduceNeg, Int.reduceToNat, Int.reduceSub, Int.reduceAdd, reduceIte]
  refine loopP_intro (fun m s => ∃ (k : Nat), k ≤ xs.length ∧ m = xs.length - k ∧ s.e 0 = v ∧ s.e 1 = .int .i64 (k0 + 2 * k) ∧ s.e 5 = .int .i64 k ∧ Off ids h s.h ∧ s.h.length = h.length ∧ (k < xs.length → ∃ (id : Nat) (c : Blk), id ∈ ids ∧ v = .own id 2 0 xs.length xs.length ∧ s.h[id]? = some c ∧ c.length = xs.length ∧ ∀ e ∈ c, e.length = 2)) xs.length ⟨0, by omega, by omega, by simp (disch := omega) only [go_sem, Nat.reduceEqDiff, Nat.reduceAdd, Nat.reduceSub, Nat.reduceLeDiff, Nat.reduceLT, Nat.reduceMul, Nat.reduceBEq, Int.reduceEq, Int.reduceLT, Int.reduceLE, Int.reduceNeg, Int.reduceToNat, Int.reduceSub, Int.reduceAdd, reduceIte], by simp (disch := omega) only [go_sem, Nat.reduceEqDiff, Nat.reduceAdd, Nat.reduceSub, Nat.reduceLeDiff, Nat.reduceLT, Nat.reduceMul, Nat.reduceBEq, Int.reduceEq, Int.reduceLT, Int.reduceLE, Int.reduceNeg, Int.reduceToNat, Int.reduceSub, Int.reduceAdd, reduceIte] <;> simp, by simp (disch := omega) only [go_sem, Nat.reduceEqDiff, Nat.reduceAdd, Nat.reduceSub, Nat.reduceLeDiff, Nat.reduceLT, Nat.reduceMul, Nat.reduceBEq, Int.reduceEq, Int.reduceLT, Int.reduceLE, Int.reduceNeg, Int.reduceToNat, Int.reduceSub, Int.reduceAdd, reduceIte] <;> rfl, fun _ _ => rfl, rfl, fun h0 => by
    rcases (Owns.flat_ (flat_Shot xs)).1 o with ⟨_, e, _⟩ | ⟨l, e, hl, e2⟩
    · simp at e; subst e; simp at h0
    · rw [e2]
      exact ⟨l, _, by simp, by rw [e]; simp, hl, by simp, fun e he => by obtain ⟨s, _, rfl⟩ := List.mem_map.1 he; rfl⟩⟩ ?_
  rintro m e hp ⟨k, hk', rfl, e0, e1, e5, hoff, hlen, hc⟩
  simp only at e0 e1 e5 hoff hlen hc
  simp (disch := omega) only [go_sem, Nat.reduceEqDiff, Nat.reduceAdd, Nat.reduceSub, Nat.reduceLeDiff, Nat.reduceLT, Nat.reduceMul, Nat.reduceBEq, Int.reduceEq, Int.reduceLT, Int.reduceLE, Int.reduceNeg, Int.reduceToNat, Int.reduceSub, Int.reduceAdd, reduceIte, e0, e1, e5, ovn, lenv]
  refine condP_dec (fun hlt => ?_) (fun hlt => ?_)
  · have hlt' : k < xs.length := by omega
    refine Exists.elim (hc hlt') fun id z => ?_
    refine Exists.elim z fun c z => ?_
    have hidm := z.1
    have hv := z.2.1
    have hid := z.2.2.1
    have hcn := z.2.2.2.1
    have hcr := z.2.2.2.2
    clear z
    subst hv
    have hlk : k < c.length := by omega
    have hid0 : hp = hp.set id c := by
      obtain ⟨hl, he⟩ := List.getElem?_eq_some_iff.1 hid
      subst he
      simp
    have step : ∀ (d : Blk) (j : Nat) (v : Int), d.length = xs.length → (∀ e ∈ d, e.length = 2) → j < 2 → ∃ d', storeH (hp.set id d) 1 (.ptr id xs.length k j) (.int .i64 v) = some (hp.set id d') ∧ d'.length = xs.length ∧ ∀ e ∈ d', e.length = 2 := fun d j v h1 h2 h3 => by
      have hk' : k < d.length := by omega
      refine ⟨d.set k (d[k].set j (.int .i64 v)), ?_, by simpa using h1, fun e he => ?_⟩
      · rw [storeH_cell (heap_set _ hid) h1 (List.getElem?_eq_getElem hk') (by rw [h2 _ (List.getElem_mem hk')]; exact h3) rfl rfl, List.set_set]
      · rcases List.mem_or_eq_of_mem_set he with h4 | h4
        · exact h2 e h4
        · rw [h4]; simpa using h2 _ (List.getElem_mem hk')
    obtain ⟨d1, s1, l1, r1⟩ := step c 0 (k0 + 2 * k) hcn hcr (by omega)
    obtain ⟨d2, s2, l2, r2⟩ := step d1 1 (k0 + 2 * k + 1) l1 r1 (by omega)
    rw [← hid0] at s1
    simp (disch := omega) only [go_sem, Nat.reduceEqDiff, Nat.reduceAdd, Nat.reduceSub, Nat.reduceLeDiff, Nat.reduceLT, Nat.reduceMul, Nat.reduceBEq, Int.reduceEq, Int.reduceLT, Int.reduceLE, Int.reduceNeg, Int.reduceToNat, Int.reduceSub, Int.reduceAdd, reduceIte, e0, e1, e5, s1, s2]
    refine nextP_intro (xs.length - (k + 1)) (by omega) ⟨k + 1, by omega, rfl, by simp (disch := omega) only [go_sem, Nat.reduceEqDiff, Nat.reduceAdd, Nat.reduceSub, Nat.reduceLeDiff, Nat.reduceLT, Nat.reduceMul, Nat.reduceBEq, Int.reduceEq, Int.reduceLT, Int.reduceLE, Int.reduceNeg, Int.reduceToNat, Int.reduceSub, Int.reduceAdd, reduceIte, e0, e1, e5, s1, s2], by simp (disch := omega) only [go_sem, Nat.reduceEqDiff, Nat.reduceAdd, Nat.reduceSub, Nat.reduceLeDiff, Nat.reduceLT, Nat.reduceMul, Nat.reduceBEq, Int.reduceEq, Int.reduceLT, Int.reduceLE, Int.reduceNeg, Int.reduceToNat, Int.reduceSub, Int.reduceAdd, reduceIte, e0, e1, e5, s1, s2]; exact congrArg (V.int .i64) (by omega), by simp (disch := omega) only [go_sem, Nat.reduceEqDiff, Nat.reduceAdd, Nat.reduceSub, Nat.reduceLeDiff, Nat.reduceLT, Nat.reduceMul, Nat.reduceBEq, Int.reduceEq, Int.reduceLT, Int.reduceLE, Int.reduceNeg, Int.reduceToNat, Int.reduceSub, Int.reduceAdd, reduceIte, e0, e1, e5, s1, s2] <;> rfl, ?_, ?_, fun _ => ⟨id, _, hidm, rfl, heap_set _ hid, l2, r2⟩⟩
    · intro i hi
      have : id ≠ i := by rintro rfl; exact hi hidm
      rw [List.getElem?_set_ne this]; exact hoff i hi
    · rw [List.length_set]; exact hlen
  · simp (disch := omega) only [go_sem, Nat.reduceEqDiff, Nat.reduceAdd, Nat.reduceSub, Nat.reduceLeDiff, Nat.reduceLT, Nat.reduceMul, Nat.reduceBEq, Int.reduceEq, Int.reduceLT, Int.reduceLE, Int.reduceNeg, Int.reduceToNat, Int.reduceSub, Int.reduceAdd, reduceIte, e0, e1, e5, ovn, lenv]
    have : k = xs.length := by omega
    subst this
    exact ⟨rfl, hoff, hlen⟩

end Go.Av
