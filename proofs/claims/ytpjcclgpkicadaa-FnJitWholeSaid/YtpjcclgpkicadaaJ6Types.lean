import Derived.Test.YtpjcclgpkicadaaJ6Some
namespace Go.Av
open Go.Proofs Go.RowKit
set_option linter.unusedVariables false
set_option linter.unusedSimpArgs false
set_option maxRecDepth 100000
set_option maxHeartbeats 4000000
def szM (n : Nat) (left : Int) : Int := if left - n < 0 then -1 else left - n
theorem szM_bd (n : Nat) (left : Int) (h : 0 ≤ left ∧ left ≤ 1048576) : -1 ≤ szM n left ∧ szM n left ≤ 1048576 := by unfold szM; split <;> omega
theorem szM_ok {n : Nat} {left : Int} (h : left ≤ 1048576) (h0 : ¬ szM n left < 0) : n ≤ 1048576 := by unfold szM at h0; split at h0 <;> omega
theorem szIntS_c (xs : List Int) (left : Int) (hx : xs.length ≤ 9223372036854775807) (hl : 0 ≤ left ∧ left ≤ 1048576) : CP Try.prog 89 [.lst 1 (xs.map encI), .int .i64 left] (.int .i64 (szM xs.length left)) [] := by
  refine CP.by rfl mixed (cfn_ok Try.func89 ok89) rfl ?_
  simp (disch := omega) only [s89, go_sem, Nat.reduceEqDiff, Nat.reduceAdd, Nat.reduceSub, Nat.reduceLeDiff, Nat.reduceLT, Nat.reduceMul, Nat.reduceBEq, Int.reduceEq, Int.reduceLT, Int.reduceLE, Int.reduceNeg, Int.reduceToNat, Int.reduceSub, Int.reduceAdd, reduceIte]
  refine condP_dec (fun h => ?_) (fun h => ?_) <;> simp (disch := omega) only [go_sem, Nat.reduceEqDiff, Nat.reduceAdd, Nat.reduceSub, Nat.reduceLeDiff, Nat.reduceLT, Nat.reduceMul, Nat.reduceBEq, Int.reduceEq, Int.reduceLT, Int.reduceLE, Int.reduceNeg, Int.reduceToNat, Int.reduceSub, Int.reduceAdd, reduceIte] <;> simp [szM, h]
def mkI (k : Int) (n : Nat) : List Int := (List.range n).map fun (i : Nat) => k + (i : Int)
theorem mkI_len (k : Int) (n : Nat) : (mkI k n).length = n := by simp [mkI]
/-- What a marking keeps: all blocks but those told. -/
def Off (ids : List Nat) (h h' : Heap) : Prop := ∀ j, j ∉ ids → h'[j]? = h[j]?
theorem Off.trans {ids js : List Nat} {a b c : Heap} (e : Off ids a b) (e' : Off js b c) : Off (ids ++ js) a c := fun j hj => by
  rw [e' j (fun q => hj (by simp [q])), e j (fun q => hj (by simp [q]))]
theorem Owns.off {h h' : Heap} {y v : V} {ids js : List Nat} (o : Owns h y v ids) (f : Off js h h') (hd : ∀ i ∈ ids, i ∉ js) : Owns h' y v ids := o.keep fun i hi => f i (hd i hi)
theorem CP.f {P : Program} {f : FuncId} {args : List V} {sz n : Nat} {b : Blk} (hf : flat b = true) (hn : b.length = n) (h : CP P f args (.own 0 sz 0 n n) [b]) : F P f args (.lst sz b) :=
  C.mono h fun r h' ⟨_, _, g, _, e, hg⟩ => by
    subst e hn
    have := hg 0 b rfl
    rw [mapLL_refs0 (flat_refs 0 hf)] at this
    exact ⟨[g 0], by simp, Owns.own_flat this rfl hf⟩
theorem toIntS_f (xs : List Int) (hx : xs.length ≤ 1048576) : F Try.prog 18 [.lst 1 (xs.map encI)] (.lst 1 (xs.map encI)) := CP.f (flat_encI _) (by simp) (toIntS_c xs hx)
theorem mkI_get {k : Int} {n i : Nat} (h : i < n) : (mkI k n)[i]? = some (k + i) := by simp [mkI, h]
theorem markIntS_c (h : Heap) (xs : List Int) (v : V) (ids : List Nat) (k : Int) (o : Owns h (.lst 1 (xs.map encI)) v ids) (hx : xs.length ≤ 1048576) (hk : 0 ≤ k ∧ k ≤ 1000000000000) :
    C Try.prog 37 [v, .int .i64 k] h (fun r h' => r = .int .i64 (k + xs.length) ∧ Off ids h h' ∧ Owns h' (.lst 1 ((mkI k xs.length).map encI)) v ids ∧ h'.length = h.length) := by
  have lenv := Owns.len_ o
  simp only [List.length_map] at lenv
  have hnh : [v, .int .i64 k].all V.noHole = true := by
    rcases (Owns.flat_ (flat_encI xs)).1 o with ⟨rfl, _, _⟩ | ⟨l, rfl, _, _⟩ <;> rfl
  refine C.by mixed (cfn_ok Try.func37 ok37) hnh ?_
  have ovn := o.nohole
  simp (disch := omega) only [s37, go_sem, Nat.reduceEqDiff, Nat.reduceAdd, Nat.reduceSub, Nat.reduceLeDiff, Nat.reduceLT, Nat.reduceMul, Nat.reduceBEq, Int.reduceEq, Int.reduceLT, Int.reduceLE, Int.reduceNeg, Int.reduceToNat, Int.reduceSub, Int.reduceAdd, reduceIte]
  refine loopP_intro (fun m s => ∃ j : Nat, j ≤ xs.length ∧ m = xs.length - j ∧ s.e 0 = v ∧ s.e 1 = .int .i64 (k + j) ∧ s.e 5 = .int .i64 j ∧ Off ids h s.h ∧ s.h.length = h.length ∧ Owns s.h (.lst 1 ((mkI k j ++ xs.drop j).map encI)) v ids) xs.length ⟨0, by omega, by omega, by simp (disch := omega) only [go_sem, Nat.reduceEqDiff, Nat.reduceAdd, Nat.reduceSub, Nat.reduceLeDiff, Nat.reduceLT, Nat.reduceMul, Nat.reduceBEq, Int.reduceEq, Int.reduceLT, Int.reduceLE, Int.reduceNeg, Int.reduceToNat, Int.reduceSub, Int.reduceAdd, reduceIte], by simp (disch := omega) only [go_sem, Nat.reduceEqDiff, Nat.reduceAdd, Nat.reduceSub, Nat.reduceLeDiff, Nat.reduceLT, Nat.reduceMul, Nat.reduceBEq, Int.reduceEq, Int.reduceLT, Int.reduceLE, Int.reduceNeg, Int.reduceToNat, Int.reduceSub, Int.reduceAdd, reduceIte] <;> simp, by simp (disch := omega) only [go_sem, Nat.reduceEqDiff, Nat.reduceAdd, Nat.reduceSub, Nat.reduceLeDiff, Nat.reduceLT, Nat.reduceMul, Nat.reduceBEq, Int.reduceEq, Int.reduceLT, Int.reduceLE, Int.reduceNeg, Int.reduceToNat, Int.reduceSub, Int.reduceAdd, reduceIte] <;> rfl, fun _ _ => rfl, rfl, by simpa [mkI] using o⟩ ?_
  rintro m e hp ⟨j, hj, rfl, e0, e1, e5, hoff, hlen, ho⟩
  simp only at e0 e1 e5 hoff ho hlen
  have hml : (mkI k j ++ xs.drop j).length = xs.length := by simp [mkI_len]; omega
  have lenv := Owns.len_ ho
  simp only [List.length_map, hml] at lenv
  simp (disch := omega) only [go_sem, Nat.reduceEqDiff, Nat.reduceAdd, Nat.reduceSub, Nat.reduceLeDiff, Nat.reduceLT, Nat.reduceMul, Nat.reduceBEq, Int.reduceEq, Int.reduceLT, Int.reduceLE, Int.reduceNeg, Int.reduceToNat, Int.reduceSub, Int.reduceAdd, reduceIte, e0, e1, e5, ovn, lenv]
  refine condP_dec (fun hlt => ?_) (fun hlt => ?_)
  · have hlt' : j < xs.length := by omega
    refine Exists.elim (flat_own ho hml (by omega)) fun l z => ?_
    have z1 := z.1
    have z2 := z.2.1
    have z3 := z.2.2
    clear z
    subst z1
    subst z3
    have hrow := storeH_row (h := hp) (id := l) (n := xs.length) (i := j) (sz := 1) (x := .int .i64 (k + j)) z2 (by simpa using hml) hlt' (fun e he => by obtain ⟨x, _, rfl⟩ := List.mem_map.1 he; rfl) rfl
    simp (disch := omega) only [go_sem, Nat.reduceEqDiff, Nat.reduceAdd, Nat.reduceSub, Nat.reduceLeDiff, Nat.reduceLT, Nat.reduceMul, Nat.reduceBEq, Int.reduceEq, Int.reduceLT, Int.reduceLE, Int.reduceNeg, Int.reduceToNat, Int.reduceSub, Int.reduceAdd, reduceIte, e0, e1, e5, hrow]
    refine nextP_intro (xs.length - (j + 1)) (by omega) ⟨j + 1, by omega, rfl, by simp (disch := omega) only [go_sem, Nat.reduceEqDiff, Nat.reduceAdd, Nat.reduceSub, Nat.reduceLeDiff, Nat.reduceLT, Nat.reduceMul, Nat.reduceBEq, Int.reduceEq, Int.reduceLT, Int.reduceLE, Int.reduceNeg, Int.reduceToNat, Int.reduceSub, Int.reduceAdd, reduceIte, e0, e1, e5, hrow], by simp (disch := omega) only [go_sem, Nat.reduceEqDiff, Nat.reduceAdd, Nat.reduceSub, Nat.reduceLeDiff, Nat.reduceLT, Nat.reduceMul, Nat.reduceBEq, Int.reduceEq, Int.reduceLT, Int.reduceLE, Int.reduceNeg, Int.reduceToNat, Int.reduceSub, Int.reduceAdd, reduceIte, e0, e1, e5, hrow]; exact congrArg (V.int .i64) (by omega), by simp (disch := omega) only [go_sem, Nat.reduceEqDiff, Nat.reduceAdd, Nat.reduceSub, Nat.reduceLeDiff, Nat.reduceLT, Nat.reduceMul, Nat.reduceBEq, Int.reduceEq, Int.reduceLT, Int.reduceLE, Int.reduceNeg, Int.reduceToNat, Int.reduceSub, Int.reduceAdd, reduceIte, e0, e1, e5, hrow] <;> rfl, ?_, ?_, ?_⟩
    · intro i hi
      simp at hi
      rw [List.getElem?_set_ne (by omega)]; exact hoff i (by simpa using hi)
    · rw [List.length_set]; exact hlen
    · have e2 : (mkI k j ++ xs.drop j).set j (k + j) = mkI k (j + 1) ++ xs.drop (j + 1) := by
        have e3 : mkI k (j + 1) = mkI k j ++ [k + (j : Int)] := by simp [mkI, List.range_succ]
        rw [List.set_append_right _ _ (by rw [mkI_len]; omega), mkI_len, Nat.sub_self, List.drop_eq_getElem_cons hlt', List.set_cons_zero, e3, List.append_assoc]; rfl
      refine Owns.own_flat ?_ (by simp [mkI_len]; omega) (flat_encI _)
      rw [heap_set _ z2, ← e2, List.map_set]; rfl
  · simp (disch := omega) only [go_sem, Nat.reduceEqDiff, Nat.reduceAdd, Nat.reduceSub, Nat.reduceLeDiff, Nat.reduceLT, Nat.reduceMul, Nat.reduceBEq, Int.reduceEq, Int.reduceLT, Int.reduceLE, Int.reduceNeg, Int.reduceToNat, Int.reduceSub, Int.reduceAdd, reduceIte, e0, e1, e5, ovn, lenv]
    have : j = xs.length := by omega
    subst this
    rw [List.drop_length, List.append_nil] at ho
    exact ⟨rfl, hoff, ho, hlen⟩
theorem heldIntS_c (n : Nat) (k : Int) (hx : n ≤ 1048576) (hk : 0 ≤ k ∧ k ≤ 1000000000000) : CP Try.prog 55 [.lst 1 ((mkI k n).map encI), .int .i64 k] (.int .i64 (k + n)) [] := by
  have hml := mkI_len k n
  refine CP.by rfl mixed (cfn_ok Try.func55 ok55) rfl ?_
  simp (disch := omega) only [s55, go_sem, Nat.reduceEqDiff, Nat.reduceAdd, Nat.reduceSub, Nat.reduceLeDiff, Nat.reduceLT, Nat.reduceMul, Nat.reduceBEq, Int.reduceEq, Int.reduceLT, Int.reduceLE, Int.reduceNeg, Int.reduceToNat, Int.reduceSub, Int.reduceAdd, reduceIte, encI, hml]
  refine loopP_intro (fun m s => ∃ j : Nat, j ≤ n ∧ m = n - j ∧ s.e 0 = .lst 1 ((mkI k n).map encI) ∧ s.e 1 = .int .i64 (k + j) ∧ s.e 5 = .int .i64 j) n ⟨0, by omega, by omega, rfl, by simp (disch := omega) only [go_sem, Nat.reduceEqDiff, Nat.reduceAdd, Nat.reduceSub, Nat.reduceLeDiff, Nat.reduceLT, Nat.reduceMul, Nat.reduceBEq, Int.reduceEq, Int.reduceLT, Int.reduceLE, Int.reduceNeg, Int.reduceToNat, Int.reduceSub, Int.reduceAdd, reduceIte, encI, hml] <;> simp, rfl⟩ ?_
  rintro m e hp ⟨j, hj, rfl, e0, e1, e5⟩
  simp only at e0 e1 e5
  simp (disch := omega) only [go_sem, Nat.reduceEqDiff, Nat.reduceAdd, Nat.reduceSub, Nat.reduceLeDiff, Nat.reduceLT, Nat.reduceMul, Nat.reduceBEq, Int.reduceEq, Int.reduceLT, Int.reduceLE, Int.reduceNeg, Int.reduceToNat, Int.reduceSub, Int.reduceAdd, reduceIte, e0, e1, e5, encI, hml]
  refine condP_dec (fun hlt => ?_) (fun hlt => ?_)
  · have hlt' : j < (mkI k n).length := by omega
    have hm : (mkI k n)[j] = k + (j : Int) := by simp [mkI]
    simp (disch := omega) only [go_sem, Nat.reduceEqDiff, Nat.reduceAdd, Nat.reduceSub, Nat.reduceLeDiff, Nat.reduceLT, Nat.reduceMul, Nat.reduceBEq, Int.reduceEq, Int.reduceLT, Int.reduceLE, Int.reduceNeg, Int.reduceToNat, Int.reduceSub, Int.reduceAdd, reduceIte, hm, e0, e1, e5, encI, hml]
    refine nextP_intro (n - (j + 1)) (by omega) ⟨j + 1, by omega, rfl, ?_, ?_, ?_⟩
    · simp (disch := omega) only [go_sem, Nat.reduceEqDiff, Nat.reduceAdd, Nat.reduceSub, Nat.reduceLeDiff, Nat.reduceLT, Nat.reduceMul, Nat.reduceBEq, Int.reduceEq, Int.reduceLT, Int.reduceLE, Int.reduceNeg, Int.reduceToNat, Int.reduceSub, Int.reduceAdd, reduceIte, e0, e1, e5, encI, hml]
    · simp (disch := omega) only [go_sem, Nat.reduceEqDiff, Nat.reduceAdd, Nat.reduceSub, Nat.reduceLeDiff, Nat.reduceLT, Nat.reduceMul, Nat.reduceBEq, Int.reduceEq, Int.reduceLT, Int.reduceLE, Int.reduceNeg, Int.reduceToNat, Int.reduceSub, Int.reduceAdd, reduceIte, e0, e1, e5, encI, hml] <;> exact congrArg (V.int .i64) (by omega)
    · simp (disch := omega) only [go_sem, Nat.reduceEqDiff, Nat.reduceAdd, Nat.reduceSub, Nat.reduceLeDiff, Nat.reduceLT, Nat.reduceMul, Nat.reduceBEq, Int.reduceEq, Int.reduceLT, Int.reduceLE, Int.reduceNeg, Int.reduceToNat, Int.reduceSub, Int.reduceAdd, reduceIte, e0, e1, e5, encI, hml] <;> rfl
  · simp (disch := omega) only [go_sem, Nat.reduceEqDiff, Nat.reduceAdd, Nat.reduceSub, Nat.reduceLeDiff, Nat.reduceLT, Nat.reduceMul, Nat.reduceBEq, Int.reduceEq, Int.reduceLT, Int.reduceLE, Int.reduceNeg, Int.reduceToNat, Int.reduceSub, Int.reduceAdd, reduceIte, e0, e1, e5, encI, hml]
    have : j = n := by omega
    subst this
    rfl
end Go.Av
