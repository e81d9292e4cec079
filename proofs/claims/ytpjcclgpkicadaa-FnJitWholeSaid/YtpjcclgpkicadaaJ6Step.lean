/- One instruction, on both sides. No condition. -/
import Derived.Test.YtpjcclgpkicadaaJ6Mach
import Derived.Test.YtpjcclgpkicadaaAv25
namespace Go.Av
open Go.Proofs Go.RowKit
set_option linter.unusedVariables false
set_option linter.unusedSimpArgs false
set_option maxRecDepth 100000
set_option maxHeartbeats 4000000
theorem refs_instr (n : Nat) (x : Instr) : V.refsL n (encInstr x) = true := rfl
theorem refs_code (n : Nat) (xs : List Instr) : V.refs n (.lst 3 (xs.map encInstr)) = true := by simp [V.refs, refsLL_map encInstr (refs_instr n) xs]
theorem refs_code1 (n : Nat) (xs : List Instr) : V.refsL n [.lst 3 (xs.map encInstr)] = true := by simp [V.refsL, refs_code]
theorem refs_code2 (n : Nat) (xs : List Instr) (st : List Int) : V.refsL n [.lst 3 (xs.map encInstr), .lst 1 (st.map encI)] = true := by simp [V.refsL, refs_code, refs_ints]
def goOn (xs : List Instr) (st : List Int) : Bool := codeOk xs && canRun xs.length st
theorem gt_get {st : List Int} {i : Nat} (h : i < st.length) : st[i] = gt st i := by simp [gt, h]
theorem gt_some {st : List Int} {i : Nat} (h : i < st.length) : st[i]? = some (gt st i) := by simp [gt, h]
theorem storeI {h : Heap} {id n i : Nat} {st : List Int} {v : Int} (hb : h[id]? = some (st.map encI)) (hn : st.length = n) (hi : i < n) : storeH h 1 (.ptr id n i 0) (.int .i64 v) = some (h.set id ((st.set i v).map encI)) := by
  rw [storeH_row (b := st.map encI) hb (by simpa using hn) hi (fun e he => by obtain ⟨x, _, rfl⟩ := List.mem_map.1 he; rfl) rfl, List.map_set]; rfl
theorem step_res {h : Heap} {l : Nat} {ys : List Int} {b : Bool} (hl : h[l]? = some (ys.map encI)) (hn : ys.length = 6) : ∃ ids : List Nat, ids.Nodup ∧ OwnsR h (.tup [.lst 1 (ys.map encI), .bool b]) (.tup [.own l 1 0 6 6, .bool b]) ids :=
  ⟨[l] ++ [], by simp, OwnsR.tup.2 ⟨_, rfl, .o (Owns.own_flat hl (by simpa using hn) (flat_encI _)) (.b .e)⟩⟩
def stepR (xs : List Instr) (st : List Int) : V := .tup [.lst 1 ((if goOn xs st = true then stepS xs st else st).map encI), .bool (goOn xs st)]
theorem step_no {xs : List Instr} {st : List Int} {h : Heap} {r : V} {ids : List Nat} (n : ids.Nodup) (o : Owns h (.lst 1 (st.map encI)) r ids) (hk : goOn xs st = false) : ∃ ids : List Nat, ids.Nodup ∧ OwnsR h (stepR xs st) (.tup [r, .bool false]) ids := by
  unfold stepR
  rw [hk, if_neg (by simp)]
  exact ⟨ids ++ [], by simpa using n, OwnsR.tup.2 ⟨_, rfl, .o o (.b .e)⟩⟩
theorem step_c (xs : List Instr) (st : List Int) (hx : xs.length ≤ 1048576) (hs : st.length ≤ 1048576) : F Try.prog 116 [.lst 3 (xs.map encInstr), .lst 1 (st.map encI)] (stepR xs st) := by
  refine C.by mixed (cfn_ok Try.func116 ok116) rfl ?_
  simp (disch := omega) only [s116, go_sem, Nat.reduceEqDiff, Nat.reduceAdd, Nat.reduceSub, Nat.reduceLeDiff, Nat.reduceLT, Nat.reduceMul, Nat.reduceBEq, Int.reduceEq, Int.reduceLT, Int.reduceLE, Int.reduceNeg, Int.reduceToNat, Int.reduceSub, Int.reduceAdd, reduceIte]
  refine F.go (cloneI_f st hs) (.same (refs_ints1 _ _)) fun r h1 ids x1 n1 g1 o1 => ?_
  have o1 := Owns.lstR.1 o1
  obtain ⟨ov, on, oc⟩ := o1.vv
  simp (disch := omega) only [go_sem, Nat.reduceEqDiff, Nat.reduceAdd, Nat.reduceSub, Nat.reduceLeDiff, Nat.reduceLT, Nat.reduceMul, Nat.reduceBEq, Int.reduceEq, Int.reduceLT, Int.reduceLE, Int.reduceNeg, Int.reduceToNat, Int.reduceSub, Int.reduceAdd, reduceIte, ov, on, oc]
  refine CP.go (codeOk_c xs (by omega)) rfl (refs_code1 _ _) ?_
  simp (disch := omega) only [go_sem, Nat.reduceEqDiff, Nat.reduceAdd, Nat.reduceSub, Nat.reduceLeDiff, Nat.reduceLT, Nat.reduceMul, Nat.reduceBEq, Int.reduceEq, Int.reduceLT, Int.reduceLE, Int.reduceNeg, Int.reduceToNat, Int.reduceSub, Int.reduceAdd, reduceIte, ov, on, oc]
  refine condP_split (fun hk => ?_) (fun hk => ?_)
  case' refine_2 =>
    simp (disch := omega) only [go_sem, Nat.reduceEqDiff, Nat.reduceAdd, Nat.reduceSub, Nat.reduceLeDiff, Nat.reduceLT, Nat.reduceMul, Nat.reduceBEq, Int.reduceEq, Int.reduceLT, Int.reduceLE, Int.reduceNeg, Int.reduceToNat, Int.reduceSub, Int.reduceAdd, reduceIte, ov, on, oc, hk]
    exact step_no (xs := xs) n1 o1 (by simp [goOn, hk])
  simp (disch := omega) only [go_sem, Nat.reduceEqDiff, Nat.reduceAdd, Nat.reduceSub, Nat.reduceLeDiff, Nat.reduceLT, Nat.reduceMul, Nat.reduceBEq, Int.reduceEq, Int.reduceLT, Int.reduceLE, Int.reduceNeg, Int.reduceToNat, Int.reduceSub, Int.reduceAdd, reduceIte, ov, on, oc, hk]
  refine condP_dec (fun h6 => ?_) (fun h6 => ?_)
  case' refine_2 =>
    simp (disch := omega) only [go_sem, Nat.reduceEqDiff, Nat.reduceAdd, Nat.reduceSub, Nat.reduceLeDiff, Nat.reduceLT, Nat.reduceMul, Nat.reduceBEq, Int.reduceEq, Int.reduceLT, Int.reduceLE, Int.reduceNeg, Int.reduceToNat, Int.reduceSub, Int.reduceAdd, reduceIte, ov, on, oc, hk]
    exact step_no (xs := xs) n1 o1 (by simp [goOn, canRun]; omega)
  have h6' : st.length = 6 := by omega
  have hg : ∀ (i : Nat) (h : i < st.length), st[i] = gt st i := fun i h => gt_get h
  simp (disch := omega) only [go_sem, Nat.reduceEqDiff, Nat.reduceAdd, Nat.reduceSub, Nat.reduceLeDiff, Nat.reduceLT, Nat.reduceMul, Nat.reduceBEq, Int.reduceEq, Int.reduceLT, Int.reduceLE, Int.reduceNeg, Int.reduceToNat, Int.reduceSub, Int.reduceAdd, reduceIte, ov, on, oc, hk, hg, encI, within_dec]
  refine CP.go (areValues_c (st.take 4) (by simp only [List.length_take]; omega)) rfl (refs_ints1 _ _) ?_
  simp (disch := omega) only [go_sem, Nat.reduceEqDiff, Nat.reduceAdd, Nat.reduceSub, Nat.reduceLeDiff, Nat.reduceLT, Nat.reduceMul, Nat.reduceBEq, Int.reduceEq, Int.reduceLT, Int.reduceLE, Int.reduceNeg, Int.reduceToNat, Int.reduceSub, Int.reduceAdd, reduceIte, ov, on, oc, hk, hg, encI, within_dec]
  refine condP_split (fun hv => ?_) (fun hv => ?_)
  case' refine_2 =>
    simp (disch := omega) only [go_sem, Nat.reduceEqDiff, Nat.reduceAdd, Nat.reduceSub, Nat.reduceLeDiff, Nat.reduceLT, Nat.reduceMul, Nat.reduceBEq, Int.reduceEq, Int.reduceLT, Int.reduceLE, Int.reduceNeg, Int.reduceToNat, Int.reduceSub, Int.reduceAdd, reduceIte, ov, on, oc, hk, hg, encI, within_dec, hv]
    exact step_no (xs := xs) n1 o1 (by simp [goOn, canRun, hv])
  simp (disch := omega) only [go_sem, Nat.reduceEqDiff, Nat.reduceAdd, Nat.reduceSub, Nat.reduceLeDiff, Nat.reduceLT, Nat.reduceMul, Nat.reduceBEq, Int.reduceEq, Int.reduceLT, Int.reduceLE, Int.reduceNeg, Int.reduceToNat, Int.reduceSub, Int.reduceAdd, reduceIte, ov, on, oc, hk, hg, encI, within_dec, hv]
  refine CP.go (within_c _ _ _) rfl rfl ?_
  simp (disch := omega) only [go_sem, Nat.reduceEqDiff, Nat.reduceAdd, Nat.reduceSub, Nat.reduceLeDiff, Nat.reduceLT, Nat.reduceMul, Nat.reduceBEq, Int.reduceEq, Int.reduceLT, Int.reduceLE, Int.reduceNeg, Int.reduceToNat, Int.reduceSub, Int.reduceAdd, reduceIte, ov, on, oc, hk, hg, encI, within_dec, hv]
  refine condP_dec (fun h4 => ?_) (fun h4 => ?_)
  case' refine_2 =>
    simp (disch := omega) only [go_sem, Nat.reduceEqDiff, Nat.reduceAdd, Nat.reduceSub, Nat.reduceLeDiff, Nat.reduceLT, Nat.reduceMul, Nat.reduceBEq, Int.reduceEq, Int.reduceLT, Int.reduceLE, Int.reduceNeg, Int.reduceToNat, Int.reduceSub, Int.reduceAdd, reduceIte, ov, on, oc, hk, hg, encI, within_dec, hv]
    exact step_no (xs := xs) n1 o1 (by simp [goOn, canRun, within]; omega)
  simp (disch := omega) only [go_sem, Nat.reduceEqDiff, Nat.reduceAdd, Nat.reduceSub, Nat.reduceLeDiff, Nat.reduceLT, Nat.reduceMul, Nat.reduceBEq, Int.reduceEq, Int.reduceLT, Int.reduceLE, Int.reduceNeg, Int.reduceToNat, Int.reduceSub, Int.reduceAdd, reduceIte, ov, on, oc, hk, hg, encI, within_dec, hv]
  refine CP.go (within_c _ _ _) rfl rfl ?_
  simp (disch := omega) only [go_sem, Nat.reduceEqDiff, Nat.reduceAdd, Nat.reduceSub, Nat.reduceLeDiff, Nat.reduceLT, Nat.reduceMul, Nat.reduceBEq, Int.reduceEq, Int.reduceLT, Int.reduceLE, Int.reduceNeg, Int.reduceToNat, Int.reduceSub, Int.reduceAdd, reduceIte, ov, on, oc, hk, hg, encI, within_dec, hv]
  refine condP_dec (fun h5 => ?_) (fun h5 => ?_)
  case' refine_2 =>
    simp (disch := omega) only [go_sem, Nat.reduceEqDiff, Nat.reduceAdd, Nat.reduceSub, Nat.reduceLeDiff, Nat.reduceLT, Nat.reduceMul, Nat.reduceBEq, Int.reduceEq, Int.reduceLT, Int.reduceLE, Int.reduceNeg, Int.reduceToNat, Int.reduceSub, Int.reduceAdd, reduceIte, ov, on, oc, hk, hg, encI, within_dec, hv]
    exact step_no (xs := xs) n1 o1 (by simp [goOn, canRun, within]; omega)
  have hgo : goOn xs st = true := by simp [goOn, hk, canRun, h6', hv, within]; omega
  have hcx := code_facts hk
  refine Exists.elim (flat_own o1 h6' (by omega)) fun l z => ?_
  have z1 := z.1
  have hl := z.2.1
  clear z
  subst z1
  have hlt : (gt st 4).toNat < xs.length := by omega
  have hix : instrAt xs (gt st 4) = xs[(gt st 4).toNat] := by simp [instrAt, hlt]
  have hin := instr_facts (hcx.2 _ (List.getElem_mem hlt))
  have hfin : ∀ (h' : Heap) (ys : List Int), h'[l]? = some (ys.map encI) → ys = execS xs[(gt st 4).toNat] st ((st.set 4 (gt st 4 + 1)).set 5 (gt st 5 + 1)) → ∃ ids : List Nat, ids.Nodup ∧ OwnsR h' (stepR xs st) (.tup [.own l 1 0 6 6, .bool true]) ids := fun h' ys e1 e2 => by
    have e3 : stepR xs st = .tup [.lst 1 (ys.map encI), .bool true] := by
      unfold stepR
      rw [if_pos hgo, hgo, e2, ← hix]; rfl
    rw [e3]
    exact step_res e1 (by rw [e2, exec_len]; simpa using h6')
  refine Exists.elim (⟨_, rfl⟩ : ∃ x, xs[(gt st 4).toNat] = x) fun x hxx => ?_
  rw [hxx] at hfin hin
  have hne : h1.length ≠ l := by have := heap_lt hl; omega
  have f0 := heap_app (h' := [[[V.int .i64 x.op, .int .i64 x.a, .int .i64 x.b]]]) hl
  have fb : (h1 ++ [[[V.int .i64 x.op, .int .i64 x.a, .int .i64 x.b]]])[h1.length]? = some [[V.int .i64 x.op, .int .i64 x.a, .int .i64 x.b]] := at_app0 _ _
  have fz1 : storeH (h1 ++ [[[V.int .i64 0, .int .i64 0, .int .i64 0]]]) 3 (.ptr h1.length 1 0 0) (.agg [.int .i64 x.op, .int .i64 x.a, .int .i64 x.b]) = some (h1 ++ [[[V.int .i64 x.op, .int .i64 x.a, .int .i64 x.b]]]) := storeBox rfl rfl
  have f1 := fun (i : Nat) (v : Int) (hi : i < 6) => storeI (v := v) f0 h6' hi
  have f2 := fun c => heap_set c f0
  have f3 := fun c => heap_set_ne c hne fb
  have f4 : ∀ (y : Int) (i : Nat) (v : Int), i < 6 → storeH ((h1 ++ [[[V.int .i64 x.op, .int .i64 x.a, .int .i64 x.b]]]).set l ((st.set 4 y).map encI)) 1 (.ptr l 6 i 0) (.int .i64 v) = some ((h1 ++ [[[V.int .i64 x.op, .int .i64 x.a, .int .i64 x.b]]]).set l (((st.set 4 y).set i v).map encI)) := fun y i v hi => by
    rw [storeI (f2 _) (by simpa using h6') hi, List.set_set]
  have f5 : ∀ (y z : Int) (i : Nat) (v : Int), i < 6 → storeH ((h1 ++ [[[V.int .i64 x.op, .int .i64 x.a, .int .i64 x.b]]]).set l (((st.set 4 y).set 5 z).map encI)) 1 (.ptr l 6 i 0) (.int .i64 v) = some ((h1 ++ [[[V.int .i64 x.op, .int .i64 x.a, .int .i64 x.b]]]).set l ((((st.set 4 y).set 5 z).set i v).map encI)) := fun y z i v hi => by
    rw [storeI (f2 _) (by simpa using h6') hi, List.set_set]
  have gs : st[4]? = some (gt st 4) := gt_some (by omega)
  have g45 : ∀ y, (st.set 4 y)[5]? = some (gt st 5) := fun y => by rw [List.getElem?_set_ne (by omega)]; exact gt_some (by omega)
  simp (disch := omega) only [go_sem, Nat.reduceEqDiff, Nat.reduceAdd, Nat.reduceSub, Nat.reduceLeDiff, Nat.reduceLT, Nat.reduceMul, Nat.reduceBEq, Int.reduceEq, Int.reduceLT, Int.reduceLE, Int.reduceNeg, Int.reduceToNat, Int.reduceSub, Int.reduceAdd, reduceIte, hxx, encInstr, hg, encI, splice, fz1, f0, fb, f1, f2, f3, f4, f5, gs, g45, List.getElem?_map, List.length_map, List.length_set, h6']
  have hend : ∀ ys : List Int, ys = execS x st ((st.set 4 (gt st 4 + 1)).set 5 (gt st 5 + 1)) → ∃ ids : List Nat, ids.Nodup ∧ OwnsR ((h1 ++ [[[V.int .i64 x.op, .int .i64 x.a, .int .i64 x.b]]]).set l (ys.map encI)) (stepR xs st) (.tup [.own l 1 0 6 6, .bool true]) ids := fun ys e => hfin _ ys (f2 _) e
  have hb3 : x.op = 1 ∨ x.op = 5 ∨ x.b ≤ 3 := by
    have := hin.2.2.2
    unfold mostB at this
    split at this
    · exact .inl (by assumption)
    · split at this
      · exact .inr (.inl (by assumption))
      · exact .inr (.inr this)
  repeat' (first | (refine CP.go (add_c _ _) rfl rfl ?_ <;> (try simp (disch := omega) only [go_sem, Nat.reduceEqDiff, Nat.reduceAdd, Nat.reduceSub, Nat.reduceLeDiff, Nat.reduceLT, Nat.reduceMul, Nat.reduceBEq, Int.reduceEq, Int.reduceLT, Int.reduceLE, Int.reduceNeg, Int.reduceToNat, Int.reduceSub, Int.reduceAdd, reduceIte, hxx, encInstr, hg, encI, splice, fz1, f0, fb, f1, f2, f3, f4, f5, gs, g45, List.getElem?_map, List.length_map, List.length_set, h6'])) | (refine CP.go (sub_c _ _) rfl rfl ?_ <;> (try simp (disch := omega) only [go_sem, Nat.reduceEqDiff, Nat.reduceAdd, Nat.reduceSub, Nat.reduceLeDiff, Nat.reduceLT, Nat.reduceMul, Nat.reduceBEq, Int.reduceEq, Int.reduceLT, Int.reduceLE, Int.reduceNeg, Int.reduceToNat, Int.reduceSub, Int.reduceAdd, reduceIte, hxx, encInstr, hg, encI, splice, fz1, f0, fb, f1, f2, f3, f4, f5, gs, g45, List.getElem?_map, List.length_map, List.length_set, h6'])) | (refine CP.go (mul_c _ _) rfl rfl ?_ <;> (try simp (disch := omega) only [go_sem, Nat.reduceEqDiff, Nat.reduceAdd, Nat.reduceSub, Nat.reduceLeDiff, Nat.reduceLT, Nat.reduceMul, Nat.reduceBEq, Int.reduceEq, Int.reduceLT, Int.reduceLE, Int.reduceNeg, Int.reduceToNat, Int.reduceSub, Int.reduceAdd, reduceIte, hxx, encInstr, hg, encI, splice, fz1, f0, fb, f1, f2, f3, f4, f5, gs, g45, List.getElem?_map, List.length_map, List.length_set, h6'])) | (refine condP_t (by assumption) ?_ <;> (try simp (disch := omega) only [go_sem, Nat.reduceEqDiff, Nat.reduceAdd, Nat.reduceSub, Nat.reduceLeDiff, Nat.reduceLT, Nat.reduceMul, Nat.reduceBEq, Int.reduceEq, Int.reduceLT, Int.reduceLE, Int.reduceNeg, Int.reduceToNat, Int.reduceSub, Int.reduceAdd, reduceIte, hxx, encInstr, hg, encI, splice, fz1, f0, fb, f1, f2, f3, f4, f5, gs, g45, List.getElem?_map, List.length_map, List.length_set, h6'])) | (refine condP_f (by assumption) ?_ <;> (try simp (disch := omega) only [go_sem, Nat.reduceEqDiff, Nat.reduceAdd, Nat.reduceSub, Nat.reduceLeDiff, Nat.reduceLT, Nat.reduceMul, Nat.reduceBEq, Int.reduceEq, Int.reduceLT, Int.reduceLE, Int.reduceNeg, Int.reduceToNat, Int.reduceSub, Int.reduceAdd, reduceIte, hxx, encInstr, hg, encI, splice, fz1, f0, fb, f1, f2, f3, f4, f5, gs, g45, List.getElem?_map, List.length_map, List.length_set, h6'])) | (refine condP_dec (fun h => ?_) (fun h => ?_) <;> (try simp (disch := omega) only [go_sem, Nat.reduceEqDiff, Nat.reduceAdd, Nat.reduceSub, Nat.reduceLeDiff, Nat.reduceLT, Nat.reduceMul, Nat.reduceBEq, Int.reduceEq, Int.reduceLT, Int.reduceLE, Int.reduceNeg, Int.reduceToNat, Int.reduceSub, Int.reduceAdd, reduceIte, hxx, encInstr, hg, encI, splice, fz1, f0, fb, f1, f2, f3, f4, f5, gs, g45, List.getElem?_map, List.length_map, List.length_set, h6'])) | (refine condP_split (fun h => ?_) (fun h => ?_) <;> (try simp (disch := omega) only [go_sem, Nat.reduceEqDiff, Nat.reduceAdd, Nat.reduceSub, Nat.reduceLeDiff, Nat.reduceLT, Nat.reduceMul, Nat.reduceBEq, Int.reduceEq, Int.reduceLT, Int.reduceLE, Int.reduceNeg, Int.reduceToNat, Int.reduceSub, Int.reduceAdd, reduceIte, hxx, encInstr, hg, encI, splice, fz1, f0, fb, f1, f2, f3, f4, f5, gs, g45, List.getElem?_map, List.length_map, List.length_set, h6'])))
  all_goals first
    | (exfalso; omega)
    | (refine hend _ ?_; unfold execS; simp_all; done)
    | (have h5 : x.op = 5 := by omega
       refine hend _ ?_; unfold execS; simp_all)
/-- The same on the other side: an instruction that can be executed. -/
theorem step_s (xs : List Instr) (st : List Int) (hk : codeOk xs = true) (hcan : canRun xs.length st = true) : F Try.prog 131 [.lst 3 (xs.map encInstr), .lst 1 (st.map encI)] (.lst 1 ((stepS xs st).map encI)) := by
  obtain ⟨h6', hv, h4, h5⟩ := can_facts hcan
  refine C.by mixed (cfn_ok Try.func131 ok131) rfl ?_
  have hcx := code_facts hk
  have hlt : (gt st 4).toNat < xs.length := by omega
  have hix : instrAt xs (gt st 4) = xs[(gt st 4).toNat] := by simp [instrAt, hlt]
  have hin := instr_facts (hcx.2 _ (List.getElem_mem hlt))
  have hfin : ∀ (h' : Heap) (ys : List Int), h'[0]? = some (ys.map encI) → ys = execS xs[(gt st 4).toNat] st ((st.set 4 (gt st 4 + 1)).set 5 (gt st 5 + 1)) → ∃ ids : List Nat, ids.Nodup ∧ OwnsR h' (.lst 1 ((stepS xs st).map encI)) (.own 0 1 0 6 6) ids := fun h' ys e1 e2 => by
    have e3 : stepS xs st = ys := by
      unfold stepS
      rw [hix, e2]
    rw [e3]
    exact ⟨[0], by simp, Owns.own_flat e1 (by rw [List.length_map, e2, exec_len]; simpa using h6') (flat_encI _)⟩
  refine Exists.elim (⟨_, rfl⟩ : ∃ x, xs[(gt st 4).toNat] = x) fun x hxx => ?_
  rw [hxx] at hfin hin
  have hg : ∀ (i : Nat) (h : i < st.length), st[i] = gt st i := fun i h => gt_get h
  have ha : appendH [[]] 1 8 (.own 0 1 0 0 0) (.lst 1 (st.map encI)) = some (.own 0 1 0 6 6, [st.map encI]) := by
    have := appendH_n (sz := 1) (bytes := 8) (h := [[]]) (id := 0) (n := 0) (m := 6) (b := []) (xs := st.map encI) (x := .lst 1 (st.map encI)) rfl rfl (by simp [elemsOf]) (by simpa using h6') (by omega)
    simpa using this
  have f0 : ([st.map encI, [[V.int .i64 x.op, .int .i64 x.a, .int .i64 x.b]]] : Heap)[0]? = some (st.map encI) := rfl
  have fz1 : storeH [st.map encI, [[V.int .i64 0, .int .i64 0, .int .i64 0]]] 3 (.ptr 1 1 0 0) (.agg [.int .i64 x.op, .int .i64 x.a, .int .i64 x.b]) = some [st.map encI, [[V.int .i64 x.op, .int .i64 x.a, .int .i64 x.b]]] := storeBoxAt (h := [st.map encI, [[V.int .i64 0, .int .i64 0, .int .i64 0]]]) rfl rfl rfl
  have f1 : ∀ (ys : List Int) (i : Nat) (v : Int), ys.length = 6 → i < 6 → storeH [ys.map encI, [[V.int .i64 x.op, .int .i64 x.a, .int .i64 x.b]]] 1 (.ptr 0 6 i 0) (.int .i64 v) = some [(ys.set i v).map encI, [[V.int .i64 x.op, .int .i64 x.a, .int .i64 x.b]]] := fun ys i v hy hi => storeI (h := [ys.map encI, _]) rfl hy hi
  have f2 := fun i v => f1 st i v h6'
  have f3 := fun y i v => f1 (st.set 4 y) i v (by simpa using h6')
  have f4 := fun y z i v => f1 ((st.set 4 y).set 5 z) i v (by simpa using h6')
  have hb3 : x.op = 1 ∨ x.op = 5 ∨ x.b ≤ 3 := by
    have := hin.2.2.2
    unfold mostB at this
    split at this
    · exact .inl (by assumption)
    · split at this
      · exact .inr (.inl (by assumption))
      · exact .inr (.inr this)
  simp (disch := omega) only [s131, go_sem, Nat.reduceEqDiff, Nat.reduceAdd, Nat.reduceSub, Nat.reduceLeDiff, Nat.reduceLT, Nat.reduceMul, Nat.reduceBEq, Int.reduceEq, Int.reduceLT, Int.reduceLE, Int.reduceNeg, Int.reduceToNat, Int.reduceSub, Int.reduceAdd, reduceIte, hxx, encInstr, hg, encI, splice, fz1, f2, f3, f4, ha, List.length_map, List.length_set, h6']
  have hend : ∀ ys : List Int, ys = execS x st ((st.set 4 (gt st 4 + 1)).set 5 (gt st 5 + 1)) → ∃ ids : List Nat, ids.Nodup ∧ OwnsR [ys.map encI, [[V.int .i64 x.op, .int .i64 x.a, .int .i64 x.b]]] (.lst 1 ((stepS xs st).map encI)) (.own 0 1 0 6 6) ids := fun ys e => hfin _ ys rfl e
  repeat' (first | (refine CP.go (add_s _ _) rfl rfl ?_ <;> (try simp (disch := omega) only [go_sem, Nat.reduceEqDiff, Nat.reduceAdd, Nat.reduceSub, Nat.reduceLeDiff, Nat.reduceLT, Nat.reduceMul, Nat.reduceBEq, Int.reduceEq, Int.reduceLT, Int.reduceLE, Int.reduceNeg, Int.reduceToNat, Int.reduceSub, Int.reduceAdd, reduceIte, hxx, encInstr, hg, encI, splice, fz1, f2, f3, f4, ha, List.length_map, List.length_set, h6'])) | (refine CP.go (sub_s _ _) rfl rfl ?_ <;> (try simp (disch := omega) only [go_sem, Nat.reduceEqDiff, Nat.reduceAdd, Nat.reduceSub, Nat.reduceLeDiff, Nat.reduceLT, Nat.reduceMul, Nat.reduceBEq, Int.reduceEq, Int.reduceLT, Int.reduceLE, Int.reduceNeg, Int.reduceToNat, Int.reduceSub, Int.reduceAdd, reduceIte, hxx, encInstr, hg, encI, splice, fz1, f2, f3, f4, ha, List.length_map, List.length_set, h6'])) | (refine CP.go (mul_s _ _) rfl rfl ?_ <;> (try simp (disch := omega) only [go_sem, Nat.reduceEqDiff, Nat.reduceAdd, Nat.reduceSub, Nat.reduceLeDiff, Nat.reduceLT, Nat.reduceMul, Nat.reduceBEq, Int.reduceEq, Int.reduceLT, Int.reduceLE, Int.reduceNeg, Int.reduceToNat, Int.reduceSub, Int.reduceAdd, reduceIte, hxx, encInstr, hg, encI, splice, fz1, f2, f3, f4, ha, List.length_map, List.length_set, h6'])) | (refine condP_t (by assumption) ?_ <;> (try simp (disch := omega) only [go_sem, Nat.reduceEqDiff, Nat.reduceAdd, Nat.reduceSub, Nat.reduceLeDiff, Nat.reduceLT, Nat.reduceMul, Nat.reduceBEq, Int.reduceEq, Int.reduceLT, Int.reduceLE, Int.reduceNeg, Int.reduceToNat, Int.reduceSub, Int.reduceAdd, reduceIte, hxx, encInstr, hg, encI, splice, fz1, f2, f3, f4, ha, List.length_map, List.length_set, h6'])) | (refine condP_f (by assumption) ?_ <;> (try simp (disch := omega) only [go_sem, Nat.reduceEqDiff, Nat.reduceAdd, Nat.reduceSub, Nat.reduceLeDiff, Nat.reduceLT, Nat.reduceMul, Nat.reduceBEq, Int.reduceEq, Int.reduceLT, Int.reduceLE, Int.reduceNeg, Int.reduceToNat, Int.reduceSub, Int.reduceAdd, reduceIte, hxx, encInstr, hg, encI, splice, fz1, f2, f3, f4, ha, List.length_map, List.length_set, h6'])) | (refine condP_dec (fun h => ?_) (fun h => ?_) <;> (try simp (disch := omega) only [go_sem, Nat.reduceEqDiff, Nat.reduceAdd, Nat.reduceSub, Nat.reduceLeDiff, Nat.reduceLT, Nat.reduceMul, Nat.reduceBEq, Int.reduceEq, Int.reduceLT, Int.reduceLE, Int.reduceNeg, Int.reduceToNat, Int.reduceSub, Int.reduceAdd, reduceIte, hxx, encInstr, hg, encI, splice, fz1, f2, f3, f4, ha, List.length_map, List.length_set, h6'])) | (refine condP_split (fun h => ?_) (fun h => ?_) <;> (try simp (disch := omega) only [go_sem, Nat.reduceEqDiff, Nat.reduceAdd, Nat.reduceSub, Nat.reduceLeDiff, Nat.reduceLT, Nat.reduceMul, Nat.reduceBEq, Int.reduceEq, Int.reduceLT, Int.reduceLE, Int.reduceNeg, Int.reduceToNat, Int.reduceSub, Int.reduceAdd, reduceIte, hxx, encInstr, hg, encI, splice, fz1, f2, f3, f4, ha, List.length_map, List.length_set, h6'])))
  all_goals first
    | (exfalso; omega)
    | (refine hend _ ?_; unfold execS; simp_all; done)
    | (have h5 : x.op = 5 := by omega
       refine hend _ ?_; unfold execS; simp_all)
end Go.Av
