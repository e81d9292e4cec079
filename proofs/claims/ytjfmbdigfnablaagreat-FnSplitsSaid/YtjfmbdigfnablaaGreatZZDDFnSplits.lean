import Derived.Test.YtjfmbdigfnablaaGreatZZDCFnSplits
import Derived.Test.YtjfmbdigfnablaaGreatAv28
namespace Go.Av
open Go.Proofs Go.RowKit
set_option linter.unusedVariables false
set_option linter.unusedSimpArgs false
set_option maxRecDepth 100000
set_option maxHeartbeats 4000000
theorem blk_cut : ∀ (u v : List Stmt) (d : Int), blockFrom d (u ++ v) = true → blockFrom (d + depM u) v = true ∧ (d + depM u = 0 → blockFrom d u = true)
  | [], v, d, h => by
    have e : depM [] = 0 := rfl
    rw [e, Int.add_zero]
    exact ⟨h, fun q => by simp [blockFrom, q]⟩
  | x :: u, v, d, h => by
    rw [List.cons_append, blockFrom_cons] at h
    split at h
    case isFalse => cases h
    rename_i hc
    have ih := blk_cut u v (d + delta x.kind) h
    have e : d + depM (x :: u) = d + delta x.kind + depM u := by rw [depM_cons]; unfold dlt; omega
    rw [e]
    refine ⟨ih.1, fun q => ?_⟩
    rw [blockFrom_cons, if_pos hc]
    exact ih.2 q
theorem end_not {s : Stmt} (h : s.kind ≠ 6) (e : s = endS) : False := h (by rw [e]; rfl)
theorem flat_inj : ∀ (a b : Tr) (v w : List Stmt), a.ok = true → b.ok = true → (∀ s r, v = s :: r → s = endS) → (∀ s r, w = s :: r → s = endS) → a.flat ++ v = b.flat ++ w → a = b ∧ v = w
  | .nil, .nil, v, w, _, _, _, _, h => ⟨rfl, h⟩
  | .nil, .one s r, v, w, _, hb, hv, _, h => by
    obtain ⟨_, hk, _⟩ := Tr.one_ok hb
    exact (end_not (by omega) (hv s _ h)).elim
  | .nil, .grp s a r, v, w, _, hb, hv, _, h => by
    obtain ⟨_, hk, _⟩ := Tr.grp_ok hb
    exact (end_not (by omega) (hv s _ h)).elim
  | .one s r, .nil, v, w, ha, _, _, hw, h => by
    obtain ⟨_, hk, _⟩ := Tr.one_ok ha
    exact (end_not (by omega) (hw s _ h.symm)).elim
  | .grp s a r, .nil, v, w, ha, _, _, hw, h => by
    obtain ⟨_, hk, _⟩ := Tr.grp_ok ha
    exact (end_not (by omega) (hw s _ h.symm)).elim
  | .one s r, .one s' r', v, w, ha, hb, hv, hw, h => by
    obtain ⟨_, _, ha'⟩ := Tr.one_ok ha
    obtain ⟨_, _, hb'⟩ := Tr.one_ok hb
    simp only [Tr.flat, List.cons_append, List.cons.injEq] at h
    have ih := flat_inj r r' v w ha' hb' hv hw h.2
    exact ⟨by rw [h.1, ih.1], ih.2⟩
  | .one s r, .grp s' a' r', v, w, ha, hb, hv, hw, h => by
    obtain ⟨_, h1, _⟩ := Tr.one_ok ha
    obtain ⟨_, h2, _⟩ := Tr.grp_ok hb
    simp only [Tr.flat, List.cons_append, List.cons.injEq] at h
    have := h.1
    subst this
    omega
  | .grp s a r, .one s' r', v, w, ha, hb, hv, hw, h => by
    obtain ⟨_, h1, _⟩ := Tr.grp_ok ha
    obtain ⟨_, h2, _⟩ := Tr.one_ok hb
    simp only [Tr.flat, List.cons_append, List.cons.injEq] at h
    have := h.1
    subst this
    omega
  | .grp s a r, .grp s' a' r', v, w, ha, hb, hv, hw, h => by
    obtain ⟨_, _, ha1, ha2⟩ := Tr.grp_ok ha
    obtain ⟨_, _, hb1, hb2⟩ := Tr.grp_ok hb
    simp only [Tr.flat, List.cons_append, List.cons.injEq, List.append_assoc] at h
    have i1 := flat_inj a a' _ _ ha1 hb1 (fun s r e => by injection e with e _; exact e.symm) (fun s r e => by injection e with e _; exact e.symm) h.2
    have i2 := flat_inj r r' v w ha2 hb2 hv hw (by have := i1.2; injection this)
    exact ⟨by rw [h.1, i1.1, i2.1], i2.2⟩
section
variable {σ τ : Type} {stp : Stmt → σ → σ} {hold : Stmt → σ → Bool} {stp' : Stmt → τ → τ} {hold' : Stmt → τ → Bool}
theorem runG_app : ∀ (a b : Tr) (x : σ), runG stp hold (a.app b) x = runG stp hold b (runG stp hold a x)
  | .nil, b, x => rfl
  | .one s r, b, x => runG_app r b _
  | .grp s a r, b, x => runG_app r b _
theorem runG_map (f : τ → σ) (h1 : ∀ s x, stp s (f x) = f (stp' s x)) (h2 : ∀ s x, hold s (f x) = hold' s x) : ∀ (t : Tr) (x : τ), runG stp hold t (f x) = f (runG stp' hold' t x)
  | .nil, x => rfl
  | .one s r, x => by
    simp only [runG]
    rw [h1, runG_map f h1 h2 r]
  | .grp s a r, x => by
    have hit : ∀ (n : Nat) (y : τ), itN (fun z => runG stp hold a z) n (f y) = f (itN (fun z => runG stp' hold' a z) n y) := fun n => by
      induction n with
      | zero => exact fun y => rfl
      | succ n ih =>
        intro y
        show itN _ n (runG stp hold a (f y)) = _
        rw [runG_map f h1 h2 a, ih]; rfl
    simp only [runG]
    rw [h1, h2, hit, runG_map f h1 h2 r]
end
theorem cutM_dep (l : List Stmt) : ∀ (d i : Nat) (k : Int), k ∈ cutM l d i → depthOf l k = 0
  | 0, i, k, h => absurd h List.not_mem_nil
  | d + 1, i, k, h => by
    rw [cutM, List.mem_append] at h
    rcases h with h | h
    · split at h
      · rename_i q
        rw [List.mem_singleton.1 h]; exact q.1
      · exact absurd h List.not_mem_nil
    · exact cutM_dep l d (i + 1) k h
theorem cut_parts {xs : List Stmt} {n : Nat} (h : (n : Int) ∈ cutsM xs) : blockOk (xs.take n) = true ∧ blockOk (xs.drop n) = true ∧ treeOf xs = (treeOf (xs.take n)).app (treeOf (xs.drop n)) := by
  have hp := cut_pos h
  unfold cutsM at h
  split at h
  case isFalse => exact absurd h List.not_mem_nil
  rename_i hb
  have hd := cutM_dep xs _ _ _ h
  unfold depthOf at hd
  rw [if_pos ⟨hb, by omega⟩, Int.toNat_natCast] at hd
  have hb' := hb
  simp only [blockOk, Bool.and_eq_true, decide_eq_true_eq] at hb'
  have hc := blk_cut (xs.take n) (xs.drop n) 0 (by rw [List.take_append_drop]; exact hb'.1)
  rw [hd, Int.add_zero] at hc
  have h1 : blockOk (xs.take n) = true := by
    simp only [blockOk, Bool.and_eq_true, decide_eq_true_eq]
    exact ⟨hc.2 rfl, by simp; omega⟩
  have h2 : blockOk (xs.drop n) = true := by
    simp only [blockOk, Bool.and_eq_true, decide_eq_true_eq]
    exact ⟨hc.1, by simp; omega⟩
  have t0 := treeOf_ok hb
  have t1 := treeOf_ok h1
  have t2 := treeOf_ok h2
  refine ⟨h1, h2, (flat_inj _ _ [] [] t0.1 (Tr.app_ok t1.1 t2.1) (fun s r e => by cases e) (fun s r e => by cases e) ?_).1⟩
  rw [Tr.app_flat, ← t0.2.1, ← t1.2.1, ← t2.2.1, List.take_append_drop]
def shE (s0 : List Int) (u0 : Nat) (σ : EF) : EF := ⟨σ.vars, s0 ++ σ.sent, u0 + σ.used⟩
theorem usedM_drop (rd : List Int) (u v : Nat) : usedM rd ((u + v : Nat) : Int) = usedM (rd.drop (min u rd.length)) (v : Int) := by
  unfold usedM
  by_cases h : u ≤ rd.length
  · rw [Nat.min_eq_left h, List.length_drop]
    by_cases q : (rd.length : Int) ≤ ((u + v : Nat) : Int)
    · rw [if_pos q, if_pos (by omega)]
    · rw [if_neg q, if_neg (by omega), Int.toNat_natCast, Int.toNat_natCast]
      unfold gtI
      rw [List.getElem?_drop]
  · rw [Nat.min_eq_right (by omega), if_pos (by omega), if_pos (by simp)]
theorem stepE_sh (rd : List Int) (s0 : List Int) (u0 : Nat) (s : Stmt) (x : EF) : stepE rd s (shE s0 u0 x) = shE s0 u0 (stepE (rd.drop (min u0 rd.length)) s x) := by
  unfold stepE shE
  simp only
  split
  · rw [usedM_drop]; simp [Nat.add_assoc]
  split
  · rfl
  split
  · simp
  · rfl
theorem split_eff {tk : Task} {n : Nat} {e e' : Expr} {rd vars : List Int} (h : (n : Int) ∈ cutsM tk.body) :
    (runE tk rd vars).vars = (runE ⟨tk.body.drop n, e'⟩ (rd.drop (min (runE ⟨tk.body.take n, e⟩ rd vars).used rd.length)) (runE ⟨tk.body.take n, e⟩ rd vars).vars).vars ∧
    (runE tk rd vars).sent = (runE ⟨tk.body.take n, e⟩ rd vars).sent ++ (runE ⟨tk.body.drop n, e'⟩ (rd.drop (min (runE ⟨tk.body.take n, e⟩ rd vars).used rd.length)) (runE ⟨tk.body.take n, e⟩ rd vars).vars).sent ∧
    (runE tk rd vars).used = (runE ⟨tk.body.take n, e⟩ rd vars).used + (runE ⟨tk.body.drop n, e'⟩ (rd.drop (min (runE ⟨tk.body.take n, e⟩ rd vars).used rd.length)) (runE ⟨tk.body.take n, e⟩ rd vars).vars).used := by
  have hc := cut_parts h
  have e1 : runE tk rd vars = runG (stepE rd) holdE (treeOf (tk.body.drop n)) (runE ⟨tk.body.take n, e⟩ rd vars) := by
    unfold runE
    rw [hc.2.2, runG_app]
  generalize runE ⟨tk.body.take n, e⟩ rd vars = b at e1 ⊢
  have e2 : b = shE b.sent b.used ⟨b.vars, [], 0⟩ := by simp [shE]
  have e3 : runE tk rd vars = shE b.sent b.used (runE ⟨tk.body.drop n, e'⟩ (rd.drop (min b.used rd.length)) b.vars) := by
    rw [e1]
    conv => lhs; rw [e2]
    exact runG_map (shE b.sent b.used) (stepE_sh rd b.sent b.used) (fun s x => rfl) _ _
  rw [e3]
  exact ⟨rfl, rfl, rfl⟩
theorem it_cnt {σ : Type} {m : σ → Nat} {f : σ → σ} {c : Nat} (hf : ∀ x, m (f x) ≤ m x + c) : ∀ (n : Nat) (x : σ), m (itN f n x) ≤ m x + n * c
  | 0, x => by simp [itN]
  | n + 1, x => by
    have h1 := hf x
    have h2 := it_cnt hf n (f x)
    show m (itN f n (f x)) ≤ _
    rw [Nat.succ_mul]; omega
theorem run_cnt {σ : Type} {m : σ → Nat} {stp : Stmt → σ → σ} {hold : Stmt → σ → Bool} (hm : ∀ s x, m (stp s x) ≤ m x + 1) : ∀ (t : Tr) (x : σ), t.ok = true → m (runG stp hold t x) ≤ m x + cntT t
  | .nil, x, _ => by simp [runG]
  | .one s r, x, h => by
    obtain ⟨_, _, hr⟩ := Tr.one_ok h
    have h1 := hm s x
    have h2 := run_cnt (hold := hold) hm r (stp s x) hr
    simp only [runG, cntT]
    omega
  | .grp s a r, x, h => by
    obtain ⟨hs, hk, ha, hr⟩ := Tr.grp_ok h
    have h1 := hm s x
    have h3 := (rounds_le (b := hold s x) hs hk).1
    have h4 : m (itN (fun x => runG stp hold a x) (rounds s (hold s x)) (stp s x)) ≤ m (stp s x) + rounds s (hold s x) * cntT a := it_cnt (m := m) (fun y => run_cnt (hold := hold) hm a y ha) (rounds s (hold s x)) (stp s x)
    have h2 := run_cnt (hold := hold) hm r (itN (fun x => runG stp hold a x) (rounds s (hold s x)) (stp s x)) hr
    have h5 : rounds s (hold s x) * cntT a ≤ 5 * cntT a := Nat.mul_le_mul_right _ h3
    simp only [runG, cntT]
    omega
theorem effOf_bd {ts : List Task} {t : Int} {vars rd : List Int} (hp : programOk ts = true) (ht : 0 ≤ t ∧ t < ts.length) (hvo : varsOkM vars = true) (hv : vals rd = true) : varsOkM (effOf ts t vars rd).vars = true ∧ (effOf ts t vars rd).used ≤ maxCnt ∧ (effOf ts t vars rd).sent.length ≤ maxCnt := by
  have pf := prog_facts hp
  have htl : t.toNat < ts.length := by omega
  have hmem : taskAt ts t ∈ ts := by rw [← taskAt_eq htl]; exact List.getElem_mem _
  have htr := treeOf_ok (task_facts (pf.2 _ hmem).1).1
  have hc := cntT_max (t := treeOf (taskAt ts t).body) (by rw [← htr.2.1]; exact htr.2.2)
  have hvf : vars.length = 8 ∧ ∀ z ∈ vars, isValue z = true := by
    simp only [varsOkM, Bool.and_eq_true, decide_eq_true_eq] at hvo
    exact ⟨hvo.1, vals_iff.1 hvo.2⟩
  refine ⟨?_, ?_, ?_⟩
  · have := run_inv (hold := holdE) (p := fun σ : EF => σ.vars.length = 8 ∧ ∀ z ∈ σ.vars, isValue z = true) (stp := stepE rd) (fun s a hs h6 h => by
      unfold stepE
      split
      · exact ⟨by simpa using h.1, set_all h.2 (usedM_value hv (by omega))⟩
      split
      · rename_i h1
        have hx : hasExpr s.kind = true := by simp [hasExpr, h1]
        exact ⟨by simpa using h.1, set_all h.2 (evalE_value h.2 h.1 (stmt_expr hs hx))⟩
      split
      · exact h
      · exact h) (treeOf (taskAt ts t).body) ⟨vars, [], 0⟩ htr.1 hvf
    show varsOkM (runE (taskAt ts t) rd vars).vars = true
    unfold runE
    simp only [varsOkM, this.1, Bool.and_eq_true, decide_eq_true_eq, true_and]
    exact vals_iff.2 this.2
  · have := run_cnt (hold := holdE) (m := EF.used) (stp := stepE rd) (fun s x => by
      unfold stepE
      split
      · exact Nat.le_refl _
      split
      · exact Nat.le_succ _
      split <;> exact Nat.le_succ _) (treeOf (taskAt ts t).body) ⟨vars, [], 0⟩ htr.1
    simp only [Nat.zero_add] at this
    exact Nat.le_trans this hc
  · have := run_cnt (hold := holdE) (m := fun σ : EF => σ.sent.length) (stp := stepE rd) (fun s x => by
      unfold stepE
      split
      · exact Nat.le_succ _
      split
      · exact Nat.le_succ _
      split
      · simp
      · exact Nat.le_succ _) (treeOf (taskAt ts t).body) ⟨vars, [], 0⟩ htr.1
    simp only [List.length_nil, Nat.zero_add] at this
    exact Nat.le_trans this hc
end Go.Av

namespace Go.Av
open Go.Proofs Go.RowKit
set_option linter.unusedVariables false
set_option linter.unusedSimpArgs false
set_option maxRecDepth 100000
set_option maxHeartbeats 4000000
def GoodB (t : Tr) : Prop := t.ok = true ∧ t.dep ≤ 2 ∧ t.flat.length ≤ 24
theorem BlockD.mono {d n l l' : Nat} (h : BlockD d n l) (hl : l ≤ l') : BlockD d n l' := fun ni di hh id L h1 h2 S => C.mono (h ni di hh id L h1 h2 S) fun r h' ⟨t, q, a, b, c, e, f⟩ => ⟨t, q, a, b, c, by omega, f⟩
theorem block0_d (n : Nat) (hn : n ≤ 5) : BlockD 0 n 24 := by
  have b2 : ∀ n', 1 ≤ n' → n' ≤ 2 → BlockD 2 n' 2 := fun n' h1 h2 => (block_step 2 n' 0 (by omega) (by omega) (by omega) (fun h => absurd h (by omega))).mono (by simp; omega)
  have b1 : ∀ n', 1 ≤ n' → n' ≤ 2 → BlockD 1 n' 11 := fun n' h1 h2 => (block_step 1 n' 2 (by omega) (by omega) (by omega) (fun _ => b2)).mono (by simp; omega)
  exact (block_step 0 n 11 (by omega) (by omega) (by omega) (fun _ => b1)).mono (by simp; omega)
theorem case_d {h : Heap} {id : Nat} {L : List It} (S : Sep h (.c id :: L)) : C Tryz.prog 126 [.ptr id 1 0 0] h (fun r h' => ∃ (t : Tr) (l : Nat), r = .own l 6 0 t.flat.length t.flat.length ∧ GoodB t ∧ Sep h' (.k l (t.flat.map encStmt) :: .c id :: L)) := by
  refine C.by mixed (cfn_ok Tryz.func126 ok126) rfl ?_
  simp (disch := omega) only [s126, go_sem]
  refine S.goBelow (n := 6) (by omega) fun z h1 z0 z1 S1 => ?_
  simp (disch := omega) only [go_sem]
  refine C.go (block0_d z.toNat (by omega) _ _ _ _ _ (by omega) rfl S1) ?_
  rintro r h2 ⟨t, l, rfl, h1, h2, h3, S2⟩
  simp (disch := omega) only [go_sem]
  exact ⟨t, l, rfl, ⟨h1, h2, h3⟩, S2⟩
theorem good_task {t : Tr} {e : Expr} (h : GoodB t) (he : exprOk e = true) : taskOk ⟨t.flat, e⟩ = true := by
  simp only [taskOk, Bool.and_eq_true]
  exact ⟨tree_blockOk h.1 (by have := h.2.1; omega) h.2.2, he⟩
theorem push_task (ts : List Task) (t : Task) : (ts ++ [t]).map encTask = ts.map encTask ++ [encTask t] := by simp
theorem program_d {h : Heap} {id : Nat} {L : List It} (S : Sep h (.c id :: L)) : C Tryz.prog 60 [.ptr id 1 0 0] h (fun r h' => ∃ (ts : List Task) (v : V), r = .agg [v] ∧ (1 ≤ ts.length ∧ ts.length ≤ 3) ∧ (∀ t ∈ ts, taskOk t = true) ∧ Sep h' (.v (.lst 4 (ts.map encTask)) v :: .c id :: L)) := by
  refine C.by mixed (cfn_ok Tryz.func60 ok60) rfl ?_
  simp (disch := omega) only [s60, go_sem, storeH, storeB, splice]
  have S0 : Sep (h ++ [[[V.nils]], [[V.nils]]]) (.k (h.length + 1) [[.nils]] :: .v (.lst 4 (([] : List Task).map encTask)) .nils :: .c id :: .k h.length [[.nils]] :: L) := by
    have := ((S.newK [[.nils]]).newK [[.nils]]).nils (sz := 4)
    simp only [List.append_assoc, List.cons_append, List.nil_append, List.length_append, List.length_cons, List.length_nil] at this
    exact this.pk (A := [_, _, _, _]) [1, 0, 3, 2] rfl
  refine loopP_intro (fun m s => ∃ (ts : List Task) (v : V), ts.length ≤ 3 ∧ m = 3 - ts.length ∧ s.e 0 = .ptr id 1 0 0 ∧ s.e 2 = .ptr h.length 1 0 0 ∧ s.e 3 = .ptr (h.length + 1) 1 0 0 ∧ s.e 4 = .int .i64 ts.length ∧ (∀ t ∈ ts, taskOk t = true) ∧ Sep s.h (.k (h.length + 1) [[v]] :: .v (.lst 4 (ts.map encTask)) v :: .c id :: .k h.length [[.nils]] :: L)) 3 ⟨[], .nils, by simp, rfl, by simp (disch := omega) only [go_sem, storeH, storeB, splice], by simp (disch := omega) only [go_sem, storeH, storeB, splice], by simp (disch := omega) only [go_sem, storeH, storeB, splice], by simp (disch := omega) only [go_sem, storeH, storeB, splice] <;> rfl, by simp, S0⟩ ?_
  intro m e hp P
  refine Exists.elim P fun ts P => Exists.elim P fun v P => ?_
  have hk := P.1
  have hm := P.2.1
  have e0 := P.2.2.1
  have e2 := P.2.2.2.1
  have e3 := P.2.2.2.2.1
  have e4 := P.2.2.2.2.2.1
  have hok := P.2.2.2.2.2.2.1
  have S1 := P.2.2.2.2.2.2.2
  clear P
  subst hm
  simp only at e0 e2 e3 e4 S1
  simp (disch := omega) only [go_sem, e0, e2, e3, e4]
  refine (S1.pull 2).goBelow (n := 3) (by omega) fun z h1 z0 z1 S2 => ?_
  simp (disch := omega) only [go_sem, e0, e2, e3, e4]
  refine condP_dec (fun hlt => ?_) (fun hlt => ?_)
  · have hlt' : ts.length < 3 := by omega
    have K2 := S2.blk 1 rfl
    have zv := S2.vv 2 rfl
    simp (disch := omega) only [go_sem, e0, e2, e3, e4, K2, zv.1, zv.2.1, zv.2.2]
    refine C.go (case_d S2) ?_
    rintro r h3 ⟨t, l, rfl, hg, S3⟩
    have K3 := S3.blk 2 rfl
    simp (disch := omega) only [go_sem, e0, e2, e3, e4, K3, zv.1, zv.2.1, zv.2.2]
    refine C.go (expr_d (S3.pull 1)) ?_
    rintro r h4 ⟨ex, rfl, hex, S4⟩
    have K4 := S4.blk 2 rfl
    have K4' := fun t => heap_app (h' := t) K4
    have tl := good_task hg hex
    have S5 := (((S4.pull 1).ofFlat (sz := 6) (n := t.flat.length) (by simp) (flat_Stmt _)).mkTask (t := ⟨t.flat, ex⟩)).newK [[.own l 6 0 t.flat.length t.flat.length, .int .i64 ex.op, .int .i64 ex.a, .int .i64 ex.b]]
    have S6 := S5.pk (A := [_, _, _, _, _]) [4, 1, 3, 2] rfl
    have hpu := Sep.push (bytes := 48) (L := .k (h.length + 1) [[v]] :: .c id :: .k h.length [[.nils]] :: L) S6 (S5.blk 0 rfl) (by simp; omega)
    refine Exists.elim hpu fun v' q => Exists.elim q fun h5 q => ?_
    have hap := q.1
    have S7 := q.2
    clear q hpu
    have K7 := S7.blk 1 rfl
    have zv' := S7.vv 0 rfl
    rw [← push_task ts ⟨t.flat, ex⟩] at S7
    simp (disch := omega) only [go_sem, e0, e2, e3, e4, K4, K4', zv.1, zv.2.1, zv.2.2, encExpr, hap, K7, zv'.1, zv'.2.1, zv'.2.2, storeH, storeB, splice]
    have S8 := ((S7.pull 1).setK [[v']])
    refine nextP_intro (3 - (ts.length + 1)) (by omega) ⟨ts ++ [(⟨t.flat, ex⟩ : Task)], v', by simp; omega, by simp, by simp (disch := omega) only [go_sem, e0, e2, e3, e4, K4, K4', zv.1, zv.2.1, zv.2.2, encExpr, hap, K7, zv'.1, zv'.2.1, zv'.2.2, storeH, storeB, splice], by simp (disch := omega) only [go_sem, e0, e2, e3, e4, K4, K4', zv.1, zv.2.1, zv.2.2, encExpr, hap, K7, zv'.1, zv'.2.1, zv'.2.2, storeH, storeB, splice], by simp (disch := omega) only [go_sem, e0, e2, e3, e4, K4, K4', zv.1, zv.2.1, zv.2.2, encExpr, hap, K7, zv'.1, zv'.2.1, zv'.2.2, storeH, storeB, splice], by simp (disch := omega) only [go_sem, e0, e2, e3, e4, K4, K4', zv.1, zv.2.1, zv.2.2, encExpr, hap, K7, zv'.1, zv'.2.1, zv'.2.2, storeH, storeB, splice] <;> simp, ?_, S8⟩
    intro u hu
    rcases List.mem_append.1 hu with q | q
    · exact hok u q
    · rw [List.mem_singleton.1 q]; exact tl
  · have K2 := S2.blk 1 rfl
    have K3 := S2.blk 3 rfl
    have c1 : ∀ d, (h1.set h.length d)[h.length]? = some d := fun d => heap_set _ K3
    have zv := S2.vv 2 rfl
    simp (disch := omega) only [go_sem, e0, e2, e3, e4, K2, K3, c1, zv.1, zv.2.1, zv.2.2, storeH, storeB, splice]
    exact ⟨ts, v, rfl, ⟨by omega, hk⟩, hok, (((S2.pull 3).setK [[v]]).pk (A := [_, _, _, _]) [3, 1] rfl)⟩
end Go.Av

namespace Go.Av
open Go.Proofs Go.RowKit
set_option linter.unusedVariables false
set_option linter.unusedSimpArgs false
set_option maxRecDepth 100000
set_option maxHeartbeats 4000000
theorem push_int (zs : List Int) (z : Int) : (zs ++ [z]).map encI = zs.map encI ++ [[.int .i64 z]] := by simp [encI]
theorem all_snoc {p : Int → Prop} {zs : List Int} {z : Int} (h : ∀ x ∈ zs, p x) (hz : p z) : ∀ x ∈ zs ++ [z], p x := fun x hx => by
  rcases List.mem_append.1 hx with q | q
  · exact h x q
  · rw [List.mem_singleton.1 q]; exact hz
theorem vars_d {h : Heap} {id : Nat} {L : List It} (S : Sep h (.c id :: L)) : C Tryz.prog 73 [.ptr id 1 0 0] h (fun r h' => ∃ (zs : List Int) (l : Nat), r = .own l 1 0 zs.length zs.length ∧ zs.length = 8 ∧ (∀ z ∈ zs, -1000000 ≤ z ∧ z ≤ 1000000) ∧ Sep h' (.k l (zs.map encI) :: .c id :: L)) := by
  refine C.by mixed (cfn_ok Tryz.func73 ok73) rfl ?_
  simp (disch := omega) only [s73, go_sem]
  have S0 : Sep (h ++ [[]]) (.k h.length (([] : List Int).map encI) :: .c id :: L) := S.newK []
  refine loopP_intro (fun m s => ∃ (zs : List Int) (l : Nat), zs.length ≤ 8 ∧ m = 8 - zs.length ∧ s.e 0 = .ptr id 1 0 0 ∧ s.e 3 = .own l 1 0 zs.length zs.length ∧ s.e 4 = .int .i64 zs.length ∧ (∀ z ∈ zs, -1000000 ≤ z ∧ z ≤ 1000000) ∧ Sep s.h (.k l (zs.map encI) :: .c id :: L)) 8 ⟨[], h.length, by simp, rfl, by simp (disch := omega) only [go_sem], by simp (disch := omega) only [go_sem] <;> rfl, by simp (disch := omega) only [go_sem] <;> rfl, by simp, S0⟩ ?_
  intro m e hp P
  refine Exists.elim P fun zs P => Exists.elim P fun l P => ?_
  have hk := P.1
  have hm := P.2.1
  have e0 := P.2.2.1
  have e3 := P.2.2.2.1
  have e4 := P.2.2.2.2.1
  have hz := P.2.2.2.2.2.1
  have S1 := P.2.2.2.2.2.2
  clear P
  subst hm
  simp only at e0 e3 e4 S1
  simp (disch := omega) only [go_sem, e0, e3, e4]
  have S2 := S1.sw
  refine condP_dec (fun hlt => ?_) (fun hlt => ?_)
  · have hlt' : zs.length < 8 := by omega
    simp (disch := omega) only [go_sem, e0, e3, e4]
    refine S2.goBelow (n := 2000) (by omega) fun x h3 x0 x1 S3 => ?_
    simp (disch := omega) only [go_sem, e0, e3, e4]
    have S4 : Sep (h3 ++ [[0, 1, 2, 5, x - 1000, 1000000].map encI]) (.c id :: .k h3.length ([0, 1, 2, 5, x - 1000, 1000000].map encI) :: .k l (zs.map encI) :: L) := (S3.newK _).perm (.swap _ _ _)
    refine S4.goPick rfl (by omega) (by omega) fun v h9 hv S9 => ?_
    simp only [List.mem_cons, List.not_mem_nil, or_false] at hv
    simp (disch := omega) only [go_sem, e0, e3, e4]
    have hap := append1 (sz := 1) (bytes := 8) (n := zs.length) (c := [.int .i64 v]) (S9.blk 1 rfl) (by simp) (by omega)
    have S10 := S9.sw.push1 [.int .i64 v]
    rw [← push_int] at hap S10
    simp (disch := omega) only [go_sem, hap, e0, e3, e4]
    refine nextP_intro (8 - (zs.length + 1)) (by omega) ⟨zs ++ [v], l, by simp; omega, by simp, by simp (disch := omega) only [go_sem, hap, e0, e3, e4], by simp (disch := omega) only [go_sem, hap, e0, e3, e4] <;> simp, by simp (disch := omega) only [go_sem, hap, e0, e3, e4] <;> simp, all_snoc hz (by simp at *; omega), S10⟩
  · simp (disch := omega) only [go_sem, e0, e3, e4]
    exact ⟨zs, l, rfl, by omega, hz, S2.sw⟩
theorem readings_d {h : Heap} {id : Nat} {L : List It} (S : Sep h (.c id :: L)) : C Tryz.prog 65 [.ptr id 1 0 0] h (fun r h' => ∃ (zs : List Int) (l : Nat), r = .own l 1 0 zs.length zs.length ∧ (1 ≤ zs.length ∧ zs.length ≤ 9) ∧ (∀ z ∈ zs, -200 ≤ z ∧ z ≤ 600) ∧ Sep h' (.k l (zs.map encI) :: .c id :: L)) := by
  refine C.by mixed (cfn_ok Tryz.func65 ok65) rfl ?_
  simp (disch := omega) only [s65, go_sem]
  have S0 : Sep (h ++ [[]]) (.k h.length (([] : List Int).map encI) :: .c id :: L) := S.newK []
  refine loopP_intro (fun m s => ∃ (zs : List Int) (l : Nat), zs.length ≤ 9 ∧ m = 9 - zs.length ∧ s.e 0 = .ptr id 1 0 0 ∧ s.e 3 = .own l 1 0 zs.length zs.length ∧ s.e 4 = .int .i64 zs.length ∧ (∀ z ∈ zs, -200 ≤ z ∧ z ≤ 600) ∧ Sep s.h (.k l (zs.map encI) :: .c id :: L)) 9 ⟨[], h.length, by simp, rfl, by simp (disch := omega) only [go_sem], by simp (disch := omega) only [go_sem] <;> rfl, by simp (disch := omega) only [go_sem] <;> rfl, by simp, S0⟩ ?_
  intro m e hp P
  refine Exists.elim P fun zs P => Exists.elim P fun l P => ?_
  have hk := P.1
  have hm := P.2.1
  have e0 := P.2.2.1
  have e3 := P.2.2.2.1
  have e4 := P.2.2.2.2.1
  have hz := P.2.2.2.2.2.1
  have S1 := P.2.2.2.2.2.2
  clear P
  subst hm
  simp only at e0 e3 e4 S1
  simp (disch := omega) only [go_sem, e0, e3, e4]
  refine S1.sw.goBelow (n := 9) (by omega) fun w h1 w0 w1 S2 => ?_
  simp (disch := omega) only [go_sem, e0, e3, e4]
  refine condP_dec (fun hlt => ?_) (fun hlt => ?_)
  · have hlt' : zs.length < 9 := by omega
    simp (disch := omega) only [go_sem, e0, e3, e4]
    refine S2.goBelow (n := 800) (by omega) fun x h9 x0 x1 S9 => ?_
    simp (disch := omega) only [go_sem, e0, e3, e4]
    have hap := append1 (sz := 1) (bytes := 8) (n := zs.length) (c := [.int .i64 (x - 200)]) (S9.blk 1 rfl) (by simp) (by omega)
    have S10 := S9.sw.push1 [.int .i64 (x - 200)]
    rw [← push_int] at hap S10
    simp (disch := omega) only [go_sem, hap, e0, e3, e4]
    refine nextP_intro (9 - (zs.length + 1)) (by omega) ⟨zs ++ [(x - 200)], l, by simp; omega, by simp, by simp (disch := omega) only [go_sem, hap, e0, e3, e4], by simp (disch := omega) only [go_sem, hap, e0, e3, e4] <;> simp, by simp (disch := omega) only [go_sem, hap, e0, e3, e4] <;> simp, all_snoc hz (by simp at *; omega), S10⟩
  · simp (disch := omega) only [go_sem, e0, e3, e4]
    exact ⟨zs, l, rfl, by omega, hz, S2.sw⟩
end Go.Av

namespace Go.Av
open Go.Proofs Go.RowKit
set_option linter.unusedVariables false
set_option linter.unusedSimpArgs false
set_option maxRecDepth 100000
set_option maxHeartbeats 4000000
end Go.Av

namespace Go.Av
open Go.Proofs Go.RowKit
set_option linter.unusedVariables false
set_option linter.unusedSimpArgs false
set_option maxRecDepth 100000
set_option maxHeartbeats 4000000
end Go.Av

namespace Go.Av
open Go.Proofs Go.RowKit
set_option linter.unusedVariables false
set_option linter.unusedSimpArgs false
set_option maxRecDepth 100000
set_option maxHeartbeats 4000000
theorem big_c (bs : List Int) (hb : bs.length ≤ 9223372036854775807) : CP Tryz.prog 13 [.lst 1 (bs.map encB)] (.bool (decide (1048576 < (bs.length : Int)))) [] := by
  refine CP.by rfl mixed (cfn_ok Tryz.func13 ok13) rfl ?_
  simp (disch := omega) only [s13, go_sem]
theorem refs_bytes (n : Nat) (bs : List Int) : V.refsL n [.lst 1 (bs.map encB)] = true := by simp [V.refsL, V.refs, refsLL_map encB (fun _ => rfl) bs]
theorem Sep.goNew {h : Heap} {L : List It} {K : V → Heap → Prop} {bs : List Int} (S : Sep h L) (hb : bs.length ≤ 1048576) (hk : ∀ h', Sep h' (.c h.length :: L) → K (.ptr h.length 1 0 0) h') : @callP Tryz.prog 59 [.lst 1 (bs.map encB)] h ⟨K⟩ := by
  refine C.go (new_c bs h hb) ?_
  rintro r h' ⟨rfl, e, c⟩
  exact hk h' (S.curNew e c)
def DrawnP (ts : List Task) : Prop := (1 ≤ ts.length ∧ ts.length ≤ 3) ∧ ∀ t ∈ ts, taskOk t = true
theorem DrawnP.body {ts : List Task} (h : DrawnP ts) : ∀ t ∈ ts, t.body.length ≤ 1048576 := fun t ht => by
  have := (treeOf_ok (task_facts (h.2 t ht)).1).2.2
  omega
theorem DrawnP.ok {ts : List Task} (h : DrawnP ts) : programOk ts = true := by
  simp only [programOk, within, Bool.and_eq_true, decide_eq_true_eq, List.all_eq_true]
  have := h.1
  exact ⟨by omega, h.2⟩
end Go.Av

namespace Go.Av
open Go.Proofs Go.RowKit
set_option linter.unusedVariables false
set_option linter.unusedSimpArgs false
set_option maxRecDepth 100000
set_option maxHeartbeats 4000000
theorem Sep.setNext {h : Heap} {ts : List Task} {v : V} {i : Nat} {L : List It} (S : Sep h (.v (.lst 4 (ts.map encTask)) v :: L)) (hi : i < ts.length) (e : Expr) :
    ∃ id b vt, v = .own id 4 0 ts.length ts.length ∧ h[id]? = some b ∧ b.length = ts.length ∧ b[i]? = some [vt, .int .i64 ts[i].next.op, .int .i64 ts[i].next.a, .int .i64 ts[i].next.b] ∧ V.one vt = true ∧ Sep (h.set id (b.set i [vt, .int .i64 e.op, .int .i64 e.a, .int .i64 e.b])) (.v (.lst 4 ((ts.set i ⟨ts[i].body, e⟩).map encTask)) v :: L) := by
  obtain ⟨id, b, c, M, rfl, hb, hc, S1, back⟩ := S.rowWork (k := i) (d := encTask ts[i]) (by simp [hi])
  have hid := S1.blk 0 rfl
  obtain ⟨vt, _, rfl, S2⟩ := sep_ll.1 (S1.perm (.swap _ _ _))
  obtain ⟨_, rfl, S3⟩ := sep_li.1 S2
  obtain ⟨_, rfl, S4⟩ := sep_li.1 S3
  obtain ⟨_, rfl, S5⟩ := sep_li.1 S4
  obtain ⟨rfl, S6⟩ := sep_l0.1 S5
  have S7 : Sep h (.k id b :: .v (.lst 6 (ts[i].body.map encStmt)) vt :: M) := S6.perm (.cons _ List.perm_append_comm)
  have z := S7.vv 1 rfl
  have S8 := S7.setK (b.set i [vt, .int .i64 e.op, .int .i64 e.a, .int .i64 e.b])
  have A1 := Sep.li (k := .i64) (z := e.op) (Sep.li (k := .i64) (z := e.a) (Sep.li (k := .i64) (z := e.b) (Sep.l0 S8.sw)))
  have A2 := Sep.cons2 (fun es e => by cases e) (Sep.sw A1)
  have A3 := back _ (encTask ⟨ts[i].body, e⟩) _ A2.sw
  rw [List.length_map] at hb
  refine ⟨id, b, vt, by rw [List.length_map], hid, hb, hc, z.1, ?_⟩
  rw [List.map_set]
  exact A3
def RigidP (ts : List Task) : Prop := ∀ t ∈ ts, ∃ j : Nat, j < ts.length ∧ t.next = ⟨1, j, 0⟩
theorem expr_num (j : Nat) (h : j ≤ 900) : exprOk ⟨1, j, 0⟩ = true := by
  simp [exprOk, operandOk, within]; omega
theorem rigid_d {h : Heap} {id : Nat} {L : List It} (S : Sep h (.c id :: L)) : C Tryz.prog 72 [.ptr id 1 0 0] h (fun r h' => ∃ (ts : List Task) (v : V), r = .agg [v] ∧ (1 ≤ ts.length ∧ ts.length ≤ 3) ∧ (∀ t ∈ ts, taskOk t = true) ∧ RigidP ts ∧ Sep h' (.v (.lst 4 (ts.map encTask)) v :: .c id :: L)) := by
  refine C.by mixed (cfn_ok Tryz.func72 ok72) rfl ?_
  simp (disch := omega) only [s72, go_sem]
  have S0 := (S.newK [[.nils]]).sw
  refine C.go (program_d S0) ?_
  rintro r h1 ⟨ts0, v, rfl, hl, hok, S1⟩
  have zv := S1.vv 0 rfl
  simp (disch := omega) only [go_sem, zv.1, zv.2.1, zv.2.2, splice]
  have S2 := S1.newK [[v]]
  refine loopP_intro (fun m s => ∃ (ts : List Task) (k : Nat), ts.length = ts0.length ∧ k ≤ ts.length ∧ m = ts.length - k ∧ s.e 0 = .ptr id 1 0 0 ∧ s.e 2 = .ptr h.length 1 0 0 ∧ s.e 3 = .ptr h1.length 1 0 0 ∧ s.e 4 = .int .i64 k ∧ (∀ t ∈ ts, taskOk t = true) ∧ (∀ (i : Nat) (hi : i < ts.length), i < k → ∃ j : Nat, j < ts.length ∧ ts[i].next = ⟨1, j, 0⟩) ∧ Sep s.h (.c id :: .k h1.length [[v]] :: .v (.lst 4 (ts.map encTask)) v :: .k h.length [[.nils]] :: L)) ts0.length ⟨ts0, 0, rfl, by omega, by omega, by simp (disch := omega) only [go_sem, zv.1, zv.2.1, zv.2.2, splice], by simp (disch := omega) only [go_sem, zv.1, zv.2.1, zv.2.2, splice], by simp (disch := omega) only [go_sem, zv.1, zv.2.1, zv.2.2, splice], by simp (disch := omega) only [go_sem, zv.1, zv.2.1, zv.2.2, splice] <;> rfl, hok, fun i hi q => by omega, S2.pk (A := [_, _, _, _]) [2, 0, 1, 3] rfl⟩ ?_
  intro m e hp P
  refine Exists.elim P fun ts P => Exists.elim P fun k P => ?_
  have hlt0 := P.1
  have hk := P.2.1
  have hm := P.2.2.1
  have e0 := P.2.2.2.1
  have e2 := P.2.2.2.2.1
  have e3 := P.2.2.2.2.2.1
  have e4 := P.2.2.2.2.2.2.1
  have hok1 := P.2.2.2.2.2.2.2.1
  have hri := P.2.2.2.2.2.2.2.2.1
  have S3 := P.2.2.2.2.2.2.2.2.2
  clear P
  subst hm
  simp only at e0 e2 e3 e4 S3
  have K3 := S3.blk 1 rfl
  have lenv := fun G => (S3.lst 2 rfl).elim fun i o => o.len_ G
  simp only [List.length_map] at lenv
  simp (disch := omega) only [go_sem, e0, e2, e3, e4, K3, zv.1, zv.2.1, zv.2.2, lenv]
  refine condP_dec (fun hlt => ?_) (fun hlt => ?_)
  · have hlt' : k < ts.length := by omega
    simp (disch := omega) only [go_sem, e0, e2, e3, e4, K3, zv.1, zv.2.1, zv.2.2, lenv]
    refine S3.goBelow (by omega) fun z h5 z0 z1 S5 => ?_
    have K5 := S5.blk 1 rfl
    refine Exists.elim ((S5.pull 2).setNext hlt' ⟨1, z, 0⟩) fun lid q => Exists.elim q fun b q => Exists.elim q fun vt q => ?_
    have hv := q.1
    have hid := q.2.1
    have hbl := q.2.2.1
    have hbk := q.2.2.2.1
    have zt := q.2.2.2.2.1
    have S6 := q.2.2.2.2.2
    clear q
    simp (disch := omega) only [go_sem, e0, e2, e3, e4, K5, zv.1, zv.2.1, zv.2.2, lenv, hv]
    simp (disch := omega) only [go_sem, e0, e2, e3, e4, K5, zv.1, zv.2.1, zv.2.2, lenv, hv, hid, hbl, hbk, zt, storeH, storeB, splice]
    have hz : ((z.toNat : Nat) : Int) = z := by omega
    have hzl : z.toNat < ts.length := by omega
    have htk := task_facts (hok1 _ (List.getElem_mem hlt'))
    have hnt : taskOk ⟨ts[k].body, ⟨1, z, 0⟩⟩ = true := by
      have := expr_num z.toNat (by omega)
      rw [hz] at this
      simp only [taskOk, htk.1, this, Bool.and_self]
    refine nextP_intro (ts.length - (k + 1)) (by omega) ⟨ts.set k ⟨ts[k].body, ⟨1, z, 0⟩⟩, k + 1, by simpa using hlt0, by simp; omega, by simp, by simp (disch := omega) only [go_sem, e0, e2, e3, e4, K5, zv.1, zv.2.1, zv.2.2, lenv, hv, hid, hbl, hbk, zt, storeH, storeB, splice], by simp (disch := omega) only [go_sem, e0, e2, e3, e4, K5, zv.1, zv.2.1, zv.2.2, lenv, hv, hid, hbl, hbk, zt, storeH, storeB, splice], by simp (disch := omega) only [go_sem, e0, e2, e3, e4, K5, zv.1, zv.2.1, zv.2.2, lenv, hv, hid, hbl, hbk, zt, storeH, storeB, splice], by simp (disch := omega) only [go_sem, e0, e2, e3, e4, K5, zv.1, zv.2.1, zv.2.2, lenv, hv, hid, hbl, hbk, zt, storeH, storeB, splice] <;> rfl, fun t ht => (List.mem_or_eq_of_mem_set ht).elim (hok1 t) (fun q => q ▸ hnt), fun i hi q => ?_, S6.pk (A := [_, _, _, _]) [1, 2, 0, 3] rfl⟩
    by_cases w : i = k
    · subst w
      exact ⟨z.toNat, by simpa using hzl, by rw [List.getElem_set_self, hz]⟩
    · have := hri i (by simpa using hi) (by omega)
      rw [List.getElem_set_ne (by omega), List.length_set]
      exact this
  · have Z3 := S3.blk 3 rfl
    have C3 : ∀ d, (hp.set h.length d)[h.length]? = some d := fun d => heap_set _ Z3
    simp (disch := omega) only [go_sem, e0, e2, e3, e4, K3, zv.1, zv.2.1, zv.2.2, lenv, Z3, C3, storeH, storeB, splice]
    refine ⟨ts, v, rfl, by omega, hok1, fun t ht => ?_, ((S3.pull 3).setK [[v]]).pk (A := [_, _, _, _]) [3, 1] rfl⟩
    obtain ⟨i, hi, rfl⟩ := List.getElem_of_mem ht
    exact hri i hi (by omega)
theorem drawRigid_d {h : Heap} {L : List It} {bs : List Int} (S : Sep h L) (hb : bs.length ≤ 1048576) : C Tryz.prog 22 [.lst 1 (bs.map encB)] h (fun r h' => ∃ (ts : List Task) (v : V), r = .agg [v] ∧ (1 ≤ ts.length ∧ ts.length ≤ 3) ∧ (∀ t ∈ ts, taskOk t = true) ∧ RigidP ts ∧ Sep h' (.v (.lst 4 (ts.map encTask)) v :: L)) := by
  refine C.by mixed (cfn_ok Tryz.func22 ok22) rfl ?_
  simp (disch := omega) only [s22, go_sem]
  have S0 := S.newK [[V.nils]]
  refine S0.goNew hb fun h1 S1 => ?_
  simp only [List.length_append, List.length_cons, List.length_nil, Nat.zero_add] at S1
  simp (disch := omega) only [go_sem]
  refine C.go (rigid_d S1) ?_
  rintro r h2 ⟨ts, v, rfl, hl, hok, hri, S2⟩
  have zv := S2.vv 0 rfl
  have K2 := S2.blk 2 rfl
  have C2 : ∀ d, (h2.set h.length d)[h.length]? = some d := fun d => heap_set _ K2
  simp (disch := omega) only [go_sem, zv.1, zv.2.1, zv.2.2, storeH, storeB, splice, K2, C2]
  exact ⟨ts, v, rfl, hl, hok, hri, ((S2.pull 2).setK [[v]]).pk (A := [_, _, _]) [1] rfl⟩
theorem drawVars_d {h : Heap} {L : List It} {bs : List Int} (S : Sep h L) (hb : bs.length ≤ 1048576) : C Tryz.prog 23 [.lst 1 (bs.map encB)] h (fun r h' => ∃ (zs : List Int) (l : Nat), r = .own l 1 0 8 8 ∧ varsOkM zs = true ∧ Sep h' (.k l (zs.map encI) :: L)) := by
  refine C.by mixed (cfn_ok Tryz.func23 ok23) rfl ?_
  simp (disch := omega) only [s23, go_sem]
  refine S.goNew hb fun h1 S1 => ?_
  simp (disch := omega) only [go_sem]
  refine C.go (vars_d S1) ?_
  rintro r h2 ⟨zs, l, rfl, hl, hz, S2⟩
  simp (disch := omega) only [go_sem]
  refine ⟨zs, l, by rw [hl], ?_, S2.drop 1⟩
  simp only [varsOkM, hl, Bool.and_eq_true, decide_eq_true_eq, true_and]
  exact vals_iff.2 fun z hz' => by have := hz z hz'; simp [isValue, within]; omega
theorem drawPlaces_d {h : Heap} {L : List It} {bs : List Int} (S : Sep h L) (hb : bs.length ≤ 1048576) : C Tryz.prog 24 [.lst 1 (bs.map encB)] h (fun r h' => ∃ (zs : List Int) (l : Nat), r = .own l 1 0 12 12 ∧ zs.length = 12 ∧ (∀ z ∈ zs, 0 ≤ z ∧ z ≤ 9999) ∧ Sep h' (.k l (zs.map encI) :: L)) := by
  refine C.by mixed (cfn_ok Tryz.func24 ok24) rfl ?_
  simp (disch := omega) only [s24, go_sem]
  refine S.goNew hb fun h1 S1 => ?_
  simp (disch := omega) only [go_sem]
  have S2 : Sep (h1 ++ [[]]) (.k h1.length (([] : List Int).map encI) :: .c h.length :: L) := S1.newK []
  refine loopP_intro (fun m s => ∃ (zs : List Int) (l : Nat), zs.length ≤ 12 ∧ m = 12 - zs.length ∧ s.e 3 = .ptr h.length 1 0 0 ∧ s.e 4 = .own l 1 0 zs.length zs.length ∧ s.e 5 = .int .i64 zs.length ∧ (∀ z ∈ zs, 0 ≤ z ∧ z ≤ 9999) ∧ Sep s.h (.k l (zs.map encI) :: .c h.length :: L)) 12 ⟨[], h1.length, by simp, rfl, by simp (disch := omega) only [go_sem], by simp (disch := omega) only [go_sem] <;> rfl, by simp (disch := omega) only [go_sem] <;> rfl, by simp, S2⟩ ?_
  intro m e hp P
  refine Exists.elim P fun zs P => Exists.elim P fun l P => ?_
  have hk := P.1
  have hm := P.2.1
  have e3 := P.2.2.1
  have e4 := P.2.2.2.1
  have e5 := P.2.2.2.2.1
  have hz := P.2.2.2.2.2.1
  have S3 := P.2.2.2.2.2.2
  clear P
  subst hm
  simp only at e3 e4 e5 S3
  simp (disch := omega) only [go_sem, e3, e4, e5]
  refine condP_dec (fun hlt => ?_) (fun hlt => ?_)
  · have hlt' : zs.length < 12 := by omega
    simp (disch := omega) only [go_sem, e3, e4, e5]
    refine S3.sw.goBelow (n := 10000) (by omega) fun x h5 x0 x1 S5 => ?_
    have hap := append1 (sz := 1) (bytes := 8) (n := zs.length) (c := [.int .i64 x]) (S5.blk 1 rfl) (by simp) (by omega)
    have S6 := S5.sw.push1 [.int .i64 x]
    rw [← push_int] at hap S6
    simp (disch := omega) only [go_sem, hap, e3, e4, e5]
    refine nextP_intro (12 - (zs.length + 1)) (by omega) ⟨zs ++ [x], l, by simp; omega, by simp, by simp (disch := omega) only [go_sem, hap, e3, e4, e5], by simp (disch := omega) only [go_sem, hap, e3, e4, e5] <;> simp, by simp (disch := omega) only [go_sem, hap, e3, e4, e5] <;> simp, all_snoc hz (by simp at *; omega), S6⟩
  · simp (disch := omega) only [go_sem, e3, e4, e5]
    have h12 : zs.length = 12 := by omega
    exact ⟨zs, l, by rw [h12], h12, hz, S3.drop 1⟩
end Go.Av

namespace Go.Av
open Go.Proofs Go.RowKit
set_option linter.unusedVariables false
set_option linter.unusedSimpArgs false
set_option maxRecDepth 100000
set_option maxHeartbeats 4000000
end Go.Av

namespace Go.Av
open Go.Proofs Go.RowKit
set_option linter.unusedVariables false
set_option linter.unusedSimpArgs false
set_option maxRecDepth 100000
set_option maxHeartbeats 4000000
def encL (us : List Int) : List V := [.lst 1 (us.map encI)]
structure BT where
  mem : List Int
  at_ : Int
  used : List (List Int)
  left : Int
def BS (h : Heap) (B : Nat) (b : BT) (L : List It) : Prop := ∃ (mid : Nat) (vu : V), Sep h (.k B [[.own mid 1 0 49 49, .int .i64 b.at_, vu, .int .i64 b.left]] :: .k mid (b.mem.map encI) :: .v (.lst 1 (b.used.map encL)) vu :: L)
theorem BS.new {h : Heap} {B : Nat} {b : BT} {L : List It} (S : BS h B b L) (c : Blk) : BS (h ++ [c]) B b (.k h.length c :: L) := by
  obtain ⟨mid, vu, S⟩ := S
  exact ⟨mid, vu, (S.newK c).pk (A := [_, _, _, _]) [1, 2, 3, 0] rfl⟩
theorem BS.drop {h : Heap} {B : Nat} {b : BT} {x : It} {L : List It} (S : BS h B b (x :: L)) : BS h B b L := by
  obtain ⟨mid, vu, S⟩ := S
  exact ⟨mid, vu, S.drop 3⟩
theorem Sep.ownF {h : Heap} {L : List It} (S : Sep h L) (n : Nat) {sz : Nat} {ys : Blk} {r : V} (hf : flat ys = true) (e : L[n]? = some (.v (.lst sz ys) r)) {k : Nat} (hk : k < ys.length) : ∃ q, r = .own q sz 0 ys.length ys.length ∧ h[q]? = some ys := by
  obtain ⟨i, _, o⟩ := S.nth n e
  rcases (Owns.flat_ hf).1 o with ⟨_, e, _⟩ | ⟨q, e1, e2, _⟩
  · rw [e] at hk; simp at hk
  · exact ⟨q, e1, e2⟩
def StepIn (m : Micro) : Prop := (1 ≤ m.cost ∧ m.cost ≤ 5) ∧ (m.at_ = -1 ∨ (0 ≤ m.at_ ∧ m.at_ ≤ 48))
end Go.Av

namespace Go.Av
open Go.Proofs Go.RowKit
set_option linter.unusedVariables false
set_option linter.unusedSimpArgs false
set_option maxRecDepth 100000
set_option maxHeartbeats 4000000
theorem gtI_set {m : List Int} {i k : Nat} {v : Int} (hi : i < m.length) : gtI (m.set i v) k = if i = k then v else gtI m k := by
  unfold gtI
  by_cases h : i = k
  · rw [if_pos h, ← h, List.getElem?_set_self hi]; rfl
  · rw [if_neg h, List.getElem?_set_ne h]
structure MemV (n : Nat) (m : List Int) (t c l : Int) : Prop where
  len : m.length = 49
  vars : ∀ k, k < 8 → isValue (gtI m k) = true
  ctl : unpackM (gtI m 8) = (t, c, l)
  t0 : 0 ≤ t
  t1 : t < n
  c0 : 0 ≤ c
  c1 : c ≤ 8
  l0 : 0 ≤ l
  l1 : l ≤ 24
  log : ∀ j, j < c.toNat → logOk m j = true
  box : ∀ j, j < l.toNat → isValue (gtI m (25 + j)) = true
theorem vals_at {m : List Int} {a b : Nat} (h : ∀ j, a ≤ j → j < b → isValue (gtI m j) = true) (hb : b ≤ m.length) : vals ((m.take b).drop a) = true := vals_iff.2 fun z hz => by
  obtain ⟨j, hj, rfl⟩ := List.getElem_of_mem hz
  simp only [List.length_drop, List.length_take] at hj
  have := h (a + j) (by omega) (by omega)
  rw [← gtI_get (zs := m) (by omega)] at this
  simpa using this
theorem MemV.ok {ts : List Task} {m : List Int} {t c l : Int} (hp : programOk ts = true) (h : MemV ts.length m t c l) : memOkM ts m = true := by
  have hl := h.len
  have l0 := h.l0
  have l1 := h.l1
  have v8 : vals (m.take 8) = true := by
    have := vals_at (m := m) (a := 0) (b := 8) (fun j _ hj => h.vars j hj) (by omega)
    simpa using this
  have vb : vals ((m.take (25 + l).toNat).drop 25) = true := vals_at (fun j h1 h2 => by
    have := h.box (j - 25) (by omega)
    rwa [show 25 + (j - 25) = j by omega] at this) (by omega)
  simp only [memOkM, h.ctl, hp, hl, v8, vb, h.t0, h.t1, log_all h.log, decide_true, Bool.and_self]
theorem MemV.T {n : Nat} {m : List Int} {t c l : Int} (h : MemV n m t c l) : MemT n m t c l := by
  have hl := h.len
  refine ⟨h.len, fun z hz => ?_, h.t0, h.t1, h.l0, h.l1, h.ctl⟩
  obtain ⟨j, hj, rfl⟩ := List.getElem_of_mem hz
  simp only [List.length_take] at hj
  have := h.vars j (by omega)
  rw [← gtI_get (zs := m) (by omega)] at this
  simpa using this
section
variable {n : Nat} {m : List Int} {t c l : Int}
theorem MemV.put (h : MemV n m t c l) (i : Nat) (v : Int) (hi : i < 49) (h8 : i ≠ 8) (hv : i < 8 → isValue v = true) (hlog : 9 ≤ i → i < 25 → 9 + 2 * c ≤ i) (hbox : 25 ≤ i → 25 + l ≤ i) : MemV n (m.set i v) t c l := by
  have hl := h.len
  have hg : ∀ k, gtI (m.set i v) k = if i = k then v else gtI m k := fun k => gtI_set (by omega)
  refine ⟨by simpa using hl, fun k hk => ?_, by rw [hg, if_neg h8]; exact h.ctl, h.t0, h.t1, h.c0, h.c1, h.l0, h.l1, fun j hj => ?_, fun j hj => ?_⟩
  · rw [hg]
    split
    · exact hv (by omega)
    · exact h.vars k hk
  · have q := h.log j hj
    have c1 := h.c1
    unfold logOk at q ⊢
    rw [hg, hg, if_neg (by intro e; have := hlog (by omega) (by omega); omega), if_neg (by intro e; have := hlog (by omega) (by omega); omega)]
    exact q
  · rw [hg, if_neg (by intro e; have := hbox (by omega); omega)]
    exact h.box j hj
theorem MemV.ctlSet (h : MemV n m t c l) (t' c' l' : Int) (ht : 0 ≤ t' ∧ t' < n) (ht5 : t' ≤ 5) (hc : 0 ≤ c' ∧ c' ≤ 8) (hl' : 0 ≤ l' ∧ l' ≤ 24) (hlog : ∀ j, j < c'.toNat → logOk m j = true) (hbox : ∀ j, j < l'.toNat → isValue (gtI m (25 + j)) = true) : MemV n (m.set 8 (packM t' c' l')) t' c' l' := by
  have hl := h.len
  have hg : ∀ k, gtI (m.set 8 (packM t' c' l')) k = if 8 = k then packM t' c' l' else gtI m k := fun k => gtI_set (by omega)
  refine ⟨by simpa using hl, fun k hk => ?_, ?_, ht.1, ht.2, hc.1, hc.2, hl'.1, hl'.2, fun j hj => ?_, fun j hj => ?_⟩
  · rw [hg, if_neg (by omega)]; exact h.vars k hk
  · rw [hg, if_pos rfl]; exact unpack_pack ⟨ht.1, ht5⟩ hc hl'
  · have q := hlog j hj
    unfold logOk at q ⊢
    rw [hg, hg, if_neg (by omega), if_neg (by omega)]; exact q
  · rw [hg, if_neg (by omega)]; exact hbox j hj
end
def applyS (ms : List Micro) (m : List Int) : List Int := ms.foldl (fun m x => if x.at_ = -1 then m else m.set x.at_.toNat x.val) m
theorem applyS_app (a b : List Micro) (m : List Int) : applyS (a ++ b) m = applyS b (applyS a m) := List.foldl_append ..
def Pre (m0 : List Int) (Q : List Int → Prop) (ms : List Micro) : Prop := ∀ k, Q (applyS (ms.take k) m0)
theorem Pre.add {m0 : List Int} {Q : List Int → Prop} {a b : List Micro} (h : Pre m0 Q a) (hb : ∀ k, Q (applyS (b.take k) (applyS a m0))) : Pre m0 Q (a ++ b) := fun k => by
  rcases Nat.lt_or_ge k a.length with q | q
  · rw [List.take_append_of_le_length (by omega)]; exact h k
  · have : (a ++ b).take k = a ++ b.take (k - a.length) := by
      rw [List.take_append, List.take_of_length_le q]
    rw [this, applyS_app]; exact hb _
theorem Pre.one {Q : List Int → Prop} {m : List Int} {x : Micro} (h0 : Q m) (h1 : Q (applyS [x] m)) : ∀ k, Q (applyS ([x].take k) m)
  | 0 => h0
  | k + 1 => by simpa using h1
structure JT (n : Nat) (must m0 : List Int) (task tail : Int) (σ : TS) : Prop where
  pre : Pre m0 (fun m => ∃ c : Int, c ≤ must.length ∧ MemV n m task c tail) σ.steps
  now : MemV n (applyS σ.steps m0) task σ.logged.length tail
  lg : LogIn must σ
  v8 : σ.vars.length = 8
  val : ∀ z ∈ σ.vars, isValue z = true
  box : ∀ j, j < σ.sent.length → tail + j < 24 → isValue (gtI (applyS σ.steps m0) (25 + (tail.toNat + j))) = true
  ins : ∀ x ∈ σ.steps, StepIn x
theorem JT.cnt {n : Nat} {must m0 : List Int} {task tail : Int} {σ : TS} (J : JT n must m0 task tail σ) : σ.logged.length ≤ must.length := nodup_len _ _ J.lg.1 J.lg.2
theorem JT.work {n : Nat} {must m0 : List Int} {task tail : Int} {σ : TS} (J : JT n must m0 task tail σ) {c : Int} (hc : 1 ≤ c ∧ c ≤ 5) : JT n must m0 task tail (σ.add [⟨c, -1, 0⟩]) := by
  have e : applyS (σ.steps ++ [⟨c, -1, 0⟩]) m0 = applyS σ.steps m0 := by rw [applyS_app]; rfl
  have q : ∃ c : Int, c ≤ must.length ∧ MemV n (applyS σ.steps m0) task c tail := ⟨_, by exact_mod_cast J.cnt, J.now⟩
  refine ⟨J.pre.add (Pre.one (Q := fun m => ∃ c : Int, c ≤ must.length ∧ MemV n m task c tail) q q), ?_, J.lg, J.v8, J.val, fun j hj h24 => ?_, fun x hx => ?_⟩
  · show MemV n (applyS (σ.steps ++ [⟨c, -1, 0⟩]) m0) task _ tail
    rw [e]; exact J.now
  · show isValue (gtI (applyS (σ.steps ++ [⟨c, -1, 0⟩]) m0) _) = true
    rw [e]; exact J.box j hj h24
  · rcases List.mem_append.1 hx with w | w
    · exact J.ins x w
    · rw [List.mem_singleton.1 w]; exact ⟨hc, .inl rfl⟩
theorem apply1 (a v : Int) (m : List Int) (h : 0 ≤ a) : applyS [⟨3, a, v⟩] m = m.set a.toNat v := by
  show (if a = -1 then m else m.set a.toNat v) = _
  rw [if_neg (by omega)]
theorem JT.write {n : Nat} {must m0 : List Int} {task tail : Int} {σ : TS} (J : JT n must m0 task tail σ) {a v : Int} (ha : 0 ≤ a ∧ a ≤ 48) (h8 : a ≠ 8) (hv : a < 8 → isValue v = true) (hlog : 9 ≤ a → a < 25 → 9 + 2 * σ.logged.length ≤ a) (hbox : 25 ≤ a → 25 + (tail + σ.sent.length) ≤ a) : JT n must m0 task tail (σ.add [⟨3, a, v⟩]) := by
  have M : MemV n ((applyS σ.steps m0).set a.toNat v) task σ.logged.length tail := J.now.put a.toNat v (by omega) (by omega) (fun q => hv (by omega)) (fun q1 q2 => by have := hlog (by omega) (by omega); omega) (fun q => by have := hbox (by omega); omega)
  have e : applyS (σ.steps ++ [⟨3, a, v⟩]) m0 = (applyS σ.steps m0).set a.toNat v := by rw [applyS_app, apply1 a v _ ha.1]
  have t0 := J.now.l0
  have hl := J.now.len
  refine ⟨J.pre.add (Pre.one (Q := fun m => ∃ c : Int, c ≤ must.length ∧ MemV n m task c tail) ⟨_, by exact_mod_cast J.cnt, J.now⟩ (by rw [apply1 a v _ ha.1]; exact ⟨_, by exact_mod_cast J.cnt, M⟩)), ?_, J.lg, J.v8, J.val, fun j hj h24 => ?_, fun x hx => ?_⟩
  · show MemV n (applyS (σ.steps ++ [⟨3, a, v⟩]) m0) task _ tail
    rw [e]; exact M
  · show isValue (gtI (applyS (σ.steps ++ [⟨3, a, v⟩]) m0) _) = true
    have hj' : j < σ.sent.length := hj
    rw [e, gtI_set (by omega), if_neg (by intro q; have := hbox (by omega); omega)]
    exact J.box j hj h24
  · rcases List.mem_append.1 hx with w | w
    · exact J.ins x w
    · rw [List.mem_singleton.1 w]; exact ⟨by simp, .inr ha⟩
theorem take3 {Q : List Int → Prop} {m : List Int} {x y z : Micro} (h0 : Q m) (h1 : Q (applyS [x] m)) (h2 : Q (applyS [x, y] m)) (h3 : Q (applyS [x, y, z] m)) : ∀ k, Q (applyS ([x, y, z].take k) m)
  | 0 => h0
  | 1 => h1
  | 2 => h2
  | k + 3 => by simpa using h3
theorem JT.log {n : Nat} {must m0 : List Int} {task tail k : Int} {σ : TS} (J : JT n must m0 task tail σ) (h5 : task ≤ 5) (hm : ∀ k ∈ must, 0 ≤ k ∧ k ≤ 7) (hm8 : must.length ≤ 8) : JT n must m0 task tail (logA must task tail k σ) := by
  unfold logA
  split
  · rename_i hk
    have kb := hm k hk.1
    have hl := J.now.len
    have hN : σ.logged.length + 1 ≤ must.length := by
      have := nodup_len (σ.logged ++ [k]) must (by
        rw [List.nodup_append]
        refine ⟨J.lg.1, by simp, fun a ha b hb e => ?_⟩
        rw [List.mem_singleton.1 hb] at e
        rw [e] at ha; exact hk.2 ha) (fun x hx => by
        rcases List.mem_append.1 hx with w | w
        · exact J.lg.2 x w
        · rw [List.mem_singleton.1 w]; exact hk.1)
      simpa using this
    have hold : isValue (gtI σ.vars k.toNat) = true := by
      have : k.toNat < σ.vars.length := by rw [J.v8]; omega
      rw [← gtI_get this]; exact J.val _ (List.getElem_mem this)
    have e1 : applyS [⟨3, 9 + 2 * σ.logged.length, k⟩] (applyS σ.steps m0) = (applyS σ.steps m0).set (9 + 2 * σ.logged.length) k := by
      rw [apply1 _ _ _ (by omega)]; congr 1
    have e2 : applyS [⟨3, 9 + 2 * σ.logged.length, k⟩, ⟨3, 9 + 2 * σ.logged.length + 1, gtI σ.vars k.toNat⟩] (applyS σ.steps m0) = ((applyS σ.steps m0).set (9 + 2 * σ.logged.length) k).set (9 + 2 * σ.logged.length + 1) (gtI σ.vars k.toNat) := by
      rw [show [(⟨3, 9 + 2 * σ.logged.length, k⟩ : Micro), ⟨3, 9 + 2 * σ.logged.length + 1, gtI σ.vars k.toNat⟩] = [⟨3, 9 + 2 * σ.logged.length, k⟩] ++ [⟨3, 9 + 2 * σ.logged.length + 1, gtI σ.vars k.toNat⟩] from rfl, applyS_app, e1, apply1 _ _ _ (by omega)]; congr 1
    have e3 : applyS [⟨3, 9 + 2 * σ.logged.length, k⟩, ⟨3, 9 + 2 * σ.logged.length + 1, gtI σ.vars k.toNat⟩, ⟨3, 8, packM task (σ.logged.length + 1) tail⟩] (applyS σ.steps m0) = (((applyS σ.steps m0).set (9 + 2 * σ.logged.length) k).set (9 + 2 * σ.logged.length + 1) (gtI σ.vars k.toNat)).set 8 (packM task (σ.logged.length + 1) tail) := by
      rw [show [(⟨3, 9 + 2 * σ.logged.length, k⟩ : Micro), ⟨3, 9 + 2 * σ.logged.length + 1, gtI σ.vars k.toNat⟩, ⟨3, 8, packM task (σ.logged.length + 1) tail⟩] = [⟨3, 9 + 2 * σ.logged.length, k⟩, ⟨3, 9 + 2 * σ.logged.length + 1, gtI σ.vars k.toNat⟩] ++ [⟨3, 8, packM task (σ.logged.length + 1) tail⟩] from rfl, applyS_app, e2, apply1 _ _ _ (by omega)]; rfl
    have M1 : MemV n ((applyS σ.steps m0).set (9 + 2 * σ.logged.length) k) task σ.logged.length tail := J.now.put _ k (by omega) (by omega) (fun q => by omega) (fun _ _ => by omega) (fun q => by omega)
    have M2 : MemV n (((applyS σ.steps m0).set (9 + 2 * σ.logged.length) k).set (9 + 2 * σ.logged.length + 1) (gtI σ.vars k.toNat)) task σ.logged.length tail := M1.put _ _ (by omega) (by omega) (fun q => by omega) (fun _ _ => by omega) (fun q => by omega)
    have hl1 := M1.len
    have g2 : ∀ j, gtI (((applyS σ.steps m0).set (9 + 2 * σ.logged.length) k).set (9 + 2 * σ.logged.length + 1) (gtI σ.vars k.toNat)) j = if 9 + 2 * σ.logged.length + 1 = j then gtI σ.vars k.toNat else if 9 + 2 * σ.logged.length = j then k else gtI (applyS σ.steps m0) j := fun j => by
      rw [gtI_set (by omega), gtI_set (by omega)]
    have M3 : MemV n ((((applyS σ.steps m0).set (9 + 2 * σ.logged.length) k).set (9 + 2 * σ.logged.length + 1) (gtI σ.vars k.toNat)).set 8 (packM task (σ.logged.length + 1) tail)) task (σ.logged.length + 1) tail := by
      refine M2.ctlSet task (σ.logged.length + 1) tail ⟨J.now.t0, J.now.t1⟩ h5 (by omega) ⟨J.now.l0, J.now.l1⟩ (fun j hj => ?_) M2.box
      by_cases e : j = σ.logged.length
      · unfold logOk
        rw [g2, g2, if_neg (by omega), if_pos (by omega), if_pos (by omega), hold]
        simp [isVar, within]; omega
      · exact M2.log j (by omega)
    have c0 : ((σ.logged.length : Nat) : Int) ≤ must.length := by omega
    refine ⟨J.pre.add (take3 (Q := fun m => ∃ c : Int, c ≤ must.length ∧ MemV n m task c tail) ⟨_, c0, J.now⟩ (by rw [e1]; exact ⟨_, c0, M1⟩) (by rw [e2]; exact ⟨_, c0, M2⟩) (by rw [e3]; exact ⟨_, by omega, M3⟩)), ?_, ⟨?_, fun x hx => ?_⟩, J.v8, J.val, fun j hj h24 => ?_, fun x hx => ?_⟩
    · simp only [applyS_app, e3, List.length_append, List.length_cons, List.length_nil]
      exact M3
    · rw [List.nodup_append]
      refine ⟨J.lg.1, by simp, fun a ha b hb e => ?_⟩
      rw [List.mem_singleton.1 hb] at e
      rw [e] at ha; exact hk.2 ha
    · rcases List.mem_append.1 hx with w | w
      · exact J.lg.2 x w
      · rw [List.mem_singleton.1 w]; exact hk.1
    · simp only [applyS_app, e3]
      rw [gtI_set (by have := M2.len; omega), if_neg (by omega), g2, if_neg (by omega), if_neg (by omega)]
      exact J.box j hj h24
    · rcases List.mem_append.1 hx with w | w
      · exact J.ins x w
      · simp only [List.mem_cons, List.not_mem_nil, or_false] at w
        rcases w with rfl | rfl | rfl
        · exact ⟨by simp, .inr (by simp only; omega)⟩
        · exact ⟨by simp, .inr (by simp only; omega)⟩
        · exact ⟨by simp, .inr (by simp)⟩
  · exact J
theorem JT.withVars {n : Nat} {must m0 : List Int} {task tail : Int} {σ : TS} (J : JT n must m0 task tail σ) (vs : List Int) (h8 : vs.length = 8) (hv : ∀ z ∈ vs, isValue z = true) : JT n must m0 task tail { σ with vars := vs } := ⟨J.pre, J.now, J.lg, h8, hv, J.box, J.ins⟩
theorem JT.withUsed {n : Nat} {must m0 : List Int} {task tail : Int} {σ : TS} (J : JT n must m0 task tail σ) (us : List Int) : JT n must m0 task tail { σ with used := us } := ⟨J.pre, J.now, J.lg, J.v8, J.val, J.box, J.ins⟩
theorem JT.assign {n : Nat} {must m0 : List Int} {task tail k v : Int} {σ : TS} (J : JT n must m0 task tail σ) (h5 : task ≤ 5) (hm : ∀ k ∈ must, 0 ≤ k ∧ k ≤ 7) (hm8 : must.length ≤ 8) (hk : 0 ≤ k ∧ k ≤ 7) (hv : isValue v = true) : JT n must m0 task tail (assignT must task tail k v σ) := by
  have J1 := J.log (k := k) h5 hm hm8
  have J2 := J1.write (a := k) (v := v) (by omega) (by omega) (fun _ => hv) (fun q => by omega) (fun q => by omega)
  exact J2.withVars _ (by simpa using J1.v8) (fun z hz => by
    rcases List.mem_or_eq_of_mem_set hz with q | q
    · exact J1.val z q
    · rw [q]; exact hv)
theorem JT.send {n : Nat} {must m0 : List Int} {task tail x : Int} {σ : TS} (J : JT n must m0 task tail σ) (hx : isValue x = true) : JT n must m0 task tail (sendT tail x σ) := by
  have t0 := J.now.l0
  have hl := J.now.len
  unfold sendT
  split
  · rename_i h
    have J1 := J.write (a := 25 + (tail + σ.sent.length)) (v := x) (by omega) (by omega) (fun q => by omega) (fun _ q => by omega) (fun _ => by omega)
    refine ⟨J1.pre, J1.now, J1.lg, J1.v8, J1.val, fun j hj h24 => ?_, J1.ins⟩
    simp only [List.length_append, List.length_cons, List.length_nil] at hj
    rcases Nat.lt_or_ge j σ.sent.length with q | q
    · exact J1.box j q h24
    · have e : j = σ.sent.length := by omega
      show isValue (gtI (applyS (σ.steps ++ [⟨3, 25 + (tail + σ.sent.length), x⟩]) m0) _) = true
      rw [applyS_app, apply1 _ _ _ (by omega), gtI_set (by omega), if_pos (by omega)]
      exact hx
  · rename_i h
    refine ⟨J.pre, J.now, J.lg, J.v8, J.val, fun j hj h24 => ?_, J.ins⟩
    simp only [List.length_append, List.length_cons, List.length_nil] at hj
    exact J.box j (by omega) h24
theorem JT.step {n : Nat} {must m0 : List Int} {task tail : Int} {rd : List Int} {at_ : Int} {s : Stmt} {σ : TS} (J : JT n must m0 task tail σ) (h5 : task ≤ 5) (hm : ∀ k ∈ must, 0 ≤ k ∧ k ≤ 7) (hm8 : must.length ≤ 8) (hs : stmtOk s = true) (h6 : s.kind ≠ 6) : JT n must m0 task tail (stepT must task tail rd at_ s σ) := by
  have hc := costK_pos hs h6
  have J0 := J.work (c := costK s.kind) ⟨hc, (costK_bd s.kind).2⟩
  unfold stepT
  split
  · rename_i h1
    have hsv := stmt_var hs (by simp [hasVar, h1])
    exact J0.assign h5 hm hm8 (by omega) (evalE_value J.val J.v8 (stmt_expr hs (by simp [hasExpr, h1])))
  split
  · rename_i h1
    have hsv := stmt_var hs (by simp [hasVar, h1])
    exact (J0.withUsed _).assign h5 hm hm8 (by omega) (readM_value _ _ _)
  split
  · rename_i h1
    exact J0.send (evalE_value J.val J.v8 (stmt_expr hs (by simp [hasExpr, h1])))
  · exact J0
end Go.Av

namespace Go.Av
open Go.Proofs Go.RowKit
set_option linter.unusedVariables false
set_option linter.unusedSimpArgs false
set_option maxRecDepth 100000
set_option maxHeartbeats 4000000
end Go.Av

namespace Go.Av
open Go.Proofs Go.RowKit
set_option linter.unusedVariables false
set_option linter.unusedSimpArgs false
set_option maxRecDepth 100000
set_option maxHeartbeats 4000000
theorem OwnsLL.app {h : Heap} : ∀ {A a B b : Blk} {i j : List Nat}, OwnsLL h A a i → OwnsLL h B b j → OwnsLL h (A ++ B) (a ++ b) (i ++ j)
  | [], a, B, b, i, j, o, q => by
    obtain ⟨rfl, rfl⟩ := OwnsLL.nil_.1 o
    exact q
  | y :: ys, a, B, b, i, j, o, q => by
    obtain ⟨r', b', i1, i2, rfl, rfl, o1, o2⟩ := OwnsLL.cons_.1 o
    exact OwnsLL.cons_.2 ⟨r', b' ++ b, i1, i2 ++ j, rfl, by simp, o1, o2.app q⟩
theorem Sep.pushAll {h : Heap} {sz bytes : Nat} {A B : Blk} {va vb : V} {L : List It} (S : Sep h (.v (.lst sz A) va :: .v (.lst sz B) vb :: L)) (hb : (A.length + B.length) * bytes ≤ 140737488355328) :
    ∃ v' h', appendH h sz bytes va vb = some (v', h') ∧ Sep h' (.v (.lst sz (A ++ B)) v' :: L) := by
  obtain ⟨ids, n, i, j, rfl, o, p, q, rfl, o2, s⟩ := S
  have n1 := List.nodup_append.1 n
  have n2 := List.nodup_append.1 n1.2.1
  -- what is appended
  have hx : ∃ (xs : Blk) (p' : List Nat), elemsOf h sz vb = some xs ∧ xs.length = B.length ∧ OwnsLL h B xs p' ∧ p'.Nodup ∧ ∀ x ∈ p', x ∈ p := by
    rcases Owns.lst_.1 (Owns.lstR.1 o2) with ⟨rfl, rfl, rfl⟩ | ⟨id, b, js, rfl, hid, rfl, oo⟩
    · exact ⟨[], [], rfl, rfl, OwnsLL.nil_.2 ⟨rfl, rfl⟩, .nil, by simp⟩
    · exact ⟨b, js, elemsOf_n hid oo.len, oo.len, oo, (List.nodup_cons.1 n2.1).2, fun x hx => by simp [hx]⟩
  obtain ⟨xs, p', he, hxl, ox, np, hp⟩ := hx
  rcases Owns.lst_.1 (Owns.lstR.1 o) with ⟨rfl, rfl, rfl⟩ | ⟨id, b, js, rfl, hid, rfl, oo⟩
  · refine ⟨.own h.length sz 0 xs.length xs.length, h ++ [xs], ?_, h.length :: p' ++ q, ?_, h.length :: p', q, rfl, Owns.lstR.2 (Owns.lst_.2 (.inr ⟨h.length, xs, p', by simp [hxl], at_app0 _ _, rfl, ?_⟩)), s.keep fun a ha => List.getElem?_append_left (s.lt a ha)⟩
    · simp only [appendH, he]
      rw [if_pos (by simpa [hxl] using hb)]
    · rw [List.cons_append, List.nodup_cons]
      refine ⟨fun hm => ?_, List.nodup_append.2 ⟨np, n2.2.1, fun a ha c hc e => n2.2.2 a (hp a ha) c hc e⟩⟩
      rcases List.mem_append.1 hm with w | w
      · have := OwnsLL.lt ox _ w; omega
      · have := s.lt _ w; omega
    · exact ox.up (Ext.app _ _)
  · have hbl := oo.len
    have n3 := List.nodup_cons.1 n1.1
    have hidn : id ∉ js ∧ id ∉ p' ∧ id ∉ q := ⟨n3.1, fun w => n1.2.2 id (by simp) id (by simp [hp id w]) rfl, fun w => n1.2.2 id (by simp) id (by simp [w]) rfl⟩
    refine ⟨.own id sz 0 (b.length + xs.length) (b.length + xs.length), h.set id (b ++ xs), ?_, id :: (js ++ p') ++ q, ?_, id :: (js ++ p'), q, rfl, Owns.lstR.2 (Owns.lst_.2 (.inr ⟨id, b ++ xs, js ++ p', by simp [hbl, hxl], heap_set _ hid, rfl, ?_⟩)), s.keep fun a ha => List.getElem?_set_ne (by rintro rfl; exact hidn.2.2 ha)⟩
    · have := appendH_own (bytes := bytes) hid he (by rw [hbl, hxl]; exact hb)
      rw [← hbl]; exact this
    · rw [List.cons_append, List.nodup_cons]
      refine ⟨fun w => ?_, List.nodup_append.2 ⟨List.nodup_append.2 ⟨n3.2, np, fun a ha c hc e => ?_⟩, n2.2.1, fun a ha c hc e => ?_⟩⟩
      · rcases List.mem_append.1 w with w | w
        · rcases List.mem_append.1 w with w | w
          · exact hidn.1 w
          · exact hidn.2.1 w
        · exact hidn.2.2 w
      · subst e; exact n1.2.2 a (by simp [ha]) a (by simp [hp a hc]) rfl
      · subst e
        rcases List.mem_append.1 ha with w | w
        · exact n1.2.2 a (by simp [w]) a (by simp [hc]) rfl
        · exact n2.2.2 a (hp a w) a hc rfl
    · exact (oo.app ox).keep fun a ha => List.getElem?_set_ne (by
        rintro rfl
        rcases List.mem_append.1 ha with w | w
        · exact hidn.1 w
        · exact hidn.2.1 w)
end Go.Av

namespace Go.Av
open Go.Proofs Go.RowKit
set_option linter.unusedVariables false
set_option linter.unusedSimpArgs false
set_option maxRecDepth 100000
set_option maxHeartbeats 8000000
theorem drawReadings_d {h : Heap} {L : List It} {bs : List Int} (S : Sep h L) (hb : bs.length ≤ 1048576) : C Tryz.prog 15 [.lst 1 (bs.map encB)] h (fun r h' => ∃ (zs : List Int) (l : Nat), r = .own l 1 0 zs.length zs.length ∧ (1 ≤ zs.length ∧ zs.length ≤ 9) ∧ vals zs = true ∧ Sep h' (.k l (zs.map encI) :: L)) := by
  refine C.by mixed (cfn_ok Tryz.func15 ok15) rfl ?_
  simp (disch := omega) only [s15, go_sem]
  refine S.goNew hb fun h1 S1 => ?_
  simp (disch := omega) only [go_sem]
  refine C.go (readings_d S1) ?_
  rintro r h2 ⟨zs, l, rfl, hl, hz, S2⟩
  simp (disch := omega) only [go_sem]
  exact ⟨zs, l, rfl, hl, vals_iff.2 fun z hz' => by have := hz z hz'; simp [isValue, within]; omega, S2.drop 1⟩
end Go.Av

namespace Go.Av
open Go.Proofs Go.RowKit
set_option linter.unusedVariables false
set_option linter.unusedSimpArgs false
set_option maxRecDepth 100000
set_option maxHeartbeats 8000000
end Go.Av

namespace Go.Av
open Go.Proofs Go.RowKit
set_option linter.unusedVariables false
set_option linter.unusedSimpArgs false
set_option maxRecDepth 100000
set_option maxHeartbeats 8000000
theorem evalE_num (vs : List Int) {j : Nat} (h : j ≤ 900) : evalE vs ⟨1, j, 0⟩ = j := by
  have h1 : valOf vs (j : Int) = j := if_neg (by omega)
  have h2 : valOf vs 0 = 0 := if_neg (by omega)
  have s1 : ∀ x : Int, 0 ≤ x → x ≤ 2000 → sat x = x := fun x a b => by unfold sat; rw [if_neg (by omega), if_neg (by omega)]
  unfold evalE
  simp only [h1, h2, if_true]
  rw [s1 j (by omega) (by omega), s1 0 (by omega) (by omega), Int.add_zero, s1 j (by omega) (by omega)]
theorem rigid_ok {ts : List Task} (hl : 1 ≤ ts.length ∧ ts.length ≤ 3) (hok : ∀ t ∈ ts, taskOk t = true) (hr : RigidP ts) : rigidM ts = true := by
  have hp : programOk ts = true := DrawnP.ok ⟨hl, hok⟩
  simp only [rigidM, hp, Bool.true_and, Bool.not_eq_true', List.any_eq_false]
  intro t ht
  obtain ⟨j, hj, e⟩ := hr t ht
  simp only [looseB, e, evalE_num zer (show j ≤ 900 by omega), within, Bool.or_eq_true, Bool.not_eq_true', Bool.and_eq_false_iff, decide_eq_true_eq, decide_eq_false_iff_not]
  omega
theorem split_facts {ts : List Task} {i n : Nat} (hl : 1 ≤ ts.length ∧ ts.length ≤ 3) (hok : ∀ t ∈ ts, taskOk t = true) (hi : i < ts.length) (h : (n : Int) ∈ cutsM ts[i].body) :
    programOk (splitM ts i n) = true ∧ (splitM ts i n).length = ts.length + 1 ∧ taskAt (splitM ts i n) i = ⟨ts[i].body.take n, ⟨1, ts.length, 0⟩⟩ ∧ taskAt (splitM ts i n) ts.length = ⟨ts[i].body.drop n, ts[i].next⟩ := by
  have hc := cut_parts h
  have htk := task_facts (hok _ (List.getElem_mem hi))
  have hlen : (splitM ts i n).length = ts.length + 1 := by rw [splitM_eq hi]; simp
  refine ⟨?_, hlen, ?_, ?_⟩
  · simp only [programOk, hlen, within, Bool.and_eq_true, decide_eq_true_eq, List.all_eq_true]
    refine ⟨by omega, fun t ht => ?_⟩
    rw [splitM_eq hi] at ht
    rcases List.mem_append.1 ht with q | q
    · rcases List.mem_or_eq_of_mem_set q with q | q
      · exact hok t q
      · rw [q]; simp only [taskOk, hc.1, expr_num ts.length (by omega), Bool.and_self]
    · rw [List.mem_singleton.1 q]; simp only [taskOk, hc.2.1, htk.2, Bool.and_self]
  · unfold taskAt
    rw [splitM_eq hi, Int.toNat_natCast, List.getElem?_append_left (by simpa using hi), List.getElem?_set_self hi]; rfl
  · unfold taskAt
    rw [splitM_eq hi, Int.toNat_natCast, List.getElem?_append_right (by simp)]
    simp
theorem sameInts_c (xs ys : List Int) (h : xs = ys) (hl : xs.length ≤ 9223372036854775807) : CP Tryz.prog 29 [.lst 1 (xs.map encI), .lst 1 (ys.map encI)] (.bool true) [] := by
  subst h
  refine CP.by rfl mixed (cfn_ok Tryz.func29 ok29) rfl ?_
  simp (disch := omega) only [s29, go_sem]
  refine loopP_intro (fun n s => ∃ k : Nat, k ≤ xs.length ∧ n = xs.length - k ∧ s.e 0 = .lst 1 (xs.map encI) ∧ s.e 1 = .lst 1 (xs.map encI) ∧ s.e 5 = .int .i64 k) xs.length ⟨0, by omega, by omega, by simp (disch := omega) only [go_sem], by simp (disch := omega) only [go_sem], by simp (disch := omega) only [go_sem] <;> rfl⟩ ?_
  rintro n e hp ⟨k, hk, rfl, e0, e1, e5⟩
  simp only at e0 e1 e5
  simp (disch := omega) only [go_sem, e0, e1, e5, encI]
  refine condP_dec (fun hlt => ?_) (fun hlt => ?_)
  · have hlt' : k < xs.length := by omega
    simp (disch := omega) only [go_sem, e0, e1, e5, encI]
    refine nextP_intro (xs.length - (k + 1)) (by omega) ⟨k + 1, by omega, rfl, by simp (disch := omega) only [go_sem, e0, e1, e5, encI], by simp (disch := omega) only [go_sem, e0, e1, e5, encI], by simp (disch := omega) only [go_sem, e0, e1, e5, encI] <;> rfl⟩
  · simp (disch := omega) only [go_sem, e0, e1, e5, encI]
theorem cutPoints_f (xs : List Stmt) (hx : xs.length ≤ 1048576) : F Tryz.prog 25 [.lst 6 (xs.map encStmt)] (.lst 1 ((cutsM xs).map encI)) := by
  cases hb : blockOk xs
  · have hc : cutsM xs = [] := by unfold cutsM; rw [hb]; rfl
    rw [hc]
    exact C.mono (cutPoints_n xs hx hb) fun r h' ⟨g, gs, q, _, e, hg⟩ => by
      refine ⟨[], .nil, ?_⟩
      rw [e]; exact Owns.nils_
  · exact CP.f (flat_encI _) (by simp) (cutPoints_c xs hx hb)
theorem cutPoints_sf (xs : List Stmt) (hx : xs.length ≤ 1048576) : F Tryz.prog 26 [.lst 6 (xs.map encStmt)] (.lst 1 ((cutsM xs).map encI)) := CP.f (flat_encI _) (by simp) (cutPoints_s xs hx)
theorem Sep.openEff {h : Heap} {sa sb : Nat} {ya yb : Blk} {n u : Int} {b : Bool} {r : V} {L : List It} (S : Sep h (.v (.tup [.agg [.lst sa ya, .lst sb yb, .int .i64 n, .int .i64 u], .bool b]) r :: L)) : ∃ va vb, r = .tup [.agg [va, vb, .int .i64 n, .int .i64 u], .bool b] ∧ Sep h (.v (.lst sa ya) va :: .v (.lst sb yb) vb :: L) := by
  obtain ⟨_, rfl, S1⟩ := sep_tup.1 S
  obtain ⟨c, _, rfl, S2⟩ := sep_la.1 S1
  obtain ⟨_, rfl, S3⟩ := sep_lb.1 (S2.perm (.swap _ _ _))
  obtain ⟨rfl, S4⟩ := sep_l0.1 S3
  obtain ⟨va, _, rfl, T2⟩ := sep_ll.1 S4
  obtain ⟨vb, _, rfl, T3⟩ := sep_ll.1 T2
  obtain ⟨_, rfl, T4⟩ := sep_li.1 T3
  obtain ⟨_, rfl, T5⟩ := sep_li.1 T4
  obtain ⟨rfl, T6⟩ := sep_l0.1 T5
  refine ⟨va, vb, rfl, T6.perm ?_⟩
  simp only [List.append_assoc, List.cons_append, List.nil_append]
  exact List.perm_append_comm
theorem Sep.openProg {h : Heap} {sa : Nat} {ya : Blk} {b : Bool} {r : V} {L : List It} (S : Sep h (.v (.tup [.agg [.lst sa ya], .bool b]) r :: L)) : ∃ va, r = .tup [.agg [va], .bool b] ∧ Sep h (.v (.lst sa ya) va :: L) := by
  obtain ⟨_, rfl, S1⟩ := sep_tup.1 S
  obtain ⟨c, _, rfl, S2⟩ := sep_la.1 S1
  obtain ⟨_, rfl, S3⟩ := sep_lb.1 (S2.perm (.swap _ _ _))
  obtain ⟨rfl, S4⟩ := sep_l0.1 S3
  obtain ⟨va, _, rfl, T2⟩ := sep_ll.1 S4
  obtain ⟨rfl, T6⟩ := sep_l0.1 T2
  exact ⟨va, rfl, Sep.rot T6⟩
theorem splits_law (bs : List Int) (hb : bs.length ≤ 9223372036854775807) : CP Tryz.prog 4 [.lst 1 (bs.map encB)] (.bool true) [] := by
  refine CP.by rfl mixed (cfn_ok Tryz.func4 ok4) rfl ?_
  simp (disch := omega) only [s4, go_sem]
  refine CP.go (big_c bs hb) rfl (refs_bytes _ _) ?_
  simp (disch := omega) only [go_sem]
  refine condP_dec (fun hbig => ?_) (fun hbig => ?_)
  · simp (disch := omega) only [go_sem]
  simp (disch := omega) only [go_sem]
  refine C.go (drawRigid_d (Sep.nil _) (by omega)) ?_
  rintro r h1 ⟨ts, v, rfl, hl, hok, hri, S1⟩
  have zv := S1.vv 0 rfl
  have hp : programOk ts = true := DrawnP.ok ⟨hl, hok⟩
  have hbd := DrawnP.body ⟨hl, hok⟩
  have S2 := S1.newK [[v]]
  simp (disch := omega) only [go_sem, zv.1, zv.2.1, zv.2.2, splice]
  refine C.go (drawVars_d S2 (by omega)) ?_
  rintro r h3 ⟨vars, lv, rfl, hvo, S3⟩
  have hvl : vars.length = 8 := by
    simp only [varsOkM, Bool.and_eq_true, decide_eq_true_eq] at hvo
    exact hvo.1
  simp (disch := omega) only [go_sem, zv.1, zv.2.1, zv.2.2, splice]
  refine C.go (drawReadings_d S3 (by omega)) ?_
  rintro r h4 ⟨rd, lr, rfl, hlr, hv3, S4⟩
  simp (disch := omega) only [go_sem, zv.1, zv.2.1, zv.2.2, splice]
  refine C.go (drawPlaces_d S4 (by omega)) ?_
  rintro r h5 ⟨pl, lp, rfl, hpl, hplv, S5⟩
  have P5 := S5.blk 0 rfl
  have A5 := S5.blk 3 rfl
  have lenv := fun G => (S5.lst 4 rfl).elim fun i o => o.len_ G
  simp only [List.length_map] at lenv
  have g0 := gtI_some (zs := pl) (i := 0) (by omega)
  have g1 := gtI_some (zs := pl) (i := 1) (by omega)
  have b0 := hplv _ (List.mem_of_getElem? g0)
  have b1 := hplv _ (List.mem_of_getElem? g1)
  have m0 := mod_toNat (n := gtI pl 0) (l := ts.length) b0.1 (by omega)
  refine Exists.elim (show ∃ i, i = (gtI pl 0).toNat % ts.length from ⟨_, rfl⟩) fun i hi => ?_
  rw [← hi] at m0
  have hil : i < ts.length := by rw [hi]; exact Nat.mod_lt _ (by omega)
  refine Exists.elim (S5.row 4 rfl (k := i) (d := encTask ts[i]) (by simp [hil])) fun tid q => Exists.elim q fun bb q => Exists.elim q fun c q => Exists.elim q fun ix q => ?_
  have hv := q.1
  have hid := q.2.1
  have hbl := q.2.2.1
  have hc := q.2.2.2.1
  have oc := q.2.2.2.2
  clear q
  rw [List.length_map] at hv hbl
  refine Exists.elim oc.task fun vt q => ?_
  have hcc := q.1
  have oa := q.2
  clear q oc
  subst hcc
  have zt := oa.vv
  have hbi := hbd _ (List.getElem_mem hil)
  simp (disch := omega) only [go_sem, zv.1, zv.2.1, zv.2.2, P5, A5, lenv, g0, hpl, List.getElem?_map, encI, gtI_get, m0]
  simp (disch := omega) only [go_sem, zv.1, zv.2.1, zv.2.2, A5, lenv, hv, hid, hbl, hc, zt.1, zt.2.1, zt.2.2, Nat.zero_add]
  refine S5.goLst (cutPoints_f ts[i].body (by omega)) (.cons oa.snap (.nil _)) fun vc h6 x6 S6 co cn cc => ?_
  have hid6 := x6.get hid
  have A6 := S6.blk 4 rfl
  have lenc := fun G => (S6.lst 0 rfl).elim fun i o => o.len_ G
  simp only [List.length_map] at lenc
  simp (disch := omega) only [go_sem, co, cn, cc, lenc, zv.1, zv.2.1, zv.2.2, A6, hv, hid6, hbl, hc, zt.1, zt.2.1, zt.2.2, Nat.zero_add]
  refine S6.goLst (cutPoints_sf ts[i].body (by omega)) (.cons (oa.snap.up x6) (.nil _)) fun vc2 h7 x7 S7 co2 cn2 cc2 => ?_
  have lenc2 := fun G => (S7.lst 0 rfl).elim fun i o => o.len_ G
  simp only [List.length_map] at lenc2
  simp (disch := omega) only [go_sem, co, cn, cc, lenc, co2, cn2, cc2, lenc2]
  refine condP_dec (fun hz => ?_) (fun hz => ?_)
  · simp (disch := omega) only [go_sem, co, cn, cc, lenc, co2, cn2, cc2, lenc2]
  have A7 := S7.blk 5 rfl
  have P7 := S7.blk 2 rfl
  have hcl : (cutsM ts[i].body).length ≠ 0 := by omega
  have hcl2 := cutsM_len ts[i].body
  have m1 := mod_toNat (n := gtI pl 1) (l := (cutsM ts[i].body).length) b1.1 hcl
  refine Exists.elim (show ∃ j, j = (gtI pl 1).toNat % (cutsM ts[i].body).length from ⟨_, rfl⟩) fun j hj => ?_
  rw [← hj] at m1
  have hjl : j < (cutsM ts[i].body).length := by rw [hj]; exact Nat.mod_lt _ (by omega)
  refine Exists.elim (S7.ownF 1 (flat_encI _) rfl (k := j) (by simpa using hjl)) fun cid q => ?_
  have hvc := q.1
  have hck := q.2
  clear q
  rw [List.length_map] at hvc
  have gj := gtI_some hjl
  have hmem : gtI (cutsM ts[i].body) j ∈ cutsM ts[i].body := List.mem_of_getElem? gj
  have hcp := cut_pos hmem
  refine Exists.elim (show ∃ n : Nat, gtI (cutsM ts[i].body) j = n from ⟨(gtI (cutsM ts[i].body) j).toNat, by omega⟩) fun n hn => ?_
  rw [hn] at gj hmem hcp
  have hsb : splitsB ts i n = true := by
    have hw : within (i : Int) 0 ((ts.length : Int) - 1) = true := by simp [within]; omega
    simp only [splitsB, rigid_ok hl hok hri, hw, cutsAt_eq (t := (i : Int)) rfl hil, Bool.true_and, Bool.and_eq_true, decide_eq_true_eq]
    exact ⟨by omega, hmem⟩
  have hst := splitTask_c ts i n (by omega) (fun t ht => by have := hbd t ht; omega)
  have hsm : splitTM ts i n = splitM ts i n := by rw [splitTM, if_pos hsb, Int.toNat_natCast, Int.toNat_natCast]
  rw [hsb, hsm] at hst
  have SF := split_facts hl hok hil hmem
  refine Exists.elim (show ∃ qs, qs = splitM ts i n from ⟨_, rfl⟩) fun qs hqs => ?_
  rw [← hqs] at hst SF
  simp (disch := omega) only [go_sem, A7, P7, g1, hpl, zv.1, zv.2.1, zv.2.2, lenc, m1, List.getElem?_map, encI, gtI_get, hvc, hck, hn, gj]
  refine S7.go hst (.cons (S7.progSnap 6 rfl) (.cons (.int _ _) (.cons (.int _ _) (.nil _)))) fun r8 h8 x8 S8 => ?_
  refine Exists.elim S8.openProg fun vq q => ?_
  have hr8 := q.1
  have S8' := q.2
  clear q S8
  subst hr8
  have S9 := (S8'.newK [[vq]]).pk (A := [_, _, _, _, _, _, _, _, _]) [0, 1, 5, 6, 7, 8] rfl
  have zq := S9.vv 1 rfl
  have A9 := S9.blk 4 rfl
  simp (disch := omega) only [go_sem, zq.1, zq.2.1, zq.2.2, splice, A9, zv.1, zv.2.1, zv.2.2]
  refine Exists.elim (show ∃ a, a = effOf ts i vars rd from ⟨_, rfl⟩) fun a ha => ?_
  have f1 := taskEffect_f ts i vars rd hp (by omega) hvo hv3 (by omega)
  have F1 := effOf_bd (rd := rd) hp (t := (i : Int)) (by omega) hvo hv3
  rw [← ha] at f1 F1
  refine S9.go f1 (.cons (S9.progSnap 5 rfl) (.cons (.int _ _) (.cons (Snap.flatN (S9.blk 3 rfl) (by simpa using hvl) (flat_encI _)) (.cons (Snap.flatN (S9.blk 2 rfl) (by simp) (flat_encI _)) (.nil _))))) fun r10 h10 x10 S10 => ?_
  refine Exists.elim S10.openEff fun va q => Exists.elim q fun sa q => ?_
  have hr10 := q.1
  have S10' := q.2
  clear q S10
  subst hr10
  have za := S10'.vv 0 rfl
  have ya := S10'.vv 1 rfl
  have S11 := S10'.newK [[va, sa, .int .i64 (nextM ts a.vars i), .int .i64 a.used]]
  have B11 := S11.blk 3 rfl
  simp (disch := omega) only [go_sem, za.1, za.2.1, za.2.2, ya.1, ya.2.1, ya.2.2, splice, B11, zq.1, zq.2.1, zq.2.2]
  refine Exists.elim (show ∃ b, b = effOf qs i vars rd from ⟨_, rfl⟩) fun b hb' => ?_
  have f2 := taskEffect_f qs i vars rd SF.1 (by rw [SF.2.1]; omega) hvo hv3 (by omega)
  have F2 := effOf_bd (rd := rd) SF.1 (t := (i : Int)) (by rw [SF.2.1]; omega) hvo hv3
  rw [← hb'] at f2 F2
  have hbn : nextM qs b.vars i = ts.length := by
    unfold nextM
    rw [SF.2.2.1, SF.2.1, evalE_num b.vars (show ts.length ≤ 900 by omega)]
    exact Int.emod_eq_of_lt (by omega) (by push_cast; omega)
  rw [hbn] at f2
  refine S11.go f2 (.cons (S11.progSnap 4 rfl) (.cons (.int _ _) (.cons (Snap.flatN (S11.blk 6 rfl) (by simpa using hvl) (flat_encI _)) (.cons (Snap.flatN (S11.blk 5 rfl) (by simp) (flat_encI _)) (.nil _))))) fun r12 h12 x12 S12 => ?_
  refine Exists.elim S12.openEff fun vb q => Exists.elim q fun sb q => ?_
  have hr12 := q.1
  have S12' := q.2
  clear q S12
  subst hr12
  have zb := S12'.vv 0 rfl
  have yb := S12'.vv 1 rfl
  have S13 := S12'.newK [[vb, sb, .int .i64 ts.length, .int .i64 b.used]]
  have E13 := S13.blk 0 rfl
  have A13 := S13.blk 10 rfl
  have B13 := S13.blk 6 rfl
  have hbu : 0 ≤ (b.used : Int) := by omega
  simp (disch := omega) only [go_sem, zb.1, zb.2.1, zb.2.2, yb.1, yb.2.1, yb.2.2, splice]
  simp (disch := omega) only [go_sem, A13, zv.1, zv.2.1, zv.2.2, lenv]
  have hmt : (min (b.used : Int) rd.length).toNat = min b.used rd.length := by omega
  simp (disch := omega) only [go_sem, B13, zq.1, zq.2.1, zq.2.2, zb.2.1, hmt]
  refine Exists.elim (show ∃ rs, rs = rd.drop (min b.used rd.length) from ⟨_, rfl⟩) fun rs hrs => ?_
  have hvr : vals rs = true := vals_iff.2 fun z hz => vals_iff.1 hv3 z (by rw [hrs] at hz; exact List.mem_of_mem_drop hz)
  have hrl : rs.length ≤ 9 := by rw [hrs]; simp; omega
  have sn := Snap.part (sz := 1) (n := rd.length) (min b.used rd.length) (rd.length - min b.used rd.length) (S13.blk 8 rfl) (by simp) (by omega) (flat_encI _)
  have em : ((rd.map encI).drop (min b.used rd.length)).take (rd.length - min b.used rd.length) = rs.map encI := by
    rw [List.take_of_length_le (by simp), ← List.map_drop, ← hrs]
  rw [em] at sn
  refine Exists.elim (show ∃ c, c = effOf qs ts.length b.vars rs from ⟨_, rfl⟩) fun c hc' => ?_
  have f3 := taskEffect_f qs ts.length b.vars rs SF.1 (by rw [SF.2.1]; omega) F2.1 hvr (by omega)
  have F3 := effOf_bd (rd := rs) SF.1 (t := (ts.length : Int)) (by rw [SF.2.1]; omega) F2.1 hvr
  rw [← hc'] at f3 F3
  have hsp : a.vars = c.vars ∧ a.sent = b.sent ++ c.sent ∧ a.used = b.used + c.used := by
    have h0 := split_eff (tk := ts[i]) (n := n) (e := ⟨1, ts.length, 0⟩) (e' := ts[i].next) (rd := rd) (vars := vars) hmem
    have ea : a = runE ts[i] rd vars := by rw [ha, effOf, ← taskAt_eq (t := (i : Int)) hil]; rfl
    have eb : b = runE ⟨ts[i].body.take n, ⟨1, ts.length, 0⟩⟩ rd vars := by rw [hb', effOf, SF.2.2.1]
    have ec : c = runE ⟨ts[i].body.drop n, ts[i].next⟩ rs b.vars := by rw [hc', effOf, SF.2.2.2]
    rw [← ea, ← eb, ← hrs, ← ec] at h0
    exact h0
  have hnx : nextM ts a.vars i = nextM qs c.vars ts.length := by
    obtain ⟨j', hj', ej⟩ := hri _ (List.getElem_mem hil)
    have e1 : taskAt ts (i : Int) = ts[i] := (taskAt_eq (t := (i : Int)) hil).symm
    unfold nextM
    rw [SF.2.2.2, SF.2.1, e1, ej, evalE_num a.vars (show j' ≤ 900 by omega), evalE_num c.vars (show j' ≤ 900 by omega), Int.emod_eq_of_lt (by omega) (by omega), Int.emod_eq_of_lt (by omega) (by push_cast; omega)]
  refine S13.go f3 (.cons (S13.progSnap 7 rfl) (.cons (.int _ _) (.cons (S13.snap 1 rfl) (.cons sn (.nil _))))) fun r14 h14 x14 S14 => ?_
  refine Exists.elim S14.openEff fun vc' q => Exists.elim q fun sc q => ?_
  have hr14 := q.1
  have S14' := q.2
  clear q S14
  subst hr14
  have zc := S14'.vv 0 rfl
  have yc := S14'.vv 1 rfl
  have S15 := S14'.newK [[vc', sc, .int .i64 (nextM qs c.vars ts.length), .int .i64 c.used]]
  have C15 := S15.blk 0 rfl
  have E15 := S15.blk 3 rfl
  have D15 := S15.blk 6 rfl
  simp (disch := omega) only [go_sem, zc.1, zc.2.1, zc.2.2, yc.1, yc.2.1, yc.2.2, splice]
  simp (disch := omega) only [go_sem, D15, za.1, za.2.1, za.2.2, C15, zc.1, zc.2.1, zc.2.2]
  have hal : a.vars.length = 8 := by
    have := F1.1
    simp only [varsOkM, Bool.and_eq_true, decide_eq_true_eq] at this
    exact this.1
  refine CP.goS (sameInts_c a.vars c.vars hsp.1 (by omega)) rfl rfl (.cons (S15.snap 7 rfl) (.cons (S15.snap 1 rfl) (.nil _))) ?_
  have hnn : maxCnt = 282429536481 := rfl
  have S17 := Sep.ofFlat (sz := 1) (n := 0) (S15.newK []) rfl rfl
  have S17' := S17.pk (A := [_, _, _, _, _, _, _, _, _, _]) [0, 6, 1, 2, 3, 4, 5, 7, 8, 9] rfl
  refine Exists.elim (S17'.pushAll (bytes := 8) (by simp; omega)) fun v18 q => Exists.elim q fun h18 q => ?_
  have hap1 := q.1
  have S18 := q.2
  clear q S17 S17'
  have C18 := S18.blk 1 rfl
  have z18 := S18.vv 0 rfl
  have E18 := S18.blk 4 rfl
  have D18 := S18.blk 6 rfl
  have S18' := S18.pk (A := [_, _, _, _, _, _, _, _, _]) [0, 3, 1, 2, 4, 5, 6, 7, 8] rfl
  refine Exists.elim (S18'.pushAll (bytes := 8) (by simp; omega)) fun v20 q => Exists.elim q fun h20 q => ?_
  have hap2 := q.1
  have S20 := q.2
  clear q S18 S18'
  rw [List.nil_append, ← List.map_append] at S20
  have C20 := S20.blk 1 rfl
  have z20 := S20.vv 0 rfl
  have E20 := S20.blk 3 rfl
  have D20 := S20.blk 5 rfl
  have C16 := fun t => heap_app (h' := t) C15
  have E16 := fun t => heap_app (h' := t) E15
  have D16 := fun t => heap_app (h' := t) D15
  simp only [List.append_assoc, List.cons_append, List.nil_append, List.length_append, List.length_cons, List.length_nil, Nat.zero_add] at C16 E16 D16 hap1
  simp (disch := omega) only [go_sem, D15, E15, C15, ya.1, ya.2.1, ya.2.2, yb.1, yb.2.1, yb.2.2, yc.1, yc.2.1, yc.2.2]
  simp (disch := omega) only [go_sem, D16, E16, C16, hap1, ya.1, ya.2.1, ya.2.2, yb.1, yb.2.1, yb.2.2, yc.1, yc.2.1, yc.2.2]
  simp (disch := omega) only [go_sem, D18, E18, C18, hap2, z18.1, z18.2.1, z18.2.2, z20.1, z20.2.1, z20.2.2, ya.1, ya.2.1, ya.2.2, yc.1, yc.2.1, yc.2.2, D20]
  have hsl : a.sent.length ≤ 9223372036854775807 := by omega
  refine CP.goS (sameInts_c a.sent (b.sent ++ c.sent) hsp.2.1 hsl) rfl rfl (.cons (S20.snap 7 rfl) (.cons (S20.snap 0 rfl) (.nil _))) ?_
  have hau : (a.used : Int) = b.used + c.used := by have := hsp.2.2; omega
  simp (disch := omega) only [go_sem, D20]
  simp (disch := omega) only [go_sem, C20, hnx]
  simp (disch := omega) only [go_sem, D20]
  simp (disch := omega) only [go_sem, E20]
  simp (disch := omega) only [go_sem, C20, hau]
end Go.Av

