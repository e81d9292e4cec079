import Derived.Test.YtjfmbdigfnablaaGreatZZDDFnExactCertifiedRun
import Derived.Test.YtjfmbdigfnablaaGreatZZDCFnExactCertifiedRun
namespace Go.Av
open Go.Proofs Go.RowKit
set_option linter.unusedVariables false
set_option linter.unusedSimpArgs false
set_option maxRecDepth 100000
set_option maxHeartbeats 4000000
theorem rec_sf (ts : List Task) (m : List Int) (hok : memOkM ts m = true) : F Tryz.prog 248 [.lst 1 (m.map encI)] (.lst 2 ((recM m).map encW)) := by
  have f := memOk_facts hok
  have hm := f.2.1
  have hg8 : m[8]? = some (gtI m 8) := gtI_some (by omega)
  have ub := unpackM_bd (gtI m 8)
  have hlog := f.2.2.2.2.2
  have ht0 := f.2.2.2.1.1
  refine Exists.elim (show ∃ a b c, unpackM (gtI m 8) = (a, b, c) from ⟨_, _, _, rfl⟩) fun a q => Exists.elim q fun b q => Exists.elim q fun c hu => ?_
  have hrm : recM m = if b < 1 then [] else recVars m b.toNat ++ [⟨8, packM a 0 c⟩] := by unfold recM; rw [hu]
  rw [hu] at ub hlog ht0
  simp only at ub hlog ht0
  refine C.by mixed (cfn_ok Tryz.func248 ok248) rfl ?_
  simp (disch := omega) only [s248, go_sem, hm, hg8, List.getElem?_map, encI, gtI_get]
  refine CP.go (unpack_s _) rfl rfl ?_
  simp (disch := omega) only [go_sem, encU, hu]
  have S0 : Sep ([[]] : Heap) [.k 0 (([] : List Wr).map encW)] := (Sep.nil []).newK []
  refine loopP_intro (fun n s => ∃ (k : Nat) (ws : List Wr), (k : Int) ≤ max b 0 ∧ n = k ∧ ws ++ recVars m k = recVars m b.toNat ∧ s.e 0 = .lst 1 (m.map encI) ∧ s.e 4 = .int .i64 a ∧ s.e 5 = .int .i64 b ∧ s.e 6 = .int .i64 c ∧ s.e 3 = .own 0 2 0 ws.length ws.length ∧ (s.e 7 = .int .i64 ((k : Int) - 1) ∨ (b < 0 ∧ k = 0 ∧ s.e 7 = .int .i64 (b - 1))) ∧ Sep s.h [.k 0 (ws.map encW)]) b.toNat ⟨b.toNat, [], by omega, rfl, rfl, by simp (disch := omega) only [go_sem, encU, hu], by simp (disch := omega) only [go_sem, encU, hu], by simp (disch := omega) only [go_sem, encU, hu], by simp (disch := omega) only [go_sem, encU, hu], by simp (disch := omega) only [go_sem, encU, hu] <;> rfl, ?_, S0⟩ ?_
  · rcases Int.lt_or_le b 0 with q | q
    · exact .inr ⟨q, by omega, by simp (disch := omega) only [go_sem, encU, hu]⟩
    · exact .inl (by simp (disch := omega) only [go_sem, encU, hu] <;> exact congrArg (V.int .i64) (by omega))
  intro n e hp P
  refine Exists.elim P fun k P => Exists.elim P fun ws P => ?_
  have hk := P.1
  have hn := P.2.1
  have hws := P.2.2.1
  have e0 := P.2.2.2.1
  have e4 := P.2.2.2.2.1
  have e5 := P.2.2.2.2.2.1
  have e6 := P.2.2.2.2.2.2.1
  have e3 := P.2.2.2.2.2.2.2.1
  have e7 := P.2.2.2.2.2.2.2.2.1
  have S1 := P.2.2.2.2.2.2.2.2.2
  clear P
  subst hn
  simp only at e0 e3 e4 e5 e6 e7 S1
  refine Exists.elim (show ∃ z : Int, e 7 = .int .i64 z ∧ (0 ≤ z ↔ 0 < n) ∧ (0 < n → z = (n : Int) - 1) from e7.elim (fun q => ⟨_, q, by omega, fun _ => rfl⟩) (fun q => ⟨_, q.2.2, by omega, fun _ => by omega⟩)) fun z q => ?_
  have e7' := q.1
  have hz0 := q.2.1
  have hz1 := q.2.2
  clear q e7
  have hwl : ws.length + n = b.toNat := by
    have := congrArg List.length hws
    simpa [recVars_len] using this
  simp (disch := omega) only [go_sem, e0, e3, e4, e5, e6, e7']
  refine condP_dec (fun hlt => ?_) (fun hlt => ?_)
  · refine Exists.elim (show ∃ j : Nat, n = j + 1 from ⟨n - 1, by omega⟩) fun j hj => ?_
    subst hj
    have hz2 := hz1 (by omega)
    subst hz2
    have lo := hlog j (by omega)
    simp only [logOk, Bool.and_eq_true] at lo
    have lo1 : within (gtI m (9 + 2 * j)) 0 7 = true := lo.1
    have i1 : (9 + 2 * (((j + 1 : Nat) : Int) - 1)).toNat = 9 + 2 * j := by omega
    have i2 : (9 + 2 * (((j + 1 : Nat) : Int) - 1) + 1).toNat = 9 + 2 * j + 1 := by omega
    have g1 := gtI_some (zs := m) (i := 9 + 2 * j) (by omega)
    have g2 := gtI_some (zs := m) (i := 9 + 2 * j + 1) (by omega)
    simp (disch := omega) only [go_sem, e0, e3, e4, e5, e6, e7', encI, i1, i2, g1, g2, List.getElem?_map, gtI_get]
    refine CP.go (l01In_c _ 0 7) rfl rfl ?_
    have hap := append1 (sz := 2) (bytes := 16) (n := ws.length) (c := encW ⟨gtI m (9 + 2 * j), gtI m (9 + 2 * j + 1)⟩) (S1.blk 0 rfl) (by simp) (by omega)
    have S2 := S1.push1 (encW ⟨gtI m (9 + 2 * j), gtI m (9 + 2 * j + 1)⟩)
    rw [← push_wr] at hap S2
    simp only [encW] at hap
    simp (disch := omega) only [go_sem, e0, e3, e4, e5, e6, e7', encI, i1, i2, g1, g2, List.getElem?_map, gtI_get, lo1, hap, splice]
    refine nextP_intro j (by omega) ⟨j, ws ++ [(⟨gtI m (9 + 2 * j), gtI m (9 + 2 * j + 1)⟩ : Wr)], by omega, rfl, ?_, by simp (disch := omega) only [go_sem, e0, e3, e4, e5, e6, e7', encI, i1, i2, g1, g2, List.getElem?_map, gtI_get, lo1, hap, splice], by simp (disch := omega) only [go_sem, e0, e3, e4, e5, e6, e7', encI, i1, i2, g1, g2, List.getElem?_map, gtI_get, lo1, hap, splice], by simp (disch := omega) only [go_sem, e0, e3, e4, e5, e6, e7', encI, i1, i2, g1, g2, List.getElem?_map, gtI_get, lo1, hap, splice], by simp (disch := omega) only [go_sem, e0, e3, e4, e5, e6, e7', encI, i1, i2, g1, g2, List.getElem?_map, gtI_get, lo1, hap, splice], by simp (disch := omega) only [go_sem, e0, e3, e4, e5, e6, e7', encI, i1, i2, g1, g2, List.getElem?_map, gtI_get, lo1, hap, splice] <;> simp, .inl (by simp (disch := omega) only [go_sem, e0, e3, e4, e5, e6, e7', encI, i1, i2, g1, g2, List.getElem?_map, gtI_get, lo1, hap, splice] <;> exact congrArg (V.int .i64) (by omega)), S2⟩
    rw [← hws]; simp [recVars]
  have hn0 : n = 0 := by omega
  subst hn0
  simp (disch := omega) only [go_sem, e0, e3, e4, e5, e6, e7']
  refine condP_dec (fun hb => ?_) (fun hb => ?_)
  · simp (disch := omega) only [go_sem, e0, e3, e4, e5, e6, e7']
    have hw0 : ws = [] := List.length_eq_zero_iff.1 (by omega)
    subst hw0
    rw [hrm, if_pos (by omega)]
    exact (S1.ofFlat (sz := 2) (n := 0) rfl rfl).ret
  simp (disch := omega) only [go_sem, e0, e3, e4, e5, e6, e7']
  refine CP.go (pack_s _ _ _) rfl rfl ?_
  have hap := append1 (sz := 2) (bytes := 16) (n := ws.length) (c := encW ⟨8, packM a 0 c⟩) (S1.blk 0 rfl) (by simp) (by omega)
  have S2 := S1.push1 (encW ⟨8, packM a 0 c⟩)
  rw [← push_wr] at hap S2
  simp only [encW] at hap
  simp (disch := omega) only [go_sem, e0, e3, e4, e5, e6, e7', hap, splice]
  rw [hrm, if_neg (by omega), ← hws]
  have hl2 : ((ws ++ [⟨8, packM a 0 c⟩] : List Wr).map encW).length = ws.length + 1 := by simp
  have S3 := S2.ofFlat (sz := 2) hl2 (flat_W _)
  simpa [recVars, encW] using S3.ret
theorem nextS_c (ts : List Task) (vars : List Int) (t : Int) (hp : programOk ts = true) (hv : ∀ z ∈ vars, isValue z = true) (h8 : vars.length = 8) (ht : 0 ≤ t ∧ t < ts.length) : CP Tryz.prog 270 [.agg [.lst 4 (ts.map encTask)], .lst 1 (vars.map encI), .int .i64 t] (.int .i64 (nextM ts vars t)) [] := by
  have pf := prog_facts hp
  have hmem : taskAt ts t ∈ ts := by rw [← taskAt_eq (by omega)]; exact List.getElem_mem _
  have hte := task_facts (pf.2 _ hmem).1
  have hx := exprOk_facts hte.2
  have hta := taskAt_some (ts := ts) (t := t) (by omega)
  refine CP.by rfl mixed (cfn_ok Tryz.func270 ok270) rfl ?_
  simp (disch := omega) only [s270, go_sem, hta, List.getElem?_map, encTask, taskAt_eq]
  refine CP.go (eval_s vars (taskAt ts t).next (by omega) (by omega) (by omega) (by omega)) rfl (by simp [V.refsL, V.refs, refsLL_map encI (fun _ => rfl) vars]) ?_
  have hn : 0 < (ts.length : Int) := by omega
  have hm1 : -(ts.length : Int) < (evalE vars (taskAt ts t).next).tmod ts.length := Int.lt_tmod_of_pos _ (by omega)
  have hm2 : (evalE vars (taskAt ts t).next).tmod ts.length < ts.length := Int.tmod_lt_of_pos _ (by omega)
  have h2 := Int.tmod_add_mul_tdiv (evalE vars (taskAt ts t).next) ts.length
  simp (disch := omega) only [go_sem, hta, List.getElem?_map, encTask, taskAt_eq]
  refine condP_dec (fun hlt => ?_) (fun hlt => ?_)
  · simp (disch := omega) only [go_sem, hta, List.getElem?_map, encTask, taskAt_eq]
    have tw := tmod_twice (a := evalE vars (taskAt ts t).next) hn
    rw [Int.tmod_eq_of_lt (by omega) (by omega)] at tw
    exact congrArg (V.int .i64) tw
  · simp (disch := omega) only [go_sem, hta, List.getElem?_map, encTask, taskAt_eq]
    have tw := tmod_twice (a := evalE vars (taskAt ts t).next) hn
    rw [mod_nn (by omega), Int.add_emod_right, Int.emod_eq_of_lt (by omega) (by omega)] at tw
    exact congrArg (V.int .i64) tw
end Go.Av

namespace Go.Av
open Go.Proofs Go.RowKit
set_option linter.unusedVariables false
set_option linter.unusedSimpArgs false
set_option maxRecDepth 100000
set_option maxHeartbeats 4000000
def TrX (h : Heap) (X : Nat) (must : List Int) (task tail : Int) (rd : List Int) (at_ : Int) (σ : TS) (L : List It) : Prop := ∃ (vs vu vl vn vm : V) (vid : Nat), (σ.vars.length = 8 ∧ ∀ z ∈ σ.vars, isValue z = true) ∧
  Sep h (.k X [[.own vid 1 0 8 8, vn, vu, .nils, .lst 1 (rd.map encI), .int .i64 at_, .bool true, vs, vm, vl, .int .i64 task, .int .i64 tail]] :: .v (.lst 3 (σ.steps.map encMicro)) vs :: .v (.lst 1 (σ.used.map encI)) vu :: .v (.lst 1 (σ.logged.map encI)) vl :: .v (.lst 1 (σ.sent.map encI)) vn :: .v (.lst 1 (must.map encI)) vm :: .k vid (σ.vars.map encI) :: L)
theorem TrX.mk {h : Heap} {X : Nat} {must : List Int} {task tail : Int} {rd : List Int} {at_ : Int} {σ : TS} {L : List It} {vs vu vl vn vm : V} {vid : Nat} (f : σ.vars.length = 8 ∧ ∀ z ∈ σ.vars, isValue z = true) (S : Sep h (.k X [[.own vid 1 0 8 8, vn, vu, .nils, .lst 1 (rd.map encI), .int .i64 at_, .bool true, vs, vm, vl, .int .i64 task, .int .i64 tail]] :: .v (.lst 3 (σ.steps.map encMicro)) vs :: .v (.lst 1 (σ.used.map encI)) vu :: .v (.lst 1 (σ.logged.map encI)) vl :: .v (.lst 1 (σ.sent.map encI)) vn :: .v (.lst 1 (must.map encI)) vm :: .k vid (σ.vars.map encI) :: L)) : TrX h X must task tail rd at_ σ L := ⟨vs, vu, vl, vn, vm, vid, f, S⟩
theorem TrX.new {h : Heap} {X : Nat} {must : List Int} {task tail : Int} {rd : List Int} {at_ : Int} {σ : TS} {L : List It} (T : TrX h X must task tail rd at_ σ L) (b : Blk) : TrX (h ++ [b]) X must task tail rd at_ σ (.k h.length b :: L) := by
  obtain ⟨vs, vu, vl, vn, vm, vid, f, S⟩ := T
  exact ⟨vs, vu, vl, vn, vm, vid, f, (S.newK b).pk (A := [_, _, _, _, _, _, _, _]) [1, 2, 3, 4, 5, 6, 7, 0] rfl⟩
theorem TrX.drop {h : Heap} {X : Nat} {must : List Int} {task tail : Int} {rd : List Int} {at_ : Int} {σ : TS} {x : It} {L : List It} (T : TrX h X must task tail rd at_ σ (x :: L)) : TrX h X must task tail rd at_ σ L := by
  obtain ⟨vs, vu, vl, vn, vm, vid, f, S⟩ := T
  exact ⟨vs, vu, vl, vn, vm, vid, f, S.drop 7⟩
theorem TrX.get {h : Heap} {X : Nat} {must : List Int} {task tail : Int} {rd : List Int} {at_ : Int} {σ : TS} {id : Nat} {b : Blk} {L : List It} (T : TrX h X must task tail rd at_ σ (.k id b :: L)) : h[id]? = some b := by
  obtain ⟨vs, vu, vl, vn, vm, vid, f, S⟩ := T
  exact S.blk 7 rfl
theorem stepX_c {h : Heap} {X : Nat} {must : List Int} {task tail : Int} {rd : List Int} {at_ : Int} {σ : TS} {L : List It} (c : Int) (T : TrX h X must task tail rd at_ σ L) (hl : σ.steps.length ≤ 5000000000000) : C Tryz.prog 268 [.ptr X 1 0 0, .int .i64 c] h (fun r h' => r = .tup [] ∧ TrX h' X must task tail rd at_ (σ.add [⟨c, -1, 0⟩]) L) := by
  refine C.by mixed (cfn_ok Tryz.func268 ok268) rfl ?_
  refine Exists.elim T fun vs T => Exists.elim T fun vu T => Exists.elim T fun vl T => Exists.elim T fun vn T => Exists.elim T fun vm T => Exists.elim T fun vid T => ?_
  have f := T.1
  have S := T.2
  clear T
  have K := S.blk 0 rfl
  refine Exists.elim ((S.pull 1).pushS (bytes := 24) (encMicro ⟨c, -1, 0⟩) rfl (by simp; omega)) fun v' q => Exists.elim q fun h5 q => ?_
  have hap := q.1
  have S2 := q.2
  clear q
  rw [← push_micro] at S2
  have K2 := S2.blk 1 rfl
  have z := S2.vv 0 rfl
  simp only [encMicro] at hap
  have zs := S.vv 1 rfl
  simp (disch := omega) only [s268, go_sem, K, zs.1, zs.2.1, zs.2.2, splice, hap, z.1, z.2.1, z.2.2, K2, storeH, storeB]
  exact ⟨v', vu, vl, vn, vm, vid, f, ((S2.pull 1).setK _)⟩
theorem writeX_c {h : Heap} {X : Nat} {must : List Int} {task tail : Int} {rd : List Int} {at_ : Int} {σ : TS} {L : List It} (a v : Int) (T : TrX h X must task tail rd at_ σ L) (hl : σ.steps.length ≤ 5000000000000) : C Tryz.prog 269 [.ptr X 1 0 0, .int .i64 a, .int .i64 v] h (fun r h' => r = .tup [] ∧ TrX h' X must task tail rd at_ (σ.add [⟨3, a, v⟩]) L) := by
  refine C.by mixed (cfn_ok Tryz.func269 ok269) rfl ?_
  refine Exists.elim T fun vs T => Exists.elim T fun vu T => Exists.elim T fun vl T => Exists.elim T fun vn T => Exists.elim T fun vm T => Exists.elim T fun vid T => ?_
  have f := T.1
  have S := T.2
  clear T
  have K := S.blk 0 rfl
  refine Exists.elim ((S.pull 1).pushS (bytes := 24) (encMicro ⟨3, a, v⟩) rfl (by simp; omega)) fun v' q => Exists.elim q fun h5 q => ?_
  have hap := q.1
  have S2 := q.2
  clear q
  rw [← push_micro] at S2
  have K2 := S2.blk 1 rfl
  have z := S2.vv 0 rfl
  simp only [encMicro] at hap
  have zs := S.vv 1 rfl
  simp (disch := omega) only [s269, go_sem, K, zs.1, zs.2.1, zs.2.2, splice, hap, z.1, z.2.1, z.2.2, K2, storeH, storeB]
  exact ⟨v', vu, vl, vn, vm, vid, f, ((S2.pull 1).setK _)⟩
theorem senseX_c {h : Heap} {X : Nat} {must : List Int} {task tail : Int} {rd : List Int} {at_ : Int} {σ : TS} {L : List It} (s : Int) (T : TrX h X must task tail rd at_ σ L) (hl : σ.used.length ≤ 5000000000000) (hr : rd.length ≤ 9223372036854775807) (ha : 0 ≤ at_ ∧ at_ ≤ 1000000) : C Tryz.prog 278 [.ptr X 1 0 0, .int .i64 s] h (fun r h' => r = .int .i64 (readM rd s (at_ + σ.used.length)) ∧ TrX h' X must task tail rd at_ { σ with used := σ.used ++ [readM rd s (at_ + σ.used.length)] } L) := by
  refine C.by mixed (cfn_ok Tryz.func278 ok278) rfl ?_
  refine Exists.elim T fun vs T => Exists.elim T fun vu T => Exists.elim T fun vl T => Exists.elim T fun vn T => Exists.elim T fun vm T => Exists.elim T fun vid T => ?_
  have f := T.1
  have S := T.2
  clear T
  have K := S.blk 0 rfl
  have lenu := fun G => (S.lst 2 rfl).elim fun i o => o.len_ G
  simp only [List.length_map] at lenu
  have zu := S.vv 2 rfl
  simp (disch := omega) only [s278, go_sem, K, zu.1, zu.2.1, zu.2.2, lenu]
  refine CP.go (readSensor_s rd s _ hr) rfl (by simp [V.refsL, V.refs, refsLL_map encI (fun _ => rfl) rd]) ?_
  refine Exists.elim ((S.pull 2).pushS (bytes := 8) [.int .i64 (readM rd s (at_ + σ.used.length))] rfl (by simp; omega)) fun v' q => Exists.elim q fun h3 q => ?_
  have hap := q.1
  have S3 := q.2
  clear q
  rw [show σ.used.map encI ++ [[V.int .i64 (readM rd s (at_ + σ.used.length))]] = (σ.used ++ [readM rd s (at_ + σ.used.length)]).map encI by simp [encI]] at S3
  have z3 := S3.vv 0 rfl
  have X3 := S3.blk 1 rfl
  simp (disch := omega) only [go_sem, K, zu.1, zu.2.1, zu.2.2, lenu, hap, z3.1, z3.2.1, z3.2.2, X3, storeH, storeB, splice]
  exact ⟨vs, v', vl, vn, vm, vid, f, ((S3.pull 1).setK _).pk (A := [_, _, _]) [0, 2, 1] rfl⟩
end Go.Av

namespace Go.Av
open Go.Proofs Go.RowKit
set_option linter.unusedVariables false
set_option linter.unusedSimpArgs false
set_option maxRecDepth 100000
set_option maxHeartbeats 4000000
theorem assignX_c {h : Heap} {X : Nat} {must : List Int} {task tail : Int} {rd : List Int} {at_ : Int} {σ : TS} {L : List It} (k v : Int) (T : TrX h X must task tail rd at_ σ L) (hl : σ.steps.length ≤ 4000000000000) (hlg : σ.logged.length ≤ 4000000000000) (hm : must.length ≤ 1048576) (hk : 0 ≤ k ∧ k ≤ 7) (hv : isValue v = true) : C Tryz.prog 277 [.ptr X 1 0 0, .int .i64 k, .int .i64 v] h (fun r' h' => r' = .tup [] ∧ TrX h' X must task tail rd at_ (assignT must task tail k v σ) L) := by
  have T0 := T
  refine C.by mixed (cfn_ok Tryz.func277 ok277) rfl ?_
  refine Exists.elim T fun vs T => Exists.elim T fun vu T => Exists.elim T fun vl T => Exists.elim T fun vn T => Exists.elim T fun vm T => Exists.elim T fun vid T => ?_
  have f := T.1
  have S := T.2
  clear T
  have K := S.blk 0 rfl
  have zm := S.vv 5 rfl
  have zl := S.vv 3 rfl
  simp (disch := omega) only [s277, go_sem, K, zm.1, zm.2.1, zm.2.2, zl.1, zl.2.1, zl.2.2]
  refine CP.goS (hasVar_s must k (by omega)) rfl rfl (.cons (S.snap 5 rfl) (.cons (.int _ _) (.nil _))) ?_
  have hin : 0 ≤ k ∧ k < ((8 : Nat) : Int) := by omega
  simp (disch := omega) only [go_sem, K, zm.1, zm.2.1, zm.2.2, zl.1, zl.2.1, zl.2.2]
  refine condP_dec (fun hkm => ?_) (fun hkm => ?_)
  case' refine_1 =>
    simp (disch := omega) only [go_sem, K, zm.1, zm.2.1, zm.2.2, zl.1, zl.2.1, zl.2.2]
    refine CP.goS (hasVar_s σ.logged k (by omega)) rfl rfl (.cons (S.snap 3 rfl) (.cons (.int _ _) (.nil _))) ?_
    simp (disch := omega) only [go_sem, K, zm.1, zm.2.1, zm.2.2, zl.1, zl.2.1, zl.2.2]
    refine condP_dec (fun hb => ?_) (fun hb => ?_)
    case' refine_2 =>
      have lenl := fun G => (S.lst 3 rfl).elim fun i o => o.len_ G
      simp only [List.length_map] at lenl
      simp (disch := omega) only [go_sem, K, lenl, zl.1, zl.2.1, zl.2.2]
      refine C.go (writeX_c (9 + 2 * σ.logged.length) k T0 (by omega)) ?_
      rintro r0 h1 ⟨rfl, T1⟩
      have T1' := T1
      refine Exists.elim T1 fun vs1 T1 => Exists.elim T1 fun vu1 T1 => Exists.elim T1 fun vl1 T1 => Exists.elim T1 fun vn1 T1 => Exists.elim T1 fun vm1 T1 => Exists.elim T1 fun vid1 T1 => ?_
      have f1 := T1.1
      have S1 := T1.2
      clear T1
      have K1 := S1.blk 0 rfl
      have V1 := S1.blk 6 rfl
      have v8 : (σ.add [⟨3, 9 + 2 * σ.logged.length, k⟩]).vars.length = 8 := f.1
      have hgv : (σ.add [⟨3, 9 + 2 * σ.logged.length, k⟩]).vars[k.toNat]? = some (gtI σ.vars k.toNat) := gtI_some (by show k.toNat < σ.vars.length; rw [f.1]; omega)
      simp (disch := omega) only [go_sem, K1, V1, v8, hgv, List.getElem?_map, List.length_map, encI, Nat.zero_add, Nat.mul_one, hin]
      refine C.go (writeX_c (9 + 2 * σ.logged.length + 1) (gtI σ.vars k.toNat) T1' (by simp [TS.add]; omega)) ?_
      rintro r0 h2 ⟨rfl, T2⟩
      clear K K1 V1 S1 f1 zl lenl T1'
      refine Exists.elim (show ∃ σ2 : TS, σ2 = (σ.add [⟨3, 9 + 2 * σ.logged.length, k⟩]).add [⟨3, 9 + 2 * σ.logged.length + 1, gtI σ.vars k.toNat⟩] from ⟨_, rfl⟩) fun σ2 hσ => ?_
      rw [← hσ] at T2
      have g2 : σ2.logged = σ.logged := by rw [hσ]; rfl
      have g3 : σ2.steps.length = σ.steps.length + 2 := by rw [hσ]; simp [TS.add]
      have T2' := T2
      refine Exists.elim T2 fun vs2 T2 => Exists.elim T2 fun vu2 T2 => Exists.elim T2 fun vl2 T2 => Exists.elim T2 fun vn2 T2 => Exists.elim T2 fun vm2 T2 => Exists.elim T2 fun vid2 T2 => ?_
      have f2 := T2.1
      have S2 := T2.2
      clear T2
      have K2 := S2.blk 0 rfl
      simp (disch := omega) only [go_sem, K2]
      refine CP.go (pack_s _ _ _) rfl rfl ?_
      simp (disch := omega) only [go_sem, K2]
      refine C.go (writeX_c 8 (packM task ((σ.logged.length : Int) + 1) tail) T2' (by omega)) ?_
      rintro r0 h3 ⟨rfl, T3⟩
      clear K2 S2 T2'
      refine Exists.elim T3 fun vs3 T3 => Exists.elim T3 fun vu3 T3 => Exists.elim T3 fun vl3 T3 => Exists.elim T3 fun vn3 T3 => Exists.elim T3 fun vm3 T3 => Exists.elim T3 fun vid3 T3 => ?_
      have f3 := T3.1
      have S3 := T3.2
      clear T3
      have K3 := S3.blk 0 rfl
      have z3 := S3.vv 3 rfl
      have g4 : (σ2.add [⟨3, 8, packM task ((σ.logged.length : Int) + 1) tail⟩]).logged = σ.logged := g2
      refine Exists.elim ((S3.pull 3).pushS (bytes := 8) [.int .i64 k] rfl (by simp [g4]; omega)) fun v' q => Exists.elim q fun h4 q => ?_
      have hap := q.1
      have S4 := q.2
      clear q
      rw [show (σ2.add [⟨3, 8, packM task ((σ.logged.length : Int) + 1) tail⟩]).logged.map encI ++ [[V.int .i64 k]] = (σ.logged ++ [k]).map encI by simp [encI, g4]] at S4
      have z4 := S4.vv 0 rfl
      have K4 := S4.blk 1 rfl
      have S5 := (S4.pull 1).setK [[.own vid3 1 0 8 8, vn3, vu3, .nils, .lst 1 (rd.map encI), .int .i64 at_, .bool true, vs3, vm3, v', .int .i64 task, .int .i64 tail]]
      have hA : logA must task tail k σ = { σ with steps := σ.steps ++ [⟨3, 9 + 2 * σ.logged.length, k⟩, ⟨3, 9 + 2 * σ.logged.length + 1, gtI σ.vars k.toNat⟩, ⟨3, 8, packM task (σ.logged.length + 1) tail⟩], logged := σ.logged ++ [k] } := if_pos ⟨hkm, hb⟩
      have T6 : TrX (h4.set X [[.own vid3 1 0 8 8, vn3, vu3, .nils, .lst 1 (rd.map encI), .int .i64 at_, .bool true, vs3, vm3, v', .int .i64 task, .int .i64 tail]]) X must task tail rd at_ (logA must task tail k σ) L := by
        rw [hA]
        rw [hσ] at S5 f3
        have := TrX.mk (σ := { (((σ.add [⟨3, 9 + 2 * σ.logged.length, k⟩]).add [⟨3, 9 + 2 * σ.logged.length + 1, gtI σ.vars k.toNat⟩]).add [⟨3, 8, packM task ((σ.logged.length : Int) + 1) tail⟩]) with logged := σ.logged ++ [k] }) f3 (S5.pk (A := [_, _, _, _, _, _, _]) [0, 2, 3, 1, 4, 5, 6] rfl)
        simpa [TS.add] using this
      simp (disch := omega) only [go_sem, K3, z3.1, z3.2.1, z3.2.2, hap, z4.1, z4.2.1, z4.2.2, K4, storeH, storeB, splice]
    case' refine_1 =>
      have hA : logA must task tail k σ = σ := if_neg fun q => q.2 hb
      have T6 : TrX h X must task tail rd at_ (logA must task tail k σ) L := by
        rw [hA]; exact T0
  case' refine_2 =>
    have hA : logA must task tail k σ = σ := if_neg fun q => hkm q.1
    have T6 : TrX h X must task tail rd at_ (logA must task tail k σ) L := by
      rw [hA]; exact T0
  all_goals
    have lv : (logA must task tail k σ).vars = σ.vars := by unfold logA; split <;> rfl
    have ls : (logA must task tail k σ).steps.length ≤ σ.steps.length + 3 := by unfold logA; split <;> simp
    refine Exists.elim T6 fun vs6 T6 => Exists.elim T6 fun vu6 T6 => Exists.elim T6 fun vl6 T6 => Exists.elim T6 fun vn6 T6 => Exists.elim T6 fun vm6 T6 => Exists.elim T6 fun vid6 T6 => ?_
    have f6 := T6.1
    have S6 := T6.2
    clear T6
    have K6 := S6.blk 0 rfl
    have st2 := store_i (z := v) (i := k.toNat) (S6.blk 6 rfl) f6.1 (by omega)
    have f8 : ((logA must task tail k σ).vars.set k.toNat v).length = 8 ∧ ∀ z ∈ (logA must task tail k σ).vars.set k.toNat v, isValue z = true := by
      refine ⟨by simpa using f6.1, fun z hz => ?_⟩
      rcases List.mem_or_eq_of_mem_set hz with q | q
      · exact f6.2 z q
      · rw [q]; exact hv
    have T8 := TrX.mk (σ := { logA must task tail k σ with vars := (logA must task tail k σ).vars.set k.toNat v }) (must := must) f8 (((S6.pull 6).setK (((logA must task tail k σ).vars.set k.toNat v).map encI)).pk (A := [_, _, _, _, _, _, _]) [1, 2, 3, 4, 5, 6, 0] rfl)
    simp (disch := omega) only [go_sem, hin, Nat.mul_one, Nat.zero_add, K6, st2]
    refine C.go (writeX_c k v T8 (by show (logA must task tail k σ).steps.length ≤ _; omega)) ?_
    rintro r0 h9 ⟨rfl, T9⟩
    simp (disch := omega) only [go_sem, hin, Nat.mul_one, Nat.zero_add, K6, st2]
    exact T9
end Go.Av

namespace Go.Av
open Go.Proofs Go.RowKit
set_option linter.unusedVariables false
set_option linter.unusedSimpArgs false
set_option maxRecDepth 100000
set_option maxHeartbeats 8000000
def KeepX (must : List Int) (task tail : Int) (rd : List Int) (at_ : Int) (X : Nat) (n : Nat) (σ : TS) (L : List It) (h : Heap) : Prop :=
  (σ.steps.length ≤ 5 * n ∧ σ.used.length ≤ n ∧ σ.sent.length ≤ n ∧ σ.logged.length ≤ n) ∧ TrX h X must task tail rd at_ σ L
def ExecS (must : List Int) (task tail : Int) (rd : List Int) (at_ : Int) (X : Nat) (t : Tr) : Prop := ∀ (xs : List Stmt) (a : Nat) (ia ib : Int) (v : List Stmt) (n : Nat) (σ : TS) (L : List It) (h : Heap), ia = a → ib = (a : Int) + t.flat.length → t.ok = true → xs.drop a = t.flat ++ v → xs.length ≤ 24 → n + cntT t ≤ maxCnt → KeepX must task tail rd at_ X n σ L h →
    C Tryz.prog 267 [.ptr X 1 0 0, .lst 6 (xs.map encStmt), .int .i64 ia, .int .i64 ib] h (fun r h' => r = .tup [] ∧ ∃ n', n' ≤ n + cntT t ∧ KeepX must task tail rd at_ X n' (runG (stepT must task tail rd at_) holdT t σ) L h')
theorem execS_step {must : List Int} {task tail : Int} {rd : List Int} {at_ : Int} {X : Nat} (hm : must.length ≤ 1048576) (ht : 0 ≤ tail ∧ tail ≤ 24) (hr : rd.length ≤ 9223372036854775807) (ha : 0 ≤ at_ ∧ at_ ≤ 1000000) (sz : Nat) (ih : ∀ b : Tr, b.size < sz → ExecS must task tail rd at_ X b) (t : Tr) (hsz : t.size ≤ sz) : ExecS must task tail rd at_ X t := by
  intro xs a ia ib v n σ L h hia hib hto hdr hl hn hK
  have hnn : maxCnt = 282429536481 := rfl
  subst hia hib
  refine C.by mixed (cfn_ok Tryz.func267 ok267) rfl ?_
  simp (disch := omega) only [s267, go_sem]
  refine loopP_intro (fun m s => ∃ (k : Nat) (r : Tr) (n' : Nat) (σ' : TS), (k : Int) ≤ (a : Int) + t.flat.length ∧ m = a + t.flat.length - k ∧ k + r.flat.length = a + t.flat.length ∧ r.ok = true ∧ r.size ≤ sz ∧ xs.drop k = r.flat ++ v ∧ n' + cntT r ≤ n + cntT t ∧ runG (stepT must task tail rd at_) holdT r σ' = runG (stepT must task tail rd at_) holdT t σ ∧ s.e 0 = .ptr X 1 0 0 ∧ s.e 1 = .lst 6 (xs.map encStmt) ∧ s.e 3 = .int .i64 ((a : Int) + t.flat.length) ∧ s.e 8 = .int .i64 k ∧ KeepX must task tail rd at_ X n' σ' L s.h) t.flat.length ⟨a, t, n, σ, by omega, by omega, rfl, hto, hsz, hdr, by omega, rfl, by simp (disch := omega) only [go_sem], by simp (disch := omega) only [go_sem], by simp (disch := omega) only [go_sem], by simp (disch := omega) only [go_sem], hK⟩ ?_
  intro m e hp P
  refine Exists.elim P fun k P => Exists.elim P fun r P => Exists.elim P fun n1 P => Exists.elim P fun σ1 P => ?_
  have hk := P.1
  have hm' := P.2.1
  have hkr := P.2.2.1
  have hro := P.2.2.2.1
  have hrs := P.2.2.2.2.1
  have hdk := P.2.2.2.2.2.1
  have hc := P.2.2.2.2.2.2.1
  have hrun := P.2.2.2.2.2.2.2.1
  have e0 := P.2.2.2.2.2.2.2.2.1
  have e1 := P.2.2.2.2.2.2.2.2.2.1
  have e3 := P.2.2.2.2.2.2.2.2.2.2.1
  have e8 := P.2.2.2.2.2.2.2.2.2.2.2.1
  have K1 := P.2.2.2.2.2.2.2.2.2.2.2.2
  clear P
  subst hm'
  simp only at e0 e1 e3 e8 K1
  simp (disch := omega) only [go_sem, e0, e1, e3, e8]
  refine condP_dec (fun hlt => ?_) (fun hlt => ?_)
  case' refine_2 =>
    have hr0 : r = .nil := by
      cases r with
      | nil => rfl
      | one s r => simp [Tr.flat] at hkr; omega
      | grp s a r => simp [Tr.flat] at hkr; omega
    subst hr0
    simp (disch := omega) only [go_sem, e0, e1, e3, e8]
    refine ⟨n1, by simp only [cntT] at hc; omega, ?_⟩
    rw [← hrun]; exact K1
  have nxt : ∀ (e' : Nat → V) (hh : Heap) (q : Nat) (r' : Tr) (n' : Nat) (σ' : TS), k < q → q + r'.flat.length = a + t.flat.length → r'.ok = true → r'.size ≤ sz → xs.drop q = r'.flat ++ v → n' + cntT r' ≤ n + cntT t → runG (stepT must task tail rd at_) holdT r' σ' = runG (stepT must task tail rd at_) holdT t σ → e' 0 = .ptr X 1 0 0 → e' 1 = .lst 6 (xs.map encStmt) → e' 3 = .int .i64 ((a : Int) + t.flat.length) → e' 8 = .int .i64 q → KeepX must task tail rd at_ X n' σ' L hh → @nextP (a + t.flat.length - k) ⟨e', hh⟩ ⟨fun m s => ∃ (k : Nat) (r : Tr) (n' : Nat) (σ' : TS), (k : Int) ≤ (a : Int) + t.flat.length ∧ m = a + t.flat.length - k ∧ k + r.flat.length = a + t.flat.length ∧ r.ok = true ∧ r.size ≤ sz ∧ xs.drop k = r.flat ++ v ∧ n' + cntT r ≤ n + cntT t ∧ runG (stepT must task tail rd at_) holdT r σ' = runG (stepT must task tail rd at_) holdT t σ ∧ s.e 0 = .ptr X 1 0 0 ∧ s.e 1 = .lst 6 (xs.map encStmt) ∧ s.e 3 = .int .i64 ((a : Int) + t.flat.length) ∧ s.e 8 = .int .i64 k ∧ KeepX must task tail rd at_ X n' σ' L s.h⟩ := fun e' hh q r' n' σ' a1 a2 a3 a4 a5 a6 a7 b0 b1 b3 b8 bk =>
    nextP_intro (a + t.flat.length - q) (by omega) ⟨q, r', n', σ', by omega, rfl, a2, a3, a4, a5, a6, a7, b0, b1, b3, b8, bk⟩
  rcases r with _ | ⟨s, r⟩ | ⟨s, b, r⟩
  · simp [Tr.flat] at hkr; omega
  · obtain ⟨hs, hkk, hr'⟩ := Tr.one_ok hro
    simp only [Tr.flat, List.cons_append] at hdk
    simp only [Tr.flat, List.length_cons] at hkr
    simp only [Tr.size] at hrs
    simp only [cntT] at hc
    simp only [runG] at hrun
    refine Exists.elim (drop_head hdk) fun hk0 z => ?_
    have hks := z.1
    have hd1 := z.2
    have hg : ∀ h : k < xs.length, xs[k] = s := fun _ => hks
    have hb := K1.1
    have hz := storeBox (h := hp) (z := [V.int .i64 0, .int .i64 0, .int .i64 0, .int .i64 0, .int .i64 0, .int .i64 0]) (x := .agg (encStmt s)) (sz := 6) rfl rfl
    simp only [cells_agg, encStmt] at hz
    have T1 := K1.2.new [encStmt s]
    have B1 := T1.get
    simp only [encStmt] at T1 B1
    have bd := stepT_bd must task tail rd at_ s σ1
    have k6 : s.kind ≠ 6 := by omega
    simp (disch := omega) only [go_sem, e0, e1, e3, e8, hg, hz, B1, encStmt]
    refine CP.go (cost_s s) rfl rfl ?_
    simp (disch := omega) only [go_sem, e0, e1, e3, e8, hg, hz, B1]
    refine C.go (stepX_c (costK s.kind) T1 (by omega)) ?_
    rintro r0 h2 ⟨rfl, T2⟩
    have B2 := T2.get
    have T2' := T2
    refine Exists.elim T2 fun vs2 T => Exists.elim T fun vu2 T => Exists.elim T fun vl2 T => Exists.elim T fun vn2 T => Exists.elim T fun vm2 T => Exists.elim T fun vid2 T => ?_
    have f2 := T.1
    have S2 := T.2
    clear T T2
    have X2 := S2.blk 0 rfl
    have v8 : σ1.vars.length = 8 := f2.1
    have hvs : Snap h2 (.own vid2 1 0 8 8) (.lst 1 (σ1.vars.map encI)) := Snap.flatN (S2.blk 6 rfl) (by rw [List.length_map]; exact f2.1) (flat_encI _)
    have fin : ∀ (h3 : Heap) (bx : It), TrX h3 X must task tail rd at_ (stepT must task tail rd at_ s σ1) (bx :: L) → KeepX must task tail rd at_ X (n1 + 1) (stepT must task tail rd at_ s σ1) L h3 := fun h3 bx T3 => ⟨by omega, T3.drop⟩
    have cv : ∀ {h3 : Heap} {L' : List It} {σ' : TS}, stepT must task tail rd at_ s σ1 = σ' → TrX h3 X must task tail rd at_ σ' L' → TrX h3 X must task tail rd at_ (stepT must task tail rd at_ s σ1) L' := fun q T => by rw [q]; exact T
    have hlen2 : (σ1.add [⟨costK s.kind, -1, 0⟩]).steps.length ≤ 5 * n1 + 1 := by simp [TS.add]; omega
    rcases hkk with h1 | h1 | h1
    · have hx : hasExpr s.kind = true := by simp [hasExpr, h1]
      have hv : hasVar s.kind = true := by simp [hasVar, h1]
      have hsv := stmt_var hs hv
      have hex := stmt_expr hs hx
      have he := exprOk_facts hex
      have he1 : stepT must task tail rd at_ s σ1 = assignT must task tail s.var (evalE σ1.vars s.e) (σ1.add [⟨costK s.kind, -1, 0⟩]) := if_pos h1
      simp (disch := omega) only [go_sem, e0, e1, e3, e8, B2, X2]
      refine CP.goS (eval_s σ1.vars s.e (by omega) (by omega) (by omega) (by omega)) rfl rfl (.cons hvs (.cons (.same _ (by rfl)) (.nil _))) ?_
      simp (disch := omega) only [go_sem, e0, e1, e3, e8, B2, X2]
      refine C.go (assignX_c s.var (evalE σ1.vars s.e) T2' (by omega) (by show σ1.logged.length ≤ _; omega) hm (by omega) (evalE_value f2.2 f2.1 hex)) ?_
      rintro r0 h3 ⟨rfl, T3⟩
      rw [← he1] at T3
      simp (disch := omega) only [go_sem, e0, e1, e3, e8]
      exact nxt _ _ (k + 1) r (n1 + 1) _ (by omega) (by omega) hr' (by omega) hd1 (by omega) hrun (by simp (disch := omega) only [go_sem, e0, e1, e3, e8]) (by simp (disch := omega) only [go_sem, e0, e1, e3, e8]) (by simp (disch := omega) only [go_sem, e0, e1, e3, e8]) (by simp (disch := omega) only [go_sem, e0, e1, e3, e8]; rfl) (fin _ _ T3)
    · have hv : hasVar s.kind = true := by simp [hasVar, h1]
      have hsv := stmt_var hs hv
      have he1 : stepT must task tail rd at_ s σ1 = assignT must task tail s.var (readM rd s.n (at_ + σ1.used.length)) { σ1.add [⟨costK s.kind, -1, 0⟩] with used := σ1.used ++ [readM rd s.n (at_ + σ1.used.length)] } := (if_neg (by omega)).trans (if_pos h1)
      simp (disch := omega) only [go_sem, e0, e1, e3, e8, B2, X2]
      refine C.go (senseX_c s.n T2' (by show σ1.used.length ≤ _; omega) hr ha) ?_
      rintro r0 h3 ⟨rfl, T3⟩
      have B3 := T3.get
      simp (disch := omega) only [go_sem, e0, e1, e3, e8, B2, B3]
      refine C.go (assignX_c s.var (readM rd s.n (at_ + σ1.used.length)) T3 (by show (σ1.add [⟨costK s.kind, -1, 0⟩]).steps.length ≤ _; omega) (by show σ1.logged.length ≤ _; omega) hm (by omega) (readM_value _ _ _)) ?_
      rintro r0 h4 ⟨rfl, T4⟩
      have T4' := cv he1 T4
      simp (disch := omega) only [go_sem, e0, e1, e3, e8]
      exact nxt _ _ (k + 1) r (n1 + 1) _ (by omega) (by omega) hr' (by omega) hd1 (by omega) hrun (by simp (disch := omega) only [go_sem, e0, e1, e3, e8]) (by simp (disch := omega) only [go_sem, e0, e1, e3, e8]) (by simp (disch := omega) only [go_sem, e0, e1, e3, e8]) (by simp (disch := omega) only [go_sem, e0, e1, e3, e8]; rfl) (fin _ _ T4')
    · have hx : hasExpr s.kind = true := by simp [hasExpr, h1]
      have hex := stmt_expr hs hx
      have he := exprOk_facts hex
      have he1 : stepT must task tail rd at_ s σ1 = sendT tail (evalE σ1.vars s.e) (σ1.add [⟨costK s.kind, -1, 0⟩]) := (if_neg (by omega)).trans ((if_neg (by omega)).trans (if_pos h1))
      have zn := S2.vv 4 rfl
      have hsl : (σ1.add [⟨costK s.kind, -1, 0⟩]).sent.length ≤ n1 := hb.2.2.1
      have lenn := fun G => (S2.lst 4 rfl).elim fun i o => o.len_ G
      simp only [List.length_map] at lenn
      simp (disch := omega) only [go_sem, e0, e1, e3, e8, B2, X2, zn.1, zn.2.1, zn.2.2, lenn]
      refine CP.goS (eval_s σ1.vars s.e (by omega) (by omega) (by omega) (by omega)) rfl rfl (.cons hvs (.cons (.same _ (by rfl)) (.nil _))) ?_
      refine Exists.elim ((S2.pull 4).pushS (bytes := 8) [.int .i64 (evalE σ1.vars s.e)] rfl (by simp [TS.add]; omega)) fun v' q => Exists.elim q fun h3 q => ?_
      have hap := q.1
      have S3 := q.2
      clear q
      rw [show (σ1.add [⟨costK s.kind, -1, 0⟩]).sent.map encI ++ [[V.int .i64 (evalE σ1.vars s.e)]] = (σ1.sent ++ [evalE σ1.vars s.e]).map encI by simp [encI, TS.add]] at S3
      have z3 := S3.vv 0 rfl
      have X3 := S3.blk 1 rfl
      have S4 := (S3.pull 1).setK [[.own vid2 1 0 8 8, v', vu2, .nils, .lst 1 (rd.map encI), .int .i64 at_, .bool true, vs2, vm2, vl2, .int .i64 task, .int .i64 tail]]
      have T4 := TrX.mk (σ := { σ1.add [⟨costK s.kind, -1, 0⟩] with sent := σ1.sent ++ [evalE σ1.vars s.e] }) (must := must) f2 (S4.pk (A := [_, _, _, _, _, _, _]) [0, 2, 3, 4, 1, 5, 6] rfl)
      simp (disch := omega) only [go_sem, e0, e1, e3, e8, B2, X2, zn.1, zn.2.1, zn.2.2, lenn, hap, z3.1, z3.2.1, z3.2.2, X3, storeH, storeB, splice]
      refine condP_dec (fun h24 => ?_) (fun h24 => ?_)
      · simp (disch := omega) only [go_sem, e0, e1, e3, e8]
        refine C.go (writeX_c (25 + (tail + (σ1.add [⟨costK s.kind, -1, 0⟩]).sent.length)) (evalE σ1.vars s.e) T4 (by show (σ1.add [⟨costK s.kind, -1, 0⟩]).steps.length ≤ _; omega)) ?_
        rintro r0 h5 ⟨rfl, T5⟩
        have he2 := he1
        rw [sendT, if_pos h24] at he2
        have T5' := cv he2 T5
        simp (disch := omega) only [go_sem, e0, e1, e3, e8]
        exact nxt _ _ (k + 1) r (n1 + 1) _ (by omega) (by omega) hr' (by omega) hd1 (by omega) hrun (by simp (disch := omega) only [go_sem, e0, e1, e3, e8]) (by simp (disch := omega) only [go_sem, e0, e1, e3, e8]) (by simp (disch := omega) only [go_sem, e0, e1, e3, e8]) (by simp (disch := omega) only [go_sem, e0, e1, e3, e8]; rfl) (fin _ _ T5')
      · have he2 := he1
        rw [sendT, if_neg h24] at he2
        have T5' := cv he2 T4
        simp (disch := omega) only [go_sem, e0, e1, e3, e8]
        exact nxt _ _ (k + 1) r (n1 + 1) _ (by omega) (by omega) hr' (by omega) hd1 (by omega) hrun (by simp (disch := omega) only [go_sem, e0, e1, e3, e8]) (by simp (disch := omega) only [go_sem, e0, e1, e3, e8]) (by simp (disch := omega) only [go_sem, e0, e1, e3, e8]) (by simp (disch := omega) only [go_sem, e0, e1, e3, e8]; rfl) (fin _ _ T5')
  · obtain ⟨hs, hkk, hb', hr'⟩ := Tr.grp_ok hro
    simp only [Tr.flat, List.cons_append, List.append_assoc] at hdk
    simp only [Tr.flat, List.length_cons, List.length_append] at hkr
    simp only [Tr.size] at hrs
    simp only [cntT] at hc
    simp only [runG] at hrun
    refine Exists.elim (drop_head hdk) fun hk0 z => ?_
    have hks := z.1
    have hd1 := z.2
    have hd2 := drop_skip hd1
    refine Exists.elim (drop_head hd2) fun hk3 z => ?_
    have hd4 := z.2
    have hg : ∀ h : k < xs.length, xs[k] = s := fun _ => hks
    have hen : endM 0 k (xs.drop k) = (k : Int) + 1 + b.flat.length := by rw [hdk]; exact endM_grp k _ hkk hb'
    have hb := K1.1
    have hz := storeBox (h := hp) (z := [V.int .i64 0, .int .i64 0, .int .i64 0, .int .i64 0, .int .i64 0, .int .i64 0]) (x := .agg (encStmt s)) (sz := 6) rfl rfl
    simp only [cells_agg, encStmt] at hz
    have T1 := K1.2.new [encStmt s]
    have B1 := T1.get
    simp only [encStmt] at T1 B1
    have bd := stepT_bd must task tail rd at_ s σ1
    have k6 : s.kind ≠ 6 := by omega
    have he1 : stepT must task tail rd at_ s σ1 = σ1.add [⟨costK s.kind, -1, 0⟩] := (if_neg (by omega)).trans ((if_neg (by omega)).trans (if_neg (by omega)))
    simp (disch := omega) only [go_sem, e0, e1, e3, e8, hg, hz, B1, encStmt]
    refine CP.go (cost_s s) rfl rfl ?_
    simp (disch := omega) only [go_sem, e0, e1, e3, e8, hg, hz, B1]
    refine C.go (stepX_c (costK s.kind) T1 (by omega)) ?_
    rintro r0 h2 ⟨rfl, T2⟩
    have B2 := T2.get
    have T2' := T2
    refine Exists.elim T2 fun vs2 T => Exists.elim T fun vu2 T => Exists.elim T fun vl2 T => Exists.elim T fun vn2 T => Exists.elim T fun vm2 T => Exists.elim T fun vid2 T => ?_
    have f2 := T.1
    have S2 := T.2
    clear T T2
    have X2 := S2.blk 0 rfl
    have v8 : σ1.vars.length = 8 := f2.1
    have hvs : Snap h2 (.own vid2 1 0 8 8) (.lst 1 (σ1.vars.map encI)) := Snap.flatN (S2.blk 6 rfl) (by rw [List.length_map]; exact f2.1) (flat_encI _)
    have hrd := rounds_le (b := holdT s σ1) hs hkk
    refine Exists.elim (show ∃ c, c = rounds s (holdT s σ1) from ⟨_, rfl⟩) fun c hce => ?_
    rw [← hce] at hrd hrun
    have K2 : KeepX must task tail rd at_ X (n1 + 1) (stepT must task tail rd at_ s σ1) L h2 := ⟨by omega, by rw [he1]; exact T2'.drop⟩
    simp (disch := omega) only [go_sem, e0, e1, e3, e8, B2, X2]
    refine condP_dec (fun h4 => ?_) (fun h4 => ?_)
    case' refine_1 =>
      have hcb := hrd.2.2 h4
      have hh : holdT s σ1 = !decide (evalE σ1.vars s.e = 0) := if_pos h4
      have hx : hasExpr s.kind = true := by simp [hasExpr, h4]
      have hex := stmt_expr hs hx
      have he := exprOk_facts hex
      simp (disch := omega) only [go_sem, e0, e1, e3, e8, B2, X2]
      refine CP.go (end_s xs k (by omega) (by omega)) rfl (refs_args _ _ _) ?_
      simp (disch := omega) only [go_sem, e0, e1, e3, e8, B2, X2, hen]
      refine CP.goS (eval_s σ1.vars s.e (by omega) (by omega) (by omega) (by omega)) rfl rfl (.cons hvs (.cons (.same _ (by rfl)) (.nil _))) ?_
      simp (disch := omega) only [go_sem, e0, e1, e3, e8, B2, X2]
      refine CP.go (bit_s _) rfl rfl ?_
      rw [hh] at hcb
      simp (disch := omega) only [go_sem, e0, e1, e3, e8, B2, X2, hcb.symm]
    case' refine_2 =>
      have hcb := hrd.2.1 (by omega)
      simp (disch := omega) only [go_sem, e0, e1, e3, e8, B2, X2]
      refine CP.go (end_s xs k (by omega) (by omega)) rfl (refs_args _ _ _) ?_
      simp (disch := omega) only [go_sem, e0, e1, e3, e8, B2, X2, hen, hcb.symm]
    all_goals
      refine loopP_intro (fun m s' => ∃ (j n' : Nat) (σ' : TS), j ≤ c ∧ m = c - j ∧ n' ≤ n1 + 1 + j * cntT b ∧ σ' = itN (fun x => runG (stepT must task tail rd at_) holdT b x) j (stepT must task tail rd at_ s σ1) ∧ s'.e 0 = .ptr X 1 0 0 ∧ s'.e 1 = .lst 6 (xs.map encStmt) ∧ s'.e 3 = .int .i64 ((a : Int) + t.flat.length) ∧ s'.e 8 = .int .i64 k ∧ s'.e 12 = .int .i64 ((k : Int) + 1 + b.flat.length) ∧ s'.e 13 = .int .i64 c ∧ s'.e 14 = .int .i64 j ∧ KeepX must task tail rd at_ X n' σ' L s'.h) c ⟨0, n1 + 1, _, by omega, by omega, by omega, rfl, by simp (disch := omega) only [go_sem, e0, e1, e3, e8, B2, X2], by simp (disch := omega) only [go_sem, e0, e1, e3, e8, B2, X2], by simp (disch := omega) only [go_sem, e0, e1, e3, e8, B2, X2], by simp (disch := omega) only [go_sem, e0, e1, e3, e8, B2, X2], by simp (disch := omega) only [go_sem, e0, e1, e3, e8, B2, X2], by simp (disch := omega) only [go_sem, e0, e1, e3, e8, B2, X2], by simp (disch := omega) only [go_sem, e0, e1, e3, e8, B2, X2] <;> rfl, K2⟩ ?_
      clear e0 e1 e3 e8 K1 T1 B1 T2' S2 X2 hvs B2 K2 hcb h4 f2
      intro m e hp P
      refine Exists.elim P fun j P => Exists.elim P fun n2 P => Exists.elim P fun σ2 P => ?_
      have hj := P.1
      have hm' := P.2.1
      have hn2 := P.2.2.1
      have hst := P.2.2.2.1
      have e0 := P.2.2.2.2.1
      have e1 := P.2.2.2.2.2.1
      have e3 := P.2.2.2.2.2.2.1
      have e8 := P.2.2.2.2.2.2.2.1
      have e12 := P.2.2.2.2.2.2.2.2.1
      have e13 := P.2.2.2.2.2.2.2.2.2.1
      have e14 := P.2.2.2.2.2.2.2.2.2.2.1
      have K3 := P.2.2.2.2.2.2.2.2.2.2.2
      clear P
      subst hm'
      simp only at e0 e1 e3 e8 e12 e13 e14 K3
      have hj5 : (j + 1) * cntT b ≤ 5 * cntT b ∨ c ≤ j := by
        rcases Nat.lt_or_ge j c with h | h
        · exact .inl (Nat.mul_le_mul_right _ (by omega))
        · exact .inr h
      rw [Nat.add_mul] at hj5
      have hk1' : (k : Int) + 1 = ((k + 1 : Nat) : Int) := by omega
      have hk2' : (k : Int) + 1 + b.flat.length = ((k + 1 : Nat) : Int) + b.flat.length := by omega
      simp (disch := omega) only [go_sem, e0, e1, e3, e8, e12, e13, e14]
      refine condP_dec (fun hjc => ?_) (fun hjc => ?_)
      · simp (disch := omega) only [go_sem, e0, e1, e3, e8, e12, e13, e14]
        refine C.go (ih b (by omega) xs (k + 1) _ _ (endS :: (r.flat ++ v)) n2 σ2 L hp hk1' hk2' hb' hd1 hl (by omega) K3) ?_
        intro r4 h4 P
        have hr4 := P.1
        refine Exists.elim P.2 fun n3 P => ?_
        have hn3 := P.1
        have K4 := P.2
        clear P
        subst hr4
        simp (disch := omega) only [go_sem, e0, e1, e3, e8, e12, e13, e14]
        refine nextP_intro (c - (j + 1)) (by omega) ⟨j + 1, n3, _, by omega, rfl, by rw [Nat.add_mul]; omega, by rw [itN_succ, hst], by simp (disch := omega) only [go_sem, e0, e1, e3, e8, e12, e13, e14], by simp (disch := omega) only [go_sem, e0, e1, e3, e8, e12, e13, e14], by simp (disch := omega) only [go_sem, e0, e1, e3, e8, e12, e13, e14], by simp (disch := omega) only [go_sem, e0, e1, e3, e8, e12, e13, e14], by simp (disch := omega) only [go_sem, e0, e1, e3, e8, e12, e13, e14], by simp (disch := omega) only [go_sem, e0, e1, e3, e8, e12, e13, e14], by simp (disch := omega) only [go_sem, e0, e1, e3, e8, e12, e13, e14] <;> rfl, K4⟩
      · have hjc' : j = c := by omega
        subst hjc'
        have hcc : j * cntT b ≤ 5 * cntT b := Nat.mul_le_mul_right _ (by omega)
        simp (disch := omega) only [go_sem, e0, e1, e3, e8, e12, e13, e14]
        exact nxt _ _ (k + 1 + b.flat.length + 1) r n2 σ2 (by omega) (by omega) hr' (by omega) hd4 (by omega) (by rw [hst]; exact hrun) (by simp (disch := omega) only [go_sem, e0, e1, e3, e8, e12, e13, e14]) (by simp (disch := omega) only [go_sem, e0, e1, e3, e8, e12, e13, e14]) (by simp (disch := omega) only [go_sem, e0, e1, e3, e8, e12, e13, e14]) (by simp (disch := omega) only [go_sem, e0, e1, e3, e8, e12, e13, e14]; exact congrArg (V.int .i64) (by omega)) K3
theorem execS_c {must : List Int} {task tail : Int} {rd : List Int} {at_ : Int} {X : Nat} (hm : must.length ≤ 1048576) (ht : 0 ≤ tail ∧ tail ≤ 24) (hr : rd.length ≤ 9223372036854775807) (ha : 0 ≤ at_ ∧ at_ ≤ 1000000) (t : Tr) : ExecS must task tail rd at_ X t := by
  induction hn : t.size using Nat.strongRecOn generalizing t with
  | ind n ih => exact execS_step hm ht hr ha n (fun b hb => ih b.size hb b rfl) t (by omega)
end Go.Av

namespace Go.Av
open Go.Proofs Go.RowKit
set_option linter.unusedVariables false
set_option linter.unusedSimpArgs false
set_option maxRecDepth 100000
set_option maxHeartbeats 4000000
theorem gtI_set {m : List Int} {i k : Nat} {v : Int} (hi : i < m.length) : gtI (m.set i v) k = if i = k then v else gtI m k := by
  unfold gtI
  by_cases h : i = k
  · rw [if_pos h, ← h, List.getElem?_set_self hi]; rfl
  · rw [if_neg h, List.getElem?_set_ne h]
structure MemV (n : Nat) (m : List Int) (t c l : Int) : Prop where
  len : m.length = 49
  vars : ∀ k, k < 8 → isValue (gtI m k) = true
  ctl : unpackM (gtI m 8) = (t, c, l)
  t0 : 0 ≤ t
  t1 : t < n
  c0 : 0 ≤ c
  c1 : c ≤ 8
  l0 : 0 ≤ l
  l1 : l ≤ 24
  log : ∀ j, j < c.toNat → logOk m j = true
  box : ∀ j, j < l.toNat → isValue (gtI m (25 + j)) = true
theorem vals_at {m : List Int} {a b : Nat} (h : ∀ j, a ≤ j → j < b → isValue (gtI m j) = true) (hb : b ≤ m.length) : vals ((m.take b).drop a) = true := vals_iff.2 fun z hz => by
  obtain ⟨j, hj, rfl⟩ := List.getElem_of_mem hz
  simp only [List.length_drop, List.length_take] at hj
  have := h (a + j) (by omega) (by omega)
  rw [← gtI_get (zs := m) (by omega)] at this
  simpa using this
theorem at_vals {m : List Int} {a b : Nat} (h : vals ((m.take b).drop a) = true) (hb : b ≤ m.length) {j : Nat} (h1 : a ≤ j) (h2 : j < b) : isValue (gtI m j) = true := by
  refine vals_iff.1 h _ ?_
  rw [← gtI_get (zs := m) (by omega)]
  have hlt : j - a < ((m.take b).drop a).length := by simp; omega
  have : ((m.take b).drop a)[j - a] = m[j] := by simp [show a + (j - a) = j by omega]
  rw [← this]; exact List.getElem_mem _
theorem MemV.ok {ts : List Task} {m : List Int} {t c l : Int} (hp : programOk ts = true) (h : MemV ts.length m t c l) : memOkM ts m = true := by
  have hl := h.len
  have l0 := h.l0
  have l1 := h.l1
  have v8 : vals (m.take 8) = true := by
    have := vals_at (m := m) (a := 0) (b := 8) (fun j _ hj => h.vars j hj) (by omega)
    simpa using this
  have vb : vals ((m.take (25 + l).toNat).drop 25) = true := vals_at (fun j h1 h2 => by
    have := h.box (j - 25) (by omega)
    rwa [show 25 + (j - 25) = j by omega] at this) (by omega)
  simp only [memOkM, h.ctl, hp, hl, v8, vb, h.t0, h.t1, log_all h.log, decide_true, Bool.and_self]
theorem memOk_V {ts : List Task} {m : List Int} (h : memOkM ts m = true) : MemV ts.length m (unpackM (gtI m 8)).1 (unpackM (gtI m 8)).2.1 (unpackM (gtI m 8)).2.2 := by
  have f := memOk_facts h
  have b := unpackM_bd (gtI m 8)
  have b0 := f.2.2.2.1.1
  refine ⟨f.2.1, fun k hk => ?_, rfl, f.2.2.2.1.1, f.2.2.2.1.2, by omega, by omega, by omega, by omega, f.2.2.2.2.2, fun j hj => ?_⟩
  · exact at_vals (a := 0) (b := 8) (by simpa using f.2.2.1) (by rw [f.2.1]; omega) (Nat.zero_le _) hk
  · exact at_vals f.2.2.2.2.1 (by rw [f.2.1]; omega) (by omega) (by omega)
theorem MemV.T {n : Nat} {m : List Int} {t c l : Int} (h : MemV n m t c l) : MemT n m t c l := by
  have hl := h.len
  refine ⟨h.len, fun z hz => ?_, h.t0, h.t1, h.l0, h.l1, h.ctl⟩
  obtain ⟨j, hj, rfl⟩ := List.getElem_of_mem hz
  simp only [List.length_take] at hj
  have := h.vars j (by omega)
  rw [← gtI_get (zs := m) (by omega)] at this
  simpa using this
section
variable {n : Nat} {m : List Int} {t c l : Int}
theorem MemV.put (h : MemV n m t c l) (i : Nat) (v : Int) (hi : i < 49) (h8 : i ≠ 8) (hv : i < 8 → isValue v = true) (hlog : 9 ≤ i → i < 25 → 9 + 2 * c ≤ i) (hbox : 25 ≤ i → 25 + l ≤ i) : MemV n (m.set i v) t c l := by
  have hl := h.len
  have hg : ∀ k, gtI (m.set i v) k = if i = k then v else gtI m k := fun k => gtI_set (by omega)
  refine ⟨by simpa using hl, fun k hk => ?_, by rw [hg, if_neg h8]; exact h.ctl, h.t0, h.t1, h.c0, h.c1, h.l0, h.l1, fun j hj => ?_, fun j hj => ?_⟩
  · rw [hg]
    split
    · exact hv (by omega)
    · exact h.vars k hk
  · have q := h.log j hj
    have c1 := h.c1
    unfold logOk at q ⊢
    rw [hg, hg, if_neg (by intro e; have := hlog (by omega) (by omega); omega), if_neg (by intro e; have := hlog (by omega) (by omega); omega)]
    exact q
  · rw [hg, if_neg (by intro e; have := hbox (by omega); omega)]
    exact h.box j hj
theorem MemV.ctlSet (h : MemV n m t c l) (t' c' l' : Int) (ht : 0 ≤ t' ∧ t' < n) (ht5 : t' ≤ 5) (hc : 0 ≤ c' ∧ c' ≤ 8) (hl' : 0 ≤ l' ∧ l' ≤ 24) (hlog : ∀ j, j < c'.toNat → logOk m j = true) (hbox : ∀ j, j < l'.toNat → isValue (gtI m (25 + j)) = true) : MemV n (m.set 8 (packM t' c' l')) t' c' l' := by
  have hl := h.len
  have hg : ∀ k, gtI (m.set 8 (packM t' c' l')) k = if 8 = k then packM t' c' l' else gtI m k := fun k => gtI_set (by omega)
  refine ⟨by simpa using hl, fun k hk => ?_, ?_, ht.1, ht.2, hc.1, hc.2, hl'.1, hl'.2, fun j hj => ?_, fun j hj => ?_⟩
  · rw [hg, if_neg (by omega)]; exact h.vars k hk
  · rw [hg, if_pos rfl]; exact unpack_pack ⟨ht.1, ht5⟩ hc hl'
  · have q := hlog j hj
    unfold logOk at q ⊢
    rw [hg, hg, if_neg (by omega), if_neg (by omega)]; exact q
  · rw [hg, if_neg (by omega)]; exact hbox j hj
end
theorem must_in {tk : Task} {k : Int} (h : k ∈ mustOf tk) : 0 ≤ k ∧ k ≤ 7 := by
  have h1 := (List.mem_filter.1 (show k ∈ (mayL (treeOf tk.body).flat).filter _ from h)).1
  have := (mem_canon.1 h1).1
  omega
theorem must_len (tk : Task) : (mustOf tk).length ≤ 8 := log_len _ _
theorem recover_V {n : Nat} {t c l : Int} (ht5 : t ≤ 5) : ∀ (ws : List Wr) (b : BT), MemV n b.mem t c l → (∀ w ∈ ws, (0 ≤ w.at_ ∧ w.at_ ≤ 7) ∧ isValue w.val = true) → 0 ≤ b.left →
    ((recoverM (ws ++ [⟨8, packM t 0 l⟩]) b).1 = true → MemV n (recoverM (ws ++ [⟨8, packM t 0 l⟩]) b).2.mem t 0 l ∧ (recoverM (ws ++ [⟨8, packM t 0 l⟩]) b).2.left = b.left - 3 * (ws.length + 1)) ∧
    ((recoverM (ws ++ [⟨8, packM t 0 l⟩]) b).1 = false → MemV n (recoverM (ws ++ [⟨8, packM t 0 l⟩]) b).2.mem t c l) ∧
    (recoverM (ws ++ [⟨8, packM t 0 l⟩]) b).2.used = b.used ∧ (recoverM (ws ++ [⟨8, packM t 0 l⟩]) b).2.at_ = b.at_ ∧ 0 ≤ (recoverM (ws ++ [⟨8, packM t 0 l⟩]) b).2.left ∧ (recoverM (ws ++ [⟨8, packM t 0 l⟩]) b).2.left ≤ b.left ∧
    (3 * ((ws.length : Int) + 1) ≤ b.left → (recoverM (ws ++ [⟨8, packM t 0 l⟩]) b).1 = true)
  | [], b, h, _, hl => by
    simp only [List.nil_append, recoverM]
    split
    · rename_i h3
      refine ⟨(fun q => by cases q), fun _ => h, rfl, rfl, hl, Int.le_refl _, (fun q => by simp at q; omega)⟩
    · rename_i h3
      refine ⟨fun _ => ⟨?_, by simp⟩, (fun q => by cases q), rfl, rfl, by show 0 ≤ b.left - 3; omega, by show b.left - 3 ≤ _; omega, fun _ => rfl⟩
      exact h.ctlSet t 0 l ⟨h.t0, h.t1⟩ ht5 (by omega) ⟨h.l0, h.l1⟩ (fun j hj => absurd hj (by simp)) h.box
  | w :: ws, b, h, hw, hl => by
    simp only [List.cons_append, recoverM]
    split
    · rename_i h3
      refine ⟨(fun q => by cases q), fun _ => h, rfl, rfl, hl, Int.le_refl _, (fun q => by simp at q; omega)⟩
    · rename_i h3
      have w0 := hw w (by simp)
      have h' : MemV n (b.mem.set w.at_.toNat w.val) t c l := h.put w.at_.toNat w.val (by omega) (by omega) (fun _ => w0.2) (fun q => by omega) (fun q => by omega)
      have ih := recover_V ht5 ws { b with left := b.left - 3, mem := b.mem.set w.at_.toNat w.val } h' (fun x hx => hw x (by simp [hx])) (by show 0 ≤ b.left - 3; omega)
      refine ⟨fun q => ⟨(ih.1 q).1, ?_⟩, ih.2.1, ih.2.2.1, ih.2.2.2.1, ih.2.2.2.2.1, ?_, fun q => ih.2.2.2.2.2.2 ?_⟩
      · rw [(ih.1 q).2]; simp only [List.length_cons]; push_cast; omega
      · have := ih.2.2.2.2.2.1
        simp only at this
        omega
      · simp only [List.length_cons] at q
        push_cast at q
        show _ ≤ b.left - 3
        omega
def applyS (ms : List Micro) (m : List Int) : List Int := ms.foldl (fun m x => if x.at_ = -1 then m else m.set x.at_.toNat x.val) m
theorem applyS_app (a b : List Micro) (m : List Int) : applyS (a ++ b) m = applyS b (applyS a m) := List.foldl_append ..
def Pre (m0 : List Int) (Q : List Int → Prop) (ms : List Micro) : Prop := ∀ k, Q (applyS (ms.take k) m0)
theorem Pre.add {m0 : List Int} {Q : List Int → Prop} {a b : List Micro} (h : Pre m0 Q a) (hb : ∀ k, Q (applyS (b.take k) (applyS a m0))) : Pre m0 Q (a ++ b) := fun k => by
  rcases Nat.lt_or_ge k a.length with q | q
  · rw [List.take_append_of_le_length (by omega)]; exact h k
  · have : (a ++ b).take k = a ++ b.take (k - a.length) := by
      rw [List.take_append, List.take_of_length_le q]
    rw [this, applyS_app]; exact hb _
theorem Pre.one {Q : List Int → Prop} {m : List Int} {x : Micro} (h0 : Q m) (h1 : Q (applyS [x] m)) : ∀ k, Q (applyS ([x].take k) m)
  | 0 => h0
  | k + 1 => by simpa using h1
structure JT (n : Nat) (must m0 : List Int) (task tail : Int) (σ : TS) : Prop where
  pre : Pre m0 (fun m => ∃ c : Int, c ≤ must.length ∧ MemV n m task c tail) σ.steps
  now : MemV n (applyS σ.steps m0) task σ.logged.length tail
  lg : LogIn must σ
  v8 : σ.vars.length = 8
  val : ∀ z ∈ σ.vars, isValue z = true
  box : ∀ j, j < σ.sent.length → tail + j < 24 → isValue (gtI (applyS σ.steps m0) (25 + (tail.toNat + j))) = true
  ins : ∀ x ∈ σ.steps, StepIn x
theorem JT.cnt {n : Nat} {must m0 : List Int} {task tail : Int} {σ : TS} (J : JT n must m0 task tail σ) : σ.logged.length ≤ must.length := nodup_len _ _ J.lg.1 J.lg.2
theorem JT.work {n : Nat} {must m0 : List Int} {task tail : Int} {σ : TS} (J : JT n must m0 task tail σ) {c : Int} (hc : 1 ≤ c ∧ c ≤ 5) : JT n must m0 task tail (σ.add [⟨c, -1, 0⟩]) := by
  have e : applyS (σ.steps ++ [⟨c, -1, 0⟩]) m0 = applyS σ.steps m0 := by rw [applyS_app]; rfl
  have q : ∃ c : Int, c ≤ must.length ∧ MemV n (applyS σ.steps m0) task c tail := ⟨_, by exact_mod_cast J.cnt, J.now⟩
  refine ⟨J.pre.add (Pre.one (Q := fun m => ∃ c : Int, c ≤ must.length ∧ MemV n m task c tail) q q), ?_, J.lg, J.v8, J.val, fun j hj h24 => ?_, fun x hx => ?_⟩
  · show MemV n (applyS (σ.steps ++ [⟨c, -1, 0⟩]) m0) task _ tail
    rw [e]; exact J.now
  · show isValue (gtI (applyS (σ.steps ++ [⟨c, -1, 0⟩]) m0) _) = true
    rw [e]; exact J.box j hj h24
  · rcases List.mem_append.1 hx with w | w
    · exact J.ins x w
    · rw [List.mem_singleton.1 w]; exact ⟨hc, .inl rfl⟩
theorem apply1 (a v : Int) (m : List Int) (h : 0 ≤ a) : applyS [⟨3, a, v⟩] m = m.set a.toNat v := by
  show (if a = -1 then m else m.set a.toNat v) = _
  rw [if_neg (by omega)]
theorem JT.write {n : Nat} {must m0 : List Int} {task tail : Int} {σ : TS} (J : JT n must m0 task tail σ) {a v : Int} (ha : 0 ≤ a ∧ a ≤ 48) (h8 : a ≠ 8) (hv : a < 8 → isValue v = true) (hlog : 9 ≤ a → a < 25 → 9 + 2 * σ.logged.length ≤ a) (hbox : 25 ≤ a → 25 + (tail + σ.sent.length) ≤ a) : JT n must m0 task tail (σ.add [⟨3, a, v⟩]) := by
  have M : MemV n ((applyS σ.steps m0).set a.toNat v) task σ.logged.length tail := J.now.put a.toNat v (by omega) (by omega) (fun q => hv (by omega)) (fun q1 q2 => by have := hlog (by omega) (by omega); omega) (fun q => by have := hbox (by omega); omega)
  have e : applyS (σ.steps ++ [⟨3, a, v⟩]) m0 = (applyS σ.steps m0).set a.toNat v := by rw [applyS_app, apply1 a v _ ha.1]
  have t0 := J.now.l0
  have hl := J.now.len
  refine ⟨J.pre.add (Pre.one (Q := fun m => ∃ c : Int, c ≤ must.length ∧ MemV n m task c tail) ⟨_, by exact_mod_cast J.cnt, J.now⟩ (by rw [apply1 a v _ ha.1]; exact ⟨_, by exact_mod_cast J.cnt, M⟩)), ?_, J.lg, J.v8, J.val, fun j hj h24 => ?_, fun x hx => ?_⟩
  · show MemV n (applyS (σ.steps ++ [⟨3, a, v⟩]) m0) task _ tail
    rw [e]; exact M
  · show isValue (gtI (applyS (σ.steps ++ [⟨3, a, v⟩]) m0) _) = true
    have hj' : j < σ.sent.length := hj
    rw [e, gtI_set (by omega), if_neg (by intro q; have := hbox (by omega); omega)]
    exact J.box j hj h24
  · rcases List.mem_append.1 hx with w | w
    · exact J.ins x w
    · rw [List.mem_singleton.1 w]; exact ⟨by simp, .inr ha⟩
theorem take3 {Q : List Int → Prop} {m : List Int} {x y z : Micro} (h0 : Q m) (h1 : Q (applyS [x] m)) (h2 : Q (applyS [x, y] m)) (h3 : Q (applyS [x, y, z] m)) : ∀ k, Q (applyS ([x, y, z].take k) m)
  | 0 => h0
  | 1 => h1
  | 2 => h2
  | k + 3 => by simpa using h3
theorem JT.log {n : Nat} {must m0 : List Int} {task tail k : Int} {σ : TS} (J : JT n must m0 task tail σ) (h5 : task ≤ 5) (hm : ∀ k ∈ must, 0 ≤ k ∧ k ≤ 7) (hm8 : must.length ≤ 8) : JT n must m0 task tail (logA must task tail k σ) := by
  unfold logA
  split
  · rename_i hk
    have kb := hm k hk.1
    have hl := J.now.len
    have hN : σ.logged.length + 1 ≤ must.length := by
      have := nodup_len (σ.logged ++ [k]) must (by
        rw [List.nodup_append]
        refine ⟨J.lg.1, by simp, fun a ha b hb e => ?_⟩
        rw [List.mem_singleton.1 hb] at e
        rw [e] at ha; exact hk.2 ha) (fun x hx => by
        rcases List.mem_append.1 hx with w | w
        · exact J.lg.2 x w
        · rw [List.mem_singleton.1 w]; exact hk.1)
      simpa using this
    have hold : isValue (gtI σ.vars k.toNat) = true := by
      have : k.toNat < σ.vars.length := by rw [J.v8]; omega
      rw [← gtI_get this]; exact J.val _ (List.getElem_mem this)
    have e1 : applyS [⟨3, 9 + 2 * σ.logged.length, k⟩] (applyS σ.steps m0) = (applyS σ.steps m0).set (9 + 2 * σ.logged.length) k := by
      rw [apply1 _ _ _ (by omega)]; congr 1
    have e2 : applyS [⟨3, 9 + 2 * σ.logged.length, k⟩, ⟨3, 9 + 2 * σ.logged.length + 1, gtI σ.vars k.toNat⟩] (applyS σ.steps m0) = ((applyS σ.steps m0).set (9 + 2 * σ.logged.length) k).set (9 + 2 * σ.logged.length + 1) (gtI σ.vars k.toNat) := by
      rw [show [(⟨3, 9 + 2 * σ.logged.length, k⟩ : Micro), ⟨3, 9 + 2 * σ.logged.length + 1, gtI σ.vars k.toNat⟩] = [⟨3, 9 + 2 * σ.logged.length, k⟩] ++ [⟨3, 9 + 2 * σ.logged.length + 1, gtI σ.vars k.toNat⟩] from rfl, applyS_app, e1, apply1 _ _ _ (by omega)]; congr 1
    have e3 : applyS [⟨3, 9 + 2 * σ.logged.length, k⟩, ⟨3, 9 + 2 * σ.logged.length + 1, gtI σ.vars k.toNat⟩, ⟨3, 8, packM task (σ.logged.length + 1) tail⟩] (applyS σ.steps m0) = (((applyS σ.steps m0).set (9 + 2 * σ.logged.length) k).set (9 + 2 * σ.logged.length + 1) (gtI σ.vars k.toNat)).set 8 (packM task (σ.logged.length + 1) tail) := by
      rw [show [(⟨3, 9 + 2 * σ.logged.length, k⟩ : Micro), ⟨3, 9 + 2 * σ.logged.length + 1, gtI σ.vars k.toNat⟩, ⟨3, 8, packM task (σ.logged.length + 1) tail⟩] = [⟨3, 9 + 2 * σ.logged.length, k⟩, ⟨3, 9 + 2 * σ.logged.length + 1, gtI σ.vars k.toNat⟩] ++ [⟨3, 8, packM task (σ.logged.length + 1) tail⟩] from rfl, applyS_app, e2, apply1 _ _ _ (by omega)]; rfl
    have M1 : MemV n ((applyS σ.steps m0).set (9 + 2 * σ.logged.length) k) task σ.logged.length tail := J.now.put _ k (by omega) (by omega) (fun q => by omega) (fun _ _ => by omega) (fun q => by omega)
    have M2 : MemV n (((applyS σ.steps m0).set (9 + 2 * σ.logged.length) k).set (9 + 2 * σ.logged.length + 1) (gtI σ.vars k.toNat)) task σ.logged.length tail := M1.put _ _ (by omega) (by omega) (fun q => by omega) (fun _ _ => by omega) (fun q => by omega)
    have hl1 := M1.len
    have g2 : ∀ j, gtI (((applyS σ.steps m0).set (9 + 2 * σ.logged.length) k).set (9 + 2 * σ.logged.length + 1) (gtI σ.vars k.toNat)) j = if 9 + 2 * σ.logged.length + 1 = j then gtI σ.vars k.toNat else if 9 + 2 * σ.logged.length = j then k else gtI (applyS σ.steps m0) j := fun j => by
      rw [gtI_set (by omega), gtI_set (by omega)]
    have M3 : MemV n ((((applyS σ.steps m0).set (9 + 2 * σ.logged.length) k).set (9 + 2 * σ.logged.length + 1) (gtI σ.vars k.toNat)).set 8 (packM task (σ.logged.length + 1) tail)) task (σ.logged.length + 1) tail := by
      refine M2.ctlSet task (σ.logged.length + 1) tail ⟨J.now.t0, J.now.t1⟩ h5 (by omega) ⟨J.now.l0, J.now.l1⟩ (fun j hj => ?_) M2.box
      by_cases e : j = σ.logged.length
      · unfold logOk
        rw [g2, g2, if_neg (by omega), if_pos (by omega), if_pos (by omega), hold]
        simp [isVar, within]; omega
      · exact M2.log j (by omega)
    have c0 : ((σ.logged.length : Nat) : Int) ≤ must.length := by omega
    refine ⟨J.pre.add (take3 (Q := fun m => ∃ c : Int, c ≤ must.length ∧ MemV n m task c tail) ⟨_, c0, J.now⟩ (by rw [e1]; exact ⟨_, c0, M1⟩) (by rw [e2]; exact ⟨_, c0, M2⟩) (by rw [e3]; exact ⟨_, by omega, M3⟩)), ?_, ⟨?_, fun x hx => ?_⟩, J.v8, J.val, fun j hj h24 => ?_, fun x hx => ?_⟩
    · simp only [applyS_app, e3, List.length_append, List.length_cons, List.length_nil]
      exact M3
    · rw [List.nodup_append]
      refine ⟨J.lg.1, by simp, fun a ha b hb e => ?_⟩
      rw [List.mem_singleton.1 hb] at e
      rw [e] at ha; exact hk.2 ha
    · rcases List.mem_append.1 hx with w | w
      · exact J.lg.2 x w
      · rw [List.mem_singleton.1 w]; exact hk.1
    · simp only [applyS_app, e3]
      rw [gtI_set (by have := M2.len; omega), if_neg (by omega), g2, if_neg (by omega), if_neg (by omega)]
      exact J.box j hj h24
    · rcases List.mem_append.1 hx with w | w
      · exact J.ins x w
      · simp only [List.mem_cons, List.not_mem_nil, or_false] at w
        rcases w with rfl | rfl | rfl
        · exact ⟨by simp, .inr (by simp only; omega)⟩
        · exact ⟨by simp, .inr (by simp only; omega)⟩
        · exact ⟨by simp, .inr (by simp)⟩
  · exact J
theorem JT.withVars {n : Nat} {must m0 : List Int} {task tail : Int} {σ : TS} (J : JT n must m0 task tail σ) (vs : List Int) (h8 : vs.length = 8) (hv : ∀ z ∈ vs, isValue z = true) : JT n must m0 task tail { σ with vars := vs } := ⟨J.pre, J.now, J.lg, h8, hv, J.box, J.ins⟩
theorem JT.withUsed {n : Nat} {must m0 : List Int} {task tail : Int} {σ : TS} (J : JT n must m0 task tail σ) (us : List Int) : JT n must m0 task tail { σ with used := us } := ⟨J.pre, J.now, J.lg, J.v8, J.val, J.box, J.ins⟩
theorem JT.assign {n : Nat} {must m0 : List Int} {task tail k v : Int} {σ : TS} (J : JT n must m0 task tail σ) (h5 : task ≤ 5) (hm : ∀ k ∈ must, 0 ≤ k ∧ k ≤ 7) (hm8 : must.length ≤ 8) (hk : 0 ≤ k ∧ k ≤ 7) (hv : isValue v = true) : JT n must m0 task tail (assignT must task tail k v σ) := by
  have J1 := J.log (k := k) h5 hm hm8
  have J2 := J1.write (a := k) (v := v) (by omega) (by omega) (fun _ => hv) (fun q => by omega) (fun q => by omega)
  exact J2.withVars _ (by simpa using J1.v8) (fun z hz => by
    rcases List.mem_or_eq_of_mem_set hz with q | q
    · exact J1.val z q
    · rw [q]; exact hv)
theorem JT.send {n : Nat} {must m0 : List Int} {task tail x : Int} {σ : TS} (J : JT n must m0 task tail σ) (hx : isValue x = true) : JT n must m0 task tail (sendT tail x σ) := by
  have t0 := J.now.l0
  have hl := J.now.len
  unfold sendT
  split
  · rename_i h
    have J1 := J.write (a := 25 + (tail + σ.sent.length)) (v := x) (by omega) (by omega) (fun q => by omega) (fun _ q => by omega) (fun _ => by omega)
    refine ⟨J1.pre, J1.now, J1.lg, J1.v8, J1.val, fun j hj h24 => ?_, J1.ins⟩
    simp only [List.length_append, List.length_cons, List.length_nil] at hj
    rcases Nat.lt_or_ge j σ.sent.length with q | q
    · exact J1.box j q h24
    · have e : j = σ.sent.length := by omega
      show isValue (gtI (applyS (σ.steps ++ [⟨3, 25 + (tail + σ.sent.length), x⟩]) m0) _) = true
      rw [applyS_app, apply1 _ _ _ (by omega), gtI_set (by omega), if_pos (by omega)]
      exact hx
  · rename_i h
    refine ⟨J.pre, J.now, J.lg, J.v8, J.val, fun j hj h24 => ?_, J.ins⟩
    simp only [List.length_append, List.length_cons, List.length_nil] at hj
    exact J.box j (by omega) h24
theorem JT.step {n : Nat} {must m0 : List Int} {task tail : Int} {rd : List Int} {at_ : Int} {s : Stmt} {σ : TS} (J : JT n must m0 task tail σ) (h5 : task ≤ 5) (hm : ∀ k ∈ must, 0 ≤ k ∧ k ≤ 7) (hm8 : must.length ≤ 8) (hs : stmtOk s = true) (h6 : s.kind ≠ 6) : JT n must m0 task tail (stepT must task tail rd at_ s σ) := by
  have hc := costK_pos hs h6
  have J0 := J.work (c := costK s.kind) ⟨hc, (costK_bd s.kind).2⟩
  unfold stepT
  split
  · rename_i h1
    have hsv := stmt_var hs (by simp [hasVar, h1])
    exact J0.assign h5 hm hm8 (by omega) (evalE_value J.val J.v8 (stmt_expr hs (by simp [hasExpr, h1])))
  split
  · rename_i h1
    have hsv := stmt_var hs (by simp [hasVar, h1])
    exact (J0.withUsed _).assign h5 hm hm8 (by omega) (readM_value _ _ _)
  split
  · rename_i h1
    exact J0.send (evalE_value J.val J.v8 (stmt_expr hs (by simp [hasExpr, h1])))
  · exact J0
theorem trace_V {ts : List Task} {m rd : List Int} {at_ task tail : Int} (hp : programOk ts = true) (hm : MemV ts.length m task 0 tail) :
    (∀ k, ∃ t c l, c ≤ ((mustOf (taskAt ts t)).length : Int) ∧ MemV ts.length (applyS ((traceS ts m rd at_ task tail).take k) m) t c l) ∧
    (∃ t l, MemV ts.length (applyS (traceS ts m rd at_ task tail) m) t 0 l) ∧ (∀ x ∈ traceS ts m rd at_ task tail, StepIn x) ∧ sumC (traceS ts m rd at_ task tail) ≤ taskB (taskAt ts task) ∧ (traceS ts m rd at_ task tail).length ≤ 9223372036854775807 := by
  have pf := prog_facts hp
  have htl : task.toNat < ts.length := by have := hm.t0; have := hm.t1; omega
  have hmem : taskAt ts task ∈ ts := by rw [← taskAt_eq htl]; exact List.getElem_mem _
  have htk := pf.2 _ hmem
  have hte := task_facts htk.1
  have htr := treeOf_ok hte.1
  have h5 : task ≤ 5 := by have := hm.t1; omega
  have hl := hm.len
  have hcost := trace_cost (m := m) (rd := rd) (at_ := at_) (tail := tail) htk.1
  have hpos := trace_pos (m := m) (rd := rd) (at_ := at_) (tail := tail) htk.1
  have hll := len_le_sum _ hpos
  have hTb := taskB_bd (taskAt ts task)
  have J0 : JT ts.length (mustOf (taskAt ts task)) m task tail ⟨m.take 8, [], [], [], []⟩ := by
    refine ⟨fun k => ⟨0, by omega, ?_⟩, ?_, ⟨.nil, by simp⟩, by simp; omega, fun z hz => hm.T.val z hz, fun j hj => absurd hj (by simp), by simp⟩
    · simpa [applyS] using hm
    · simpa [applyS] using hm
  have J : JT ts.length (mustOf (taskAt ts task)) m task tail (runT (taskAt ts task) task tail rd at_ (m.take 8)) :=
    run_inv (p := fun σ : TS => JT ts.length (mustOf (taskAt ts task)) m task tail σ) (fun s a hs h6 J => J.step h5 (fun k hk => must_in hk) (must_len _) hs h6) (treeOf (taskAt ts task).body) _ htr.1 J0
  have J1 := J.work (c := 1) (by omega)
  have e0 : applyS (traceS ts m rd at_ task tail) m = (applyS (runT (taskAt ts task) task tail rd at_ (m.take 8)).steps m).set 8 (packM (nextM ts (runT (taskAt ts task) task tail rd at_ (m.take 8)).vars task) 0 (min 24 (tail + (runT (taskAt ts task) task tail rd at_ (m.take 8)).sent.length))) := by
    rw [traceS, traceEnd, show ∀ (x y : Micro), [x, y] = [x] ++ [y] from fun _ _ => rfl, applyS_app, applyS_app, apply1 _ _ _ (by omega)]; rfl
  have nb := nextM_bd (ts := ts) (by omega) (runT (taskAt ts task) task tail rd at_ (m.take 8)).vars task
  have l0 := hm.l0
  have M : MemV ts.length (applyS (traceS ts m rd at_ task tail) m) (nextM ts (runT (taskAt ts task) task tail rd at_ (m.take 8)).vars task) 0 (min 24 (tail + (runT (taskAt ts task) task tail rd at_ (m.take 8)).sent.length)) := by
    rw [e0]
    refine J.now.ctlSet _ 0 _ nb (by omega) (by omega) (by omega) (fun j hj => absurd hj (by simp)) (fun j hj => ?_)
    rcases Nat.lt_or_ge j tail.toNat with q | q
    · exact J.now.box j q
    · have := J.box (j - tail.toNat) (by omega) (by omega)
      rwa [show 25 + (tail.toNat + (j - tail.toNat)) = 25 + j by omega] at this
  refine ⟨fun k => ?_, ⟨_, _, M⟩, fun x hx => ?_, hcost, by omega⟩
  · rcases Nat.lt_or_ge k (traceS ts m rd at_ task tail).length with q | q
    · have hlen : (traceS ts m rd at_ task tail).length = (runT (taskAt ts task) task tail rd at_ (m.take 8)).steps.length + 2 := by simp [traceS, traceEnd]
      have : (traceS ts m rd at_ task tail).take k = ((runT (taskAt ts task) task tail rd at_ (m.take 8)).steps ++ [(⟨1, -1, 0⟩ : Micro)]).take k := by
        rw [traceS, traceEnd, show ∀ (x y : Micro), [x, y] = [x] ++ [y] from fun _ _ => rfl, ← List.append_assoc, List.take_append_of_le_length (by simp; omega)]
      rw [this]
      obtain ⟨c, h1, h2⟩ := J1.pre k
      exact ⟨task, c, tail, h1, h2⟩
    · rw [List.take_of_length_le q]
      exact ⟨_, 0, _, by omega, M⟩
  · rcases List.mem_append.1 hx with w | w
    · exact J.ins x w
    · simp only [traceEnd, List.mem_cons, List.not_mem_nil, or_false] at w
      rcases w with rfl | rfl
      · exact ⟨by simp, .inl rfl⟩
      · exact ⟨by simp, .inr (by simp)⟩
theorem taskM_facts : ∀ (ms : List Micro) (b : BT), (∀ x ∈ ms, StepIn x) → 0 ≤ b.left →
    (∃ k, (taskM ms b).2.mem = applyS (ms.take k) b.mem ∧ ((taskM ms b).1 = true → k = ms.length)) ∧ (taskM ms b).2.used = b.used ∧ 0 ≤ (taskM ms b).2.left ∧ (taskM ms b).2.left ≤ b.left ∧ b.at_ ≤ (taskM ms b).2.at_ ∧ (taskM ms b).2.at_ + (taskM ms b).2.left ≤ b.at_ + b.left ∧ (sumC ms ≤ b.left → (taskM ms b).1 = true)
  | [], b, _, hl => ⟨⟨0, rfl, fun _ => rfl⟩, rfl, hl, Int.le_refl _, Int.le_refl _, Int.le_refl _, fun _ => rfl⟩
  | m :: ms, b, h, hl => by
    have hm := h m (by simp)
    unfold StepIn at hm
    have hs : 0 ≤ sumC ms := sumC_nn ms fun x hx => by have := (h x (by simp [hx])).1; omega
    by_cases q : b.left < m.cost
    · have e : taskM (m :: ms) b = (false, b) := if_pos q
      rw [e]
      refine ⟨⟨0, rfl, (fun w => by cases w)⟩, rfl, hl, Int.le_refl _, Int.le_refl _, Int.le_refl _, fun w => ?_⟩
      rw [sumC_cons] at w; omega
    · have e : taskM (m :: ms) b = taskM ms (stepB m b) := if_neg q
      rw [e]
      have ih := taskM_facts ms (stepB m b) (fun x hx => h x (by simp [hx])) (by show 0 ≤ b.left - m.cost; omega)
      have ea : (stepB m b).at_ = if m.at_ = -1 ∧ m.cost = 5 then b.at_ + 1 else b.at_ := rfl
      have el : (stepB m b).left = b.left - m.cost := rfl
      have hab : b.at_ ≤ (stepB m b).at_ ∧ (stepB m b).at_ + (stepB m b).left ≤ b.at_ + b.left := by
        rw [ea, el]; split <;> omega
      obtain ⟨⟨k, h1, h2⟩, h3, h4, h5, h6, h7, h8⟩ := ih
      refine ⟨⟨k + 1, ?_, fun w => by rw [h2 w]; rfl⟩, h3, h4, by omega, by omega, by omega, fun w => h8 (by rw [sumC_cons] at w; omega)⟩
      rw [h1]; rfl
noncomputable def bootL (ts : List Task) (rd : List Int) : Nat → BT → BT
  | 0, b => b
  | n + 1, b => if (taskM (traceS ts b.mem rd b.at_ (unpackM (gtI b.mem 8)).1 (unpackM (gtI b.mem 8)).2.2) b).1 = true then bootL ts rd n { (taskM (traceS ts b.mem rd b.at_ (unpackM (gtI b.mem 8)).1 (unpackM (gtI b.mem 8)).2.2) b).2 with used := b.used ++ [traceU ts b.mem rd b.at_ (unpackM (gtI b.mem 8)).1 (unpackM (gtI b.mem 8)).2.2] } else (taskM (traceS ts b.mem rd b.at_ (unpackM (gtI b.mem 8)).1 (unpackM (gtI b.mem 8)).2.2) b).2
def VM (K : Prop) (ts : List Task) (m : List Int) : Prop := ∃ t c l, (c ≤ ((mustOf (taskAt ts t)).length : Int) ∨ K) ∧ MemV ts.length m t c l
def CM (ts : List Task) (m : List Int) : Prop := ∃ t l, MemV ts.length m t 0 l
theorem CM.vm {K : Prop} {ts : List Task} {m : List Int} (h : CM ts m) : VM K ts m := by
  obtain ⟨t, l, h⟩ := h
  exact ⟨t, 0, l, .inl (by omega), h⟩
theorem bootL_facts {K : Prop} {ts : List Task} {rd : List Int} (hp : programOk ts = true) : ∀ (n : Nat) (b : BT), CM ts b.mem → 0 ≤ b.left →
    VM K ts (bootL ts rd n b).mem ∧ (0 ≤ (bootL ts rd n b).left ∧ (bootL ts rd n b).left ≤ b.left) ∧ b.at_ ≤ (bootL ts rd n b).at_ ∧ (bootL ts rd n b).at_ + (bootL ts rd n b).left ≤ b.at_ + b.left ∧ b.used.length ≤ (bootL ts rd n b).used.length ∧ (bootL ts rd n b).used.length ≤ b.used.length + n ∧
    (1 ≤ n → taskB (taskAt ts (unpackM (gtI b.mem 8)).1) ≤ b.left → b.used.length + 1 ≤ (bootL ts rd n b).used.length)
  | 0, b, h, hl => ⟨h.vm, ⟨hl, Int.le_refl _⟩, Int.le_refl _, Int.le_refl _, Nat.le_refl _, Nat.le_refl _, fun q => absurd q (by omega)⟩
  | n + 1, b, h, hl => by
    obtain ⟨t, l, hM⟩ := h
    have hu := hM.ctl
    have T := trace_V (rd := rd) (at_ := b.at_) hp hM
    obtain ⟨T1, T2, T3, T4, T5⟩ := T
    obtain ⟨⟨k, f1, f2⟩, f3, f4, f5, f6, f7, f8⟩ := taskM_facts (traceS ts b.mem rd b.at_ t l) b T3 hl
    unfold bootL
    rw [hu]
    simp only
    split
    · rename_i q
      rw [f2 q, List.take_length] at f1
      have hC : CM ts (taskM (traceS ts b.mem rd b.at_ t l) b).2.mem := by rw [f1]; exact T2
      have ih := bootL_facts (K := K) (rd := rd) hp n { (taskM (traceS ts b.mem rd b.at_ t l) b).2 with used := b.used ++ [traceU ts b.mem rd b.at_ t l] } hC f4
      simp only [List.length_append, List.length_cons, List.length_nil] at ih
      refine ⟨ih.1, ⟨ih.2.1.1, by omega⟩, by omega, by omega, by omega, by omega, fun _ _ => by omega⟩
    · rename_i q
      refine ⟨by rw [f1]; obtain ⟨t', c', l', q1, q2⟩ := T1 k; exact ⟨t', c', l', .inl q1, q2⟩, ⟨f4, f5⟩, f6, f7, by rw [f3]; exact Nat.le_refl _, by rw [f3]; omega, fun _ w => absurd (f8 (by omega)) q⟩
noncomputable def bootM (ts : List Task) (m rd : List Int) (at_ e : Int) : BT := if (recoverM (recM m) ⟨m, at_, [], e⟩).1 = true then bootL ts rd 10 (recoverM (recM m) ⟨m, at_, [], e⟩).2 else (recoverM (recM m) ⟨m, at_, [], e⟩).2
theorem bootM_facts {K : Prop} {ts : List Task} {m rd : List Int} {at_ e : Int} (hp : programOk ts = true) (h : VM K ts m) (he : 0 ≤ e) :
    VM K ts (bootM ts m rd at_ e).mem ∧ (0 ≤ (bootM ts m rd at_ e).left ∧ (bootM ts m rd at_ e).left ≤ e) ∧ at_ ≤ (bootM ts m rd at_ e).at_ ∧ (bootM ts m rd at_ e).at_ + (bootM ts m rd at_ e).left ≤ at_ + e ∧ (bootM ts m rd at_ e).used.length ≤ 10 ∧ (¬ K → bootB (taskAt ts (unpackM (gtI m 8)).1) ≤ e → 1 ≤ (bootM ts m rd at_ e).used.length) := by
  obtain ⟨t, c, l, hc, hM⟩ := h
  have hu := hM.ctl
  have pf := prog_facts hp
  have htl : t.toNat < ts.length := by have := hM.t0; have := hM.t1; omega
  have hmem : taskAt ts t ∈ ts := by rw [← taskAt_eq htl]; exact List.getElem_mem _
  have htk := (pf.2 _ hmem).1
  have h5 : t ≤ 5 := by have := hM.t1; omega
  have hB : bootB (taskAt ts t) = taskB (taskAt ts t) + recCost (mustOf (taskAt ts t)).length := by rw [bootB, if_pos htk]; rfl
  have c0 := hM.c0
  rw [hu]
  simp only
  by_cases q : c < 1
  · have hc0 : c = 0 := by omega
    subst hc0
    have hr : recM m = [] := by unfold recM; rw [hu, if_pos q]
    have hb : bootM ts m rd at_ e = bootL ts rd 10 ⟨m, at_, [], e⟩ := by unfold bootM; rw [hr]; rfl
    have F := bootL_facts (K := K) (rd := rd) hp 10 ⟨m, at_, [], e⟩ ⟨t, l, hM⟩ he
    rw [hb]
    simp only [hu, List.length_nil, Nat.zero_add] at F
    have hrc : 0 ≤ recCost (mustOf (taskAt ts t)).length := by unfold recCost; split <;> omega
    exact ⟨F.1, F.2.1, F.2.2.1, F.2.2.2.1, F.2.2.2.2.2.1, fun _ w => F.2.2.2.2.2.2 (by omega) (by omega)⟩
  · have hr : recM m = recVars m c.toNat ++ [⟨8, packM t 0 l⟩] := by unfold recM; rw [hu, if_neg q]
    have R := recover_V h5 (recVars m c.toNat) ⟨m, at_, [], e⟩ hM (recVars_bd hM.log _ (Nat.le_refl _)) he
    rw [← hr, recVars_len] at R
    obtain ⟨R1, R2, R3, R4, R5, R6, R7⟩ := R
    simp only at R3 R4 R6 R7
    have hrc : ¬ K → 3 * (((c.toNat : Nat) : Int) + 1) ≤ recCost (mustOf (taskAt ts t)).length := fun hK => by
      have hc' : c ≤ ((mustOf (taskAt ts t)).length : Int) := hc.resolve_right hK
      unfold recCost; split <;> omega
    have hTb : 0 ≤ taskB (taskAt ts t) := by
      rw [taskB, if_pos htk]
      have := (boundT_bd _ (treeOf_ok (task_facts htk).1).1).1
      omega
    unfold bootM
    split
    · rename_i w
      have R1' := R1 w
      have F := bootL_facts (K := K) (rd := rd) hp 10 (recoverM (recM m) ⟨m, at_, [], e⟩).2 ⟨t, l, R1'.1⟩ R5
      rw [R3, R4, R1'.1.ctl] at F
      simp only [List.length_nil, Nat.zero_add] at F
      have R1l := R1'.2
      simp only at R1l F
      exact ⟨F.1, ⟨F.2.1.1, by omega⟩, F.2.2.1, by omega, F.2.2.2.2.2.1, fun hK w => F.2.2.2.2.2.2 (by omega) (by have := hrc hK; omega)⟩
    · rename_i w
      have wf : (recoverM (recM m) ⟨m, at_, [], e⟩).1 = false := by simpa using w
      refine ⟨⟨t, c, l, hc, R2 wf⟩, ⟨R5, R6⟩, by rw [R4]; exact Int.le_refl _, by rw [R4]; omega, by rw [R3]; simp, fun hK v => absurd (R7 (by have := hrc hK; omega)) w⟩
end Go.Av

namespace Go.Av
open Go.Proofs Go.RowKit
set_option linter.unusedVariables false
set_option linter.unusedSimpArgs false
set_option maxRecDepth 100000
set_option maxHeartbeats 4000000
def encBoot (b : BT) : List V := [.lst 1 (b.mem.map encI), .int .i64 b.at_, .lst 1 (b.used.map encL), .int .i64 b.left]
theorem refs_L (n : Nat) (us : List Int) : V.refsL n (encL us) = true := by simp [encL, V.refsL, V.refs, refsLL_map encI (fun _ => rfl) us]
theorem boot_f (ts : List Task) (m rd : List Int) (at_ e : Int) (hp : programOk ts = true) (hv : VM True ts m) (hr : rd.length ≤ 9223372036854775807) (ha : 0 ≤ at_ ∧ at_ ≤ 500000) (he : 0 ≤ e ∧ e ≤ 100000) :
    F Tryz.prog 116 [.agg [.lst 4 (ts.map encTask)], .lst 1 (m.map encI), .lst 1 (rd.map encI), .int .i64 at_, .int .i64 e] (.agg (encBoot (bootM ts m rd at_ e))) := by
  have hok : memOkM ts m = true := by obtain ⟨t, c, l, _, h⟩ := hv; exact h.ok hp
  have hm := (memOk_facts hok).2.1
  refine C.by mixed (cfn_ok Tryz.func116 ok116) rfl ?_
  simp (disch := omega) only [s116, go_sem]
  have S0 : Sep ([[[V.lst 4 (ts.map encTask)]], [[V.nils, .int .i64 0, .nils, .int .i64 0]]] : Heap) [.k 1 [[V.nils, .int .i64 0, .nils, .int .i64 0]], .k 0 [[V.lst 4 (ts.map encTask)]]] := ((Sep.nil []).newK _).newK _
  refine S0.goLst (cloneI_f m (by omega)) (.same (refs_int1 _ _)) fun v1 h1 x1 S1 o1 n1 c1 => ?_
  have h49 : (m.map encI).length = 49 := by simpa using hm
  refine Exists.elim (show ∃ q, v1 = .own q 1 0 49 49 ∧ Sep h1 [.k q (m.map encI), .k 1 [[V.nils, .int .i64 0, .nils, .int .i64 0]], .k 0 [[V.lst 4 (ts.map encTask)]]] from ?_) fun mid z => ?_
  · rcases S1.flat_ (flat_encI _) with ⟨a, b, c⟩ | ⟨q, a, b⟩
    · rw [b] at h49; simp at h49
    · rw [h49] at a; exact ⟨q, a, b⟩
  have z1 := z.1
  have S1' := z.2
  clear z
  subst z1
  have S2 := (S1'.newK [[.own mid 1 0 49 49, .int .i64 at_, .nils, .int .i64 e]]).nils (sz := 1)
  have B2 : BS _ h1.length ⟨m, at_, [], e⟩ [.k 1 [[V.nils, .int .i64 0, .nils, .int .i64 0]], .k 0 [[V.lst 4 (ts.map encTask)]]] := ⟨mid, .nils, S2.pk (A := [_, _, _, _, _]) (L := []) [1, 2, 0, 3, 4] rfl⟩
  simp (disch := omega) only [go_sem, splice]
  refine C.go (recover_c ts hok (by show 0 ≤ e ∧ e ≤ 1000000; omega) B2) ?_
  rintro r3 h3 ⟨rfl, B3⟩
  simp (disch := omega) only [go_sem, splice]
  have fin : ∀ (h9 : Heap) (b9 : BT), b9 = bootM ts m rd at_ e → BS h9 h1.length b9 [.k 1 [[V.nils, .int .i64 0, .nils, .int .i64 0]], .k 0 [[V.lst 4 (ts.map encTask)]]] → ∃ (mid : Nat) (vu : V), h9[h1.length]? = some [[.own mid 1 0 49 49, .int .i64 b9.at_, vu, .int .i64 b9.left]] ∧ (V.one vu = true ∧ V.nohole vu = vu ∧ V.cells vu = [vu]) ∧ (∀ d, (h9.set 1 d)[1]? = some d) ∧ h9[1]? = some [[V.nils, .int .i64 0, .nils, .int .i64 0]] ∧ ∃ ids : List Nat, ids.Nodup ∧ OwnsR (h9.set 1 [[.own mid 1 0 49 49, .int .i64 b9.at_, vu, .int .i64 b9.left]]) (.agg (encBoot (bootM ts m rd at_ e))) (.agg [.own mid 1 0 49 49, .int .i64 b9.at_, vu, .int .i64 b9.left]) ids := fun h9 b9 e9 B9 => by
    subst e9
    obtain ⟨mid, vu, S⟩ := B9
    refine ⟨mid, vu, S.blk 0 rfl, S.vv 2 rfl, fun d => heap_set _ (S.blk 3 rfl), S.blk 3 rfl, ?_⟩
    have S1 := ((S.pull 3).setK [[.own mid 1 0 49 49, .int .i64 (bootM ts m rd at_ e).at_, vu, .int .i64 (bootM ts m rd at_ e).left]]).pk (A := [_, _, _, _]) [2, 3] rfl
    have hl : (bootM ts m rd at_ e).mem.length = 49 := by
      obtain ⟨t, c, l, _, h⟩ := (bootM_facts (rd := rd) (at_ := at_) hp hv he.1).1
      exact h.len
    have S2 := Sep.ofFlat (sz := 1) (n := 49) S1 (by simpa using hl) (flat_encI _)
    have A1 := Sep.li (k := .i64) (z := (bootM ts m rd at_ e).left) (Sep.l0 (Sep.sw S2))
    have A2 := Sep.li (k := .i64) (z := (bootM ts m rd at_ e).at_) (Sep.cons2 (fun es e => by cases e) (Sep.sw A1))
    exact ((Sep.cons2 (fun es e => by cases e) (Sep.sw A2)).a).ret
  refine condP_split (fun hrec => ?_) (fun hrec => ?_)
  case' refine_2 =>
    refine Exists.elim (fin h3 _ (by unfold bootM; rw [if_neg (by simp [hrec])]) B3) fun mid' q => Exists.elim q fun vu q => ?_
    have K := q.1
    have zu := q.2.1
    have c9 := q.2.2.1
    have K1 := q.2.2.2.1
    have R := q.2.2.2.2
    clear q
    simp (disch := omega) only [go_sem, K, zu.1, zu.2.1, zu.2.2, c9, K1, storeH, storeB, splice]
    exact R
  have hC : CM ts (recoverM (recM m) ⟨m, at_, [], e⟩).2.mem ∧ (recoverM (recM m) ⟨m, at_, [], e⟩).2.used = [] ∧ (recoverM (recM m) ⟨m, at_, [], e⟩).2.at_ = at_ ∧ (0 ≤ (recoverM (recM m) ⟨m, at_, [], e⟩).2.left ∧ (recoverM (recM m) ⟨m, at_, [], e⟩).2.left ≤ e) := by
    obtain ⟨t, c, l, hc, hM⟩ := hv
    have hu := hM.ctl
    have pf := prog_facts hp
    have c0 := hM.c0
    by_cases q : c < 1
    · have hc0 : c = 0 := by omega
      subst hc0
      have hr : recM m = [] := by unfold recM; rw [hu, if_pos q]
      rw [hr]
      exact ⟨⟨t, l, hM⟩, rfl, rfl, he.1, Int.le_refl _⟩
    · have hr : recM m = recVars m c.toNat ++ [⟨8, packM t 0 l⟩] := by unfold recM; rw [hu, if_neg q]
      have R := recover_V (by have := hM.t1; omega) (recVars m c.toNat) ⟨m, at_, [], e⟩ hM (recVars_bd hM.log _ (Nat.le_refl _)) he.1
      rw [← hr] at R
      exact ⟨⟨t, l, (R.1 hrec).1⟩, R.2.2.1, R.2.2.2.1, R.2.2.2.2.1, R.2.2.2.2.2.1⟩
  have hbm : bootM ts m rd at_ e = bootL ts rd 10 (recoverM (recM m) ⟨m, at_, [], e⟩).2 := if_pos hrec
  simp (disch := omega) only [go_sem, splice]
  refine loopP_intro (fun n s => ∃ (b1 : BT), b1.used.length + n = 10 ∧ CM ts b1.mem ∧ bootL ts rd n b1 = bootM ts m rd at_ e ∧ (0 ≤ b1.left ∧ b1.left ≤ 100000) ∧ (0 ≤ b1.at_ ∧ b1.at_ + b1.left ≤ 600000) ∧ s.e 2 = .lst 1 (rd.map encI) ∧ s.e 5 = .ptr 0 1 0 0 ∧ s.e 10 = .ptr 1 1 0 0 ∧ s.e 11 = .ptr h1.length 1 0 0 ∧ BS s.h h1.length b1 [.k 1 [[V.nils, .int .i64 0, .nils, .int .i64 0]], .k 0 [[V.lst 4 (ts.map encTask)]]]) 10 ⟨_, by rw [hC.2.1]; rfl, hC.1, hbm.symm, by omega, by omega, by simp (disch := omega) only [go_sem, splice], by simp (disch := omega) only [go_sem, splice], by simp (disch := omega) only [go_sem, splice], by simp (disch := omega) only [go_sem, splice], B3⟩ ?_
  clear hrec hC hbm B3
  intro n ee hp' P
  refine Exists.elim P fun b1 P => ?_
  have hu1 := P.1
  have hC := P.2.1
  have hbl := P.2.2.1
  have hl1 := P.2.2.2.1
  have ha1 := P.2.2.2.2.1
  have e2 := P.2.2.2.2.2.1
  have e5 := P.2.2.2.2.2.2.1
  have e10 := P.2.2.2.2.2.2.2.1
  have e11 := P.2.2.2.2.2.2.2.2.1
  have B1 := P.2.2.2.2.2.2.2.2.2
  clear P
  simp only at e2 e5 e10 e11 B1
  refine Exists.elim B1 fun mid1 q => Exists.elim q fun vu1 S3 => ?_
  have K3 := S3.blk 0 rfl
  have P3 := S3.blk 4 rfl
  have z3 := S3.vv 2 rfl
  have len3 := fun G => (S3.lst 2 rfl).elim fun i o => o.len_ G
  simp only [List.length_map] at len3
  simp (disch := omega) only [go_sem, e2, e5, e10, e11, K3, P3, z3.1, z3.2.1, z3.2.2, len3, refs_task]
  refine condP_dec (fun h10 => ?_) (fun h10 => ?_)
  case' refine_2 =>
    have hn : n = 0 := by omega
    subst hn
    refine Exists.elim (fin hp' b1 hbl B1) fun mid' q => Exists.elim q fun vu q => ?_
    have K := q.1
    have zu := q.2.1
    have c9 := q.2.2.1
    have K1 := q.2.2.2.1
    have R := q.2.2.2.2
    clear q
    simp (disch := omega) only [go_sem, e2, e5, e10, e11, K, zu.1, zu.2.1, zu.2.2, c9, K1, storeH, storeB, splice]
    exact R
  refine Exists.elim (show ∃ k : Nat, n = k + 1 from ⟨n - 1, by omega⟩) fun k hk => ?_
  subst hk
  refine Exists.elim hC fun t q => Exists.elim q fun l hM => ?_
  have hu := hM.ctl
  have T := trace_V (rd := rd) (at_ := b1.at_) hp hM
  have hun : bootL ts rd (k + 1) b1 = if (taskM (traceS ts b1.mem rd b1.at_ t l) b1).1 = true then bootL ts rd k { (taskM (traceS ts b1.mem rd b1.at_ t l) b1).2 with used := b1.used ++ [traceU ts b1.mem rd b1.at_ t l] } else (taskM (traceS ts b1.mem rd b1.at_ t l) b1).2 := by
    rw [bootL, hu]
  rw [hun] at hbl
  have TF := taskM_facts (traceS ts b1.mem rd b1.at_ t l) b1 T.2.2.1 hl1.1
  simp (disch := omega) only [go_sem, e2, e5, e10, e11, K3, P3, z3.1, z3.2.1, z3.2.2, len3, refs_task]
  refine C.go (task_c ts rd t 0 l hp hM.T hr ⟨ha1.1, by omega⟩ ⟨hl1.1, by omega⟩ (by omega) T.2.2.1 T.2.2.2.2 B1) ?_
  rintro r4 h4 ⟨rfl, B4⟩
  simp (disch := omega) only [go_sem, e2, e5, e10, e11]
  refine condP_split (fun hk => ?_) (fun hk => ?_)
  · rw [if_pos hk] at hbl B4
    simp (disch := omega) only [go_sem, e2, e5, e10, e11]
    have hmem : CM ts (taskM (traceS ts b1.mem rd b1.at_ t l) b1).2.mem := by
      obtain ⟨⟨j, f1, f2⟩, _⟩ := TF
      rw [f2 hk, List.take_length] at f1
      rw [f1]; exact T.2.1
    refine nextP_intro k (by omega) ⟨{ (taskM (traceS ts b1.mem rd b1.at_ t l) b1).2 with used := b1.used ++ [traceU ts b1.mem rd b1.at_ t l] }, by simp; omega, hmem, hbl, ⟨TF.2.2.1, by have := TF.2.2.2.1; show (taskM (traceS ts b1.mem rd b1.at_ t l) b1).2.left ≤ _; omega⟩, ⟨by have := TF.2.2.2.2.1; show 0 ≤ (taskM (traceS ts b1.mem rd b1.at_ t l) b1).2.at_; omega, by have := TF.2.2.2.2.2.1; show (taskM (traceS ts b1.mem rd b1.at_ t l) b1).2.at_ + (taskM (traceS ts b1.mem rd b1.at_ t l) b1).2.left ≤ _; omega⟩, by simp (disch := omega) only [go_sem, e2, e5, e10, e11], by simp (disch := omega) only [go_sem, e2, e5, e10, e11], by simp (disch := omega) only [go_sem, e2, e5, e10, e11], by simp (disch := omega) only [go_sem, e2, e5, e10, e11], B4⟩
  · rw [if_neg (by simp [hk])] at hbl B4
    refine Exists.elim (fin h4 _ hbl B4) fun mid' q => Exists.elim q fun vu q => ?_
    have K := q.1
    have zu := q.2.1
    have c9 := q.2.2.1
    have K1 := q.2.2.2.1
    have R := q.2.2.2.2
    clear q
    simp (disch := omega) only [go_sem, e2, e5, e10, e11, K, zu.1, zu.2.1, zu.2.2, c9, K1, storeH, storeB, splice]
    exact R
end Go.Av

namespace Go.Av
open Go.Proofs Go.RowKit
set_option linter.unusedVariables false
set_option linter.unusedSimpArgs false
set_option maxRecDepth 100000
set_option maxHeartbeats 4000000
theorem OwnsLL.app {h : Heap} : ∀ {A a B b : Blk} {i j : List Nat}, OwnsLL h A a i → OwnsLL h B b j → OwnsLL h (A ++ B) (a ++ b) (i ++ j)
  | [], a, B, b, i, j, o, q => by
    obtain ⟨rfl, rfl⟩ := OwnsLL.nil_.1 o
    exact q
  | y :: ys, a, B, b, i, j, o, q => by
    obtain ⟨r', b', i1, i2, rfl, rfl, o1, o2⟩ := OwnsLL.cons_.1 o
    exact OwnsLL.cons_.2 ⟨r', b' ++ b, i1, i2 ++ j, rfl, by simp, o1, o2.app q⟩
theorem Sep.pushAll {h : Heap} {sz bytes : Nat} {A B : Blk} {va vb : V} {L : List It} (S : Sep h (.v (.lst sz A) va :: .v (.lst sz B) vb :: L)) (hb : (A.length + B.length) * bytes ≤ 140737488355328) :
    ∃ v' h', appendH h sz bytes va vb = some (v', h') ∧ Sep h' (.v (.lst sz (A ++ B)) v' :: L) := by
  obtain ⟨ids, n, i, j, rfl, o, p, q, rfl, o2, s⟩ := S
  have n1 := List.nodup_append.1 n
  have n2 := List.nodup_append.1 n1.2.1
  -- what is appended
  have hx : ∃ (xs : Blk) (p' : List Nat), elemsOf h sz vb = some xs ∧ xs.length = B.length ∧ OwnsLL h B xs p' ∧ p'.Nodup ∧ ∀ x ∈ p', x ∈ p := by
    rcases Owns.lst_.1 (Owns.lstR.1 o2) with ⟨rfl, rfl, rfl⟩ | ⟨id, b, js, rfl, hid, rfl, oo⟩
    · exact ⟨[], [], rfl, rfl, OwnsLL.nil_.2 ⟨rfl, rfl⟩, .nil, by simp⟩
    · exact ⟨b, js, elemsOf_n hid oo.len, oo.len, oo, (List.nodup_cons.1 n2.1).2, fun x hx => by simp [hx]⟩
  obtain ⟨xs, p', he, hxl, ox, np, hp⟩ := hx
  rcases Owns.lst_.1 (Owns.lstR.1 o) with ⟨rfl, rfl, rfl⟩ | ⟨id, b, js, rfl, hid, rfl, oo⟩
  · refine ⟨.own h.length sz 0 xs.length xs.length, h ++ [xs], ?_, h.length :: p' ++ q, ?_, h.length :: p', q, rfl, Owns.lstR.2 (Owns.lst_.2 (.inr ⟨h.length, xs, p', by simp [hxl], at_app0 _ _, rfl, ?_⟩)), s.keep fun a ha => List.getElem?_append_left (s.lt a ha)⟩
    · simp only [appendH, he]
      rw [if_pos (by simpa [hxl] using hb)]
    · rw [List.cons_append, List.nodup_cons]
      refine ⟨fun hm => ?_, List.nodup_append.2 ⟨np, n2.2.1, fun a ha c hc e => n2.2.2 a (hp a ha) c hc e⟩⟩
      rcases List.mem_append.1 hm with w | w
      · have := OwnsLL.lt ox _ w; omega
      · have := s.lt _ w; omega
    · exact ox.up (Ext.app _ _)
  · have hbl := oo.len
    have n3 := List.nodup_cons.1 n1.1
    have hidn : id ∉ js ∧ id ∉ p' ∧ id ∉ q := ⟨n3.1, fun w => n1.2.2 id (by simp) id (by simp [hp id w]) rfl, fun w => n1.2.2 id (by simp) id (by simp [w]) rfl⟩
    refine ⟨.own id sz 0 (b.length + xs.length) (b.length + xs.length), h.set id (b ++ xs), ?_, id :: (js ++ p') ++ q, ?_, id :: (js ++ p'), q, rfl, Owns.lstR.2 (Owns.lst_.2 (.inr ⟨id, b ++ xs, js ++ p', by simp [hbl, hxl], heap_set _ hid, rfl, ?_⟩)), s.keep fun a ha => List.getElem?_set_ne (by rintro rfl; exact hidn.2.2 ha)⟩
    · have := appendH_own (bytes := bytes) hid he (by rw [hbl, hxl]; exact hb)
      rw [← hbl]; exact this
    · rw [List.cons_append, List.nodup_cons]
      refine ⟨fun w => ?_, List.nodup_append.2 ⟨List.nodup_append.2 ⟨n3.2, np, fun a ha c hc e => ?_⟩, n2.2.1, fun a ha c hc e => ?_⟩⟩
      · rcases List.mem_append.1 w with w | w
        · rcases List.mem_append.1 w with w | w
          · exact hidn.1 w
          · exact hidn.2.1 w
        · exact hidn.2.2 w
      · subst e; exact n1.2.2 a (by simp [ha]) a (by simp [hp a hc]) rfl
      · subst e
        rcases List.mem_append.1 ha with w | w
        · exact n1.2.2 a (by simp [w]) a (by simp [hc]) rfl
        · exact n2.2.2 a (hp a w) a hc rfl
    · exact (oo.app ox).keep fun a ha => List.getElem?_set_ne (by
        rintro rfl
        rcases List.mem_append.1 ha with w | w
        · exact hidn.1 w
        · exact hidn.2.1 w)
structure Run where
  mem : List Int
  at_ : Int
  used : List (List Int)
  boots : List Int
def encRun (r : Run) : List V := [.lst 1 (r.mem.map encI), .int .i64 r.at_, .lst 1 (r.used.map encL), .lst 1 (r.boots.map encI)]
noncomputable def runL (ts : List Task) (rd : List Int) : List Int → Run → Run
  | [], r => r
  | e :: es, r => runL ts rd es ⟨(bootM ts r.mem rd r.at_ e).mem, (bootM ts r.mem rd r.at_ e).at_, r.used ++ (bootM ts r.mem rd r.at_ e).used, r.boots ++ [((bootM ts r.mem rd r.at_ e).used.length : Int)]⟩
noncomputable def runM (ts : List Task) (m rd es : List Int) : Run := runL ts rd es ⟨m, 0, [], []⟩
def RS (h : Heap) (R : Nat) (r : Run) (L : List It) : Prop := ∃ (vm vu vb : V), Sep h (.k R [[vm, .int .i64 r.at_, vu, vb]] :: .v (.lst 1 (r.mem.map encI)) vm :: .v (.lst 1 (r.used.map encL)) vu :: .v (.lst 1 (r.boots.map encI)) vb :: L)
theorem Sep.openBoot {h : Heap} {b : BT} {r : V} {L : List It} (S : Sep h (.v (.agg (encBoot b)) r :: L)) : ∃ vm vu, r = .agg [vm, .int .i64 b.at_, vu, .int .i64 b.left] ∧ Sep h (.v (.lst 1 (b.mem.map encI)) vm :: .v (.lst 1 (b.used.map encL)) vu :: L) := by
  obtain ⟨_, rfl, S1⟩ := sep_agg.1 S
  obtain ⟨vm, _, rfl, S2⟩ := sep_ll.1 S1
  obtain ⟨_, rfl, S3⟩ := sep_li.1 S2
  obtain ⟨vu, _, rfl, S4⟩ := sep_ll.1 S3
  obtain ⟨_, rfl, S5⟩ := sep_li.1 S4
  obtain ⟨rfl, S6⟩ := sep_l0.1 S5
  exact ⟨vm, vu, rfl, Sep.sw ((Sep.rot S6).perm (.cons _ List.perm_append_comm))⟩
def energyOk (e : Int) : Bool := within e 0 5000
theorem notEnergy_c (e : Int) : CP Tryz.prog 113 [.int .i64 e] (.bool (!energyOk e)) [] := by
  refine CP.by rfl mixed (cfn_ok Tryz.func113 ok113) rfl ?_
  simp (disch := omega) only [s113, go_sem]
  refine CP.go (within_c _ _ _) rfl rfl ?_
  simp (disch := omega) only [go_sem]
  rfl
theorem isBootAt_c (ts : List Task) (m rd : List Int) (a : Int) (hl : ts.length ≤ 1048576) (hb : ∀ t ∈ ts, t.body.length ≤ 9223372036854775807) (hml : m.length ≤ 9223372036854775807) (hr : rd.length ≤ 9223372036854775807) : CP Tryz.prog 111 [.agg [.lst 4 (ts.map encTask)], .lst 1 (m.map encI), .lst 1 (rd.map encI), .int .i64 a] (.bool (memOkM ts m && vals rd && within a 0 500000)) [] := by
  refine CP.by rfl mixed (cfn_ok Tryz.func111 ok111) rfl ?_
  simp (disch := omega) only [s111, go_sem]
  refine CP.go (memOk_c ts m hl hb hml) rfl (by simp [V.refsL, V.refs, refsLL_map encTask (refs_task 0) ts, refsLL_map encI (fun _ => rfl) m]) ?_
  simp (disch := omega) only [go_sem]
  refine condP_split (fun h1 => ?_) (fun h1 => ?_)
  · simp (disch := omega) only [go_sem, h1]
    refine CP.go (values_c rd hr) rfl (refs_int1 _ _) ?_
    simp (disch := omega) only [go_sem, h1]
    refine condP_split (fun h2 => ?_) (fun h2 => ?_)
    · simp (disch := omega) only [go_sem, h1, h2]
      refine CP.go (within_c _ _ _) rfl rfl ?_
      simp (disch := omega) only [go_sem, h1, h2, Bool.true_and]
    · simp (disch := omega) only [go_sem, h1, h2, Bool.and_false, Bool.false_and]
  · simp (disch := omega) only [go_sem, h1, Bool.and_false, Bool.false_and]
def runOk (ts : List Task) (m rd es : List Int) : Bool := memOkM ts m && vals rd && decide (es.length ≤ 60) && es.all energyOk
noncomputable def runR (ts : List Task) (m rd es : List Int) : Run := if runOk ts m rd es = true then runM ts m rd es else ⟨[], 0, [], []⟩
theorem memV_weak {ts : List Task} {m : List Int} (h : memOkM ts m = true) : VM True ts m := ⟨_, _, _, .inr trivial, memOk_V h⟩
theorem any_energy {es : List Int} : (es.any fun e => !energyOk e) = !es.all energyOk := by rw [List.not_all_eq_any_not]
theorem within0 : within 0 0 500000 = true := by decide
theorem runBoots_f (ts : List Task) (m rd es : List Int) (hl : ts.length ≤ 1048576) (hb : ∀ t ∈ ts, t.body.length ≤ 9223372036854775807) (hml : m.length ≤ 9223372036854775807) (hr : rd.length ≤ 9223372036854775807) (hel : es.length ≤ 9223372036854775807) :
    F Tryz.prog 46 [.agg [.lst 4 (ts.map encTask)], .lst 1 (m.map encI), .lst 1 (rd.map encI), .lst 1 (es.map encI)] (.tup [.agg (encRun (runR ts m rd es)), .bool (runOk ts m rd es)]) := by
  refine C.by mixed (cfn_ok Tryz.func46 ok46) rfl ?_
  simp (disch := omega) only [s46, go_sem]
  refine CP.go (isBootAt_c ts m rd 0 hl hb hml hr) rfl (by simp [V.refsL, V.refs, refsLL_map encTask (refs_task 0) ts, refsLL_map encI (fun _ => rfl) m, refsLL_map encI (fun _ => rfl) rd]) ?_
  have S0 : Sep ([[[V.lst 4 (ts.map encTask)]], [[V.nils, .int .i64 0, .nils, .nils]]] : Heap) [.k 1 [[V.nils, .int .i64 0, .nils, .nils]], .k 0 [[V.lst 4 (ts.map encTask)]]] := ((Sep.nil []).newK _).newK _
  have bad : runOk ts m rd es = false → ∃ ids : List Nat, ids.Nodup ∧ OwnsR ([[[V.lst 4 (ts.map encTask)]], [[V.nils, .int .i64 0, .nils, .nils]]] : Heap) (.tup [.agg (encRun (runR ts m rd es)), .bool (runOk ts m rd es)]) (.tup [.agg [.nils, .int .i64 0, .nils, .nils], .bool false]) ids := fun h => by
    rw [runR, h, if_neg (by simp)]
    have A1 := Sep.cons2 (fun es e => by cases e) (Sep.sw (Sep.l0 (S0.nils (sz := 1))))
    have A2 := Sep.cons2 (fun es e => by cases e) (A1.nils (sz := 1))
    have A3 := Sep.li (k := .i64) (z := 0) A2
    have A4 := Sep.cons2 (fun es e => by cases e) (A3.nils (sz := 1))
    have A5 := Sep.cons2 (fun es e => by cases e) (Sep.sw (Sep.lb (z := false) (Sep.l0 A4.a)))
    exact A5.t.ret
  simp (disch := omega) only [go_sem, within0, Bool.and_true]
  refine condP_split (fun h1 => ?_) (fun h1 => ?_)
  case' refine_2 =>
    simp (disch := omega) only [go_sem, h1, storeH, storeB, splice]
    exact bad (by unfold runOk; rw [h1]; rfl)
  simp (disch := omega) only [go_sem, h1]
  refine condP_dec (fun h60 => ?_) (fun h60 => ?_)
  case' refine_1 =>
    simp (disch := omega) only [go_sem, h1, storeH, storeB, splice]
    refine bad ?_
    have : ¬ es.length ≤ 60 := by omega
    simp [runOk, this]
  simp (disch := omega) only [go_sem, h1]
  refine CP.go (containsI_c 113 (fun e => !energyOk e) es (fun e _ => notEnergy_c e) hel) rfl (refs_ints _ _ _ rfl) ?_
  simp (disch := omega) only [go_sem, any_energy]
  refine condP_split (fun h3 => ?_) (fun h3 => ?_)
  case' refine_2 =>
    simp (disch := omega) only [go_sem, h1, h3, any_energy, storeH, storeB, splice]
    refine bad ?_
    simp [runOk, h3]
  have hm := (Bool.and_eq_true_iff.1 h1).1
  have f := memOk_facts hm
  have pf := prog_facts f.1
  have hgood : runOk ts m rd es = true := by
    simp only [runOk, h1, h3, Bool.true_and, Bool.and_true, decide_eq_true_eq]; omega
  simp (disch := omega) only [go_sem, h1, h3, any_energy]
  refine S0.goLst (cloneI_f m (by have := f.2.1; omega)) (.same (refs_int1 _ _)) fun v1 h1 x1 S1 o1 n1 c1 => ?_
  simp (disch := omega) only [go_sem, o1, n1, c1, splice]
  have R1 : RS (h1 ++ [[[v1, .int .i64 0, .nils, .nils]]]) h1.length ⟨m, 0, [], []⟩ [.k 1 [[V.nils, .int .i64 0, .nils, .nils]], .k 0 [[V.lst 4 (ts.map encTask)]]] := ⟨v1, .nils, .nils, (((S1.newK [[v1, .int .i64 0, .nils, .nils]]).nils (sz := 1)).nils (sz := 1)).pk (A := [_, _, _, _]) [2, 3, 0, 1] rfl⟩
  refine loopP_intro (fun n s => ∃ (k : Nat) (r1 : Run), k ≤ es.length ∧ n = es.length - k ∧ runL ts rd (es.drop k) r1 = runM ts m rd es ∧ VM True ts r1.mem ∧ (0 ≤ r1.at_ ∧ r1.at_ ≤ 5000 * k) ∧ r1.used.length ≤ 10 * k ∧ r1.boots.length = k ∧ s.e 2 = .lst 1 (rd.map encI) ∧ s.e 4 = .ptr 0 1 0 0 ∧ s.e 8 = .ptr 1 1 0 0 ∧ s.e 10 = .ptr h1.length 1 0 0 ∧ s.e 32 = .lst 1 (es.map encI) ∧ s.e 33 = .int .i64 es.length ∧ s.e 34 = .int .i64 k ∧ RS s.h h1.length r1 [.k 1 [[V.nils, .int .i64 0, .nils, .nils]], .k 0 [[V.lst 4 (ts.map encTask)]]]) es.length ⟨0, ⟨m, 0, [], []⟩, by omega, by omega, rfl, memV_weak hm, by simp, by simp, rfl, by simp (disch := omega) only [go_sem, o1, n1, c1, splice], by simp (disch := omega) only [go_sem, o1, n1, c1, splice], by simp (disch := omega) only [go_sem, o1, n1, c1, splice], by simp (disch := omega) only [go_sem, o1, n1, c1, splice], by simp (disch := omega) only [go_sem, o1, n1, c1, splice], by simp (disch := omega) only [go_sem, o1, n1, c1, splice], by simp (disch := omega) only [go_sem, o1, n1, c1, splice] <;> rfl, R1⟩ ?_
  intro n ee hp' P
  refine Exists.elim P fun k P => Exists.elim P fun r1 P => ?_
  have hk := P.1
  have hn := P.2.1
  have hrl := P.2.2.1
  have hV := P.2.2.2.1
  have ha := P.2.2.2.2.1
  have hu := P.2.2.2.2.2.1
  have hbl := P.2.2.2.2.2.2.1
  have e2 := P.2.2.2.2.2.2.2.1
  have e4 := P.2.2.2.2.2.2.2.2.1
  have e8 := P.2.2.2.2.2.2.2.2.2.1
  have e10 := P.2.2.2.2.2.2.2.2.2.2.1
  have e32 := P.2.2.2.2.2.2.2.2.2.2.2.1
  have e33 := P.2.2.2.2.2.2.2.2.2.2.2.2.1
  have e34 := P.2.2.2.2.2.2.2.2.2.2.2.2.2.1
  have RR := P.2.2.2.2.2.2.2.2.2.2.2.2.2.2
  clear P
  subst hn
  simp only at e2 e4 e8 e10 e32 e33 e34 RR
  refine Exists.elim RR fun vm q => Exists.elim q fun vu q => Exists.elim q fun vb S3 => ?_
  have K3 := S3.blk 0 rfl
  have P3 := S3.blk 5 rfl
  have zm := S3.vv 1 rfl
  have zu := S3.vv 2 rfl
  have zb := S3.vv 3 rfl
  simp (disch := omega) only [go_sem, e2, e4, e8, e10, e32, e33, e34]
  refine condP_dec (fun hlt => ?_) (fun hlt => ?_)
  case' refine_2 =>
    have hke : k = es.length := by omega
    have hr1 : r1 = runR ts m rd es := by rw [hke, List.drop_length] at hrl; rw [runR, if_pos hgood]; exact hrl
    have K1 := S3.blk 4 rfl
    have S4 := ((S3.pull 4).setK [[vm, .int .i64 r1.at_, vu, vb]]).pk (A := [_, _, _, _, _, _]) [4, 3, 2] rfl
    have A0 := S4.asRow
    have A1 := Sep.cons2 (fun es e => by cases e) (Sep.sw A0)
    have A2 := Sep.li (k := .i64) (z := r1.at_) A1
    have A3 := Sep.cons2 (fun es e => by cases e) (Sep.sw A2)
    have A5 := Sep.cons2 (fun es e => by cases e) (Sep.sw (Sep.lb (z := true) (Sep.l0 A3.a)))
    have A6 := A5.t.ret
    have C1 : ∀ d, (hp'.set 1 d)[1]? = some d := fun d => heap_set _ K1
    simp (disch := omega) only [go_sem, e2, e4, e8, e10, K3, K1, C1, zm.1, zm.2.1, zm.2.2, zu.1, zu.2.1, zu.2.2, zb.1, zb.2.1, zb.2.2, storeH, storeB, splice]
    rw [← hr1, hgood]
    exact A6
  have hlt' : k < es.length := by omega
  have hdk : es.drop k = es[k] :: es.drop (k + 1) := List.drop_eq_getElem_cons hlt'
  have heb : 0 ≤ es[k] ∧ es[k] ≤ 5000 := by
    have := List.all_eq_true.1 h3 es[k] (List.getElem_mem hlt')
    simpa [energyOk, within] using this
  rw [hdk] at hrl
  have h60' : es.length ≤ 60 := by omega
  have BF := bootM_facts (rd := rd) (at_ := r1.at_) (e := es[k]) f.1 hV heb.1
  have hbf := boot_f ts r1.mem rd r1.at_ es[k] f.1 hV hr (by omega) (by omega)
  refine Exists.elim (show ∃ b, b = bootM ts r1.mem rd r1.at_ es[k] from ⟨_, rfl⟩) fun b hb => ?_
  rw [← hb] at BF hbf
  simp (disch := omega) only [go_sem, e2, e4, e8, e10, e32, e33, e34, K3, P3, zm.1, zm.2.1, zm.2.2, zu.1, zu.2.1, zu.2.2, zb.1, zb.2.1, zb.2.2, refs_task, List.getElem?_eq_getElem, hlt', List.getElem?_map, encI]
  refine S3.go hbf (.cons (.same _ (refs_prog 0 ts)) (.cons (S3.snap 1 rfl) (.cons (.same _ (by simp [V.refs, refsLL_map encI (fun _ => rfl) rd])) (.cons (.int _ _) (.cons (.int _ _) (.nil _)))))) fun r4 h4 x4 S4 => ?_
  refine Exists.elim S4.openBoot fun vm4 q => Exists.elim q fun vu4 q => ?_
  have hr4 := q.1
  have S5 := q.2
  clear q S4
  subst hr4
  have hun : runL ts rd (es[k] :: es.drop (k + 1)) r1 = runL ts rd (es.drop (k + 1)) ⟨b.mem, b.at_, r1.used ++ b.used, r1.boots ++ [(b.used.length : Int)]⟩ := by rw [hb]; rfl
  rw [hun] at hrl
  clear hun
  have S6 := S5.newK [[vm4, .int .i64 b.at_, vu4, .int .i64 b.left]]
  have T6 := S6.blk 0 rfl
  have K6 := S6.blk 3 rfl
  have z4 := S6.vv 1 rfl
  have w4 := S6.vv 2 rfl
  have len4 := fun G => (S6.lst 2 rfl).elim fun i o => o.len_ G
  simp only [List.length_map] at len4
  have S6' := (S6.pull 3).setK [[vm4, .int .i64 r1.at_, vu, vb]]
  have T6' := S6'.blk 1 rfl
  have K6' := S6'.blk 0 rfl
  have S7 := S6'.setK [[vm4, .int .i64 b.at_, vu, vb]]
  have T7 := S7.blk 1 rfl
  have K7 := S7.blk 0 rfl
  have S8 := S7.pk (A := [_, _, _, _, _, _, _]) [5, 3, 0, 1, 2, 6] rfl
  refine Exists.elim (S8.pushAll (bytes := 24) (by simp; omega)) fun v9 q => Exists.elim q fun h9 q => ?_
  have hap := q.1
  have S9 := q.2
  clear q
  rw [← List.map_append] at S9
  have z9 := S9.vv 0 rfl
  have K9 := S9.blk 1 rfl
  have S10 := (S9.pull 1).setK [[vm4, .int .i64 b.at_, v9, vb]]
  have T10 := S10.blk 2 rfl
  have K10 := S10.blk 0 rfl
  refine Exists.elim ((S10.pull 4).pushS (bytes := 8) [.int .i64 b.used.length] rfl (by simp [hbl]; omega)) fun v11 q => Exists.elim q fun h11 q => ?_
  have hap2 := q.1
  have S11 := q.2
  clear q
  rw [show r1.boots.map encI ++ [[V.int .i64 b.used.length]] = (r1.boots ++ [(b.used.length : Int)]).map encI by simp [encI]] at S11
  have z11 := S11.vv 0 rfl
  have K11 := S11.blk 1 rfl
  have S12 := (S11.pull 1).setK [[vm4, .int .i64 b.at_, v9, v11]]
  simp (disch := omega) only [go_sem, e2, e4, e8, e10, e32, e33, e34, T6, K6, z4.1, z4.2.1, z4.2.2, w4.1, w4.2.1, w4.2.2, zu.1, zu.2.1, zu.2.2, zb.1, zb.2.1, zb.2.2, storeH, storeB, splice, T6', K6', T7, K7, hap, len4, K9, z9.1, z9.2.1, z9.2.2, T10, K10, hap2, z11.1, z11.2.1, z11.2.2, K11]
  exact nextP_intro (es.length - (k + 1)) (by omega) ⟨k + 1, ⟨b.mem, b.at_, r1.used ++ b.used, r1.boots ++ [(b.used.length : Int)]⟩, by omega, rfl, hrl, BF.1, ⟨by show 0 ≤ b.at_; omega, by show b.at_ ≤ _; push_cast; omega⟩, by show (r1.used ++ b.used).length ≤ _; rw [List.length_append]; omega, by show (r1.boots ++ [(b.used.length : Int)]).length = _; simp [hbl], by simp (disch := omega) only [go_sem, e2, e4, e8, e10, e32, e33, e34, T6, K6, z4.1, z4.2.1, z4.2.2, w4.1, w4.2.1, w4.2.2, zu.1, zu.2.1, zu.2.2, zb.1, zb.2.1, zb.2.2, storeH, storeB, splice, T6', K6', T7, K7, hap, len4, K9, z9.1, z9.2.1, z9.2.2, T10, K10, hap2, z11.1, z11.2.1, z11.2.2, K11], by simp (disch := omega) only [go_sem, e2, e4, e8, e10, e32, e33, e34, T6, K6, z4.1, z4.2.1, z4.2.2, w4.1, w4.2.1, w4.2.2, zu.1, zu.2.1, zu.2.2, zb.1, zb.2.1, zb.2.2, storeH, storeB, splice, T6', K6', T7, K7, hap, len4, K9, z9.1, z9.2.1, z9.2.2, T10, K10, hap2, z11.1, z11.2.1, z11.2.2, K11], by simp (disch := omega) only [go_sem, e2, e4, e8, e10, e32, e33, e34, T6, K6, z4.1, z4.2.1, z4.2.2, w4.1, w4.2.1, w4.2.2, zu.1, zu.2.1, zu.2.2, zb.1, zb.2.1, zb.2.2, storeH, storeB, splice, T6', K6', T7, K7, hap, len4, K9, z9.1, z9.2.1, z9.2.2, T10, K10, hap2, z11.1, z11.2.1, z11.2.2, K11], by simp (disch := omega) only [go_sem, e2, e4, e8, e10, e32, e33, e34, T6, K6, z4.1, z4.2.1, z4.2.2, w4.1, w4.2.1, w4.2.2, zu.1, zu.2.1, zu.2.2, zb.1, zb.2.1, zb.2.2, storeH, storeB, splice, T6', K6', T7, K7, hap, len4, K9, z9.1, z9.2.1, z9.2.2, T10, K10, hap2, z11.1, z11.2.1, z11.2.2, K11], by simp (disch := omega) only [go_sem, e2, e4, e8, e10, e32, e33, e34, T6, K6, z4.1, z4.2.1, z4.2.2, w4.1, w4.2.1, w4.2.2, zu.1, zu.2.1, zu.2.2, zb.1, zb.2.1, zb.2.2, storeH, storeB, splice, T6', K6', T7, K7, hap, len4, K9, z9.1, z9.2.1, z9.2.2, T10, K10, hap2, z11.1, z11.2.1, z11.2.2, K11], by simp (disch := omega) only [go_sem, e2, e4, e8, e10, e32, e33, e34, T6, K6, z4.1, z4.2.1, z4.2.2, w4.1, w4.2.1, w4.2.2, zu.1, zu.2.1, zu.2.2, zb.1, zb.2.1, zb.2.2, storeH, storeB, splice, T6', K6', T7, K7, hap, len4, K9, z9.1, z9.2.1, z9.2.2, T10, K10, hap2, z11.1, z11.2.1, z11.2.2, K11], by simp (disch := omega) only [go_sem, e2, e4, e8, e10, e32, e33, e34, T6, K6, z4.1, z4.2.1, z4.2.2, w4.1, w4.2.1, w4.2.2, zu.1, zu.2.1, zu.2.2, zb.1, zb.2.1, zb.2.2, storeH, storeB, splice, T6', K6', T7, K7, hap, len4, K9, z9.1, z9.2.1, z9.2.2, T10, K10, hap2, z11.1, z11.2.1, z11.2.2, K11] <;> rfl, ⟨vm4, v9, v11, S12.pk (A := [_, _, _, _, _]) [0, 4, 2, 1] rfl⟩⟩
end Go.Av

namespace Go.Av
open Go.Proofs Go.RowKit
set_option linter.unusedVariables false
set_option linter.unusedSimpArgs false
set_option maxRecDepth 100000
set_option maxHeartbeats 8000000
theorem memVars_sf (m : List Int) (hm : m.length = 49) : F Tryz.prog 266 [.lst 1 (m.map encI)] (.lst 1 ((m.take 8).map encI)) := by
  refine C.by mixed (cfn_ok Tryz.func266 ok266) rfl ?_
  have hap := appendH_n (h := [[]]) (sz := 1) (bytes := 8) (id := 0) (n := 0) (m := 8) (b := []) (xs := (m.take 8).map encI) (x := .lst 1 ((m.take 8).map encI)) rfl rfl rfl (by simp; omega) (by omega)
  simp (disch := omega) only [s266, go_sem, hm, hap]
  have S0 : Sep ([(m.take 8).map encI] : Heap) [.k 0 ((m.take 8).map encI)] := (Sep.nil []).newK _
  exact (S0.ofFlat (sz := 1) (n := 8) (by simp; omega) (flat_encI _)).ret
theorem traceS_f (ts : List Task) (m rd : List Int) (at_ task c tail : Int) (hp : programOk ts = true) (hm : MemT ts.length m task c tail) (hr : rd.length ≤ 9223372036854775807) (ha : 0 ≤ at_ ∧ at_ ≤ 1000000) :
    F Tryz.prog 250 [.agg [.lst 4 (ts.map encTask)], .lst 1 (m.map encI), .lst 1 (rd.map encI), .int .i64 at_] (.agg [.lst 3 ((traceS ts m rd at_ task tail).map encMicro), .lst 1 ((traceU ts m rd at_ task tail).map encI)]) := by
  have pf := prog_facts hp
  have htl : task.toNat < ts.length := by have := hm.t0; have := hm.t1; omega
  have hta := taskAt_some htl
  have hmem : taskAt ts task ∈ ts := by rw [← taskAt_eq htl]; exact List.getElem_mem _
  have htk := pf.2 _ hmem
  have hte := task_facts htk.1
  have htr := treeOf_ok hte.1
  have hg8 : m[8]? = some (gtI m 8) := gtI_some (by rw [hm.len]; omega)
  have hnn : maxCnt = 282429536481 := rfl
  have hml := hm.len
  have tail0 := hm.l0
  have tail1 := hm.l1
  have task0 := hm.t0
  refine C.by mixed (cfn_ok Tryz.func250 ok250) rfl ?_
  simp (disch := omega) only [s250, go_sem, hml, hg8, List.getElem?_map, encI, gtI_get]
  refine CP.go (unpack_s _) rfl rfl ?_
  have S0 : Sep ([[[V.lst 4 (ts.map encTask)]], [[V.nils, .nils]]] : Heap) [.k 1 [[V.nils, .nils]], .k 0 [[V.lst 4 (ts.map encTask)]]] := ((Sep.nil []).newK _).newK _
  simp (disch := omega) only [go_sem, encU, hm.ctl, encTask, List.getElem?_map, hta, taskAt_eq]
  refine S0.goLst (log_s (treeOf (taskAt ts task).body) (taskAt ts task).body (taskAt ts task).next htr.1 htr.2.1 hte.1 hte.2) (.same (refs_task1 _ (taskAt ts task))) fun v1 h1 x1 S1 o1 n1 c1 => ?_
  have hX : mustOf (taskAt ts task) = logT (treeOf (taskAt ts task).body) (taskAt ts task).next := rfl
  have hml8 : (mustOf (taskAt ts task)).length ≤ 8 := by rw [hX]; exact log_len _ _
  rw [← hX] at S1
  have S2 := S1.newK [[.nils, .nils, .nils, .nils, .nils, .int .i64 0, .bool false, .nils, v1, .nils, .int .i64 task, .int .i64 tail]]
  simp (disch := omega) only [go_sem, o1, n1, c1, splice]
  refine S2.goLst (memVars_sf m hm.len) (.same (refs_int1 _ _)) fun v2 h2 x2 S3 o2 n2 c2 => ?_
  have h8 : ((m.take 8).map encI).length = 8 := by simp; omega
  refine Exists.elim (show ∃ q, v2 = .own q 1 0 8 8 ∧ Sep h2 [.k q ((m.take 8).map encI), .k h1.length [[.nils, .nils, .nils, .nils, .nils, .int .i64 0, .bool false, .nils, v1, .nils, .int .i64 task, .int .i64 tail]], .v (.lst 1 ((mustOf (taskAt ts task)).map encI)) v1, .k 1 [[V.nils, .nils]], .k 0 [[V.lst 4 (ts.map encTask)]]] from ?_) fun vid z => ?_
  · rcases S3.flat_ (flat_encI _) with ⟨a, b, c⟩ | ⟨q, a, b⟩
    · rw [b] at h8; simp at h8
    · rw [h8] at a; exact ⟨q, a, b⟩
  have z1 := z.1
  have S3' := z.2
  clear z S3
  subst z1
  have K3 := S3'.blk 1 rfl
  have P3 := S3'.blk 4 rfl
  have S4 := (S3'.pull 1).setK [[.own vid 1 0 8 8, .nils, .nils, .nils, .lst 1 (rd.map encI), .int .i64 at_, .bool true, .nils, v1, .nils, .int .i64 task, .int .i64 tail]]
  have P4 := S4.blk 4 rfl
  have S5 := (((S4.nils (sz := 1)).nils (sz := 1)).nils (sz := 1)).nils (sz := 3)
  have K0 : KeepX (mustOf (taskAt ts task)) task tail rd at_ h1.length 0 ⟨m.take 8, [], [], [], []⟩ [.k 1 [[V.nils, .nils]], .k 0 [[V.lst 4 (ts.map encTask)]]] (h2.set h1.length [[.own vid 1 0 8 8, .nils, .nils, .nils, .lst 1 (rd.map encI), .int .i64 at_, .bool true, .nils, v1, .nils, .int .i64 task, .int .i64 tail]]) := by
    refine ⟨by simp, .nils, .nils, .nils, .nils, v1, vid, ⟨by simp; omega, hm.val⟩, ?_⟩
    exact S5.pk (A := [_, _, _, _, _, _, _, _, _]) (L := []) [4, 0, 1, 2, 3, 6, 5, 7, 8] rfl
  simp (disch := omega) only [go_sem, K3, P3, P4, o1, n1, c1, storeH, storeB, splice, encTask, List.getElem?_map, hta, taskAt_eq]
  have hbl : ((taskAt ts task).body.length : Int) = ((0 : Nat) : Int) + (treeOf (taskAt ts task).body).flat.length := by
    have := congrArg List.length htr.2.1; omega
  have hcm := cntT_max (t := treeOf (taskAt ts task).body) (by rw [← htr.2.1]; exact htr.2.2)
  refine C.go (execS_c (by omega) ⟨tail0, tail1⟩ hr ha (treeOf (taskAt ts task).body) (taskAt ts task).body 0 _ _ [] 0 _ _ _ rfl hbl htr.1 (by rw [List.append_nil]; exact htr.2.1) htr.2.2 (by omega) K0) ?_
  intro r5 h5 P
  have hr5 := P.1
  refine Exists.elim P.2 fun n' P => ?_
  have hn' := P.1
  have K5 := P.2
  clear P
  subst hr5
  refine Exists.elim (show ∃ σ, σ = runT (taskAt ts task) task tail rd at_ (m.take 8) from ⟨_, rfl⟩) fun σ hσ => ?_
  have hσ' : runG (stepT (mustOf (taskAt ts task)) task tail rd at_) holdT (treeOf (taskAt ts task).body) ⟨m.take 8, [], [], [], []⟩ = σ := hσ.symm
  rw [hσ'] at K5
  have hb5 := K5.1
  have T5 := K5.2
  clear K5 K0 S5 S4 S3' S2 S1
  simp (disch := omega) only [go_sem, K3, P3, P4, o1, n1, c1, storeH, storeB, splice, encTask, List.getElem?_map, hta, taskAt_eq]
  refine C.go (stepX_c 1 T5 (by omega)) ?_
  rintro r6 h6 ⟨rfl, T6⟩
  have T6' := T6
  refine Exists.elim T6 fun vs6 T => Exists.elim T fun vu6 T => Exists.elim T fun vl6 T => Exists.elim T fun vn6 T => Exists.elim T fun vm6 T => Exists.elim T fun vid6 T => ?_
  have f6 := T.1
  have S6 := T.2
  clear T T6
  have X6 := S6.blk 0 rfl
  have G6 := S6.blk 8 rfl
  have zn := S6.vv 4 rfl
  have lenn := fun G => (S6.lst 4 rfl).elim fun i o => o.len_ G
  simp only [List.length_map] at lenn
  have hs6 : (σ.add [⟨1, -1, 0⟩]).sent = σ.sent := rfl
  rw [hs6] at lenn
  have hsl : σ.sent.length ≤ 282429536481 := by omega
  simp (disch := omega) only [go_sem, X6, G6, refs_task, zn.1, zn.2.1, zn.2.2, lenn]
  refine CP.goS (nextS_c ts σ.vars task hp f6.2 f6.1 ⟨task0, hm.t1⟩) rfl rfl (.cons (.same _ (refs_prog 0 ts)) (.cons (Snap.flatN (S6.blk 6 rfl) (by rw [List.length_map]; exact f6.1) (flat_encI _)) (.cons (.int _ _) (.nil _)))) ?_
  simp (disch := omega) only [go_sem, X6, G6, refs_task, zn.1, zn.2.1, zn.2.2, lenn]
  refine CP.go (pack_s _ _ _) rfl rfl ?_
  simp (disch := omega) only [go_sem, X6, G6, refs_task, zn.1, zn.2.1, zn.2.2, lenn]
  refine C.go (writeX_c 8 (packM (nextM ts σ.vars task) 0 (min 24 (tail + σ.sent.length))) T6' (by simp [TS.add]; omega)) ?_
  rintro r7 h7 ⟨rfl, T7⟩
  refine Exists.elim T7 fun vs7 T => Exists.elim T fun vu7 T => Exists.elim T fun vl7 T => Exists.elim T fun vn7 T => Exists.elim T fun vm7 T => Exists.elim T fun vid7 T => ?_
  have f7 := T.1
  have S7 := T.2
  clear T T7
  have e1 : ((σ.add [⟨1, -1, 0⟩]).add [⟨3, 8, packM (nextM ts σ.vars task) 0 (min 24 (tail + σ.sent.length))⟩]).steps = traceS ts m rd at_ task tail := by
    unfold traceS traceEnd; rw [← hσ]; simp [TS.add]
  have e2 : ((σ.add [⟨1, -1, 0⟩]).add [⟨3, 8, packM (nextM ts σ.vars task) 0 (min 24 (tail + σ.sent.length))⟩]).used = traceU ts m rd at_ task tail := by
    unfold traceU; rw [← hσ]; rfl
  rw [e1, e2] at S7
  have X7 := S7.blk 0 rfl
  have zs := S7.vv 1 rfl
  have zu := S7.vv 2 rfl
  have hul : (traceU ts m rd at_ task tail).length ≤ 282429536481 := by rw [← e2]; show σ.used.length ≤ _; omega
  have S8 := (S7.newK []).ofFlat (sz := 1) (n := 0) rfl rfl
  have S8' := S8.pk (A := [_, _, _, _]) [0, 3, 1, 2] rfl
  refine Exists.elim (S8'.pushAll (bytes := 8) (by simp; omega)) fun v9 q => Exists.elim q fun h9 q => ?_
  have hap := q.1
  have S9 := q.2
  clear q
  rw [List.nil_append] at S9
  have z9 := S9.vv 0 rfl
  have Z9 := S9.blk 7 rfl
  have X9 := S9.blk 1 rfl
  have c9 : ∀ d, (h9.set 1 d)[1]? = some d := fun d => heap_set _ Z9
  have X7' := fun t => heap_app (h' := t) X7
  simp (disch := omega) only [go_sem, X7, X7', X9, zs.1, zs.2.1, zs.2.2, zu.1, zu.2.1, zu.2.2, hap, z9.1, z9.2.1, z9.2.2, storeH, storeB, splice, c9, Z9]
  have S10 := ((S9.pull 7).setK [[vs7, v9]]).pk (A := [_, _, _, _]) [1, 3] rfl
  have A1 := Sep.cons2 (fun es e => by cases e) (Sep.sw (Sep.l0 S10))
  exact ((Sep.cons2 (fun es e => by cases e) (Sep.sw A1)).a).ret
end Go.Av

namespace Go.Av
open Go.Proofs Go.RowKit
set_option linter.unusedVariables false
set_option linter.unusedSimpArgs false
set_option maxRecDepth 100000
set_option maxHeartbeats 4000000
def isSense (m : Micro) : Bool := decide (m.at_ = -1) && decide (m.cost = 5)
def sensM (ms : List Micro) : Nat := ms.countP isSense
theorem sensM_take {ms : List Micro} {k : Nat} (h : k < ms.length) : sensM (ms.take (k + 1)) = sensM (ms.take k) + (if isSense ms[k] = true then 1 else 0) := by
  unfold sensM
  rw [List.take_succ_eq_append_getElem h, List.countP_append, List.countP_singleton]
theorem sensM_le (ms : List Micro) : sensM ms ≤ ms.length := List.countP_le_length
theorem senses_s (ms : List Micro) (us : List Int) (n : Nat) (hn : n ≤ ms.length) (hl : ms.length ≤ 9223372036854775807) : CP Tryz.prog 252 [.agg [.lst 3 (ms.map encMicro), .lst 1 (us.map encI)], .int .i64 n] (.int .i64 (sensM (ms.take n))) [] := by
  refine CP.by rfl mixed (cfn_ok Tryz.func252 ok252) rfl ?_
  simp (disch := omega) only [s252, go_sem]
  refine loopP_intro (fun m s => ∃ k : Nat, k ≤ n ∧ m = n - k ∧ s.e 1 = .int .i64 n ∧ s.e 2 = .ptr 0 1 0 0 ∧ s.e 5 = .int .i64 (sensM (ms.take k)) ∧ s.e 6 = .int .i64 k ∧ s.h[0]? = some [[.lst 3 (ms.map encMicro), .lst 1 (us.map encI)]]) n ⟨0, by omega, by omega, by simp (disch := omega) only [go_sem], by simp (disch := omega) only [go_sem], by simp (disch := omega) only [go_sem] <;> rfl, by simp (disch := omega) only [go_sem] <;> rfl, by simp (disch := omega) only [go_sem]⟩ ?_
  rintro m e hp ⟨k, hk, rfl, e1, e2, e5, e6, h0⟩
  simp only at e1 e2 e5 e6 h0
  simp (disch := omega) only [go_sem, e1, e2, e5, e6, h0, encMicro, List.getElem?_map]
  refine condP_dec (fun hlt => ?_) (fun hlt => ?_)
  · have hlt' : k < ms.length := by omega
    have hs := sensM_take hlt'
    have hle := sensM_le (ms.take k)
    rw [List.length_take] at hle
    simp (disch := omega) only [go_sem, e1, e2, e5, e6, h0, encMicro, List.getElem?_map]
    refine condP_dec (fun h => ?_) (fun h => ?_)
    · simp (disch := omega) only [go_sem, e1, e2, e5, e6, h0, encMicro, List.getElem?_map, h]
      refine condP_dec (fun h5 => ?_) (fun h5 => ?_)
      · have h' : isSense ms[k] = true := by simp [isSense, h, h5]
        rw [if_pos h'] at hs
        simp (disch := omega) only [go_sem, e1, e2, e5, e6, h0, encMicro]
        refine nextP_intro (n - (k + 1)) (by omega) ⟨k + 1, by omega, rfl, by simp (disch := omega) only [go_sem, e1, e2, e5, e6, h0, encMicro], by simp (disch := omega) only [go_sem, e1, e2, e5, e6, h0, encMicro], by rw [hs]; simp (disch := omega) only [go_sem, e1, e2, e5, e6, h0, encMicro] <;> rfl, by simp (disch := omega) only [go_sem, e1, e2, e5, e6, h0, encMicro] <;> rfl, h0⟩
      · have h' : ¬ isSense ms[k] = true := by simp [isSense, h, h5]
        rw [if_neg h', Nat.add_zero] at hs
        simp (disch := omega) only [go_sem, e1, e2, e5, e6, h0, encMicro]
        refine nextP_intro (n - (k + 1)) (by omega) ⟨k + 1, by omega, rfl, by simp (disch := omega) only [go_sem, e1, e2, e5, e6, h0, encMicro], by simp (disch := omega) only [go_sem, e1, e2, e5, e6, h0, encMicro], by rw [hs]; simp (disch := omega) only [go_sem, e1, e2, e5, e6, h0, encMicro], by simp (disch := omega) only [go_sem, e1, e2, e5, e6, h0, encMicro] <;> rfl, h0⟩
    · have h' : ¬ isSense ms[k] = true := by simp [isSense, h]
      rw [if_neg h', Nat.add_zero] at hs
      simp (disch := omega) only [go_sem, e1, e2, e5, e6, h0, encMicro, h]
      refine nextP_intro (n - (k + 1)) (by omega) ⟨k + 1, by omega, rfl, by simp (disch := omega) only [go_sem, e1, e2, e5, e6, h0, encMicro, h], by simp (disch := omega) only [go_sem, e1, e2, e5, e6, h0, encMicro, h], by rw [hs]; simp (disch := omega) only [go_sem, e1, e2, e5, e6, h0, encMicro, h], by simp (disch := omega) only [go_sem, e1, e2, e5, e6, h0, encMicro, h] <;> rfl, h0⟩
  · have hkn : k = n := by omega
    subst hkn
    simp (disch := omega) only [go_sem, e1, e2, e5, e6, h0]
end Go.Av

namespace Go.Av
open Go.Proofs Go.RowKit
set_option linter.unusedVariables false
set_option linter.unusedSimpArgs false
set_option maxRecDepth 100000
set_option maxHeartbeats 4000000
def goM : List Micro → Int → Nat
  | [], _ => 0
  | m :: ms, e => if e < m.cost then 0 else 1 + goM ms (e - m.cost)
theorem and_low {a : Int} (h : 0 ≤ a ∧ a ≤ 4294967295) : andI a 4294967295 = a := by
  have e : (BitVec.ofInt (IntKind.bits .i64) a &&& BitVec.ofInt (IntKind.bits .i64) 4294967295).toNat = a.toNat := by
    rw [BitVec.toNat_and]
    have h1 : (BitVec.ofInt (IntKind.bits .i64) a).toNat = a.toNat := by
      rw [BitVec.toNat_ofInt]
      have : IntKind.bits .i64 = 64 := rfl
      rw [this]; omega
    have h2 : (BitVec.ofInt (IntKind.bits .i64) 4294967295).toNat = 2 ^ 32 - 1 := by decide
    rw [h1, h2, Nat.and_two_pow_sub_one_eq_mod]
    omega
  unfold andI
  rw [e, wrap64 (by omega) (by omega)]
  omega
theorem shr_low {a : Int} (h : 0 ≤ a ∧ a ≤ 4294967295) : a.fdiv (2 ^ Nat.min 32 64) = 0 := by
  show a.fdiv 4294967296 = 0
  rw [Int.fdiv_eq_ediv_of_nonneg _ (by omega)]
  omega
theorem count_s (ms : List Micro) (us : List Int) (e0 : Int) (he : 0 ≤ e0 ∧ e0 ≤ 1000000) (hc : ∀ x ∈ ms, 1 ≤ x.cost ∧ x.cost ≤ 5) (hl : ms.length ≤ 9223372036854775807) : CP Tryz.prog 251 [.agg [.lst 3 (ms.map encMicro), .lst 1 (us.map encI)], .int .i64 e0] (.int .i64 (goM ms e0)) [] := by
  refine CP.by rfl mixed (cfn_ok Tryz.func251 ok251) rfl ?_
  simp (disch := omega) only [s251, go_sem]
  refine loopP_intro (fun m s => ∃ (k : Nat) (w : Int), k ≤ ms.length ∧ m = ms.length - k ∧ (0 ≤ w ∧ w ≤ e0) ∧ goM (ms.drop k) (e0 - w) + k = goM ms e0 ∧ s.e 1 = .int .i64 e0 ∧ s.e 2 = .ptr 0 1 0 0 ∧ s.e 5 = .int .i64 k ∧ s.e 6 = .int .i64 w ∧ s.e 7 = .int .i64 0 ∧ s.h[0]? = some [[.lst 3 (ms.map encMicro), .lst 1 (us.map encI)]]) ms.length ⟨0, 0, by omega, by omega, by omega, by simp, by simp (disch := omega) only [go_sem], by simp (disch := omega) only [go_sem], by simp (disch := omega) only [go_sem] <;> rfl, by simp (disch := omega) only [go_sem], by simp (disch := omega) only [go_sem], by simp (disch := omega) only [go_sem]⟩ ?_
  rintro m e hp ⟨k, w, hk, rfl, hw, hg, e1, e2, e5, e6, e7, h0⟩
  simp only at e1 e2 e5 e6 e7 h0
  simp (disch := omega) only [go_sem, e1, e2, e5, e6, e7, h0, encMicro, List.getElem?_map]
  refine condP_dec (fun hlt => ?_) (fun hlt => ?_)
  · have hlt' : k < ms.length := by omega
    have hcb := hc _ (List.getElem_mem hlt')
    have a1 := and_low (a := ms[k].cost) (by omega)
    have a2 := shr_low (a := ms[k].cost) (by omega)
    have a3 := shr_low (a := w + ms[k].cost) (by omega)
    have a4 := and_low (a := w + ms[k].cost) (by omega)
    have a5 := shr_low (a := e0) (by omega)
    have a6 := and_low (a := e0) (by omega)
    have hun : goM (ms.drop k) (e0 - w) = if e0 - w < ms[k].cost then 0 else 1 + goM (ms.drop (k + 1)) (e0 - w - ms[k].cost) := by
      rw [List.drop_eq_getElem_cons hlt']; rfl
    simp (disch := omega) only [go_sem, e1, e2, e5, e6, e7, h0, encMicro, List.getElem?_map, a1, a2, a3, a4, a5, a6]
    refine condP_dec (fun hgo => ?_) (fun hgo => ?_)
    · rw [hun, if_pos (by omega)] at hg
      simp (disch := omega) only [go_sem, e1, e2, e5, e6, e7, h0]
      rw [← hg]; simp
    · rw [hun, if_neg (by omega)] at hg
      simp (disch := omega) only [go_sem, e1, e2, e5, e6, e7, h0]
      refine nextP_intro (ms.length - (k + 1)) (by omega) ⟨k + 1, w + ms[k].cost, by omega, rfl, by omega, by rw [← hg, show e0 - (w + ms[k].cost) = e0 - w - ms[k].cost by omega]; omega, by simp (disch := omega) only [go_sem, e1, e2, e5, e6, e7, h0], by simp (disch := omega) only [go_sem, e1, e2, e5, e6, e7, h0], by simp (disch := omega) only [go_sem, e1, e2, e5, e6, e7, h0] <;> rfl, by simp (disch := omega) only [go_sem, e1, e2, e5, e6, e7, h0], by simp (disch := omega) only [go_sem, e1, e2, e5, e6, e7, h0], h0⟩
  · simp (disch := omega) only [go_sem, e1, e2, e5, e6, e7, h0]
    rw [List.drop_eq_nil_of_le (by omega)] at hg
    have : goM [] (e0 - w) = 0 := rfl
    rw [← hg, this]; simp
end Go.Av

namespace Go.Av
set_option linter.unusedVariables false
set_option linter.unusedSimpArgs false
def stepsB (ms : List Micro) (b : BT) : BT := ms.foldl (fun b m => stepB m b) b
theorem goM_le : ∀ (ms : List Micro) (e : Int), goM ms e ≤ ms.length
  | [], e => Nat.le_refl _
  | m :: ms, e => by
    unfold goM
    have := goM_le ms (e - m.cost)
    split <;> simp <;> omega
theorem taskM_go : ∀ (ms : List Micro) (b : BT), taskM ms b = (decide (goM ms b.left = ms.length), stepsB (ms.take (goM ms b.left)) b)
  | [], b => rfl
  | m :: ms, b => by
    unfold taskM goM
    split
    · simp [stepsB]
    · rw [taskM_go ms (stepB m b)]
      have e : (stepB m b).left = b.left - m.cost := rfl
      rw [e, Nat.add_comm 1, List.take_succ_cons, List.length_cons]
      simp [stepsB]
def writesM (ws : List Wr) (m : List Int) : List Int := ws.foldl (fun m w => m.set w.at_.toNat w.val) m
theorem recoverM_go : ∀ (ws : List Wr) (b : BT), 0 ≤ b.left → recoverM ws b = (decide (min ws.length (b.left / 3).toNat = ws.length), { b with left := b.left - 3 * (min ws.length (b.left / 3).toNat : Nat), mem := writesM (ws.take (min ws.length (b.left / 3).toNat)) b.mem })
  | [], b, h => by simp [recoverM, writesM]
  | w :: ws, b, h => by
    unfold recoverM
    split
    · have e : (b.left / 3).toNat = 0 := by omega
      rw [e]
      simp [writesM]
    · have ih := recoverM_go ws { b with left := b.left - 3, mem := b.mem.set w.at_.toNat w.val } (by show 0 ≤ b.left - 3; omega)
      rw [ih]
      have e : min (w :: ws).length (b.left / 3).toNat = min ws.length ((b.left - 3) / 3).toNat + 1 := by
        simp only [List.length_cons]; omega
      rw [e, List.take_succ_cons, List.length_cons]
      have d : decide (min ws.length ((b.left - 3) / 3).toNat + 1 = ws.length + 1) = decide (min ws.length ((b.left - 3) / 3).toNat = ws.length) := by simp
      rw [d]
      refine congrArg (Prod.mk _) ?_
      simp only [writesM, List.foldl_cons]
      congr 1
      push_cast; omega
end Go.Av

namespace Go.Av
open Go.Proofs Go.RowKit
set_option linter.unusedVariables false
set_option linter.unusedSimpArgs false
set_option maxRecDepth 100000
set_option maxHeartbeats 4000000
theorem writesM_len : ∀ (ws : List Wr) (m : List Int), (writesM ws m).length = m.length
  | [], m => rfl
  | w :: ws, m => by
    show (writesM ws (m.set w.at_.toNat w.val)).length = _
    rw [writesM_len ws]; simp
theorem writesM_take {ws : List Wr} {k : Nat} (h : k < ws.length) (m : List Int) : writesM (ws.take (k + 1)) m = (writesM (ws.take k) m).set ws[k].at_.toNat ws[k].val := by
  unfold writesM
  rw [List.take_succ_eq_append_getElem h, List.foldl_append]; rfl
theorem apply_sf (m : List Int) (ws : List Wr) (n : Nat) (hm : m.length = 49) (hn : n ≤ ws.length) (hl : ws.length ≤ 1048576) (hw : ∀ w ∈ ws, 0 ≤ w.at_ ∧ w.at_ ≤ 48) : F Tryz.prog 249 [.lst 1 (m.map encI), .lst 2 (ws.map encW), .int .i64 n] (.lst 1 ((writesM (ws.take n) m).map encI)) := by
  refine C.by mixed (cfn_ok Tryz.func249 ok249) rfl ?_
  have hap := appendH_n (h := [[]]) (sz := 1) (bytes := 8) (id := 0) (n := 0) (m := 49) (b := []) (xs := m.map encI) (x := .lst 1 (m.map encI)) rfl rfl rfl (by simpa using hm) (by omega)
  simp (disch := omega) only [s249, go_sem, hap]
  have h49 : (0 : Nat) + 49 = 49 := rfl
  have S0 : Sep ([m.map encI] : Heap) [.k 0 (m.map encI)] := (Sep.nil []).newK _
  refine loopP_intro (fun q s => ∃ k : Nat, k ≤ n ∧ q = n - k ∧ s.e 0 = .lst 1 (m.map encI) ∧ s.e 1 = .lst 2 (ws.map encW) ∧ s.e 2 = .int .i64 n ∧ s.e 7 = .own 0 1 0 49 49 ∧ s.e 8 = .int .i64 k ∧ Sep s.h [.k 0 ((writesM (ws.take k) m).map encI)]) n ⟨0, by omega, by omega, by simp (disch := omega) only [go_sem, hap], by simp (disch := omega) only [go_sem, hap], by simp (disch := omega) only [go_sem, hap], by simp (disch := omega) only [go_sem, hap] <;> rfl, by simp (disch := omega) only [go_sem, hap] <;> rfl, by simpa [writesM] using S0⟩ ?_
  rintro q e hp ⟨k, hk, rfl, e0, e1, e2, e7, e8, S1⟩
  simp only at e0 e1 e2 e7 e8 S1
  simp (disch := omega) only [go_sem, e0, e1, e2, e7, e8]
  have hlenk := writesM_len (ws.take k) m
  have done : k = n → ∃ ids : List Nat, ids.Nodup ∧ OwnsR hp (.lst 1 ((writesM (ws.take n) m).map encI)) (.own 0 1 0 49 49) ids := fun e => by
    subst e
    exact (S1.ofFlat (sz := 1) (n := 49) (by rw [List.length_map, hlenk, hm]) (flat_encI _)).ret
  refine condP_dec (fun hlt => ?_) (fun hlt => ?_)
  case' refine_2 =>
    have hkn : k = n := by omega
    simp (disch := omega) only [go_sem, e0, e1, e2, e7, e8]
    exact done hkn
  have hlt' : k < ws.length := by omega
  have hwk := hw _ (List.getElem_mem hlt')
  simp (disch := omega) only [go_sem, e0, e1, e2, e7, e8]
  refine condP_dec (fun hlt2 => ?_) (fun hlt2 => ?_)
  case' refine_2 =>
    have hkn : k = n := by omega
    simp (disch := omega) only [go_sem, e0, e1, e2, e7, e8]
    exact done hkn
  simp (disch := omega) only [go_sem, e0, e1, e2, e7, e8, encW, List.getElem?_map]
  refine CP.go (l01In_c ws[k].at_ 0 _) rfl rfl ?_
  have hin : within ws[k].at_ 0 ((m.length : Int) - 1) = true := by simp [within]; omega
  have st := store_i (z := ws[k].val) (i := ws[k].at_.toNat) (S1.blk 0 rfl) (hlenk.trans hm) (by omega)
  have S2 := S1.setK (((writesM (ws.take k) m).set ws[k].at_.toNat ws[k].val).map encI)
  rw [← writesM_take hlt'] at S2
  simp (disch := omega) only [go_sem, e0, e1, e2, e7, e8, encW, List.getElem?_map, hin, st]
  exact nextP_intro (n - (k + 1)) (by omega) ⟨k + 1, by omega, rfl, by simp (disch := omega) only [go_sem, e0, e1, e2, e7, e8, encW, List.getElem?_map, hin, st], by simp (disch := omega) only [go_sem, e0, e1, e2, e7, e8, encW, List.getElem?_map, hin, st], by simp (disch := omega) only [go_sem, e0, e1, e2, e7, e8, encW, List.getElem?_map, hin, st], by simp (disch := omega) only [go_sem, e0, e1, e2, e7, e8, encW, List.getElem?_map, hin, st], by simp (disch := omega) only [go_sem, e0, e1, e2, e7, e8, encW, List.getElem?_map, hin, st] <;> rfl, by rw [← writesM_take hlt']; exact S2⟩
end Go.Av

namespace Go.Av
open Go.Proofs Go.RowKit
set_option linter.unusedVariables false
set_option linter.unusedSimpArgs false
set_option maxRecDepth 100000
set_option maxHeartbeats 8000000
theorem stepsB_take {ms : List Micro} {k : Nat} (h : k < ms.length) (b : BT) : stepsB (ms.take (k + 1)) b = stepB ms[k] (stepsB (ms.take k) b) := by
  unfold stepsB
  rw [List.take_succ_eq_append_getElem h, List.foldl_append]; rfl
theorem stepsB_used : ∀ (ms : List Micro) (b : BT), (stepsB ms b).used = b.used
  | [], b => rfl
  | m :: ms, b => stepsB_used ms (stepB m b)
theorem stepsB_len : ∀ (ms : List Micro) (b : BT), (stepsB ms b).mem.length = b.mem.length
  | [], b => rfl
  | m :: ms, b => by
    show (stepsB ms (stepB m b)).mem.length = _
    rw [stepsB_len ms]
    show (if m.at_ = -1 then b.mem else b.mem.set m.at_.toNat m.val).length = _
    split <;> simp
theorem stepsB_at : ∀ (ms : List Micro) (b : BT), (stepsB ms b).at_ = b.at_ + sensM ms
  | [], b => by simp [stepsB, sensM]
  | m :: ms, b => by
    show (stepsB ms (stepB m b)).at_ = _
    rw [stepsB_at ms]
    show (if m.at_ = -1 ∧ m.cost = 5 then b.at_ + 1 else b.at_) + _ = _
    have e : sensM (m :: ms) = sensM ms + (if isSense m = true then 1 else 0) := by unfold sensM; rw [List.countP_cons]
    rw [e]
    by_cases q : m.at_ = -1 ∧ m.cost = 5
    · rw [if_pos q, if_pos (by simp [isSense, q])]; push_cast; omega
    · rw [if_neg q, if_neg (by simpa [isSense] using q)]; push_cast; omega
theorem stepsB_left : ∀ (ms : List Micro) (b : BT) (i : Nat), (∀ x ∈ ms, 1 ≤ x.cost ∧ x.cost ≤ 5) → 0 ≤ b.left → i ≤ goM ms b.left → 0 ≤ (stepsB (ms.take i) b).left ∧ (stepsB (ms.take i) b).left ≤ b.left
  | [], b, i, _, h, _ => by simpa [stepsB] using h
  | m :: ms, b, 0, _, h, _ => by simpa [stepsB] using h
  | m :: ms, b, i + 1, hc, h, hi => by
    have hm := hc m (by simp)
    unfold goM at hi
    split at hi
    · omega
    · have ih := stepsB_left ms (stepB m b) i (fun x hx => hc x (by simp [hx])) (by show 0 ≤ b.left - m.cost; omega) (by show i ≤ goM ms (b.left - m.cost); omega)
      have e : stepsB ((m :: ms).take (i + 1)) b = stepsB (ms.take i) (stepB m b) := rfl
      rw [e]
      have e2 : (stepB m b).left = b.left - m.cost := rfl
      omega
theorem bootS_f (ts : List Task) (m rd : List Int) (at_ e : Int) (hp : programOk ts = true) (hv : VM True ts m) (hr : rd.length ≤ 9223372036854775807) (ha : 0 ≤ at_ ∧ at_ ≤ 500000) (he : 0 ≤ e ∧ e ≤ 100000) :
    F Tryz.prog 228 [.agg [.lst 4 (ts.map encTask)], .lst 1 (m.map encI), .lst 1 (rd.map encI), .int .i64 at_, .int .i64 e] (.agg (encBoot (bootM ts m rd at_ e))) := by
  have hok : memOkM ts m = true := by obtain ⟨t, c, l, _, h⟩ := hv; exact h.ok hp
  have hm := (memOk_facts hok).2.1
  have rb := recM_bd hok
  refine C.by mixed (cfn_ok Tryz.func228 ok228) rfl ?_
  simp (disch := omega) only [s228, go_sem, splice]
  have S0 : Sep ([[[V.lst 4 (ts.map encTask)]], [[V.nils, .int .i64 0, .nils, .int .i64 0]], [[V.nils, .int .i64 at_, .nils, .int .i64 e]]] : Heap) [.k 2 [[V.nils, .int .i64 at_, .nils, .int .i64 e]], .k 1 [[V.nils, .int .i64 0, .nils, .int .i64 0]], .k 0 [[V.lst 4 (ts.map encTask)]]] := (((Sep.nil []).newK _).newK _).newK _
  refine S0.goLst (rec_sf ts m hok) (.same (refs_int1 _ _)) fun v1 h1 x1 S1 o1 n1 c1 => ?_
  have len1 := fun G => (S1.lst 0 rfl).elim fun i o => o.len_ G
  simp only [List.length_map] at len1
  have hdiv : e.tdiv 3 = e / 3 := Int.tdiv_eq_ediv_of_nonneg he.1
  refine Exists.elim (show ∃ n : Nat, n = min (recM m).length (e / 3).toNat from ⟨_, rfl⟩) fun n hn => ?_
  have hmin : min ((recM m).length : Int) (e / 3) = (n : Int) := by omega
  simp (disch := omega) only [go_sem, o1, n1, c1, len1, hdiv, hmin]
  refine S1.goLst (apply_sf m (recM m) n hm (by omega) (by omega) (fun w hw => by have := rb.2 w hw; omega)) (.cons (.same _ (by simp [V.refs, refsLL_map encI (fun _ => rfl) m])) (.cons (S1.snap 0 rfl) (.cons (.int _ _) (.nil _)))) fun v2 h2 x2 S2 o2 n2 c2 => ?_
  have h49 : ((writesM ((recM m).take n) m).map encI).length = 49 := by rw [List.length_map, writesM_len, hm]
  refine Exists.elim (show ∃ q, v2 = .own q 1 0 49 49 ∧ Sep h2 [.k q ((writesM ((recM m).take n) m).map encI), .v (.lst 2 ((recM m).map encW)) v1, .k 2 [[V.nils, .int .i64 at_, .nils, .int .i64 e]], .k 1 [[V.nils, .int .i64 0, .nils, .int .i64 0]], .k 0 [[V.lst 4 (ts.map encTask)]]] from ?_) fun mid z => ?_
  · rcases S2.flat_ (flat_encI _) with ⟨a, b, c⟩ | ⟨q, a, b⟩
    · rw [b] at h49; simp at h49
    · rw [h49] at a; exact ⟨q, a, b⟩
  have z1 := z.1
  have S2' := z.2
  clear z S2
  subst z1
  have K2 := S2'.blk 2 rfl
  have S3 := (S2'.pull 2).setK [[.own mid 1 0 49 49, .int .i64 at_, .nils, .int .i64 e]]
  have K3 := S3.blk 0 rfl
  have S4 := S3.setK [[.own mid 1 0 49 49, .int .i64 at_, .nils, .int .i64 (e - n * 3)]]
  have K4 := S4.blk 0 rfl
  have R := recoverM_go (recM m) ⟨m, at_, [], e⟩ he.1
  simp only at R
  rw [← hn] at R
  have B4 : BS ((h2.set 2 [[.own mid 1 0 49 49, .int .i64 at_, .nils, .int .i64 e]]).set 2 [[.own mid 1 0 49 49, .int .i64 at_, .nils, .int .i64 (e - n * 3)]]) 2 (recoverM (recM m) ⟨m, at_, [], e⟩).2 [.k 1 [[V.nils, .int .i64 0, .nils, .int .i64 0]], .k 0 [[V.lst 4 (ts.map encTask)]]] := by
    rw [R, show e - 3 * (n : Int) = e - n * 3 by omega]
    exact ⟨mid, .nils, (S4.nils (sz := 1)).pk (A := [_, _, _, _, _, _]) (L := []) [1, 2, 0, 4, 5] rfl⟩
  have R1 : (recoverM (recM m) ⟨m, at_, [], e⟩).1 = decide (n = (recM m).length) := by rw [R]
  have fin : ∀ (h9 : Heap) (b9 : BT), b9 = bootM ts m rd at_ e → BS h9 2 b9 [.k 1 [[V.nils, .int .i64 0, .nils, .int .i64 0]], .k 0 [[V.lst 4 (ts.map encTask)]]] → ∃ (mid : Nat) (vu : V), h9[2]? = some [[.own mid 1 0 49 49, .int .i64 b9.at_, vu, .int .i64 b9.left]] ∧ (V.one vu = true ∧ V.nohole vu = vu ∧ V.cells vu = [vu]) ∧ (∀ d, (h9.set 1 d)[1]? = some d) ∧ h9[1]? = some [[V.nils, .int .i64 0, .nils, .int .i64 0]] ∧ ∃ ids : List Nat, ids.Nodup ∧ OwnsR (h9.set 1 [[.own mid 1 0 49 49, .int .i64 b9.at_, vu, .int .i64 b9.left]]) (.agg (encBoot (bootM ts m rd at_ e))) (.agg [.own mid 1 0 49 49, .int .i64 b9.at_, vu, .int .i64 b9.left]) ids := fun h9 b9 e9 B9 => by
    subst e9
    obtain ⟨mid, vu, S⟩ := B9
    refine ⟨mid, vu, S.blk 0 rfl, S.vv 2 rfl, fun d => heap_set _ (S.blk 3 rfl), S.blk 3 rfl, ?_⟩
    have S1 := ((S.pull 3).setK [[.own mid 1 0 49 49, .int .i64 (bootM ts m rd at_ e).at_, vu, .int .i64 (bootM ts m rd at_ e).left]]).pk (A := [_, _, _, _]) [2, 3] rfl
    have hl : (bootM ts m rd at_ e).mem.length = 49 := by
      obtain ⟨t, c, l, _, h⟩ := (bootM_facts (rd := rd) (at_ := at_) hp hv he.1).1
      exact h.len
    have S2 := Sep.ofFlat (sz := 1) (n := 49) S1 (by simpa using hl) (flat_encI _)
    have A1 := Sep.li (k := .i64) (z := (bootM ts m rd at_ e).left) (Sep.l0 (Sep.sw S2))
    have A2 := Sep.li (k := .i64) (z := (bootM ts m rd at_ e).at_) (Sep.cons2 (fun es e => by cases e) (Sep.sw A1))
    exact ((Sep.cons2 (fun es e => by cases e) (Sep.sw A2)).a).ret
  simp (disch := omega) only [go_sem, o1, n1, c1, len1, K2, K3, K4, storeH, storeB, splice]
  refine condP_dec (fun hrec => ?_) (fun hrec => ?_)
  case' refine_1 =>
    refine Exists.elim (fin _ _ (by unfold bootM; rw [if_neg (by rw [R1]; simp; omega)]) B4) fun mid' q => Exists.elim q fun vu q => ?_
    have K := q.1
    have zu := q.2.1
    have c9 := q.2.2.1
    have K1 := q.2.2.2.1
    have RR := q.2.2.2.2
    clear q
    simp (disch := omega) only [go_sem, K, zu.1, zu.2.1, zu.2.2, c9, K1, storeH, storeB, splice]
    exact RR
  have hrec' : (recoverM (recM m) ⟨m, at_, [], e⟩).1 = true := by rw [R1]; simp; omega
  have hC : CM ts (recoverM (recM m) ⟨m, at_, [], e⟩).2.mem ∧ (recoverM (recM m) ⟨m, at_, [], e⟩).2.used = [] ∧ (recoverM (recM m) ⟨m, at_, [], e⟩).2.at_ = at_ ∧ (0 ≤ (recoverM (recM m) ⟨m, at_, [], e⟩).2.left ∧ (recoverM (recM m) ⟨m, at_, [], e⟩).2.left ≤ e) := by
    obtain ⟨t, c, l, hc, hM⟩ := hv
    have hu := hM.ctl
    have pf := prog_facts hp
    have c0 := hM.c0
    by_cases q : c < 1
    · have hc0 : c = 0 := by omega
      subst hc0
      have hr : recM m = [] := by unfold recM; rw [hu, if_pos q]
      rw [hr]
      exact ⟨⟨t, l, hM⟩, rfl, rfl, he.1, Int.le_refl _⟩
    · have hr : recM m = recVars m c.toNat ++ [⟨8, packM t 0 l⟩] := by unfold recM; rw [hu, if_neg q]
      have R := recover_V (by have := hM.t1; omega) (recVars m c.toNat) ⟨m, at_, [], e⟩ hM (recVars_bd hM.log _ (Nat.le_refl _)) he.1
      rw [← hr] at R
      exact ⟨⟨t, l, (R.1 hrec').1⟩, R.2.2.1, R.2.2.2.1, R.2.2.2.2.1, R.2.2.2.2.2.1⟩
  have hbm : bootM ts m rd at_ e = bootL ts rd 10 (recoverM (recM m) ⟨m, at_, [], e⟩).2 := if_pos hrec'
  simp (disch := omega) only [go_sem, o1, n1, c1, len1, K2, K3, K4, storeH, storeB, splice]
  refine loopP_intro (fun n s => ∃ (b1 : BT), b1.used.length + n = 10 ∧ CM ts b1.mem ∧ bootL ts rd n b1 = bootM ts m rd at_ e ∧ (0 ≤ b1.left ∧ b1.left ≤ 100000) ∧ (0 ≤ b1.at_ ∧ b1.at_ + b1.left ≤ 600000) ∧ s.e 2 = .lst 1 (rd.map encI) ∧ s.e 5 = .ptr 0 1 0 0 ∧ s.e 10 = .ptr 1 1 0 0 ∧ s.e 11 = .ptr 2 1 0 0 ∧ BS s.h 2 b1 [.k 1 [[V.nils, .int .i64 0, .nils, .int .i64 0]], .k 0 [[V.lst 4 (ts.map encTask)]]]) 10 ⟨_, by rw [hC.2.1]; rfl, hC.1, hbm.symm, by omega, by omega, by simp (disch := omega) only [go_sem, o1, n1, c1, len1, K2, K3, K4, storeH, storeB, splice], by simp (disch := omega) only [go_sem, o1, n1, c1, len1, K2, K3, K4, storeH, storeB, splice], by simp (disch := omega) only [go_sem, o1, n1, c1, len1, K2, K3, K4, storeH, storeB, splice], by simp (disch := omega) only [go_sem, o1, n1, c1, len1, K2, K3, K4, storeH, storeB, splice], B4⟩ ?_
  clear hrec hrec' hC hbm B4 R R1 S4 S3 S2' S1 K2 K3 K4 len1
  intro n ee hp' P
  refine Exists.elim P fun b1 P => ?_
  have hu1 := P.1
  have hC := P.2.1
  have hbl := P.2.2.1
  have hl1 := P.2.2.2.1
  have ha1 := P.2.2.2.2.1
  have e2 := P.2.2.2.2.2.1
  have e5 := P.2.2.2.2.2.2.1
  have e10 := P.2.2.2.2.2.2.2.1
  have e11 := P.2.2.2.2.2.2.2.2.1
  have B1 := P.2.2.2.2.2.2.2.2.2
  clear P
  simp only at e2 e5 e10 e11 B1
  refine Exists.elim B1 fun mid1 q => Exists.elim q fun vu1 S3 => ?_
  have K3 := S3.blk 0 rfl
  have P3 := S3.blk 4 rfl
  have z3 := S3.vv 2 rfl
  have len3 := fun G => (S3.lst 2 rfl).elim fun i o => o.len_ G
  simp only [List.length_map] at len3
  simp (disch := omega) only [go_sem, e2, e5, e10, e11, K3, P3, z3.1, z3.2.1, z3.2.2, len3, refs_task]
  refine condP_dec (fun h10 => ?_) (fun h10 => ?_)
  case' refine_2 =>
    have hn : n = 0 := by omega
    subst hn
    refine Exists.elim (fin hp' b1 hbl B1) fun mid' q => Exists.elim q fun vu q => ?_
    have K := q.1
    have zu := q.2.1
    have c9 := q.2.2.1
    have K1 := q.2.2.2.1
    have R := q.2.2.2.2
    clear q
    simp (disch := omega) only [go_sem, e2, e5, e10, e11, K, zu.1, zu.2.1, zu.2.2, c9, K1, storeH, storeB, splice]
    exact R
  refine Exists.elim (show ∃ k : Nat, n = k + 1 from ⟨n - 1, by omega⟩) fun k hk => ?_
  subst hk
  refine Exists.elim hC fun t q => Exists.elim q fun l hM => ?_
  have hu := hM.ctl
  have hm49 := hM.len
  have T := trace_V (rd := rd) (at_ := b1.at_) hp hM
  have hun : bootL ts rd (k + 1) b1 = if (taskM (traceS ts b1.mem rd b1.at_ t l) b1).1 = true then bootL ts rd k { (taskM (traceS ts b1.mem rd b1.at_ t l) b1).2 with used := b1.used ++ [traceU ts b1.mem rd b1.at_ t l] } else (taskM (traceS ts b1.mem rd b1.at_ t l) b1).2 := by
    rw [bootL, hu]
  rw [hun] at hbl
  have TF := taskM_facts (traceS ts b1.mem rd b1.at_ t l) b1 T.2.2.1 hl1.1
  have hgo := taskM_go (traceS ts b1.mem rd b1.at_ t l) b1
  have hgl := goM_le (traceS ts b1.mem rd b1.at_ t l) b1.left
  have hst := T.2.2.1
  have hsl := T.2.2.2.2
  simp (disch := omega) only [go_sem, e2, e5, e10, e11, K3, P3, z3.1, z3.2.1, z3.2.2, len3, refs_task]
  refine S3.go (traceS_f ts b1.mem rd b1.at_ t 0 l hp hM.T hr (by omega)) (.cons (.same _ (refs_prog 0 ts)) (.cons (Snap.flatN (S3.blk 1 rfl) (by simpa using hm49) (flat_encI _)) (.cons (.same _ (by simp [V.refs, refsLL_map encI (fun _ => rfl) rd])) (.cons (.int _ _) (.nil _))))) fun r2 h2 x2 S4 => ?_
  refine Exists.elim S4.open2 fun va q => Exists.elim q fun vb q => ?_
  have hr2 := q.1
  have S5 := q.2
  clear q S4
  subst hr2
  have za := S5.vv 0 rfl
  have zb := S5.vv 1 rfl
  refine Exists.elim (show ∃ ss, ss = traceS ts b1.mem rd b1.at_ t l from ⟨_, rfl⟩) fun ss hss => ?_
  refine Exists.elim (show ∃ us, us = traceU ts b1.mem rd b1.at_ t l from ⟨_, rfl⟩) fun us hus => ?_
  rw [← hss] at S5 hst hsl hgl hgo TF hbl
  rw [← hus] at S5 hbl
  have hst1 : ∀ x ∈ ss, 1 ≤ x.cost ∧ x.cost ≤ 5 := fun x hx => (hst x hx).1
  have S6 := S5.newK [[va, vb]]
  have T6 := S6.blk 0 rfl
  have K6 := S6.blk 3 rfl
  simp (disch := omega) only [go_sem, e2, e5, e10, e11, za.1, za.2.1, za.2.2, zb.1, zb.2.1, zb.2.2, T6, K6, splice]
  have st6 := Snap.ofSnaps (.cons (S6.snap 1 rfl) (.cons (S6.snap 2 rfl) (.nil _)))
  refine CP.goS (count_s ss us b1.left (by omega) hst1 hsl) rfl rfl (.cons st6 (.cons (.int _ _) (.nil _))) ?_
  refine Exists.elim (show ∃ c, c = goM ss b1.left from ⟨_, rfl⟩) fun c hc => ?_
  rw [← hc] at hgl hgo
  have hleft := fun (i : Nat) (hi : i ≤ c) => stepsB_left ss b1 i hst1 hl1.1 (by rw [← hc]; exact hi)
  simp (disch := omega) only [go_sem, e2, e5, e10, e11, T6, K6, hc.symm]
  have hlen1 : (stepsB (ss.take c) b1).mem.length = 49 := by rw [stepsB_len]; exact hm49
  refine Exists.elim (show ∃ Lk, Lk = [It.k 1 [[V.nils, .int .i64 0, .nils, .int .i64 0]], It.k 0 [[V.lst 4 (ts.map encTask)]]] from ⟨_, rfl⟩) fun Lk hLk => ?_
  have B6 : BS (h2 ++ [[[va, vb]]]) 2 { stepsB (ss.take 0) b1 with at_ := b1.at_ } (.v (.lst 3 (ss.map encMicro)) va :: .v (.lst 1 (us.map encI)) vb :: .k h2.length [[va, vb]] :: Lk) := by
    rw [hLk]; exact ⟨mid1, vu1, S6.pk (A := [_, _, _, _, _, _, _, _]) (L := []) [3, 4, 5, 1, 2, 0, 6, 7] rfl⟩
  refine loopP_intro (fun q s => ∃ (i : Nat), i ≤ c ∧ q = c - i ∧ s.e 2 = .lst 1 (rd.map encI) ∧ s.e 5 = .ptr 0 1 0 0 ∧ s.e 10 = .ptr 1 1 0 0 ∧ s.e 11 = .ptr 2 1 0 0 ∧ s.e 13 = .int .i64 c ∧ s.e 14 = .ptr h2.length 1 0 0 ∧ s.e 15 = .int .i64 i ∧ BS s.h 2 { stepsB (ss.take i) b1 with at_ := b1.at_ } (.v (.lst 3 (ss.map encMicro)) va :: .v (.lst 1 (us.map encI)) vb :: .k h2.length [[va, vb]] :: Lk)) c ⟨0, by omega, by omega, by simp (disch := omega) only [go_sem, e2, e5, e10, e11, T6, K6, hc.symm], by simp (disch := omega) only [go_sem, e2, e5, e10, e11, T6, K6, hc.symm], by simp (disch := omega) only [go_sem, e2, e5, e10, e11, T6, K6, hc.symm], by simp (disch := omega) only [go_sem, e2, e5, e10, e11, T6, K6, hc.symm], by simp (disch := omega) only [go_sem, e2, e5, e10, e11, T6, K6, hc.symm], by simp (disch := omega) only [go_sem, e2, e5, e10, e11, T6, K6, hc.symm], by simp (disch := omega) only [go_sem, e2, e5, e10, e11, T6, K6, hc.symm] <;> rfl, B6⟩ ?_
  clear e2 e5 e10 e11 B1 S3 K3 P3 z3 len3 S5 S6 T6 K6 st6 B6
  intro q ee hp2 P
  refine Exists.elim P fun i P => ?_
  have hi := P.1
  have hq := P.2.1
  have e2 := P.2.2.1
  have e5 := P.2.2.2.1
  have e10 := P.2.2.2.2.1
  have e11 := P.2.2.2.2.2.1
  have e13 := P.2.2.2.2.2.2.1
  have e14 := P.2.2.2.2.2.2.2.1
  have e15 := P.2.2.2.2.2.2.2.2.1
  have B1 := P.2.2.2.2.2.2.2.2.2
  clear P
  subst hq
  simp only at e2 e5 e10 e11 e13 e14 e15 B1
  simp (disch := omega) only [go_sem, e2, e5, e10, e11, e13, e14, e15]
  refine condP_dec (fun hlt => ?_) (fun hlt => ?_)
  · have hlt' : i < ss.length := by omega
    have hwb := hst _ (List.getElem_mem hlt')
    unfold StepIn at hwb
    have htk := stepsB_take hlt' b1
    have hbi := hleft i hi
    have hbm := stepsB_len (ss.take i) b1
    have hbu := stepsB_used (ss.take i) b1
    refine Exists.elim (show ∃ w, ss[i]? = some w ∧ w = ss[i] from ⟨_, List.getElem?_eq_getElem hlt', rfl⟩) fun w hw => ?_
    have hmk := hw.1
    rw [← hw.2] at hwb htk
    refine Exists.elim (show ∃ b, b = stepsB (ss.take i) b1 from ⟨_, rfl⟩) fun b hb => ?_
    rw [← hb] at B1 htk hbi hbm hbu
    refine Exists.elim B1 fun mid2 q => Exists.elim q fun vu2 S7 => ?_
    have K7 := S7.blk 0 rfl
    have T7 := S7.blk 5 rfl
    have z7 := S7.vv 2 rfl
    refine Exists.elim (S7.ownF 3 (flat_Micro _) rfl (k := i) (by simpa using hlt')) fun wid q => ?_
    have hr := q.1
    have hwk := q.2
    clear q
    have S8 := S7.setK [[.own mid2 1 0 49 49, .int .i64 b1.at_, vu2, .int .i64 (b.left - w.cost)]]
    have K8 := S8.blk 0 rfl
    have T8 := S8.blk 5 rfl
    have hwk8 : (hp2.set 2 [[.own mid2 1 0 49 49, .int .i64 b1.at_, vu2, .int .i64 (b.left - w.cost)]])[wid]? = some (ss.map encMicro) := by
      obtain ⟨w2, a, b⟩ := S8.ownF 3 (flat_Micro _) rfl (k := i) (by simpa using hlt')
      rw [hr] at a
      cases a
      exact b
    rw [List.length_map] at hr
    simp (disch := omega) only [go_sem, e2, e5, e10, e11, e13, e14, e15, K7, T7, z7.1, z7.2.1, z7.2.2, hr, hwk, hmk, List.getElem?_map, encMicro, storeH, storeB, splice, K8, T8, hwk8]
    refine condP_dec (fun hat => ?_) (fun hat => ?_)
    · simp (disch := omega) only [go_sem, e2, e5, e10, e11, e13, e14, e15]
      refine nextP_intro (c - (i + 1)) (by omega) ⟨i + 1, by omega, rfl, by simp (disch := omega) only [go_sem, e2, e5, e10, e11, e13, e14, e15], by simp (disch := omega) only [go_sem, e2, e5, e10, e11, e13, e14, e15], by simp (disch := omega) only [go_sem, e2, e5, e10, e11, e13, e14, e15], by simp (disch := omega) only [go_sem, e2, e5, e10, e11, e13, e14, e15], by simp (disch := omega) only [go_sem, e2, e5, e10, e11, e13, e14, e15], by simp (disch := omega) only [go_sem, e2, e5, e10, e11, e13, e14, e15], by simp (disch := omega) only [go_sem, e2, e5, e10, e11, e13, e14, e15] <;> rfl, ?_⟩
      rw [htk]
      have he : ({ stepB w b with at_ := b1.at_ } : BT) = ⟨b.mem, b1.at_, b.used, b.left - w.cost⟩ := by
        unfold stepB; rw [if_pos (show w.at_ = -1 from hat)]
      rw [he]
      exact ⟨mid2, vu2, S8⟩
    · have st := store_i (z := w.val) (i := w.at_.toNat) (S8.blk 1 rfl) (hbm.trans hm49) (by omega)
      have S9 := ((S8.pull 1).setK ((b.mem.set w.at_.toNat w.val).map encI)).pk (A := [_, _, _, _]) [1, 0, 2, 3] rfl
      simp (disch := omega) only [go_sem, e2, e5, e10, e11, e13, e14, e15, hr, hmk, List.getElem?_map, encMicro, K8, T8, hwk8, Nat.zero_add, st]
      refine nextP_intro (c - (i + 1)) (by omega) ⟨i + 1, by omega, rfl, by simp (disch := omega) only [go_sem, e2, e5, e10, e11, e13, e14, e15, hr, hmk, List.getElem?_map, encMicro, K8, T8, hwk8, Nat.zero_add, st], by simp (disch := omega) only [go_sem, e2, e5, e10, e11, e13, e14, e15, hr, hmk, List.getElem?_map, encMicro, K8, T8, hwk8, Nat.zero_add, st], by simp (disch := omega) only [go_sem, e2, e5, e10, e11, e13, e14, e15, hr, hmk, List.getElem?_map, encMicro, K8, T8, hwk8, Nat.zero_add, st], by simp (disch := omega) only [go_sem, e2, e5, e10, e11, e13, e14, e15, hr, hmk, List.getElem?_map, encMicro, K8, T8, hwk8, Nat.zero_add, st], by simp (disch := omega) only [go_sem, e2, e5, e10, e11, e13, e14, e15, hr, hmk, List.getElem?_map, encMicro, K8, T8, hwk8, Nat.zero_add, st], by simp (disch := omega) only [go_sem, e2, e5, e10, e11, e13, e14, e15, hr, hmk, List.getElem?_map, encMicro, K8, T8, hwk8, Nat.zero_add, st], by simp (disch := omega) only [go_sem, e2, e5, e10, e11, e13, e14, e15, hr, hmk, List.getElem?_map, encMicro, K8, T8, hwk8, Nat.zero_add, st] <;> rfl, ?_⟩
      rw [htk]
      have he : ({ stepB w b with at_ := b1.at_ } : BT) = ⟨b.mem.set w.at_.toNat w.val, b1.at_, b.used, b.left - w.cost⟩ := by
        unfold stepB; rw [if_neg (show ¬ w.at_ = -1 from hat)]
      rw [he]
      exact ⟨mid2, vu2, S9⟩
  have hic : i = c := by omega
  subst hic
  have hbc := hleft i (by omega)
  have hba := stepsB_at (ss.take i) b1
  have hbu := stepsB_used (ss.take i) b1
  have hsM := sensM_le (ss.take i)
  rw [List.length_take] at hsM
  refine Exists.elim (show ∃ b, b = stepsB (ss.take i) b1 from ⟨_, rfl⟩) fun b hb => ?_
  rw [← hb] at B1 hbc hba hbu hgo hlen1
  have ht1 : (taskM ss b1).1 = decide (i = ss.length) := by rw [hgo]
  have ht2 : (taskM ss b1).2 = b := by rw [hgo]
  rw [ht1, ht2] at hbl
  rw [ht1, ht2] at TF
  refine Exists.elim B1 fun mid2 q => Exists.elim q fun vu2 S7 => ?_
  have K7 := S7.blk 0 rfl
  have T7 := S7.blk 5 rfl
  have z7 := S7.vv 2 rfl
  have za7 := S7.vv 3 rfl
  have zb7 := S7.vv 4 rfl
  have len7 := fun G => (S7.lst 3 rfl).elim fun i o => o.len_ G
  simp only [List.length_map] at len7
  have st7 := Snap.ofSnaps (.cons (S7.snap 3 rfl) (.cons (S7.snap 4 rfl) (.nil _)))
  have S8 := S7.setK [[.own mid2 1 0 49 49, .int .i64 b.at_, vu2, .int .i64 b.left]]
  have K8 := S8.blk 0 rfl
  have T8 := S8.blk 5 rfl
  have hbx : b.at_ = b1.at_ + sensM (ss.take i) := hba
  have hbi : b.at_ + b.left ≤ b1.at_ + b1.left := TF.2.2.2.2.2.1
  simp (disch := omega) only [go_sem, e2, e5, e10, e11, e13, e14, e15, K7, T7, z7.1, z7.2.1, z7.2.2, za7.1, za7.2.1, za7.2.2, zb7.1, zb7.2.1, zb7.2.2]
  refine CP.goS (senses_s ss us i (by omega) hsl) rfl rfl (.cons st7 (.cons (.int _ _) (.nil _))) ?_
  simp (disch := omega) only [go_sem, e2, e5, e10, e11, e13, e14, e15, K7, T7, z7.1, z7.2.1, z7.2.2, za7.1, za7.2.1, za7.2.2, zb7.1, zb7.2.1, zb7.2.2, storeH, storeB, splice, hbx.symm, K8, T8, len7]
  have B8 : BS (hp2.set 2 [[.own mid2 1 0 49 49, .int .i64 b.at_, vu2, .int .i64 b.left]]) 2 b Lk := ⟨mid2, vu2, ((S8.drop 3).drop 3).drop 3⟩
  refine condP_dec (fun hend => ?_) (fun hend => ?_)
  · rw [if_neg (by simp; omega)] at hbl
    rw [hLk] at B8
    refine Exists.elim (fin _ b hbl B8) fun mid' q => Exists.elim q fun vu q => ?_
    have K := q.1
    have zu := q.2.1
    have c9 := q.2.2.1
    have K1 := q.2.2.2.1
    have R := q.2.2.2.2
    clear q
    simp (disch := omega) only [go_sem, e2, e5, e10, e11, e13, e14, e15, K, zu.1, zu.2.1, zu.2.2, c9, K1, storeH, storeB, splice]
    exact R
  · have hie : i = ss.length := by omega
    rw [if_pos (by simp [hie])] at hbl
    have S9 := ((S8.newK [[vb]]).pk (A := [_, _, _, _, _, _, _]) [5, 3, 1, 2, 4, 6, 0] rfl).asRow
    have N9 := S9.blk 6 rfl
    have S10 := S9.pk (A := [_, _, _, _, _, _, _]) [1, 0, 2, 3, 4, 5] rfl
    have hbul : b.used.length ≤ 10 := by rw [hbu]; omega
    have hpu := Sep.push (bytes := 24) (L := .k 2 [[.own mid2 1 0 49 49, .int .i64 b.at_, vu2, .int .i64 b.left]] :: .k mid2 (b.mem.map encI) :: .v (.lst 3 (ss.map encMicro)) va :: .k h2.length [[va, vb]] :: Lk) S10 N9 (by simp; omega)
    refine Exists.elim hpu fun v' q => Exists.elim q fun h9 q => ?_
    have hap := q.1
    have S11 := q.2
    clear q hpu
    rw [show [[V.lst 1 (us.map encI)]] = [encL us] from rfl, ← push_L] at S11
    have K11 := S11.blk 1 rfl
    have z11 := S11.vv 0 rfl
    have K8' := fun t => heap_app (h' := t) K8
    have T8' := fun t => heap_app (h' := t) T8
    simp (disch := omega) only [go_sem, e2, e5, e10, e11, e13, e14, e15, K8, T8, K8', T8', z7.1, z7.2.1, z7.2.2, zb7.1, zb7.2.1, zb7.2.2, hap, K11, z11.1, z11.2.1, z11.2.2, storeH, storeB, splice]
    have hmem : CM ts b.mem := by
      obtain ⟨⟨j, f1, f2⟩, _⟩ := TF
      rw [f2 (by simp [hie]), List.take_length] at f1
      rw [f1, hss]; exact T.2.1
    rw [← hbu] at hbl
    have hB : BS (h9.set 2 [[.own mid2 1 0 49 49, .int .i64 b.at_, v', .int .i64 b.left]]) 2 { b with used := b.used ++ [us] } Lk := ⟨mid2, v', (((S11.pull 1).setK [[.own mid2 1 0 49 49, .int .i64 b.at_, v', .int .i64 b.left]]).pk (A := [_, _, _, _, _]) [0, 2, 1] rfl)⟩
    rw [hLk] at hB
    refine nextP_intro k (by omega) ⟨{ b with used := b.used ++ [us] }, by show (b.used ++ [us]).length + k = 10; rw [List.length_append, hbu]; simp; omega, hmem, hbl, ⟨hbc.1, by show b.left ≤ _; omega⟩, ⟨by show 0 ≤ b.at_; omega, by show b.at_ + b.left ≤ _; omega⟩, by simp (disch := omega) only [go_sem, e2, e5, e10, e11, e13, e14, e15, K8, T8, K8', T8', z7.1, z7.2.1, z7.2.2, zb7.1, zb7.2.1, zb7.2.2, hap, K11, z11.1, z11.2.1, z11.2.2, storeH, storeB, splice], by simp (disch := omega) only [go_sem, e2, e5, e10, e11, e13, e14, e15, K8, T8, K8', T8', z7.1, z7.2.1, z7.2.2, zb7.1, zb7.2.1, zb7.2.2, hap, K11, z11.1, z11.2.1, z11.2.2, storeH, storeB, splice], by simp (disch := omega) only [go_sem, e2, e5, e10, e11, e13, e14, e15, K8, T8, K8', T8', z7.1, z7.2.1, z7.2.2, zb7.1, zb7.2.1, zb7.2.2, hap, K11, z11.1, z11.2.1, z11.2.2, storeH, storeB, splice], by simp (disch := omega) only [go_sem, e2, e5, e10, e11, e13, e14, e15, K8, T8, K8', T8', z7.1, z7.2.1, z7.2.2, zb7.1, zb7.2.1, zb7.2.2, hap, K11, z11.1, z11.2.1, z11.2.2, storeH, storeB, splice], hB⟩
end Go.Av

namespace Go.Av
open Go.Proofs Go.RowKit
set_option linter.unusedVariables false
set_option linter.unusedSimpArgs false
set_option maxRecDepth 100000
set_option maxHeartbeats 4000000
structure StoreIn (s : Store) : Prop where
  cap : 1 ≤ s.cap ∧ s.cap ≤ 5000
  charge : 0 ≤ s.charge ∧ s.charge ≤ s.cap
  on : 1 ≤ s.on ∧ s.on ≤ s.cap
  leak : 0 ≤ s.leak ∧ s.leak ≤ 100
theorem storeIn {s : Store} (h : storeOk s = true) : StoreIn s := by
  simp only [storeOk, within, Bool.and_eq_true, decide_eq_true_eq] at h
  exact ⟨h.1.1.1, h.1.1.2, h.1.2, h.2⟩
def isHarvest (n : Int) : Bool := within n 0 1000
def tickM (s : Store) (n : Int) : Store := ⟨max 0 (min (s.charge + n - s.leak) s.cap), s.cap, s.on, s.leak⟩
theorem tickIn {s : Store} (n : Int) (h : StoreIn s) : StoreIn (tickM s n) := ⟨h.cap, by have := h.cap; show 0 ≤ max 0 (min (s.charge + n - s.leak) s.cap) ∧ max 0 (min (s.charge + n - s.leak) s.cap) ≤ s.cap; omega, h.on, h.leak⟩
def emptied (s : Store) : Store := ⟨0, s.cap, s.on, s.leak⟩
theorem emptiedIn {s : Store} (h : StoreIn s) : StoreIn (emptied s) := ⟨h.cap, by have := h.cap; show (0 : Int) ≤ 0 ∧ 0 ≤ s.cap; omega, h.on, h.leak⟩
def enM : Store → List Int → List Int
  | _, [] => []
  | s, n :: ns => if s.on ≤ (tickM s n).charge then (tickM s n).charge :: enM (emptied (tickM s n)) ns else enM (tickM s n) ns
theorem enM_drop {hs : List Int} {k : Nat} (h : k < hs.length) (s : Store) : enM s (hs.drop k) = if s.on ≤ (tickM s hs[k]).charge then (tickM s hs[k]).charge :: enM (emptied (tickM s hs[k])) (hs.drop (k + 1)) else enM (tickM s hs[k]) (hs.drop (k + 1)) := by
  rw [List.drop_eq_getElem_cons h]; rfl
theorem enM_len : ∀ (hs : List Int) (s : Store), (enM s hs).length ≤ hs.length
  | [], s => Nat.le_refl _
  | n :: ns, s => by
    unfold enM
    have h1 := enM_len ns (emptied (tickM s n))
    have h2 := enM_len ns (tickM s n)
    split <;> simp <;> omega
def harvOk (s : Store) (hs : List Int) : Bool := storeOk s && decide ((hs.length : Int) ≤ 500) && hs.all isHarvest
theorem isHarvest_c (n : Int) : CP Tryz.prog 233 [.int .i64 n] (.bool (isHarvest n)) [] := by
  refine CP.by rfl mixed (cfn_ok Tryz.func233 ok233) rfl ?_
  simp (disch := omega) only [s233, go_sem]
  refine CP.go (within_c _ _ _) rfl rfl ?_
  simp (disch := omega) only [go_sem]
  rfl
theorem notHarvest_c (n : Int) : CP Tryz.prog 232 [.int .i64 n] (.bool (!isHarvest n)) [] := by
  refine CP.by rfl mixed (cfn_ok Tryz.func232 ok232) rfl ?_
  simp (disch := omega) only [s232, go_sem]
  refine CP.go (isHarvest_c _) rfl rfl ?_
  simp (disch := omega) only [go_sem]
theorem areHarvests_c (hs : List Int) (hl : hs.length ≤ 9223372036854775807) : CP Tryz.prog 188 [.lst 1 (hs.map encI)] (.bool (hs.all isHarvest)) [] := by
  refine CP.by rfl mixed (cfn_ok Tryz.func188 ok188) rfl ?_
  simp (disch := omega) only [s188, go_sem]
  refine CP.go (containsI_c 232 (fun e => !isHarvest e) hs (fun z _ => notHarvest_c z) hl) rfl (refs_ints _ _ _ rfl) ?_
  simp (disch := omega) only [go_sem]
  rw [List.not_any_eq_all_not]; simp
theorem clamp0_c (x cap : Int) (h : 0 ≤ cap) : CP Tryz.prog 234 [.int .i64 x, .int .i64 0, .int .i64 cap] (.int .i64 (max 0 (min x cap))) [] := by
  refine CP.by rfl mixed (cfn_ok Tryz.func234 ok234) rfl ?_
  simp (disch := omega) only [s234, go_sem]
  refine congrArg (V.int .i64) ?_
  omega
theorem tick_c (h : Heap) (id : Nat) (s : Store) (n : Int) (hid : h[id]? = some [encStore s]) (hs : StoreIn s) (hn : 0 ≤ n ∧ n ≤ 1000) : C Tryz.prog 189 [.ptr id 1 0 0, .int .i64 n] h (fun r h' => r = .tup [] ∧ h' = h.set id [encStore (tickM s n)]) := by
  have h1 := hs.cap
  have h2 := hs.charge
  have h3 := hs.leak
  obtain ⟨charge, cap, on, leak⟩ := s
  simp only at h1 h2 h3
  refine C.by mixed (cfn_ok Tryz.func189 ok189) rfl ?_
  simp (disch := omega) only [s189, go_sem, storeH, storeB, splice, hid, encStore]
  refine CP.go (clamp0_c _ cap (by omega)) rfl rfl ?_
  simp (disch := omega) only [go_sem, storeH, storeB, splice, hid, encStore]
  rfl
theorem harv_at {hs : List Int} {k : Nat} (h : hs.all isHarvest = true) (hk : k < hs.length) : 0 ≤ hs[k] ∧ hs[k] ≤ 1000 := by
  have := List.all_eq_true.1 h hs[k] (List.getElem_mem hk)
  simpa [isHarvest, within] using this
def Part (s : Store) (hs : List Int) (k : Nat) (t : Store) (cs : List Int) : Prop := StoreIn t ∧ cs.length ≤ k ∧ cs ++ enM t (hs.drop k) = enM s hs
theorem part_add {s t : Store} {hs cs : List Int} {k : Nat} (hk : k < hs.length) (h : Part s hs k t cs) (hc : t.on ≤ (tickM t hs[k]).charge) : Part s hs (k + 1) (emptied (tickM t hs[k])) (cs ++ [(tickM t hs[k]).charge]) := by
  obtain ⟨h1, h2, h3⟩ := h
  rw [enM_drop hk, if_pos hc] at h3
  exact ⟨emptiedIn (tickIn _ h1), by simp; omega, by simpa using h3⟩
theorem part_go {s t : Store} {hs cs : List Int} {k : Nat} (hk : k < hs.length) (h : Part s hs k t cs) (hc : ¬ t.on ≤ (tickM t hs[k]).charge) : Part s hs (k + 1) (tickM t hs[k]) cs := by
  obtain ⟨h1, h2, h3⟩ := h
  rw [enM_drop hk, if_neg hc] at h3
  exact ⟨tickIn _ h1, by omega, h3⟩
theorem part_end {s t : Store} {hs cs : List Int} (h : Part s hs hs.length t cs) : cs = enM s hs := by
  have := h.2.2
  rw [List.drop_length] at this
  simpa [enM] using this
theorem harvested_c (s : Store) (hs : List Int) (ho : harvOk s hs = true) (H0 : Heap) : C Tryz.prog 130 [.agg (encStore s), .lst 1 (hs.map encI)] H0 (fun r h' => ∃ (w : Int) (id : Nat), r = .tup [.own id 1 0 (enM s hs).length (enM s hs).length, .int .i64 w, .bool true] ∧ h'[id]? = some ((enM s hs).map encI)) := by
  have hf : storeOk s = true ∧ (hs.length : Int) ≤ 500 ∧ hs.all isHarvest = true := by
    simp only [harvOk, Bool.and_eq_true, decide_eq_true_eq] at ho
    exact ⟨ho.1.1, ho.1.2, ho.2⟩
  have hok := hf.1
  have h500 := hf.2.1
  have hall := hf.2.2
  refine C.by mixed (cfn_ok Tryz.func130 ok130) rfl ?_
  simp (disch := omega) only [s130, go_sem, encStore]
  refine CP.go (storeOk_c s) rfl rfl ?_
  simp (disch := omega) only [go_sem, hok]
  refine CP.go (areHarvests_c hs (by omega)) rfl (refs_int1 _ _) ?_
  simp (disch := omega) only [go_sem, hok, hall]
  have hs1 : StoreIn s := storeIn hok
  refine loopP_intro (fun m q => ∃ (k : Nat), k ≤ hs.length ∧ m = hs.length - k ∧ q.e 25 = .lst 1 (hs.map encI) ∧ q.e 26 = .int .i64 hs.length ∧ q.e 2 = .ptr H0.length 1 0 0 ∧ q.e 27 = .int .i64 k ∧ ∃ (t : Store) (cs : List Int) (l : Nat), q.e 7 = .own l 1 0 cs.length cs.length ∧ q.h[l]? = some (cs.map encI) ∧ q.h[H0.length]? = some [encStore t] ∧ Part s hs k t cs ∧ H0.length < l ∧ ∃ w, q.e 8 = .int .i64 w) hs.length ⟨0, by omega, by omega, by simp (disch := omega) only [go_sem, hok, hall], by simp (disch := omega) only [go_sem, hok, hall], by simp (disch := omega) only [go_sem, hok, hall], by simp (disch := omega) only [go_sem, hok, hall]; rfl, s, [], H0.length + 1, by simp (disch := omega) only [go_sem, hok, hall], by simp (disch := omega) only [go_sem, hok, hall], by simp (disch := omega) only [go_sem, hok, hall]; rfl, ⟨hs1, by simp, rfl⟩, by omega, 0, by simp (disch := omega) only [go_sem, hok, hall]⟩ ?_
  rintro m e hp ⟨k, hk, rfl, e25, e26, e2, e27, t, cs, l, e7, hl1, hb1, hpt, hlh, w, e8⟩
  simp only at e25 e26 e2 e27 e8 e7 hl1 hb1
  simp (disch := omega) only [go_sem, e25, e26, e2, e27, e8, e7, hb1, encI, encStore]
  refine condP_dec (fun hlt => ?_) (fun hlt => ?_)
  · have hlt' : k < hs.length := by omega
    have hn := harv_at hall hlt'
    have hb2 : ∀ c, (hp.set H0.length c)[H0.length]? = some c := fun c => heap_set _ hb1
    have hl2 : ∀ c, (hp.set H0.length c)[l]? = some (cs.map encI) := fun c => heap_set_ne _ (by omega) hl1
    simp (disch := omega) only [go_sem, e25, e26, e2, e27, e8, e7, hb1, encI, encStore]
    refine C.go (tick_c hp _ t hs[k] hb1 hpt.1 hn) ?_
    rintro r h' ⟨rfl, rfl⟩
    have on_eq : (tickM t hs[k]).on = t.on := rfl
    simp (disch := omega) only [go_sem, e25, e26, e2, e27, e8, e7, hb2, on_eq, encI, encStore, storeH, storeB, splice]
    refine condP_dec (fun hc => ?_) (fun hc => ?_)
    · simp (disch := omega) only [go_sem, e25, e26, e2, e27, e8, e7, hb2, on_eq, encI, encStore, storeH, storeB, splice]
      have ha := fun b c => append1 (sz := 1) (bytes := 8) (c := c) (hl2 b) (n := cs.length) (by simp) (by have := hpt.2.1; omega)
      have A1 : ∀ b x d, ((hp.set H0.length b ++ x).set l d)[H0.length]? = some b := fun b x d => heap_set_ne _ (by omega) (heap_app (hb2 b))
      simp (disch := omega) only [go_sem, e25, e26, e2, e27, e8, e7, hb2, A1, ha, on_eq, encI, encStore, storeH, storeB, splice]
      refine nextP_intro (hs.length - (k + 1)) (by omega) ⟨k + 1, by omega, rfl, ?_, ?_, ?_, ?_, emptied (tickM t hs[k]), cs ++ [(tickM t hs[k]).charge], l, ?_, ?_, ?_, part_add hlt' hpt hc, hlh, ?_⟩
      · simp (disch := omega) only [go_sem, e25, e26, e2, e27, e8, e7, hb2, A1, ha, on_eq, encI, encStore, storeH, storeB, splice]
      · simp (disch := omega) only [go_sem, e25, e26, e2, e27, e8, e7, hb2, A1, ha, on_eq, encI, encStore, storeH, storeB, splice]
      · simp (disch := omega) only [go_sem, e25, e26, e2, e27, e8, e7, hb2, A1, ha, on_eq, encI, encStore, storeH, storeB, splice]
      · simp (disch := omega) only [go_sem, e25, e26, e2, e27, e8, e7, hb2, A1, ha, on_eq, encI, encStore, storeH, storeB, splice]; rfl
      · simp (disch := omega) only [go_sem, e25, e26, e2, e27, e8, e7, hb2, A1, ha, on_eq, encI, encStore, storeH, storeB, splice] <;> simp
      · rw [List.map_append]; exact heap_set_ne _ (by omega) (heap_set _ (heap_app (hl2 _)))
      · exact heap_set _ (A1 _ _ _)
      · exact ⟨_, by simp (disch := omega) only [go_sem, e25, e26, e2, e27, e8, e7, hb2, A1, ha, on_eq, encI, encStore, storeH, storeB, splice]; rfl⟩
    · simp (disch := omega) only [go_sem, e25, e26, e2, e27, e8, e7, hb2, on_eq, encI, encStore, storeH, storeB, splice]
      refine nextP_intro (hs.length - (k + 1)) (by omega) ⟨k + 1, by omega, rfl, ?_, ?_, ?_, ?_, tickM t hs[k], cs, l, ?_, hl2 _, hb2 _, part_go hlt' hpt hc, hlh, ?_⟩
      · simp (disch := omega) only [go_sem, e25, e26, e2, e27, e8, e7, hb2, on_eq, encI, encStore, storeH, storeB, splice]
      · simp (disch := omega) only [go_sem, e25, e26, e2, e27, e8, e7, hb2, on_eq, encI, encStore, storeH, storeB, splice]
      · simp (disch := omega) only [go_sem, e25, e26, e2, e27, e8, e7, hb2, on_eq, encI, encStore, storeH, storeB, splice]
      · simp (disch := omega) only [go_sem, e25, e26, e2, e27, e8, e7, hb2, on_eq, encI, encStore, storeH, storeB, splice]; rfl
      · simp (disch := omega) only [go_sem, e25, e26, e2, e27, e8, e7, hb2, on_eq, encI, encStore, storeH, storeB, splice]
      · exact ⟨_, by simp (disch := omega) only [go_sem, e25, e26, e2, e27, e8, e7, hb2, on_eq, encI, encStore, storeH, storeB, splice]; rfl⟩
  · simp (disch := omega) only [go_sem, e25, e26, e2, e27, e8, e7, hb1, encI, encStore]
    have : k = hs.length := by omega
    subst this
    have he := part_end hpt
    subst he
    exact ⟨_, l, rfl, hl1⟩
theorem Sep.ofBlk {h : Heap} {id : Nat} {b : Blk} (hb : h[id]? = some b) : Sep h [.k id b] := ⟨[id], by simp, [id], [], rfl, ⟨rfl, hb⟩, rfl⟩
theorem energies_f (s : Store) (hs : List Int) (ho : harvOk s hs = true) : F Tryz.prog 66 [.agg (encStore s), .lst 1 (hs.map encI)] (.tup [.lst 1 ((enM s hs).map encI), .bool true]) := by
  refine C.by mixed (cfn_ok Tryz.func66 ok66) rfl ?_
  simp (disch := omega) only [s66, go_sem, encStore]
  refine C.go (harvested_c s hs ho _) ?_
  rintro r h' ⟨w, id, rfl, hid⟩
  simp (disch := omega) only [go_sem]
  have A1 := Sep.ofFlat (sz := 1) (n := (enM s hs).length) (Sep.ofBlk hid) (by simp) (flat_encI _)
  exact (Sep.cons2 (fun es e => by cases e) (Sep.sw (Sep.lb (z := true) (Sep.l0 A1)))).t.ret
end Go.Av

namespace Go.Av
open Go.Proofs Go.RowKit
set_option linter.unusedVariables false
set_option linter.unusedSimpArgs false
set_option maxRecDepth 100000
set_option maxHeartbeats 4000000
theorem all_take {α : Type} {p : α → Bool} {zs : List α} (ha : ∀ j (hj : j < zs.length), p zs[j] = true) : zs.all p = true := List.all_eq_true.2 fun t ht => by
  obtain ⟨j, hj, rfl⟩ := List.getElem_of_mem ht
  exact ha j hj
theorem all_at {α : Type} {p : α → Bool} {zs : List α} {k : Nat} (hk : k < zs.length) (h : p zs[k] = false) : zs.all p = false := List.all_eq_false.2 ⟨zs[k], List.getElem_mem hk, by simp [h]⟩
theorem harvests_s (hs : List Int) (hl : hs.length ≤ 9223372036854775807) : CP Tryz.prog 246 [.lst 1 (hs.map encI)] (.bool (hs.all isHarvest)) [] := by
  refine CP.by rfl mixed (cfn_ok Tryz.func246 ok246) rfl ?_
  simp (disch := omega) only [s246, go_sem]
  refine loopP_intro (fun m s => ∃ k : Nat, k ≤ hs.length ∧ m = hs.length - k ∧ s.e 0 = .lst 1 (hs.map encI) ∧ s.e 3 = .int .i64 k ∧ ∀ j (hj : j < hs.length), j < k → isHarvest hs[j] = true) hs.length ⟨0, by omega, by omega, rfl, rfl, fun j _ h => absurd h (by omega)⟩ ?_
  rintro m e hp ⟨k, hk, rfl, e0, e3, hall⟩
  simp only at e0 e3
  simp (disch := omega) only [go_sem, e0, e3, encI]
  refine condP_dec (fun hlt => ?_) (fun hlt => ?_)
  · have hlt' : k < hs.length := by omega
    simp (disch := omega) only [go_sem, e0, e3, encI]
    refine CP.go (l01In_c hs[k] 0 1000) rfl rfl ?_
    simp (disch := omega) only [go_sem, e0, e3, encI]
    refine condP_split (fun h => ?_) (fun h => ?_)
    · simp (disch := omega) only [go_sem, e0, e3, encI]
      refine nextP_intro (hs.length - (k + 1)) (by omega) ⟨k + 1, by omega, rfl, ?_, ?_, fun j hj hjk => ?_⟩
      · simp (disch := omega) only [go_sem, e0, e3, encI]
      · simp (disch := omega) only [go_sem, e0, e3, encI]; rfl
      · by_cases e : j = k
        · subst e; exact h
        · exact hall j hj (by omega)
    · simp (disch := omega) only [go_sem, e0, e3, encI]
      rw [all_at hlt' h]
  · simp (disch := omega) only [go_sem, e0, e3, encI]
    rw [all_take (fun j hj => hall j hj (by omega))]
theorem harvOk_s (s : Store) (hs : List Int) (hl : hs.length ≤ 9223372036854775807) : CP Tryz.prog 224 [.agg (encStore s), .lst 1 (hs.map encI)] (.bool (harvOk s hs)) [] := by
  obtain ⟨charge, cap, on, leak⟩ := s
  refine CP.by rfl mixed (cfn_ok Tryz.func224 ok224) rfl ?_
  simp (disch := omega) only [s224, go_sem, encStore]
  refine CP.go (storeOk_s ⟨charge, cap, on, leak⟩) rfl rfl ?_
  simp (disch := omega) only [go_sem]
  repeat' (first | (refine CP.go (harvests_s hs hl) rfl (refs_int1 _ _) ?_ <;> (try simp (disch := omega) only [go_sem])) | (refine condP_t (by assumption) ?_ <;> (try simp (disch := omega) only [go_sem])) | (refine condP_f (by assumption) ?_ <;> (try simp (disch := omega) only [go_sem])) | (refine condP_dec (fun h => ?_) (fun h => ?_) <;> (try simp (disch := omega) only [go_sem])) | (refine condP_split (fun h => ?_) (fun h => ?_) <;> (try simp (disch := omega) only [go_sem])))
  all_goals first | (simp_all [harvOk]; done) | (simp_all [harvOk]; omega)
theorem clamp0_s (x cap : Int) (h : 0 ≤ cap) : CP Tryz.prog 247 [.int .i64 x, .int .i64 0, .int .i64 cap] (.int .i64 (max 0 (min x cap))) [] := by
  refine CP.by rfl mixed (cfn_ok Tryz.func247 ok247) rfl ?_
  simp (disch := omega) only [s247, go_sem]
  repeat' (first | (refine condP_t (by assumption) ?_ <;> (try simp (disch := omega) only [go_sem])) | (refine condP_f (by assumption) ?_ <;> (try simp (disch := omega) only [go_sem])) | (refine condP_dec (fun h => ?_) (fun h => ?_) <;> (try simp (disch := omega) only [go_sem])) | (refine condP_split (fun h => ?_) (fun h => ?_) <;> (try simp (disch := omega) only [go_sem])))
  all_goals
    refine congrArg (V.int .i64) ?_
    omega
theorem tick_s (s : Store) (n : Int) (hs : StoreIn s) (hn : 0 ≤ n ∧ n ≤ 1000) : CP Tryz.prog 225 [.agg (encStore s), .int .i64 n] (.agg (encStore (tickM s n))) [] := by
  have h1 := hs.cap
  have h2 := hs.charge
  have h3 := hs.leak
  obtain ⟨charge, cap, on, leak⟩ := s
  simp only at h1 h2 h3
  refine CP.by rfl mixed (cfn_ok Tryz.func225 ok225) rfl ?_
  simp (disch := omega) only [s225, go_sem, encStore, storeH, storeB, splice]
  refine CP.go (clamp0_s _ cap (by omega)) rfl rfl ?_
  simp (disch := omega) only [go_sem, storeH, storeB, splice]
  rfl
def enX (s : Store) (hs : List Int) : List Int := if harvOk s hs = true then enM s hs else []
theorem energies_s (s : Store) (hs : List Int) (hl : hs.length ≤ 1048576) (h : Heap) : C Tryz.prog 182 [.agg (encStore s), .lst 1 (hs.map encI)] h (fun r h' => ∃ (es : List Int) (id : Nat), r = .tup [.own id 1 0 es.length es.length, .bool (harvOk s hs)] ∧ h'[id]? = some (es.map encI) ∧ es = enX s hs ∧ es.length ≤ hs.length ∧ h.length ≤ id ∧ Ext h h') := by
  refine C.by mixed (cfn_ok Tryz.func182 ok182) rfl ?_
  simp (disch := omega) only [s182, go_sem, encStore]
  refine CP.go (harvOk_s s hs (by omega)) rfl (by simp [V.refsL, V.refs, encStore, refsLL_map encI (fun _ => rfl) hs]) ?_
  simp (disch := omega) only [go_sem]
  refine condP_split (fun ho => ?_) (fun ho => ?_)
  · have hs1 : StoreIn s := by
      simp only [harvOk, Bool.and_eq_true] at ho; exact storeIn ho.1.1
    have hall : hs.all isHarvest = true := by
      simp only [harvOk, Bool.and_eq_true] at ho; exact ho.2
    simp (disch := omega) only [go_sem]
    refine loopP_intro (fun m q => ∃ (k : Nat), k ≤ hs.length ∧ m = hs.length - k ∧ q.e 1 = .lst 1 (hs.map encI) ∧ q.e 2 = .ptr h.length 1 0 0 ∧ q.e 7 = .int .i64 k ∧ ∃ (t : Store) (cs : List Int) (l : Nat), q.e 6 = .own l 1 0 cs.length cs.length ∧ q.h[l]? = some (cs.map encI) ∧ q.h[h.length]? = some [encStore t] ∧ Part s hs k t cs ∧ h.length < l ∧ Ext h q.h) hs.length ⟨0, by omega, by omega, by simp (disch := omega) only [go_sem], by simp (disch := omega) only [go_sem], by simp (disch := omega) only [go_sem]; rfl, s, [], h.length + 1, by simp (disch := omega) only [go_sem], by simp (disch := omega) only [go_sem], by simp (disch := omega) only [go_sem]; rfl, ⟨hs1, by simp, rfl⟩, by omega, Ext.app _ _⟩ ?_
    rintro m e hp ⟨k, hk, rfl, e1, e2, e7, t, cs, l, e6, hl1, hb1, hpt, hlh, hx⟩
    simp only at e1 e2 e7 e6 hl1 hb1 hx
    simp (disch := omega) only [go_sem, e1, e2, e7, e6, hb1, encI, encStore]
    refine condP_dec (fun hlt => ?_) (fun hlt => ?_)
    · have hlt' : k < hs.length := by omega
      have hn := harv_at hall hlt'
      have hb2 : ∀ c, (hp.set h.length c)[h.length]? = some c := fun c => heap_set _ hb1
      have hl2 : ∀ c, (hp.set h.length c)[l]? = some (cs.map encI) := fun c => heap_set_ne _ (by omega) hl1
      simp (disch := omega) only [go_sem, e1, e2, e7, e6, hb1, hb2, encI, encStore, storeH, storeB, splice]
      refine CP.go (tick_s t hs[k] hpt.1 hn) rfl rfl ?_
      have on_eq : (tickM t hs[k]).on = t.on := rfl
      simp (disch := omega) only [go_sem, on_eq, e1, e2, e7, e6, hb1, hb2, encI, encStore, storeH, storeB, splice]
      refine condP_dec (fun hc => ?_) (fun hc => ?_)
      · simp (disch := omega) only [go_sem, e1, e2, e7, e6, hb1, hb2, encI, encStore, storeH, storeB, splice]
        rw [append1 (hl2 _) (by simp) (by have := hpt.2.1; omega)]
        have A1 : ∀ b x d, ((hp.set h.length b ++ x).set l d)[h.length]? = some b := fun b x d => heap_set_ne _ (by omega) (heap_app (hb2 b))
        simp (disch := omega) only [go_sem, e1, e2, e7, e6, hb1, hb2, A1, encI, encStore, storeH, storeB, splice]
        refine nextP_intro (hs.length - (k + 1)) (by omega) ⟨k + 1, by omega, rfl, ?_, ?_, ?_, emptied (tickM t hs[k]), cs ++ [(tickM t hs[k]).charge], l, ?_, ?_, ?_, part_add hlt' hpt hc, hlh, ?_⟩
        · simp (disch := omega) only [go_sem, e1, e2, e7, e6, hb1, hb2, A1, encI, encStore, storeH, storeB, splice]
        · simp (disch := omega) only [go_sem, e1, e2, e7, e6, hb1, hb2, A1, encI, encStore, storeH, storeB, splice]
        · simp (disch := omega) only [go_sem, e1, e2, e7, e6, hb1, hb2, A1, encI, encStore, storeH, storeB, splice]; rfl
        · simp (disch := omega) only [go_sem, e1, e2, e7, e6, hb1, hb2, A1, encI, encStore, storeH, storeB, splice] <;> simp
        · rw [List.map_append]; exact heap_set_ne _ (by omega) (heap_set _ (heap_app (hl2 _)))
        · exact heap_set _ (A1 _ _ _)
        · exact (((hx.setNew _ (Nat.le_refl _)).appT _).setNew _ (by omega)).setNew _ (Nat.le_refl _)
      · simp (disch := omega) only [go_sem, e1, e2, e7, e6, hb1, hb2, encI, encStore, storeH, storeB, splice]
        refine nextP_intro (hs.length - (k + 1)) (by omega) ⟨k + 1, by omega, rfl, ?_, ?_, ?_, tickM t hs[k], cs, l, ?_, hl2 _, hb2 _, part_go hlt' hpt hc, hlh, hx.setNew _ (Nat.le_refl _)⟩
        · simp (disch := omega) only [go_sem, e1, e2, e7, e6, hb1, hb2, encI, encStore, storeH, storeB, splice]
        · simp (disch := omega) only [go_sem, e1, e2, e7, e6, hb1, hb2, encI, encStore, storeH, storeB, splice]
        · simp (disch := omega) only [go_sem, e1, e2, e7, e6, hb1, hb2, encI, encStore, storeH, storeB, splice]; rfl
        · simp (disch := omega) only [go_sem, e1, e2, e7, e6, hb1, hb2, encI, encStore, storeH, storeB, splice]
    · simp (disch := omega) only [go_sem, e1, e2, e7, e6, hb1, encI, encStore]
      have : k = hs.length := by omega
      subst this
      exact ⟨cs, l, by rw [ho], hl1, (part_end hpt).trans (if_pos ho).symm, hpt.2.1, by omega, hx⟩
  · simp (disch := omega) only [go_sem]
    exact ⟨[], h.length + 1, by rw [ho]; rfl, at_app h [[encStore s], []] 1, (if_neg (by simp [ho])).symm, by simp, by omega, Ext.app _ _⟩
theorem energies23_s (s : Store) (hs : List Int) (hl : hs.length ≤ 1048576) (H0 : Heap) : C Tryz.prog 120 [.agg (encStore s), .lst 1 (hs.map encI)] H0 (fun r h' => ∃ (es : List Int) (id : Nat), r = .tup [.own id 1 0 es.length es.length, .bool (harvOk s hs)] ∧ h'[id]? = some (es.map encI) ∧ es = (enX s hs).take 60 ∧ es.length ≤ 60) := by
  refine C.by mixed (cfn_ok Tryz.func120 ok120) rfl ?_
  simp (disch := omega) only [s120, go_sem, encStore]
  refine C.go (energies_s s hs hl _) ?_
  rintro r h' ⟨es, id, rfl, hid, he, hle, _, _⟩
  simp (disch := omega) only [go_sem]
  refine condP_dec (fun hlt => ?_) (fun hlt => ?_)
  · have hn : (((es.map encI).drop 0).take 60).length = 60 := by simp; omega
    have ha : appendH (h' ++ [[]]) 1 8 (.own h'.length 1 0 0 0) (.own id 1 0 60 es.length) = some (.own h'.length 1 0 60 60, (h' ++ [[]]).set h'.length ([] ++ ((es.map encI).drop 0).take 60)) :=
      appendH_n (n := 0) (m := 60) (b := []) (at_app0 _ _) rfl (by simp [elemsOf, heap_app (h' := [[]]) hid]; omega) hn (by omega)
    simp (disch := omega) only [go_sem, ha]
    exact ⟨es.take 60, h'.length, by simp; omega, by rw [at_app0]; simp, by rw [he], by simp; omega⟩
  · simp (disch := omega) only [go_sem]
    exact ⟨es, id, rfl, hid, by rw [he, List.take_of_length_le]; rw [← he]; omega, by omega⟩
end Go.Av

namespace Go.Av
open Go.Proofs Go.RowKit
set_option linter.unusedVariables false
set_option linter.unusedSimpArgs false
set_option maxRecDepth 100000
set_option maxHeartbeats 8000000
theorem runS_f (ts : List Task) (m rd es : List Int) (hmo : memOkM ts m = true) (hes : ∀ e ∈ es, energyOk e = true) (h60 : es.length ≤ 60) (hr : rd.length ≤ 9223372036854775807) :
    F Tryz.prog 184 [.agg [.lst 4 (ts.map encTask)], .lst 1 (m.map encI), .lst 1 (rd.map encI), .lst 1 (es.map encI)] (.agg (encRun (runM ts m rd es))) := by
  have f := memOk_facts hmo
  have h49 := f.2.1
  refine C.by mixed (cfn_ok Tryz.func184 ok184) rfl ?_
  have ha := appendH_n (h := [[[V.lst 4 (ts.map encTask)]], [[V.nils, .int .i64 0, .nils, .nils]], []]) (sz := 1) (bytes := 8) (id := 2) (n := 0) (m := 49) (b := []) (xs := m.map encI) (x := .lst 1 (m.map encI)) rfl rfl rfl (by simpa using h49) (by omega)
  simp (disch := omega) only [s184, go_sem, ha, splice]
  have S0 : Sep ([[[V.lst 4 (ts.map encTask)]], [[V.nils, .int .i64 0, .nils, .nils]], m.map encI, [[.own 2 1 0 49 49, .int .i64 0, .nils, .nils]]] : Heap) [.k 3 [[.own 2 1 0 49 49, .int .i64 0, .nils, .nils]], .k 2 (m.map encI), .k 1 [[V.nils, .int .i64 0, .nils, .nils]], .k 0 [[V.lst 4 (ts.map encTask)]]] := ((((Sep.nil []).newK _).newK _).newK _).newK _
  have S1 := ((((S0.pull 1).ofFlat (sz := 1) (n := 49) (by simpa using h49) (flat_encI _))).nils (sz := 1)).nils (sz := 1)
  have R1 : RS _ 3 ⟨m, 0, [], []⟩ [.k 1 [[V.nils, .int .i64 0, .nils, .nils]], .k 0 [[V.lst 4 (ts.map encTask)]]] := ⟨.own 2 1 0 49 49, .nils, .nils, S1.pk (A := [_, _, _, _]) [3, 2, 0, 1] rfl⟩
  refine loopP_intro (fun n s => ∃ (k : Nat) (r1 : Run), k ≤ es.length ∧ n = es.length - k ∧ runL ts rd (es.drop k) r1 = runM ts m rd es ∧ VM True ts r1.mem ∧ (0 ≤ r1.at_ ∧ r1.at_ ≤ 5000 * k) ∧ r1.used.length ≤ 10 * k ∧ r1.boots.length = k ∧ s.e 2 = .lst 1 (rd.map encI) ∧ s.e 3 = .lst 1 (es.map encI) ∧ s.e 4 = .ptr 0 1 0 0 ∧ s.e 8 = .ptr 1 1 0 0 ∧ s.e 9 = .ptr 3 1 0 0 ∧ s.e 10 = .int .i64 k ∧ RS s.h 3 r1 [.k 1 [[V.nils, .int .i64 0, .nils, .nils]], .k 0 [[V.lst 4 (ts.map encTask)]]]) es.length ⟨0, ⟨m, 0, [], []⟩, by omega, by omega, rfl, memV_weak hmo, by simp, by simp, rfl, by simp (disch := omega) only [go_sem, ha, splice], by simp (disch := omega) only [go_sem, ha, splice], by simp (disch := omega) only [go_sem, ha, splice], by simp (disch := omega) only [go_sem, ha, splice], by simp (disch := omega) only [go_sem, ha, splice], by simp (disch := omega) only [go_sem, ha, splice] <;> rfl, R1⟩ ?_
  intro n ee hp' P
  refine Exists.elim P fun k P => Exists.elim P fun r1 P => ?_
  have hk := P.1
  have hn := P.2.1
  have hrl := P.2.2.1
  have hV := P.2.2.2.1
  have hat := P.2.2.2.2.1
  have hu := P.2.2.2.2.2.1
  have hbl := P.2.2.2.2.2.2.1
  have e2 := P.2.2.2.2.2.2.2.1
  have e3 := P.2.2.2.2.2.2.2.2.1
  have e4 := P.2.2.2.2.2.2.2.2.2.1
  have e8 := P.2.2.2.2.2.2.2.2.2.2.1
  have e9 := P.2.2.2.2.2.2.2.2.2.2.2.1
  have e10 := P.2.2.2.2.2.2.2.2.2.2.2.2.1
  have RR := P.2.2.2.2.2.2.2.2.2.2.2.2.2
  clear P
  subst hn
  simp only at e2 e3 e4 e8 e9 e10 RR
  refine Exists.elim RR fun vm q => Exists.elim q fun vu q => Exists.elim q fun vb S3 => ?_
  have K3 := S3.blk 0 rfl
  have P3 := S3.blk 5 rfl
  have zm := S3.vv 1 rfl
  have zu := S3.vv 2 rfl
  have zb := S3.vv 3 rfl
  simp (disch := omega) only [go_sem, e2, e3, e4, e8, e9, e10]
  refine condP_dec (fun hlt => ?_) (fun hlt => ?_)
  case' refine_2 =>
    have hke : k = es.length := by omega
    have hr1 : r1 = runM ts m rd es := by rw [hke, List.drop_length] at hrl; exact hrl
    have K1 := S3.blk 4 rfl
    have S4 := ((S3.pull 4).setK [[vm, .int .i64 r1.at_, vu, vb]]).pk (A := [_, _, _, _, _, _]) [4, 3, 2] rfl
    have A0 := S4.asRow
    have A1 := Sep.cons2 (fun es e => by cases e) (Sep.sw A0)
    have A2 := Sep.li (k := .i64) (z := r1.at_) A1
    have A3 := Sep.cons2 (fun es e => by cases e) (Sep.sw A2)
    have A6 := A3.a.ret
    have C1 : ∀ d, (hp'.set 1 d)[1]? = some d := fun d => heap_set _ K1
    simp (disch := omega) only [go_sem, e2, e3, e4, e8, e9, e10, K3, K1, C1, zm.1, zm.2.1, zm.2.2, zu.1, zu.2.1, zu.2.2, zb.1, zb.2.1, zb.2.2, storeH, storeB, splice]
    rw [← hr1]
    exact A6
  have hlt' : k < es.length := by omega
  have hdk : es.drop k = es[k] :: es.drop (k + 1) := List.drop_eq_getElem_cons hlt'
  have heb : 0 ≤ es[k] ∧ es[k] ≤ 5000 := by
    have := hes es[k] (List.getElem_mem hlt')
    simpa [energyOk, within] using this
  rw [hdk] at hrl
  have BF := bootM_facts (rd := rd) (at_ := r1.at_) (e := es[k]) f.1 hV heb.1
  have hbf := bootS_f ts r1.mem rd r1.at_ es[k] f.1 hV hr (by omega) (by omega)
  refine Exists.elim (show ∃ b, b = bootM ts r1.mem rd r1.at_ es[k] from ⟨_, rfl⟩) fun b hb => ?_
  rw [← hb] at BF hbf
  simp (disch := omega) only [go_sem, e2, e3, e4, e8, e9, e10, K3, P3, zm.1, zm.2.1, zm.2.2, zu.1, zu.2.1, zu.2.2, zb.1, zb.2.1, zb.2.2, refs_task, List.getElem?_eq_getElem, hlt', List.getElem?_map, encI]
  refine S3.go hbf (.cons (.same _ (refs_prog 0 ts)) (.cons (S3.snap 1 rfl) (.cons (.same _ (by simp [V.refs, refsLL_map encI (fun _ => rfl) rd])) (.cons (.int _ _) (.cons (.int _ _) (.nil _)))))) fun r4 h4 x4 S4 => ?_
  refine Exists.elim S4.openBoot fun vm4 q => Exists.elim q fun vu4 q => ?_
  have hr4 := q.1
  have S5 := q.2
  clear q S4
  subst hr4
  have hun : runL ts rd (es[k] :: es.drop (k + 1)) r1 = runL ts rd (es.drop (k + 1)) ⟨b.mem, b.at_, r1.used ++ b.used, r1.boots ++ [(b.used.length : Int)]⟩ := by rw [hb]; rfl
  rw [hun] at hrl
  clear hun
  have S6 := S5.newK [[vm4, .int .i64 b.at_, vu4, .int .i64 b.left]]
  have T6 := S6.blk 0 rfl
  have K6 := S6.blk 3 rfl
  have z4 := S6.vv 1 rfl
  have w4 := S6.vv 2 rfl
  have len4 := fun G => (S6.lst 2 rfl).elim fun i o => o.len_ G
  simp only [List.length_map] at len4
  have S6' := (S6.pull 3).setK [[vm4, .int .i64 r1.at_, vu, vb]]
  have T6' := S6'.blk 1 rfl
  have K6' := S6'.blk 0 rfl
  have S7 := S6'.setK [[vm4, .int .i64 b.at_, vu, vb]]
  have T7 := S7.blk 1 rfl
  have K7 := S7.blk 0 rfl
  have S8 := S7.pk (A := [_, _, _, _, _, _, _]) [5, 3, 0, 1, 2, 6] rfl
  refine Exists.elim (S8.pushAll (bytes := 24) (by simp; omega)) fun v9 q => Exists.elim q fun h9 q => ?_
  have hap := q.1
  have S9 := q.2
  clear q
  rw [← List.map_append] at S9
  have z9 := S9.vv 0 rfl
  have K9 := S9.blk 1 rfl
  have S10 := (S9.pull 1).setK [[vm4, .int .i64 b.at_, v9, vb]]
  have T10 := S10.blk 2 rfl
  have K10 := S10.blk 0 rfl
  refine Exists.elim ((S10.pull 4).pushS (bytes := 8) [.int .i64 b.used.length] rfl (by simp [hbl]; omega)) fun v11 q => Exists.elim q fun h11 q => ?_
  have hap2 := q.1
  have S11 := q.2
  clear q
  rw [show r1.boots.map encI ++ [[V.int .i64 b.used.length]] = (r1.boots ++ [(b.used.length : Int)]).map encI by simp [encI]] at S11
  have z11 := S11.vv 0 rfl
  have K11 := S11.blk 1 rfl
  have S12 := (S11.pull 1).setK [[vm4, .int .i64 b.at_, v9, v11]]
  simp (disch := omega) only [go_sem, e2, e3, e4, e8, e9, e10, T6, K6, z4.1, z4.2.1, z4.2.2, w4.1, w4.2.1, w4.2.2, zu.1, zu.2.1, zu.2.2, zb.1, zb.2.1, zb.2.2, storeH, storeB, splice, T6', K6', T7, K7, hap, len4, K9, z9.1, z9.2.1, z9.2.2, T10, K10, hap2, z11.1, z11.2.1, z11.2.2, K11]
  exact nextP_intro (es.length - (k + 1)) (by omega) ⟨k + 1, ⟨b.mem, b.at_, r1.used ++ b.used, r1.boots ++ [(b.used.length : Int)]⟩, by omega, rfl, hrl, BF.1, ⟨by show 0 ≤ b.at_; omega, by show b.at_ ≤ _; push_cast; omega⟩, by show (r1.used ++ b.used).length ≤ _; rw [List.length_append]; omega, by show (r1.boots ++ [(b.used.length : Int)]).length = _; simp [hbl], by simp (disch := omega) only [go_sem, e2, e3, e4, e8, e9, e10, T6, K6, z4.1, z4.2.1, z4.2.2, w4.1, w4.2.1, w4.2.2, zu.1, zu.2.1, zu.2.2, zb.1, zb.2.1, zb.2.2, storeH, storeB, splice, T6', K6', T7, K7, hap, len4, K9, z9.1, z9.2.1, z9.2.2, T10, K10, hap2, z11.1, z11.2.1, z11.2.2, K11], by simp (disch := omega) only [go_sem, e2, e3, e4, e8, e9, e10, T6, K6, z4.1, z4.2.1, z4.2.2, w4.1, w4.2.1, w4.2.2, zu.1, zu.2.1, zu.2.2, zb.1, zb.2.1, zb.2.2, storeH, storeB, splice, T6', K6', T7, K7, hap, len4, K9, z9.1, z9.2.1, z9.2.2, T10, K10, hap2, z11.1, z11.2.1, z11.2.2, K11], by simp (disch := omega) only [go_sem, e2, e3, e4, e8, e9, e10, T6, K6, z4.1, z4.2.1, z4.2.2, w4.1, w4.2.1, w4.2.2, zu.1, zu.2.1, zu.2.2, zb.1, zb.2.1, zb.2.2, storeH, storeB, splice, T6', K6', T7, K7, hap, len4, K9, z9.1, z9.2.1, z9.2.2, T10, K10, hap2, z11.1, z11.2.1, z11.2.2, K11], by simp (disch := omega) only [go_sem, e2, e3, e4, e8, e9, e10, T6, K6, z4.1, z4.2.1, z4.2.2, w4.1, w4.2.1, w4.2.2, zu.1, zu.2.1, zu.2.2, zb.1, zb.2.1, zb.2.2, storeH, storeB, splice, T6', K6', T7, K7, hap, len4, K9, z9.1, z9.2.1, z9.2.2, T10, K10, hap2, z11.1, z11.2.1, z11.2.2, K11], by simp (disch := omega) only [go_sem, e2, e3, e4, e8, e9, e10, T6, K6, z4.1, z4.2.1, z4.2.2, w4.1, w4.2.1, w4.2.2, zu.1, zu.2.1, zu.2.2, zb.1, zb.2.1, zb.2.2, storeH, storeB, splice, T6', K6', T7, K7, hap, len4, K9, z9.1, z9.2.1, z9.2.2, T10, K10, hap2, z11.1, z11.2.1, z11.2.2, K11], by simp (disch := omega) only [go_sem, e2, e3, e4, e8, e9, e10, T6, K6, z4.1, z4.2.1, z4.2.2, w4.1, w4.2.1, w4.2.2, zu.1, zu.2.1, zu.2.2, zb.1, zb.2.1, zb.2.2, storeH, storeB, splice, T6', K6', T7, K7, hap, len4, K9, z9.1, z9.2.1, z9.2.2, T10, K10, hap2, z11.1, z11.2.1, z11.2.2, K11] <;> rfl, ⟨vm4, v9, v11, S12.pk (A := [_, _, _, _, _]) [0, 4, 2, 1] rfl⟩⟩
theorem runOk_s (ts : List Task) (m rd es : List Int) (hl : ts.length ≤ 1048576) (hb : ∀ t ∈ ts, t.body.length ≤ 9223372036854775807) (hml : m.length ≤ 9223372036854775807) (hr : rd.length ≤ 9223372036854775807) (hel : es.length ≤ 9223372036854775807) : CP Tryz.prog 183 [.agg [.lst 4 (ts.map encTask)], .lst 1 (m.map encI), .lst 1 (rd.map encI), .lst 1 (es.map encI)] (.bool (runOk ts m rd es)) [] := by
  refine CP.by rfl mixed (cfn_ok Tryz.func183 ok183) rfl ?_
  simp (disch := omega) only [s183, go_sem, refs_task]
  refine CP.go (memOk_s ts m hl hb hml) rfl (by simp [V.refsL, V.refs, refsLL_map encTask (refs_task 0) ts, refsLL_map encI (fun _ => rfl) m]) ?_
  simp (disch := omega) only [go_sem, refs_task]
  refine condP_split (fun h1 => ?_) (fun h1 => ?_)
  case' refine_2 =>
    simp (disch := omega) only [go_sem, h1]
    rw [show runOk ts m rd es = false by simp [runOk, h1]]
  simp (disch := omega) only [go_sem, h1]
  refine CP.go (values_s rd hr) rfl (refs_int1 _ _) ?_
  simp (disch := omega) only [go_sem, h1]
  refine condP_split (fun h2 => ?_) (fun h2 => ?_)
  case' refine_2 =>
    simp (disch := omega) only [go_sem, h1, h2]
    rw [show runOk ts m rd es = false by simp [runOk, h2]]
  simp (disch := omega) only [go_sem, h1, h2]
  refine condP_dec (fun h60 => ?_) (fun h60 => ?_)
  case' refine_1 =>
    simp (disch := omega) only [go_sem, h1, h2]
    have : ¬ es.length ≤ 60 := by omega
    rw [show runOk ts m rd es = false by simp [runOk, this]]
  have hro : runOk ts m rd es = es.all energyOk := by
    have : es.length ≤ 60 := by omega
    simp [runOk, h1, h2, this]
  rw [hro]
  simp (disch := omega) only [go_sem, h1, h2]
  refine loopP_intro (fun n s => ∃ k : Nat, k ≤ es.length ∧ n = es.length - k ∧ s.e 3 = .lst 1 (es.map encI) ∧ s.e 9 = .int .i64 k ∧ ∀ j (hj : j < es.length), j < k → energyOk es[j] = true) es.length ⟨0, by omega, by omega, by simp (disch := omega) only [go_sem, h1, h2], by simp (disch := omega) only [go_sem, h1, h2] <;> rfl, fun j _ h => absurd h (by omega)⟩ ?_
  rintro n e hp ⟨k, hk, rfl, e3, e9, hall⟩
  simp only at e3 e9
  simp (disch := omega) only [go_sem, e3, e9, encI]
  refine condP_dec (fun hlt => ?_) (fun hlt => ?_)
  · have hlt' : k < es.length := by omega
    simp (disch := omega) only [go_sem, e3, e9, encI]
    refine CP.go (l01In_c es[k] 0 5000) rfl rfl ?_
    simp (disch := omega) only [go_sem, e3, e9, encI]
    refine condP_split (fun h => ?_) (fun h => ?_)
    · simp (disch := omega) only [go_sem, e3, e9]
      refine nextP_intro (es.length - (k + 1)) (by omega) ⟨k + 1, by omega, rfl, by simp (disch := omega) only [go_sem, e3, e9], by simp (disch := omega) only [go_sem, e3, e9] <;> rfl, fun j hj hjk => ?_⟩
      by_cases q : j = k
      · subst q; exact h
      · exact hall j hj (by omega)
    · simp (disch := omega) only [go_sem, e3, e9]
      rw [all_at hlt' h]
  · simp (disch := omega) only [go_sem, e3, e9]
    rw [all_take (fun j hj => hall j hj (by omega))]
theorem Sep.openRunA {h : Heap} {x : Run} {r : V} {L : List It} (S : Sep h (.v (.agg (encRun x)) r :: L)) : ∃ vm vu vb, r = .agg [vm, .int .i64 x.at_, vu, vb] ∧ Sep h (.v (.lst 1 (x.mem.map encI)) vm :: .v (.lst 1 (x.used.map encL)) vu :: .v (.lst 1 (x.boots.map encI)) vb :: L) := by
  obtain ⟨c, rfl, S4⟩ := sep_agg.1 S
  obtain ⟨vm, _, rfl, T2⟩ := sep_ll.1 S4
  obtain ⟨_, rfl, T3⟩ := sep_li.1 T2
  obtain ⟨vu, _, rfl, T4⟩ := sep_ll.1 T3
  obtain ⟨vb, _, rfl, T5⟩ := sep_ll.1 T4
  obtain ⟨rfl, T6⟩ := sep_l0.1 T5
  refine ⟨vm, vu, vb, rfl, T6.perm ?_⟩
  simp only [List.append_assoc, List.cons_append, List.nil_append]
  exact List.perm_append_comm
theorem runBootsS_f (ts : List Task) (m rd es : List Int) (hl : ts.length ≤ 1048576) (hb : ∀ t ∈ ts, t.body.length ≤ 9223372036854775807) (hml : m.length ≤ 9223372036854775807) (hr : rd.length ≤ 9223372036854775807) (hel : es.length ≤ 9223372036854775807) :
    F Tryz.prog 121 [.agg [.lst 4 (ts.map encTask)], .lst 1 (m.map encI), .lst 1 (rd.map encI), .lst 1 (es.map encI)] (.tup [.agg (encRun (runR ts m rd es)), .bool (runOk ts m rd es)]) := by
  refine C.by mixed (cfn_ok Tryz.func121 ok121) rfl ?_
  simp (disch := omega) only [s121, go_sem, refs_task]
  refine CP.go (runOk_s ts m rd es hl hb hml hr hel) rfl (by simp [V.refsL, V.refs, refsLL_map encTask (refs_task 0) ts, refsLL_map encI (fun _ => rfl) m, refsLL_map encI (fun _ => rfl) rd, refsLL_map encI (fun _ => rfl) es]) ?_
  have S0 : Sep ([[[V.lst 4 (ts.map encTask)]], [[V.nils, .int .i64 0, .nils, .nils]]] : Heap) [.k 1 [[V.nils, .int .i64 0, .nils, .nils]], .k 0 [[V.lst 4 (ts.map encTask)]]] := ((Sep.nil []).newK _).newK _
  simp (disch := omega) only [go_sem, refs_task]
  refine condP_split (fun h1 => ?_) (fun h1 => ?_)
  case' refine_2 =>
    simp (disch := omega) only [go_sem, h1, storeH, storeB, splice]
    rw [runR, h1, if_neg (by simp)]
    have A1 := Sep.cons2 (fun es e => by cases e) (Sep.sw (Sep.l0 (S0.nils (sz := 1))))
    have A2 := Sep.cons2 (fun es e => by cases e) (A1.nils (sz := 1))
    have A3 := Sep.li (k := .i64) (z := 0) A2
    have A4 := Sep.cons2 (fun es e => by cases e) (A3.nils (sz := 1))
    have A5 := Sep.cons2 (fun es e => by cases e) (Sep.sw (Sep.lb (z := false) (Sep.l0 A4.a)))
    exact A5.t.ret
  have hf : memOkM ts m = true ∧ es.length ≤ 60 ∧ ∀ e ∈ es, energyOk e = true := by
    simp only [runOk, Bool.and_eq_true, decide_eq_true_eq, List.all_eq_true] at h1
    exact ⟨h1.1.1.1, h1.1.2, h1.2⟩
  have hrun := runS_f ts m rd es hf.1 hf.2.2 hf.2.1 hr
  have hR : runM ts m rd es = runR ts m rd es := by rw [runR, if_pos h1]
  rw [hR] at hrun
  refine Exists.elim (show ∃ x, x = runR ts m rd es from ⟨_, rfl⟩) fun x hx => ?_
  rw [← hx] at hrun ⊢
  simp (disch := omega) only [go_sem, h1, refs_task]
  refine S0.go hrun (.cons (.same _ (refs_prog 0 ts)) (.cons (.same _ (by simp [V.refs, refsLL_map encI (fun _ => rfl) m])) (.cons (.same _ (by simp [V.refs, refsLL_map encI (fun _ => rfl) rd])) (.cons (.same _ (by simp [V.refs, refsLL_map encI (fun _ => rfl) es])) (.nil _))))) fun r2 h2 x2 S2 => ?_
  refine Exists.elim S2.openRunA fun vm q => Exists.elim q fun vu q => Exists.elim q fun vb q => ?_
  have hr2 := q.1
  have S3 := q.2
  clear q S2
  subst hr2
  have zm := S3.vv 0 rfl
  have zu := S3.vv 1 rfl
  have zb := S3.vv 2 rfl
  have K3 := S3.blk 3 rfl
  have C3 : ∀ d, (h2.set 1 d)[1]? = some d := fun d => heap_set _ K3
  have S4 := ((S3.pull 3).setK [[vm, .int .i64 x.at_, vu, vb]]).pk (A := [_, _, _, _, _]) [3, 2, 1] rfl
  have D0 := S4.asRow
  have D1 := Sep.cons2 (fun es e => by cases e) (Sep.sw D0)
  have D2 := Sep.li (k := .i64) (z := x.at_) D1
  have D3 := Sep.cons2 (fun es e => by cases e) (Sep.sw D2)
  have D5 := Sep.cons2 (fun es e => by cases e) (Sep.sw (Sep.lb (z := true) (Sep.l0 D3.a)))
  have D6 := D5.t.ret
  simp (disch := omega) only [go_sem, h1, K3, C3, zm.1, zm.2.1, zm.2.2, zu.1, zu.2.1, zu.2.2, zb.1, zb.2.1, zb.2.2, storeH, storeB, splice]
  exact D6
end Go.Av

namespace Go.Av
open Go.Proofs Go.RowKit
set_option linter.unusedVariables false
set_option linter.unusedSimpArgs false
set_option maxRecDepth 100000
set_option maxHeartbeats 4000000
def DB (P : Program) (f : FuncId) (args : List V) (h : Heap) (id : Nat) : Prop := C P f args h (fun r h' => ∃ b, r = .bool b ∧ Cur h' id ∧ ExtX id h h')
theorem DB.go {P : Program} {f : FuncId} {args : List V} {h : Heap} {id : Nat} {K : V → Heap → Prop} (hc : DB P f args h id) (hk : ∀ b h', Cur h' id → ExtX id h h' → K (.bool b) h') : @callP P f args h ⟨K⟩ :=
  C.go hc fun r h' ⟨z, e, c, d⟩ => by subst e; exact hk z h' c d
end Go.Av

namespace Go.Av
open Go.Proofs Go.RowKit
set_option linter.unusedVariables false
set_option linter.unusedSimpArgs false
set_option maxRecDepth 100000
set_option maxHeartbeats 4000000
def Tr.app : Tr → Tr → Tr
  | .nil, b => b
  | .one s r, b => .one s (r.app b)
  | .grp s a r, b => .grp s a (r.app b)
def Tr.dep : Tr → Nat
  | .nil => 0
  | .one _ r => r.dep
  | .grp _ a r => max (a.dep + 1) r.dep
def BlockD (d n : Nat) (lim : Nat) : Prop := ∀ (ni di : Int) (h : Heap) (id : Nat) (L : List It), ni = n → di = d → Sep h (.c id :: L) → C Tryz.prog 185 [.ptr id 1 0 0, .int .i64 ni, .int .i64 di] h (fun r h' => ∃ (t : Tr) (l : Nat), r = .own l 6 0 t.flat.length t.flat.length ∧ t.ok = true ∧ t.dep ≤ 2 - d ∧ t.flat.length ≤ lim ∧ Sep h' (.k l (t.flat.map encStmt) :: .c id :: L))
end Go.Av

namespace Go.Av
open Go.Proofs Go.RowKit
set_option linter.unusedVariables false
set_option linter.unusedSimpArgs false
set_option maxRecDepth 100000
set_option maxHeartbeats 4000000
theorem BlockD.mono {d n l l' : Nat} (h : BlockD d n l) (hl : l ≤ l') : BlockD d n l' := fun ni di hh id L h1 h2 S => C.mono (h ni di hh id L h1 h2 S) fun r h' ⟨t, q, a, b, c, e, f⟩ => ⟨t, q, a, b, c, by omega, f⟩
end Go.Av

namespace Go.Av
open Go.Proofs Go.RowKit
set_option linter.unusedVariables false
set_option linter.unusedSimpArgs false
set_option maxRecDepth 100000
set_option maxHeartbeats 4000000
end Go.Av

namespace Go.Av
open Go.Proofs Go.RowKit
set_option linter.unusedVariables false
set_option linter.unusedSimpArgs false
set_option maxRecDepth 100000
set_option maxHeartbeats 4000000
end Go.Av

namespace Go.Av
open Go.Proofs Go.RowKit
set_option linter.unusedVariables false
set_option linter.unusedSimpArgs false
set_option maxRecDepth 100000
set_option maxHeartbeats 4000000
theorem Snap.part {h : Heap} {id sz n : Nat} {b : Blk} (o u : Nat) (hb : h[id]? = some b) (hn : b.length = n) (hu : o + u ≤ n) (hf : Av.flat b = true) : Snap h (.own id sz o u n) (.lst sz ((b.drop o).take u)) := by
  subst hn
  have get : ∀ (i : Nat) (d : List V), ((b.drop o).take u)[i]? = some d → b[o + i]? = some d := fun i d h2 => by
    have hi : i < u := by have := (List.getElem?_eq_some_iff.1 h2).1; simp at this; omega
    rw [List.getElem?_take_of_lt hi, List.getElem?_drop] at h2; exact h2
  refine .own hb rfl hu (by simp; omega) (fun i e d h1 h2 => ?_) (fun i e d j c x h1 h2 h3 h4 => ?_)
  · have := get i d h2
    rw [h1] at this; cases this; rfl
  · have := get i d h2
    rw [h1] at this; cases this
    rw [h3] at h4; cases h4
    exact Snap.of_scalar h (flat_get hf h1 h3)
end Go.Av

namespace Go.Av
open Go.Proofs Go.RowKit
set_option linter.unusedVariables false
set_option linter.unusedSimpArgs false
set_option maxRecDepth 100000
set_option maxHeartbeats 4000000
end Go.Av

namespace Go.Av
open Go.Proofs Go.RowKit
set_option linter.unusedVariables false
set_option linter.unusedSimpArgs false
set_option maxRecDepth 100000
set_option maxHeartbeats 4000000
end Go.Av

namespace Go.Av
open Go.Proofs Go.RowKit
set_option linter.unusedVariables false
set_option linter.unusedSimpArgs false
set_option maxRecDepth 100000
set_option maxHeartbeats 4000000
def DrawnP (ts : List Task) : Prop := (1 ≤ ts.length ∧ ts.length ≤ 3) ∧ ∀ t ∈ ts, taskOk t = true
theorem DrawnP.body {ts : List Task} (h : DrawnP ts) : ∀ t ∈ ts, t.body.length ≤ 1048576 := fun t ht => by
  have := (treeOf_ok (task_facts (h.2 t ht)).1).2.2
  omega
theorem DrawnP.ok {ts : List Task} (h : DrawnP ts) : programOk ts = true := by
  simp only [programOk, within, Bool.and_eq_true, decide_eq_true_eq, List.all_eq_true]
  have := h.1
  exact ⟨by omega, h.2⟩
end Go.Av

namespace Go.Av
open Go.Proofs Go.RowKit
set_option linter.unusedVariables false
set_option linter.unusedSimpArgs false
set_option maxRecDepth 100000
set_option maxHeartbeats 8000000
end Go.Av

namespace Go.Av
open Go.Proofs Go.RowKit
set_option linter.unusedVariables false
set_option linter.unusedSimpArgs false
set_option maxRecDepth 100000
set_option maxHeartbeats 8000000
theorem Sep.openRun {h : Heap} {x : Run} {b : Bool} {r : V} {L : List It} (S : Sep h (.v (.tup [.agg (encRun x), .bool b]) r :: L)) : ∃ vm vu vb, r = .tup [.agg [vm, .int .i64 x.at_, vu, vb], .bool b] ∧ Sep h (.v (.lst 1 (x.mem.map encI)) vm :: .v (.lst 1 (x.used.map encL)) vu :: .v (.lst 1 (x.boots.map encI)) vb :: L) := by
  obtain ⟨_, rfl, S1⟩ := sep_tup.1 S
  obtain ⟨c, _, rfl, S2⟩ := sep_la.1 S1
  obtain ⟨_, rfl, S3⟩ := sep_lb.1 (S2.perm (.swap _ _ _))
  obtain ⟨rfl, S4⟩ := sep_l0.1 S3
  obtain ⟨vm, _, rfl, T2⟩ := sep_ll.1 S4
  obtain ⟨_, rfl, T3⟩ := sep_li.1 T2
  obtain ⟨vu, _, rfl, T4⟩ := sep_ll.1 T3
  obtain ⟨vb, _, rfl, T5⟩ := sep_ll.1 T4
  obtain ⟨rfl, T6⟩ := sep_l0.1 T5
  refine ⟨vm, vu, vb, rfl, T6.perm ?_⟩
  simp only [List.append_assoc, List.cons_append, List.nil_append]
  exact List.perm_append_comm
end Go.Av

namespace Go.Av
open Go.Proofs Go.RowKit
set_option linter.unusedVariables false
set_option linter.unusedSimpArgs false
set_option maxRecDepth 100000
set_option maxHeartbeats 8000000
theorem ret_list {h : Heap} {id : Nat} {es : List Int} {b : Bool} (hid : h[id]? = some (es.map encI)) : ∃ ids : List Nat, ids.Nodup ∧ OwnsR h (.tup [.lst 1 (es.map encI), .bool b]) (.tup [.own id 1 0 es.length es.length, .bool b]) ids := by
  have A1 := Sep.ofFlat (sz := 1) (n := es.length) (Sep.ofBlk hid) (by simp) (flat_encI _)
  exact (Sep.cons2 (fun es e => by cases e) (Sep.sw (Sep.lb (z := b) (Sep.l0 A1)))).t.ret
theorem energies23_f (s : Store) (hs : List Int) (hl : hs.length ≤ 1048576) : F Tryz.prog 120 [.agg (encStore s), .lst 1 (hs.map encI)] (.tup [.lst 1 (((enX s hs).take 60).map encI), .bool (harvOk s hs)]) :=
  C.mono (energies23_s s hs hl []) fun r h' ⟨es, id, e1, e2, e3, _⟩ => by
    subst e1 e3
    exact ret_list e2
theorem enX_len (s : Store) (hs : List Int) : (enX s hs).length ≤ 500 := by
  unfold enX
  split
  · rename_i ho
    simp only [harvOk, Bool.and_eq_true, decide_eq_true_eq] at ho
    have := enM_len hs s
    omega
  · simp
theorem harvNo_c (s : Store) (hs : List Int) (hl : hs.length ≤ 9223372036854775807) (ho : harvOk s hs = false) (H0 : Heap) : C Tryz.prog 130 [.agg (encStore s), .lst 1 (hs.map encI)] H0 (fun r h' => r = .tup [.nils, .int .i64 0, .bool false]) := by
  refine C.by mixed (cfn_ok Tryz.func130 ok130) rfl ?_
  simp (disch := omega) only [s130, go_sem, encStore]
  refine CP.go (storeOk_c s) rfl rfl ?_
  simp (disch := omega) only [go_sem]
  refine condP_split (fun h1 => ?_) (fun h1 => ?_)
  case' refine_2 =>
    simp (disch := omega) only [go_sem, h1]
  simp (disch := omega) only [go_sem, h1]
  refine condP_dec (fun h2 => ?_) (fun h2 => ?_)
  case' refine_1 =>
    simp (disch := omega) only [go_sem, h1]
  simp (disch := omega) only [go_sem, h1]
  refine CP.go (areHarvests_c hs hl) rfl (refs_int1 _ _) ?_
  simp (disch := omega) only [go_sem, h1]
  refine condP_split (fun h3 => ?_) (fun h3 => ?_)
  case' refine_2 =>
    simp (disch := omega) only [go_sem, h1, h3]
  exfalso
  have : harvOk s hs = true := by
    simp only [harvOk, h1, h3, Bool.true_and, Bool.and_true, decide_eq_true_eq]; omega
  rw [ho] at this; cases this
theorem energiesG_f (s : Store) (hs : List Int) (hl : hs.length ≤ 9223372036854775807) : F Tryz.prog 66 [.agg (encStore s), .lst 1 (hs.map encI)] (.tup [.lst 1 ((enX s hs).map encI), .bool (harvOk s hs)]) := by
  by_cases ho : harvOk s hs = true
  · have e : enX s hs = enM s hs := if_pos ho
    rw [e, ho]
    exact energies_f s hs ho
  · have ho' : harvOk s hs = false := by simpa using ho
    have e : enX s hs = [] := if_neg ho
    rw [e, ho']
    refine C.by mixed (cfn_ok Tryz.func66 ok66) rfl ?_
    simp (disch := omega) only [s66, go_sem, encStore]
    refine C.go (harvNo_c s hs hl ho' _) ?_
    intro r h' e
    subst e
    simp (disch := omega) only [go_sem]
    exact (Sep.cons2 (fun es e => by cases e) (Sep.sw (Sep.lb (z := false) (Sep.l0 ((Sep.nil h').nils (sz := 1)))))).t.ret
noncomputable def crOk (ts : List Task) (hs : List Int) (s : Store) : Bool := harvOk s hs && certM ts s
noncomputable def crB (ts : List Task) (m rd hs : List Int) (s : Store) : Bool := crOk ts hs s && runOk ts m rd ((enX s hs).take 60)
noncomputable def crR (ts : List Task) (m rd hs : List Int) (s : Store) : Run := if crOk ts hs s = true then runR ts m rd ((enX s hs).take 60) else ⟨[], 0, [], []⟩
theorem ret_none {h : Heap} {L : List It} (S : Sep h L) : ∃ ids : List Nat, ids.Nodup ∧ OwnsR h (.tup [.agg (encRun ⟨[], 0, [], []⟩), .bool false]) (.tup [.agg [.nils, .int .i64 0, .nils, .nils], .bool false]) ids := by
  have A1 := Sep.cons2 (fun es e => by cases e) (Sep.sw (Sep.l0 (S.nils (sz := 1))))
  have A2 := Sep.cons2 (fun es e => by cases e) (A1.nils (sz := 1))
  have A3 := Sep.li (k := .i64) (z := 0) A2
  have A4 := Sep.cons2 (fun es e => by cases e) (A3.nils (sz := 1))
  have A5 := Sep.cons2 (fun es e => by cases e) (Sep.sw (Sep.lb (z := false) (Sep.l0 A4.a)))
  exact A5.t.ret
theorem ret_run {h : Heap} {x : Run} {b : Bool} {vm vu vb : V} {L : List It} (S : Sep h (.v (.lst 1 (x.mem.map encI)) vm :: .v (.lst 1 (x.used.map encL)) vu :: .v (.lst 1 (x.boots.map encI)) vb :: L)) : ∃ ids : List Nat, ids.Nodup ∧ OwnsR h (.tup [.agg (encRun x), .bool b]) (.tup [.agg [vm, .int .i64 x.at_, vu, vb], .bool b]) ids := by
  have S4 := S.pk (A := [_, _, _]) [2, 1, 0] rfl
  have D0 := S4.asRow
  have D1 := Sep.cons2 (fun es e => by cases e) (Sep.sw D0)
  have D2 := Sep.li (k := .i64) (z := x.at_) D1
  have D3 := Sep.cons2 (fun es e => by cases e) (Sep.sw D2)
  have D5 := Sep.cons2 (fun es e => by cases e) (Sep.sw (Sep.lb (z := b) (Sep.l0 D3.a)))
  exact D5.t.ret
theorem crS_f (ts : List Task) (m rd hs : List Int) (s : Store) (hl : ts.length ≤ 1048576) (hb : ∀ t ∈ ts, t.body.length ≤ 1048576) (hml : m.length ≤ 9223372036854775807) (hr : rd.length ≤ 9223372036854775807) (hhl : hs.length ≤ 1048576) :
    F Tryz.prog 52 [.agg [.lst 4 (ts.map encTask)], .lst 1 (m.map encI), .lst 1 (rd.map encI), .agg (encStore s), .lst 1 (hs.map encI)] (.tup [.agg (encRun (crR ts m rd hs s)), .bool (crB ts m rd hs s)]) := by
  have hel : ((enX s hs).take 60).length ≤ 60 := by simp; omega
  refine C.by mixed (cfn_ok Tryz.func52 ok52) rfl ?_
  simp (disch := omega) only [s52, go_sem, encStore]
  have S0 : Sep ([[[V.lst 4 (ts.map encTask)]], [encStore s], [[V.nils, .int .i64 0, .nils, .nils]]] : Heap) [.k 2 [[V.nils, .int .i64 0, .nils, .nils]], .k 1 [encStore s], .k 0 [[V.lst 4 (ts.map encTask)]]] := (((Sep.nil []).newK _).newK _).newK _
  refine S0.goLstB (energies23_f s hs hhl) (.same (by simp [V.refsL, V.refs, encStore, refsLL_map encI (fun _ => rfl) hs])) fun v1 h1 x1 S1 o1 n1 c1 => ?_
  have A1 := S1.blk 3 rfl
  have B1 := S1.blk 2 rfl
  have K1 := S1.blk 1 rfl
  have C1 : ∀ d, (h1.set 2 d)[2]? = some d := fun d => heap_set _ K1
  simp only [encStore] at B1
  have S2 := (S1.pull 1).setK [[V.nils, .int .i64 0, .nils, .nils]]
  simp (disch := omega) only [go_sem, o1, n1, c1, A1, B1, refs_task]
  refine condP_split (fun ho => ?_) (fun ho => ?_)
  case' refine_2 =>
    simp (disch := omega) only [go_sem, ho, K1, C1, storeH, storeB, splice]
    rw [crR, crB, show crOk ts hs s = false by simp [crOk, ho], if_neg (by simp), Bool.false_and]
    exact ret_none S2
  simp (disch := omega) only [go_sem, o1, n1, c1, A1, B1, refs_task, ho]
  refine CP.go (cert_s ts s hl hb) rfl (refs_cert _ ts s) ?_
  simp (disch := omega) only [go_sem, o1, n1, c1, A1, B1, refs_task, ho]
  refine condP_split (fun hc => ?_) (fun hc => ?_)
  case' refine_2 =>
    simp (disch := omega) only [go_sem, ho, hc, K1, C1, storeH, storeB, splice]
    rw [crR, crB, show crOk ts hs s = false by simp [crOk, hc], if_neg (by simp), Bool.false_and]
    exact ret_none S2
  have hrun := runBootsS_f ts m rd ((enX s hs).take 60) hl (fun t ht => by have := hb t ht; omega) hml hr (by omega)
  have hok : crOk ts hs s = true := by simp [crOk, ho, hc]
  have e1 : crR ts m rd hs s = runR ts m rd ((enX s hs).take 60) := if_pos hok
  have e2 : crB ts m rd hs s = runOk ts m rd ((enX s hs).take 60) := by rw [crB, hok, Bool.true_and]
  rw [e1, e2]
  refine Exists.elim (show ∃ x, x = runR ts m rd ((enX s hs).take 60) from ⟨_, rfl⟩) fun x hx => ?_
  rw [← hx] at hrun ⊢
  simp (disch := omega) only [go_sem, ho, hc, o1, n1, c1, A1, refs_task]
  refine S1.go hrun (.cons (.same _ (refs_prog 0 ts)) (.cons (.same _ (by simp [V.refs, refsLL_map encI (fun _ => rfl) m])) (.cons (.same _ (by simp [V.refs, refsLL_map encI (fun _ => rfl) rd])) (.cons (S1.snap 0 rfl) (.nil _))))) fun r2 h2 x2 S3 => ?_
  refine Exists.elim S3.openRun fun vm q => Exists.elim q fun vu q => Exists.elim q fun vb q => ?_
  have hr2 := q.1
  have S4 := q.2
  clear q S3
  subst hr2
  have zm := S4.vv 0 rfl
  have zu := S4.vv 1 rfl
  have zb := S4.vv 2 rfl
  have K3 := S4.blk 4 rfl
  have C3 : ∀ d, (h2.set 2 d)[2]? = some d := fun d => heap_set _ K3
  have S5 := ((S4.pull 4).setK [[vm, .int .i64 x.at_, vu, vb]]).pk (A := [_, _, _, _]) [1, 2, 3] rfl
  simp (disch := omega) only [go_sem, ho, hc, K3, C3, zm.1, zm.2.1, zm.2.2, zu.1, zu.2.1, zu.2.2, zb.1, zb.2.1, zb.2.2, storeH, storeB, splice]
  exact ret_run S5
theorem crI_f (ts : List Task) (m rd hs : List Int) (s : Store) (hl : ts.length ≤ 1048576) (hb : ∀ t ∈ ts, t.body.length ≤ 1048576) (hml : m.length ≤ 9223372036854775807) (hr : rd.length ≤ 9223372036854775807) (hhl : hs.length ≤ 1048576) :
    F Tryz.prog 16 [.agg [.lst 4 (ts.map encTask)], .lst 1 (m.map encI), .lst 1 (rd.map encI), .agg (encStore s), .lst 1 (hs.map encI)] (.tup [.agg (encRun (crR ts m rd hs s)), .bool (crB ts m rd hs s)]) := by
  have hel : ((enX s hs).take 60).length ≤ 60 := by simp; omega
  have hxl := enX_len s hs
  refine C.by mixed (cfn_ok Tryz.func16 ok16) rfl ?_
  simp (disch := omega) only [s16, go_sem, encStore]
  have S0 : Sep ([[[V.lst 4 (ts.map encTask)]], [encStore s], [[V.nils, .int .i64 0, .nils, .nils]]] : Heap) [.k 2 [[V.nils, .int .i64 0, .nils, .nils]], .k 1 [encStore s], .k 0 [[V.lst 4 (ts.map encTask)]]] := (((Sep.nil []).newK _).newK _).newK _
  refine S0.goLstB (energiesG_f s hs (by omega)) (.same (by simp [V.refsL, V.refs, encStore, refsLL_map encI (fun _ => rfl) hs])) fun v1 h1 x1 S1 o1 n1 c1 => ?_
  have A1 := S1.blk 3 rfl
  have B1 := S1.blk 2 rfl
  have K1 := S1.blk 1 rfl
  have C1 : ∀ d, (h1.set 2 d)[2]? = some d := fun d => heap_set _ K1
  simp only [encStore] at B1
  have S2 := (S1.pull 1).setK [[V.nils, .int .i64 0, .nils, .nils]]
  simp (disch := omega) only [go_sem, o1, n1, c1, A1, B1, refs_task]
  refine CP.go (cert_c ts s hl hb) rfl (refs_cert _ ts s) ?_
  simp (disch := omega) only [go_sem, o1, n1, c1, A1, B1, refs_task]
  refine condP_split (fun hc => ?_) (fun hc => ?_)
  case' refine_2 =>
    simp (disch := omega) only [go_sem, hc, K1, C1, storeH, storeB, splice]
    rw [crR, crB, show crOk ts hs s = false by simp [crOk, hc], if_neg (by simp), Bool.false_and]
    exact ret_none S2
  simp (disch := omega) only [go_sem, hc]
  refine condP_split (fun ho => ?_) (fun ho => ?_)
  case' refine_2 =>
    simp (disch := omega) only [go_sem, ho, K1, C1, storeH, storeB, splice]
    rw [crR, crB, show crOk ts hs s = false by simp [crOk, ho], if_neg (by simp), Bool.false_and]
    exact ret_none S2
  have hrun := runBoots_f ts m rd ((enX s hs).take 60) hl (fun t ht => by have := hb t ht; omega) hml hr (by omega)
  have hok : crOk ts hs s = true := by simp [crOk, ho, hc]
  have e1 : crR ts m rd hs s = runR ts m rd ((enX s hs).take 60) := if_pos hok
  have e2 : crB ts m rd hs s = runOk ts m rd ((enX s hs).take 60) := by rw [crB, hok, Bool.true_and]
  rw [e1, e2]
  refine Exists.elim (show ∃ x, x = runR ts m rd ((enX s hs).take 60) from ⟨_, rfl⟩) fun x hx => ?_
  rw [← hx] at hrun ⊢
  have len1 := fun G => (S1.lst 0 rfl).elim fun i o => o.len_ G
  simp only [List.length_map] at len1
  refine Exists.elim (show ∃ k : Nat, k = min 60 (enX s hs).length from ⟨_, rfl⟩) fun k hk => ?_
  have hmin : min 60 ((enX s hs).length : Int) = (k : Int) := by omega
  have htk : ((enX s hs).take 60).map encI = ((enX s hs).map encI).take k := by
    rw [List.map_take]
    rcases Nat.le_total 60 (enX s hs).length with q | q
    · rw [show k = 60 by omega]
    · rw [List.take_of_length_le (by simpa using q), List.take_of_length_le (by simp; omega)]
  have hsnap : ∃ v2, sliceV 1 v1 none (some (V.int .i64 (k : Int))) = some v2 ∧ (V.one v2 = true ∧ V.nohole v2 = v2 ∧ V.cells v2 = [v2]) ∧ Snap h1 v2 (.lst 1 (((enX s hs).take 60).map encI)) := by
    rcases S1.flat_ (flat_encI _) with ⟨a, b, c⟩ | ⟨eid, a, b⟩
    · have hz : (enX s hs).length = 0 := by have := congrArg List.length b; simpa using this
      have hk0 : k = 0 := by omega
      subst hk0 a
      exact ⟨.nils, rfl, ⟨rfl, rfl, rfl⟩, by rw [htk]; exact .nils 1⟩
    · simp only [List.length_map] at a
      subst a
      refine ⟨_, sliceV_ownhi _ _ _ _ _ _ _ (by omega) (by omega), ⟨rfl, rfl, rfl⟩, ?_⟩
      rw [htk]
      exact Snap.head _ (b.blk 0 rfl) (by simp) (by omega) (flat_encI _)
  refine Exists.elim hsnap fun v2 q => ?_
  have hsl := q.1
  have z2 := q.2.1
  have sn := q.2.2
  clear q hsnap
  simp (disch := omega) only [go_sem, ho, hc, o1, n1, c1, A1, len1, hmin, refs_task, hsl, z2.1, z2.2.1, z2.2.2]
  refine S1.go hrun (.cons (.same _ (refs_prog 0 ts)) (.cons (.same _ (by simp [V.refs, refsLL_map encI (fun _ => rfl) m])) (.cons (.same _ (by simp [V.refs, refsLL_map encI (fun _ => rfl) rd])) (.cons sn (.nil _))))) fun r2 h2 x2 S3 => ?_
  refine Exists.elim S3.openRun fun vm q => Exists.elim q fun vu q => Exists.elim q fun vb q => ?_
  have hr2 := q.1
  have S4 := q.2
  clear q S3
  subst hr2
  have zm := S4.vv 0 rfl
  have zu := S4.vv 1 rfl
  have zb := S4.vv 2 rfl
  have K3 := S4.blk 4 rfl
  have C3 : ∀ d, (h2.set 2 d)[2]? = some d := fun d => heap_set _ K3
  have S5 := ((S4.pull 4).setK [[vm, .int .i64 x.at_, vu, vb]]).pk (A := [_, _, _, _]) [1, 2, 3] rfl
  simp (disch := omega) only [go_sem, ho, hc, K3, C3, zm.1, zm.2.1, zm.2.2, zu.1, zu.2.1, zu.2.2, zb.1, zb.2.1, zb.2.2, storeH, storeB, splice]
  exact ret_run S5
end Go.Av

