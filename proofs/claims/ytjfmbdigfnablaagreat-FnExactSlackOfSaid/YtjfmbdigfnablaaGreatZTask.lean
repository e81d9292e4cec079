/- Tasks and programs, valid or not; what a task may read first. No condition. -/
import Derived.Test.YtjfmbdigfnablaaGreatZEval
namespace Go.Av
open Go.Proofs Go.RowKit
set_option linter.unusedVariables false
set_option linter.unusedSimpArgs false
set_option maxRecDepth 100000
set_option maxHeartbeats 4000000
structure Task where
  body : List Stmt
  next : Expr
def encTask (t : Task) : List V := [.lst 6 (t.body.map encStmt), .int .i64 t.next.op, .int .i64 t.next.a, .int .i64 t.next.b]
theorem refs_task (n : Nat) (t : Task) : V.refsL n (encTask t) = true := by simp [encTask, V.refsL, V.refs, refsLL_map encStmt (refs_stmt n) t.body]
def taskOk (t : Task) : Bool := blockOk t.body && exprOk t.next
theorem refs_task1 (n : Nat) (t : Task) : V.refsL n [.agg (encTask t)] = true := by simp [V.refsL, V.refs, refs_task]
theorem taskOk_c (t : Task) (hb : t.body.length ≤ 9223372036854775807) : CP Tryz.prog 93 [.agg (encTask t)] (.bool (taskOk t)) [] := by
  obtain ⟨body, ⟨op, a, b⟩⟩ := t
  refine CP.by rfl mixed (cfn_ok Tryz.func93 ok93) rfl ?_
  simp (disch := omega) only [s93, go_sem, encTask]
  refine CP.go (blockOk_c body hb) rfl (refs_arg _ _) ?_
  simp (disch := omega) only [go_sem]
  repeat' (first | (refine CP.go (exprOk_c ⟨op, a, b⟩) rfl rfl ?_ <;> (try simp (disch := omega) only [go_sem])) | (refine condP_t (by assumption) ?_ <;> (try simp (disch := omega) only [go_sem])) | (refine condP_f (by assumption) ?_ <;> (try simp (disch := omega) only [go_sem])) | (refine condP_dec (fun h => ?_) (fun h => ?_) <;> (try simp (disch := omega) only [go_sem])) | (refine condP_split (fun h => ?_) (fun h => ?_) <;> (try simp (disch := omega) only [go_sem])))
  all_goals simp_all [taskOk]
theorem notTaskOk_c (t : Task) (hb : t.body.length ≤ 9223372036854775807) : CP Tryz.prog 131 [.agg (encTask t)] (.bool (!taskOk t)) [] := by
  refine CP.by rfl mixed (cfn_ok Tryz.func131 ok131) rfl ?_
  simp (disch := omega) only [s131, go_sem, encTask]
  refine CP.go (taskOk_c t hb) rfl (refs_task1 _ _) ?_
  simp (disch := omega) only [go_sem]
theorem indexTask_c (g : Nat) (p : Task → Bool) (zs : List Task) (hg : ∀ z ∈ zs, CP Tryz.prog g [.agg (encTask z)] (.bool (p z)) []) (hl : zs.length ≤ 9223372036854775807) : CP Tryz.prog 118 [.lst 4 (zs.map encTask), .fn g []] (.int .i64 (idxI p zs)) [] := by
  refine CP.by rfl mixed (cfn_ok Tryz.func118 ok118) rfl ?_
  simp (disch := omega) only [s118, go_sem]
  refine loopP_intro (fun m s => ∃ k : Nat, k ≤ zs.length ∧ m = zs.length - k ∧ s.e 0 = .lst 4 (zs.map encTask) ∧ s.e 1 = .fn g [] ∧ s.e 7 = .int .i64 zs.length ∧ s.e 8 = .int .i64 k ∧ ∀ j (hj : j < zs.length), j < k → p zs[j] = false) zs.length ⟨0, by omega, by omega, rfl, rfl, by simp (disch := omega) only [go_sem], rfl, fun j _ h => absurd h (by omega)⟩ ?_
  rintro m e hp ⟨k, hk, rfl, e0, e1, e7, e8, hall⟩
  simp only at e0 e1 e7 e8
  simp (disch := omega) only [go_sem, e0, e1, e7, e8, encTask]
  refine condP_dec (fun hlt => ?_) (fun hlt => ?_)
  · have hlt' : k < zs.length := by omega
    simp (disch := omega) only [go_sem, e0, e1, e7, e8, encTask]
    refine CP.go (hg zs[k] (List.getElem_mem hlt')) rfl (refs_task1 _ zs[k]) ?_
    simp (disch := omega) only [go_sem, e0, e1, e7, e8, encTask]
    refine condP_split (fun h => ?_) (fun h => ?_)
    · simp (disch := omega) only [go_sem, e0, e1, e7, e8, encTask]
      rw [idxI_found hlt' h hall]
    · simp (disch := omega) only [go_sem, e0, e1, e7, e8, encTask]
      refine nextP_intro (zs.length - (k + 1)) (by omega) ⟨k + 1, by omega, rfl, ?_, ?_, ?_, ?_, fun j hj hjk => ?_⟩
      · simp (disch := omega) only [go_sem, e0, e1, e7, e8, encTask]
      · simp (disch := omega) only [go_sem, e0, e1, e7, e8, encTask]
      · simp (disch := omega) only [go_sem, e0, e1, e7, e8, encTask]
      · simp (disch := omega) only [go_sem, e0, e1, e7, e8, encTask]; rfl
      · by_cases e : j = k
        · subst e; exact h
        · exact hall j hj (by omega)
  · simp (disch := omega) only [go_sem, e0, e1, e7, e8, encTask]
    rw [idxI_none (fun j hj => hall j hj (by omega))]
theorem containsTask_c (g : Nat) (p : Task → Bool) (zs : List Task) (hg : ∀ z ∈ zs, CP Tryz.prog g [.agg (encTask z)] (.bool (p z)) []) (hl : zs.length ≤ 9223372036854775807) (hr : V.refsL 0 [.lst 4 (zs.map encTask), .fn g []] = true) : CP Tryz.prog 69 [.lst 4 (zs.map encTask), .fn g []] (.bool (zs.any p)) [] := by
  refine CP.by rfl mixed (cfn_ok Tryz.func69 ok69) rfl ?_
  simp (disch := omega) only [s69, go_sem]
  refine CP.go (indexTask_c g p zs hg hl) rfl hr ?_
  simp (disch := omega) only [go_sem, idxI_ge]
theorem first_c (t : Tr) (xs : List Stmt) (e : Expr) (ht : t.ok = true) (hf : xs = t.flat) (hb : blockOk xs = true) (he : exprOk e = true) : Pt Tryz.prog 162 [.agg [.lst 6 (xs.map encStmt), .int .i64 e.op, .int .i64 e.a, .int .i64 e.b]] (firstT t e) := by
  have hl := block_len hb
  have hk : taskOk ⟨xs, e⟩ = true := by simp [taskOk, hb, he]
  refine C.by mixed (cfn_ok Tryz.func162 ok162) rfl ?_
  simp (disch := omega) only [s162, go_sem]
  refine CP.go (taskOk_c ⟨xs, e⟩ (by simp only; omega)) rfl (refs_task1 _ ⟨xs, e⟩) ?_
  simp (disch := omega) only [go_sem, hk]
  have S0 : Sep [[[V.lst 6 (xs.map encStmt), .int .i64 e.op, .int .i64 e.a, .int .i64 e.b]], [rowR zero8 zero8]] [.k 1 [rowR zero8 zero8], .k 0 [[V.lst 6 (xs.map encStmt), .int .i64 e.op, .int .i64 e.a, .int .i64 e.b]]] := ⟨[1, 0], by simp, [1], [0], rfl, ⟨rfl, rfl⟩, [0], [], rfl, ⟨rfl, rfl⟩, rfl⟩
  refine C.go (passC_c t xs 1 zero8 zero8 _ _ ht hf hl rfl rfl S0) ?_
  rintro r h1 ⟨rfl, S1⟩
  have hb0 := S1.blk 1 rfl
  have hpl := passT_len t zero8 zero8
  have h8 : zero8.length = 8 := rfl
  simp (disch := omega) only [go_sem, hb0]
  refine C.go (read_c 1 _ _ e (by omega) (by omega) he S1) ?_
  rintro r h2 ⟨rfl, S2⟩
  have hW : (passT t (zero8, zero8)).1.length = 8 := by omega
  have hnl : (noteE (passT t (zero8, zero8)).1 (passT t (zero8, zero8)).2 e).length = 8 := by rw [noteE_len]; omega
  have hlist : firstT t e = listB (noteE (passT t (zero8, zero8)).1 (passT t (zero8, zero8)).2 e) := rfl
  rw [hlist]
  generalize noteE (passT t (zero8, zero8)).1 (passT t (zero8, zero8)).2 e = F at S2 hnl ⊢
  generalize (passT t (zero8, zero8)).1 = W at S2 hW
  have hb1 := heap_app (h' := [[]]) (S2.blk 0 rfl)
  have hdF := rowR_dropF (F := F) hW
  have hFl : (F.map V.bool).length = 8 := by simpa using hnl
  have htk : (F.map V.bool).take 8 = F.map V.bool := List.take_of_length_le (by omega)
  simp (disch := omega) only [go_sem, hb1, hdF, hFl, htk]
  refine loopP_intro (fun m s => ∃ (k l : Nat), k ≤ 8 ∧ m = 8 - k ∧ s.e 4 = .own l 1 0 (accB F k).length (accB F k).length ∧ s.e 24 = .agg (F.map V.bool) ∧ s.e 25 = .int .i64 k ∧ Sep s.h [.k l ((accB F k).map encI)]) 8 ⟨0, h2.length, by omega, by omega, by simp (disch := omega) only [go_sem, hb1, hdF, hFl, htk]; rfl, by simp (disch := omega) only [go_sem, hb1, hdF, hFl, htk], by simp (disch := omega) only [go_sem, hb1, hdF, hFl, htk]; rfl, (Sep.nil _).newK _⟩ ?_
  rintro m e' hp ⟨k, l, hk2, rfl, e4, e24, e25, S⟩
  simp only at e4 e24 e25 S
  simp (disch := omega) only [go_sem, e4, e24, e25]
  refine condP_dec (fun hlt => ?_) (fun hlt => ?_)
  · have hrd : rdc false 1 ((F.map V.bool).drop k) = some (.bool (bitB F k)) := by
      rw [List.drop_eq_getElem_cons (by omega), rdc_one]
      have : k < F.length := by omega
      simp [bitB, this]
    have hin : 0 ≤ (k : Int) ∧ (k : Int) < ((8 : Nat) : Int) := by omega
    have hcl := accB_len F k
    have ha := append1 (sz := 1) (bytes := 8) (c := encI k) (S.blk 0 rfl) (n := (accB F k).length) (by simp) (by omega)
    simp only [encI] at ha
    have hnx := accB_succ F k
    simp (disch := omega) only [go_sem, e4, e24, e25, hrd, hin, ha, encI, Nat.mul_one]
    refine condP_split (fun hk => ?_) (fun hk => ?_)
    · rw [if_pos hk] at hnx
      have hl1 : (accB F (k + 1)).length = (accB F k).length + 1 := by rw [hnx]; simp
      simp (disch := omega) only [go_sem, e4, e24, e25, hrd, hin, ha, encI, Nat.mul_one]
      refine nextP_intro (8 - (k + 1)) (by omega) ⟨k + 1, l, by omega, rfl, ?_, by simp (disch := omega) only [go_sem, e4, e24, e25, hrd, hin, ha, encI, Nat.mul_one], by simp (disch := omega) only [go_sem, e4, e24, e25, hrd, hin, ha, encI, Nat.mul_one]; rfl, ?_⟩
      · rw [hl1]; simp (disch := omega) only [go_sem, e4, e24, e25, hrd, hin, ha, encI, Nat.mul_one]
      · have := (S.app [[encI k]]).setK ((accB F k).map encI ++ [encI k])
        rw [hnx, List.map_append]
        exact this
    · rw [if_neg (by simp [hk]), List.append_nil] at hnx
      simp (disch := omega) only [go_sem, e4, e24, e25, hrd, hin, ha, encI, Nat.mul_one]
      refine nextP_intro (8 - (k + 1)) (by omega) ⟨k + 1, l, by omega, rfl, ?_, by simp (disch := omega) only [go_sem, e4, e24, e25, hrd, hin, ha, encI, Nat.mul_one], by simp (disch := omega) only [go_sem, e4, e24, e25, hrd, hin, ha, encI, Nat.mul_one]; rfl, ?_⟩
      · rw [hnx]; simp (disch := omega) only [go_sem, e4, e24, e25, hrd, hin, ha, encI, Nat.mul_one]
      · rw [hnx]; exact S
  · have hk8 : k = 8 := by omega
    subst hk8
    simp (disch := omega) only [go_sem, e4, e24, e25]
    have hfl : (accB F 8).map encI = (listB F).map encI := rfl
    exact (S.toP (zs := listB F) (n := (accB F 8).length) (by simp) (Nat.le_refl _) (by rw [hfl, List.take_of_length_le (by simp)]) (rows1_ints _)).pret
end Go.Av
