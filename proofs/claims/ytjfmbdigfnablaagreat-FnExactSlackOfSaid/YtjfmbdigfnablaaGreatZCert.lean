/- Programs, stores; certified programs and their slack; both sides. No condition. -/
import Derived.Test.YtjfmbdigfnablaaGreatZBound
namespace Go.Av
open Go.Proofs Go.RowKit
set_option linter.unusedVariables false
set_option linter.unusedSimpArgs false
set_option maxRecDepth 100000
set_option maxHeartbeats 4000000
theorem indexTaskF_c {h : Heap} (g : Nat) (caps : List V) (p : Task → Bool) (zs : List Task) (hg : ∀ z ∈ zs, ∀ h', Ext h h' → C Tryz.prog g (.agg (encTask z) :: caps) h' (fun r h'' => r = .bool (p z) ∧ Ext h' h'')) (hl : zs.length ≤ 9223372036854775807) : C Tryz.prog 118 [.lst 4 (zs.map encTask), .fn g caps] h (fun r h' => r = .int .i64 (idxI p zs) ∧ Ext h h') := by
  refine C.by mixed (cfn_ok Tryz.func118 ok118) rfl ?_
  simp (disch := omega) only [s118, go_sem]
  refine loopP_intro (fun m s => ∃ k : Nat, k ≤ zs.length ∧ m = zs.length - k ∧ s.e 0 = .lst 4 (zs.map encTask) ∧ s.e 1 = .fn g caps ∧ s.e 7 = .int .i64 zs.length ∧ s.e 8 = .int .i64 k ∧ Ext h s.h ∧ ∀ j (hj : j < zs.length), j < k → p zs[j] = false) zs.length ⟨0, by omega, by omega, rfl, rfl, by simp (disch := omega) only [go_sem], rfl, .refl _, fun j _ h => absurd h (by omega)⟩ ?_
  rintro m e hp ⟨k, hk, rfl, e0, e1, e7, e8, X, hall⟩
  simp only at e0 e1 e7 e8 X
  simp (disch := omega) only [go_sem, e0, e1, e7, e8, encTask]
  refine condP_dec (fun hlt => ?_) (fun hlt => ?_)
  · have hlt' : k < zs.length := by omega
    simp (disch := omega) only [go_sem, e0, e1, e7, e8, encTask]
    refine C.go (hg zs[k] (List.getElem_mem hlt') _ X) ?_
    rintro r h2 ⟨rfl, X2⟩
    simp (disch := omega) only [go_sem, e0, e1, e7, e8, encTask]
    refine condP_split (fun h => ?_) (fun h => ?_)
    · simp (disch := omega) only [go_sem, e0, e1, e7, e8, encTask]
      rw [idxI_found hlt' h hall]
      exact ⟨rfl, X.trans X2⟩
    · simp (disch := omega) only [go_sem, e0, e1, e7, e8, encTask]
      refine nextP_intro (zs.length - (k + 1)) (by omega) ⟨k + 1, by omega, rfl, ?_, ?_, ?_, ?_, X.trans X2, fun j hj hjk => ?_⟩
      · simp (disch := omega) only [go_sem, e0, e1, e7, e8, encTask]
      · simp (disch := omega) only [go_sem, e0, e1, e7, e8, encTask]
      · simp (disch := omega) only [go_sem, e0, e1, e7, e8, encTask]
      · simp (disch := omega) only [go_sem, e0, e1, e7, e8, encTask]; rfl
      · by_cases e : j = k
        · subst e; exact h
        · exact hall j hj (by omega)
  · simp (disch := omega) only [go_sem, e0, e1, e7, e8, encTask]
    rw [idxI_none (fun j hj => hall j hj (by omega))]
    exact ⟨rfl, X⟩
theorem containsTaskF_c {h : Heap} (g : Nat) (caps : List V) (p : Task → Bool) (zs : List Task) (hg : ∀ z ∈ zs, ∀ h', Ext h h' → C Tryz.prog g (.agg (encTask z) :: caps) h' (fun r h'' => r = .bool (p z) ∧ Ext h' h'')) (hl : zs.length ≤ 9223372036854775807) : C Tryz.prog 69 [.lst 4 (zs.map encTask), .fn g caps] h (fun r h' => r = .bool (zs.any p) ∧ Ext h h') := by
  refine C.by mixed (cfn_ok Tryz.func69 ok69) rfl ?_
  simp (disch := omega) only [s69, go_sem]
  refine C.go (indexTaskF_c g caps p zs hg hl) ?_
  rintro r h2 ⟨rfl, X⟩
  simp (disch := omega) only [go_sem, idxI_ge]
  exact X
def recCost (n : Nat) : Int := if n = 0 then 0 else 3 * ((n : Int) + 1)
theorem rec_c (n : Nat) (hn : n ≤ 8) : CP Tryz.prog 96 [.int .i64 n] (.int .i64 (recCost n)) [] := by
  refine CP.by rfl mixed (cfn_ok Tryz.func96 ok96) rfl ?_
  simp (disch := omega) only [s96, go_sem, within_dec]
  refine CP.go (within_c _ _ _) rfl rfl ?_
  simp (disch := omega) only [go_sem, within_dec]
  refine condP_dec (fun h => ?_) (fun h => ?_) <;> simp (disch := omega) only [go_sem, within_dec]
  · have : n = 0 := by omega
    subst this; rfl
  · rw [recCost, if_neg (by omega)]
theorem rec_s (n : Nat) (hn : n ≤ 8) : CP Tryz.prog 177 [.int .i64 n] (.int .i64 (recCost n)) [] := by
  refine CP.by rfl mixed (cfn_ok Tryz.func177 ok177) rfl ?_
  simp (disch := omega) only [s177, go_sem, within_dec]
  refine CP.go (l01In_c _ _ _) rfl rfl ?_
  simp (disch := omega) only [go_sem, within_dec]
  refine condP_dec (fun h => ?_) (fun h => ?_) <;> simp (disch := omega) only [go_sem, within_dec]
  · have : n = 0 := by omega
    subst this; rfl
  · rw [recCost, if_neg (by omega)]
/-- The tree of a valid block. -/
noncomputable def treeOf (xs : List Stmt) : Tr := open Classical in if h : blockOk xs = true then (block_tree h).choose else .nil
theorem treeOf_ok {xs : List Stmt} (h : blockOk xs = true) : (treeOf xs).ok = true ∧ xs = (treeOf xs).flat ∧ xs.length ≤ 24 := by
  unfold treeOf
  rw [dif_pos h]
  exact (block_tree h).choose_spec
theorem task_facts {tk : Task} (h : taskOk tk = true) : blockOk tk.body = true ∧ exprOk tk.next = true := by
  simpa [taskOk] using h
noncomputable def taskB (tk : Task) : Int := if taskOk tk = true then boundT (treeOf tk.body) + 9 * ((logT (treeOf tk.body) tk.next).length : Int) + 1 + 3 else -1
noncomputable def bootB (tk : Task) : Int := if taskOk tk = true then taskB tk + recCost (logT (treeOf tk.body) tk.next).length else -1
noncomputable def blockB (tk : Task) : Int := if taskOk tk = true then boundT (treeOf tk.body) else -1
theorem taskB_bd (tk : Task) : -1 ≤ taskB tk ∧ taskB tk ≤ 2300000000080 := by
  unfold taskB
  split
  · rename_i h
    obtain ⟨h1, h2⟩ := task_facts h
    obtain ⟨t1, t2, t3⟩ := treeOf_ok h1
    have := bound_bd t1 (by rw [← t2]; exact t3)
    have := log_len (treeOf tk.body) tk.next
    omega
  · omega
theorem bootB_bd (tk : Task) : -1 ≤ bootB tk ∧ bootB tk ≤ 2300000000200 := by
  unfold bootB
  have := taskB_bd tk
  have := log_len (treeOf tk.body) tk.next
  split
  · unfold recCost
    rename_i h
    have : 0 ≤ taskB tk := by
      unfold taskB
      rw [if_pos h]
      obtain ⟨h1, h2⟩ := task_facts h
      obtain ⟨t1, t2, t3⟩ := treeOf_ok h1
      have := bound_bd t1 (by rw [← t2]; exact t3)
      omega
    split <;> omega
  · omega
theorem taskB_c (tk : Task) (hb : tk.body.length ≤ 1048576) : CP Tryz.prog 34 [.agg (encTask tk)] (.int .i64 (taskB tk)) [] := by
  have hbd := taskB_bd tk
  refine CP.by rfl mixed (cfn_ok Tryz.func34 ok34) rfl ?_
  simp (disch := omega) only [s34, go_sem, encTask]
  refine CP.go (taskOk_c tk (by omega)) rfl (refs_task1 _ tk) ?_
  simp (disch := omega) only [go_sem, encTask]
  refine condP_split (fun hk => ?_) (fun hk => ?_)
  case' refine_2 =>
    simp (disch := omega) only [go_sem, encTask]
    rw [taskB, if_neg (by simp [hk])]
  obtain ⟨h1, h2⟩ := task_facts hk
  obtain ⟨t1, t2, t3⟩ := treeOf_ok h1
  have hv : taskB tk = boundT (treeOf tk.body) + 9 * ((logT (treeOf tk.body) tk.next).length : Int) + 1 + 3 := by rw [taskB, if_pos hk]
  have hbb := bound_bd t1 (by rw [← t2]; exact t3)
  have hll := log_len (treeOf tk.body) tk.next
  simp (disch := omega) only [go_sem, encTask]
  refine CP.go (bound_c (treeOf tk.body) t1 tk.body t2 t3) rfl (refs_arg _ _) ?_
  simp (disch := omega) only [go_sem, encTask]
  refine (Sep.nil _).goPt (log_c (treeOf tk.body) tk.body tk.next t1 t2 h1 h2) (.same (refs_task1 _ tk)) fun r h' X S ro rn rc rl => ?_
  simp (disch := omega) only [go_sem, rn, rl]
  rw [hv]
theorem taskB_s (tk : Task) (hb : tk.body.length ≤ 1048576) : CP Tryz.prog 176 [.agg (encTask tk)] (.int .i64 (taskB tk)) [] := by
  have hbd := taskB_bd tk
  have blk : taskOk tk = true → CP Tryz.prog 217 [.agg (encTask tk)] (.int .i64 (boundT (treeOf tk.body))) [] := fun hk => by
    obtain ⟨h1, h2⟩ := task_facts hk
    obtain ⟨t1, t2, t3⟩ := treeOf_ok h1
    refine CP.by rfl mixed (cfn_ok Tryz.func217 ok217) rfl ?_
    simp (disch := omega) only [s217, go_sem, encTask]
    refine CP.go (taskOk_s tk (by omega)) rfl (refs_task1 _ tk) ?_
    simp (disch := omega) only [go_sem, hk]
    refine CP.go (bound_s (treeOf tk.body) t1 tk.body 0 0 tk.body.length [] rfl (by rw [← t2]; simp) (by simpa using t2) t3) rfl (by simp [V.refsL, V.refs, refsLL_map encStmt (refs_stmt 0) tk.body]) ?_
    simp (disch := omega) only [go_sem, hk]
  refine CP.by rfl mixed (cfn_ok Tryz.func176 ok176) rfl ?_
  simp (disch := omega) only [s176, go_sem, encTask]
  refine CP.go (taskOk_s tk (by omega)) rfl (refs_task1 _ tk) ?_
  simp (disch := omega) only [go_sem, encTask]
  refine condP_split (fun hk => ?_) (fun hk => ?_)
  case' refine_2 =>
    simp (disch := omega) only [go_sem, encTask]
    rw [taskB, if_neg (by simp [hk])]
  obtain ⟨h1, h2⟩ := task_facts hk
  obtain ⟨t1, t2, t3⟩ := treeOf_ok h1
  have hv : taskB tk = boundT (treeOf tk.body) + 9 * ((logT (treeOf tk.body) tk.next).length : Int) + 1 + 3 := by rw [taskB, if_pos hk]
  have hbb := bound_bd t1 (by rw [← t2]; exact t3)
  have hll := log_len (treeOf tk.body) tk.next
  simp (disch := omega) only [go_sem, encTask]
  refine CP.go (blk hk) rfl (refs_task1 _ tk) ?_
  simp (disch := omega) only [go_sem, encTask]
  refine (Sep.nil _).goLst (log_s (treeOf tk.body) tk.body tk.next t1 t2 h1 h2) (.same (refs_task1 _ tk)) fun r h' X S ro rn rc => ?_
  obtain ⟨i, o⟩ := S.lst 0 rfl
  have rl := fun G => o.len_ G
  simp only [List.length_map] at rl
  simp (disch := omega) only [go_sem, rn, rl]
  rw [hv]
theorem bootB_c (tk : Task) (hb : tk.body.length ≤ 1048576) : CP Tryz.prog 35 [.agg (encTask tk)] (.int .i64 (bootB tk)) [] := by
  have hbd := bootB_bd tk
  refine CP.by rfl mixed (cfn_ok Tryz.func35 ok35) rfl ?_
  simp (disch := omega) only [s35, go_sem, encTask]
  refine CP.go (taskOk_c tk (by omega)) rfl (refs_task1 _ tk) ?_
  simp (disch := omega) only [go_sem, encTask]
  refine condP_split (fun hk => ?_) (fun hk => ?_)
  case' refine_2 =>
    simp (disch := omega) only [go_sem, encTask]
    rw [bootB, if_neg (by simp [hk])]
  obtain ⟨h1, h2⟩ := task_facts hk
  obtain ⟨t1, t2, t3⟩ := treeOf_ok h1
  have hv : bootB tk = taskB tk + recCost (logT (treeOf tk.body) tk.next).length := by rw [bootB, if_pos hk]
  have hll := log_len (treeOf tk.body) tk.next
  simp (disch := omega) only [go_sem, encTask]
  refine CP.go (taskB_c tk hb) rfl (refs_task1 _ tk) ?_
  simp (disch := omega) only [go_sem, encTask]
  refine (Sep.nil _).goPt (log_c (treeOf tk.body) tk.body tk.next t1 t2 h1 h2) (.same (refs_task1 _ tk)) fun r h' X S ro rn rc rl => ?_
  simp (disch := omega) only [go_sem, rn, rl]
  refine CP.go (rec_c _ hll) rfl rfl ?_
  simp (disch := omega) only [go_sem, rn, rl]
  rw [hv]
theorem bootB_s (tk : Task) (hb : tk.body.length ≤ 1048576) : CP Tryz.prog 109 [.agg (encTask tk)] (.int .i64 (bootB tk)) [] := by
  have hbd := bootB_bd tk
  refine CP.by rfl mixed (cfn_ok Tryz.func109 ok109) rfl ?_
  simp (disch := omega) only [s109, go_sem, encTask]
  refine CP.go (taskOk_s tk (by omega)) rfl (refs_task1 _ tk) ?_
  simp (disch := omega) only [go_sem, encTask]
  refine condP_split (fun hk => ?_) (fun hk => ?_)
  case' refine_2 =>
    simp (disch := omega) only [go_sem, encTask]
    rw [bootB, if_neg (by simp [hk])]
  obtain ⟨h1, h2⟩ := task_facts hk
  obtain ⟨t1, t2, t3⟩ := treeOf_ok h1
  have hv : bootB tk = taskB tk + recCost (logT (treeOf tk.body) tk.next).length := by rw [bootB, if_pos hk]
  have hll := log_len (treeOf tk.body) tk.next
  simp (disch := omega) only [go_sem, encTask]
  refine CP.go (taskB_s tk hb) rfl (refs_task1 _ tk) ?_
  simp (disch := omega) only [go_sem, encTask]
  refine (Sep.nil _).goLst (log_s (treeOf tk.body) tk.body tk.next t1 t2 h1 h2) (.same (refs_task1 _ tk)) fun r h' X S ro rn rc => ?_
  obtain ⟨i, o⟩ := S.lst 0 rfl
  have rl := fun G => o.len_ G
  simp only [List.length_map] at rl
  simp (disch := omega) only [go_sem, rn, rl]
  refine CP.go (rec_s _ hll) rfl rfl ?_
  simp (disch := omega) only [go_sem, rn, rl]
  rw [hv]
theorem refs_tasks (n : Nat) (ts : List Task) (x : V) (hx : V.refs n x = true) : V.refsL n [.lst 4 (ts.map encTask), x] = true := by
  simp [V.refsL, V.refs, refsLL_map encTask (refs_task n) ts, hx]
def programOk (ts : List Task) : Bool := within ts.length 1 6 && ts.all taskOk
theorem programOk_c (ts : List Task) (hl : ts.length ≤ 1048576) (hb : ∀ t ∈ ts, t.body.length ≤ 9223372036854775807) : CP Tryz.prog 67 [.agg [.lst 4 (ts.map encTask)]] (.bool (programOk ts)) [] := by
  have hn : (ts.any fun t => !taskOk t) = !ts.all taskOk := by rw [List.not_all_eq_any_not]
  refine CP.by rfl mixed (cfn_ok Tryz.func67 ok67) rfl ?_
  simp (disch := omega) only [s67, go_sem]
  refine CP.go (within_c _ _ _) rfl rfl ?_
  simp (disch := omega) only [go_sem]
  repeat' (first | (refine CP.go (containsTask_c 131 (fun t => !taskOk t) ts (fun t ht => notTaskOk_c t (hb t ht)) (by omega) (refs_tasks _ _ _ rfl)) rfl (refs_tasks _ _ _ rfl) ?_ <;> (try simp (disch := omega) only [go_sem])) | (refine condP_t (by assumption) ?_ <;> (try simp (disch := omega) only [go_sem])) | (refine condP_f (by assumption) ?_ <;> (try simp (disch := omega) only [go_sem])) | (refine condP_dec (fun h => ?_) (fun h => ?_) <;> (try simp (disch := omega) only [go_sem])) | (refine condP_split (fun h => ?_) (fun h => ?_) <;> (try simp (disch := omega) only [go_sem])))
  all_goals simp_all [programOk]
theorem programOk_s (ts : List Task) (hl : ts.length ≤ 1048576) (hb : ∀ t ∈ ts, t.body.length ≤ 9223372036854775807) : CP Tryz.prog 107 [.agg [.lst 4 (ts.map encTask)]] (.bool (programOk ts)) [] := by
  refine CP.by rfl mixed (cfn_ok Tryz.func107 ok107) rfl ?_
  simp (disch := omega) only [s107, go_sem]
  refine loopP_intro (fun m s => ∃ k : Nat, k ≤ ts.length ∧ m = ts.length - k ∧ s.e 1 = .ptr 0 1 0 0 ∧ s.h[0]? = some [[.lst 4 (ts.map encTask)]] ∧ s.e 3 = .int .i64 k ∧ ∀ j (hj : j < ts.length), j < k → taskOk ts[j] = true) ts.length ⟨0, by omega, by omega, rfl, rfl, rfl, fun j _ h => absurd h (by omega)⟩ ?_
  rintro m e hp ⟨k, hk, rfl, e1, hh, e3, hall⟩
  simp only at e1 hh e3
  simp (disch := omega) only [go_sem, e1, e3, hh, encTask]
  refine condP_dec (fun hlt => ?_) (fun hlt => ?_)
  · have hlt' : k < ts.length := by omega
    have hbk := hb _ (List.getElem_mem hlt')
    simp (disch := omega) only [go_sem, e1, e3, hh, encTask]
    refine CP.go (blockOk_s ts[k].body hbk) rfl (refs_arg _ _) ?_
    simp (disch := omega) only [go_sem, e1, e3, hh, encTask]
    repeat' (first | (refine CP.go (exprOk_s ts[k].next) rfl rfl ?_ <;> (try simp (disch := omega) only [go_sem, e1, e3, hh, encTask])) | (refine condP_t (by assumption) ?_ <;> (try simp (disch := omega) only [go_sem, e1, e3, hh, encTask])) | (refine condP_f (by assumption) ?_ <;> (try simp (disch := omega) only [go_sem, e1, e3, hh, encTask])) | (refine condP_dec (fun h => ?_) (fun h => ?_) <;> (try simp (disch := omega) only [go_sem, e1, e3, hh, encTask])) | (refine condP_split (fun h => ?_) (fun h => ?_) <;> (try simp (disch := omega) only [go_sem, e1, e3, hh, encTask])))
    all_goals first
      | (refine nextP_intro (ts.length - (k + 1)) (by omega) ⟨k + 1, by omega, rfl, ?_, hh, ?_, fun j hj hjk => ?_⟩
         · simp (disch := omega) only [go_sem, e1, e3, hh, encTask]
         · simp (disch := omega) only [go_sem, e1, e3, hh, encTask]; rfl
         · by_cases e : j = k
           · subst e; simp_all [taskOk]
           · exact hall j hj (by omega))
      | (have : ts.all taskOk = false := List.all_eq_false.2 ⟨ts[k], List.getElem_mem hlt', by simp_all [taskOk]⟩
         simp [programOk, this])
  · simp (disch := omega) only [go_sem, e1, e3, hh, encTask]
    refine CP.go (l01In_c _ _ _) rfl rfl ?_
    simp (disch := omega) only [go_sem, e1, e3, hh, encTask]
    have : ts.all taskOk = true := List.all_eq_true.2 fun t ht => by
      obtain ⟨j, hj, rfl⟩ := List.getElem_of_mem ht
      exact hall j hj (by omega)
    simp [programOk, this]

structure Store where
  charge : Int
  cap : Int
  on : Int
  leak : Int
def encStore (s : Store) : List V := [.int .i64 s.charge, .int .i64 s.cap, .int .i64 s.on, .int .i64 s.leak]
def storeOk (s : Store) : Bool := within s.cap 1 5000 && within s.charge 0 s.cap && within s.on 1 s.cap && within s.leak 0 100
theorem storeOk_c (s : Store) : CP Tryz.prog 68 [.agg (encStore s)] (.bool (storeOk s)) [] := by
  obtain ⟨ch, cap, on, lk⟩ := s
  refine CP.by rfl mixed (cfn_ok Tryz.func68 ok68) rfl ?_
  simp (disch := omega) only [s68, go_sem, encStore]
  repeat' (first | (refine CP.go (within_c _ _ _) rfl rfl ?_ <;> (try simp (disch := omega) only [go_sem])) | (refine condP_t (by assumption) ?_ <;> (try simp (disch := omega) only [go_sem])) | (refine condP_f (by assumption) ?_ <;> (try simp (disch := omega) only [go_sem])) | (refine condP_dec (fun h => ?_) (fun h => ?_) <;> (try simp (disch := omega) only [go_sem])) | (refine condP_split (fun h => ?_) (fun h => ?_) <;> (try simp (disch := omega) only [go_sem])))
  all_goals simp_all [storeOk]
theorem storeOk_s (s : Store) : CP Tryz.prog 108 [.agg (encStore s)] (.bool (storeOk s)) [] := by
  obtain ⟨ch, cap, on, lk⟩ := s
  refine CP.by rfl mixed (cfn_ok Tryz.func108 ok108) rfl ?_
  simp (disch := omega) only [s108, go_sem, encStore]
  repeat' (first | (refine CP.go (l01In_c _ _ _) rfl rfl ?_ <;> (try simp (disch := omega) only [go_sem])) | (refine condP_t (by assumption) ?_ <;> (try simp (disch := omega) only [go_sem])) | (refine condP_f (by assumption) ?_ <;> (try simp (disch := omega) only [go_sem])) | (refine condP_dec (fun h => ?_) (fun h => ?_) <;> (try simp (disch := omega) only [go_sem])) | (refine condP_split (fun h => ?_) (fun h => ?_) <;> (try simp (disch := omega) only [go_sem])))
  all_goals simp_all [storeOk]
noncomputable def overB (on : Int) (tk : Task) : Bool := decide (on < bootB tk)
noncomputable def certM (ts : List Task) (s : Store) : Bool := programOk ts && storeOk s && !ts.any (overB s.on)
theorem refs_store (n : Nat) (s : Store) : V.refsL n (encStore s) = true := rfl
theorem refs_prog (n : Nat) (ts : List Task) : V.refs n (.agg [.lst 4 (ts.map encTask)]) = true := by simp [V.refs, V.refsL, refsLL_map encTask (refs_task n) ts]
theorem refs_prog1 (n : Nat) (ts : List Task) : V.refsL n [.agg [.lst 4 (ts.map encTask)]] = true := by simp only [V.refsL, refs_prog]; rfl
theorem refs_cert (n : Nat) (ts : List Task) (s : Store) : V.refsL n [.agg [.lst 4 (ts.map encTask)], .agg (encStore s)] = true := by simp only [V.refsL, refs_prog]; rfl
theorem over_c (h : Heap) (tk : Task) (id : Nat) (s : Store) (hb : tk.body.length ≤ 1048576) (hs : h[id]? = some [encStore s]) : C Tryz.prog 70 [.agg (encTask tk), .ptr id 1 0 0] h (fun r h' => r = .bool (overB s.on tk) ∧ Ext h h') := by
  refine C.by mixed (cfn_ok Tryz.func70 ok70) rfl ?_
  simp only [encStore] at hs
  have hs' := fun t => heap_app (h' := t) hs
  simp (disch := omega) only [s70, go_sem, encTask, hs']
  refine CP.go (bootB_c tk hb) rfl (refs_task1 _ tk) ?_
  simp (disch := omega) only [go_sem, encTask, hs']
  exact ⟨rfl, Ext.app _ _⟩
theorem cert_c (ts : List Task) (s : Store) (hl : ts.length ≤ 1048576) (hb : ∀ t ∈ ts, t.body.length ≤ 1048576) : CP Tryz.prog 17 [.agg [.lst 4 (ts.map encTask)], .agg (encStore s)] (.bool (certM ts s)) [] := by
  have hb' : ∀ t ∈ ts, t.body.length ≤ 9223372036854775807 := fun t ht => by have := hb t ht; omega
  refine CP.by rfl mixed (cfn_ok Tryz.func17 ok17) rfl ?_
  simp (disch := omega) only [s17, go_sem, encStore]
  refine CP.go (programOk_c ts hl hb') rfl (refs_prog1 _ ts) ?_
  simp (disch := omega) only [go_sem, encStore]
  refine condP_split (fun hp => ?_) (fun hp => ?_)
  case' refine_2 =>
    simp (disch := omega) only [go_sem, hp]
    simp [certM, hp]
  simp (disch := omega) only [go_sem, encStore, hp]
  refine CP.go (storeOk_c s) rfl rfl ?_
  simp (disch := omega) only [go_sem, encStore, hp]
  refine condP_split (fun hs => ?_) (fun hs => ?_)
  case' refine_2 =>
    simp (disch := omega) only [go_sem, hp, hs]
    simp [certM, hs]
  simp (disch := omega) only [go_sem, encStore, hp, hs]
  refine C.go (containsTaskF_c 70 [.ptr 1 1 0 0] (overB s.on) ts (fun t ht h' X => over_c h' t 1 s (hb t ht) (X.get rfl)) (by omega)) ?_
  rintro r h' ⟨rfl, X⟩
  simp (disch := omega) only [go_sem, encStore, hp, hs]
  simp [certM, hp, hs]
theorem cert_s (ts : List Task) (s : Store) (hl : ts.length ≤ 1048576) (hb : ∀ t ∈ ts, t.body.length ≤ 1048576) : CP Tryz.prog 43 [.agg [.lst 4 (ts.map encTask)], .agg (encStore s)] (.bool (certM ts s)) [] := by
  have hb' : ∀ t ∈ ts, t.body.length ≤ 9223372036854775807 := fun t ht => by have := hb t ht; omega
  refine CP.by rfl mixed (cfn_ok Tryz.func43 ok43) rfl ?_
  simp (disch := omega) only [s43, go_sem, encStore]
  refine CP.go (programOk_s ts hl hb') rfl (refs_prog1 _ ts) ?_
  simp (disch := omega) only [go_sem, encStore]
  refine condP_split (fun hp => ?_) (fun hp => ?_)
  case' refine_2 =>
    simp (disch := omega) only [go_sem, hp]
    simp [certM, hp]
  simp (disch := omega) only [go_sem, encStore, hp]
  refine CP.go (storeOk_s s) rfl rfl ?_
  simp (disch := omega) only [go_sem, encStore, hp]
  refine condP_split (fun hs => ?_) (fun hs => ?_)
  case' refine_2 =>
    simp (disch := omega) only [go_sem, hp, hs]
    simp [certM, hs]
  simp (disch := omega) only [go_sem, encStore, hp, hs]
  refine loopP_intro (fun m st => ∃ k : Nat, k ≤ ts.length ∧ m = ts.length - k ∧ st.e 2 = .ptr 0 1 0 0 ∧ st.e 3 = .ptr 1 1 0 0 ∧ st.e 5 = .int .i64 k ∧ st.h[0]? = some [[.lst 4 (ts.map encTask)]] ∧ st.h[1]? = some [encStore s] ∧ ∀ j (hj : j < ts.length), j < k → overB s.on ts[j] = false) ts.length ⟨0, by omega, by omega, rfl, rfl, by simp (disch := omega) only [go_sem, encStore, hp, hs]; rfl, rfl, rfl, fun j _ h => absurd h (by omega)⟩ ?_
  rintro m e hh ⟨k, hk, rfl, e2, e3, e5, h0, h1, hall⟩
  simp only [encStore] at e2 e3 e5 h0 h1
  simp (disch := omega) only [go_sem, e2, e3, e5, h0, h1]
  refine condP_dec (fun hlt => ?_) (fun hlt => ?_)
  · have hlt' : k < ts.length := by omega
    simp (disch := omega) only [go_sem, e2, e3, e5, h0, h1, encTask]
    refine CP.go (bootB_s ts[k] (hb _ (List.getElem_mem hlt'))) rfl (refs_task1 _ ts[k]) ?_
    simp (disch := omega) only [go_sem, e2, e3, e5, h0, h1, encTask]
    refine condP_dec (fun ho => ?_) (fun ho => ?_)
    · simp (disch := omega) only [go_sem, e2, e3, e5, h0, h1, encTask]
      have : ts.any (overB s.on) = true := List.any_eq_true.2 ⟨ts[k], List.getElem_mem hlt', by simpa [overB] using ho⟩
      simp [certM, this]
    · simp (disch := omega) only [go_sem, e2, e3, e5, h0, h1, encTask]
      refine nextP_intro (ts.length - (k + 1)) (by omega) ⟨k + 1, by omega, rfl, by simp (disch := omega) only [go_sem, e2, e3, e5, h0, h1, encTask], by simp (disch := omega) only [go_sem, e2, e3, e5, h0, h1, encTask], by simp (disch := omega) only [go_sem, e2, e3, e5, h0, h1, encTask]; rfl, h0, h1, fun j hj hjk => ?_⟩
      by_cases e : j = k
      · subst e; simp only [overB, decide_eq_false_iff_not]; exact ho
      · exact hall j hj (by omega)
  · simp (disch := omega) only [go_sem, e2, e3, e5, h0, h1]
    have : ts.any (overB s.on) = false := List.any_eq_false.2 fun t ht => by
      obtain ⟨j, hj, rfl⟩ := List.getElem_of_mem ht
      rw [hall j hj (by omega)]; simp
    simp [certM, hp, hs, this]
noncomputable def mostB (ts : List Task) : Int := ts.foldl (fun n t => max n (bootB t)) 0
theorem most_take {ts : List Task} {k : Nat} (h : k < ts.length) : mostB (ts.take (k + 1)) = max (mostB (ts.take k)) (bootB ts[k]) := by
  unfold mostB
  rw [List.take_succ_eq_append_getElem h, List.foldl_append]; rfl
theorem most_from : ∀ (ts : List Task) (n : Int), 0 ≤ n → n ≤ 2300000000200 → 0 ≤ ts.foldl (fun n t => max n (bootB t)) n ∧ ts.foldl (fun n t => max n (bootB t)) n ≤ 2300000000200
  | [], n, h0, h1 => ⟨h0, h1⟩
  | t :: ts, n, h0, h1 => by
    have := bootB_bd t
    have hb := bootB_bd t
    exact most_from ts (max n (bootB t)) (by omega) (by omega)
theorem most_bd (ts : List Task) : 0 ≤ mostB ts ∧ mostB ts ≤ 2300000000200 := most_from ts 0 (by omega) (by omega)
noncomputable def slackM (ts : List Task) (s : Store) : Int := if certM ts s = true then s.on - mostB ts else -1
theorem cert_facts {ts : List Task} {s : Store} (h : certM ts s = true) : programOk ts = true ∧ storeOk s = true ∧ (0 ≤ s.on ∧ s.on ≤ 5000) := by
  simp only [certM, Bool.and_eq_true] at h
  refine ⟨h.1.1, h.1.2, ?_⟩
  have := h.1.2
  simp only [storeOk, within, Bool.and_eq_true, decide_eq_true_eq] at this
  omega
theorem slack_c (ts : List Task) (s : Store) (hl : ts.length ≤ 1048576) (hb : ∀ t ∈ ts, t.body.length ≤ 1048576) : CP Tryz.prog 18 [.agg [.lst 4 (ts.map encTask)], .agg (encStore s)] (.int .i64 (slackM ts s)) [] := by
  refine CP.by rfl mixed (cfn_ok Tryz.func18 ok18) rfl ?_
  simp (disch := omega) only [s18, go_sem, encStore]
  refine CP.go (cert_c ts s hl hb) rfl (refs_cert _ ts s) ?_
  simp (disch := omega) only [go_sem, encStore]
  refine condP_split (fun hc => ?_) (fun hc => ?_)
  case' refine_2 =>
    simp (disch := omega) only [go_sem, encStore]
    simp [slackM, hc]
  have hon := (cert_facts hc).2.2
  simp (disch := omega) only [go_sem, encStore]
  refine loopP_intro (fun m st => ∃ k : Nat, k ≤ ts.length ∧ m = ts.length - k ∧ st.e 3 = .ptr 1 1 0 0 ∧ st.e 5 = .int .i64 (mostB (ts.take k)) ∧ st.e 13 = .lst 4 (ts.map encTask) ∧ st.e 14 = .int .i64 ts.length ∧ st.e 15 = .int .i64 k ∧ st.h[1]? = some [encStore s]) ts.length ⟨0, by omega, by omega, rfl, by simp (disch := omega) only [go_sem, encStore]; rfl, by simp (disch := omega) only [go_sem, encStore], by simp (disch := omega) only [go_sem, encStore], by simp (disch := omega) only [go_sem, encStore]; rfl, rfl⟩ ?_
  rintro m e hh ⟨k, hk, rfl, e3, e5, e13, e14, e15, h1⟩
  simp only at e3 e5 e13 e14 e15 h1
  simp (disch := omega) only [go_sem, e3, e5, e13, e14, e15]
  refine condP_dec (fun hlt => ?_) (fun hlt => ?_)
  · have hlt' : k < ts.length := by omega
    have hmt := most_take hlt'
    have hz := storeBox (h := hh) (z := [.nils, .int .i64 0, .int .i64 0, .int .i64 0]) (x := .agg (encTask ts[k])) (sz := 4) rfl rfl
    simp only [cells_agg, encTask] at hz
    simp (disch := omega) only [go_sem, e3, e5, e13, e14, e15, hz, encTask]
    refine CP.go (bootB_c ts[k] (hb _ (List.getElem_mem hlt'))) rfl (refs_task1 _ ts[k]) ?_
    simp (disch := omega) only [go_sem, e3, e5, e13, e14, e15, hz, encTask]
    exact nextP_intro (ts.length - (k + 1)) (by omega) ⟨k + 1, by omega, rfl, by simp (disch := omega) only [go_sem, e3, e5, e13, e14, e15, hz, encTask], by rw [hmt]; simp (disch := omega) only [go_sem, e3, e5, e13, e14, e15, hz, encTask], by simp (disch := omega) only [go_sem, e3, e5, e13, e14, e15, hz, encTask], by simp (disch := omega) only [go_sem, e3, e5, e13, e14, e15, hz, encTask], by simp (disch := omega) only [go_sem, e3, e5, e13, e14, e15, hz, encTask]; rfl, heap_app h1⟩
  · have : k = ts.length := by omega
    subst this
    rw [List.take_length] at e5
    have hmb := most_bd ts
    simp only [encStore] at h1
    simp (disch := omega) only [go_sem, e3, e5, e13, e14, e15, h1]
    simp [slackM, hc]
theorem slack_s (ts : List Task) (s : Store) (hl : ts.length ≤ 1048576) (hb : ∀ t ∈ ts, t.body.length ≤ 1048576) : CP Tryz.prog 49 [.agg [.lst 4 (ts.map encTask)], .agg (encStore s)] (.int .i64 (slackM ts s)) [] := by
  refine CP.by rfl mixed (cfn_ok Tryz.func49 ok49) rfl ?_
  simp (disch := omega) only [s49, go_sem, encStore]
  refine CP.go (cert_s ts s hl hb) rfl (refs_cert _ ts s) ?_
  simp (disch := omega) only [go_sem, encStore]
  refine condP_split (fun hc => ?_) (fun hc => ?_)
  case' refine_2 =>
    simp (disch := omega) only [go_sem, encStore]
    simp [slackM, hc]
  have hon := (cert_facts hc).2.2
  simp (disch := omega) only [go_sem, encStore]
  refine loopP_intro (fun m st => ∃ k : Nat, k ≤ ts.length ∧ m = ts.length - k ∧ st.e 2 = .ptr 0 1 0 0 ∧ st.e 3 = .ptr 1 1 0 0 ∧ st.e 5 = .int .i64 (mostB (ts.take k)) ∧ st.e 6 = .int .i64 k ∧ st.h[0]? = some [[.lst 4 (ts.map encTask)]] ∧ st.h[1]? = some [encStore s]) ts.length ⟨0, by omega, by omega, rfl, rfl, by simp (disch := omega) only [go_sem, encStore]; rfl, by simp (disch := omega) only [go_sem, encStore]; rfl, rfl, rfl⟩ ?_
  rintro m e hh ⟨k, hk, rfl, e2, e3, e5, e6, h0, h1⟩
  simp only at e2 e3 e5 e6 h0 h1
  simp (disch := omega) only [go_sem, e2, e3, e5, e6, h0]
  refine condP_dec (fun hlt => ?_) (fun hlt => ?_)
  · have hlt' : k < ts.length := by omega
    have hmt := most_take hlt'
    simp (disch := omega) only [go_sem, e2, e3, e5, e6, h0, encTask]
    refine CP.go (bootB_s ts[k] (hb _ (List.getElem_mem hlt'))) rfl (refs_task1 _ ts[k]) ?_
    simp (disch := omega) only [go_sem, e2, e3, e5, e6, h0, encTask]
    exact nextP_intro (ts.length - (k + 1)) (by omega) ⟨k + 1, by omega, rfl, by simp (disch := omega) only [go_sem, e2, e3, e5, e6, h0, encTask], by simp (disch := omega) only [go_sem, e2, e3, e5, e6, h0, encTask], by rw [hmt]; simp (disch := omega) only [go_sem, e2, e3, e5, e6, h0, encTask], by simp (disch := omega) only [go_sem, e2, e3, e5, e6, h0, encTask]; rfl, h0, h1⟩
  · have : k = ts.length := by omega
    subst this
    rw [List.take_length] at e5
    have hmb := most_bd ts
    simp only [encStore] at h1
    simp (disch := omega) only [go_sem, e2, e3, e5, e6, h1]
    simp [slackM, hc]
end Go.Av
