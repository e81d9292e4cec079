/- What must be logged; both sides. No condition. -/
import Derived.Test.YtjfmbdigfnablaaGreatZTask
namespace Go.Av
open Go.Proofs Go.RowKit
set_option linter.unusedVariables false
set_option linter.unusedSimpArgs false
set_option maxRecDepth 100000
set_option maxHeartbeats 4000000
theorem Sep.offK {h h' : Heap} {id : Nat} {b : Blk} {L : List It} (S : Sep h (.k id b :: L)) (off : ∀ j, j ≠ id → h'[j]? = h[j]?) : Sep h' L := by
  obtain ⟨ids, n, i, j, rfl, ⟨rfl, e⟩, s⟩ := S
  have n' := List.nodup_append.1 n
  exact ⟨j, n'.2.1, s.keep fun a ha => off a (fun q => n'.2.2 id (by simp) a ha q.symm)⟩
theorem rows1_of {b : Blk} (hf : flat b = true) (he : ∀ e ∈ b, e.length = 1) : rows1 b = true := by
  simp only [rows1, flat, List.all_eq_true, Bool.and_eq_true, decide_eq_true_eq] at *
  exact fun e h => ⟨he e h, hf e h⟩
theorem deleteN_c {h : Heap} (g : Nat) (caps : List V) : C Tryz.prog 164 [.nils, .fn g caps] h (fun r h' => r = .nils ∧ h' = h) := by
  have ix : C Tryz.prog 179 [.nils, .fn g caps] h (fun r h' => r = .int .i64 (-1) ∧ h' = h) := by
    refine C.by mixed (cfn_ok Tryz.func179 ok179) rfl ?_
    simp (disch := omega) only [s179, go_sem]
    refine loopP_intro (fun m s => s.e 7 = .int .i64 0 ∧ s.e 8 = .int .i64 0 ∧ s.h = h) 0 ⟨by simp (disch := omega) only [go_sem], by simp (disch := omega) only [go_sem], rfl⟩ ?_
    rintro m e hp ⟨e7, e8, rfl⟩
    simp only at e7 e8
    simp (disch := omega) only [go_sem, e7, e8]
  refine C.by mixed (cfn_ok Tryz.func164 ok164) rfl ?_
  simp (disch := omega) only [s164, go_sem]
  refine C.go ix ?_
  rintro r h' ⟨rfl, rfl⟩
  simp (disch := omega) only [go_sem]
/-- Whether a variable needs no logging. -/
def noLog (t : Tr) (e : Expr) (k : Int) : Bool := !decide (k ∈ firstT t e) && decide (k ∈ mustT t)
def logT (t : Tr) (e : Expr) : List Int := (mayL t.flat).filter fun k => !noLog t e k
theorem log_len (t : Tr) (e : Expr) : (logT t e).length ≤ 8 := by
  have := List.length_filter_le (fun k => !noLog t e k) (mayL t.flat)
  have := canon_len fun k => decide ((k : Int) ∈ vars t.flat)
  unfold logT mayL at *
  omega
theorem first_len (t : Tr) (e : Expr) : (firstT t e).length ≤ 8 := canon_len _
theorem mustT_len (t : Tr) : (mustT t).length ≤ 8 := canon_len _
theorem may_len (xs : List Stmt) : (mayL xs).length ≤ 8 := canon_len _
theorem noLog_c {h : Heap} {L : List It} (t : Tr) (e : Expr) (i1 i2 : Nat) (r1 r2 : V) (k : Int) (S : Sep h (.k i2 [[r2]] :: .k i1 [[r1]] :: .p (mustT t) r2 :: .p (firstT t e) r1 :: L)) : C Tryz.prog 166 [.int .i64 k, .ptr i1 1 0 0, .ptr i2 1 0 0] h (fun r h' => r = .bool (noLog t e k) ∧ h' = h) := by
  have b1 := S.blk 1 rfl
  have b2 := S.blk 0 rfl
  have z1 := (S.pvv 3 rfl).1.2.1
  have z2 := (S.pvv 2 rfl).1.2.1
  have l1 := first_len t e
  have l2 := mustT_len t
  refine C.by mixed (cfn_ok Tryz.func166 ok166) rfl ?_
  simp (disch := omega) only [s166, go_sem, b1, b2, z1, z2]
  refine CP.goS (hasVar_c' (firstT t e) k (by omega)) rfl rfl (.cons (S.psnap 3 rfl) (.cons (.int _ _) (.nil _))) ?_
  simp (disch := omega) only [go_sem, b1, b2, z1, z2]
  refine condP_dec (fun h1 => ?_) (fun h1 => ?_)
  · simp (disch := omega) only [go_sem, b1, b2, z1, z2]
    simp [noLog, h1]
  · simp (disch := omega) only [go_sem, b1, b2, z1, z2]
    refine CP.goS (hasVar_c' (mustT t) k (by omega)) rfl rfl (.cons (S.psnap 2 rfl) (.cons (.int _ _) (.nil _))) ?_
    simp (disch := omega) only [go_sem, b1, b2, z1, z2]
    simp [noLog, h1]
theorem log_c (t : Tr) (xs : List Stmt) (e : Expr) (ht : t.ok = true) (hf : xs = t.flat) (hb : blockOk xs = true) (he : exprOk e = true) : Pt Tryz.prog 95 [.agg [.lst 6 (xs.map encStmt), .int .i64 e.op, .int .i64 e.a, .int .i64 e.b]] (logT t e) := by
  have hl := block_len hb
  have hk : taskOk ⟨xs, e⟩ = true := by simp [taskOk, hb, he]
  refine C.by mixed (cfn_ok Tryz.func95 ok95) rfl ?_
  simp (disch := omega) only [s95, go_sem]
  refine CP.go (taskOk_c ⟨xs, e⟩ (by simp only; omega)) rfl (refs_task1 _ ⟨xs, e⟩) ?_
  simp (disch := omega) only [go_sem, hk]
  have S0 : Sep [[[V.lst 6 (xs.map encStmt), .int .i64 e.op, .int .i64 e.a, .int .i64 e.b]]] [.k 0 [[V.lst 6 (xs.map encStmt), .int .i64 e.op, .int .i64 e.a, .int .i64 e.b]]] := ⟨[0], by simp, [0], [], rfl, ⟨rfl, rfl⟩, rfl⟩
  refine S0.goPt (first_c t xs e ht hf hb he) (.same (refs_task1 _ ⟨xs, e⟩)) fun r1 h1 X1 S1 r1o r1n r1c r1l => ?_
  have b1 := S1.blk 1 rfl
  simp (disch := omega) only [go_sem, b1, r1n]
  refine S1.goPt (must_c xs t ht hf hb) (.same (refs_arg _ _)) fun r2 h2 X2 S2 r2o r2n r2c r2l => ?_
  have b2 := S2.blk 2 rfl
  have b2' := fun t => heap_app (h' := t) b2
  have b3' : ∀ t, (h2 ++ t)[0]? = some [[V.lst 6 (xs.map encStmt), .int .i64 e.op, .int .i64 e.a, .int .i64 e.b]] := fun t => heap_app b2
  have S3 := (S2.newK [[r1]]).newK [[r2]]
  have e3 : (h2 ++ [[[r1]]] ++ [[[r2]]]) = h2 ++ [[[r1]], [[r2]]] := by simp
  have e4 : (h2 ++ [[[r1]]]).length = h2.length + 1 := by simp
  rw [e3, e4] at S3
  simp (disch := omega) only [go_sem, r1n, r2n, r1o, r2o, r1c, r2c, storeH, storeB, splice, b3']
  refine S3.goPt (may_c xs hb) (.same (refs_arg _ _)) fun r4 h4 X4 S4 r4o r4n r4c r4l => ?_
  simp (disch := omega) only [go_sem, r4n]
  have S5 : Sep h4 (.p (mayL xs) r4 :: .k (h2.length + 1) [[r2]] :: .k h2.length [[r1]] :: .p (mustT t) r2 :: .p (firstT t e) r1 :: [.k 0 [[V.lst 6 (xs.map encStmt), .int .i64 e.op, .int .i64 e.a, .int .i64 e.b]]]) := S4
  have hlog : logT t e = (mayL xs).filter fun k => !noLog t e k := by rw [logT, hf]
  rw [hlog]
  have hml := may_len xs
  refine Exists.elim S5.pret fun i5 o5 => ?_
  obtain ⟨ids, nd, i, j, e1, o, s⟩ := S5
  rcases o with ⟨rfl, ez, rfl⟩ | ⟨id, n, b, rfl, q2, q3, q4, q5, q6, rfl⟩
  · refine C.go (deleteN_c _ _) ?_
    rintro r h' ⟨rfl, rfl⟩
    simp (disch := omega) only [go_sem, r4n]
    rw [ez]
    exact ⟨[], .inl ⟨rfl, rfl, rfl⟩⟩
  · have S6 : Sep h4 (.k id b :: .k (h2.length + 1) [[r2]] :: .k h2.length [[r1]] :: .p (mustT t) r2 :: .p (firstT t e) r1 :: [.k 0 [[V.lst 6 (xs.map encStmt), .int .i64 e.op, .int .i64 e.a, .int .i64 e.b]]]) := ⟨ids, nd, [id], j, e1, ⟨rfl, q2⟩, s⟩
    have H : Hd h4 id n b (mayL xs) := ⟨q2, q3, q4, q5, rows1_flat q6, rows1_len q6⟩
    refine C.go (deleteF_c 166 [.ptr h2.length 1 0 0, .ptr (h2.length + 1) 1 0 0] (noLog t e) H (by omega) rfl (fun z _ h' off => noLog_c t e h2.length (h2.length + 1) r1 r2 z (S6.offK off))) ?_
    rintro r h' ⟨b', rfl, rfl, H'⟩
    simp (disch := omega) only [go_sem, r4n]
    exact ⟨[id], .inr ⟨id, n, b', rfl, H'.hb, H'.hn, H'.hz, H'.ht, rows1_of H'.hf H'.he, rfl⟩⟩
theorem Sep.ownAt {h : Heap} {L : List It} (S : Sep h L) (n : Nat) {zs : List Int} {r : V} (e : L[n]? = some (.v (.lst 1 (zs.map encI)) r)) {k : Nat} (hk : k < zs.length) : ∃ q, r = .own q 1 0 zs.length zs.length ∧ h[q]? = some (zs.map encI) := by
  obtain ⟨i, o⟩ := S.lst n e
  rcases (Owns.flat_ (flat_encI zs)).1 o with ⟨_, e, _⟩ | ⟨q, e1, e2, _⟩
  · have : zs = [] := by simpa using e
    subst this; simp at hk
  · exact ⟨q, by rw [e1, List.length_map], e2⟩
theorem taskOk_s (t : Task) (hb : t.body.length ≤ 9223372036854775807) : CP Tryz.prog 175 [.agg (encTask t)] (.bool (taskOk t)) [] := by
  obtain ⟨body, ⟨op, a, b⟩⟩ := t
  refine CP.by rfl mixed (cfn_ok Tryz.func175 ok175) rfl ?_
  simp (disch := omega) only [s175, go_sem, encTask]
  refine CP.go (blockOk_s body hb) rfl (refs_arg _ _) ?_
  simp (disch := omega) only [go_sem]
  repeat' (first | (refine CP.go (exprOk_s ⟨op, a, b⟩) rfl rfl ?_ <;> (try simp (disch := omega) only [go_sem])) | (refine condP_t (by assumption) ?_ <;> (try simp (disch := omega) only [go_sem])) | (refine condP_f (by assumption) ?_ <;> (try simp (disch := omega) only [go_sem])) | (refine condP_dec (fun h => ?_) (fun h => ?_) <;> (try simp (disch := omega) only [go_sem])) | (refine condP_split (fun h => ?_) (fun h => ?_) <;> (try simp (disch := omega) only [go_sem])))
  all_goals simp_all [taskOk]
def logAcc (t : Tr) (e : Expr) (k : Nat) : List Int := ((mayL t.flat).take k).filter fun k => !noLog t e k
theorem logAcc_succ (t : Tr) (e : Expr) {k : Nat} (h : k < (mayL t.flat).length) : logAcc t e (k + 1) = logAcc t e k ++ (if (!noLog t e (gtI (mayL t.flat) k)) = true then [gtI (mayL t.flat) k] else []) := filter_take h
theorem logAcc_len (t : Tr) (e : Expr) (k : Nat) : (logAcc t e k).length ≤ 8 := by
  have := List.length_filter_le (fun k => !noLog t e k) ((mayL t.flat).take k)
  have := may_len t.flat
  simp only [List.length_take] at *
  unfold logAcc
  omega
theorem log_s (t : Tr) (xs : List Stmt) (e : Expr) (ht : t.ok = true) (hf : xs = t.flat) (hb : blockOk xs = true) (he : exprOk e = true) : F Tryz.prog 178 [.agg [.lst 6 (xs.map encStmt), .int .i64 e.op, .int .i64 e.a, .int .i64 e.b]] (.lst 1 ((logT t e).map encI)) := by
  have hl := block_len hb
  have hk : taskOk ⟨xs, e⟩ = true := by simp [taskOk, hb, he]
  refine C.by mixed (cfn_ok Tryz.func178 ok178) rfl ?_
  simp (disch := omega) only [s178, go_sem]
  refine CP.go (taskOk_s ⟨xs, e⟩ (by simp only; omega)) rfl (refs_task1 _ ⟨xs, e⟩) ?_
  simp (disch := omega) only [go_sem, hk]
  have S0 : Sep [[[V.lst 6 (xs.map encStmt), .int .i64 e.op, .int .i64 e.a, .int .i64 e.b]], []] [.k 1 [], .k 0 [[V.lst 6 (xs.map encStmt), .int .i64 e.op, .int .i64 e.a, .int .i64 e.b]]] := ⟨[1, 0], by simp, [1], [0], rfl, ⟨rfl, rfl⟩, [0], [], rfl, ⟨rfl, rfl⟩, rfl⟩
  refine S0.goLst (may_s xs hb) (.same (refs_arg _ _)) fun r1 h1 X1 S1 r1o r1n r1c => ?_
  have b1 := S1.blk 2 rfl
  simp (disch := omega) only [go_sem, b1, r1n]
  refine S1.goLst (must_s xs t ht hf hb) (.same (refs_arg _ _)) fun r2 h2 X2 S2 r2o r2n r2c => ?_
  have b2 := S2.blk 3 rfl
  simp (disch := omega) only [go_sem, b2, r1n, r2n]
  refine S2.goLst (first_s t xs e ht hf hb he) (.same (refs_task1 _ ⟨xs, e⟩)) fun r3 h3 X3 S3 r3o r3n r3c => ?_
  have hml := may_len xs
  have l1 := first_len t e
  have l2 := mustT_len t
  obtain ⟨i1, o1⟩ := S3.lst 2 rfl
  have len1 := fun G => o1.len_ G
  simp only [List.length_map] at len1
  simp (disch := omega) only [go_sem, r1n, r2n, r3n]
  refine loopP_intro (fun m s => ∃ (k l : Nat), k ≤ (mayL xs).length ∧ m = (mayL xs).length - k ∧ s.e 3 = .own l 1 0 (logAcc t e k).length (logAcc t e k).length ∧ s.e 4 = r1 ∧ s.e 5 = r2 ∧ s.e 6 = r3 ∧ s.e 7 = .int .i64 k ∧ Sep s.h [.k l ((logAcc t e k).map encI), .v (.lst 1 ((firstT t e).map encI)) r3, .v (.lst 1 ((mustT t).map encI)) r2, .v (.lst 1 ((mayL xs).map encI)) r1]) (mayL xs).length ⟨0, 1, by omega, by omega, by simp (disch := omega) only [go_sem, r1n, r2n, r3n]; rfl, by simp (disch := omega) only [go_sem, r1n, r2n, r3n], by simp (disch := omega) only [go_sem, r1n, r2n, r3n], by simp (disch := omega) only [go_sem, r1n, r2n, r3n], by simp (disch := omega) only [go_sem, r1n, r2n, r3n]; rfl, S3.pick [3, 0, 1, 2] (by decide)⟩ ?_
  rintro m e' hp ⟨k, l, hk2, rfl, e3, e4, e5, e6, e7, S⟩
  simp only at e3 e4 e5 e6 e7 S
  simp (disch := omega) only [go_sem, e3, e4, e5, e6, e7, r1n, r2n, r3n, len1]
  refine condP_dec (fun hlt => ?_) (fun hlt => ?_)
  · have hlt' : k < (mayL xs).length := by omega
    have hlt'' : k < (mayL t.flat).length := by rw [← hf]; exact hlt'
    have hnx := logAcc_succ t e hlt''
    rw [← hf] at hnx
    refine Exists.elim (S.ownAt 3 rfl hlt') fun q z => ?_
    have z1 := z.1
    have hq := z.2
    clear z
    subst z1
    have hgk := gtI_some hlt'
    have hcl := logAcc_len t e k
    have ha := append1 (sz := 1) (bytes := 8) (c := encI (gtI (mayL xs) k)) (S.blk 0 rfl) (n := (logAcc t e k).length) (by simp) (by omega)
    simp only [encI] at ha
    have fin : ∀ (e2 : Nat → V), noLog t e (gtI (mayL xs) k) = false → e2 3 = .own l 1 0 ((logAcc t e k).length + 1) ((logAcc t e k).length + 1) → e2 4 = .own q 1 0 (mayL xs).length (mayL xs).length → e2 5 = r2 → e2 6 = r3 → e2 7 = .int .i64 ((k : Int) + 1) → @nextP ((mayL xs).length - k) ⟨e2, List.set (hp ++ [[[V.int .i64 (gtI (mayL xs) k)]]]) l ((logAcc t e k).map encI ++ [[V.int .i64 (gtI (mayL xs) k)]])⟩ ⟨fun m s => ∃ (k l : Nat), k ≤ (mayL xs).length ∧ m = (mayL xs).length - k ∧ s.e 3 = .own l 1 0 (logAcc t e k).length (logAcc t e k).length ∧ s.e 4 = .own q 1 0 (mayL xs).length (mayL xs).length ∧ s.e 5 = r2 ∧ s.e 6 = r3 ∧ s.e 7 = .int .i64 k ∧ Sep s.h [.k l ((logAcc t e k).map encI), .v (.lst 1 ((firstT t e).map encI)) r3, .v (.lst 1 ((mustT t).map encI)) r2, .v (.lst 1 ((mayL xs).map encI)) (.own q 1 0 (mayL xs).length (mayL xs).length)]⟩ := fun e2 hn a1 a2 a3 a4 a5 => by
      rw [if_pos (by simp [hn])] at hnx
      refine nextP_intro ((mayL xs).length - (k + 1)) (by omega) ⟨k + 1, l, by omega, rfl, ?_, a2, a3, a4, a5, ?_⟩
      · have : (logAcc t e (k + 1)).length = (logAcc t e k).length + 1 := by rw [hnx]; simp
        rw [this]; exact a1
      · have := (S.app [[encI (gtI (mayL xs) k)]]).setK ((logAcc t e k).map encI ++ [encI (gtI (mayL xs) k)])
        rw [hnx, List.map_append]
        exact this
    simp (disch := omega) only [go_sem, e3, e4, e5, e6, e7, hq, hgk, r1n, r2n, r3n, List.getElem?_map, List.length_map, encI]
    refine CP.goS (hasVar_s (firstT t e) (gtI (mayL xs) k) (by omega)) rfl rfl (.cons (S.snap 1 rfl) (.cons (.int _ _) (.nil _))) ?_
    simp (disch := omega) only [go_sem, e3, e4, e5, e6, e7, hq, hgk, r1n, r2n, r3n, List.getElem?_map, List.length_map, encI]
    refine condP_dec (fun h1 => ?_) (fun h1 => ?_)
    · simp (disch := omega) only [go_sem, e3, e4, e5, e6, e7, hq, hgk, ha, r1n, r2n, r3n, List.getElem?_map, List.length_map, encI]
      exact fin _ (by simp [noLog, h1]) (by simp (disch := omega) only [go_sem, e3, e4, e5, e6, e7, hq, hgk, ha, r1n, r2n, r3n, List.getElem?_map, List.length_map, encI]) (by simp (disch := omega) only [go_sem, e3, e4, e5, e6, e7, hq, hgk, ha, r1n, r2n, r3n, List.getElem?_map, List.length_map, encI]) (by simp (disch := omega) only [go_sem, e3, e4, e5, e6, e7, hq, hgk, ha, r1n, r2n, r3n, List.getElem?_map, List.length_map, encI]) (by simp (disch := omega) only [go_sem, e3, e4, e5, e6, e7, hq, hgk, ha, r1n, r2n, r3n, List.getElem?_map, List.length_map, encI]) (by simp (disch := omega) only [go_sem, e3, e4, e5, e6, e7, hq, hgk, ha, r1n, r2n, r3n, List.getElem?_map, List.length_map, encI])
    · simp (disch := omega) only [go_sem, e3, e4, e5, e6, e7, hq, hgk, r1n, r2n, r3n, List.getElem?_map, List.length_map, encI]
      refine CP.goS (hasVar_s (mustT t) (gtI (mayL xs) k) (by omega)) rfl rfl (.cons (S.snap 2 rfl) (.cons (.int _ _) (.nil _))) ?_
      simp (disch := omega) only [go_sem, e3, e4, e5, e6, e7, hq, hgk, r1n, r2n, r3n, List.getElem?_map, List.length_map, encI]
      refine condP_dec (fun h2 => ?_) (fun h2 => ?_)
      · simp (disch := omega) only [go_sem, e3, e4, e5, e6, e7, hq, hgk, r1n, r2n, r3n, List.getElem?_map, List.length_map, encI]
        rw [if_neg (by simp [noLog, h1, h2]), List.append_nil] at hnx
        refine nextP_intro ((mayL xs).length - (k + 1)) (by omega) ⟨k + 1, l, by omega, rfl, ?_, by simp (disch := omega) only [go_sem, e3, e4, e5, e6, e7, hq, hgk, r1n, r2n, r3n, List.getElem?_map, List.length_map, encI], by simp (disch := omega) only [go_sem, e3, e4, e5, e6, e7, hq, hgk, r1n, r2n, r3n, List.getElem?_map, List.length_map, encI], by simp (disch := omega) only [go_sem, e3, e4, e5, e6, e7, hq, hgk, r1n, r2n, r3n, List.getElem?_map, List.length_map, encI], by simp (disch := omega) only [go_sem, e3, e4, e5, e6, e7, hq, hgk, r1n, r2n, r3n, List.getElem?_map, List.length_map, encI]; rfl, ?_⟩
        · rw [hnx]; simp (disch := omega) only [go_sem, e3, e4, e5, e6, e7, hq, hgk, r1n, r2n, r3n, List.getElem?_map, List.length_map, encI]
        · rw [hnx]; exact S
      · simp (disch := omega) only [go_sem, e3, e4, e5, e6, e7, hq, hgk, ha, r1n, r2n, r3n, List.getElem?_map, List.length_map, encI]
        exact fin _ (by simp [noLog, h2]) (by simp (disch := omega) only [go_sem, e3, e4, e5, e6, e7, hq, hgk, ha, r1n, r2n, r3n, List.getElem?_map, List.length_map, encI]) (by simp (disch := omega) only [go_sem, e3, e4, e5, e6, e7, hq, hgk, ha, r1n, r2n, r3n, List.getElem?_map, List.length_map, encI]) (by simp (disch := omega) only [go_sem, e3, e4, e5, e6, e7, hq, hgk, ha, r1n, r2n, r3n, List.getElem?_map, List.length_map, encI]) (by simp (disch := omega) only [go_sem, e3, e4, e5, e6, e7, hq, hgk, ha, r1n, r2n, r3n, List.getElem?_map, List.length_map, encI]) (by simp (disch := omega) only [go_sem, e3, e4, e5, e6, e7, hq, hgk, ha, r1n, r2n, r3n, List.getElem?_map, List.length_map, encI])
  · have : k = (mayL xs).length := by omega
    subst this
    simp (disch := omega) only [go_sem, e3, e4, e5, e6, e7, r1n, r2n, r3n, len1]
    have e9 : logAcc t e (mayL xs).length = logT t e := by unfold logAcc logT; rw [← hf, List.take_length]
    rw [e9] at S ⊢
    exact (S.ofFlat (by simp) (flat_encI _)).ret
end Go.Av
