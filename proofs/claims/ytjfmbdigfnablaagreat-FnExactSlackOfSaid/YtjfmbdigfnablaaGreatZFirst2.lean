/- The variables that a task may read before it writes them: the program. No condition. -/
import Derived.Test.YtjfmbdigfnablaaGreatZFirst
namespace Go.Av
open Go.Proofs Go.RowKit
set_option linter.unusedVariables false
set_option linter.unusedSimpArgs false
set_option maxRecDepth 100000
set_option maxHeartbeats 4000000
/-- The cells of a reader: what is written, what is read first. -/
def rowR (W F : List Bool) : List V := (W ++ F).map V.bool
theorem rowR_len {W F : List Bool} (hW : W.length = 8) (hF : F.length = 8) : (rowR W F).length = 16 := by simp [rowR, hW, hF]
theorem rowR_W {W F : List Bool} (hW : W.length = 8) {k : Nat} (hk : k < 8) : rdc false 1 ((rowR W F).drop k) = some (.bool (bitB W k)) := by
  have h1 : k < (rowR W F).length := by simp [rowR]; omega
  rw [List.drop_eq_getElem_cons h1, rdc_one]
  simp [rowR, bitB, hW, hk, List.getElem_append]
theorem rowR_setF {h : Heap} {id : Nat} {W F : List Bool} (hb : h[id]? = some [rowR W F]) (hW : W.length = 8) (hF : F.length = 8) {k : Nat} (hk : k < 8) : storeH h 1 (.ptr id 1 0 (8 + k)) (.bool true) = some (h.set id [rowR W (F.set k true)]) := by
  rw [storeH_cell (n := 1) (i := 0) (b := [rowR W F]) (e := rowR W F) hb rfl rfl (by rw [rowR_len hW hF]; omega) rfl rfl]
  congr 3
  simp only [rowR, List.map_append, List.set_cons_zero]
  rw [List.set_append_right _ _ (by simp [hW]), List.length_map, hW, show 8 + k - 8 = k by omega, List.map_set]
theorem rowR_setW {h : Heap} {id : Nat} {W F : List Bool} (hb : h[id]? = some [rowR W F]) (hW : W.length = 8) (hF : F.length = 8) {k : Nat} (hk : k < 8) : storeH h 1 (.ptr id 1 0 k) (.bool true) = some (h.set id [rowR (W.set k true) F]) := by
  rw [storeH_cell (n := 1) (i := 0) (b := [rowR W F]) (e := rowR W F) hb rfl rfl (by rw [rowR_len hW hF]; omega) rfl rfl]
  congr 3
  simp only [rowR, List.map_append, List.set_cons_zero]
  rw [List.set_append_left _ _ (by simp [hW]; omega), List.map_set]
theorem rowR_take {W F : List Bool} (hW : W.length = 8) : (rowR W F).take 8 = W.map V.bool := by
  simp only [rowR, List.map_append]
  rw [List.take_left' (by simp [hW])]
theorem rowR_dropF {W F : List Bool} (hW : W.length = 8) : (rowR W F).drop 8 = F.map V.bool := by
  simp only [rowR, List.map_append]
  rw [List.drop_left' (by simp [hW])]
theorem rowR_putW {h : Heap} {id : Nat} {W W' F : List Bool} (hb : h[id]? = some [rowR W F]) (hW : W.length = 8) (hW' : W'.length = 8) (hF : F.length = 8) : storeH h 8 (.ptr id 1 0 0) (.agg (W'.map V.bool)) = some (h.set id [rowR W' F]) := by
  have h1 := rowR_len hW hF
  have h2 : splice (rowR W F) 0 (W'.map V.bool) = rowR W' F := by
    simp only [splice, List.take_zero, List.nil_append, List.length_map, hW', Nat.zero_add, rowR_dropF hW]
    simp [rowR]
  have h3 : (W'.map V.bool).all V.one = true := by simp [V.one]
  simp [storeH, storeB, hb, V.cells, hW', h1, h2, h3]
/-- What the head of a block holds, place by place. -/
theorem Sep.pat {h : Heap} {L : List It} (S : Sep h L) (n : Nat) {zs : List Int} {r : V} (e : L[n]? = some (.p zs r)) {k : Nat} (hk : k < zs.length) : ∃ id m b, r = .own id 1 0 zs.length m ∧ h[id]? = some b ∧ b.length = m ∧ b[k]? = some [.int .i64 (gtI zs k)] := by
  obtain ⟨i, _, o⟩ := S.nth n e
  rcases o with ⟨_, e, _⟩ | ⟨id, m, b, e1, e2, e3, e4, e5, e6, _⟩
  · subst e; simp at hk
  · refine ⟨id, m, b, e1, e2, e3, ?_⟩
    have : (b.take zs.length)[k]? = some (encI (gtI zs k)) := by rw [e5, List.getElem?_map, gtI_some hk]; rfl
    rwa [List.getElem?_take_of_lt hk] at this
theorem readsI_len {e : Expr} : (readsI e).length ≤ 2 := by
  unfold readsI
  split
  · have := ddup_le (srt (colE e 2))
    rw [srt_len] at this
    have := col_len e 2
    omega
  · simp
theorem read_c {h : Heap} {L : List It} (id : Nat) (W F : List Bool) (e : Expr) (hW : W.length = 8) (hF : F.length = 8) (he : exprOk e = true) (S : Sep h (.k id [rowR W F] :: L)) :
    C Tryz.prog 202 [.ptr id 1 0 0, .agg (encExpr e)] h (fun r h' => r = .tup [] ∧ Sep h' (.k id [rowR W (noteE W F e)] :: L)) := by
  refine C.by mixed (cfn_ok Tryz.func202 ok202) rfl ?_
  simp (disch := omega) only [s202, go_sem, encExpr]
  have S0 := S.app [[encExpr e]]
  simp only [encExpr] at S0
  refine S0.goPt (readsOf_c e) (.same rfl) fun r h1 X1 S1 ro rn rc rl => ?_
  have hlr := readsI_len (e := e)
  have hsame := note_same (W := W) (F := F) he hF
  simp (disch := omega) only [go_sem, rn, rl]
  refine loopP_intro (fun m s => ∃ (k : Nat) (F1 : List Bool), k ≤ (readsI e).length ∧ m = (readsI e).length - k ∧ F1.length = 8 ∧ noteL W F1 ((readsI e).drop k) = noteE W F e ∧ s.e 0 = .ptr id 1 0 0 ∧ s.e 7 = r ∧ s.e 8 = .int .i64 (readsI e).length ∧ s.e 9 = .int .i64 k ∧ Sep s.h (.k id [rowR W F1] :: .p (readsI e) r :: L)) (readsI e).length ⟨0, F, by omega, by omega, hF, hsame, by simp (disch := omega) only [go_sem, rn, rl], by simp (disch := omega) only [go_sem, rn, rl], by simp (disch := omega) only [go_sem, rn, rl], by simp (disch := omega) only [go_sem, rn, rl]; rfl, S1.sw⟩ ?_
  rintro m e' hp ⟨k, F1, hk, rfl, hF1, hnt, e0, e7, e8, e9, S2⟩
  simp only at e0 e7 e8 e9 S2
  simp (disch := omega) only [go_sem, e0, e7, e8, e9, rn]
  refine condP_dec (fun hlt => ?_) (fun hlt => ?_)
  · have hlt' : k < (readsI e).length := by omega
    refine Exists.elim (S2.pat 1 rfl hlt') fun q z => Exists.elim z fun n z => Exists.elim z fun b z => ?_
    have z1 := z.1
    have hq := z.2.1
    have hqn := z.2.2.1
    have hqk := z.2.2.2
    clear z
    subst z1
    have hbd := reads_bd he ((mem_readsI he).1 (List.getElem_mem hlt'))
    rw [gtI_get hlt'] at hbd
    rw [List.drop_eq_getElem_cons hlt', gtI_get hlt'] at hnt
    have hin : 0 ≤ gtI (readsI e) k ∧ gtI (readsI e) k < ((8 : Nat) : Int) := by omega
    have hrow := S2.blk 0 rfl
    have hrd := rowR_W (F := F1) hW (show (gtI (readsI e) k).toNat < 8 by omega)
    have st := rowR_setF hrow hW hF1 (show (gtI (readsI e) k).toNat < 8 by omega)
    simp (disch := omega) only [go_sem, e0, e7, e8, e9, hq, hqn, hqk, hrow, hrd, hin, Nat.mul_one]
    refine condP_split (fun hb => ?_) (fun hb => ?_)
    · simp (disch := omega) only [go_sem, e0, e7, e8, e9, hq, hqn, hqk, hrow, hrd, hin, Nat.mul_one]
      refine nextP_intro ((readsI e).length - (k + 1)) (by omega) ⟨k + 1, F1, by omega, rfl, hF1, ?_, by simp (disch := omega) only [go_sem, e0, e7, e8, e9, hq, hqn, hqk, hrow, hrd, hin, Nat.mul_one], by simp (disch := omega) only [go_sem, e0, e7, e8, e9, hq, hqn, hqk, hrow, hrd, hin, Nat.mul_one], by simp (disch := omega) only [go_sem, e0, e7, e8, e9, hq, hqn, hqk, hrow, hrd, hin, Nat.mul_one], by simp (disch := omega) only [go_sem, e0, e7, e8, e9, hq, hqn, hqk, hrow, hrd, hin, Nat.mul_one]; rfl, S2⟩
      rw [← hnt]
      show _ = noteL W (if bitB W (gtI (readsI e) k).toNat = true then F1 else _) _
      rw [if_pos hb]
    · simp (disch := omega) only [go_sem, e0, e7, e8, e9, hq, hqn, hqk, hrow, hrd, hin, st, Nat.mul_one]
      refine nextP_intro ((readsI e).length - (k + 1)) (by omega) ⟨k + 1, F1.set (gtI (readsI e) k).toNat true, by omega, rfl, by simpa using hF1, ?_, by simp (disch := omega) only [go_sem, e0, e7, e8, e9, hq, hqn, hqk, hrow, hrd, hin, st, Nat.mul_one], by simp (disch := omega) only [go_sem, e0, e7, e8, e9, hq, hqn, hqk, hrow, hrd, hin, st, Nat.mul_one], by simp (disch := omega) only [go_sem, e0, e7, e8, e9, hq, hqn, hqk, hrow, hrd, hin, st, Nat.mul_one], by simp (disch := omega) only [go_sem, e0, e7, e8, e9, hq, hqn, hqk, hrow, hrd, hin, st, Nat.mul_one]; rfl, S2.setK _⟩
      rw [← hnt]
      show _ = noteL W (if bitB W (gtI (readsI e) k).toNat = true then F1 else _) _
      rw [if_neg (by simp [hb])]
  · have : k = (readsI e).length := by omega
    subst this
    rw [List.drop_length] at hnt
    have hnt' : F1 = noteE W F e := hnt
    subst hnt'
    simp (disch := omega) only [go_sem, e0, e7, e8, e9, rn]
    exact S2.drop 1
def passS2 (r : Tr) (ts : List Tr) (st : List Bool × List Bool) : List Bool × List Bool := ts.foldl (fun st t => passT t st) (passT r st)
def PassC (t : Tr) : Prop := ∀ (xs : List Stmt) (id : Nat) (W F : List Bool) (h : Heap) (L : List It), t.ok = true → xs = t.flat → xs.length ≤ 24 → W.length = 8 → F.length = 8 → Sep h (.k id [rowR W F] :: L) →
    C Tryz.prog 201 [.ptr id 1 0 0, .lst 6 (xs.map encStmt)] h (fun r h' => r = .tup [] ∧ Sep h' (.k id [rowR (passT t (W, F)).1 (passT t (W, F)).2] :: L))
theorem passC_step (sz : Nat) (ih : ∀ b : Tr, b.size < sz → PassC b) (t : Tr) (hsz : t.size ≤ sz) : PassC t := by
  intro xs id W F h L ht hf hl hW hF S
  refine C.by mixed (cfn_ok Tryz.func201 ok201) rfl ?_
  simp (disch := omega) only [s201, go_sem]
  refine loopP_intro (fun m s => ∃ (k : Nat) (r : Tr) (ts : List Tr) (W1 F1 : List Bool), k ≤ xs.length ∧ m = xs.length - k ∧ r.ok = true ∧ allOk ts ∧ r.size ≤ sz ∧ (∀ x ∈ ts, x.size ≤ sz) ∧ xs.drop k = r.flat ++ tailE ts ∧ W1.length = 8 ∧ F1.length = 8 ∧ passS2 r ts (W1, F1) = passT t (W, F) ∧ s.e 0 = .ptr id 1 0 0 ∧ s.e 1 = .lst 6 (xs.map encStmt) ∧ s.e 4 = .int .i64 k ∧ Sep s.h (.k id [rowR W1 F1] :: L)) xs.length ⟨0, t, [], W, F, by omega, by omega, ht, fun _ h => by simp at h, hsz, fun _ h => by simp at h, by simp [tailE, hf], hW, hF, rfl, by simp (disch := omega) only [go_sem], by simp (disch := omega) only [go_sem], by simp (disch := omega) only [go_sem]; rfl, S⟩ ?_
  rintro m e hp ⟨k, r, ts, W1, F1, hk, rfl, hr, hts, hrs, htz, hdk, hW1, hF1, hps, e0, e1, e4, S⟩
  simp only at e0 e1 e4 S
  simp (disch := omega) only [go_sem, e0, e1, e4]
  refine condP_dec (fun hlt => ?_) (fun hlt => ?_)
  · have hlt' : k < xs.length := by omega
    have nxt : ∀ (e' : Nat → V) (hh : Heap) (q : Nat) (r' : Tr) (ts' : List Tr) (W2 F2 : List Bool), k < q → q ≤ xs.length → r'.ok = true → allOk ts' → r'.size ≤ sz → (∀ x ∈ ts', x.size ≤ sz) → xs.drop q = r'.flat ++ tailE ts' → W2.length = 8 → F2.length = 8 → passS2 r' ts' (W2, F2) = passT t (W, F) → e' 0 = .ptr id 1 0 0 → e' 1 = .lst 6 (xs.map encStmt) → e' 4 = .int .i64 q → Sep hh (.k id [rowR W2 F2] :: L) → @nextP (xs.length - k) ⟨e', hh⟩ ⟨fun m s => ∃ (k : Nat) (r : Tr) (ts : List Tr) (W1 F1 : List Bool), k ≤ xs.length ∧ m = xs.length - k ∧ r.ok = true ∧ allOk ts ∧ r.size ≤ sz ∧ (∀ x ∈ ts, x.size ≤ sz) ∧ xs.drop k = r.flat ++ tailE ts ∧ W1.length = 8 ∧ F1.length = 8 ∧ passS2 r ts (W1, F1) = passT t (W, F) ∧ s.e 0 = .ptr id 1 0 0 ∧ s.e 1 = .lst 6 (xs.map encStmt) ∧ s.e 4 = .int .i64 k ∧ Sep s.h (.k id [rowR W1 F1] :: L)⟩ := fun e' hh q r' ts' W2 F2 a1 a2 a3 a4 a5 a6 a7 a8 a9 b1 b2 b3 b4 b5 =>
      nextP_intro (xs.length - q) (by omega) ⟨q, r', ts', W2, F2, a2, rfl, a3, a4, a5, a6, a7, a8, a9, b1, b2, b3, b4, b5⟩
    have main : ∀ s : Stmt, xs[k] = s → storeH (hp ++ [[[V.int .i64 0, .int .i64 0, .int .i64 0, .int .i64 0, .int .i64 0, .int .i64 0]]]) 6 (.ptr hp.length 1 0 0) (.agg [.int .i64 s.kind, .int .i64 s.var, .int .i64 s.n, .int .i64 s.e.op, .int .i64 s.e.a, .int .i64 s.e.b]) = some (hp ++ [[[.int .i64 s.kind, .int .i64 s.var, .int .i64 s.n, .int .i64 s.e.op, .int .i64 s.e.a, .int .i64 s.e.b]]]) := fun s _ => storeBox rfl rfl
    rcases r with _ | ⟨s, r⟩ | ⟨s, b, r⟩
    · match ts, hts, htz, hdk, hps with
      | [], _, _, hdk, _ =>
        have := congrArg List.length hdk
        simp [Tr.flat, tailE] at this
        omega
      | t' :: ts', hts, htz, hdk, hps =>
        simp only [Tr.flat, tailE, List.nil_append] at hdk
        refine Exists.elim (drop_head hdk) fun hk0 z => ?_
        have hks := z.1
        have hd1 := z.2
        have hg : ∀ h : k < xs.length, xs[k] = endS := fun _ => hks
        have hz := main endS hks
        have S1 := S.newK [encStmt endS]
        simp only [encStmt] at S1
        have hbx := S1.blk 0 rfl
        simp (disch := omega) only [go_sem, e0, e1, e4, hg, hz, hbx, encStmt, endS]
        refine CP.go (hasExpr_c 6) rfl rfl ?_
        have hx : hasExpr 6 = false := rfl
        have hv : hasVar 6 = false := rfl
        simp (disch := omega) only [go_sem, e0, e1, e4, hx, hbx, endS]
        refine CP.go (hasVar_c 6) rfl rfl ?_
        simp (disch := omega) only [go_sem, e0, e1, e4, hv, hbx, endS]
        exact nxt _ _ (k + 1) t' ts' W1 F1 (by omega) (by omega) (hts t' (by simp)) (fun x hx => hts x (by simp [hx])) (htz t' (by simp)) (fun x hx => htz x (by simp [hx])) hd1 hW1 hF1 (by simpa [passS2, passT] using hps) (by simp (disch := omega) only [go_sem, e0, e1, e4, hv, hbx, endS]) (by simp (disch := omega) only [go_sem, e0, e1, e4, hv, hbx, endS]) (by simp (disch := omega) only [go_sem, e0, e1, e4, hv, hbx, endS]; rfl) S1.drop1
    · obtain ⟨hs, hkk, hr'⟩ := Tr.one_ok hr
      simp only [Tr.flat, List.cons_append] at hdk
      simp only [Tr.size] at hrs
      refine Exists.elim (drop_head hdk) fun hk0 z => ?_
      have hks := z.1
      have hd1 := z.2
      have hg : ∀ h : k < xs.length, xs[k] = s := fun _ => hks
      have hz := main s hks
      have S1 := S.newK [encStmt s]
      simp only [encStmt] at S1
      have hbx := S1.blk 0 rfl
      have hk4 : ¬ s.kind = 4 := by omega
      have hpe : passT (.one s r) (W1, F1) = passT r (if hasVar s.kind = true then W1.set s.var.toNat true else W1, if hasExpr s.kind = true then noteE W1 F1 s.e else F1) := rfl
      unfold passS2 at hps
      rw [hpe] at hps
      simp (disch := omega) only [go_sem, e0, e1, e4, hg, hz, hbx, encStmt]
      refine CP.go (hasExpr_c s.kind) rfl rfl ?_
      have fin : ∀ (e' : Nat → V) (hh : Heap) (F2 : List Bool) (B : Blk) (hbb : B = [[.int .i64 s.kind, .int .i64 s.var, .int .i64 s.n, .int .i64 s.e.op, .int .i64 s.e.a, .int .i64 s.e.b]]), F2.length = 8 → True := fun _ _ _ _ _ _ => trivial
      simp (disch := omega) only [go_sem, e0, e1, e4]
      refine condP_split (fun hx => ?_) (fun hx => ?_)
      · rw [if_pos hx] at hps
        simp (disch := omega) only [go_sem, e0, e1, e4, hbx]
        refine C.go (read_c id W1 F1 s.e hW1 hF1 (stmt_expr hs hx) S1.sw) ?_
        rintro r0 h2 ⟨rfl, S2⟩
        have hb2 := S2.blk 1 rfl
        simp (disch := omega) only [go_sem, e0, e1, e4, hb2]
        refine CP.go (hasVar_c s.kind) rfl rfl ?_
        simp (disch := omega) only [go_sem, e0, e1, e4, hb2]
        refine condP_split (fun hv => ?_) (fun hv => ?_)
        · rw [if_pos hv] at hps
          have hsv := stmt_var hs hv
          have hin : 0 ≤ s.var ∧ s.var < ((8 : Nat) : Int) := by omega
          have st := rowR_setW (S2.blk 0 rfl) hW1 (show (noteE W1 F1 s.e).length = 8 by rw [noteE_len, hF1]) (show s.var.toNat < 8 by omega)
          have S3 := S2.setK [rowR (W1.set s.var.toNat true) (noteE W1 F1 s.e)]
          have hb3 := S3.blk 1 rfl
          simp (disch := omega) only [go_sem, e0, e1, e4, hb2, hb3, st, hin, hk4, Nat.mul_one]
          exact nxt _ _ (k + 1) r ts _ _ (by omega) (by omega) hr' hts (by omega) htz hd1 (by simpa using hW1) (by rw [noteE_len, hF1]) hps (by simp (disch := omega) only [go_sem, e0, e1, e4, hb2, hb3, st, hin, hk4, Nat.mul_one]) (by simp (disch := omega) only [go_sem, e0, e1, e4, hb2, hb3, st, hin, hk4, Nat.mul_one]) (by simp (disch := omega) only [go_sem, e0, e1, e4, hb2, hb3, st, hin, hk4, Nat.mul_one]; rfl) (S3.drop 1)
        · rw [if_neg (by simp [hv])] at hps
          simp (disch := omega) only [go_sem, e0, e1, e4, hb2, hk4]
          exact nxt _ _ (k + 1) r ts _ _ (by omega) (by omega) hr' hts (by omega) htz hd1 hW1 (by rw [noteE_len, hF1]) hps (by simp (disch := omega) only [go_sem, e0, e1, e4, hb2, hk4]) (by simp (disch := omega) only [go_sem, e0, e1, e4, hb2, hk4]) (by simp (disch := omega) only [go_sem, e0, e1, e4, hb2, hk4]; rfl) (S2.drop 1)
      · rw [if_neg (show ¬ hasExpr s.kind = true by simp [hx])] at hps
        simp (disch := omega) only [go_sem, e0, e1, e4, hbx]
        refine CP.go (hasVar_c s.kind) rfl rfl ?_
        simp (disch := omega) only [go_sem, e0, e1, e4, hbx]
        refine condP_split (fun hv => ?_) (fun hv => ?_)
        · rw [if_pos hv] at hps
          have hsv := stmt_var hs hv
          have hin : 0 ≤ s.var ∧ s.var < ((8 : Nat) : Int) := by omega
          have S2 := S1.sw
          have st := rowR_setW (S2.blk 0 rfl) hW1 hF1 (show s.var.toNat < 8 by omega)
          have S3 := S2.setK [rowR (W1.set s.var.toNat true) F1]
          have hb3 := S3.blk 1 rfl
          simp (disch := omega) only [go_sem, e0, e1, e4, hbx, hb3, st, hin, hk4, Nat.mul_one]
          exact nxt _ _ (k + 1) r ts _ _ (by omega) (by omega) hr' hts (by omega) htz hd1 (by simpa using hW1) hF1 hps (by simp (disch := omega) only [go_sem, e0, e1, e4, hbx, hb3, st, hin, hk4, Nat.mul_one]) (by simp (disch := omega) only [go_sem, e0, e1, e4, hbx, hb3, st, hin, hk4, Nat.mul_one]) (by simp (disch := omega) only [go_sem, e0, e1, e4, hbx, hb3, st, hin, hk4, Nat.mul_one]; rfl) (S3.drop 1)
        · rw [if_neg (by simp [hv])] at hps
          simp (disch := omega) only [go_sem, e0, e1, e4, hbx, hk4]
          exact nxt _ _ (k + 1) r ts _ _ (by omega) (by omega) hr' hts (by omega) htz hd1 hW1 hF1 hps (by simp (disch := omega) only [go_sem, e0, e1, e4, hbx, hk4]) (by simp (disch := omega) only [go_sem, e0, e1, e4, hbx, hk4]) (by simp (disch := omega) only [go_sem, e0, e1, e4, hbx, hk4]; rfl) S1.drop1
    · obtain ⟨hs, hkk, hb', hr'⟩ := Tr.grp_ok hr
      simp only [Tr.flat, List.cons_append, List.append_assoc] at hdk
      simp only [Tr.size] at hrs
      refine Exists.elim (drop_head hdk) fun hk0 z => ?_
      have hks := z.1
      have hd1 := z.2
      have hg : ∀ h : k < xs.length, xs[k] = s := fun _ => hks
      have hz := main s hks
      have S1 := S.newK [encStmt s]
      simp only [encStmt] at S1
      have hbx := S1.blk 0 rfl
      simp (disch := omega) only [go_sem, e0, e1, e4, hg, hz, hbx, encStmt]
      refine CP.go (hasExpr_c s.kind) rfl rfl ?_
      have hv : hasVar s.kind = false := by rcases hkk with h1 | h1 <;> simp [hasVar, h1]
      rcases hkk with h4 | h5
      · have hx : hasExpr s.kind = true := by simp [hasExpr, h4]
        have hpe : passT (.grp s b r) (W1, F1) = passT r (W1, (passT b (W1, noteE W1 F1 s.e)).2) := by simp [passT, h4]
        unfold passS2 at hps
        rw [hpe] at hps
        have hd2 := drop_skip hd1
        refine Exists.elim (drop_head hd2) fun hk3 z => ?_
        have hd4 := z.2
        have hen : endO 0 k (xs.drop k) = (k : Int) + 1 + b.flat.length := by rw [hdk]; exact endO_grp k _ (.inl h4) hb'
        have htm := take_mid (xs := xs) hdk
        have t1 : ((k : Int) + 1).toNat = k + 1 := by omega
        have t2 : ((k : Int) + 1 + b.flat.length).toNat = k + 1 + b.flat.length := by omega
        have hbl : b.flat.length ≤ 24 := by
          have := congrArg List.length hd1
          simp only [List.length_drop, List.length_append] at this
          omega
        simp (disch := omega) only [go_sem, e0, e1, e4, hbx, hx]
        refine C.go (read_c id W1 F1 s.e hW1 hF1 (stmt_expr hs hx) S1.sw) ?_
        rintro r0 h2 ⟨rfl, S2⟩
        have hb2 := S2.blk 1 rfl
        simp (disch := omega) only [go_sem, e0, e1, e4, hb2, hx]
        refine CP.go (hasVar_c s.kind) rfl rfl ?_
        simp (disch := omega) only [go_sem, e0, e1, e4, hb2, hv]
        refine CP.go (endO_c xs k (by omega) (by omega)) rfl (refs_args _ _ _) ?_
        have hnl : (noteE W1 F1 s.e).length = 8 := by rw [noteE_len, hF1]
        have h0 := S2.blk 0 rfl
        have h16 := rowR_len hW1 hnl
        have htk := rowR_take (F := noteE W1 F1 s.e) hW1
        have hbf : fit 8 (W1.map V.bool) = true := by simp [fit, hW1, V.one]
        have hz2 := storeBox (h := h2) (z := [V.bool false, .bool false, .bool false, .bool false, .bool false, .bool false, .bool false, .bool false]) (x := .agg (W1.map V.bool)) (sz := 8) rfl hbf
        simp only [cells_agg] at hz2
        have S3 := (S2.newK [W1.map V.bool]).sw.drop 2
        simp (disch := omega) only [go_sem, e0, e1, e4, hen, h0, h16, htk, hbf, hz2, t1, t2, htm]
        refine C.go (ih b (by omega) b.flat id W1 (noteE W1 F1 s.e) _ _ hb' rfl hbl hW1 hnl S3) ?_
        rintro r0 h3 ⟨rfl, S4⟩
        have hpl := passT_len b W1 (noteE W1 F1 s.e)
        have hb4 := S4.blk 1 rfl
        have hWl : (W1.map V.bool).length = 8 := by simpa using hW1
        have htk8 : (W1.map V.bool).take 8 = W1.map V.bool := List.take_of_length_le (by omega)
        have st := rowR_putW (S4.blk 0 rfl) (W' := W1) (by omega) hW1 (by omega)
        have S5 := S4.setK [rowR W1 (passT b (W1, noteE W1 F1 s.e)).2]
        simp (disch := omega) only [go_sem, e0, e1, e4, hb4, hWl, htk8, st, hen]
        exact nxt _ _ (k + 1 + b.flat.length + 1) r ts W1 _ (by omega) (by omega) hr' hts (by omega) htz hd4 hW1 (by omega) hps (by simp (disch := omega) only [go_sem, e0, e1, e4, hb4, hWl, htk8, st, hen]) (by simp (disch := omega) only [go_sem, e0, e1, e4, hb4, hWl, htk8, st, hen]) (by simp (disch := omega) only [go_sem, e0, e1, e4, hb4, hWl, htk8, st, hen]; exact congrArg (V.int .i64) (by omega)) (S5.drop 1)
      · have hx : hasExpr s.kind = false := by simp [hasExpr, h5]
        have hk4 : ¬ s.kind = 4 := by omega
        have hpe : passT (.grp s b r) (W1, F1) = passT r (passT b (W1, F1)) := by simp [passT, h5]
        unfold passS2 at hps
        rw [hpe] at hps
        simp (disch := omega) only [go_sem, e0, e1, e4, hbx, hx]
        refine CP.go (hasVar_c s.kind) rfl rfl ?_
        simp (disch := omega) only [go_sem, e0, e1, e4, hbx, hv, hk4]
        refine nxt _ _ (k + 1) b (r :: ts) W1 F1 (by omega) (by omega) hb' (fun x hx => ?_) (by omega) (fun x hx => ?_) hd1 hW1 hF1 hps (by simp (disch := omega) only [go_sem, e0, e1, e4, hbx, hv, hk4]) (by simp (disch := omega) only [go_sem, e0, e1, e4, hbx, hv, hk4]) (by simp (disch := omega) only [go_sem, e0, e1, e4, hbx, hv, hk4]; rfl) S1.drop1
        · rcases List.mem_cons.1 hx with rfl | hx
          · exact hr'
          · exact hts x hx
        · rcases List.mem_cons.1 hx with rfl | hx
          · omega
          · exact htz x hx
  · have hke : k = xs.length := by omega
    subst hke
    have hz : r = .nil ∧ ts = [] := by
      have hlen := congrArg List.length hdk
      rw [List.drop_length, List.length_append, List.length_nil] at hlen
      have h1 : r.flat.length = 0 := by omega
      have h2 : (tailE ts).length = 0 := by omega
      cases r with
      | nil =>
        cases ts with
        | nil => exact ⟨rfl, rfl⟩
        | cons t' ts' => simp [tailE] at h2
      | one s r => simp [Tr.flat] at h1
      | grp s a r => simp [Tr.flat] at h1
    obtain ⟨rfl, rfl⟩ := hz
    have hpe : passT t (W, F) = (W1, F1) := hps.symm
    rw [hpe]
    simp (disch := omega) only [go_sem, e0, e1, e4]
    exact S
theorem passC_c (t : Tr) : PassC t := by
  induction hn : t.size using Nat.strongRecOn generalizing t with
  | ind n ih => exact passC_step n (fun b hb => ih b.size hb b rfl) t (by omega)
end Go.Av
