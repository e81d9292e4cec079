/- The laws FnExactIsCertified and FnExactSlackOf. -/
import Derived.Test.YtjfmbdigfnablaaGreatZTypes
import Derived.Test.YtjfmbdigfnablaaGreatAv24
namespace Go.Av
open Go.Proofs Go.RowKit
set_option linter.unusedVariables false
set_option linter.unusedSimpArgs false
set_option maxRecDepth 100000
set_option maxHeartbeats 4000000
theorem refs_progI (n : Nat) (ts : List Task) (k : Int) : V.refsL n [.agg [.lst 4 (ts.map encTask)], .int .i64 k] = true := by simp only [V.refsL, refs_prog]; rfl
theorem refs_prog2 (n : Nat) (s t : List Task) : V.refsL n [.agg [.lst 4 (s.map encTask)], .agg [.lst 4 (t.map encTask)]] = true := by simp only [V.refsL, refs_prog]; rfl
theorem Sep.goProg {ts : List Task} {h : Heap} {L : List It} {K : V → Heap → Prop} (S : Sep h L) (hx : ts.length ≤ 1048576) (hb : ∀ t ∈ ts, t.body.length ≤ 1048576)
    (hk : ∀ v h', Ext h h' → Sep h' (.v (.lst 4 (ts.map encTask)) v :: L) → V.one v = true → V.nohole v = v → V.cells v = [v] → K (.agg [v]) h') : @callP Tryz.prog 39 [.agg [.lst 4 (ts.map encTask)]] h ⟨K⟩ :=
  S.go (toProg_f ts hx hb) (.same (refs_prog1 _ _)) fun r h' x S1 => by
    obtain ⟨_, rfl, S2⟩ := sep_agg.1 S1
    obtain ⟨c, _, rfl, S3⟩ := sep_ll.1 S2
    obtain ⟨rfl, S4⟩ := sep_l0.1 S3
    have S5 := S4.rot
    have z := S5.vv 0 rfl
    exact hk c h' x S5 z.1 z.2.1 z.2.2
theorem Sep.progSnap {ts : List Task} {h : Heap} {L : List It} (S : Sep h L) (n : Nat) {v : V} (e : L[n]? = some (.v (.lst 4 (ts.map encTask)) v)) : Snap h (.agg [v]) (.agg [.lst 4 (ts.map encTask)]) :=
  Snap.ofSnaps (.cons (S.snap n e) (.nil _))
theorem isCert_law (ts : List Task) (s : Store) (hx : ts.length ≤ 9223372036854775807) (hb : ∀ t ∈ ts, t.body.length ≤ 9223372036854775807) : CP Tryz.prog 8 [.agg [.lst 4 (ts.map encTask)], .agg (encStore s)] (.bool true) [] := by
  refine CP.by rfl mixed (cfn_ok Tryz.func8 ok8) rfl ?_
  simp (disch := omega) only [s8, go_sem, encStore]
  refine CP.go (szProg_c ts 1048576 hx hb (by omega)) rfl (refs_progI _ _ _) ?_
  simp (disch := omega) only [go_sem, encStore]
  refine condP_dec (fun hz => ?_) (fun hz => ?_)
  · simp (disch := omega) only [go_sem, encStore]
  have hin := szTask_in (by omega) hz
  have hx' := hin.1
  have hb' := hin.2
  simp (disch := omega) only [go_sem, encStore]
  have S0 : Sep ([[[.lst 4 (ts.map encTask)]], [encStore s]] : Heap) [.k 1 [encStore s], .k 0 [[.lst 4 (ts.map encTask)]]] := ((Sep.nil []).newK _).newK _
  simp only [encStore] at S0
  refine S0.goProg hx' hb' fun v1 h1 x1 S1 o1 n1 c1 => ?_
  have B1 := S1.blk 1 rfl
  have A1 := S1.blk 2 rfl
  simp (disch := omega) only [go_sem, encStore, o1, n1, c1, B1, A1]
  refine CP.go (toStore_c s) rfl rfl ?_
  simp (disch := omega) only [go_sem, encStore, o1, n1, c1, B1, A1]
  refine CP.goS (cert_s ts s hx' hb') rfl rfl (.cons (S1.progSnap 0 rfl) (.cons (.same _ (by rfl)) (.nil _))) ?_
  simp (disch := omega) only [go_sem, encStore, o1, n1, c1, B1, A1]
  refine S1.goProg hx' hb' fun v2 h2 x2 S2 o2 n2 c2 => ?_
  have S3 := S2.newK [[v2]]
  have B3 := S3.blk 3 rfl
  have A3 := S3.blk 4 rfl
  have C3 := S3.blk 0 rfl
  simp (disch := omega) only [go_sem, encStore, o2, n2, c2, B3, A3, C3, storeH, storeB, splice]
  refine CP.go (toStore_c s) rfl rfl ?_
  simp (disch := omega) only [go_sem, encStore, o2, n2, c2, B3, A3, C3, storeH, storeB, splice]
  refine CP.goS (cert_c ts s hx' hb') rfl rfl (.cons (S3.progSnap 1 rfl) (.cons (.same _ (by rfl)) (.nil _))) ?_
  simp (disch := omega) only [go_sem, encStore, o2, n2, c2, B3, A3, C3, storeH, storeB, splice, beq_self_eq_true]
  refine S3.goProg hx' hb' fun v4 h4 x4 S4 o4 n4 c4 => ?_
  have C4 := S4.blk 1 rfl
  simp (disch := omega) only [go_sem, encStore, o2, n2, c2, o4, n4, c4, C4]
  refine CP.goS (eqProg_c ts hx' hb') rfl rfl (.cons (S4.progSnap 2 rfl) (.cons (S4.progSnap 0 rfl) (.nil _))) ?_
  simp (disch := omega) only [go_sem, encStore, o2, n2, c2, o4, n4, c4, C4]
theorem slackOf_law (ts : List Task) (s : Store) (hx : ts.length ≤ 9223372036854775807) (hb : ∀ t ∈ ts, t.body.length ≤ 9223372036854775807) : CP Tryz.prog 10 [.agg [.lst 4 (ts.map encTask)], .agg (encStore s)] (.bool true) [] := by
  refine CP.by rfl mixed (cfn_ok Tryz.func10 ok10) rfl ?_
  simp (disch := omega) only [s10, go_sem, encStore]
  refine CP.go (szProg_c ts 1048576 hx hb (by omega)) rfl (refs_progI _ _ _) ?_
  simp (disch := omega) only [go_sem, encStore]
  refine condP_dec (fun hz => ?_) (fun hz => ?_)
  · simp (disch := omega) only [go_sem, encStore]
  have hin := szTask_in (by omega) hz
  have hx' := hin.1
  have hb' := hin.2
  simp (disch := omega) only [go_sem, encStore]
  have S0 : Sep ([[[.lst 4 (ts.map encTask)]], [encStore s]] : Heap) [.k 1 [encStore s], .k 0 [[.lst 4 (ts.map encTask)]]] := ((Sep.nil []).newK _).newK _
  simp only [encStore] at S0
  refine S0.goProg hx' hb' fun v1 h1 x1 S1 o1 n1 c1 => ?_
  have B1 := S1.blk 1 rfl
  have A1 := S1.blk 2 rfl
  simp (disch := omega) only [go_sem, encStore, o1, n1, c1, B1, A1]
  refine CP.go (toStore_c s) rfl rfl ?_
  simp (disch := omega) only [go_sem, encStore, o1, n1, c1, B1, A1]
  refine CP.goS (slack_s ts s hx' hb') rfl rfl (.cons (S1.progSnap 0 rfl) (.cons (.same _ (by rfl)) (.nil _))) ?_
  simp (disch := omega) only [go_sem, encStore, o1, n1, c1, B1, A1]
  refine S1.goProg hx' hb' fun v2 h2 x2 S2 o2 n2 c2 => ?_
  have S3 := S2.newK [[v2]]
  have B3 := S3.blk 3 rfl
  have A3 := S3.blk 4 rfl
  have C3 := S3.blk 0 rfl
  simp (disch := omega) only [go_sem, encStore, o2, n2, c2, B3, A3, C3, storeH, storeB, splice]
  refine CP.go (toStore_c s) rfl rfl ?_
  simp (disch := omega) only [go_sem, encStore, o2, n2, c2, B3, A3, C3, storeH, storeB, splice]
  refine CP.goS (slack_c ts s hx' hb') rfl rfl (.cons (S3.progSnap 1 rfl) (.cons (.same _ (by rfl)) (.nil _))) ?_
  simp (disch := omega) only [go_sem, encStore, o2, n2, c2, B3, A3, C3, storeH, storeB, splice, beq_self_eq_true]
  refine S3.goProg hx' hb' fun v4 h4 x4 S4 o4 n4 c4 => ?_
  have C4 := S4.blk 1 rfl
  simp (disch := omega) only [go_sem, encStore, o2, n2, c2, o4, n4, c4, C4]
  refine CP.goS (eqProg_c ts hx' hb') rfl rfl (.cons (S4.progSnap 2 rfl) (.cons (S4.progSnap 0 rfl) (.nil _))) ?_
  simp (disch := omega) only [go_sem, encStore, o2, n2, c2, o4, n4, c4, C4]
structure Prg where
  tasks : List Task
def encPrg (p : Prg) : List V := [.lst 4 (p.tasks.map encTask)]
theorem prg_bounds {S : Nat → Prop} {ρ : Rho} {w : World} {v : Value} {p : Prg} (r : Rep S ρ w v (.agg (encPrg p))) : p.tasks.length ≤ 9223372036854775807 ∧ ∀ t ∈ p.tasks, t.body.length ≤ 9223372036854775807 := by
  obtain ⟨_, r1⟩ := r.field (j := 0) rfl
  refine ⟨by simpa using lst_bound r1, fun t ht => ?_⟩
  obtain ⟨i, hi, rfl⟩ := List.getElem_of_mem ht
  obtain ⟨_, r2⟩ := r1.row (i := i) (j := 0) (e := encTask p.tasks[i]) (by simp [hi]) rfl
  simpa using lst_bound r2
end Go.Av
