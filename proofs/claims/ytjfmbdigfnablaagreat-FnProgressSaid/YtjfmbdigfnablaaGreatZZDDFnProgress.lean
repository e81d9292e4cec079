import Derived.Test.YtjfmbdigfnablaaGreatZZDCFnProgress
import Derived.Test.YtjfmbdigfnablaaGreatZZDBFnProgress
namespace Go.Av
open Go.Proofs Go.RowKit
set_option linter.unusedVariables false
set_option linter.unusedSimpArgs false
set_option maxRecDepth 100000
set_option maxHeartbeats 4000000
theorem cloneS_f (xs : List Stmt) (hx : xs.length ≤ 1048576) : F Tryz.prog 143 [.lst 6 (xs.map encStmt)] (.lst 6 (xs.map encStmt)) := by
  refine C.by mixed (cfn_ok Tryz.func143 ok143) rfl ?_
  simp (disch := omega) only [s143, go_sem]
  have ha : appendH [[]] 6 48 (.own 0 6 0 0 0) (.lst 6 (xs.map encStmt)) = some (.own 0 6 0 (0 + xs.length) (0 + xs.length), ([[]] : Heap).set 0 ([] ++ xs.map encStmt)) := appendH_n (n := 0) (m := xs.length) (b := []) rfl rfl (by simp [elemsOf]) (by simp) (by omega)
  have hfin : ∃ ids : List Nat, ids.Nodup ∧ OwnsR [xs.map encStmt] (.lst 6 (xs.map encStmt)) (.own 0 6 0 xs.length xs.length) ids := ⟨[0], by simp, Owns.own_flat rfl (by simp) (flat_Stmt _)⟩
  cases xs with
  | nil =>
    simp only [isnilP, List.map_nil, List.isEmpty_nil, if_true]
    intro b
    cases b
    · simp (disch := omega) only [go_sem, ha]
      exact hfin
    · simp (disch := omega) only [go_sem]
      exact ⟨[], by simp, Owns.nils_⟩
  | cons x xs =>
    simp only [isnilP, List.map_cons, List.isEmpty_cons, Bool.false_eq_true, if_false]
    simp only [List.map_cons] at ha
    simp (disch := omega) only [go_sem, ha]
    exact hfin
theorem copyTask_f (t : Task) (hx : t.body.length ≤ 1048576) : F Tryz.prog 142 [.agg (encTask t)] (.agg (encTask t)) := by
  obtain ⟨body, ⟨op, a, b⟩⟩ := t
  refine C.by mixed (cfn_ok Tryz.func142 ok142) rfl ?_
  simp (disch := omega) only [s142, go_sem, encTask, storeH, storeB, splice]
  refine F.go (cloneS_f body hx) (.same (refs_stmts1 _ _)) fun r h1 ids x1 n1 g1 o1 => ?_
  have o1 := Owns.lstR.1 o1
  obtain ⟨ov, on, oc⟩ := o1.vv
  have b0 := x1.get (i := 0) rfl
  have b1 := x1.get (i := 1) rfl
  have c0 : ∀ c, (h1.set 0 c)[0]? = some c := fun c => heap_set _ b0
  have c1 : ∀ c, (h1.set 0 c)[1]? = some [[.nils, .int .i64 0, .int .i64 0, .int .i64 0]] := fun c => heap_set_ne _ (by omega) b1
  have c3 : ∀ c d, ((h1.set 0 c).set 1 d)[1]? = some d := fun c d => heap_set _ (c1 c)
  simp (disch := omega) only [go_sem, ov, on, oc, b0, b1, c0, c1, c3, storeH, storeB, splice]
  exact ⟨ids, n1, Owns.aggR.2 ⟨_, rfl, OwnsL.mkTask (t := ⟨body, ⟨op, a, b⟩⟩) ((o1.set _ (nin_ge g1 (by simp))).set _ (nin_ge g1 (by simp)))⟩⟩
theorem Sep.task {t : Task} {h : Heap} {L : List It} {r : V} (S : Sep h (.v (.agg (encTask t)) r :: L)) : ∃ va, r = .agg [va, .int .i64 t.next.op, .int .i64 t.next.a, .int .i64 t.next.b] ∧ Sep h (.l (encTask t) [va, .int .i64 t.next.op, .int .i64 t.next.a, .int .i64 t.next.b] :: L) ∧ (V.one va = true ∧ V.nohole va = va ∧ V.cells va = [va]) := by
  obtain ⟨cs, rfl, S1⟩ := sep_agg.1 S
  obtain ⟨i, _, o⟩ := S1.nth 0 rfl
  obtain ⟨va, rfl, o'⟩ := OwnsL.task o
  exact ⟨va, rfl, S1, o'.vv⟩
theorem Sep.goTask {P : Program} {f : FuncId} {args args' : List V} {t : Task} {h : Heap} {L : List It} {K : V → Heap → Prop} (S : Sep h L) (hf : F P f args' (.agg (encTask t))) (hs : Snaps h args args')
    (hk : ∀ va h', Ext h h' → Sep h' (.l (encTask t) [va, .int .i64 t.next.op, .int .i64 t.next.a, .int .i64 t.next.b] :: L) → V.one va = true → V.nohole va = va → V.cells va = [va] → K (.agg [va, .int .i64 t.next.op, .int .i64 t.next.a, .int .i64 t.next.b]) h') : @callP P f args h ⟨K⟩ :=
  S.go hf hs fun r h' x S1 => by
    obtain ⟨va, rfl, S2, z⟩ := S1.task
    exact hk va h' x S2 z.1 z.2.1 z.2.2
theorem Sep.prog {h : Heap} {ts : List Task} {v : V} {L : List It} (S : Sep h (.v (.lst 4 (ts.map encTask)) v :: L)) : ∃ ids : List Nat, ids.Nodup ∧ OwnsR h (.agg [.lst 4 (ts.map encTask)]) (.agg [v]) ids :=
  ((Sep.cons2 (fun es e => by cases e) ((Sep.perm (List.Perm.swap _ _ _) (Sep.l0 S)))).a).ret
theorem take_push {ts : List Task} {k : Nat} (h : k < ts.length) : (ts.take k).map encTask ++ [encTask ts[k]] = (ts.take (k + 1)).map encTask := by
  rw [List.take_succ_eq_append_getElem h, List.map_append]; rfl
theorem copyProg_f (ts : List Task) (hx : ts.length ≤ 1048576) (hb : ∀ t ∈ ts, t.body.length ≤ 1048576) : F Tryz.prog 82 [.agg [.lst 4 (ts.map encTask)]] (.agg [.lst 4 (ts.map encTask)]) := by
  refine C.by mixed (cfn_ok Tryz.func82 ok82) rfl ?_
  simp (disch := omega) only [s82, go_sem, storeH, storeB, splice]
  have S0 : Sep ([[[.lst 4 (ts.map encTask)]], [[.nils]], [[.nils]]] : Heap) [.k 2 [[.nils]], .k 1 [[.nils]], .k 0 [[.lst 4 (ts.map encTask)]]] := (((Sep.nil []).newK _).newK _).newK _
  have S0' := (S0.nils (sz := 4)).pick [1, 2, 0] (by decide)
  refine loopP_intro (fun m s => ∃ k : Nat, ∃ v : V, k ≤ ts.length ∧ m = ts.length - k ∧ s.e 8 = .lst 4 (ts.map encTask) ∧ s.e 10 = .int .i64 k ∧ s.e 9 = .int .i64 ts.length ∧ s.e 3 = .ptr 2 1 0 0 ∧ s.e 2 = .ptr 1 1 0 0 ∧ Sep s.h [.k 2 [[v]], .k 1 [[.nils]], .v (.lst 4 ((ts.take k).map encTask)) v]) ts.length ⟨0, .nils, by omega, by omega, rfl, rfl, rfl, rfl, rfl, S0'⟩ ?_
  intro m e hp P
  refine Exists.elim P fun k P => Exists.elim P fun v P => ?_
  have hk := P.1
  have hm := P.2.1
  have e8 := P.2.2.1
  have e10 := P.2.2.2.1
  have e9 := P.2.2.2.2.1
  have e3 := P.2.2.2.2.2.1
  have e2 := P.2.2.2.2.2.2.1
  have S1 := P.2.2.2.2.2.2.2
  clear P
  subst hm
  simp only at e8 e10 e9 e3 e2 S1
  simp (disch := omega) only [go_sem, e8, e10, e9, e3, e2]
  refine condP_dec (fun hlt => ?_) (fun hlt => ?_)
  · have hlt' : k < ts.length := by omega
    have S2 := S1.newK [[.lst 6 (ts[k].body.map encStmt), .int .i64 ts[k].next.op, .int .i64 ts[k].next.a, .int .i64 ts[k].next.b]]
    have K2 := S2.blk 0 rfl
    have V2 := S2.blk 1 rfl
    have z2 := (S2.vv 3 rfl)
    simp (disch := omega) only [go_sem, e8, e10, e9, e3, e2, K2, V2, encTask, z2.1, z2.2.1, z2.2.2]
    refine S2.goTask (copyTask_f ts[k] (hb _ (List.getElem_mem hlt'))) (.same (refs_task1 _ ts[k])) fun va h3 x3 S3 va1 va2 va3 => ?_
    have S4 := S3.newK [[va, .int .i64 ts[k].next.op, .int .i64 ts[k].next.a, .int .i64 ts[k].next.b]]
    have S5 := S4.pick [5, 1, 3, 4] (by decide)
    have hpu := S5.push (bytes := 48) (S4.blk 0 rfl) (by simp; omega)
    refine Exists.elim hpu fun v' q => Exists.elim q fun h5 q => ?_
    have hap := q.1
    have V3 := S3.blk 2 rfl
    have V4 := S4.blk 3 rfl
    have S6 := q.2
    clear q hpu
    have z6 := S6.vv 0 rfl
    have V6 := S6.blk 1 rfl
    simp (disch := omega) only [go_sem, e8, e10, e9, e3, e2, va1, va2, va3, hap, V3, V4, V6, z6.1, z6.2.1, z6.2.2, storeH, storeB, splice, z2.1, z2.2.1, z2.2.2]
    have e6 : (ts.take k).map encTask ++ [encTask ts[k]] = (ts.take (k + 1)).map encTask := take_push hlt'
    rw [e6] at S6
    have S7 := ((S6.pull 1).setK [[v']]).pick [0, 2, 1] (by decide)
    exact nextP_intro (ts.length - (k + 1)) (by omega) ⟨k + 1, v', by omega, rfl, by simp (disch := omega) only [go_sem, e8, e10, e9, e3, e2, va1, va2, va3, hap, V3, V4, V6, z6.1, z6.2.1, z6.2.2, storeH, storeB, splice, z2.1, z2.2.1, z2.2.2], by simp (disch := omega) only [go_sem, e8, e10, e9, e3, e2, va1, va2, va3, hap, V3, V4, V6, z6.1, z6.2.1, z6.2.2, storeH, storeB, splice, z2.1, z2.2.1, z2.2.2]; rfl, by simp (disch := omega) only [go_sem, e8, e10, e9, e3, e2, va1, va2, va3, hap, V3, V4, V6, z6.1, z6.2.1, z6.2.2, storeH, storeB, splice, z2.1, z2.2.1, z2.2.2], by simp (disch := omega) only [go_sem, e8, e10, e9, e3, e2, va1, va2, va3, hap, V3, V4, V6, z6.1, z6.2.1, z6.2.2, storeH, storeB, splice, z2.1, z2.2.1, z2.2.2], by simp (disch := omega) only [go_sem, e8, e10, e9, e3, e2, va1, va2, va3, hap, V3, V4, V6, z6.1, z6.2.1, z6.2.2, storeH, storeB, splice, z2.1, z2.2.1, z2.2.2], S7⟩
  · have : k = ts.length := by omega
    subst this
    rw [List.take_length] at S1
    have K1 := S1.blk 0 rfl
    have V1 := S1.blk 1 rfl
    have z1 := S1.vv 2 rfl
    have c1 : ∀ d, (hp.set 1 d)[1]? = some d := fun d => heap_set _ V1
    simp (disch := omega) only [go_sem, e8, e10, e9, e3, e2, K1, V1, c1, z1.1, z1.2.1, z1.2.2, storeH, storeB, splice]
    exact (((S1.pick [1, 2] (by decide)).setK [[v]]).drop1).prog
theorem Sep.mkTask {t : Task} {h : Heap} {L : List It} {va : V} (S : Sep h (.v (.lst 6 (t.body.map encStmt)) va :: L)) : Sep h (.l (encTask t) [va, .int .i64 t.next.op, .int .i64 t.next.a, .int .i64 t.next.b] :: L) :=
  Sep.cons2 (fun es e => by cases e) (Sep.perm (List.Perm.swap _ _ _) (Sep.li (Sep.li (Sep.li (Sep.l0 S)))))
theorem append0 {h : Heap} {sz bytes : Nat} {xs : Blk} (hl : xs.length * bytes ≤ 140737488355328) : appendH (h ++ [[]]) sz bytes (.own h.length sz 0 0 0) (.lst sz xs) = some (.own h.length sz 0 xs.length xs.length, h ++ [xs]) := by
  have := appendH_n (h := h ++ [[]]) (sz := sz) (bytes := bytes) (id := h.length) (n := 0) (m := xs.length) (b := []) (xs := xs) (x := .lst sz xs) (by simp) rfl (by simp [elemsOf]) rfl (by rw [Nat.zero_add]; exact hl)
  simpa using this
theorem copyProg_s (ts : List Task) (hx : ts.length ≤ 1048576) (hb : ∀ t ∈ ts, t.body.length ≤ 1048576) : F Tryz.prog 101 [.agg [.lst 4 (ts.map encTask)]] (.agg [.lst 4 (ts.map encTask)]) := by
  refine C.by mixed (cfn_ok Tryz.func101 ok101) rfl ?_
  simp (disch := omega) only [s101, go_sem, storeH, storeB, splice]
  have S0 : Sep ([[[.lst 4 (ts.map encTask)]], [[.nils]], [[.nils]]] : Heap) [.k 2 [[.nils]], .k 1 [[.nils]], .k 0 [[.lst 4 (ts.map encTask)]]] := (((Sep.nil []).newK _).newK _).newK _
  have S0' := (S0.nils (sz := 4)).pick [1, 2, 3, 0] (by decide)
  refine loopP_intro (fun m s => ∃ k : Nat, ∃ v : V, k ≤ ts.length ∧ m = ts.length - k ∧ s.e 4 = .int .i64 k ∧ s.e 1 = .ptr 0 1 0 0 ∧ s.e 3 = .ptr 2 1 0 0 ∧ s.e 2 = .ptr 1 1 0 0 ∧ Sep s.h [.k 2 [[v]], .k 1 [[.nils]], .k 0 [[.lst 4 (ts.map encTask)]], .v (.lst 4 ((ts.take k).map encTask)) v]) ts.length ⟨0, .nils, by omega, by omega, rfl, rfl, rfl, rfl, S0'⟩ ?_
  intro m e hp P
  refine Exists.elim P fun k P => Exists.elim P fun v P => ?_
  have hk := P.1
  have hm := P.2.1
  have e4 := P.2.2.1
  have e1 := P.2.2.2.1
  have e3 := P.2.2.2.2.1
  have e2 := P.2.2.2.2.2.1
  have S1 := P.2.2.2.2.2.2
  clear P
  subst hm
  simp only at e4 e1 e3 e2 S1
  have T1 := S1.blk 2 rfl
  have V1 := S1.blk 0 rfl
  simp (disch := omega) only [go_sem, e4, e1, e3, e2, T1, V1]
  refine condP_dec (fun hlt => ?_) (fun hlt => ?_)
  · have hlt' : k < ts.length := by omega
    have hbl := hb _ (List.getElem_mem hlt')
    have z1 := S1.vv 3 rfl
    have S2 := S1.newK []
    have T2 := S2.blk 3 rfl
    have V2 := S2.blk 1 rfl
    have ap2 := append0 (h := hp) (sz := 6) (bytes := 48) (xs := ts[k].body.map encStmt) (by simp; omega)
    simp only [List.length_map] at ap2
    have S3 := S1.newK (ts[k].body.map encStmt)
    have T3 := S3.blk 3 rfl
    have V3 := S3.blk 1 rfl
    have S3' := (S3.ofFlat (sz := 6) (n := ts[k].body.length) (by simp) (flat_Stmt _)).mkTask
    have S4 := S3'.newK [[.own hp.length 6 0 ts[k].body.length ts[k].body.length, .int .i64 ts[k].next.op, .int .i64 ts[k].next.a, .int .i64 ts[k].next.b]]
    rw [List.append_assoc, List.cons_append, List.nil_append] at S4
    have T4 := S4.blk 4 rfl
    have V4 := S4.blk 2 rfl
    have S5 := S4.pick [5, 1, 2, 3, 4] (by decide)
    have hpu := S5.push (bytes := 48) (S4.blk 0 rfl) (by simp; omega)
    refine Exists.elim hpu fun v' q => Exists.elim q fun h5 q => ?_
    have hap := q.1
    have S6 := q.2
    have hL : (hp ++ [ts[k].body.map encStmt]).length = hp.length + 1 := by simp
    rw [hL] at hap
    clear q hpu
    have z6 := S6.vv 0 rfl
    have V6 := S6.blk 1 rfl
    simp (disch := omega) only [go_sem, e4, e1, e3, e2, T1, V1, z1.1, z1.2.1, z1.2.2, T2, V2, ap2, T3, V3, T4, V4, hap, V6, z6.1, z6.2.1, z6.2.2, encTask, storeH, storeB, splice]
    have e6 : (ts.take k).map encTask ++ [encTask ts[k]] = (ts.take (k + 1)).map encTask := take_push hlt'
    rw [e6] at S6
    have S7 := ((S6.pull 1).setK [[v']]).pick [0, 2, 3, 1] (by decide)
    exact nextP_intro (ts.length - (k + 1)) (by omega) ⟨k + 1, v', by omega, rfl, by simp (disch := omega) only [go_sem, e4, e1, e3, e2, T1, V1, z1.1, z1.2.1, z1.2.2, T2, V2, ap2, T3, V3, T4, V4, hap, V6, z6.1, z6.2.1, z6.2.2, encTask, storeH, storeB, splice]; rfl, by simp (disch := omega) only [go_sem, e4, e1, e3, e2, T1, V1, z1.1, z1.2.1, z1.2.2, T2, V2, ap2, T3, V3, T4, V4, hap, V6, z6.1, z6.2.1, z6.2.2, encTask, storeH, storeB, splice], by simp (disch := omega) only [go_sem, e4, e1, e3, e2, T1, V1, z1.1, z1.2.1, z1.2.2, T2, V2, ap2, T3, V3, T4, V4, hap, V6, z6.1, z6.2.1, z6.2.2, encTask, storeH, storeB, splice], by simp (disch := omega) only [go_sem, e4, e1, e3, e2, T1, V1, z1.1, z1.2.1, z1.2.2, T2, V2, ap2, T3, V3, T4, V4, hap, V6, z6.1, z6.2.1, z6.2.2, encTask, storeH, storeB, splice], S7⟩
  · have : k = ts.length := by omega
    subst this
    rw [List.take_length] at S1
    have K1 := S1.blk 0 rfl
    have V1 := S1.blk 1 rfl
    have z1 := S1.vv 3 rfl
    have c1 : ∀ d, (hp.set 1 d)[1]? = some d := fun d => heap_set _ V1
    simp (disch := omega) only [go_sem, e4, e1, e3, e2, K1, V1, c1, z1.1, z1.2.1, z1.2.2, storeH, storeB, splice]
    exact (((S1.pick [1, 3] (by decide)).setK [[v]]).drop1).prog
end Go.Av

namespace Go.Av
open Go.Proofs Go.RowKit
set_option linter.unusedVariables false
set_option linter.unusedSimpArgs false
set_option maxRecDepth 100000
set_option maxHeartbeats 4000000
def encL (us : List Int) : List V := [.lst 1 (us.map encI)]
structure BT where
  mem : List Int
  at_ : Int
  used : List (List Int)
  left : Int
def BS (h : Heap) (B : Nat) (b : BT) (L : List It) : Prop := ∃ (mid : Nat) (vu : V), Sep h (.k B [[.own mid 1 0 49 49, .int .i64 b.at_, vu, .int .i64 b.left]] :: .k mid (b.mem.map encI) :: .v (.lst 1 (b.used.map encL)) vu :: L)
theorem BS.new {h : Heap} {B : Nat} {b : BT} {L : List It} (S : BS h B b L) (c : Blk) : BS (h ++ [c]) B b (.k h.length c :: L) := by
  obtain ⟨mid, vu, S⟩ := S
  exact ⟨mid, vu, (S.newK c).pk (A := [_, _, _, _]) [1, 2, 3, 0] rfl⟩
theorem BS.drop {h : Heap} {B : Nat} {b : BT} {x : It} {L : List It} (S : BS h B b (x :: L)) : BS h B b L := by
  obtain ⟨mid, vu, S⟩ := S
  exact ⟨mid, vu, S.drop 3⟩
def spentB (b : BT) (c : Int) : BT := if b.left < c then b else { b with left := b.left - c }
theorem spend_c {h : Heap} {B : Nat} {b : BT} {L : List It} (c : Int) (hc : 0 ≤ c ∧ c ≤ 1000) (hl : 0 ≤ b.left ∧ b.left ≤ 1000000) (S : BS h B b L) : C Tryz.prog 222 [.ptr B 1 0 0, .int .i64 c] h (fun r h' => r = .bool (decide (¬ b.left < c)) ∧ BS h' B (spentB b c) L) := by
  refine C.by mixed (cfn_ok Tryz.func222 ok222) rfl ?_
  refine Exists.elim S fun mid S => Exists.elim S fun vu S => ?_
  have K := S.blk 0 rfl
  have zu := S.vv 2 rfl
  have ck : ∀ d, (h.set B d)[B]? = some d := fun d => heap_set _ K
  simp (disch := omega) only [s222, go_sem, K, zu.1, zu.2.1, zu.2.2]
  refine condP_dec (fun h0 => ?_) (fun h0 => ?_)
  · simp (disch := omega) only [go_sem, K, zu.1, zu.2.1, zu.2.2]
    refine ⟨by simp [h0], mid, vu, ?_⟩
    rw [spentB, if_pos h0]; exact S
  · simp (disch := omega) only [go_sem, K, zu.1, zu.2.1, zu.2.2, storeH, storeB, splice]
    refine ⟨by simp [h0], mid, vu, ?_⟩
    rw [spentB, if_neg h0]
    exact S.setK _
theorem isSense_c (m : Micro) : CP Tryz.prog 223 [.agg (encMicro m)] (.bool (decide (m.at_ = -1) && decide (m.cost = 5))) [] := by
  refine CP.by rfl mixed (cfn_ok Tryz.func223 ok223) rfl ?_
  simp (disch := omega) only [s223, go_sem, encMicro]
  refine condP_dec (fun h => ?_) (fun h => ?_)
  · simp (disch := omega) only [go_sem, encMicro]
    simp [h]
  · simp (disch := omega) only [go_sem, encMicro]
    simp [h]
structure Wr where
  at_ : Int
  val : Int
def encW (w : Wr) : List V := [.int .i64 w.at_, .int .i64 w.val]
theorem flat_W (xs : List Wr) : flat (xs.map encW) = true := by simp [flat, encW, V.scalar]
theorem push_wr (xs : List Wr) (w : Wr) : (xs ++ [w]).map encW = xs.map encW ++ [encW w] := by simp
def recVars (m : List Int) : Nat → List Wr
  | 0 => []
  | n + 1 => ⟨gtI m (9 + 2 * n), gtI m (9 + 2 * n + 1)⟩ :: recVars m n
theorem recVars_len (m : List Int) : ∀ n, (recVars m n).length = n
  | 0 => rfl
  | n + 1 => by simp [recVars, recVars_len m n]
def recM (m : List Int) : List Wr := if (unpackM (gtI m 8)).2.1 < 1 then [] else recVars m (unpackM (gtI m 8)).2.1.toNat ++ [⟨8, packM (unpackM (gtI m 8)).1 0 (unpackM (gtI m 8)).2.2⟩]
theorem rec_f (ts : List Task) (m : List Int) (hok : memOkM ts m = true) : F Tryz.prog 221 [.lst 1 (m.map encI)] (.lst 2 ((recM m).map encW)) := by
  have f := memOk_facts hok
  have hm := f.2.1
  have hg8 : m[8]? = some (gtI m 8) := gtI_some (by omega)
  have ub := unpackM_bd (gtI m 8)
  have hlog := f.2.2.2.2.2
  have ht0 := f.2.2.2.1.1
  refine Exists.elim (show ∃ a b c, unpackM (gtI m 8) = (a, b, c) from ⟨_, _, _, rfl⟩) fun a q => Exists.elim q fun b q => Exists.elim q fun c hu => ?_
  have hrm : recM m = if b < 1 then [] else recVars m b.toNat ++ [⟨8, packM a 0 c⟩] := by unfold recM; rw [hu]
  rw [hu] at ub hlog ht0
  simp only at ub hlog ht0
  refine C.by mixed (cfn_ok Tryz.func221 ok221) rfl ?_
  simp (disch := omega) only [s221, go_sem, hm, hg8, List.getElem?_map, encI, gtI_get]
  refine CP.go (unpack_c _) rfl rfl ?_
  simp (disch := omega) only [go_sem, encU, hu]
  refine condP_dec (fun hb => ?_) (fun hb => ?_)
  · simp (disch := omega) only [go_sem, encU, hu]
    rw [hrm, if_pos hb]
    exact ((Sep.nil []).nils (sz := 2)).ret
  simp (disch := omega) only [go_sem, encU, hu]
  have S0 : Sep ([[]] : Heap) [.k 0 (([] : List Wr).map encW)] := (Sep.nil []).newK []
  refine loopP_intro (fun n s => ∃ (k : Nat) (ws : List Wr), (k : Int) ≤ b ∧ n = k ∧ ws ++ recVars m k = recVars m b.toNat ∧ s.e 0 = .lst 1 (m.map encI) ∧ s.e 3 = .int .i64 a ∧ s.e 5 = .int .i64 c ∧ s.e 6 = .own 0 2 0 ws.length ws.length ∧ s.e 7 = .int .i64 ((k : Int) - 1) ∧ Sep s.h [.k 0 (ws.map encW)]) b.toNat ⟨b.toNat, [], by omega, rfl, rfl, by simp (disch := omega) only [go_sem, encU, hu], by simp (disch := omega) only [go_sem, encU, hu], by simp (disch := omega) only [go_sem, encU, hu], by simp (disch := omega) only [go_sem, encU, hu] <;> rfl, by simp (disch := omega) only [go_sem, encU, hu] <;> exact congrArg (V.int .i64) (by omega), S0⟩ ?_
  intro n e hp P
  refine Exists.elim P fun k P => Exists.elim P fun ws P => ?_
  have hk := P.1
  have hn := P.2.1
  have hws := P.2.2.1
  have e0 := P.2.2.2.1
  have e3 := P.2.2.2.2.1
  have e5 := P.2.2.2.2.2.1
  have e6 := P.2.2.2.2.2.2.1
  have e7 := P.2.2.2.2.2.2.2.1
  have S1 := P.2.2.2.2.2.2.2.2
  clear P
  subst hn
  simp only at e0 e3 e5 e6 e7 S1
  have hwl : ws.length + n = b.toNat := by
    have := congrArg List.length hws
    simpa [recVars_len] using this
  simp (disch := omega) only [go_sem, e0, e3, e5, e6, e7]
  refine condP_dec (fun hlt => ?_) (fun hlt => ?_)
  · refine Exists.elim (show ∃ j : Nat, n = j + 1 from ⟨n - 1, by omega⟩) fun j hj => ?_
    subst hj
    have lo := hlog j (by omega)
    simp only [logOk, Bool.and_eq_true] at lo
    have i1 : (9 + 2 * (((j + 1 : Nat) : Int) - 1)).toNat = 9 + 2 * j := by omega
    have i2 : (9 + 2 * (((j + 1 : Nat) : Int) - 1) + 1).toNat = 9 + 2 * j + 1 := by omega
    have g1 := gtI_some (zs := m) (i := 9 + 2 * j) (by omega)
    have g2 := gtI_some (zs := m) (i := 9 + 2 * j + 1) (by omega)
    simp (disch := omega) only [go_sem, e0, e3, e5, e6, e7, encI, i1, i2, g1, g2, List.getElem?_map, gtI_get]
    refine CP.go (isVar_c _) rfl rfl ?_
    have hap := append1 (sz := 2) (bytes := 16) (n := ws.length) (c := encW ⟨gtI m (9 + 2 * j), gtI m (9 + 2 * j + 1)⟩) (S1.blk 0 rfl) (by simp) (by omega)
    have S2 := S1.push1 (encW ⟨gtI m (9 + 2 * j), gtI m (9 + 2 * j + 1)⟩)
    rw [← push_wr] at hap S2
    simp only [encW] at hap
    simp (disch := omega) only [go_sem, e0, e3, e5, e6, e7, encI, i1, i2, g1, g2, List.getElem?_map, gtI_get, lo.1, hap, splice]
    refine nextP_intro j (by omega) ⟨j, ws ++ [(⟨gtI m (9 + 2 * j), gtI m (9 + 2 * j + 1)⟩ : Wr)], by omega, rfl, ?_, by simp (disch := omega) only [go_sem, e0, e3, e5, e6, e7, encI, i1, i2, g1, g2, List.getElem?_map, gtI_get, lo.1, hap, splice], by simp (disch := omega) only [go_sem, e0, e3, e5, e6, e7, encI, i1, i2, g1, g2, List.getElem?_map, gtI_get, lo.1, hap, splice], by simp (disch := omega) only [go_sem, e0, e3, e5, e6, e7, encI, i1, i2, g1, g2, List.getElem?_map, gtI_get, lo.1, hap, splice], by simp (disch := omega) only [go_sem, e0, e3, e5, e6, e7, encI, i1, i2, g1, g2, List.getElem?_map, gtI_get, lo.1, hap, splice] <;> simp, by simp (disch := omega) only [go_sem, e0, e3, e5, e6, e7, encI, i1, i2, g1, g2, List.getElem?_map, gtI_get, lo.1, hap, splice] <;> exact congrArg (V.int .i64) (by omega), S2⟩
    rw [← hws]; simp [recVars]
  have hn0 : n = 0 := by omega
  subst hn0
  simp (disch := omega) only [go_sem, e0, e3, e5, e6, e7]
  refine CP.go (pack_c _ _ _) rfl rfl ?_
  have hap := append1 (sz := 2) (bytes := 16) (n := ws.length) (c := encW ⟨8, packM a 0 c⟩) (S1.blk 0 rfl) (by simp) (by omega)
  have S2 := S1.push1 (encW ⟨8, packM a 0 c⟩)
  rw [← push_wr] at hap S2
  simp only [encW] at hap
  simp (disch := omega) only [go_sem, e0, e3, e5, e6, e7, hap, splice]
  rw [hrm, if_neg hb, ← hws]
  have hl2 : ((ws ++ [⟨8, packM a 0 c⟩] : List Wr).map encW).length = ws.length + 1 := by simp
  have S3 := S2.ofFlat (sz := 2) hl2 (flat_W _)
  simpa [recVars, encW] using S3.ret
theorem Sep.ownF {h : Heap} {L : List It} (S : Sep h L) (n : Nat) {sz : Nat} {ys : Blk} {r : V} (hf : flat ys = true) (e : L[n]? = some (.v (.lst sz ys) r)) {k : Nat} (hk : k < ys.length) : ∃ q, r = .own q sz 0 ys.length ys.length ∧ h[q]? = some ys := by
  obtain ⟨i, _, o⟩ := S.nth n e
  rcases (Owns.flat_ hf).1 o with ⟨_, e, _⟩ | ⟨q, e1, e2, _⟩
  · rw [e] at hk; simp at hk
  · exact ⟨q, e1, e2⟩
def recoverM : List Wr → BT → Bool × BT
  | [], b => (true, b)
  | w :: ws, b => if b.left < 3 then (false, b) else recoverM ws { b with left := b.left - 3, mem := b.mem.set w.at_.toNat w.val }
theorem recVars_bd {m : List Int} {c : Nat} (h : ∀ j, j < c → logOk m j = true) : ∀ n, n ≤ c → ∀ w ∈ recVars m n, (0 ≤ w.at_ ∧ w.at_ ≤ 7) ∧ isValue w.val = true
  | 0, _, w, hw => absurd hw List.not_mem_nil
  | n + 1, hn, w, hw => by
    rcases List.mem_cons.1 hw with rfl | hw
    · have := h n (by omega)
      simp only [logOk, isVar, within, Bool.and_eq_true, decide_eq_true_eq] at this
      exact ⟨this.1, this.2⟩
    · exact recVars_bd h n (by omega) w hw
theorem recM_bd {ts : List Task} {m : List Int} (hok : memOkM ts m = true) : (recM m).length ≤ 9 ∧ ∀ w ∈ recM m, 0 ≤ w.at_ ∧ w.at_ ≤ 8 := by
  have f := memOk_facts hok
  have ub := unpackM_bd (gtI m 8)
  unfold recM
  split
  · simp
  · refine ⟨by simp [recVars_len]; omega, fun w hw => ?_⟩
    rcases List.mem_append.1 hw with q | q
    · have := (recVars_bd f.2.2.2.2.2 _ (Nat.le_refl _) w q).1
      omega
    · rw [List.mem_singleton.1 q]; simp
theorem recover_c {h : Heap} {B : Nat} {b : BT} {L : List It} (ts : List Task) (hok : memOkM ts b.mem = true) (hl : 0 ≤ b.left ∧ b.left ≤ 1000000) (S : BS h B b L) : C Tryz.prog 180 [.ptr B 1 0 0] h (fun r h' => r = .bool (recoverM (recM b.mem) b).1 ∧ BS h' B (recoverM (recM b.mem) b).2 L) := by
  have hm := (memOk_facts hok).2.1
  have rb := recM_bd hok
  refine C.by mixed (cfn_ok Tryz.func180 ok180) rfl ?_
  refine Exists.elim S fun mid S => Exists.elim S fun vu S => ?_
  have K := S.blk 0 rfl
  simp (disch := omega) only [s180, go_sem, K]
  refine S.goLst (rec_f ts b.mem hok) (.cons (Snap.flatN (S.blk 1 rfl) (by simpa using hm) (flat_encI _)) (.nil _)) fun r h1 x1 S1 ro rn rc => ?_
  have lenr := fun G => (S1.lst 0 rfl).elim fun i o => o.len_ G
  simp only [List.length_map] at lenr
  have B1 : BS h1 B b (.v (.lst 2 ((recM b.mem).map encW)) r :: L) := ⟨mid, vu, S1.pk (A := [_, _, _, _]) [1, 2, 3, 0] rfl⟩
  simp (disch := omega) only [go_sem, ro, rn, rc, lenr]
  refine loopP_intro (fun n s => ∃ (k : Nat) (b1 : BT), k ≤ (recM b.mem).length ∧ n = (recM b.mem).length - k ∧ recoverM ((recM b.mem).drop k) b1 = recoverM (recM b.mem) b ∧ b1.mem.length = 49 ∧ (0 ≤ b1.left ∧ b1.left ≤ 1000000) ∧ s.e 0 = .ptr B 1 0 0 ∧ s.e 9 = r ∧ s.e 10 = .int .i64 (recM b.mem).length ∧ s.e 11 = .int .i64 k ∧ BS s.h B b1 (.v (.lst 2 ((recM b.mem).map encW)) r :: L)) (recM b.mem).length ⟨0, b, by omega, by omega, rfl, hm, hl, by simp (disch := omega) only [go_sem, ro, rn, rc, lenr], by simp (disch := omega) only [go_sem, ro, rn, rc, lenr], by simp (disch := omega) only [go_sem, ro, rn, rc, lenr], by simp (disch := omega) only [go_sem, ro, rn, rc, lenr] <;> rfl, B1⟩ ?_
  intro n e hp P
  refine Exists.elim P fun k P => Exists.elim P fun b1 P => ?_
  have hk := P.1
  have hn := P.2.1
  have hrec := P.2.2.1
  have hm1 := P.2.2.2.1
  have hl1 := P.2.2.2.2.1
  have e0 := P.2.2.2.2.2.1
  have e9 := P.2.2.2.2.2.2.1
  have e10 := P.2.2.2.2.2.2.2.1
  have e11 := P.2.2.2.2.2.2.2.2.1
  have S2 := P.2.2.2.2.2.2.2.2.2
  clear P
  subst hn
  simp only at e0 e9 e10 e11 S2
  simp (disch := omega) only [go_sem, e0, e9, e10, e11]
  refine condP_dec (fun hlt => ?_) (fun hlt => ?_)
  case' refine_2 =>
    have hke : k = (recM b.mem).length := by omega
    rw [hke, List.drop_length] at hrec
    simp (disch := omega) only [go_sem, e0, e9, e10, e11]
    rw [← hrec]
    exact ⟨rfl, S2.drop⟩
  have hlt' : k < (recM b.mem).length := by omega
  refine Exists.elim (show ∃ w, (recM b.mem)[k]? = some w from ⟨_, List.getElem?_eq_getElem hlt'⟩) fun w hw => ?_
  have hwb := rb.2 w (List.mem_of_getElem? hw)
  have hdk : (recM b.mem).drop k = w :: (recM b.mem).drop (k + 1) := by
    rw [List.drop_eq_getElem_cons hlt']
    have : (recM b.mem)[k] = w := by rw [List.getElem?_eq_getElem hlt'] at hw; exact Option.some.inj hw
    rw [this]
  rw [hdk] at hrec
  refine Exists.elim S2 fun mid2 q => Exists.elim q fun vu2 S3 => ?_
  refine Exists.elim (S3.ownF 3 (flat_W _) rfl (k := k) (by simpa using hlt')) fun wid q => ?_
  have hr := q.1
  have hwk := q.2
  clear q
  rw [List.length_map] at hr
  have S4 := S2.new [encW w]
  have B4 := Exists.elim S4 fun _ q => Exists.elim q fun _ S => S.blk 3 rfl
  simp only [encW] at B4 S4
  simp (disch := omega) only [go_sem, e0, e9, e10, e11, hr, hwk, hw, List.getElem?_map, encW, B4]
  refine C.go (spend_c 3 (by omega) hl1 S4) ?_
  rintro r5 h5 ⟨rfl, S5⟩
  simp (disch := omega) only [go_sem, e0, e9, e10, e11, hr]
  have hun : recoverM (w :: (recM b.mem).drop (k + 1)) b1 = if b1.left < 3 then (false, b1) else recoverM ((recM b.mem).drop (k + 1)) { b1 with left := b1.left - 3, mem := b1.mem.set w.at_.toNat w.val } := rfl
  rw [hun] at hrec
  clear hun
  refine condP_dec (fun h3 => ?_) (fun h3 => ?_)
  · rw [if_neg h3] at hrec
    rw [spentB, if_neg h3] at S5
    refine Exists.elim S5 fun mid5 q => Exists.elim q fun vu5 S6 => ?_
    have K6 := S6.blk 0 rfl
    have W6 := S6.blk 3 rfl
    have z6 := S6.vv 2 rfl
    have st := store_i (z := w.val) (i := w.at_.toNat) (S6.blk 1 rfl) hm1 (by omega)
    have S7 := ((S6.pull 1).setK ((b1.mem.set w.at_.toNat w.val).map encI)).pk (A := [_, _, _, _]) [1, 0, 2] rfl
    simp (disch := omega) only [go_sem, e0, e9, e10, e11, K6, W6, z6.1, z6.2.1, z6.2.2, Nat.zero_add, st]
    exact nextP_intro ((recM b.mem).length - (k + 1)) (by omega) ⟨k + 1, { b1 with left := b1.left - 3, mem := b1.mem.set w.at_.toNat w.val }, by omega, rfl, hrec, by simpa using hm1, ⟨by show 0 ≤ b1.left - 3; omega, by show b1.left - 3 ≤ _; omega⟩, by simp (disch := omega) only [go_sem, e0, e9, e10, e11, K6, W6, z6.1, z6.2.1, z6.2.2, Nat.zero_add, st], by simp (disch := omega) only [go_sem, e0, e9, e10, e11, K6, W6, z6.1, z6.2.1, z6.2.2, Nat.zero_add, st] <;> exact hr.symm, by simp (disch := omega) only [go_sem, e0, e9, e10, e11, K6, W6, z6.1, z6.2.1, z6.2.2, Nat.zero_add, st], by simp (disch := omega) only [go_sem, e0, e9, e10, e11, K6, W6, z6.1, z6.2.1, z6.2.2, Nat.zero_add, st] <;> rfl, ⟨mid5, vu5, S7⟩⟩
  · have h3' : b1.left < 3 := by omega
    rw [if_pos h3'] at hrec
    rw [spentB, if_pos h3'] at S5
    simp (disch := omega) only [go_sem, e0, e9, e10, e11, hr]
    rw [← hrec]
    exact ⟨rfl, S5.drop.drop⟩
def stepB (m : Micro) (b : BT) : BT := { b with left := b.left - m.cost, at_ := if m.at_ = -1 ∧ m.cost = 5 then b.at_ + 1 else b.at_, mem := if m.at_ = -1 then b.mem else b.mem.set m.at_.toNat m.val }
def taskM : List Micro → BT → Bool × BT
  | [], b => (true, b)
  | m :: ms, b => if b.left < m.cost then (false, b) else taskM ms (stepB m b)
def StepIn (m : Micro) : Prop := (1 ≤ m.cost ∧ m.cost ≤ 5) ∧ (m.at_ = -1 ∨ (0 ≤ m.at_ ∧ m.at_ ≤ 48))
theorem push_L (xs : List (List Int)) (x : List Int) : (xs ++ [x]).map encL = xs.map encL ++ [encL x] := by simp
theorem Sep.asRow {h : Heap} {sz : Nat} {ys : Blk} {v : V} {L : List It} (S : Sep h (.v (.lst sz ys) v :: L)) : Sep h (.l [.lst sz ys] [v] :: L) := Sep.cons2 (fun es e => by cases e) ((Sep.l0 S).sw)
theorem task_c {h : Heap} {B : Nat} {b : BT} {L : List It} (ts : List Task) (rd : List Int) (task c tail : Int) (hp : programOk ts = true) (hm : MemT ts.length b.mem task c tail) (hr : rd.length ≤ 9223372036854775807) (ha : 0 ≤ b.at_ ∧ b.at_ + b.left ≤ 1000000) (hl : 0 ≤ b.left ∧ b.left ≤ 1000000) (hu : b.used.length ≤ 1000000) (hst : ∀ x ∈ traceS ts b.mem rd b.at_ task tail, StepIn x) (hsl : (traceS ts b.mem rd b.at_ task tail).length ≤ 9223372036854775807) (S : BS h B b L) :
    C Tryz.prog 181 [.ptr B 1 0 0, .agg [.lst 4 (ts.map encTask)], .lst 1 (rd.map encI)] h (fun r h' => r = .bool (taskM (traceS ts b.mem rd b.at_ task tail) b).1 ∧ BS h' B (if (taskM (traceS ts b.mem rd b.at_ task tail) b).1 = true then { (taskM (traceS ts b.mem rd b.at_ task tail) b).2 with used := b.used ++ [traceU ts b.mem rd b.at_ task tail] } else (taskM (traceS ts b.mem rd b.at_ task tail) b).2) L) := by
  have hm49 := hm.len
  refine C.by mixed (cfn_ok Tryz.func181 ok181) rfl ?_
  have S0 := S.new [[V.lst 4 (ts.map encTask)]]
  refine Exists.elim S0 fun mid q => Exists.elim q fun vu S1 => ?_
  have K1 := S1.blk 0 rfl
  have P1 := S1.blk 3 rfl
  have z1 := S1.vv 2 rfl
  simp (disch := omega) only [s181, go_sem, K1, P1, z1.1, z1.2.1, z1.2.2, refs_task]
  refine S1.go (traceOf_f ts b.mem rd b.at_ task c tail hp hm hr (by omega)) (.cons (.same _ (refs_prog 0 ts)) (.cons (Snap.flatN (S1.blk 1 rfl) (by simpa using hm49) (flat_encI _)) (.cons (.same _ (by simp [V.refs, refsLL_map encI (fun _ => rfl) rd])) (.cons (.int _ _) (.nil _))))) fun r2 h2 x2 S2 => ?_
  refine Exists.elim S2.open2 fun va q => Exists.elim q fun vb q => ?_
  have hr2 := q.1
  have S3 := q.2
  clear q S2
  subst hr2
  have za := S3.vv 0 rfl
  have zb := S3.vv 1 rfl
  have K3 := S3.blk 2 rfl
  have P3 := S3.blk 5 rfl
  have z3 := S3.vv 4 rfl
  simp (disch := omega) only [go_sem, K1, P1, z1.1, z1.2.1, z1.2.2, refs_task, za.1, za.2.1, za.2.2, zb.1, zb.2.1, zb.2.2, K3, P3, z3.1, z3.2.1, z3.2.2]
  have lena := fun G => (S3.lst 0 rfl).elim fun i o => o.len_ G
  simp only [List.length_map] at lena
  refine Exists.elim (show ∃ ss, ss = traceS ts b.mem rd b.at_ task tail from ⟨_, rfl⟩) fun ss hss => ?_
  refine Exists.elim (show ∃ us, us = traceU ts b.mem rd b.at_ task tail from ⟨_, rfl⟩) fun us hus => ?_
  rw [← hss] at S3 hst hsl
  rw [← hus] at S3
  have S4 := S3.newK [[va, vb]]
  have B4 : BS _ B b (.v (.lst 3 (ss.map encMicro)) va :: .v (.lst 1 (us.map encI)) vb :: .k h2.length [[va, vb]] :: .k h.length [[.lst 4 (ts.map encTask)]] :: L) := ⟨mid, vu, S4.pk (A := [_, _, _, _, _, _, _]) [3, 4, 5, 1, 2, 0, 6] rfl⟩
  rw [← hss] at lena
  simp (disch := omega) only [go_sem, lena]
  refine loopP_intro (fun n s => ∃ (k : Nat) (b1 : BT), k ≤ ss.length ∧ n = ss.length - k ∧ taskM (ss.drop k) b1 = taskM ss b ∧ b1.mem.length = 49 ∧ (0 ≤ b1.left ∧ b1.left ≤ 1000000) ∧ (0 ≤ b1.at_ ∧ b1.at_ + b1.left ≤ 1000000) ∧ b1.used = b.used ∧ s.e 0 = .ptr B 1 0 0 ∧ s.e 7 = .ptr h2.length 1 0 0 ∧ s.e 22 = va ∧ s.e 23 = .int .i64 ss.length ∧ s.e 24 = .int .i64 k ∧ BS s.h B b1 (.v (.lst 3 (ss.map encMicro)) va :: .v (.lst 1 (us.map encI)) vb :: .k h2.length [[va, vb]] :: .k h.length [[.lst 4 (ts.map encTask)]] :: L)) ss.length ⟨0, b, by omega, by omega, rfl, hm49, hl, ha, rfl, by simp (disch := omega) only [go_sem, lena], by simp (disch := omega) only [go_sem, lena], by simp (disch := omega) only [go_sem, lena], by simp (disch := omega) only [go_sem, lena], by simp (disch := omega) only [go_sem, lena] <;> rfl, B4⟩ ?_
  intro n e hp' P
  refine Exists.elim P fun k P => Exists.elim P fun b1 P => ?_
  have hk := P.1
  have hn := P.2.1
  have hrec := P.2.2.1
  have hm1 := P.2.2.2.1
  have hl1 := P.2.2.2.2.1
  have ha1 := P.2.2.2.2.2.1
  have hu1 := P.2.2.2.2.2.2.1
  have e0 := P.2.2.2.2.2.2.2.1
  have e7 := P.2.2.2.2.2.2.2.2.1
  have e22 := P.2.2.2.2.2.2.2.2.2.1
  have e23 := P.2.2.2.2.2.2.2.2.2.2.1
  have e24 := P.2.2.2.2.2.2.2.2.2.2.2.1
  have S5 := P.2.2.2.2.2.2.2.2.2.2.2.2
  clear P
  subst hn
  simp only at e0 e7 e22 e23 e24 S5
  simp (disch := omega) only [go_sem, e0, e7, e22, e23, e24]
  refine condP_dec (fun hlt => ?_) (fun hlt => ?_)
  case' refine_2 =>
    have hke : k = ss.length := by omega
    rw [hke, List.drop_length] at hrec
    have hr1 : (taskM ss b).1 = true := by rw [← hrec]; rfl
    have hr2 : (taskM ss b).2 = b1 := by rw [← hrec]; rfl
    refine Exists.elim S5 fun mid5 q => Exists.elim q fun vu5 S6 => ?_
    have K6 := S6.blk 0 rfl
    have T6 := S6.blk 5 rfl
    have z6 := S6.vv 2 rfl
    rw [hu1] at S6
    have S7 := (((S6.newK [[vb]]).pk (A := [_, _, _, _, _, _, _, _]) [5, 3, 1, 2, 4, 6, 7, 0] rfl)).asRow
    have N7 := S7.blk 7 rfl
    have S8 := S7.pk (A := [_, _, _, _, _, _, _, _]) [1, 0, 2, 3, 4, 5, 6] rfl
    have hpu := Sep.push (bytes := 24) (L := .k B [[.own mid5 1 0 49 49, .int .i64 b1.at_, vu5, .int .i64 b1.left]] :: .k mid5 (b1.mem.map encI) :: .v (.lst 3 (ss.map encMicro)) va :: .k h2.length [[va, vb]] :: .k h.length [[.lst 4 (ts.map encTask)]] :: L) S8 N7 (by simp; omega)
    refine Exists.elim hpu fun v' q => Exists.elim q fun h9 q => ?_
    have hap := q.1
    have S9 := q.2
    clear q hpu
    rw [show [[V.lst 1 (us.map encI)]] = [encL us] from rfl, ← push_L] at S9
    have K9 := S9.blk 1 rfl
    have z9 := S9.vv 0 rfl
    have zb6 := S6.vv 4 rfl
    have K6' := fun t => heap_app (h' := t) K6
    have T6' := fun t => heap_app (h' := t) T6
    simp (disch := omega) only [go_sem, e0, e7, e22, e23, e24, K6, T6, K6', T6', z6.1, z6.2.1, z6.2.2, zb6.1, zb6.2.1, zb6.2.2, hap, K9, z9.1, z9.2.1, z9.2.2, storeH, storeB, splice]
    rw [← hss, ← hus, hr1, hr2, if_pos rfl]
    exact ⟨rfl, mid5, v', ((S9.pull 1).setK _).pk (A := [_, _, _, _, _, _]) [0, 2, 1] rfl⟩
  have hlt' : k < ss.length := by omega
  refine Exists.elim (show ∃ m, ss[k]? = some m from ⟨_, List.getElem?_eq_getElem hlt'⟩) fun m hmk => ?_
  have hmb := hst m (List.mem_of_getElem? hmk)
  unfold StepIn at hmb
  have hdk : ss.drop k = m :: ss.drop (k + 1) := by
    rw [List.drop_eq_getElem_cons hlt']
    have : ss[k] = m := by rw [List.getElem?_eq_getElem hlt'] at hmk; exact Option.some.inj hmk
    rw [this]
  rw [hdk] at hrec
  have hun : taskM (m :: ss.drop (k + 1)) b1 = if b1.left < m.cost then (false, b1) else taskM (ss.drop (k + 1)) (stepB m b1) := rfl
  rw [hun] at hrec
  clear hun
  refine Exists.elim S5 fun mid2 q => Exists.elim q fun vu2 S6 => ?_
  refine Exists.elim (S6.ownF 3 (flat_Micro _) rfl (k := k) (by simpa using hlt')) fun wid q => ?_
  have hr := q.1
  have hwk := q.2
  clear q
  rw [List.length_map] at hr
  have S7 := S5.new [encMicro m]
  have B7 := Exists.elim S7 fun _ q => Exists.elim q fun _ S => S.blk 3 rfl
  simp only [encMicro] at B7 S7
  simp (disch := omega) only [go_sem, e0, e7, e22, e23, e24, hr, hwk, hmk, List.getElem?_map, encMicro, B7]
  refine C.go (spend_c m.cost (by omega) hl1 S7) ?_
  rintro r8 h8 ⟨rfl, S8⟩
  simp (disch := omega) only [go_sem, e0, e7, e22, e23, e24, hr]
  refine condP_dec (fun h3 => ?_) (fun h3 => ?_)
  case' refine_2 =>
    have h3' : b1.left < m.cost := by omega
    rw [if_pos h3'] at hrec
    rw [spentB, if_pos h3'] at S8
    have hr1 : (taskM ss b).1 = false := by rw [← hrec]
    have hr2 : (taskM ss b).2 = b1 := by rw [← hrec]
    simp (disch := omega) only [go_sem, e0, e7, e22, e23, e24, hr]
    rw [← hss, ← hus, hr1, hr2, if_neg (by simp)]
    exact ⟨rfl, S8.drop.drop.drop.drop.drop⟩
  rw [if_neg h3] at hrec
  rw [spentB, if_neg h3] at S8
  refine Exists.elim S8 fun mid8 q => Exists.elim q fun vu8 S9 => ?_
  have K9 := S9.blk 0 rfl
  have W9 := S9.blk 3 rfl
  have z9 := S9.vv 2 rfl
  simp (disch := omega) only [go_sem, e0, e7, e22, e23, e24, hr, W9]
  refine CP.go (isSense_c m) rfl rfl ?_
  have fin : ∀ (e' : Nat → V) (hh : Heap), e' 0 = .ptr B 1 0 0 → e' 7 = .ptr h2.length 1 0 0 → e' 22 = va → e' 23 = .int .i64 ss.length → e' 24 = .int .i64 ((k : Int) + 1) → BS hh B (stepB m b1) (.k hp'.length [[.int .i64 m.cost, .int .i64 m.at_, .int .i64 m.val]] :: .v (.lst 3 (ss.map encMicro)) va :: .v (.lst 1 (us.map encI)) vb :: .k h2.length [[va, vb]] :: .k h.length [[.lst 4 (ts.map encTask)]] :: L) → @nextP (ss.length - k) ⟨e', hh⟩ ⟨fun n s => ∃ (k : Nat) (b1 : BT), k ≤ ss.length ∧ n = ss.length - k ∧ taskM (ss.drop k) b1 = taskM ss b ∧ b1.mem.length = 49 ∧ (0 ≤ b1.left ∧ b1.left ≤ 1000000) ∧ (0 ≤ b1.at_ ∧ b1.at_ + b1.left ≤ 1000000) ∧ b1.used = b.used ∧ s.e 0 = .ptr B 1 0 0 ∧ s.e 7 = .ptr h2.length 1 0 0 ∧ s.e 22 = va ∧ s.e 23 = .int .i64 ss.length ∧ s.e 24 = .int .i64 k ∧ BS s.h B b1 (.v (.lst 3 (ss.map encMicro)) va :: .v (.lst 1 (us.map encI)) vb :: .k h2.length [[va, vb]] :: .k h.length [[.lst 4 (ts.map encTask)]] :: L)⟩ := fun e' hh a1 a2 a3 a4 a5 a6 => by
    refine nextP_intro (ss.length - (k + 1)) (by omega) ⟨k + 1, stepB m b1, by omega, rfl, hrec, ?_, ⟨by show 0 ≤ b1.left - m.cost; omega, by show b1.left - m.cost ≤ _; omega⟩, ?_, hu1, a1, a2, a3, a4, a5, a6.drop⟩
    · show (if m.at_ = -1 then b1.mem else b1.mem.set m.at_.toNat m.val).length = 49
      split
      · exact hm1
      · simpa using hm1
    · show 0 ≤ (if m.at_ = -1 ∧ m.cost = 5 then b1.at_ + 1 else b1.at_) ∧ (if m.at_ = -1 ∧ m.cost = 5 then b1.at_ + 1 else b1.at_) + (b1.left - m.cost) ≤ 1000000
      split <;> omega
  simp (disch := omega) only [go_sem, e0, e7, e22, e23, e24, hr, W9]
  refine condP_split (fun hs => ?_) (fun hs => ?_)
  · simp only [Bool.and_eq_true, decide_eq_true_eq] at hs
    have hb : stepB m b1 = { b1 with left := b1.left - m.cost, at_ := b1.at_ + 1 } := by
      unfold stepB; rw [if_pos hs, if_pos hs.1]
    have S10 := S9.setK [[.own mid8 1 0 49 49, .int .i64 (b1.at_ + 1), vu8, .int .i64 (b1.left - m.cost)]]
    have W10 := S10.blk 3 rfl
    have hat := hs.1
    simp (disch := omega) only [go_sem, e0, e7, e22, e23, e24, hr, W9, K9, z9.1, z9.2.1, z9.2.2, storeH, storeB, splice, W10, hat]
    exact fin _ _ (by simp (disch := omega) only [go_sem, e0, e7, e22, e23, e24, hr, W9, K9, z9.1, z9.2.1, z9.2.2, storeH, storeB, splice, W10, hat]) (by simp (disch := omega) only [go_sem, e0, e7, e22, e23, e24, hr, W9, K9, z9.1, z9.2.1, z9.2.2, storeH, storeB, splice, W10, hat]) (by simp (disch := omega) only [go_sem, e0, e7, e22, e23, e24, hr, W9, K9, z9.1, z9.2.1, z9.2.2, storeH, storeB, splice, W10, hat] <;> exact hr.symm) (by simp (disch := omega) only [go_sem, e0, e7, e22, e23, e24, hr, W9, K9, z9.1, z9.2.1, z9.2.2, storeH, storeB, splice, W10, hat]) (by simp (disch := omega) only [go_sem, e0, e7, e22, e23, e24, hr, W9, K9, z9.1, z9.2.1, z9.2.2, storeH, storeB, splice, W10, hat] <;> rfl) (by rw [hb]; exact ⟨mid8, vu8, S10⟩)
  · have hs' : ¬ (m.at_ = -1 ∧ m.cost = 5) := fun q => by simp [q.1, q.2] at hs
    simp (disch := omega) only [go_sem, e0, e7, e22, e23, e24, hr, W9, K9]
    refine condP_dec (fun hat => ?_) (fun hat => ?_)
    · have hb : stepB m b1 = { b1 with left := b1.left - m.cost } := by
        unfold stepB; rw [if_neg hs', if_pos hat]
      simp (disch := omega) only [go_sem, e0, e7, e22, e23, e24, hr]
      exact fin _ _ (by simp (disch := omega) only [go_sem, e0, e7, e22, e23, e24, hr]) (by simp (disch := omega) only [go_sem, e0, e7, e22, e23, e24, hr]) (by simp (disch := omega) only [go_sem, e0, e7, e22, e23, e24, hr] <;> exact hr.symm) (by simp (disch := omega) only [go_sem, e0, e7, e22, e23, e24, hr]) (by simp (disch := omega) only [go_sem, e0, e7, e22, e23, e24, hr] <;> rfl) (by rw [hb]; exact ⟨mid8, vu8, S9⟩)
    · have hb : stepB m b1 = { b1 with left := b1.left - m.cost, mem := b1.mem.set m.at_.toNat m.val } := by
        unfold stepB; rw [if_neg hs', if_neg hat]
      have st := store_i (z := m.val) (i := m.at_.toNat) (S9.blk 1 rfl) hm1 (by omega)
      simp (disch := omega) only [go_sem, e0, e7, e22, e23, e24, hr, W9, K9, z9.1, z9.2.1, z9.2.2, Nat.zero_add, st]
      exact fin _ _ (by simp (disch := omega) only [go_sem, e0, e7, e22, e23, e24, hr, W9, K9, z9.1, z9.2.1, z9.2.2, Nat.zero_add, st]) (by simp (disch := omega) only [go_sem, e0, e7, e22, e23, e24, hr, W9, K9, z9.1, z9.2.1, z9.2.2, Nat.zero_add, st]) (by simp (disch := omega) only [go_sem, e0, e7, e22, e23, e24, hr, W9, K9, z9.1, z9.2.1, z9.2.2, Nat.zero_add, st] <;> exact hr.symm) (by simp (disch := omega) only [go_sem, e0, e7, e22, e23, e24, hr, W9, K9, z9.1, z9.2.1, z9.2.2, Nat.zero_add, st]) (by simp (disch := omega) only [go_sem, e0, e7, e22, e23, e24, hr, W9, K9, z9.1, z9.2.1, z9.2.2, Nat.zero_add, st] <;> rfl) (by rw [hb]; exact ⟨mid8, vu8, ((S9.pull 1).setK ((b1.mem.set m.at_.toNat m.val).map encI)).pk (A := [_, _, _, _]) [1, 0, 2, 3] rfl⟩)
end Go.Av

namespace Go.Av
open Go.Proofs Go.RowKit
set_option linter.unusedVariables false
set_option linter.unusedSimpArgs false
set_option maxRecDepth 100000
set_option maxHeartbeats 4000000
theorem gtI_set {m : List Int} {i k : Nat} {v : Int} (hi : i < m.length) : gtI (m.set i v) k = if i = k then v else gtI m k := by
  unfold gtI
  by_cases h : i = k
  · rw [if_pos h, ← h, List.getElem?_set_self hi]; rfl
  · rw [if_neg h, List.getElem?_set_ne h]
structure MemV (n : Nat) (m : List Int) (t c l : Int) : Prop where
  len : m.length = 49
  vars : ∀ k, k < 8 → isValue (gtI m k) = true
  ctl : unpackM (gtI m 8) = (t, c, l)
  t0 : 0 ≤ t
  t1 : t < n
  c0 : 0 ≤ c
  c1 : c ≤ 8
  l0 : 0 ≤ l
  l1 : l ≤ 24
  log : ∀ j, j < c.toNat → logOk m j = true
  box : ∀ j, j < l.toNat → isValue (gtI m (25 + j)) = true
theorem vals_at {m : List Int} {a b : Nat} (h : ∀ j, a ≤ j → j < b → isValue (gtI m j) = true) (hb : b ≤ m.length) : vals ((m.take b).drop a) = true := vals_iff.2 fun z hz => by
  obtain ⟨j, hj, rfl⟩ := List.getElem_of_mem hz
  simp only [List.length_drop, List.length_take] at hj
  have := h (a + j) (by omega) (by omega)
  rw [← gtI_get (zs := m) (by omega)] at this
  simpa using this
theorem at_vals {m : List Int} {a b : Nat} (h : vals ((m.take b).drop a) = true) (hb : b ≤ m.length) {j : Nat} (h1 : a ≤ j) (h2 : j < b) : isValue (gtI m j) = true := by
  refine vals_iff.1 h _ ?_
  rw [← gtI_get (zs := m) (by omega)]
  have hlt : j - a < ((m.take b).drop a).length := by simp; omega
  have : ((m.take b).drop a)[j - a] = m[j] := by simp [show a + (j - a) = j by omega]
  rw [← this]; exact List.getElem_mem _
theorem MemV.ok {ts : List Task} {m : List Int} {t c l : Int} (hp : programOk ts = true) (h : MemV ts.length m t c l) : memOkM ts m = true := by
  have hl := h.len
  have l0 := h.l0
  have l1 := h.l1
  have v8 : vals (m.take 8) = true := by
    have := vals_at (m := m) (a := 0) (b := 8) (fun j _ hj => h.vars j hj) (by omega)
    simpa using this
  have vb : vals ((m.take (25 + l).toNat).drop 25) = true := vals_at (fun j h1 h2 => by
    have := h.box (j - 25) (by omega)
    rwa [show 25 + (j - 25) = j by omega] at this) (by omega)
  simp only [memOkM, h.ctl, hp, hl, v8, vb, h.t0, h.t1, log_all h.log, decide_true, Bool.and_self]
theorem memOk_V {ts : List Task} {m : List Int} (h : memOkM ts m = true) : MemV ts.length m (unpackM (gtI m 8)).1 (unpackM (gtI m 8)).2.1 (unpackM (gtI m 8)).2.2 := by
  have f := memOk_facts h
  have b := unpackM_bd (gtI m 8)
  have b0 := f.2.2.2.1.1
  refine ⟨f.2.1, fun k hk => ?_, rfl, f.2.2.2.1.1, f.2.2.2.1.2, by omega, by omega, by omega, by omega, f.2.2.2.2.2, fun j hj => ?_⟩
  · exact at_vals (a := 0) (b := 8) (by simpa using f.2.2.1) (by rw [f.2.1]; omega) (Nat.zero_le _) hk
  · exact at_vals f.2.2.2.2.1 (by rw [f.2.1]; omega) (by omega) (by omega)
theorem MemV.T {n : Nat} {m : List Int} {t c l : Int} (h : MemV n m t c l) : MemT n m t c l := by
  have hl := h.len
  refine ⟨h.len, fun z hz => ?_, h.t0, h.t1, h.l0, h.l1, h.ctl⟩
  obtain ⟨j, hj, rfl⟩ := List.getElem_of_mem hz
  simp only [List.length_take] at hj
  have := h.vars j (by omega)
  rw [← gtI_get (zs := m) (by omega)] at this
  simpa using this
section
variable {n : Nat} {m : List Int} {t c l : Int}
theorem MemV.put (h : MemV n m t c l) (i : Nat) (v : Int) (hi : i < 49) (h8 : i ≠ 8) (hv : i < 8 → isValue v = true) (hlog : 9 ≤ i → i < 25 → 9 + 2 * c ≤ i) (hbox : 25 ≤ i → 25 + l ≤ i) : MemV n (m.set i v) t c l := by
  have hl := h.len
  have hg : ∀ k, gtI (m.set i v) k = if i = k then v else gtI m k := fun k => gtI_set (by omega)
  refine ⟨by simpa using hl, fun k hk => ?_, by rw [hg, if_neg h8]; exact h.ctl, h.t0, h.t1, h.c0, h.c1, h.l0, h.l1, fun j hj => ?_, fun j hj => ?_⟩
  · rw [hg]
    split
    · exact hv (by omega)
    · exact h.vars k hk
  · have q := h.log j hj
    have c1 := h.c1
    unfold logOk at q ⊢
    rw [hg, hg, if_neg (by intro e; have := hlog (by omega) (by omega); omega), if_neg (by intro e; have := hlog (by omega) (by omega); omega)]
    exact q
  · rw [hg, if_neg (by intro e; have := hbox (by omega); omega)]
    exact h.box j hj
theorem MemV.ctlSet (h : MemV n m t c l) (t' c' l' : Int) (ht : 0 ≤ t' ∧ t' < n) (ht5 : t' ≤ 5) (hc : 0 ≤ c' ∧ c' ≤ 8) (hl' : 0 ≤ l' ∧ l' ≤ 24) (hlog : ∀ j, j < c'.toNat → logOk m j = true) (hbox : ∀ j, j < l'.toNat → isValue (gtI m (25 + j)) = true) : MemV n (m.set 8 (packM t' c' l')) t' c' l' := by
  have hl := h.len
  have hg : ∀ k, gtI (m.set 8 (packM t' c' l')) k = if 8 = k then packM t' c' l' else gtI m k := fun k => gtI_set (by omega)
  refine ⟨by simpa using hl, fun k hk => ?_, ?_, ht.1, ht.2, hc.1, hc.2, hl'.1, hl'.2, fun j hj => ?_, fun j hj => ?_⟩
  · rw [hg, if_neg (by omega)]; exact h.vars k hk
  · rw [hg, if_pos rfl]; exact unpack_pack ⟨ht.1, ht5⟩ hc hl'
  · have q := hlog j hj
    unfold logOk at q ⊢
    rw [hg, hg, if_neg (by omega), if_neg (by omega)]; exact q
  · rw [hg, if_neg (by omega)]; exact hbox j hj
end
theorem must_in {tk : Task} {k : Int} (h : k ∈ mustOf tk) : 0 ≤ k ∧ k ≤ 7 := by
  have h1 := (List.mem_filter.1 (show k ∈ (mayL (treeOf tk.body).flat).filter _ from h)).1
  have := (mem_canon.1 h1).1
  omega
theorem must_len (tk : Task) : (mustOf tk).length ≤ 8 := log_len _ _
theorem recover_V {n : Nat} {t c l : Int} (ht5 : t ≤ 5) : ∀ (ws : List Wr) (b : BT), MemV n b.mem t c l → (∀ w ∈ ws, (0 ≤ w.at_ ∧ w.at_ ≤ 7) ∧ isValue w.val = true) → 0 ≤ b.left →
    ((recoverM (ws ++ [⟨8, packM t 0 l⟩]) b).1 = true → MemV n (recoverM (ws ++ [⟨8, packM t 0 l⟩]) b).2.mem t 0 l ∧ (recoverM (ws ++ [⟨8, packM t 0 l⟩]) b).2.left = b.left - 3 * (ws.length + 1)) ∧
    ((recoverM (ws ++ [⟨8, packM t 0 l⟩]) b).1 = false → MemV n (recoverM (ws ++ [⟨8, packM t 0 l⟩]) b).2.mem t c l) ∧
    (recoverM (ws ++ [⟨8, packM t 0 l⟩]) b).2.used = b.used ∧ (recoverM (ws ++ [⟨8, packM t 0 l⟩]) b).2.at_ = b.at_ ∧ 0 ≤ (recoverM (ws ++ [⟨8, packM t 0 l⟩]) b).2.left ∧ (recoverM (ws ++ [⟨8, packM t 0 l⟩]) b).2.left ≤ b.left ∧
    (3 * ((ws.length : Int) + 1) ≤ b.left → (recoverM (ws ++ [⟨8, packM t 0 l⟩]) b).1 = true)
  | [], b, h, _, hl => by
    simp only [List.nil_append, recoverM]
    split
    · rename_i h3
      refine ⟨(fun q => by cases q), fun _ => h, rfl, rfl, hl, Int.le_refl _, (fun q => by simp at q; omega)⟩
    · rename_i h3
      refine ⟨fun _ => ⟨?_, by simp⟩, (fun q => by cases q), rfl, rfl, by show 0 ≤ b.left - 3; omega, by show b.left - 3 ≤ _; omega, fun _ => rfl⟩
      exact h.ctlSet t 0 l ⟨h.t0, h.t1⟩ ht5 (by omega) ⟨h.l0, h.l1⟩ (fun j hj => absurd hj (by simp)) h.box
  | w :: ws, b, h, hw, hl => by
    simp only [List.cons_append, recoverM]
    split
    · rename_i h3
      refine ⟨(fun q => by cases q), fun _ => h, rfl, rfl, hl, Int.le_refl _, (fun q => by simp at q; omega)⟩
    · rename_i h3
      have w0 := hw w (by simp)
      have h' : MemV n (b.mem.set w.at_.toNat w.val) t c l := h.put w.at_.toNat w.val (by omega) (by omega) (fun _ => w0.2) (fun q => by omega) (fun q => by omega)
      have ih := recover_V ht5 ws { b with left := b.left - 3, mem := b.mem.set w.at_.toNat w.val } h' (fun x hx => hw x (by simp [hx])) (by show 0 ≤ b.left - 3; omega)
      refine ⟨fun q => ⟨(ih.1 q).1, ?_⟩, ih.2.1, ih.2.2.1, ih.2.2.2.1, ih.2.2.2.2.1, ?_, fun q => ih.2.2.2.2.2.2 ?_⟩
      · rw [(ih.1 q).2]; simp only [List.length_cons]; push_cast; omega
      · have := ih.2.2.2.2.2.1
        simp only at this
        omega
      · simp only [List.length_cons] at q
        push_cast at q
        show _ ≤ b.left - 3
        omega
def applyS (ms : List Micro) (m : List Int) : List Int := ms.foldl (fun m x => if x.at_ = -1 then m else m.set x.at_.toNat x.val) m
theorem applyS_app (a b : List Micro) (m : List Int) : applyS (a ++ b) m = applyS b (applyS a m) := List.foldl_append ..
def Pre (m0 : List Int) (Q : List Int → Prop) (ms : List Micro) : Prop := ∀ k, Q (applyS (ms.take k) m0)
theorem Pre.add {m0 : List Int} {Q : List Int → Prop} {a b : List Micro} (h : Pre m0 Q a) (hb : ∀ k, Q (applyS (b.take k) (applyS a m0))) : Pre m0 Q (a ++ b) := fun k => by
  rcases Nat.lt_or_ge k a.length with q | q
  · rw [List.take_append_of_le_length (by omega)]; exact h k
  · have : (a ++ b).take k = a ++ b.take (k - a.length) := by
      rw [List.take_append, List.take_of_length_le q]
    rw [this, applyS_app]; exact hb _
theorem Pre.one {Q : List Int → Prop} {m : List Int} {x : Micro} (h0 : Q m) (h1 : Q (applyS [x] m)) : ∀ k, Q (applyS ([x].take k) m)
  | 0 => h0
  | k + 1 => by simpa using h1
structure JT (n : Nat) (must m0 : List Int) (task tail : Int) (σ : TS) : Prop where
  pre : Pre m0 (fun m => ∃ c : Int, c ≤ must.length ∧ MemV n m task c tail) σ.steps
  now : MemV n (applyS σ.steps m0) task σ.logged.length tail
  lg : LogIn must σ
  v8 : σ.vars.length = 8
  val : ∀ z ∈ σ.vars, isValue z = true
  box : ∀ j, j < σ.sent.length → tail + j < 24 → isValue (gtI (applyS σ.steps m0) (25 + (tail.toNat + j))) = true
  ins : ∀ x ∈ σ.steps, StepIn x
theorem JT.cnt {n : Nat} {must m0 : List Int} {task tail : Int} {σ : TS} (J : JT n must m0 task tail σ) : σ.logged.length ≤ must.length := nodup_len _ _ J.lg.1 J.lg.2
theorem JT.work {n : Nat} {must m0 : List Int} {task tail : Int} {σ : TS} (J : JT n must m0 task tail σ) {c : Int} (hc : 1 ≤ c ∧ c ≤ 5) : JT n must m0 task tail (σ.add [⟨c, -1, 0⟩]) := by
  have e : applyS (σ.steps ++ [⟨c, -1, 0⟩]) m0 = applyS σ.steps m0 := by rw [applyS_app]; rfl
  have q : ∃ c : Int, c ≤ must.length ∧ MemV n (applyS σ.steps m0) task c tail := ⟨_, by exact_mod_cast J.cnt, J.now⟩
  refine ⟨J.pre.add (Pre.one (Q := fun m => ∃ c : Int, c ≤ must.length ∧ MemV n m task c tail) q q), ?_, J.lg, J.v8, J.val, fun j hj h24 => ?_, fun x hx => ?_⟩
  · show MemV n (applyS (σ.steps ++ [⟨c, -1, 0⟩]) m0) task _ tail
    rw [e]; exact J.now
  · show isValue (gtI (applyS (σ.steps ++ [⟨c, -1, 0⟩]) m0) _) = true
    rw [e]; exact J.box j hj h24
  · rcases List.mem_append.1 hx with w | w
    · exact J.ins x w
    · rw [List.mem_singleton.1 w]; exact ⟨hc, .inl rfl⟩
theorem apply1 (a v : Int) (m : List Int) (h : 0 ≤ a) : applyS [⟨3, a, v⟩] m = m.set a.toNat v := by
  show (if a = -1 then m else m.set a.toNat v) = _
  rw [if_neg (by omega)]
theorem JT.write {n : Nat} {must m0 : List Int} {task tail : Int} {σ : TS} (J : JT n must m0 task tail σ) {a v : Int} (ha : 0 ≤ a ∧ a ≤ 48) (h8 : a ≠ 8) (hv : a < 8 → isValue v = true) (hlog : 9 ≤ a → a < 25 → 9 + 2 * σ.logged.length ≤ a) (hbox : 25 ≤ a → 25 + (tail + σ.sent.length) ≤ a) : JT n must m0 task tail (σ.add [⟨3, a, v⟩]) := by
  have M : MemV n ((applyS σ.steps m0).set a.toNat v) task σ.logged.length tail := J.now.put a.toNat v (by omega) (by omega) (fun q => hv (by omega)) (fun q1 q2 => by have := hlog (by omega) (by omega); omega) (fun q => by have := hbox (by omega); omega)
  have e : applyS (σ.steps ++ [⟨3, a, v⟩]) m0 = (applyS σ.steps m0).set a.toNat v := by rw [applyS_app, apply1 a v _ ha.1]
  have t0 := J.now.l0
  have hl := J.now.len
  refine ⟨J.pre.add (Pre.one (Q := fun m => ∃ c : Int, c ≤ must.length ∧ MemV n m task c tail) ⟨_, by exact_mod_cast J.cnt, J.now⟩ (by rw [apply1 a v _ ha.1]; exact ⟨_, by exact_mod_cast J.cnt, M⟩)), ?_, J.lg, J.v8, J.val, fun j hj h24 => ?_, fun x hx => ?_⟩
  · show MemV n (applyS (σ.steps ++ [⟨3, a, v⟩]) m0) task _ tail
    rw [e]; exact M
  · show isValue (gtI (applyS (σ.steps ++ [⟨3, a, v⟩]) m0) _) = true
    have hj' : j < σ.sent.length := hj
    rw [e, gtI_set (by omega), if_neg (by intro q; have := hbox (by omega); omega)]
    exact J.box j hj h24
  · rcases List.mem_append.1 hx with w | w
    · exact J.ins x w
    · rw [List.mem_singleton.1 w]; exact ⟨by simp, .inr ha⟩
theorem take3 {Q : List Int → Prop} {m : List Int} {x y z : Micro} (h0 : Q m) (h1 : Q (applyS [x] m)) (h2 : Q (applyS [x, y] m)) (h3 : Q (applyS [x, y, z] m)) : ∀ k, Q (applyS ([x, y, z].take k) m)
  | 0 => h0
  | 1 => h1
  | 2 => h2
  | k + 3 => by simpa using h3
theorem JT.log {n : Nat} {must m0 : List Int} {task tail k : Int} {σ : TS} (J : JT n must m0 task tail σ) (h5 : task ≤ 5) (hm : ∀ k ∈ must, 0 ≤ k ∧ k ≤ 7) (hm8 : must.length ≤ 8) : JT n must m0 task tail (logA must task tail k σ) := by
  unfold logA
  split
  · rename_i hk
    have kb := hm k hk.1
    have hl := J.now.len
    have hN : σ.logged.length + 1 ≤ must.length := by
      have := nodup_len (σ.logged ++ [k]) must (by
        rw [List.nodup_append]
        refine ⟨J.lg.1, by simp, fun a ha b hb e => ?_⟩
        rw [List.mem_singleton.1 hb] at e
        rw [e] at ha; exact hk.2 ha) (fun x hx => by
        rcases List.mem_append.1 hx with w | w
        · exact J.lg.2 x w
        · rw [List.mem_singleton.1 w]; exact hk.1)
      simpa using this
    have hold : isValue (gtI σ.vars k.toNat) = true := by
      have : k.toNat < σ.vars.length := by rw [J.v8]; omega
      rw [← gtI_get this]; exact J.val _ (List.getElem_mem this)
    have e1 : applyS [⟨3, 9 + 2 * σ.logged.length, k⟩] (applyS σ.steps m0) = (applyS σ.steps m0).set (9 + 2 * σ.logged.length) k := by
      rw [apply1 _ _ _ (by omega)]; congr 1
    have e2 : applyS [⟨3, 9 + 2 * σ.logged.length, k⟩, ⟨3, 9 + 2 * σ.logged.length + 1, gtI σ.vars k.toNat⟩] (applyS σ.steps m0) = ((applyS σ.steps m0).set (9 + 2 * σ.logged.length) k).set (9 + 2 * σ.logged.length + 1) (gtI σ.vars k.toNat) := by
      rw [show [(⟨3, 9 + 2 * σ.logged.length, k⟩ : Micro), ⟨3, 9 + 2 * σ.logged.length + 1, gtI σ.vars k.toNat⟩] = [⟨3, 9 + 2 * σ.logged.length, k⟩] ++ [⟨3, 9 + 2 * σ.logged.length + 1, gtI σ.vars k.toNat⟩] from rfl, applyS_app, e1, apply1 _ _ _ (by omega)]; congr 1
    have e3 : applyS [⟨3, 9 + 2 * σ.logged.length, k⟩, ⟨3, 9 + 2 * σ.logged.length + 1, gtI σ.vars k.toNat⟩, ⟨3, 8, packM task (σ.logged.length + 1) tail⟩] (applyS σ.steps m0) = (((applyS σ.steps m0).set (9 + 2 * σ.logged.length) k).set (9 + 2 * σ.logged.length + 1) (gtI σ.vars k.toNat)).set 8 (packM task (σ.logged.length + 1) tail) := by
      rw [show [(⟨3, 9 + 2 * σ.logged.length, k⟩ : Micro), ⟨3, 9 + 2 * σ.logged.length + 1, gtI σ.vars k.toNat⟩, ⟨3, 8, packM task (σ.logged.length + 1) tail⟩] = [⟨3, 9 + 2 * σ.logged.length, k⟩, ⟨3, 9 + 2 * σ.logged.length + 1, gtI σ.vars k.toNat⟩] ++ [⟨3, 8, packM task (σ.logged.length + 1) tail⟩] from rfl, applyS_app, e2, apply1 _ _ _ (by omega)]; rfl
    have M1 : MemV n ((applyS σ.steps m0).set (9 + 2 * σ.logged.length) k) task σ.logged.length tail := J.now.put _ k (by omega) (by omega) (fun q => by omega) (fun _ _ => by omega) (fun q => by omega)
    have M2 : MemV n (((applyS σ.steps m0).set (9 + 2 * σ.logged.length) k).set (9 + 2 * σ.logged.length + 1) (gtI σ.vars k.toNat)) task σ.logged.length tail := M1.put _ _ (by omega) (by omega) (fun q => by omega) (fun _ _ => by omega) (fun q => by omega)
    have hl1 := M1.len
    have g2 : ∀ j, gtI (((applyS σ.steps m0).set (9 + 2 * σ.logged.length) k).set (9 + 2 * σ.logged.length + 1) (gtI σ.vars k.toNat)) j = if 9 + 2 * σ.logged.length + 1 = j then gtI σ.vars k.toNat else if 9 + 2 * σ.logged.length = j then k else gtI (applyS σ.steps m0) j := fun j => by
      rw [gtI_set (by omega), gtI_set (by omega)]
    have M3 : MemV n ((((applyS σ.steps m0).set (9 + 2 * σ.logged.length) k).set (9 + 2 * σ.logged.length + 1) (gtI σ.vars k.toNat)).set 8 (packM task (σ.logged.length + 1) tail)) task (σ.logged.length + 1) tail := by
      refine M2.ctlSet task (σ.logged.length + 1) tail ⟨J.now.t0, J.now.t1⟩ h5 (by omega) ⟨J.now.l0, J.now.l1⟩ (fun j hj => ?_) M2.box
      by_cases e : j = σ.logged.length
      · unfold logOk
        rw [g2, g2, if_neg (by omega), if_pos (by omega), if_pos (by omega), hold]
        simp [isVar, within]; omega
      · exact M2.log j (by omega)
    have c0 : ((σ.logged.length : Nat) : Int) ≤ must.length := by omega
    refine ⟨J.pre.add (take3 (Q := fun m => ∃ c : Int, c ≤ must.length ∧ MemV n m task c tail) ⟨_, c0, J.now⟩ (by rw [e1]; exact ⟨_, c0, M1⟩) (by rw [e2]; exact ⟨_, c0, M2⟩) (by rw [e3]; exact ⟨_, by omega, M3⟩)), ?_, ⟨?_, fun x hx => ?_⟩, J.v8, J.val, fun j hj h24 => ?_, fun x hx => ?_⟩
    · simp only [applyS_app, e3, List.length_append, List.length_cons, List.length_nil]
      exact M3
    · rw [List.nodup_append]
      refine ⟨J.lg.1, by simp, fun a ha b hb e => ?_⟩
      rw [List.mem_singleton.1 hb] at e
      rw [e] at ha; exact hk.2 ha
    · rcases List.mem_append.1 hx with w | w
      · exact J.lg.2 x w
      · rw [List.mem_singleton.1 w]; exact hk.1
    · simp only [applyS_app, e3]
      rw [gtI_set (by have := M2.len; omega), if_neg (by omega), g2, if_neg (by omega), if_neg (by omega)]
      exact J.box j hj h24
    · rcases List.mem_append.1 hx with w | w
      · exact J.ins x w
      · simp only [List.mem_cons, List.not_mem_nil, or_false] at w
        rcases w with rfl | rfl | rfl
        · exact ⟨by simp, .inr (by simp only; omega)⟩
        · exact ⟨by simp, .inr (by simp only; omega)⟩
        · exact ⟨by simp, .inr (by simp)⟩
  · exact J
theorem JT.withVars {n : Nat} {must m0 : List Int} {task tail : Int} {σ : TS} (J : JT n must m0 task tail σ) (vs : List Int) (h8 : vs.length = 8) (hv : ∀ z ∈ vs, isValue z = true) : JT n must m0 task tail { σ with vars := vs } := ⟨J.pre, J.now, J.lg, h8, hv, J.box, J.ins⟩
theorem JT.withUsed {n : Nat} {must m0 : List Int} {task tail : Int} {σ : TS} (J : JT n must m0 task tail σ) (us : List Int) : JT n must m0 task tail { σ with used := us } := ⟨J.pre, J.now, J.lg, J.v8, J.val, J.box, J.ins⟩
theorem JT.assign {n : Nat} {must m0 : List Int} {task tail k v : Int} {σ : TS} (J : JT n must m0 task tail σ) (h5 : task ≤ 5) (hm : ∀ k ∈ must, 0 ≤ k ∧ k ≤ 7) (hm8 : must.length ≤ 8) (hk : 0 ≤ k ∧ k ≤ 7) (hv : isValue v = true) : JT n must m0 task tail (assignT must task tail k v σ) := by
  have J1 := J.log (k := k) h5 hm hm8
  have J2 := J1.write (a := k) (v := v) (by omega) (by omega) (fun _ => hv) (fun q => by omega) (fun q => by omega)
  exact J2.withVars _ (by simpa using J1.v8) (fun z hz => by
    rcases List.mem_or_eq_of_mem_set hz with q | q
    · exact J1.val z q
    · rw [q]; exact hv)
theorem JT.send {n : Nat} {must m0 : List Int} {task tail x : Int} {σ : TS} (J : JT n must m0 task tail σ) (hx : isValue x = true) : JT n must m0 task tail (sendT tail x σ) := by
  have t0 := J.now.l0
  have hl := J.now.len
  unfold sendT
  split
  · rename_i h
    have J1 := J.write (a := 25 + (tail + σ.sent.length)) (v := x) (by omega) (by omega) (fun q => by omega) (fun _ q => by omega) (fun _ => by omega)
    refine ⟨J1.pre, J1.now, J1.lg, J1.v8, J1.val, fun j hj h24 => ?_, J1.ins⟩
    simp only [List.length_append, List.length_cons, List.length_nil] at hj
    rcases Nat.lt_or_ge j σ.sent.length with q | q
    · exact J1.box j q h24
    · have e : j = σ.sent.length := by omega
      show isValue (gtI (applyS (σ.steps ++ [⟨3, 25 + (tail + σ.sent.length), x⟩]) m0) _) = true
      rw [applyS_app, apply1 _ _ _ (by omega), gtI_set (by omega), if_pos (by omega)]
      exact hx
  · rename_i h
    refine ⟨J.pre, J.now, J.lg, J.v8, J.val, fun j hj h24 => ?_, J.ins⟩
    simp only [List.length_append, List.length_cons, List.length_nil] at hj
    exact J.box j (by omega) h24
theorem JT.step {n : Nat} {must m0 : List Int} {task tail : Int} {rd : List Int} {at_ : Int} {s : Stmt} {σ : TS} (J : JT n must m0 task tail σ) (h5 : task ≤ 5) (hm : ∀ k ∈ must, 0 ≤ k ∧ k ≤ 7) (hm8 : must.length ≤ 8) (hs : stmtOk s = true) (h6 : s.kind ≠ 6) : JT n must m0 task tail (stepT must task tail rd at_ s σ) := by
  have hc := costK_pos hs h6
  have J0 := J.work (c := costK s.kind) ⟨hc, (costK_bd s.kind).2⟩
  unfold stepT
  split
  · rename_i h1
    have hsv := stmt_var hs (by simp [hasVar, h1])
    exact J0.assign h5 hm hm8 (by omega) (evalE_value J.val J.v8 (stmt_expr hs (by simp [hasExpr, h1])))
  split
  · rename_i h1
    have hsv := stmt_var hs (by simp [hasVar, h1])
    exact (J0.withUsed _).assign h5 hm hm8 (by omega) (readM_value _ _ _)
  split
  · rename_i h1
    exact J0.send (evalE_value J.val J.v8 (stmt_expr hs (by simp [hasExpr, h1])))
  · exact J0
theorem gtI_take {m : List Int} {k n : Nat} (h : k < n) : gtI (m.take n) k = gtI m k := by unfold gtI; rw [List.getElem?_take_of_lt h]
theorem trace_V {ts : List Task} {m rd : List Int} {at_ task tail : Int} (hp : programOk ts = true) (hm : MemV ts.length m task 0 tail) :
    (∀ k, ∃ t c l, c ≤ ((mustOf (taskAt ts t)).length : Int) ∧ MemV ts.length (applyS ((traceS ts m rd at_ task tail).take k) m) t c l) ∧
    (∃ t l, MemV ts.length (applyS (traceS ts m rd at_ task tail) m) t 0 l) ∧ (∀ x ∈ traceS ts m rd at_ task tail, StepIn x) ∧ sumC (traceS ts m rd at_ task tail) ≤ taskB (taskAt ts task) ∧ (traceS ts m rd at_ task tail).length ≤ 9223372036854775807 := by
  have pf := prog_facts hp
  have htl : task.toNat < ts.length := by have := hm.t0; have := hm.t1; omega
  have hmem : taskAt ts task ∈ ts := by rw [← taskAt_eq htl]; exact List.getElem_mem _
  have htk := pf.2 _ hmem
  have hte := task_facts htk.1
  have htr := treeOf_ok hte.1
  have h5 : task ≤ 5 := by have := hm.t1; omega
  have hl := hm.len
  have hcost := trace_cost (m := m) (rd := rd) (at_ := at_) (tail := tail) htk.1
  have hpos := trace_pos (m := m) (rd := rd) (at_ := at_) (tail := tail) htk.1
  have hll := len_le_sum _ hpos
  have hTb := taskB_bd (taskAt ts task)
  have J0 : JT ts.length (mustOf (taskAt ts task)) m task tail ⟨m.take 8, [], [], [], []⟩ := by
    refine ⟨fun k => ⟨0, by omega, ?_⟩, ?_, ⟨.nil, by simp⟩, by simp; omega, fun z hz => hm.T.val z hz, fun j hj => absurd hj (by simp), by simp⟩
    · simpa [applyS] using hm
    · simpa [applyS] using hm
  have J : JT ts.length (mustOf (taskAt ts task)) m task tail (runT (taskAt ts task) task tail rd at_ (m.take 8)) :=
    run_inv (p := fun σ : TS => JT ts.length (mustOf (taskAt ts task)) m task tail σ) (fun s a hs h6 J => J.step h5 (fun k hk => must_in hk) (must_len _) hs h6) (treeOf (taskAt ts task).body) _ htr.1 J0
  have J1 := J.work (c := 1) (by omega)
  have e0 : applyS (traceS ts m rd at_ task tail) m = (applyS (runT (taskAt ts task) task tail rd at_ (m.take 8)).steps m).set 8 (packM (nextM ts (runT (taskAt ts task) task tail rd at_ (m.take 8)).vars task) 0 (min 24 (tail + (runT (taskAt ts task) task tail rd at_ (m.take 8)).sent.length))) := by
    rw [traceS, traceEnd, show ∀ (x y : Micro), [x, y] = [x] ++ [y] from fun _ _ => rfl, applyS_app, applyS_app, apply1 _ _ _ (by omega)]; rfl
  have nb := nextM_bd (ts := ts) (by omega) (runT (taskAt ts task) task tail rd at_ (m.take 8)).vars task
  have l0 := hm.l0
  have M : MemV ts.length (applyS (traceS ts m rd at_ task tail) m) (nextM ts (runT (taskAt ts task) task tail rd at_ (m.take 8)).vars task) 0 (min 24 (tail + (runT (taskAt ts task) task tail rd at_ (m.take 8)).sent.length)) := by
    rw [e0]
    refine J.now.ctlSet _ 0 _ nb (by omega) (by omega) (by omega) (fun j hj => absurd hj (by simp)) (fun j hj => ?_)
    rcases Nat.lt_or_ge j tail.toNat with q | q
    · exact J.now.box j q
    · have := J.box (j - tail.toNat) (by omega) (by omega)
      rwa [show 25 + (tail.toNat + (j - tail.toNat)) = 25 + j by omega] at this
  refine ⟨fun k => ?_, ⟨_, _, M⟩, fun x hx => ?_, hcost, by omega⟩
  · rcases Nat.lt_or_ge k (traceS ts m rd at_ task tail).length with q | q
    · have hlen : (traceS ts m rd at_ task tail).length = (runT (taskAt ts task) task tail rd at_ (m.take 8)).steps.length + 2 := by simp [traceS, traceEnd]
      have : (traceS ts m rd at_ task tail).take k = ((runT (taskAt ts task) task tail rd at_ (m.take 8)).steps ++ [(⟨1, -1, 0⟩ : Micro)]).take k := by
        rw [traceS, traceEnd, show ∀ (x y : Micro), [x, y] = [x] ++ [y] from fun _ _ => rfl, ← List.append_assoc, List.take_append_of_le_length (by simp; omega)]
      rw [this]
      obtain ⟨c, h1, h2⟩ := J1.pre k
      exact ⟨task, c, tail, h1, h2⟩
    · rw [List.take_of_length_le q]
      exact ⟨_, 0, _, by omega, M⟩
  · rcases List.mem_append.1 hx with w | w
    · exact J.ins x w
    · simp only [traceEnd, List.mem_cons, List.not_mem_nil, or_false] at w
      rcases w with rfl | rfl
      · exact ⟨by simp, .inl rfl⟩
      · exact ⟨by simp, .inr (by simp)⟩
theorem taskM_facts : ∀ (ms : List Micro) (b : BT), (∀ x ∈ ms, StepIn x) → 0 ≤ b.left →
    (∃ k, (taskM ms b).2.mem = applyS (ms.take k) b.mem ∧ ((taskM ms b).1 = true → k = ms.length)) ∧ (taskM ms b).2.used = b.used ∧ 0 ≤ (taskM ms b).2.left ∧ (taskM ms b).2.left ≤ b.left ∧ b.at_ ≤ (taskM ms b).2.at_ ∧ (taskM ms b).2.at_ + (taskM ms b).2.left ≤ b.at_ + b.left ∧ (sumC ms ≤ b.left → (taskM ms b).1 = true)
  | [], b, _, hl => ⟨⟨0, rfl, fun _ => rfl⟩, rfl, hl, Int.le_refl _, Int.le_refl _, Int.le_refl _, fun _ => rfl⟩
  | m :: ms, b, h, hl => by
    have hm := h m (by simp)
    unfold StepIn at hm
    have hs : 0 ≤ sumC ms := sumC_nn ms fun x hx => by have := (h x (by simp [hx])).1; omega
    by_cases q : b.left < m.cost
    · have e : taskM (m :: ms) b = (false, b) := if_pos q
      rw [e]
      refine ⟨⟨0, rfl, (fun w => by cases w)⟩, rfl, hl, Int.le_refl _, Int.le_refl _, Int.le_refl _, fun w => ?_⟩
      rw [sumC_cons] at w; omega
    · have e : taskM (m :: ms) b = taskM ms (stepB m b) := if_neg q
      rw [e]
      have ih := taskM_facts ms (stepB m b) (fun x hx => h x (by simp [hx])) (by show 0 ≤ b.left - m.cost; omega)
      have ea : (stepB m b).at_ = if m.at_ = -1 ∧ m.cost = 5 then b.at_ + 1 else b.at_ := rfl
      have el : (stepB m b).left = b.left - m.cost := rfl
      have hab : b.at_ ≤ (stepB m b).at_ ∧ (stepB m b).at_ + (stepB m b).left ≤ b.at_ + b.left := by
        rw [ea, el]; split <;> omega
      obtain ⟨⟨k, h1, h2⟩, h3, h4, h5, h6, h7, h8⟩ := ih
      refine ⟨⟨k + 1, ?_, fun w => by rw [h2 w]; rfl⟩, h3, h4, by omega, by omega, by omega, fun w => h8 (by rw [sumC_cons] at w; omega)⟩
      rw [h1]; rfl
noncomputable def bootL (ts : List Task) (rd : List Int) : Nat → BT → BT
  | 0, b => b
  | n + 1, b => if (taskM (traceS ts b.mem rd b.at_ (unpackM (gtI b.mem 8)).1 (unpackM (gtI b.mem 8)).2.2) b).1 = true then bootL ts rd n { (taskM (traceS ts b.mem rd b.at_ (unpackM (gtI b.mem 8)).1 (unpackM (gtI b.mem 8)).2.2) b).2 with used := b.used ++ [traceU ts b.mem rd b.at_ (unpackM (gtI b.mem 8)).1 (unpackM (gtI b.mem 8)).2.2] } else (taskM (traceS ts b.mem rd b.at_ (unpackM (gtI b.mem 8)).1 (unpackM (gtI b.mem 8)).2.2) b).2
def VM (K : Prop) (ts : List Task) (m : List Int) : Prop := ∃ t c l, (c ≤ ((mustOf (taskAt ts t)).length : Int) ∨ K) ∧ MemV ts.length m t c l
def CM (ts : List Task) (m : List Int) : Prop := ∃ t l, MemV ts.length m t 0 l
theorem CM.vm {K : Prop} {ts : List Task} {m : List Int} (h : CM ts m) : VM K ts m := by
  obtain ⟨t, l, h⟩ := h
  exact ⟨t, 0, l, .inl (by omega), h⟩
theorem bootL_facts {K : Prop} {ts : List Task} {rd : List Int} (hp : programOk ts = true) : ∀ (n : Nat) (b : BT), CM ts b.mem → 0 ≤ b.left →
    VM K ts (bootL ts rd n b).mem ∧ (0 ≤ (bootL ts rd n b).left ∧ (bootL ts rd n b).left ≤ b.left) ∧ b.at_ ≤ (bootL ts rd n b).at_ ∧ (bootL ts rd n b).at_ + (bootL ts rd n b).left ≤ b.at_ + b.left ∧ b.used.length ≤ (bootL ts rd n b).used.length ∧ (bootL ts rd n b).used.length ≤ b.used.length + n ∧
    (1 ≤ n → taskB (taskAt ts (unpackM (gtI b.mem 8)).1) ≤ b.left → b.used.length + 1 ≤ (bootL ts rd n b).used.length)
  | 0, b, h, hl => ⟨h.vm, ⟨hl, Int.le_refl _⟩, Int.le_refl _, Int.le_refl _, Nat.le_refl _, Nat.le_refl _, fun q => absurd q (by omega)⟩
  | n + 1, b, h, hl => by
    obtain ⟨t, l, hM⟩ := h
    have hu := hM.ctl
    have T := trace_V (rd := rd) (at_ := b.at_) hp hM
    obtain ⟨T1, T2, T3, T4, T5⟩ := T
    obtain ⟨⟨k, f1, f2⟩, f3, f4, f5, f6, f7, f8⟩ := taskM_facts (traceS ts b.mem rd b.at_ t l) b T3 hl
    unfold bootL
    rw [hu]
    simp only
    split
    · rename_i q
      rw [f2 q, List.take_length] at f1
      have hC : CM ts (taskM (traceS ts b.mem rd b.at_ t l) b).2.mem := by rw [f1]; exact T2
      have ih := bootL_facts (K := K) (rd := rd) hp n { (taskM (traceS ts b.mem rd b.at_ t l) b).2 with used := b.used ++ [traceU ts b.mem rd b.at_ t l] } hC f4
      simp only [List.length_append, List.length_cons, List.length_nil] at ih
      refine ⟨ih.1, ⟨ih.2.1.1, by omega⟩, by omega, by omega, by omega, by omega, fun _ _ => by omega⟩
    · rename_i q
      refine ⟨by rw [f1]; obtain ⟨t', c', l', q1, q2⟩ := T1 k; exact ⟨t', c', l', .inl q1, q2⟩, ⟨f4, f5⟩, f6, f7, by rw [f3]; exact Nat.le_refl _, by rw [f3]; omega, fun _ w => absurd (f8 (by omega)) q⟩
noncomputable def bootM (ts : List Task) (m rd : List Int) (at_ e : Int) : BT := if (recoverM (recM m) ⟨m, at_, [], e⟩).1 = true then bootL ts rd 10 (recoverM (recM m) ⟨m, at_, [], e⟩).2 else (recoverM (recM m) ⟨m, at_, [], e⟩).2
theorem bootM_facts {K : Prop} {ts : List Task} {m rd : List Int} {at_ e : Int} (hp : programOk ts = true) (h : VM K ts m) (he : 0 ≤ e) :
    VM K ts (bootM ts m rd at_ e).mem ∧ (0 ≤ (bootM ts m rd at_ e).left ∧ (bootM ts m rd at_ e).left ≤ e) ∧ at_ ≤ (bootM ts m rd at_ e).at_ ∧ (bootM ts m rd at_ e).at_ + (bootM ts m rd at_ e).left ≤ at_ + e ∧ (bootM ts m rd at_ e).used.length ≤ 10 ∧ (¬ K → bootB (taskAt ts (unpackM (gtI m 8)).1) ≤ e → 1 ≤ (bootM ts m rd at_ e).used.length) := by
  obtain ⟨t, c, l, hc, hM⟩ := h
  have hu := hM.ctl
  have pf := prog_facts hp
  have htl : t.toNat < ts.length := by have := hM.t0; have := hM.t1; omega
  have hmem : taskAt ts t ∈ ts := by rw [← taskAt_eq htl]; exact List.getElem_mem _
  have htk := (pf.2 _ hmem).1
  have h5 : t ≤ 5 := by have := hM.t1; omega
  have hB : bootB (taskAt ts t) = taskB (taskAt ts t) + recCost (mustOf (taskAt ts t)).length := by rw [bootB, if_pos htk]; rfl
  have c0 := hM.c0
  rw [hu]
  simp only
  by_cases q : c < 1
  · have hc0 : c = 0 := by omega
    subst hc0
    have hr : recM m = [] := by unfold recM; rw [hu, if_pos q]
    have hb : bootM ts m rd at_ e = bootL ts rd 10 ⟨m, at_, [], e⟩ := by unfold bootM; rw [hr]; rfl
    have F := bootL_facts (K := K) (rd := rd) hp 10 ⟨m, at_, [], e⟩ ⟨t, l, hM⟩ he
    rw [hb]
    simp only [hu, List.length_nil, Nat.zero_add] at F
    have hrc : 0 ≤ recCost (mustOf (taskAt ts t)).length := by unfold recCost; split <;> omega
    exact ⟨F.1, F.2.1, F.2.2.1, F.2.2.2.1, F.2.2.2.2.2.1, fun _ w => F.2.2.2.2.2.2 (by omega) (by omega)⟩
  · have hr : recM m = recVars m c.toNat ++ [⟨8, packM t 0 l⟩] := by unfold recM; rw [hu, if_neg q]
    have R := recover_V h5 (recVars m c.toNat) ⟨m, at_, [], e⟩ hM (recVars_bd hM.log _ (Nat.le_refl _)) he
    rw [← hr, recVars_len] at R
    obtain ⟨R1, R2, R3, R4, R5, R6, R7⟩ := R
    simp only at R3 R4 R6 R7
    have hrc : ¬ K → 3 * (((c.toNat : Nat) : Int) + 1) ≤ recCost (mustOf (taskAt ts t)).length := fun hK => by
      have hc' : c ≤ ((mustOf (taskAt ts t)).length : Int) := hc.resolve_right hK
      unfold recCost; split <;> omega
    have hTb : 0 ≤ taskB (taskAt ts t) := by
      rw [taskB, if_pos htk]
      have := (boundT_bd _ (treeOf_ok (task_facts htk).1).1).1
      omega
    unfold bootM
    split
    · rename_i w
      have R1' := R1 w
      have F := bootL_facts (K := K) (rd := rd) hp 10 (recoverM (recM m) ⟨m, at_, [], e⟩).2 ⟨t, l, R1'.1⟩ R5
      rw [R3, R4, R1'.1.ctl] at F
      simp only [List.length_nil, Nat.zero_add] at F
      have R1l := R1'.2
      simp only at R1l F
      exact ⟨F.1, ⟨F.2.1.1, by omega⟩, F.2.2.1, by omega, F.2.2.2.2.2.1, fun hK w => F.2.2.2.2.2.2 (by omega) (by have := hrc hK; omega)⟩
    · rename_i w
      have wf : (recoverM (recM m) ⟨m, at_, [], e⟩).1 = false := by simpa using w
      refine ⟨⟨t, c, l, hc, R2 wf⟩, ⟨R5, R6⟩, by rw [R4]; exact Int.le_refl _, by rw [R4]; omega, by rw [R3]; simp, fun hK v => absurd (R7 (by have := hrc hK; omega)) w⟩
end Go.Av

namespace Go.Av
open Go.Proofs Go.RowKit
set_option linter.unusedVariables false
set_option linter.unusedSimpArgs false
set_option maxRecDepth 100000
set_option maxHeartbeats 4000000
def encBoot (b : BT) : List V := [.lst 1 (b.mem.map encI), .int .i64 b.at_, .lst 1 (b.used.map encL), .int .i64 b.left]
theorem refs_L (n : Nat) (us : List Int) : V.refsL n (encL us) = true := by simp [encL, V.refsL, V.refs, refsLL_map encI (fun _ => rfl) us]
theorem boot_f (ts : List Task) (m rd : List Int) (at_ e : Int) (hp : programOk ts = true) (hv : VM True ts m) (hr : rd.length ≤ 9223372036854775807) (ha : 0 ≤ at_ ∧ at_ ≤ 500000) (he : 0 ≤ e ∧ e ≤ 100000) :
    F Tryz.prog 116 [.agg [.lst 4 (ts.map encTask)], .lst 1 (m.map encI), .lst 1 (rd.map encI), .int .i64 at_, .int .i64 e] (.agg (encBoot (bootM ts m rd at_ e))) := by
  have hok : memOkM ts m = true := by obtain ⟨t, c, l, _, h⟩ := hv; exact h.ok hp
  have hm := (memOk_facts hok).2.1
  refine C.by mixed (cfn_ok Tryz.func116 ok116) rfl ?_
  simp (disch := omega) only [s116, go_sem]
  have S0 : Sep ([[[V.lst 4 (ts.map encTask)]], [[V.nils, .int .i64 0, .nils, .int .i64 0]]] : Heap) [.k 1 [[V.nils, .int .i64 0, .nils, .int .i64 0]], .k 0 [[V.lst 4 (ts.map encTask)]]] := ((Sep.nil []).newK _).newK _
  refine S0.goLst (cloneI_f m (by omega)) (.same (refs_int1 _ _)) fun v1 h1 x1 S1 o1 n1 c1 => ?_
  have h49 : (m.map encI).length = 49 := by simpa using hm
  refine Exists.elim (show ∃ q, v1 = .own q 1 0 49 49 ∧ Sep h1 [.k q (m.map encI), .k 1 [[V.nils, .int .i64 0, .nils, .int .i64 0]], .k 0 [[V.lst 4 (ts.map encTask)]]] from ?_) fun mid z => ?_
  · rcases S1.flat_ (flat_encI _) with ⟨a, b, c⟩ | ⟨q, a, b⟩
    · rw [b] at h49; simp at h49
    · rw [h49] at a; exact ⟨q, a, b⟩
  have z1 := z.1
  have S1' := z.2
  clear z
  subst z1
  have S2 := (S1'.newK [[.own mid 1 0 49 49, .int .i64 at_, .nils, .int .i64 e]]).nils (sz := 1)
  have B2 : BS _ h1.length ⟨m, at_, [], e⟩ [.k 1 [[V.nils, .int .i64 0, .nils, .int .i64 0]], .k 0 [[V.lst 4 (ts.map encTask)]]] := ⟨mid, .nils, S2.pk (A := [_, _, _, _, _]) (L := []) [1, 2, 0, 3, 4] rfl⟩
  simp (disch := omega) only [go_sem, splice]
  refine C.go (recover_c ts hok (by show 0 ≤ e ∧ e ≤ 1000000; omega) B2) ?_
  rintro r3 h3 ⟨rfl, B3⟩
  simp (disch := omega) only [go_sem, splice]
  have fin : ∀ (h9 : Heap) (b9 : BT), b9 = bootM ts m rd at_ e → BS h9 h1.length b9 [.k 1 [[V.nils, .int .i64 0, .nils, .int .i64 0]], .k 0 [[V.lst 4 (ts.map encTask)]]] → ∃ (mid : Nat) (vu : V), h9[h1.length]? = some [[.own mid 1 0 49 49, .int .i64 b9.at_, vu, .int .i64 b9.left]] ∧ (V.one vu = true ∧ V.nohole vu = vu ∧ V.cells vu = [vu]) ∧ (∀ d, (h9.set 1 d)[1]? = some d) ∧ h9[1]? = some [[V.nils, .int .i64 0, .nils, .int .i64 0]] ∧ ∃ ids : List Nat, ids.Nodup ∧ OwnsR (h9.set 1 [[.own mid 1 0 49 49, .int .i64 b9.at_, vu, .int .i64 b9.left]]) (.agg (encBoot (bootM ts m rd at_ e))) (.agg [.own mid 1 0 49 49, .int .i64 b9.at_, vu, .int .i64 b9.left]) ids := fun h9 b9 e9 B9 => by
    subst e9
    obtain ⟨mid, vu, S⟩ := B9
    refine ⟨mid, vu, S.blk 0 rfl, S.vv 2 rfl, fun d => heap_set _ (S.blk 3 rfl), S.blk 3 rfl, ?_⟩
    have S1 := ((S.pull 3).setK [[.own mid 1 0 49 49, .int .i64 (bootM ts m rd at_ e).at_, vu, .int .i64 (bootM ts m rd at_ e).left]]).pk (A := [_, _, _, _]) [2, 3] rfl
    have hl : (bootM ts m rd at_ e).mem.length = 49 := by
      obtain ⟨t, c, l, _, h⟩ := (bootM_facts (rd := rd) (at_ := at_) hp hv he.1).1
      exact h.len
    have S2 := Sep.ofFlat (sz := 1) (n := 49) S1 (by simpa using hl) (flat_encI _)
    have A1 := Sep.li (k := .i64) (z := (bootM ts m rd at_ e).left) (Sep.l0 (Sep.sw S2))
    have A2 := Sep.li (k := .i64) (z := (bootM ts m rd at_ e).at_) (Sep.cons2 (fun es e => by cases e) (Sep.sw A1))
    exact ((Sep.cons2 (fun es e => by cases e) (Sep.sw A2)).a).ret
  refine condP_split (fun hrec => ?_) (fun hrec => ?_)
  case' refine_2 =>
    refine Exists.elim (fin h3 _ (by unfold bootM; rw [if_neg (by simp [hrec])]) B3) fun mid' q => Exists.elim q fun vu q => ?_
    have K := q.1
    have zu := q.2.1
    have c9 := q.2.2.1
    have K1 := q.2.2.2.1
    have R := q.2.2.2.2
    clear q
    simp (disch := omega) only [go_sem, K, zu.1, zu.2.1, zu.2.2, c9, K1, storeH, storeB, splice]
    exact R
  have hC : CM ts (recoverM (recM m) ⟨m, at_, [], e⟩).2.mem ∧ (recoverM (recM m) ⟨m, at_, [], e⟩).2.used = [] ∧ (recoverM (recM m) ⟨m, at_, [], e⟩).2.at_ = at_ ∧ (0 ≤ (recoverM (recM m) ⟨m, at_, [], e⟩).2.left ∧ (recoverM (recM m) ⟨m, at_, [], e⟩).2.left ≤ e) := by
    obtain ⟨t, c, l, hc, hM⟩ := hv
    have hu := hM.ctl
    have pf := prog_facts hp
    have c0 := hM.c0
    by_cases q : c < 1
    · have hc0 : c = 0 := by omega
      subst hc0
      have hr : recM m = [] := by unfold recM; rw [hu, if_pos q]
      rw [hr]
      exact ⟨⟨t, l, hM⟩, rfl, rfl, he.1, Int.le_refl _⟩
    · have hr : recM m = recVars m c.toNat ++ [⟨8, packM t 0 l⟩] := by unfold recM; rw [hu, if_neg q]
      have R := recover_V (by have := hM.t1; omega) (recVars m c.toNat) ⟨m, at_, [], e⟩ hM (recVars_bd hM.log _ (Nat.le_refl _)) he.1
      rw [← hr] at R
      exact ⟨⟨t, l, (R.1 hrec).1⟩, R.2.2.1, R.2.2.2.1, R.2.2.2.2.1, R.2.2.2.2.2.1⟩
  have hbm : bootM ts m rd at_ e = bootL ts rd 10 (recoverM (recM m) ⟨m, at_, [], e⟩).2 := if_pos hrec
  simp (disch := omega) only [go_sem, splice]
  refine loopP_intro (fun n s => ∃ (b1 : BT), b1.used.length + n = 10 ∧ CM ts b1.mem ∧ bootL ts rd n b1 = bootM ts m rd at_ e ∧ (0 ≤ b1.left ∧ b1.left ≤ 100000) ∧ (0 ≤ b1.at_ ∧ b1.at_ + b1.left ≤ 600000) ∧ s.e 2 = .lst 1 (rd.map encI) ∧ s.e 5 = .ptr 0 1 0 0 ∧ s.e 10 = .ptr 1 1 0 0 ∧ s.e 11 = .ptr h1.length 1 0 0 ∧ BS s.h h1.length b1 [.k 1 [[V.nils, .int .i64 0, .nils, .int .i64 0]], .k 0 [[V.lst 4 (ts.map encTask)]]]) 10 ⟨_, by rw [hC.2.1]; rfl, hC.1, hbm.symm, by omega, by omega, by simp (disch := omega) only [go_sem, splice], by simp (disch := omega) only [go_sem, splice], by simp (disch := omega) only [go_sem, splice], by simp (disch := omega) only [go_sem, splice], B3⟩ ?_
  clear hrec hC hbm B3
  intro n ee hp' P
  refine Exists.elim P fun b1 P => ?_
  have hu1 := P.1
  have hC := P.2.1
  have hbl := P.2.2.1
  have hl1 := P.2.2.2.1
  have ha1 := P.2.2.2.2.1
  have e2 := P.2.2.2.2.2.1
  have e5 := P.2.2.2.2.2.2.1
  have e10 := P.2.2.2.2.2.2.2.1
  have e11 := P.2.2.2.2.2.2.2.2.1
  have B1 := P.2.2.2.2.2.2.2.2.2
  clear P
  simp only at e2 e5 e10 e11 B1
  refine Exists.elim B1 fun mid1 q => Exists.elim q fun vu1 S3 => ?_
  have K3 := S3.blk 0 rfl
  have P3 := S3.blk 4 rfl
  have z3 := S3.vv 2 rfl
  have len3 := fun G => (S3.lst 2 rfl).elim fun i o => o.len_ G
  simp only [List.length_map] at len3
  simp (disch := omega) only [go_sem, e2, e5, e10, e11, K3, P3, z3.1, z3.2.1, z3.2.2, len3, refs_task]
  refine condP_dec (fun h10 => ?_) (fun h10 => ?_)
  case' refine_2 =>
    have hn : n = 0 := by omega
    subst hn
    refine Exists.elim (fin hp' b1 hbl B1) fun mid' q => Exists.elim q fun vu q => ?_
    have K := q.1
    have zu := q.2.1
    have c9 := q.2.2.1
    have K1 := q.2.2.2.1
    have R := q.2.2.2.2
    clear q
    simp (disch := omega) only [go_sem, e2, e5, e10, e11, K, zu.1, zu.2.1, zu.2.2, c9, K1, storeH, storeB, splice]
    exact R
  refine Exists.elim (show ∃ k : Nat, n = k + 1 from ⟨n - 1, by omega⟩) fun k hk => ?_
  subst hk
  refine Exists.elim hC fun t q => Exists.elim q fun l hM => ?_
  have hu := hM.ctl
  have T := trace_V (rd := rd) (at_ := b1.at_) hp hM
  have hun : bootL ts rd (k + 1) b1 = if (taskM (traceS ts b1.mem rd b1.at_ t l) b1).1 = true then bootL ts rd k { (taskM (traceS ts b1.mem rd b1.at_ t l) b1).2 with used := b1.used ++ [traceU ts b1.mem rd b1.at_ t l] } else (taskM (traceS ts b1.mem rd b1.at_ t l) b1).2 := by
    rw [bootL, hu]
  rw [hun] at hbl
  have TF := taskM_facts (traceS ts b1.mem rd b1.at_ t l) b1 T.2.2.1 hl1.1
  simp (disch := omega) only [go_sem, e2, e5, e10, e11, K3, P3, z3.1, z3.2.1, z3.2.2, len3, refs_task]
  refine C.go (task_c ts rd t 0 l hp hM.T hr ⟨ha1.1, by omega⟩ ⟨hl1.1, by omega⟩ (by omega) T.2.2.1 T.2.2.2.2 B1) ?_
  rintro r4 h4 ⟨rfl, B4⟩
  simp (disch := omega) only [go_sem, e2, e5, e10, e11]
  refine condP_split (fun hk => ?_) (fun hk => ?_)
  · rw [if_pos hk] at hbl B4
    simp (disch := omega) only [go_sem, e2, e5, e10, e11]
    have hmem : CM ts (taskM (traceS ts b1.mem rd b1.at_ t l) b1).2.mem := by
      obtain ⟨⟨j, f1, f2⟩, _⟩ := TF
      rw [f2 hk, List.take_length] at f1
      rw [f1]; exact T.2.1
    refine nextP_intro k (by omega) ⟨{ (taskM (traceS ts b1.mem rd b1.at_ t l) b1).2 with used := b1.used ++ [traceU ts b1.mem rd b1.at_ t l] }, by simp; omega, hmem, hbl, ⟨TF.2.2.1, by have := TF.2.2.2.1; show (taskM (traceS ts b1.mem rd b1.at_ t l) b1).2.left ≤ _; omega⟩, ⟨by have := TF.2.2.2.2.1; show 0 ≤ (taskM (traceS ts b1.mem rd b1.at_ t l) b1).2.at_; omega, by have := TF.2.2.2.2.2.1; show (taskM (traceS ts b1.mem rd b1.at_ t l) b1).2.at_ + (taskM (traceS ts b1.mem rd b1.at_ t l) b1).2.left ≤ _; omega⟩, by simp (disch := omega) only [go_sem, e2, e5, e10, e11], by simp (disch := omega) only [go_sem, e2, e5, e10, e11], by simp (disch := omega) only [go_sem, e2, e5, e10, e11], by simp (disch := omega) only [go_sem, e2, e5, e10, e11], B4⟩
  · rw [if_neg (by simp [hk])] at hbl B4
    refine Exists.elim (fin h4 _ hbl B4) fun mid' q => Exists.elim q fun vu q => ?_
    have K := q.1
    have zu := q.2.1
    have c9 := q.2.2.1
    have K1 := q.2.2.2.1
    have R := q.2.2.2.2
    clear q
    simp (disch := omega) only [go_sem, e2, e5, e10, e11, K, zu.1, zu.2.1, zu.2.2, c9, K1, storeH, storeB, splice]
    exact R
end Go.Av

namespace Go.Av
open Go.Proofs Go.RowKit
set_option linter.unusedVariables false
set_option linter.unusedSimpArgs false
set_option maxRecDepth 100000
set_option maxHeartbeats 4000000
theorem OwnsLL.app {h : Heap} : ∀ {A a B b : Blk} {i j : List Nat}, OwnsLL h A a i → OwnsLL h B b j → OwnsLL h (A ++ B) (a ++ b) (i ++ j)
  | [], a, B, b, i, j, o, q => by
    obtain ⟨rfl, rfl⟩ := OwnsLL.nil_.1 o
    exact q
  | y :: ys, a, B, b, i, j, o, q => by
    obtain ⟨r', b', i1, i2, rfl, rfl, o1, o2⟩ := OwnsLL.cons_.1 o
    exact OwnsLL.cons_.2 ⟨r', b' ++ b, i1, i2 ++ j, rfl, by simp, o1, o2.app q⟩
theorem Sep.pushAll {h : Heap} {sz bytes : Nat} {A B : Blk} {va vb : V} {L : List It} (S : Sep h (.v (.lst sz A) va :: .v (.lst sz B) vb :: L)) (hb : (A.length + B.length) * bytes ≤ 140737488355328) :
    ∃ v' h', appendH h sz bytes va vb = some (v', h') ∧ Sep h' (.v (.lst sz (A ++ B)) v' :: L) := by
  obtain ⟨ids, n, i, j, rfl, o, p, q, rfl, o2, s⟩ := S
  have n1 := List.nodup_append.1 n
  have n2 := List.nodup_append.1 n1.2.1
  -- what is appended
  have hx : ∃ (xs : Blk) (p' : List Nat), elemsOf h sz vb = some xs ∧ xs.length = B.length ∧ OwnsLL h B xs p' ∧ p'.Nodup ∧ ∀ x ∈ p', x ∈ p := by
    rcases Owns.lst_.1 (Owns.lstR.1 o2) with ⟨rfl, rfl, rfl⟩ | ⟨id, b, js, rfl, hid, rfl, oo⟩
    · exact ⟨[], [], rfl, rfl, OwnsLL.nil_.2 ⟨rfl, rfl⟩, .nil, by simp⟩
    · exact ⟨b, js, elemsOf_n hid oo.len, oo.len, oo, (List.nodup_cons.1 n2.1).2, fun x hx => by simp [hx]⟩
  obtain ⟨xs, p', he, hxl, ox, np, hp⟩ := hx
  rcases Owns.lst_.1 (Owns.lstR.1 o) with ⟨rfl, rfl, rfl⟩ | ⟨id, b, js, rfl, hid, rfl, oo⟩
  · refine ⟨.own h.length sz 0 xs.length xs.length, h ++ [xs], ?_, h.length :: p' ++ q, ?_, h.length :: p', q, rfl, Owns.lstR.2 (Owns.lst_.2 (.inr ⟨h.length, xs, p', by simp [hxl], at_app0 _ _, rfl, ?_⟩)), s.keep fun a ha => List.getElem?_append_left (s.lt a ha)⟩
    · simp only [appendH, he]
      rw [if_pos (by simpa [hxl] using hb)]
    · rw [List.cons_append, List.nodup_cons]
      refine ⟨fun hm => ?_, List.nodup_append.2 ⟨np, n2.2.1, fun a ha c hc e => n2.2.2 a (hp a ha) c hc e⟩⟩
      rcases List.mem_append.1 hm with w | w
      · have := OwnsLL.lt ox _ w; omega
      · have := s.lt _ w; omega
    · exact ox.up (Ext.app _ _)
  · have hbl := oo.len
    have n3 := List.nodup_cons.1 n1.1
    have hidn : id ∉ js ∧ id ∉ p' ∧ id ∉ q := ⟨n3.1, fun w => n1.2.2 id (by simp) id (by simp [hp id w]) rfl, fun w => n1.2.2 id (by simp) id (by simp [w]) rfl⟩
    refine ⟨.own id sz 0 (b.length + xs.length) (b.length + xs.length), h.set id (b ++ xs), ?_, id :: (js ++ p') ++ q, ?_, id :: (js ++ p'), q, rfl, Owns.lstR.2 (Owns.lst_.2 (.inr ⟨id, b ++ xs, js ++ p', by simp [hbl, hxl], heap_set _ hid, rfl, ?_⟩)), s.keep fun a ha => List.getElem?_set_ne (by rintro rfl; exact hidn.2.2 ha)⟩
    · have := appendH_own (bytes := bytes) hid he (by rw [hbl, hxl]; exact hb)
      rw [← hbl]; exact this
    · rw [List.cons_append, List.nodup_cons]
      refine ⟨fun w => ?_, List.nodup_append.2 ⟨List.nodup_append.2 ⟨n3.2, np, fun a ha c hc e => ?_⟩, n2.2.1, fun a ha c hc e => ?_⟩⟩
      · rcases List.mem_append.1 w with w | w
        · rcases List.mem_append.1 w with w | w
          · exact hidn.1 w
          · exact hidn.2.1 w
        · exact hidn.2.2 w
      · subst e; exact n1.2.2 a (by simp [ha]) a (by simp [hp a hc]) rfl
      · subst e
        rcases List.mem_append.1 ha with w | w
        · exact n1.2.2 a (by simp [w]) a (by simp [hc]) rfl
        · exact n2.2.2 a (hp a w) a hc rfl
    · exact (oo.app ox).keep fun a ha => List.getElem?_set_ne (by
        rintro rfl
        rcases List.mem_append.1 ha with w | w
        · exact hidn.1 w
        · exact hidn.2.1 w)
structure Run where
  mem : List Int
  at_ : Int
  used : List (List Int)
  boots : List Int
def encRun (r : Run) : List V := [.lst 1 (r.mem.map encI), .int .i64 r.at_, .lst 1 (r.used.map encL), .lst 1 (r.boots.map encI)]
noncomputable def runL (ts : List Task) (rd : List Int) : List Int → Run → Run
  | [], r => r
  | e :: es, r => runL ts rd es ⟨(bootM ts r.mem rd r.at_ e).mem, (bootM ts r.mem rd r.at_ e).at_, r.used ++ (bootM ts r.mem rd r.at_ e).used, r.boots ++ [((bootM ts r.mem rd r.at_ e).used.length : Int)]⟩
noncomputable def runM (ts : List Task) (m rd es : List Int) : Run := runL ts rd es ⟨m, 0, [], []⟩
def RS (h : Heap) (R : Nat) (r : Run) (L : List It) : Prop := ∃ (vm vu vb : V), Sep h (.k R [[vm, .int .i64 r.at_, vu, vb]] :: .v (.lst 1 (r.mem.map encI)) vm :: .v (.lst 1 (r.used.map encL)) vu :: .v (.lst 1 (r.boots.map encI)) vb :: L)
theorem Sep.openBoot {h : Heap} {b : BT} {r : V} {L : List It} (S : Sep h (.v (.agg (encBoot b)) r :: L)) : ∃ vm vu, r = .agg [vm, .int .i64 b.at_, vu, .int .i64 b.left] ∧ Sep h (.v (.lst 1 (b.mem.map encI)) vm :: .v (.lst 1 (b.used.map encL)) vu :: L) := by
  obtain ⟨_, rfl, S1⟩ := sep_agg.1 S
  obtain ⟨vm, _, rfl, S2⟩ := sep_ll.1 S1
  obtain ⟨_, rfl, S3⟩ := sep_li.1 S2
  obtain ⟨vu, _, rfl, S4⟩ := sep_ll.1 S3
  obtain ⟨_, rfl, S5⟩ := sep_li.1 S4
  obtain ⟨rfl, S6⟩ := sep_l0.1 S5
  exact ⟨vm, vu, rfl, Sep.sw ((Sep.rot S6).perm (.cons _ List.perm_append_comm))⟩
def energyOk (e : Int) : Bool := within e 0 5000
theorem notEnergy_c (e : Int) : CP Tryz.prog 113 [.int .i64 e] (.bool (!energyOk e)) [] := by
  refine CP.by rfl mixed (cfn_ok Tryz.func113 ok113) rfl ?_
  simp (disch := omega) only [s113, go_sem]
  refine CP.go (within_c _ _ _) rfl rfl ?_
  simp (disch := omega) only [go_sem]
  rfl
theorem isBootAt_c (ts : List Task) (m rd : List Int) (a : Int) (hl : ts.length ≤ 1048576) (hb : ∀ t ∈ ts, t.body.length ≤ 9223372036854775807) (hml : m.length ≤ 9223372036854775807) (hr : rd.length ≤ 9223372036854775807) : CP Tryz.prog 111 [.agg [.lst 4 (ts.map encTask)], .lst 1 (m.map encI), .lst 1 (rd.map encI), .int .i64 a] (.bool (memOkM ts m && vals rd && within a 0 500000)) [] := by
  refine CP.by rfl mixed (cfn_ok Tryz.func111 ok111) rfl ?_
  simp (disch := omega) only [s111, go_sem]
  refine CP.go (memOk_c ts m hl hb hml) rfl (by simp [V.refsL, V.refs, refsLL_map encTask (refs_task 0) ts, refsLL_map encI (fun _ => rfl) m]) ?_
  simp (disch := omega) only [go_sem]
  refine condP_split (fun h1 => ?_) (fun h1 => ?_)
  · simp (disch := omega) only [go_sem, h1]
    refine CP.go (values_c rd hr) rfl (refs_int1 _ _) ?_
    simp (disch := omega) only [go_sem, h1]
    refine condP_split (fun h2 => ?_) (fun h2 => ?_)
    · simp (disch := omega) only [go_sem, h1, h2]
      refine CP.go (within_c _ _ _) rfl rfl ?_
      simp (disch := omega) only [go_sem, h1, h2, Bool.true_and]
    · simp (disch := omega) only [go_sem, h1, h2, Bool.and_false, Bool.false_and]
  · simp (disch := omega) only [go_sem, h1, Bool.and_false, Bool.false_and]
def runOk (ts : List Task) (m rd es : List Int) : Bool := memOkM ts m && vals rd && decide (es.length ≤ 60) && es.all energyOk
noncomputable def runR (ts : List Task) (m rd es : List Int) : Run := if runOk ts m rd es = true then runM ts m rd es else ⟨[], 0, [], []⟩
theorem memV_weak {ts : List Task} {m : List Int} (h : memOkM ts m = true) : VM True ts m := ⟨_, _, _, .inr trivial, memOk_V h⟩
theorem any_energy {es : List Int} : (es.any fun e => !energyOk e) = !es.all energyOk := by rw [List.not_all_eq_any_not]
theorem within0 : within 0 0 500000 = true := by decide
theorem runBoots_f (ts : List Task) (m rd es : List Int) (hl : ts.length ≤ 1048576) (hb : ∀ t ∈ ts, t.body.length ≤ 9223372036854775807) (hml : m.length ≤ 9223372036854775807) (hr : rd.length ≤ 9223372036854775807) (hel : es.length ≤ 9223372036854775807) :
    F Tryz.prog 46 [.agg [.lst 4 (ts.map encTask)], .lst 1 (m.map encI), .lst 1 (rd.map encI), .lst 1 (es.map encI)] (.tup [.agg (encRun (runR ts m rd es)), .bool (runOk ts m rd es)]) := by
  refine C.by mixed (cfn_ok Tryz.func46 ok46) rfl ?_
  simp (disch := omega) only [s46, go_sem]
  refine CP.go (isBootAt_c ts m rd 0 hl hb hml hr) rfl (by simp [V.refsL, V.refs, refsLL_map encTask (refs_task 0) ts, refsLL_map encI (fun _ => rfl) m, refsLL_map encI (fun _ => rfl) rd]) ?_
  have S0 : Sep ([[[V.lst 4 (ts.map encTask)]], [[V.nils, .int .i64 0, .nils, .nils]]] : Heap) [.k 1 [[V.nils, .int .i64 0, .nils, .nils]], .k 0 [[V.lst 4 (ts.map encTask)]]] := ((Sep.nil []).newK _).newK _
  have bad : runOk ts m rd es = false → ∃ ids : List Nat, ids.Nodup ∧ OwnsR ([[[V.lst 4 (ts.map encTask)]], [[V.nils, .int .i64 0, .nils, .nils]]] : Heap) (.tup [.agg (encRun (runR ts m rd es)), .bool (runOk ts m rd es)]) (.tup [.agg [.nils, .int .i64 0, .nils, .nils], .bool false]) ids := fun h => by
    rw [runR, h, if_neg (by simp)]
    have A1 := Sep.cons2 (fun es e => by cases e) (Sep.sw (Sep.l0 (S0.nils (sz := 1))))
    have A2 := Sep.cons2 (fun es e => by cases e) (A1.nils (sz := 1))
    have A3 := Sep.li (k := .i64) (z := 0) A2
    have A4 := Sep.cons2 (fun es e => by cases e) (A3.nils (sz := 1))
    have A5 := Sep.cons2 (fun es e => by cases e) (Sep.sw (Sep.lb (z := false) (Sep.l0 A4.a)))
    exact A5.t.ret
  simp (disch := omega) only [go_sem, within0, Bool.and_true]
  refine condP_split (fun h1 => ?_) (fun h1 => ?_)
  case' refine_2 =>
    simp (disch := omega) only [go_sem, h1, storeH, storeB, splice]
    exact bad (by unfold runOk; rw [h1]; rfl)
  simp (disch := omega) only [go_sem, h1]
  refine condP_dec (fun h60 => ?_) (fun h60 => ?_)
  case' refine_1 =>
    simp (disch := omega) only [go_sem, h1, storeH, storeB, splice]
    refine bad ?_
    have : ¬ es.length ≤ 60 := by omega
    simp [runOk, this]
  simp (disch := omega) only [go_sem, h1]
  refine CP.go (containsI_c 113 (fun e => !energyOk e) es (fun e _ => notEnergy_c e) hel) rfl (refs_ints _ _ _ rfl) ?_
  simp (disch := omega) only [go_sem, any_energy]
  refine condP_split (fun h3 => ?_) (fun h3 => ?_)
  case' refine_2 =>
    simp (disch := omega) only [go_sem, h1, h3, any_energy, storeH, storeB, splice]
    refine bad ?_
    simp [runOk, h3]
  have hm := (Bool.and_eq_true_iff.1 h1).1
  have f := memOk_facts hm
  have pf := prog_facts f.1
  have hgood : runOk ts m rd es = true := by
    simp only [runOk, h1, h3, Bool.true_and, Bool.and_true, decide_eq_true_eq]; omega
  simp (disch := omega) only [go_sem, h1, h3, any_energy]
  refine S0.goLst (cloneI_f m (by have := f.2.1; omega)) (.same (refs_int1 _ _)) fun v1 h1 x1 S1 o1 n1 c1 => ?_
  simp (disch := omega) only [go_sem, o1, n1, c1, splice]
  have R1 : RS (h1 ++ [[[v1, .int .i64 0, .nils, .nils]]]) h1.length ⟨m, 0, [], []⟩ [.k 1 [[V.nils, .int .i64 0, .nils, .nils]], .k 0 [[V.lst 4 (ts.map encTask)]]] := ⟨v1, .nils, .nils, (((S1.newK [[v1, .int .i64 0, .nils, .nils]]).nils (sz := 1)).nils (sz := 1)).pk (A := [_, _, _, _]) [2, 3, 0, 1] rfl⟩
  refine loopP_intro (fun n s => ∃ (k : Nat) (r1 : Run), k ≤ es.length ∧ n = es.length - k ∧ runL ts rd (es.drop k) r1 = runM ts m rd es ∧ VM True ts r1.mem ∧ (0 ≤ r1.at_ ∧ r1.at_ ≤ 5000 * k) ∧ r1.used.length ≤ 10 * k ∧ r1.boots.length = k ∧ s.e 2 = .lst 1 (rd.map encI) ∧ s.e 4 = .ptr 0 1 0 0 ∧ s.e 8 = .ptr 1 1 0 0 ∧ s.e 10 = .ptr h1.length 1 0 0 ∧ s.e 32 = .lst 1 (es.map encI) ∧ s.e 33 = .int .i64 es.length ∧ s.e 34 = .int .i64 k ∧ RS s.h h1.length r1 [.k 1 [[V.nils, .int .i64 0, .nils, .nils]], .k 0 [[V.lst 4 (ts.map encTask)]]]) es.length ⟨0, ⟨m, 0, [], []⟩, by omega, by omega, rfl, memV_weak hm, by simp, by simp, rfl, by simp (disch := omega) only [go_sem, o1, n1, c1, splice], by simp (disch := omega) only [go_sem, o1, n1, c1, splice], by simp (disch := omega) only [go_sem, o1, n1, c1, splice], by simp (disch := omega) only [go_sem, o1, n1, c1, splice], by simp (disch := omega) only [go_sem, o1, n1, c1, splice], by simp (disch := omega) only [go_sem, o1, n1, c1, splice], by simp (disch := omega) only [go_sem, o1, n1, c1, splice] <;> rfl, R1⟩ ?_
  intro n ee hp' P
  refine Exists.elim P fun k P => Exists.elim P fun r1 P => ?_
  have hk := P.1
  have hn := P.2.1
  have hrl := P.2.2.1
  have hV := P.2.2.2.1
  have ha := P.2.2.2.2.1
  have hu := P.2.2.2.2.2.1
  have hbl := P.2.2.2.2.2.2.1
  have e2 := P.2.2.2.2.2.2.2.1
  have e4 := P.2.2.2.2.2.2.2.2.1
  have e8 := P.2.2.2.2.2.2.2.2.2.1
  have e10 := P.2.2.2.2.2.2.2.2.2.2.1
  have e32 := P.2.2.2.2.2.2.2.2.2.2.2.1
  have e33 := P.2.2.2.2.2.2.2.2.2.2.2.2.1
  have e34 := P.2.2.2.2.2.2.2.2.2.2.2.2.2.1
  have RR := P.2.2.2.2.2.2.2.2.2.2.2.2.2.2
  clear P
  subst hn
  simp only at e2 e4 e8 e10 e32 e33 e34 RR
  refine Exists.elim RR fun vm q => Exists.elim q fun vu q => Exists.elim q fun vb S3 => ?_
  have K3 := S3.blk 0 rfl
  have P3 := S3.blk 5 rfl
  have zm := S3.vv 1 rfl
  have zu := S3.vv 2 rfl
  have zb := S3.vv 3 rfl
  simp (disch := omega) only [go_sem, e2, e4, e8, e10, e32, e33, e34]
  refine condP_dec (fun hlt => ?_) (fun hlt => ?_)
  case' refine_2 =>
    have hke : k = es.length := by omega
    have hr1 : r1 = runR ts m rd es := by rw [hke, List.drop_length] at hrl; rw [runR, if_pos hgood]; exact hrl
    have K1 := S3.blk 4 rfl
    have S4 := ((S3.pull 4).setK [[vm, .int .i64 r1.at_, vu, vb]]).pk (A := [_, _, _, _, _, _]) [4, 3, 2] rfl
    have A0 := S4.asRow
    have A1 := Sep.cons2 (fun es e => by cases e) (Sep.sw A0)
    have A2 := Sep.li (k := .i64) (z := r1.at_) A1
    have A3 := Sep.cons2 (fun es e => by cases e) (Sep.sw A2)
    have A5 := Sep.cons2 (fun es e => by cases e) (Sep.sw (Sep.lb (z := true) (Sep.l0 A3.a)))
    have A6 := A5.t.ret
    have C1 : ∀ d, (hp'.set 1 d)[1]? = some d := fun d => heap_set _ K1
    simp (disch := omega) only [go_sem, e2, e4, e8, e10, K3, K1, C1, zm.1, zm.2.1, zm.2.2, zu.1, zu.2.1, zu.2.2, zb.1, zb.2.1, zb.2.2, storeH, storeB, splice]
    rw [← hr1, hgood]
    exact A6
  have hlt' : k < es.length := by omega
  have hdk : es.drop k = es[k] :: es.drop (k + 1) := List.drop_eq_getElem_cons hlt'
  have heb : 0 ≤ es[k] ∧ es[k] ≤ 5000 := by
    have := List.all_eq_true.1 h3 es[k] (List.getElem_mem hlt')
    simpa [energyOk, within] using this
  rw [hdk] at hrl
  have h60' : es.length ≤ 60 := by omega
  have BF := bootM_facts (rd := rd) (at_ := r1.at_) (e := es[k]) f.1 hV heb.1
  have hbf := boot_f ts r1.mem rd r1.at_ es[k] f.1 hV hr (by omega) (by omega)
  refine Exists.elim (show ∃ b, b = bootM ts r1.mem rd r1.at_ es[k] from ⟨_, rfl⟩) fun b hb => ?_
  rw [← hb] at BF hbf
  simp (disch := omega) only [go_sem, e2, e4, e8, e10, e32, e33, e34, K3, P3, zm.1, zm.2.1, zm.2.2, zu.1, zu.2.1, zu.2.2, zb.1, zb.2.1, zb.2.2, refs_task, List.getElem?_eq_getElem, hlt', List.getElem?_map, encI]
  refine S3.go hbf (.cons (.same _ (refs_prog 0 ts)) (.cons (S3.snap 1 rfl) (.cons (.same _ (by simp [V.refs, refsLL_map encI (fun _ => rfl) rd])) (.cons (.int _ _) (.cons (.int _ _) (.nil _)))))) fun r4 h4 x4 S4 => ?_
  refine Exists.elim S4.openBoot fun vm4 q => Exists.elim q fun vu4 q => ?_
  have hr4 := q.1
  have S5 := q.2
  clear q S4
  subst hr4
  have hun : runL ts rd (es[k] :: es.drop (k + 1)) r1 = runL ts rd (es.drop (k + 1)) ⟨b.mem, b.at_, r1.used ++ b.used, r1.boots ++ [(b.used.length : Int)]⟩ := by rw [hb]; rfl
  rw [hun] at hrl
  clear hun
  have S6 := S5.newK [[vm4, .int .i64 b.at_, vu4, .int .i64 b.left]]
  have T6 := S6.blk 0 rfl
  have K6 := S6.blk 3 rfl
  have z4 := S6.vv 1 rfl
  have w4 := S6.vv 2 rfl
  have len4 := fun G => (S6.lst 2 rfl).elim fun i o => o.len_ G
  simp only [List.length_map] at len4
  have S6' := (S6.pull 3).setK [[vm4, .int .i64 r1.at_, vu, vb]]
  have T6' := S6'.blk 1 rfl
  have K6' := S6'.blk 0 rfl
  have S7 := S6'.setK [[vm4, .int .i64 b.at_, vu, vb]]
  have T7 := S7.blk 1 rfl
  have K7 := S7.blk 0 rfl
  have S8 := S7.pk (A := [_, _, _, _, _, _, _]) [5, 3, 0, 1, 2, 6] rfl
  refine Exists.elim (S8.pushAll (bytes := 24) (by simp; omega)) fun v9 q => Exists.elim q fun h9 q => ?_
  have hap := q.1
  have S9 := q.2
  clear q
  rw [← List.map_append] at S9
  have z9 := S9.vv 0 rfl
  have K9 := S9.blk 1 rfl
  have S10 := (S9.pull 1).setK [[vm4, .int .i64 b.at_, v9, vb]]
  have T10 := S10.blk 2 rfl
  have K10 := S10.blk 0 rfl
  refine Exists.elim ((S10.pull 4).pushS (bytes := 8) [.int .i64 b.used.length] rfl (by simp [hbl]; omega)) fun v11 q => Exists.elim q fun h11 q => ?_
  have hap2 := q.1
  have S11 := q.2
  clear q
  rw [show r1.boots.map encI ++ [[V.int .i64 b.used.length]] = (r1.boots ++ [(b.used.length : Int)]).map encI by simp [encI]] at S11
  have z11 := S11.vv 0 rfl
  have K11 := S11.blk 1 rfl
  have S12 := (S11.pull 1).setK [[vm4, .int .i64 b.at_, v9, v11]]
  simp (disch := omega) only [go_sem, e2, e4, e8, e10, e32, e33, e34, T6, K6, z4.1, z4.2.1, z4.2.2, w4.1, w4.2.1, w4.2.2, zu.1, zu.2.1, zu.2.2, zb.1, zb.2.1, zb.2.2, storeH, storeB, splice, T6', K6', T7, K7, hap, len4, K9, z9.1, z9.2.1, z9.2.2, T10, K10, hap2, z11.1, z11.2.1, z11.2.2, K11]
  exact nextP_intro (es.length - (k + 1)) (by omega) ⟨k + 1, ⟨b.mem, b.at_, r1.used ++ b.used, r1.boots ++ [(b.used.length : Int)]⟩, by omega, rfl, hrl, BF.1, ⟨by show 0 ≤ b.at_; omega, by show b.at_ ≤ _; push_cast; omega⟩, by show (r1.used ++ b.used).length ≤ _; rw [List.length_append]; omega, by show (r1.boots ++ [(b.used.length : Int)]).length = _; simp [hbl], by simp (disch := omega) only [go_sem, e2, e4, e8, e10, e32, e33, e34, T6, K6, z4.1, z4.2.1, z4.2.2, w4.1, w4.2.1, w4.2.2, zu.1, zu.2.1, zu.2.2, zb.1, zb.2.1, zb.2.2, storeH, storeB, splice, T6', K6', T7, K7, hap, len4, K9, z9.1, z9.2.1, z9.2.2, T10, K10, hap2, z11.1, z11.2.1, z11.2.2, K11], by simp (disch := omega) only [go_sem, e2, e4, e8, e10, e32, e33, e34, T6, K6, z4.1, z4.2.1, z4.2.2, w4.1, w4.2.1, w4.2.2, zu.1, zu.2.1, zu.2.2, zb.1, zb.2.1, zb.2.2, storeH, storeB, splice, T6', K6', T7, K7, hap, len4, K9, z9.1, z9.2.1, z9.2.2, T10, K10, hap2, z11.1, z11.2.1, z11.2.2, K11], by simp (disch := omega) only [go_sem, e2, e4, e8, e10, e32, e33, e34, T6, K6, z4.1, z4.2.1, z4.2.2, w4.1, w4.2.1, w4.2.2, zu.1, zu.2.1, zu.2.2, zb.1, zb.2.1, zb.2.2, storeH, storeB, splice, T6', K6', T7, K7, hap, len4, K9, z9.1, z9.2.1, z9.2.2, T10, K10, hap2, z11.1, z11.2.1, z11.2.2, K11], by simp (disch := omega) only [go_sem, e2, e4, e8, e10, e32, e33, e34, T6, K6, z4.1, z4.2.1, z4.2.2, w4.1, w4.2.1, w4.2.2, zu.1, zu.2.1, zu.2.2, zb.1, zb.2.1, zb.2.2, storeH, storeB, splice, T6', K6', T7, K7, hap, len4, K9, z9.1, z9.2.1, z9.2.2, T10, K10, hap2, z11.1, z11.2.1, z11.2.2, K11], by simp (disch := omega) only [go_sem, e2, e4, e8, e10, e32, e33, e34, T6, K6, z4.1, z4.2.1, z4.2.2, w4.1, w4.2.1, w4.2.2, zu.1, zu.2.1, zu.2.2, zb.1, zb.2.1, zb.2.2, storeH, storeB, splice, T6', K6', T7, K7, hap, len4, K9, z9.1, z9.2.1, z9.2.2, T10, K10, hap2, z11.1, z11.2.1, z11.2.2, K11], by simp (disch := omega) only [go_sem, e2, e4, e8, e10, e32, e33, e34, T6, K6, z4.1, z4.2.1, z4.2.2, w4.1, w4.2.1, w4.2.2, zu.1, zu.2.1, zu.2.2, zb.1, zb.2.1, zb.2.2, storeH, storeB, splice, T6', K6', T7, K7, hap, len4, K9, z9.1, z9.2.1, z9.2.2, T10, K10, hap2, z11.1, z11.2.1, z11.2.2, K11], by simp (disch := omega) only [go_sem, e2, e4, e8, e10, e32, e33, e34, T6, K6, z4.1, z4.2.1, z4.2.2, w4.1, w4.2.1, w4.2.2, zu.1, zu.2.1, zu.2.2, zb.1, zb.2.1, zb.2.2, storeH, storeB, splice, T6', K6', T7, K7, hap, len4, K9, z9.1, z9.2.1, z9.2.2, T10, K10, hap2, z11.1, z11.2.1, z11.2.2, K11] <;> rfl, ⟨vm4, v9, v11, S12.pk (A := [_, _, _, _, _]) [0, 4, 2, 1] rfl⟩⟩
end Go.Av

namespace Go.Av
open Go.Proofs Go.RowKit
set_option linter.unusedVariables false
set_option linter.unusedSimpArgs false
set_option maxRecDepth 100000
set_option maxHeartbeats 4000000
structure StoreIn (s : Store) : Prop where
  cap : 1 ≤ s.cap ∧ s.cap ≤ 5000
  charge : 0 ≤ s.charge ∧ s.charge ≤ s.cap
  on : 1 ≤ s.on ∧ s.on ≤ s.cap
  leak : 0 ≤ s.leak ∧ s.leak ≤ 100
theorem storeIn {s : Store} (h : storeOk s = true) : StoreIn s := by
  simp only [storeOk, within, Bool.and_eq_true, decide_eq_true_eq] at h
  exact ⟨h.1.1.1, h.1.1.2, h.1.2, h.2⟩
def isHarvest (n : Int) : Bool := within n 0 1000
def tickM (s : Store) (n : Int) : Store := ⟨max 0 (min (s.charge + n - s.leak) s.cap), s.cap, s.on, s.leak⟩
theorem tickIn {s : Store} (n : Int) (h : StoreIn s) : StoreIn (tickM s n) := ⟨h.cap, by have := h.cap; show 0 ≤ max 0 (min (s.charge + n - s.leak) s.cap) ∧ max 0 (min (s.charge + n - s.leak) s.cap) ≤ s.cap; omega, h.on, h.leak⟩
def emptied (s : Store) : Store := ⟨0, s.cap, s.on, s.leak⟩
theorem emptiedIn {s : Store} (h : StoreIn s) : StoreIn (emptied s) := ⟨h.cap, by have := h.cap; show (0 : Int) ≤ 0 ∧ 0 ≤ s.cap; omega, h.on, h.leak⟩
def enM : Store → List Int → List Int
  | _, [] => []
  | s, n :: ns => if s.on ≤ (tickM s n).charge then (tickM s n).charge :: enM (emptied (tickM s n)) ns else enM (tickM s n) ns
theorem enM_drop {hs : List Int} {k : Nat} (h : k < hs.length) (s : Store) : enM s (hs.drop k) = if s.on ≤ (tickM s hs[k]).charge then (tickM s hs[k]).charge :: enM (emptied (tickM s hs[k])) (hs.drop (k + 1)) else enM (tickM s hs[k]) (hs.drop (k + 1)) := by
  rw [List.drop_eq_getElem_cons h]; rfl
theorem enM_len : ∀ (hs : List Int) (s : Store), (enM s hs).length ≤ hs.length
  | [], s => Nat.le_refl _
  | n :: ns, s => by
    unfold enM
    have h1 := enM_len ns (emptied (tickM s n))
    have h2 := enM_len ns (tickM s n)
    split <;> simp <;> omega
def harvOk (s : Store) (hs : List Int) : Bool := storeOk s && decide ((hs.length : Int) ≤ 500) && hs.all isHarvest
theorem isHarvest_c (n : Int) : CP Tryz.prog 233 [.int .i64 n] (.bool (isHarvest n)) [] := by
  refine CP.by rfl mixed (cfn_ok Tryz.func233 ok233) rfl ?_
  simp (disch := omega) only [s233, go_sem]
  refine CP.go (within_c _ _ _) rfl rfl ?_
  simp (disch := omega) only [go_sem]
  rfl
theorem notHarvest_c (n : Int) : CP Tryz.prog 232 [.int .i64 n] (.bool (!isHarvest n)) [] := by
  refine CP.by rfl mixed (cfn_ok Tryz.func232 ok232) rfl ?_
  simp (disch := omega) only [s232, go_sem]
  refine CP.go (isHarvest_c _) rfl rfl ?_
  simp (disch := omega) only [go_sem]
theorem areHarvests_c (hs : List Int) (hl : hs.length ≤ 9223372036854775807) : CP Tryz.prog 188 [.lst 1 (hs.map encI)] (.bool (hs.all isHarvest)) [] := by
  refine CP.by rfl mixed (cfn_ok Tryz.func188 ok188) rfl ?_
  simp (disch := omega) only [s188, go_sem]
  refine CP.go (containsI_c 232 (fun e => !isHarvest e) hs (fun z _ => notHarvest_c z) hl) rfl (refs_ints _ _ _ rfl) ?_
  simp (disch := omega) only [go_sem]
  rw [List.not_any_eq_all_not]; simp
theorem clamp0_c (x cap : Int) (h : 0 ≤ cap) : CP Tryz.prog 234 [.int .i64 x, .int .i64 0, .int .i64 cap] (.int .i64 (max 0 (min x cap))) [] := by
  refine CP.by rfl mixed (cfn_ok Tryz.func234 ok234) rfl ?_
  simp (disch := omega) only [s234, go_sem]
  refine congrArg (V.int .i64) ?_
  omega
theorem tick_c (h : Heap) (id : Nat) (s : Store) (n : Int) (hid : h[id]? = some [encStore s]) (hs : StoreIn s) (hn : 0 ≤ n ∧ n ≤ 1000) : C Tryz.prog 189 [.ptr id 1 0 0, .int .i64 n] h (fun r h' => r = .tup [] ∧ h' = h.set id [encStore (tickM s n)]) := by
  have h1 := hs.cap
  have h2 := hs.charge
  have h3 := hs.leak
  obtain ⟨charge, cap, on, leak⟩ := s
  simp only at h1 h2 h3
  refine C.by mixed (cfn_ok Tryz.func189 ok189) rfl ?_
  simp (disch := omega) only [s189, go_sem, storeH, storeB, splice, hid, encStore]
  refine CP.go (clamp0_c _ cap (by omega)) rfl rfl ?_
  simp (disch := omega) only [go_sem, storeH, storeB, splice, hid, encStore]
  rfl
theorem harv_at {hs : List Int} {k : Nat} (h : hs.all isHarvest = true) (hk : k < hs.length) : 0 ≤ hs[k] ∧ hs[k] ≤ 1000 := by
  have := List.all_eq_true.1 h hs[k] (List.getElem_mem hk)
  simpa [isHarvest, within] using this
def Part (s : Store) (hs : List Int) (k : Nat) (t : Store) (cs : List Int) : Prop := StoreIn t ∧ cs.length ≤ k ∧ cs ++ enM t (hs.drop k) = enM s hs
theorem part_add {s t : Store} {hs cs : List Int} {k : Nat} (hk : k < hs.length) (h : Part s hs k t cs) (hc : t.on ≤ (tickM t hs[k]).charge) : Part s hs (k + 1) (emptied (tickM t hs[k])) (cs ++ [(tickM t hs[k]).charge]) := by
  obtain ⟨h1, h2, h3⟩ := h
  rw [enM_drop hk, if_pos hc] at h3
  exact ⟨emptiedIn (tickIn _ h1), by simp; omega, by simpa using h3⟩
theorem part_go {s t : Store} {hs cs : List Int} {k : Nat} (hk : k < hs.length) (h : Part s hs k t cs) (hc : ¬ t.on ≤ (tickM t hs[k]).charge) : Part s hs (k + 1) (tickM t hs[k]) cs := by
  obtain ⟨h1, h2, h3⟩ := h
  rw [enM_drop hk, if_neg hc] at h3
  exact ⟨tickIn _ h1, by omega, h3⟩
theorem part_end {s t : Store} {hs cs : List Int} (h : Part s hs hs.length t cs) : cs = enM s hs := by
  have := h.2.2
  rw [List.drop_length] at this
  simpa [enM] using this
theorem harvested_c (s : Store) (hs : List Int) (ho : harvOk s hs = true) (H0 : Heap) : C Tryz.prog 130 [.agg (encStore s), .lst 1 (hs.map encI)] H0 (fun r h' => ∃ (w : Int) (id : Nat), r = .tup [.own id 1 0 (enM s hs).length (enM s hs).length, .int .i64 w, .bool true] ∧ h'[id]? = some ((enM s hs).map encI)) := by
  have hf : storeOk s = true ∧ (hs.length : Int) ≤ 500 ∧ hs.all isHarvest = true := by
    simp only [harvOk, Bool.and_eq_true, decide_eq_true_eq] at ho
    exact ⟨ho.1.1, ho.1.2, ho.2⟩
  have hok := hf.1
  have h500 := hf.2.1
  have hall := hf.2.2
  refine C.by mixed (cfn_ok Tryz.func130 ok130) rfl ?_
  simp (disch := omega) only [s130, go_sem, encStore]
  refine CP.go (storeOk_c s) rfl rfl ?_
  simp (disch := omega) only [go_sem, hok]
  refine CP.go (areHarvests_c hs (by omega)) rfl (refs_int1 _ _) ?_
  simp (disch := omega) only [go_sem, hok, hall]
  have hs1 : StoreIn s := storeIn hok
  refine loopP_intro (fun m q => ∃ (k : Nat), k ≤ hs.length ∧ m = hs.length - k ∧ q.e 25 = .lst 1 (hs.map encI) ∧ q.e 26 = .int .i64 hs.length ∧ q.e 2 = .ptr H0.length 1 0 0 ∧ q.e 27 = .int .i64 k ∧ ∃ (t : Store) (cs : List Int) (l : Nat), q.e 7 = .own l 1 0 cs.length cs.length ∧ q.h[l]? = some (cs.map encI) ∧ q.h[H0.length]? = some [encStore t] ∧ Part s hs k t cs ∧ H0.length < l ∧ ∃ w, q.e 8 = .int .i64 w) hs.length ⟨0, by omega, by omega, by simp (disch := omega) only [go_sem, hok, hall], by simp (disch := omega) only [go_sem, hok, hall], by simp (disch := omega) only [go_sem, hok, hall], by simp (disch := omega) only [go_sem, hok, hall]; rfl, s, [], H0.length + 1, by simp (disch := omega) only [go_sem, hok, hall], by simp (disch := omega) only [go_sem, hok, hall], by simp (disch := omega) only [go_sem, hok, hall]; rfl, ⟨hs1, by simp, rfl⟩, by omega, 0, by simp (disch := omega) only [go_sem, hok, hall]⟩ ?_
  rintro m e hp ⟨k, hk, rfl, e25, e26, e2, e27, t, cs, l, e7, hl1, hb1, hpt, hlh, w, e8⟩
  simp only at e25 e26 e2 e27 e8 e7 hl1 hb1
  simp (disch := omega) only [go_sem, e25, e26, e2, e27, e8, e7, hb1, encI, encStore]
  refine condP_dec (fun hlt => ?_) (fun hlt => ?_)
  · have hlt' : k < hs.length := by omega
    have hn := harv_at hall hlt'
    have hb2 : ∀ c, (hp.set H0.length c)[H0.length]? = some c := fun c => heap_set _ hb1
    have hl2 : ∀ c, (hp.set H0.length c)[l]? = some (cs.map encI) := fun c => heap_set_ne _ (by omega) hl1
    simp (disch := omega) only [go_sem, e25, e26, e2, e27, e8, e7, hb1, encI, encStore]
    refine C.go (tick_c hp _ t hs[k] hb1 hpt.1 hn) ?_
    rintro r h' ⟨rfl, rfl⟩
    have on_eq : (tickM t hs[k]).on = t.on := rfl
    simp (disch := omega) only [go_sem, e25, e26, e2, e27, e8, e7, hb2, on_eq, encI, encStore, storeH, storeB, splice]
    refine condP_dec (fun hc => ?_) (fun hc => ?_)
    · simp (disch := omega) only [go_sem, e25, e26, e2, e27, e8, e7, hb2, on_eq, encI, encStore, storeH, storeB, splice]
      have ha := fun b c => append1 (sz := 1) (bytes := 8) (c := c) (hl2 b) (n := cs.length) (by simp) (by have := hpt.2.1; omega)
      have A1 : ∀ b x d, ((hp.set H0.length b ++ x).set l d)[H0.length]? = some b := fun b x d => heap_set_ne _ (by omega) (heap_app (hb2 b))
      simp (disch := omega) only [go_sem, e25, e26, e2, e27, e8, e7, hb2, A1, ha, on_eq, encI, encStore, storeH, storeB, splice]
      refine nextP_intro (hs.length - (k + 1)) (by omega) ⟨k + 1, by omega, rfl, ?_, ?_, ?_, ?_, emptied (tickM t hs[k]), cs ++ [(tickM t hs[k]).charge], l, ?_, ?_, ?_, part_add hlt' hpt hc, hlh, ?_⟩
      · simp (disch := omega) only [go_sem, e25, e26, e2, e27, e8, e7, hb2, A1, ha, on_eq, encI, encStore, storeH, storeB, splice]
      · simp (disch := omega) only [go_sem, e25, e26, e2, e27, e8, e7, hb2, A1, ha, on_eq, encI, encStore, storeH, storeB, splice]
      · simp (disch := omega) only [go_sem, e25, e26, e2, e27, e8, e7, hb2, A1, ha, on_eq, encI, encStore, storeH, storeB, splice]
      · simp (disch := omega) only [go_sem, e25, e26, e2, e27, e8, e7, hb2, A1, ha, on_eq, encI, encStore, storeH, storeB, splice]; rfl
      · simp (disch := omega) only [go_sem, e25, e26, e2, e27, e8, e7, hb2, A1, ha, on_eq, encI, encStore, storeH, storeB, splice] <;> simp
      · rw [List.map_append]; exact heap_set_ne _ (by omega) (heap_set _ (heap_app (hl2 _)))
      · exact heap_set _ (A1 _ _ _)
      · exact ⟨_, by simp (disch := omega) only [go_sem, e25, e26, e2, e27, e8, e7, hb2, A1, ha, on_eq, encI, encStore, storeH, storeB, splice]; rfl⟩
    · simp (disch := omega) only [go_sem, e25, e26, e2, e27, e8, e7, hb2, on_eq, encI, encStore, storeH, storeB, splice]
      refine nextP_intro (hs.length - (k + 1)) (by omega) ⟨k + 1, by omega, rfl, ?_, ?_, ?_, ?_, tickM t hs[k], cs, l, ?_, hl2 _, hb2 _, part_go hlt' hpt hc, hlh, ?_⟩
      · simp (disch := omega) only [go_sem, e25, e26, e2, e27, e8, e7, hb2, on_eq, encI, encStore, storeH, storeB, splice]
      · simp (disch := omega) only [go_sem, e25, e26, e2, e27, e8, e7, hb2, on_eq, encI, encStore, storeH, storeB, splice]
      · simp (disch := omega) only [go_sem, e25, e26, e2, e27, e8, e7, hb2, on_eq, encI, encStore, storeH, storeB, splice]
      · simp (disch := omega) only [go_sem, e25, e26, e2, e27, e8, e7, hb2, on_eq, encI, encStore, storeH, storeB, splice]; rfl
      · simp (disch := omega) only [go_sem, e25, e26, e2, e27, e8, e7, hb2, on_eq, encI, encStore, storeH, storeB, splice]
      · exact ⟨_, by simp (disch := omega) only [go_sem, e25, e26, e2, e27, e8, e7, hb2, on_eq, encI, encStore, storeH, storeB, splice]; rfl⟩
  · simp (disch := omega) only [go_sem, e25, e26, e2, e27, e8, e7, hb1, encI, encStore]
    have : k = hs.length := by omega
    subst this
    have he := part_end hpt
    subst he
    exact ⟨_, l, rfl, hl1⟩
theorem Sep.ofBlk {h : Heap} {id : Nat} {b : Blk} (hb : h[id]? = some b) : Sep h [.k id b] := ⟨[id], by simp, [id], [], rfl, ⟨rfl, hb⟩, rfl⟩
theorem energies_f (s : Store) (hs : List Int) (ho : harvOk s hs = true) : F Tryz.prog 66 [.agg (encStore s), .lst 1 (hs.map encI)] (.tup [.lst 1 ((enM s hs).map encI), .bool true]) := by
  refine C.by mixed (cfn_ok Tryz.func66 ok66) rfl ?_
  simp (disch := omega) only [s66, go_sem, encStore]
  refine C.go (harvested_c s hs ho _) ?_
  rintro r h' ⟨w, id, rfl, hid⟩
  simp (disch := omega) only [go_sem]
  have A1 := Sep.ofFlat (sz := 1) (n := (enM s hs).length) (Sep.ofBlk hid) (by simp) (flat_encI _)
  exact (Sep.cons2 (fun es e => by cases e) (Sep.sw (Sep.lb (z := true) (Sep.l0 A1)))).t.ret
theorem commits_c (s : Store) (hs : List Int) (ho : harvOk s hs = true) : CP Tryz.prog 19 [.agg (encStore s), .lst 1 (hs.map encI)] (.int .i64 (min 60 ((enM s hs).length : Int))) [] := by
  have hl : (enM s hs).length ≤ 500 := by
    have := enM_len hs s
    simp only [harvOk, Bool.and_eq_true, decide_eq_true_eq] at ho
    omega
  refine CP.by rfl mixed (cfn_ok Tryz.func19 ok19) rfl ?_
  simp (disch := omega) only [s19, go_sem, encStore]
  refine (Sep.nil [[encStore s]]).goLstB (energies_f s hs ho) (.same (by simp [V.refsL, V.refs, encStore, refsLL_map encI (fun _ => rfl) hs])) fun v1 h1 x1 S1 o1 n1 c1 => ?_
  have len1 := fun G => (S1.lst 0 rfl).elim fun i o => o.len_ G
  simp only [List.length_map] at len1
  simp (disch := omega) only [go_sem, o1, n1, c1, len1]
end Go.Av

namespace Go.Av
open Go.Proofs Go.RowKit
set_option linter.unusedVariables false
set_option linter.unusedSimpArgs false
set_option maxRecDepth 100000
set_option maxHeartbeats 4000000
theorem new_c (bs : List Int) (h : Heap) (hb : bs.length ≤ 1048576) : C Tryz.prog 59 [.lst 1 (bs.map encB)] h (fun r h' => r = .ptr h.length 1 0 0 ∧ Ext h h' ∧ Cur h' h.length) := by
  refine C.by mixed (cfn_ok Tryz.func59 ok59) rfl ?_
  simp (disch := omega) only [s59, go_sem]
  refine loopP_intro (fun m s => ∃ (k : Nat), k ≤ bs.length ∧ m = bs.length - k ∧ s.e 0 = .lst 1 (bs.map encB) ∧ s.e 4 = .int .i64 k ∧ s.h = h ∧ ∃ x, s.e 3 = .int .i64 x) bs.length ⟨0, by omega, by omega, rfl, rfl, rfl, _, by simp (disch := omega) only [go_sem]; rfl⟩ ?_
  rintro m e hp ⟨k, hk, rfl, e0, e4, hh, x, e3⟩
  simp only at e0 e4 e3 hh
  subst hh
  simp (disch := omega) only [go_sem, e0, e4, e3, encB, splice]
  have hend : Ext hp (hp ++ [[[V.lst 1 (bs.map encB), .int .i64 0, .int .i64 x]]]) ∧ Cur (hp ++ [[[V.lst 1 (bs.map encB), .int .i64 0, .int .i64 x]]]) hp.length := ⟨Ext.app _ _, bs, 0, x, by simp, by omega, by omega, hb⟩
  refine condP_dec (fun hlt => ?_) (fun hlt => ?_)
  · have hlt' : k < bs.length := by omega
    simp (disch := omega) only [go_sem, e0, e4, e3, encB, splice]
    refine condP_dec (fun h4 => ?_) (fun h4 => ?_)
    · simp (disch := omega) only [go_sem, e0, e4, e3, encB, splice]
      refine nextP_intro (bs.length - (k + 1)) (by omega) ⟨k + 1, by omega, rfl, ?_, ?_, rfl, ?_⟩
      · simp (disch := omega) only [go_sem, e0, e4, e3, encB, splice]
      · simp (disch := omega) only [go_sem, e0, e4, e3, encB, splice]; rfl
      · exact ⟨_, by simp (disch := omega) only [go_sem, e0, e4, e3, encB, splice]; rfl⟩
    · simp (disch := omega) only [go_sem, e0, e4, e3, encB, splice]
      exact hend
  · simp (disch := omega) only [go_sem, e0, e4, e3, encB, splice]
    exact hend
theorem byte_c (h : Heap) (id : Nat) (hc : Cur h id) : DI Tryz.prog 132 [.ptr id 1 0 0] h id 0 256 := by
  obtain ⟨bs, i, hh, e1, hi0, hi1, hb⟩ := hc
  refine C.by mixed (cfn_ok Tryz.func132 ok132) rfl ?_
  have hs : ∀ c, (h.set id c)[id]? = some c := fun c => heap_set c e1
  simp (disch := omega) only [s132, go_sem, e1, encB, storeH, storeB, splice, hs, List.set_set]
  refine condP_dec (fun hlt => ?_) (fun hlt => ?_)
  · simp (disch := omega) only [go_sem, e1, encB, storeH, storeB, splice, hs, List.set_set]
    exact ⟨_, rfl, (and_255 _).1, and_255_lt _, ⟨bs, i + 1, _, hs _, by omega, by omega, hb⟩, ExtX.set _ _ _⟩
  · simp (disch := omega) only [go_sem, e1, encB, storeH, storeB, splice, hs, List.set_set]
    exact ⟨_, rfl, (and_255 _).1, and_255_lt _, ⟨bs, i, _, hs _, by omega, by omega, hb⟩, ExtX.set _ _ _⟩
theorem below_c (h : Heap) (id : Nat) (n : Int) (hc : Cur h id) (hn : n ≤ 4294967296) : DI Tryz.prog 74 [.ptr id 1 0 0, .int .i64 n] h id 0 (max 1 n) := by
  refine C.by mixed (cfn_ok Tryz.func74 ok74) rfl ?_
  simp (disch := omega) only [s74, go_sem]
  refine condP_dec (fun h0 => ?_) (fun h0 => ?_)
  · simp (disch := omega) only [go_sem]
    exact ⟨0, rfl, by omega, by omega, hc, ExtX.refl _ _⟩
  · simp (disch := omega) only [go_sem]
    refine condP_dec (fun h1 => ?_) (fun h1 => ?_)
    · simp (disch := omega) only [go_sem]
      refine DI.go (byte_c _ _ hc) fun z h1 z0 z1 c1 x1 => ?_
      simp (disch := omega) only [go_sem]
      have := tmod_bd (n := n) z0 (by omega)
      exact ⟨_, rfl, this.1, by omega, c1, x1⟩
    · simp (disch := omega) only [go_sem]
      refine DI.go (byte_c _ _ hc) fun a h1 a0 a1 c1 x1 => ?_
      simp (disch := omega) only [go_sem]
      refine DI.go (byte_c _ _ c1) fun b h2 b0 b1 c2 x2 => ?_
      simp (disch := omega) only [go_sem]
      refine DI.go (byte_c _ _ c2) fun c h3 c0 c1' c3 x3 => ?_
      simp (disch := omega) only [go_sem]
      refine DI.go (byte_c _ _ c3) fun d h4 d0 d1 c4 x4 => ?_
      simp (disch := omega) only [go_sem]
      have := tmod_bd (a := a * 16777216 + b * 65536 + c * 256 + d) (n := n) (by omega) (by omega)
      exact ⟨_, rfl, this.1, by omega, c4, ((x1.trans c1 x2).trans c2 x3).trans c3 x4⟩
def DB (P : Program) (f : FuncId) (args : List V) (h : Heap) (id : Nat) : Prop := C P f args h (fun r h' => ∃ b, r = .bool b ∧ Cur h' id ∧ ExtX id h h')
theorem DB.go {P : Program} {f : FuncId} {args : List V} {h : Heap} {id : Nat} {K : V → Heap → Prop} (hc : DB P f args h id) (hk : ∀ b h', Cur h' id → ExtX id h h' → K (.bool b) h') : @callP P f args h ⟨K⟩ :=
  C.go hc fun r h' ⟨z, e, c, d⟩ => by subst e; exact hk z h' c d
theorem once_c (h : Heap) (id : Nat) (n : Int) (hc : Cur h id) (hn : n ≤ 4294967296) : DB Tryz.prog 229 [.ptr id 1 0 0, .int .i64 n] h id := by
  refine C.by mixed (cfn_ok Tryz.func229 ok229) rfl ?_
  simp (disch := omega) only [s229, go_sem]
  refine DI.go (below_c _ _ _ hc hn) fun z h1 z0 z1 c1 x1 => ?_
  simp (disch := omega) only [go_sem]
  exact ⟨_, rfl, c1, x1⟩
theorem pick_c (h : Heap) (id lid : Nat) (zs : List Int) (n : Nat) (hc : Cur h id) (hl : h[lid]? = some (zs.map encI)) (hne : lid ≠ id) (hz : zs.length = n) (h0 : 0 < n) (hn : n ≤ 4294967296) : C Tryz.prog 129 [.ptr id 1 0 0, .own lid 1 0 n n] h (fun r h' => ∃ z, r = .int .i64 z ∧ z ∈ zs ∧ Cur h' id ∧ ExtX id h h') := by
  refine C.by mixed (cfn_ok Tryz.func129 ok129) rfl ?_
  simp (disch := omega) only [s129, go_sem]
  refine DI.go (below_c _ _ _ hc (by omega)) fun z h1 z0 z1 c1 x1 => ?_
  have hl1 := x1.get hl hne
  have hlt : z.toNat < zs.length := by omega
  have hg : zs[z.toNat]? = some zs[z.toNat] := List.getElem?_eq_getElem hlt
  simp (disch := omega) only [go_sem, hl1, hz, hg, List.getElem?_map, encI]
  exact ⟨_, rfl, List.getElem_mem hlt, c1, x1⟩
end Go.Av

namespace Go.Av
open Go.Proofs Go.RowKit
set_option linter.unusedVariables false
set_option linter.unusedSimpArgs false
set_option maxRecDepth 100000
set_option maxHeartbeats 4000000
def Tr.app : Tr → Tr → Tr
  | .nil, b => b
  | .one s r, b => .one s (r.app b)
  | .grp s a r, b => .grp s a (r.app b)
def Tr.dep : Tr → Nat
  | .nil => 0
  | .one _ r => r.dep
  | .grp _ a r => max (a.dep + 1) r.dep
theorem Tr.app_flat : ∀ a b : Tr, (a.app b).flat = a.flat ++ b.flat
  | .nil, b => rfl
  | .one s r, b => by simp [Tr.app, Tr.flat, Tr.app_flat r b]
  | .grp s a r, b => by simp [Tr.app, Tr.flat, Tr.app_flat r b]
theorem Tr.app_ok : ∀ {a b : Tr}, a.ok = true → b.ok = true → (a.app b).ok = true
  | .nil, b, _, h => h
  | .one s r, b, h, h' => by
    simp only [Tr.ok, Bool.and_eq_true] at h
    simp only [Tr.app, Tr.ok, Bool.and_eq_true]
    exact ⟨h.1, Tr.app_ok h.2 h'⟩
  | .grp s a r, b, h, h' => by
    simp only [Tr.ok, Bool.and_eq_true] at h
    simp only [Tr.app, Tr.ok, Bool.and_eq_true]
    exact ⟨h.1, Tr.app_ok h.2 h'⟩
theorem Tr.app_dep : ∀ (a b : Tr), (a.app b).dep = max a.dep b.dep
  | .nil, b => by simp [Tr.app, Tr.dep]
  | .one s r, b => by simp [Tr.app, Tr.dep, Tr.app_dep r b]
  | .grp s a r, b => by simp only [Tr.app, Tr.dep, Tr.app_dep r b]; omega
theorem blockFrom_cons (d : Int) (s : Stmt) (xs : List Stmt) : blockFrom d (s :: xs) = if stmtOk s = true ∧ 0 ≤ d + delta s.kind ∧ d + delta s.kind ≤ 3 then blockFrom (d + delta s.kind) xs else false := rfl
theorem blockFrom_tree : ∀ (t : Tr) (d : Int) (v : List Stmt), t.ok = true → 0 ≤ d → d + t.dep ≤ 3 → blockFrom d (t.flat ++ v) = blockFrom d v
  | .nil, d, v, _, _, _ => rfl
  | .one s r, d, v, h, h0, h3 => by
    obtain ⟨hs, hk, hr⟩ := Tr.one_ok h
    have hd : delta s.kind = 0 := by rw [delta_of, if_neg (by omega), if_neg (by omega)]
    simp only [Tr.dep] at h3
    simp only [Tr.flat, List.cons_append]
    rw [blockFrom_cons, hd, Int.add_zero, if_pos ⟨hs, h0, by omega⟩]
    exact blockFrom_tree r d v hr h0 h3
  | .grp s a r, d, v, h, h0, h3 => by
    obtain ⟨hs, hk, ha, hr⟩ := Tr.grp_ok h
    have hd : delta s.kind = 1 := by rw [delta_of, if_pos hk]
    have he : delta endS.kind = -1 := by rw [delta_of]; rfl
    have hes : stmtOk endS = true := by decide
    simp only [Tr.dep] at h3
    simp only [Tr.flat, List.cons_append, List.append_assoc]
    rw [blockFrom_cons, hd, if_pos ⟨hs, by omega, by omega⟩, blockFrom_tree a (d + 1) _ ha (by omega) (by omega), blockFrom_cons, he, if_pos ⟨hes, by omega, by omega⟩, show d + 1 + -1 = d by omega]
    exact blockFrom_tree r d v hr h0 (by omega)
theorem tree_blockOk {t : Tr} (h : t.ok = true) (hd : t.dep ≤ 3) (hl : t.flat.length ≤ 24) : blockOk t.flat = true := by
  have := blockFrom_tree t 0 [] h (by omega) (by omega)
  rw [List.append_nil] at this
  simp only [blockOk, this, Bool.and_eq_true, decide_eq_true_eq]
  exact ⟨by decide, by omega⟩
theorem Sep.goBelow {h : Heap} {id : Nat} {n : Int} {L : List It} {K : V → Heap → Prop} (S : Sep h (.c id :: L)) (hn : n ≤ 4294967296) (hk : ∀ z h', 0 ≤ z → z < max 1 n → Sep h' (.c id :: L) → K (.int .i64 z) h') : @callP Tryz.prog 74 [.ptr id 1 0 0, .int .i64 n] h ⟨K⟩ :=
  S.goDI (below_c h id n S.cur hn) hk
theorem Sep.goOnce {h : Heap} {id : Nat} {n : Int} {L : List It} {K : V → Heap → Prop} (S : Sep h (.c id :: L)) (hn : n ≤ 4294967296) (hk : ∀ b h', Sep h' (.c id :: L) → K (.bool b) h') : @callP Tryz.prog 229 [.ptr id 1 0 0, .int .i64 n] h ⟨K⟩ :=
  (once_c h id n S.cur hn).go fun b h' c x => hk b h' (S.curX c x)
theorem Sep.goPick {h : Heap} {id lid n : Nat} {zs : List Int} {L : List It} {K : V → Heap → Prop} (S : Sep h (.c id :: .k lid (zs.map encI) :: L)) (hz : zs.length = n) (h0 : 0 < n) (hn : n ≤ 4294967296) (hk : ∀ z h', z ∈ zs → Sep h' (.c id :: L) → K (.int .i64 z) h') : @callP Tryz.prog 129 [.ptr id 1 0 0, .own lid 1 0 n n] h ⟨K⟩ := by
  have hne : lid ≠ id := by
    obtain ⟨ids, nd, i, j, rfl, ⟨rfl, c⟩, i2, j2, rfl, ⟨rfl, e⟩, s⟩ := S
    intro e; subst e
    simp at nd
  refine C.go (pick_c h id lid zs n S.cur (S.blk 1 rfl) hne hz h0 hn) ?_
  rintro r h' ⟨z, rfl, hm, c, x⟩
  exact hk z h' hm ((S.curX c x).drop 1)
theorem operand_d {h : Heap} {id : Nat} {L : List It} (S : Sep h (.c id :: L)) : C Tryz.prog 186 [.ptr id 1 0 0] h (fun r h' => ∃ z, r = .int .i64 z ∧ operandOk z = true ∧ Sep h' (.c id :: L)) := by
  refine C.by mixed (cfn_ok Tryz.func186 ok186) rfl ?_
  simp (disch := omega) only [s186, go_sem]
  refine S.goOnce (by omega) fun b h1 S1 => ?_
  simp (disch := omega) only [go_sem]
  refine condP_split (fun hb => ?_) (fun hb => ?_)
  · simp (disch := omega) only [go_sem]
    refine S1.goBelow (by omega) fun z h2 z0 z1 S2 => ?_
    simp (disch := omega) only [go_sem]
    exact ⟨_, rfl, by simp [operandOk, within]; omega, S2⟩
  · simp (disch := omega) only [go_sem]
    have S2 : Sep (h1 ++ [[0, 1, 2, 3, 10, 999].map encI]) (.c id :: .k h1.length ([0, 1, 2, 3, 10, 999].map encI) :: L) := (S1.newK _).perm (.swap _ _ _)
    refine S2.goPick rfl (by omega) (by omega) fun z h3 hm S3 => ?_
    simp (disch := omega) only [go_sem]
    refine ⟨_, rfl, ?_, S3⟩
    simp only [List.mem_cons, List.not_mem_nil, or_false] at hm
    simp [operandOk, within]; omega
theorem expr_d {h : Heap} {id : Nat} {L : List It} (S : Sep h (.c id :: L)) : C Tryz.prog 127 [.ptr id 1 0 0] h (fun r h' => ∃ e : Expr, r = .agg (encExpr e) ∧ exprOk e = true ∧ Sep h' (.c id :: L)) := by
  refine C.by mixed (cfn_ok Tryz.func127 ok127) rfl ?_
  simp (disch := omega) only [s127, go_sem]
  have S0 := (S.newK [[.int .i64 0, .int .i64 0, .int .i64 0]]).perm (.swap _ _ _)
  refine S0.goBelow (by omega) fun o h1 o0 o1 S1 => ?_
  simp (disch := omega) only [go_sem]
  refine C.go (operand_d S1) ?_
  rintro r h2 ⟨a, rfl, ha, S2⟩
  simp (disch := omega) only [go_sem]
  refine C.go (operand_d S2) ?_
  rintro r h3 ⟨b, rfl, hb, S3⟩
  have K3 := S3.blk 1 rfl
  simp (disch := omega) only [go_sem, storeH, storeB, splice, K3, heap_set]
  refine ⟨⟨1 + o, a, b⟩, rfl, ?_, (S3.sw.setK _).drop1⟩
  simp [exprOk, ha, hb, within]; omega
theorem stmt_d {h : Heap} {id : Nat} {L : List It} (S : Sep h (.c id :: L)) : C Tryz.prog 230 [.ptr id 1 0 0] h (fun r h' => ∃ s : Stmt, r = .agg (encStmt s) ∧ stmtOk s = true ∧ (s.kind = 1 ∨ s.kind = 2 ∨ s.kind = 3) ∧ Sep h' (.c id :: L)) := by
  refine C.by mixed (cfn_ok Tryz.func230 ok230) rfl ?_
  simp (disch := omega) only [s230, go_sem]
  have S0 := (S.newK [[.int .i64 0, .int .i64 0, .int .i64 0, .int .i64 0, .int .i64 0, .int .i64 0]]).sw
  refine S0.goBelow (by omega) fun o h1 o0 o1 S1 => ?_
  simp (disch := omega) only [go_sem]
  have fin : ∀ (h3 : Heap) (s : Stmt), Sep h3 (.c id :: .k h.length [[.int .i64 0, .int .i64 0, .int .i64 0, .int .i64 0, .int .i64 0, .int .i64 0]] :: L) → Sep (h3.set h.length [encStmt s]) (.c id :: L) := fun h3 s S3 => (S3.sw.setK _).drop1
  have eok : ∀ {e : Expr}, exprOk e = true → exprOk e = true := fun h => h
  repeat' (first | (refine condP_t (by assumption) ?_ <;> (try simp (disch := omega) only [go_sem])) | (refine condP_f (by assumption) ?_ <;> (try simp (disch := omega) only [go_sem])) | (refine condP_dec (fun h => ?_) (fun h => ?_) <;> (try simp (disch := omega) only [go_sem])) | (refine condP_split (fun h => ?_) (fun h => ?_) <;> (try simp (disch := omega) only [go_sem])))
  all_goals first
    | (refine S1.goBelow (by omega) fun v h2 v0 v1 S2 => ?_
       simp (disch := omega) only [go_sem]
       refine S2.goBelow (by omega) fun n h3 n0 n1 S3 => ?_
       have K3 := S3.blk 1 rfl
       simp (disch := omega) only [go_sem, storeH, storeB, splice, K3, heap_set]
       exact ⟨⟨2, v, n, ⟨0, 0, 0⟩⟩, rfl, by simp [stmtOk, hasVar, hasExpr, isVar, isSensor, within]; omega, by simp, fin h3 ⟨2, v, n, ⟨0, 0, 0⟩⟩ S3⟩)
    | (refine C.go (expr_d S1) ?_
       rintro r h2 ⟨e, rfl, he, S2⟩
       have K3 := S2.blk 1 rfl
       simp (disch := omega) only [go_sem, storeH, storeB, splice, K3, heap_set, encExpr]
       exact ⟨⟨3, 0, 0, e⟩, rfl, by simp [stmtOk, hasVar, hasExpr, he, within], by simp, fin h2 ⟨3, 0, 0, e⟩ S2⟩)
    | (refine S1.goBelow (by omega) fun v h2 v0 v1 S2 => ?_
       simp (disch := omega) only [go_sem]
       refine C.go (expr_d S2) ?_
       rintro r h3 ⟨e, rfl, he, S3⟩
       have K3 := S3.blk 1 rfl
       simp (disch := omega) only [go_sem, storeH, storeB, splice, K3, heap_set, encExpr]
       exact ⟨⟨1, v, 0, e⟩, rfl, by simp [stmtOk, hasVar, hasExpr, isVar, he, within]; omega, by simp, fin h3 ⟨1, v, 0, e⟩ S3⟩)
def BlockD (d n : Nat) (lim : Nat) : Prop := ∀ (ni di : Int) (h : Heap) (id : Nat) (L : List It), ni = n → di = d → Sep h (.c id :: L) → C Tryz.prog 185 [.ptr id 1 0 0, .int .i64 ni, .int .i64 di] h (fun r h' => ∃ (t : Tr) (l : Nat), r = .own l 6 0 t.flat.length t.flat.length ∧ t.ok = true ∧ t.dep ≤ 2 - d ∧ t.flat.length ≤ lim ∧ Sep h' (.k l (t.flat.map encStmt) :: .c id :: L))
theorem flat_snoc1 (t : Tr) (s : Stmt) : (t.app (.one s .nil)).flat.map encStmt = t.flat.map encStmt ++ [encStmt s] ∧ (t.app (.one s .nil)).flat.length = t.flat.length + 1 := by simp [Tr.app_flat, Tr.flat]
theorem flat_snocG (t : Tr) (s : Stmt) (a : Tr) : (t.app (.grp s a .nil)).flat.map encStmt = ((t.flat.map encStmt ++ [encStmt s]) ++ a.flat.map encStmt) ++ [encStmt endS] ∧ (t.app (.grp s a .nil)).flat.length = t.flat.length + 1 + a.flat.length + 1 := by
  refine ⟨by simp [Tr.app_flat, Tr.flat], by simp [Tr.app_flat, Tr.flat]; omega⟩
theorem block_step (d n m : Nat) (hd : d ≤ 2) (hn : n ≤ 8) (hm : m ≤ 1000) (ih : d < 2 → ∀ n', 1 ≤ n' → n' ≤ 2 → BlockD (d + 1) n' m) : BlockD d n ((if d < 2 then 7 + m else 0) + n) := by
  intro ni di h id L hni hdi S
  subst hni hdi
  refine C.by mixed (cfn_ok Tryz.func185 ok185) rfl ?_
  simp (disch := omega) only [s185, go_sem]
  have S0 : Sep (h ++ [[]]) (.k h.length ((Tr.nil).flat.map encStmt) :: .c id :: L) := S.newK []
  refine loopP_intro (fun q s => ∃ (k l : Nat) (t : Tr), k ≤ n ∧ q = n - k ∧ s.e 0 = .ptr id 1 0 0 ∧ s.e 1 = .int .i64 n ∧ s.e 2 = .int .i64 d ∧ s.e 7 = .own l 6 0 t.flat.length t.flat.length ∧ s.e 8 = .int .i64 k ∧ t.ok = true ∧ t.dep ≤ 2 - d ∧ t.flat.length ≤ (if d < 2 then 7 + m else 0) + k ∧ Sep s.h (.k l (t.flat.map encStmt) :: .c id :: L)) n ⟨0, h.length, .nil, by omega, by omega, by simp (disch := omega) only [go_sem], by simp (disch := omega) only [go_sem], by simp (disch := omega) only [go_sem], by simp (disch := omega) only [go_sem] <;> rfl, by simp (disch := omega) only [go_sem] <;> rfl, rfl, by simp [Tr.dep], by simp [Tr.flat], S0⟩ ?_
  rintro q e hp ⟨k, l, t, hk, rfl, e0, e1, e2, e7, e8, ht, htd, htl, S1⟩
  simp only at e0 e1 e2 e7 e8 S1
  have hbig : (if d < 2 then 7 + m else 0) + k ≤ 2000 := by split <;> omega
  simp (disch := omega) only [go_sem, e0, e1, e2, e7, e8]
  refine condP_dec (fun hlt => ?_) (fun hlt => ?_)
  case' refine_2 =>
    have : k = n := by omega
    subst this
    simp (disch := omega) only [go_sem, e0, e1, e2, e7, e8]
    exact ⟨t, l, rfl, ht, htd, htl, S1⟩
  have hlt' : k < n := by omega
  refine (Nat.lt_or_ge d 2).elim (fun hd2 => ?_) (fun hd2 => ?_)
  case' refine_1 =>
    simp (disch := omega) only [go_sem, e0, e1, e2, e7, e8]
    refine condP_dec (fun h6 => ?_) (fun h6 => ?_)
    case' refine_1 =>
      simp (disch := omega) only [go_sem, e0, e1, e2, e7, e8]
      refine S1.sw.goOnce (by omega) fun b h1 S2 => ?_
      simp (disch := omega) only [go_sem, e0, e1, e2, e7, e8]
      refine condP_split (fun hb => ?_) (fun hb => ?_)
      case' refine_1 =>
        have fin : ∀ (e' : Nat → V) (hh : Heap) (s : Stmt) (a : Tr), stmtOk s = true → (s.kind = 4 ∨ s.kind = 5) → a.ok = true → a.dep ≤ 2 - (d + 1) → a.flat.length ≤ m → e' 0 = .ptr id 1 0 0 → e' 1 = .int .i64 n → e' 2 = .int .i64 d → e' 7 = .own l 6 0 (t.flat.length + 1 + a.flat.length + 1) (t.flat.length + 1 + a.flat.length + 1) → e' 8 = .int .i64 ((k : Int) + 1) → Sep hh (.k l (((t.flat.map encStmt ++ [encStmt s]) ++ a.flat.map encStmt) ++ [encStmt endS]) :: .c id :: L) → @nextP (n - k) ⟨e', hh⟩ ⟨fun q s => ∃ (k l : Nat) (t : Tr), k ≤ n ∧ q = n - k ∧ s.e 0 = .ptr id 1 0 0 ∧ s.e 1 = .int .i64 n ∧ s.e 2 = .int .i64 d ∧ s.e 7 = .own l 6 0 t.flat.length t.flat.length ∧ s.e 8 = .int .i64 k ∧ t.ok = true ∧ t.dep ≤ 2 - d ∧ t.flat.length ≤ (if d < 2 then 7 + m else 0) + k ∧ Sep s.h (.k l (t.flat.map encStmt) :: .c id :: L)⟩ := fun e' hh s a a1 a2 a3 a4 a5 a6 a7 a8 a9 b1 b2 => by
          have z := flat_snocG t s a
          have hok : (Tr.grp s a .nil).ok = true := by
            simp only [Tr.ok, a1, a3, Bool.true_and, Bool.and_true, Bool.or_eq_true, decide_eq_true_eq]; exact a2
          refine nextP_intro (n - (k + 1)) (by omega) ⟨k + 1, l, t.app (.grp s a .nil), by omega, rfl, a6, a7, a8, by rw [z.2]; exact a9, b1, Tr.app_ok ht hok, ?_, ?_, by rw [z.1]; exact b2⟩
          · rw [Tr.app_dep]; simp only [Tr.dep]; omega
          · rw [z.2, if_pos hd2]; omega
        simp (disch := omega) only [go_sem, e0, e1, e2, e7, e8]
        refine S2.goBelow (by omega) fun z h2 z0 z1 S3 => ?_
        simp (disch := omega) only [go_sem, e0, e1, e2, e7, e8, splice]
        have S4 := (S3.newK [encStmt ⟨5, 0, 1 + z, ⟨0, 0, 0⟩⟩]).sw
        simp only [encStmt] at S4
        refine S4.goOnce (n := 2) (by omega) fun b2 h3 S5 => ?_
        simp (disch := omega) only [go_sem, e0, e1, e2, e7, e8]
        refine condP_split (fun hb2 => ?_) (fun hb2 => ?_)
        case' refine_1 =>
          simp (disch := omega) only [go_sem, e0, e1, e2, e7, e8]
          refine C.go (expr_d S5) ?_
          rintro r h4 ⟨ex, rfl, hex, S6'⟩
          have K6 := S6'.blk 1 rfl
          have S6 := (S6'.sw.setK [encStmt ⟨4, 0, 0, ex⟩]).sw
          simp only [encStmt] at S6
          have hs : stmtOk ⟨4, 0, 0, ex⟩ = true := by simp [stmtOk, hasVar, hasExpr, hex, within]
          have hs4 : (⟨4, 0, 0, ex⟩ : Stmt).kind = 4 ∨ (⟨4, 0, 0, ex⟩ : Stmt).kind = 5 := .inl rfl
          have hap := append1 (sz := 6) (bytes := 48) (n := t.flat.length) (c := [.int .i64 4, .int .i64 0, .int .i64 0, .int .i64 ex.op, .int .i64 ex.a, .int .i64 ex.b]) (S6.blk 2 rfl) (by simp) (by omega)
          have S7 := (S6.drop 1).sw.push1 [.int .i64 4, .int .i64 0, .int .i64 0, .int .i64 ex.op, .int .i64 ex.a, .int .i64 ex.b]
          have fin2 := fun e' hh => fin e' hh ⟨4, 0, 0, ex⟩
          simp only [encStmt] at fin2
          simp (disch := omega) only [go_sem, storeH, storeB, splice, K6, heap_set, encExpr, hap, e0, e1, e2, e7, e8]
        case' refine_2 =>
          have S6 := S5
          have K6 := S5.blk 1 rfl
          have hs : stmtOk ⟨5, 0, 1 + z, ⟨0, 0, 0⟩⟩ = true := by simp [stmtOk, hasVar, hasExpr, within]; omega
          have hs4 : (⟨5, 0, 1 + z, ⟨0, 0, 0⟩⟩ : Stmt).kind = 4 ∨ (⟨5, 0, 1 + z, ⟨0, 0, 0⟩⟩ : Stmt).kind = 5 := .inr rfl
          have hap := append1 (sz := 6) (bytes := 48) (n := t.flat.length) (c := [.int .i64 5, .int .i64 0, .int .i64 (1 + z), .int .i64 0, .int .i64 0, .int .i64 0]) (S6.blk 2 rfl) (by simp) (by omega)
          have S7 := (S6.drop 1).sw.push1 [.int .i64 5, .int .i64 0, .int .i64 (1 + z), .int .i64 0, .int .i64 0, .int .i64 0]
          have fin2 := fun e' hh => fin e' hh ⟨5, 0, 1 + z, ⟨0, 0, 0⟩⟩
          simp only [encStmt] at fin2
          simp (disch := omega) only [go_sem, K6, hap, e0, e1, e2, e7, e8]
        all_goals
          refine S7.sw.goBelow (by omega) fun w h8 w0 w1 S8 => ?_
          simp (disch := omega) only [go_sem, e0, e1, e2, e7, e8]
          refine Exists.elim (show ∃ n' : Nat, 1 + w = n' ∧ 1 ≤ n' ∧ n' ≤ 2 from ⟨(1 + w).toNat, by omega, by omega, by omega⟩) fun n' hn' => ?_
          refine C.go (ih hd2 n' hn'.2.1 hn'.2.2 _ _ _ _ _ hn'.1 (by omega) S8) ?_
          intro r h9 P
          refine Exists.elim P fun a P => Exists.elim P fun l2 P => ?_
          have hr := P.1
          have ha := P.2.1
          have had := P.2.2.1
          have hal := P.2.2.2.1
          have S9 := P.2.2.2.2
          clear P
          subst hr
          have hap2 := appendH_n (sz := 6) (bytes := 48) (n := t.flat.length + 1) (m := a.flat.length) (S9.blk 2 rfl) (by simp) (elemsOf_n (sz := 6) (n := a.flat.length) (S9.blk 0 rfl) (by simp)) (by simp) (by omega)
          have S10 := S9.drop1.sw.setApp (a.flat.map encStmt)
          have hap3 := append1 (sz := 6) (bytes := 48) (n := t.flat.length + 1 + a.flat.length) (c := [.int .i64 6, .int .i64 0, .int .i64 0, .int .i64 0, .int .i64 0, .int .i64 0]) (S10.blk 0 rfl) (by simp; omega) (by omega)
          have S11 := S10.push1 [.int .i64 6, .int .i64 0, .int .i64 0, .int .i64 0, .int .i64 0, .int .i64 0]
          simp only [List.append_assoc, List.cons_append, List.nil_append] at hap3 S11 fin2
          simp (disch := omega) only [go_sem, hap2, hap3, splice, e0, e1, e2, e7, e8]
          exact fin2 _ _ a hs (by simp) ha had hal (by simp (disch := omega) only [go_sem, hap2, hap3, splice, e0, e1, e2, e7, e8]) (by simp (disch := omega) only [go_sem, hap2, hap3, splice, e0, e1, e2, e7, e8]) (by simp (disch := omega) only [go_sem, hap2, hap3, splice, e0, e1, e2, e7, e8]) (by simp (disch := omega) only [go_sem, hap2, hap3, splice, e0, e1, e2, e7, e8]) (by simp (disch := omega) only [go_sem, hap2, hap3, splice, e0, e1, e2, e7, e8] <;> rfl) S11
  all_goals
    have fin : ∀ (e' : Nat → V) (hh : Heap) (s : Stmt), stmtOk s = true → (s.kind = 1 ∨ s.kind = 2 ∨ s.kind = 3) → e' 0 = .ptr id 1 0 0 → e' 1 = .int .i64 n → e' 2 = .int .i64 d → e' 7 = .own l 6 0 (t.flat.length + 1) (t.flat.length + 1) → e' 8 = .int .i64 ((k : Int) + 1) → Sep hh (.k l (t.flat.map encStmt ++ [encStmt s]) :: .c id :: L) → @nextP (n - k) ⟨e', hh⟩ ⟨fun q s => ∃ (k l : Nat) (t : Tr), k ≤ n ∧ q = n - k ∧ s.e 0 = .ptr id 1 0 0 ∧ s.e 1 = .int .i64 n ∧ s.e 2 = .int .i64 d ∧ s.e 7 = .own l 6 0 t.flat.length t.flat.length ∧ s.e 8 = .int .i64 k ∧ t.ok = true ∧ t.dep ≤ 2 - d ∧ t.flat.length ≤ (if d < 2 then 7 + m else 0) + k ∧ Sep s.h (.k l (t.flat.map encStmt) :: .c id :: L)⟩ := fun e' hh s a1 a2 a6 a7 a8 a9 b1 b2 => by
      have z := flat_snoc1 t s
      have hok : (Tr.one s .nil).ok = true := by
        simp only [Tr.ok, a1, Bool.true_and, Bool.and_true, Bool.or_eq_true, decide_eq_true_eq]; omega
      refine nextP_intro (n - (k + 1)) (by omega) ⟨k + 1, l, t.app (.one s .nil), by omega, rfl, a6, a7, a8, by rw [z.2]; exact a9, b1, Tr.app_ok ht hok, ?_, ?_, by rw [z.1]; exact b2⟩
      · rw [Tr.app_dep]; simp only [Tr.dep]; omega
      · rw [z.2]; omega
  case' refine_1.refine_1.refine_1 => have S2' := S2
  case' refine_1.refine_1.refine_2 => have S2' := S1.sw
  case' refine_1.refine_2 => have S2' := S1.sw
  all_goals
    simp (disch := omega) only [go_sem, e0, e1, e2, e7, e8]
    refine C.go (stmt_d S2') ?_
    rintro r h3 ⟨s, rfl, hs, hk3, S3⟩
    have hap := append1 (sz := 6) (bytes := 48) (n := t.flat.length) (c := encStmt s) (S3.blk 1 rfl) (by simp) (by omega)
    have S4 := S3.sw.push1 (encStmt s)
    simp only [encStmt] at hap S4
    simp (disch := omega) only [go_sem, hap, encStmt, e0, e1, e2, e7, e8]
    exact fin _ _ s hs hk3 (by simp (disch := omega) only [go_sem, hap, encStmt, e0, e1, e2, e7, e8]) (by simp (disch := omega) only [go_sem, hap, encStmt, e0, e1, e2, e7, e8]) (by simp (disch := omega) only [go_sem, hap, encStmt, e0, e1, e2, e7, e8]) (by simp (disch := omega) only [go_sem, hap, encStmt, e0, e1, e2, e7, e8]) (by simp (disch := omega) only [go_sem, hap, encStmt, e0, e1, e2, e7, e8] <;> rfl) S4
end Go.Av

namespace Go.Av
open Go.Proofs Go.RowKit
set_option linter.unusedVariables false
set_option linter.unusedSimpArgs false
set_option maxRecDepth 100000
set_option maxHeartbeats 4000000
def GoodB (t : Tr) : Prop := t.ok = true ∧ t.dep ≤ 2 ∧ t.flat.length ≤ 24
theorem BlockD.mono {d n l l' : Nat} (h : BlockD d n l) (hl : l ≤ l') : BlockD d n l' := fun ni di hh id L h1 h2 S => C.mono (h ni di hh id L h1 h2 S) fun r h' ⟨t, q, a, b, c, e, f⟩ => ⟨t, q, a, b, c, by omega, f⟩
theorem block0_d (n : Nat) (hn : n ≤ 5) : BlockD 0 n 24 := by
  have b2 : ∀ n', 1 ≤ n' → n' ≤ 2 → BlockD 2 n' 2 := fun n' h1 h2 => (block_step 2 n' 0 (by omega) (by omega) (by omega) (fun h => absurd h (by omega))).mono (by simp; omega)
  have b1 : ∀ n', 1 ≤ n' → n' ≤ 2 → BlockD 1 n' 11 := fun n' h1 h2 => (block_step 1 n' 2 (by omega) (by omega) (by omega) (fun _ => b2)).mono (by simp; omega)
  exact (block_step 0 n 11 (by omega) (by omega) (by omega) (fun _ => b1)).mono (by simp; omega)
theorem case_d {h : Heap} {id : Nat} {L : List It} (S : Sep h (.c id :: L)) : C Tryz.prog 126 [.ptr id 1 0 0] h (fun r h' => ∃ (t : Tr) (l : Nat), r = .own l 6 0 t.flat.length t.flat.length ∧ GoodB t ∧ Sep h' (.k l (t.flat.map encStmt) :: .c id :: L)) := by
  refine C.by mixed (cfn_ok Tryz.func126 ok126) rfl ?_
  simp (disch := omega) only [s126, go_sem]
  refine S.goBelow (n := 6) (by omega) fun z h1 z0 z1 S1 => ?_
  simp (disch := omega) only [go_sem]
  refine C.go (block0_d z.toNat (by omega) _ _ _ _ _ (by omega) rfl S1) ?_
  rintro r h2 ⟨t, l, rfl, h1, h2, h3, S2⟩
  simp (disch := omega) only [go_sem]
  exact ⟨t, l, rfl, ⟨h1, h2, h3⟩, S2⟩
theorem good_task {t : Tr} {e : Expr} (h : GoodB t) (he : exprOk e = true) : taskOk ⟨t.flat, e⟩ = true := by
  simp only [taskOk, Bool.and_eq_true]
  exact ⟨tree_blockOk h.1 (by have := h.2.1; omega) h.2.2, he⟩
theorem push_task (ts : List Task) (t : Task) : (ts ++ [t]).map encTask = ts.map encTask ++ [encTask t] := by simp
theorem program_d {h : Heap} {id : Nat} {L : List It} (S : Sep h (.c id :: L)) : C Tryz.prog 60 [.ptr id 1 0 0] h (fun r h' => ∃ (ts : List Task) (v : V), r = .agg [v] ∧ (1 ≤ ts.length ∧ ts.length ≤ 3) ∧ (∀ t ∈ ts, taskOk t = true) ∧ Sep h' (.v (.lst 4 (ts.map encTask)) v :: .c id :: L)) := by
  refine C.by mixed (cfn_ok Tryz.func60 ok60) rfl ?_
  simp (disch := omega) only [s60, go_sem, storeH, storeB, splice]
  have S0 : Sep (h ++ [[[V.nils]], [[V.nils]]]) (.k (h.length + 1) [[.nils]] :: .v (.lst 4 (([] : List Task).map encTask)) .nils :: .c id :: .k h.length [[.nils]] :: L) := by
    have := ((S.newK [[.nils]]).newK [[.nils]]).nils (sz := 4)
    simp only [List.append_assoc, List.cons_append, List.nil_append, List.length_append, List.length_cons, List.length_nil] at this
    exact this.pk (A := [_, _, _, _]) [1, 0, 3, 2] rfl
  refine loopP_intro (fun m s => ∃ (ts : List Task) (v : V), ts.length ≤ 3 ∧ m = 3 - ts.length ∧ s.e 0 = .ptr id 1 0 0 ∧ s.e 2 = .ptr h.length 1 0 0 ∧ s.e 3 = .ptr (h.length + 1) 1 0 0 ∧ s.e 4 = .int .i64 ts.length ∧ (∀ t ∈ ts, taskOk t = true) ∧ Sep s.h (.k (h.length + 1) [[v]] :: .v (.lst 4 (ts.map encTask)) v :: .c id :: .k h.length [[.nils]] :: L)) 3 ⟨[], .nils, by simp, rfl, by simp (disch := omega) only [go_sem, storeH, storeB, splice], by simp (disch := omega) only [go_sem, storeH, storeB, splice], by simp (disch := omega) only [go_sem, storeH, storeB, splice], by simp (disch := omega) only [go_sem, storeH, storeB, splice] <;> rfl, by simp, S0⟩ ?_
  intro m e hp P
  refine Exists.elim P fun ts P => Exists.elim P fun v P => ?_
  have hk := P.1
  have hm := P.2.1
  have e0 := P.2.2.1
  have e2 := P.2.2.2.1
  have e3 := P.2.2.2.2.1
  have e4 := P.2.2.2.2.2.1
  have hok := P.2.2.2.2.2.2.1
  have S1 := P.2.2.2.2.2.2.2
  clear P
  subst hm
  simp only at e0 e2 e3 e4 S1
  simp (disch := omega) only [go_sem, e0, e2, e3, e4]
  refine (S1.pull 2).goBelow (n := 3) (by omega) fun z h1 z0 z1 S2 => ?_
  simp (disch := omega) only [go_sem, e0, e2, e3, e4]
  refine condP_dec (fun hlt => ?_) (fun hlt => ?_)
  · have hlt' : ts.length < 3 := by omega
    have K2 := S2.blk 1 rfl
    have zv := S2.vv 2 rfl
    simp (disch := omega) only [go_sem, e0, e2, e3, e4, K2, zv.1, zv.2.1, zv.2.2]
    refine C.go (case_d S2) ?_
    rintro r h3 ⟨t, l, rfl, hg, S3⟩
    have K3 := S3.blk 2 rfl
    simp (disch := omega) only [go_sem, e0, e2, e3, e4, K3, zv.1, zv.2.1, zv.2.2]
    refine C.go (expr_d (S3.pull 1)) ?_
    rintro r h4 ⟨ex, rfl, hex, S4⟩
    have K4 := S4.blk 2 rfl
    have K4' := fun t => heap_app (h' := t) K4
    have tl := good_task hg hex
    have S5 := (((S4.pull 1).ofFlat (sz := 6) (n := t.flat.length) (by simp) (flat_Stmt _)).mkTask (t := ⟨t.flat, ex⟩)).newK [[.own l 6 0 t.flat.length t.flat.length, .int .i64 ex.op, .int .i64 ex.a, .int .i64 ex.b]]
    have S6 := S5.pk (A := [_, _, _, _, _]) [4, 1, 3, 2] rfl
    have hpu := Sep.push (bytes := 48) (L := .k (h.length + 1) [[v]] :: .c id :: .k h.length [[.nils]] :: L) S6 (S5.blk 0 rfl) (by simp; omega)
    refine Exists.elim hpu fun v' q => Exists.elim q fun h5 q => ?_
    have hap := q.1
    have S7 := q.2
    clear q hpu
    have K7 := S7.blk 1 rfl
    have zv' := S7.vv 0 rfl
    rw [← push_task ts ⟨t.flat, ex⟩] at S7
    simp (disch := omega) only [go_sem, e0, e2, e3, e4, K4, K4', zv.1, zv.2.1, zv.2.2, encExpr, hap, K7, zv'.1, zv'.2.1, zv'.2.2, storeH, storeB, splice]
    have S8 := ((S7.pull 1).setK [[v']])
    refine nextP_intro (3 - (ts.length + 1)) (by omega) ⟨ts ++ [(⟨t.flat, ex⟩ : Task)], v', by simp; omega, by simp, by simp (disch := omega) only [go_sem, e0, e2, e3, e4, K4, K4', zv.1, zv.2.1, zv.2.2, encExpr, hap, K7, zv'.1, zv'.2.1, zv'.2.2, storeH, storeB, splice], by simp (disch := omega) only [go_sem, e0, e2, e3, e4, K4, K4', zv.1, zv.2.1, zv.2.2, encExpr, hap, K7, zv'.1, zv'.2.1, zv'.2.2, storeH, storeB, splice], by simp (disch := omega) only [go_sem, e0, e2, e3, e4, K4, K4', zv.1, zv.2.1, zv.2.2, encExpr, hap, K7, zv'.1, zv'.2.1, zv'.2.2, storeH, storeB, splice], by simp (disch := omega) only [go_sem, e0, e2, e3, e4, K4, K4', zv.1, zv.2.1, zv.2.2, encExpr, hap, K7, zv'.1, zv'.2.1, zv'.2.2, storeH, storeB, splice] <;> simp, ?_, S8⟩
    intro u hu
    rcases List.mem_append.1 hu with q | q
    · exact hok u q
    · rw [List.mem_singleton.1 q]; exact tl
  · have K2 := S2.blk 1 rfl
    have K3 := S2.blk 3 rfl
    have c1 : ∀ d, (h1.set h.length d)[h.length]? = some d := fun d => heap_set _ K3
    have zv := S2.vv 2 rfl
    simp (disch := omega) only [go_sem, e0, e2, e3, e4, K2, K3, c1, zv.1, zv.2.1, zv.2.2, storeH, storeB, splice]
    exact ⟨ts, v, rfl, ⟨by omega, hk⟩, hok, (((S2.pull 3).setK [[v]]).pk (A := [_, _, _, _]) [3, 1] rfl)⟩
end Go.Av

namespace Go.Av
open Go.Proofs Go.RowKit
set_option linter.unusedVariables false
set_option linter.unusedSimpArgs false
set_option maxRecDepth 100000
set_option maxHeartbeats 4000000
theorem push_int (zs : List Int) (z : Int) : (zs ++ [z]).map encI = zs.map encI ++ [[.int .i64 z]] := by simp [encI]
theorem all_snoc {p : Int → Prop} {zs : List Int} {z : Int} (h : ∀ x ∈ zs, p x) (hz : p z) : ∀ x ∈ zs ++ [z], p x := fun x hx => by
  rcases List.mem_append.1 hx with q | q
  · exact h x q
  · rw [List.mem_singleton.1 q]; exact hz
theorem vars_d {h : Heap} {id : Nat} {L : List It} (S : Sep h (.c id :: L)) : C Tryz.prog 73 [.ptr id 1 0 0] h (fun r h' => ∃ (zs : List Int) (l : Nat), r = .own l 1 0 zs.length zs.length ∧ zs.length = 8 ∧ (∀ z ∈ zs, -1000000 ≤ z ∧ z ≤ 1000000) ∧ Sep h' (.k l (zs.map encI) :: .c id :: L)) := by
  refine C.by mixed (cfn_ok Tryz.func73 ok73) rfl ?_
  simp (disch := omega) only [s73, go_sem]
  have S0 : Sep (h ++ [[]]) (.k h.length (([] : List Int).map encI) :: .c id :: L) := S.newK []
  refine loopP_intro (fun m s => ∃ (zs : List Int) (l : Nat), zs.length ≤ 8 ∧ m = 8 - zs.length ∧ s.e 0 = .ptr id 1 0 0 ∧ s.e 3 = .own l 1 0 zs.length zs.length ∧ s.e 4 = .int .i64 zs.length ∧ (∀ z ∈ zs, -1000000 ≤ z ∧ z ≤ 1000000) ∧ Sep s.h (.k l (zs.map encI) :: .c id :: L)) 8 ⟨[], h.length, by simp, rfl, by simp (disch := omega) only [go_sem], by simp (disch := omega) only [go_sem] <;> rfl, by simp (disch := omega) only [go_sem] <;> rfl, by simp, S0⟩ ?_
  intro m e hp P
  refine Exists.elim P fun zs P => Exists.elim P fun l P => ?_
  have hk := P.1
  have hm := P.2.1
  have e0 := P.2.2.1
  have e3 := P.2.2.2.1
  have e4 := P.2.2.2.2.1
  have hz := P.2.2.2.2.2.1
  have S1 := P.2.2.2.2.2.2
  clear P
  subst hm
  simp only at e0 e3 e4 S1
  simp (disch := omega) only [go_sem, e0, e3, e4]
  have S2 := S1.sw
  refine condP_dec (fun hlt => ?_) (fun hlt => ?_)
  · have hlt' : zs.length < 8 := by omega
    simp (disch := omega) only [go_sem, e0, e3, e4]
    refine S2.goBelow (n := 2000) (by omega) fun x h3 x0 x1 S3 => ?_
    simp (disch := omega) only [go_sem, e0, e3, e4]
    have S4 : Sep (h3 ++ [[0, 1, 2, 5, x - 1000, 1000000].map encI]) (.c id :: .k h3.length ([0, 1, 2, 5, x - 1000, 1000000].map encI) :: .k l (zs.map encI) :: L) := (S3.newK _).perm (.swap _ _ _)
    refine S4.goPick rfl (by omega) (by omega) fun v h9 hv S9 => ?_
    simp only [List.mem_cons, List.not_mem_nil, or_false] at hv
    simp (disch := omega) only [go_sem, e0, e3, e4]
    have hap := append1 (sz := 1) (bytes := 8) (n := zs.length) (c := [.int .i64 v]) (S9.blk 1 rfl) (by simp) (by omega)
    have S10 := S9.sw.push1 [.int .i64 v]
    rw [← push_int] at hap S10
    simp (disch := omega) only [go_sem, hap, e0, e3, e4]
    refine nextP_intro (8 - (zs.length + 1)) (by omega) ⟨zs ++ [v], l, by simp; omega, by simp, by simp (disch := omega) only [go_sem, hap, e0, e3, e4], by simp (disch := omega) only [go_sem, hap, e0, e3, e4] <;> simp, by simp (disch := omega) only [go_sem, hap, e0, e3, e4] <;> simp, all_snoc hz (by simp at *; omega), S10⟩
  · simp (disch := omega) only [go_sem, e0, e3, e4]
    exact ⟨zs, l, rfl, by omega, hz, S2.sw⟩
theorem readings_d {h : Heap} {id : Nat} {L : List It} (S : Sep h (.c id :: L)) : C Tryz.prog 65 [.ptr id 1 0 0] h (fun r h' => ∃ (zs : List Int) (l : Nat), r = .own l 1 0 zs.length zs.length ∧ (1 ≤ zs.length ∧ zs.length ≤ 9) ∧ (∀ z ∈ zs, -200 ≤ z ∧ z ≤ 600) ∧ Sep h' (.k l (zs.map encI) :: .c id :: L)) := by
  refine C.by mixed (cfn_ok Tryz.func65 ok65) rfl ?_
  simp (disch := omega) only [s65, go_sem]
  have S0 : Sep (h ++ [[]]) (.k h.length (([] : List Int).map encI) :: .c id :: L) := S.newK []
  refine loopP_intro (fun m s => ∃ (zs : List Int) (l : Nat), zs.length ≤ 9 ∧ m = 9 - zs.length ∧ s.e 0 = .ptr id 1 0 0 ∧ s.e 3 = .own l 1 0 zs.length zs.length ∧ s.e 4 = .int .i64 zs.length ∧ (∀ z ∈ zs, -200 ≤ z ∧ z ≤ 600) ∧ Sep s.h (.k l (zs.map encI) :: .c id :: L)) 9 ⟨[], h.length, by simp, rfl, by simp (disch := omega) only [go_sem], by simp (disch := omega) only [go_sem] <;> rfl, by simp (disch := omega) only [go_sem] <;> rfl, by simp, S0⟩ ?_
  intro m e hp P
  refine Exists.elim P fun zs P => Exists.elim P fun l P => ?_
  have hk := P.1
  have hm := P.2.1
  have e0 := P.2.2.1
  have e3 := P.2.2.2.1
  have e4 := P.2.2.2.2.1
  have hz := P.2.2.2.2.2.1
  have S1 := P.2.2.2.2.2.2
  clear P
  subst hm
  simp only at e0 e3 e4 S1
  simp (disch := omega) only [go_sem, e0, e3, e4]
  refine S1.sw.goBelow (n := 9) (by omega) fun w h1 w0 w1 S2 => ?_
  simp (disch := omega) only [go_sem, e0, e3, e4]
  refine condP_dec (fun hlt => ?_) (fun hlt => ?_)
  · have hlt' : zs.length < 9 := by omega
    simp (disch := omega) only [go_sem, e0, e3, e4]
    refine S2.goBelow (n := 800) (by omega) fun x h9 x0 x1 S9 => ?_
    simp (disch := omega) only [go_sem, e0, e3, e4]
    have hap := append1 (sz := 1) (bytes := 8) (n := zs.length) (c := [.int .i64 (x - 200)]) (S9.blk 1 rfl) (by simp) (by omega)
    have S10 := S9.sw.push1 [.int .i64 (x - 200)]
    rw [← push_int] at hap S10
    simp (disch := omega) only [go_sem, hap, e0, e3, e4]
    refine nextP_intro (9 - (zs.length + 1)) (by omega) ⟨zs ++ [(x - 200)], l, by simp; omega, by simp, by simp (disch := omega) only [go_sem, hap, e0, e3, e4], by simp (disch := omega) only [go_sem, hap, e0, e3, e4] <;> simp, by simp (disch := omega) only [go_sem, hap, e0, e3, e4] <;> simp, all_snoc hz (by simp at *; omega), S10⟩
  · simp (disch := omega) only [go_sem, e0, e3, e4]
    exact ⟨zs, l, rfl, by omega, hz, S2.sw⟩
theorem energies_d {h : Heap} {id : Nat} {L : List It} (S : Sep h (.c id :: L)) : C Tryz.prog 110 [.ptr id 1 0 0] h (fun r h' => ∃ (zs : List Int) (l : Nat), r = .own l 1 0 zs.length zs.length ∧ zs.length ≤ 8 ∧ (∀ z ∈ zs, 0 ≤ z ∧ z ≤ 250) ∧ Sep h' (.k l (zs.map encI) :: .c id :: L)) := by
  refine C.by mixed (cfn_ok Tryz.func110 ok110) rfl ?_
  simp (disch := omega) only [s110, go_sem]
  have S0 : Sep (h ++ [[]]) (.k h.length (([] : List Int).map encI) :: .c id :: L) := S.newK []
  refine loopP_intro (fun m s => ∃ (zs : List Int) (l : Nat), zs.length ≤ 8 ∧ m = 8 - zs.length ∧ s.e 0 = .ptr id 1 0 0 ∧ s.e 3 = .own l 1 0 zs.length zs.length ∧ s.e 4 = .int .i64 zs.length ∧ (∀ z ∈ zs, 0 ≤ z ∧ z ≤ 250) ∧ Sep s.h (.k l (zs.map encI) :: .c id :: L)) 8 ⟨[], h.length, by simp, rfl, by simp (disch := omega) only [go_sem], by simp (disch := omega) only [go_sem] <;> rfl, by simp (disch := omega) only [go_sem] <;> rfl, by simp, S0⟩ ?_
  intro m e hp P
  refine Exists.elim P fun zs P => Exists.elim P fun l P => ?_
  have hk := P.1
  have hm := P.2.1
  have e0 := P.2.2.1
  have e3 := P.2.2.2.1
  have e4 := P.2.2.2.2.1
  have hz := P.2.2.2.2.2.1
  have S1 := P.2.2.2.2.2.2
  clear P
  subst hm
  simp only at e0 e3 e4 S1
  simp (disch := omega) only [go_sem, e0, e3, e4]
  refine S1.sw.goBelow (n := 9) (by omega) fun w h1 w0 w1 S2 => ?_
  simp (disch := omega) only [go_sem, e0, e3, e4]
  refine condP_dec (fun hlt => ?_) (fun hlt => ?_)
  · have hlt' : zs.length < 8 := by omega
    simp (disch := omega) only [go_sem, e0, e3, e4]
    have S4 : Sep (h1 ++ [[12, 60, 250].map encI]) (.c id :: .k h1.length ([12, 60, 250].map encI) :: .k l (zs.map encI) :: L) := (S2.newK _).perm (.swap _ _ _)
    refine S4.goPick rfl (by omega) (by omega) fun v h4 hv S5 => ?_
    simp only [List.mem_cons, List.not_mem_nil, or_false] at hv
    simp (disch := omega) only [go_sem, e0, e3, e4]
    refine S5.goBelow (n := v) (by omega) fun x h9 x0 x1 S9 => ?_
    simp (disch := omega) only [go_sem, e0, e3, e4]
    have hap := append1 (sz := 1) (bytes := 8) (n := zs.length) (c := [.int .i64 x]) (S9.blk 1 rfl) (by simp) (by omega)
    have S10 := S9.sw.push1 [.int .i64 x]
    rw [← push_int] at hap S10
    simp (disch := omega) only [go_sem, hap, e0, e3, e4]
    refine nextP_intro (8 - (zs.length + 1)) (by omega) ⟨zs ++ [x], l, by simp; omega, by simp, by simp (disch := omega) only [go_sem, hap, e0, e3, e4], by simp (disch := omega) only [go_sem, hap, e0, e3, e4] <;> simp, by simp (disch := omega) only [go_sem, hap, e0, e3, e4] <;> simp, all_snoc hz (by simp at *; omega), S10⟩
  · simp (disch := omega) only [go_sem, e0, e3, e4]
    exact ⟨zs, l, rfl, by omega, hz, S2.sw⟩
theorem harvest_d {h : Heap} {id : Nat} {L : List It} (S : Sep h (.c id :: L)) : C Tryz.prog 64 [.ptr id 1 0 0] h (fun r h' => ∃ (zs : List Int) (l : Nat), r = .own l 1 0 zs.length zs.length ∧ zs.length ≤ 11 ∧ (∀ z ∈ zs, 0 ≤ z ∧ z ≤ 400) ∧ Sep h' (.k l (zs.map encI) :: .c id :: L)) := by
  refine C.by mixed (cfn_ok Tryz.func64 ok64) rfl ?_
  simp (disch := omega) only [s64, go_sem]
  have S0 : Sep (h ++ [[]]) (.k h.length (([] : List Int).map encI) :: .c id :: L) := S.newK []
  refine loopP_intro (fun m s => ∃ (zs : List Int) (l : Nat), zs.length ≤ 11 ∧ m = 11 - zs.length ∧ s.e 0 = .ptr id 1 0 0 ∧ s.e 3 = .own l 1 0 zs.length zs.length ∧ s.e 4 = .int .i64 zs.length ∧ (∀ z ∈ zs, 0 ≤ z ∧ z ≤ 400) ∧ Sep s.h (.k l (zs.map encI) :: .c id :: L)) 11 ⟨[], h.length, by simp, rfl, by simp (disch := omega) only [go_sem], by simp (disch := omega) only [go_sem] <;> rfl, by simp (disch := omega) only [go_sem] <;> rfl, by simp, S0⟩ ?_
  intro m e hp P
  refine Exists.elim P fun zs P => Exists.elim P fun l P => ?_
  have hk := P.1
  have hm := P.2.1
  have e0 := P.2.2.1
  have e3 := P.2.2.2.1
  have e4 := P.2.2.2.2.1
  have hz := P.2.2.2.2.2.1
  have S1 := P.2.2.2.2.2.2
  clear P
  subst hm
  simp only at e0 e3 e4 S1
  simp (disch := omega) only [go_sem, e0, e3, e4]
  refine S1.sw.goBelow (n := 12) (by omega) fun w h1 w0 w1 S2 => ?_
  simp (disch := omega) only [go_sem, e0, e3, e4]
  refine condP_dec (fun hlt => ?_) (fun hlt => ?_)
  · have hlt' : zs.length < 11 := by omega
    simp (disch := omega) only [go_sem, e0, e3, e4]
    have S4 : Sep (h1 ++ [[0, 20, 100, 400].map encI]) (.c id :: .k h1.length ([0, 20, 100, 400].map encI) :: .k l (zs.map encI) :: L) := (S2.newK _).perm (.swap _ _ _)
    refine S4.goPick rfl (by omega) (by omega) fun v h9 hv S9 => ?_
    simp only [List.mem_cons, List.not_mem_nil, or_false] at hv
    simp (disch := omega) only [go_sem, e0, e3, e4]
    have hap := append1 (sz := 1) (bytes := 8) (n := zs.length) (c := [.int .i64 v]) (S9.blk 1 rfl) (by simp) (by omega)
    have S10 := S9.sw.push1 [.int .i64 v]
    rw [← push_int] at hap S10
    simp (disch := omega) only [go_sem, hap, e0, e3, e4]
    refine nextP_intro (11 - (zs.length + 1)) (by omega) ⟨zs ++ [v], l, by simp; omega, by simp, by simp (disch := omega) only [go_sem, hap, e0, e3, e4], by simp (disch := omega) only [go_sem, hap, e0, e3, e4] <;> simp, by simp (disch := omega) only [go_sem, hap, e0, e3, e4] <;> simp, all_snoc hz (by simp at *; omega), S10⟩
  · simp (disch := omega) only [go_sem, e0, e3, e4]
    exact ⟨zs, l, rfl, by omega, hz, S2.sw⟩
end Go.Av

namespace Go.Av
open Go.Proofs Go.RowKit
set_option linter.unusedVariables false
set_option linter.unusedSimpArgs false
set_option maxRecDepth 100000
set_option maxHeartbeats 4000000
structure MemD (n : Nat) (m : List Int) (t c l : Int) : Prop where
  len : m.length = 49
  val : ∀ z ∈ m, -1000000 ≤ z ∧ z ≤ 1000000
  t0 : 0 ≤ t
  t1 : t < n
  c0 : 0 ≤ c
  c1 : c ≤ 8
  l0 : 0 ≤ l
  l1 : l ≤ 24
  ctl : m[8]? = some (packM t c l)
theorem mem_d {h : Heap} {id : Nat} {ts : List Task} {v : V} {L : List It} (hl : 1 ≤ ts.length ∧ ts.length ≤ 6) (S : Sep h (.v (.lst 4 (ts.map encTask)) v :: .c id :: L)) : C Tryz.prog 61 [.ptr id 1 0 0, .agg [v]] h (fun r h' => ∃ (m : List Int) (l : Nat) (t c b : Int), r = .own l 1 0 49 49 ∧ MemD ts.length m t c b ∧ Sep h' (.k l (m.map encI) :: .v (.lst 4 (ts.map encTask)) v :: .c id :: L)) := by
  have zv := S.vv 0 rfl
  have hnh : [V.ptr id 1 0 0, .agg [v]].all V.noHole = true := rfl
  refine C.by mixed (cfn_ok Tryz.func61 ok61) hnh ?_
  simp (disch := omega) only [s61, go_sem, zv.1, zv.2.1, zv.2.2]
  refine C.go (vars_d ((S.newK [[v]]).pk (A := [_, _, _]) [2, 0, 1] rfl)) ?_
  rintro r h1 ⟨vs, l0, rfl, hv8, hv, S1⟩
  have hvo : varsOkM vs = true := by
    simp only [varsOkM, hv8, Bool.and_eq_true, decide_eq_true_eq, true_and]
    exact vals_iff.2 fun z hz => by have := hv z hz; simp [isValue, within]; omega
  simp (disch := omega) only [go_sem, zv.1, zv.2.1, zv.2.2]
  refine S1.goLstB (memNew_f vs hvo) (.cons (Snap.flatN (S1.blk 0 rfl) (by simp) (flat_encI _)) (.nil _)) fun r2 h2 x2 S2 o2 n2 c2 => ?_
  refine Exists.elim (show ∃ q, r2 = .own q 1 0 49 49 ∧ Sep h2 (.k q ((vs ++ List.replicate 41 0).map encI) :: .k l0 (vs.map encI) :: .c id :: .k h.length [[v]] :: .v (.lst 4 (ts.map encTask)) v :: L) from ?_) fun q z => ?_
  · rcases S2.flat_ (flat_encI _) with ⟨a, b, c⟩ | ⟨q, a, b⟩
    · simp at b
    · exact ⟨q, by simpa [hv8] using a, b⟩
  have z1 := z.1
  have S3 := z.2
  clear z
  subst z1
  have S4 := S3.pk (A := [_, _, _, _, _]) [2, 0, 3, 4] rfl
  have hm0 : ∀ z ∈ vs ++ List.replicate 41 0, -1000000 ≤ z ∧ z ≤ 1000000 := fun z hz => by
    rcases List.mem_append.1 hz with w | w
    · exact hv z w
    · rw [(List.mem_replicate.1 w).2]; omega
  have hm1 : (vs ++ List.replicate 41 (0 : Int)).length = 49 := by simp [hv8]
  generalize vs ++ List.replicate 41 (0 : Int) = m0 at S4 hm0 hm1
  simp (disch := omega) only [go_sem, zv.1, zv.2.1, zv.2.2]
  refine Sep.goBelow (n := 5) S4 (by omega) fun tl h3 t0 t1 S5 => ?_
  simp (disch := omega) only [go_sem, zv.1, zv.2.1, zv.2.2]
  refine loopP_intro (fun n s => ∃ (k : Nat) (m : List Int), (k : Int) ≤ tl ∧ n = tl.toNat - k ∧ m.length = 49 ∧ (∀ z ∈ m, -1000000 ≤ z ∧ z ≤ 1000000) ∧ s.e 0 = .ptr id 1 0 0 ∧ s.e 3 = .ptr h.length 1 0 0 ∧ s.e 5 = .own q 1 0 49 49 ∧ s.e 7 = .int .i64 tl ∧ s.e 8 = .int .i64 k ∧ Sep s.h (.c id :: .k q (m.map encI) :: .k h.length [[v]] :: .v (.lst 4 (ts.map encTask)) v :: L)) tl.toNat ⟨0, m0, by omega, by omega, hm1, hm0, by simp (disch := omega) only [go_sem, zv.1, zv.2.1, zv.2.2], by simp (disch := omega) only [go_sem, zv.1, zv.2.1, zv.2.2], by simp (disch := omega) only [go_sem, zv.1, zv.2.1, zv.2.2], by simp (disch := omega) only [go_sem, zv.1, zv.2.1, zv.2.2], by simp (disch := omega) only [go_sem, zv.1, zv.2.1, zv.2.2] <;> rfl, S5⟩ ?_
  intro n e hp P
  refine Exists.elim P fun k P => Exists.elim P fun m P => ?_
  have hk := P.1
  have hn := P.2.1
  have hml := P.2.2.1
  have hmv := P.2.2.2.1
  have e0 := P.2.2.2.2.1
  have e3 := P.2.2.2.2.2.1
  have e5 := P.2.2.2.2.2.2.1
  have e7 := P.2.2.2.2.2.2.2.1
  have e8 := P.2.2.2.2.2.2.2.2.1
  have S6 := P.2.2.2.2.2.2.2.2.2
  clear P
  subst hn
  simp only at e0 e3 e5 e7 e8 S6
  simp (disch := omega) only [go_sem, e0, e3, e5, e7, e8]
  refine condP_dec (fun hlt => ?_) (fun hlt => ?_)
  · simp (disch := omega) only [go_sem, e0, e3, e5, e7, e8]
    refine S6.goBelow (n := 500) (by omega) fun z h4 z0 z1 S7 => ?_
    have st := store_i (z := z) (i := (25 + (k : Int)).toNat) (S7.blk 1 rfl) hml (by omega)
    simp (disch := omega) only [go_sem, e0, e3, e5, e7, e8, Nat.zero_add, st]
    refine nextP_intro (tl.toNat - (k + 1)) (by omega) ⟨k + 1, m.set (25 + (k : Int)).toNat z, by omega, rfl, by simpa using hml, set_all hmv (by omega), by simp (disch := omega) only [go_sem, e0, e3, e5, e7, e8, Nat.zero_add, st], by simp (disch := omega) only [go_sem, e0, e3, e5, e7, e8, Nat.zero_add, st], by simp (disch := omega) only [go_sem, e0, e3, e5, e7, e8, Nat.zero_add, st], by simp (disch := omega) only [go_sem, e0, e3, e5, e7, e8, Nat.zero_add, st], by simp (disch := omega) only [go_sem, e0, e3, e5, e7, e8, Nat.zero_add, st] <;> rfl, (S7.sw.setK _).sw⟩
  simp (disch := omega) only [go_sem, e0, e3, e5, e7, e8]
  refine S6.goBelow (n := 2) (by omega) fun x h4 x0 x1 S7 => ?_
  simp (disch := omega) only [go_sem, e0, e3, e5, e7, e8]
  refine S7.goBelow (n := 4) (by omega) fun y h5 y0 y1 S8 => ?_
  have hxy : 0 ≤ x * y ∧ x * y ≤ 3 := by
    have : x = 0 ∨ x = 1 := by omega
    rcases this with rfl | rfl <;> omega
  refine Exists.elim (show ∃ c, c = x * y from ⟨_, rfl⟩) fun c hc => ?_
  rw [← hc] at hxy
  simp (disch := omega) only [go_sem, e0, e3, e5, e7, e8, hc.symm]
  refine loopP_intro (fun n s => ∃ (k : Nat) (m : List Int), (k : Int) ≤ c ∧ n = c.toNat - k ∧ m.length = 49 ∧ (∀ z ∈ m, -1000000 ≤ z ∧ z ≤ 1000000) ∧ s.e 0 = .ptr id 1 0 0 ∧ s.e 3 = .ptr h.length 1 0 0 ∧ s.e 5 = .own q 1 0 49 49 ∧ s.e 7 = .int .i64 tl ∧ s.e 9 = .int .i64 c ∧ s.e 10 = .int .i64 k ∧ Sep s.h (.c id :: .k q (m.map encI) :: .k h.length [[v]] :: .v (.lst 4 (ts.map encTask)) v :: L)) c.toNat ⟨0, m, by omega, by omega, hml, hmv, by simp (disch := omega) only [go_sem, e0, e3, e5, e7, e8, hc.symm], by simp (disch := omega) only [go_sem, e0, e3, e5, e7, e8, hc.symm], by simp (disch := omega) only [go_sem, e0, e3, e5, e7, e8, hc.symm], by simp (disch := omega) only [go_sem, e0, e3, e5, e7, e8, hc.symm], by simp (disch := omega) only [go_sem, e0, e3, e5, e7, e8, hc.symm], by simp (disch := omega) only [go_sem, e0, e3, e5, e7, e8, hc.symm] <;> rfl, S8⟩ ?_
  clear e0 e3 e5 e7 e8 hk hlt S6 S7 S8
  intro n e hp P
  refine Exists.elim P fun k P => Exists.elim P fun m P => ?_
  have hk := P.1
  have hn := P.2.1
  have hml := P.2.2.1
  have hmv := P.2.2.2.1
  have e0 := P.2.2.2.2.1
  have e3 := P.2.2.2.2.2.1
  have e5 := P.2.2.2.2.2.2.1
  have e7 := P.2.2.2.2.2.2.2.1
  have e9 := P.2.2.2.2.2.2.2.2.1
  have e10 := P.2.2.2.2.2.2.2.2.2.1
  have S6 := P.2.2.2.2.2.2.2.2.2.2
  clear P
  subst hn
  simp only at e0 e3 e5 e7 e9 e10 S6
  simp (disch := omega) only [go_sem, e0, e3, e5, e7, e9, e10]
  refine condP_dec (fun hlt => ?_) (fun hlt => ?_)
  · have st := store_i (z := k) (i := (9 + 2 * (k : Int)).toNat) (S6.blk 1 rfl) hml (by omega)
    have S6' := (S6.sw.setK ((m.set (9 + 2 * (k : Int)).toNat k).map encI)).sw
    simp (disch := omega) only [go_sem, e0, e3, e5, e7, e9, e10, Nat.zero_add, st]
    refine S6'.goBelow (n := 900) (by omega) fun z h4 z0 z1 S7 => ?_
    have st2 := store_i (z := z) (i := (9 + 2 * (k : Int) + 1).toNat) (S7.blk 1 rfl) (by simpa using hml) (by omega)
    simp (disch := omega) only [go_sem, e0, e3, e5, e7, e9, e10, Nat.zero_add, st2]
    refine nextP_intro (c.toNat - (k + 1)) (by omega) ⟨k + 1, (m.set (9 + 2 * (k : Int)).toNat k).set (9 + 2 * (k : Int) + 1).toNat z, by omega, rfl, by simpa using hml, set_all (set_all hmv (by omega)) (by omega), by simp (disch := omega) only [go_sem, e0, e3, e5, e7, e9, e10, Nat.zero_add, st2], by simp (disch := omega) only [go_sem, e0, e3, e5, e7, e9, e10, Nat.zero_add, st2], by simp (disch := omega) only [go_sem, e0, e3, e5, e7, e9, e10, Nat.zero_add, st2], by simp (disch := omega) only [go_sem, e0, e3, e5, e7, e9, e10, Nat.zero_add, st2], by simp (disch := omega) only [go_sem, e0, e3, e5, e7, e9, e10, Nat.zero_add, st2], by simp (disch := omega) only [go_sem, e0, e3, e5, e7, e9, e10, Nat.zero_add, st2] <;> rfl, (S7.sw.setK _).sw⟩
  have zv := S6.vv 3 rfl
  have lenv := fun G => (S6.lst 3 rfl).elim fun i o => o.len_ G
  simp only [List.length_map] at lenv
  have K6 := S6.blk 2 rfl
  simp (disch := omega) only [go_sem, e0, e3, e5, e7, e9, e10, K6, zv.1, zv.2.1, zv.2.2, lenv]
  refine S6.goBelow (n := ts.length) (by omega) fun t h4 t0 t1 S7 => ?_
  simp (disch := omega) only [go_sem, e0, e3, e5, e7, e9, e10]
  refine CP.go (pack_s _ _ _) rfl rfl ?_
  have st := store_i (z := packM t c tl) (i := 8) (S7.blk 1 rfl) hml (by omega)
  have hpb := packM_bd t c tl
  simp (disch := omega) only [go_sem, e0, e3, e5, e7, e9, e10, st]
  refine ⟨m.set 8 (packM t c tl), q, t, c, tl, rfl, ⟨by simpa using hml, set_all hmv (by omega), by omega, by omega, by omega, by omega, by omega, by omega, ?_⟩, (S7.sw.setK _).pk (A := [_, _, _, _]) [0, 3, 1] rfl⟩
  rw [List.getElem?_set_self (by omega)]
end Go.Av

namespace Go.Av
open Go.Proofs Go.RowKit
set_option linter.unusedVariables false
set_option linter.unusedSimpArgs false
set_option maxRecDepth 100000
set_option maxHeartbeats 4000000
theorem Snap.part {h : Heap} {id sz n : Nat} {b : Blk} (o u : Nat) (hb : h[id]? = some b) (hn : b.length = n) (hu : o + u ≤ n) (hf : Av.flat b = true) : Snap h (.own id sz o u n) (.lst sz ((b.drop o).take u)) := by
  subst hn
  have get : ∀ (i : Nat) (d : List V), ((b.drop o).take u)[i]? = some d → b[o + i]? = some d := fun i d h2 => by
    have hi : i < u := by have := (List.getElem?_eq_some_iff.1 h2).1; simp at this; omega
    rw [List.getElem?_take_of_lt hi, List.getElem?_drop] at h2; exact h2
  refine .own hb rfl hu (by simp; omega) (fun i e d h1 h2 => ?_) (fun i e d j c x h1 h2 h3 h4 => ?_)
  · have := get i d h2
    rw [h1] at this; cases this; rfl
  · have := get i d h2
    rw [h1] at this; cases this
    rw [h3] at h4; cases h4
    exact Snap.of_scalar h (flat_get hf h1 h3)
def splitM (ts : List Task) (t k : Nat) : List Task := match ts[t]? with
  | some tk => ts.set t ⟨tk.body.take k, ⟨1, ts.length, 0⟩⟩ ++ [⟨tk.body.drop k, tk.next⟩]
  | none => ts
theorem splitM_eq {ts : List Task} {t k : Nat} (ht : t < ts.length) : splitM ts t k = ts.set t ⟨ts[t].body.take k, ⟨1, ts.length, 0⟩⟩ ++ [⟨ts[t].body.drop k, ts[t].next⟩] := by
  unfold splitM; rw [List.getElem?_eq_getElem ht]
theorem splitM_map {ts : List Task} {t k : Nat} (ht : t < ts.length) : (splitM ts t k).map encTask = (ts.map encTask).set t (encTask ⟨ts[t].body.take k, ⟨1, ts.length, 0⟩⟩) ++ [encTask ⟨ts[t].body.drop k, ts[t].next⟩] := by
  rw [splitM_eq ht, List.map_append, List.map_set]; rfl
theorem Sep.goCopy {P : Program} {f : FuncId} {args args' : List V} {ts : List Task} {h : Heap} {L : List It} {K : V → Heap → Prop} (S : Sep h L) (hf : F P f args' (.agg [.lst 4 (ts.map encTask)])) (hs : Snaps h args args')
    (hk : ∀ v h', Ext h h' → Sep h' (.v (.lst 4 (ts.map encTask)) v :: L) → V.one v = true → V.nohole v = v → V.cells v = [v] → K (.agg [v]) h') : @callP P f args h ⟨K⟩ :=
  S.go hf hs fun r h' x S1 => by
    obtain ⟨_, rfl, S2⟩ := sep_agg.1 S1
    obtain ⟨c, _, rfl, S3⟩ := sep_ll.1 S2
    obtain ⟨rfl, S4⟩ := sep_l0.1 S3
    have S5 := S4.rot
    have z := S5.vv 0 rfl
    exact hk c h' x S5 z.1 z.2.1 z.2.2
theorem Sep.taskRow {h : Heap} {L : List It} (S : Sep h L) (n : Nat) {ts : List Task} {v : V} {t : Nat} (e : L[n]? = some (.v (.lst 4 (ts.map encTask)) v)) (ht : t < ts.length) (hb : 0 < ts[t].body.length) :
    ∃ id b vid, v = .own id 4 0 ts.length ts.length ∧ h[id]? = some b ∧ b.length = ts.length ∧ b[t]? = some [.own vid 6 0 ts[t].body.length ts[t].body.length, .int .i64 ts[t].next.op, .int .i64 ts[t].next.a, .int .i64 ts[t].next.b] ∧ h[vid]? = some (ts[t].body.map encStmt) := by
  obtain ⟨id, b, c, i, e1, e2, e3, e4, o⟩ := S.row n e (k := t) (d := encTask ts[t]) (by simp [ht])
  obtain ⟨va, rfl, o'⟩ := o.task
  rcases (Owns.flat_ (flat_Stmt _)).1 o' with ⟨_, q, _⟩ | ⟨vid, q1, q2, _⟩
  · have : ts[t].body = [] := by simpa using q
    rw [this] at hb; simp at hb
  · refine ⟨id, b, vid, by simpa using e1, e2, by simpa using e3, ?_, q2⟩
    rw [q1] at e4
    simpa using e4
theorem split_f (ts : List Task) (t k : Nat) (hx : ts.length ≤ 1048576) (hb : ∀ t ∈ ts, t.body.length ≤ 1048576) (ht : t < ts.length) (hk0 : 0 < k) (hk : k < ts[t].body.length) : F Tryz.prog 83 [.agg [.lst 4 (ts.map encTask)], .int .i64 t, .int .i64 k] (.agg [.lst 4 ((splitM ts t k).map encTask)]) := by
  have hbt := hb _ (List.getElem_mem ht)
  refine C.by mixed (cfn_ok Tryz.func83 ok83) rfl ?_
  simp (disch := omega) only [s83, go_sem, storeH, storeB, splice]
  have S0 : Sep ([[[.lst 4 (ts.map encTask)]], [[.nils]]] : Heap) [.k 1 [[.nils]], .k 0 [[.lst 4 (ts.map encTask)]]] := ((Sep.nil []).newK _).newK _
  refine S0.goCopy (copyProg_f ts hx hb) (.same (refs_prog1 _ _)) fun v1 h1 x1 S1 o1 n1 c1 => ?_
  refine Exists.elim (S1.taskRow 0 rfl ht (by omega)) fun id q => Exists.elim q fun b q => Exists.elim q fun vid q => ?_
  have q1 := q.1
  have q2 := q.2.1
  have q3 := q.2.2.1
  have q4 := q.2.2.2.1
  have q5 := q.2.2.2.2
  clear q
  subst q1
  have hid := heap_lt q2
  have hvid := heap_lt q5
  have u2 := fun r => heap_app (h' := r) q2
  have u5 := fun r => heap_app (h' := r) q5
  simp (disch := omega) only [go_sem, q2, q3, q4, q5, u2, u5, o1, n1, c1, storeH, storeB, splice]
  have S3 : Sep (h1 ++ [[[.own id 4 0 ts.length ts.length]], [[.own vid 6 0 ts[t].body.length ts[t].body.length, .int .i64 ts[t].next.op, .int .i64 ts[t].next.a, .int .i64 ts[t].next.b]]]) [.k (h1.length + 1) [[.own vid 6 0 ts[t].body.length ts[t].body.length, .int .i64 ts[t].next.op, .int .i64 ts[t].next.a, .int .i64 ts[t].next.b]], .k h1.length [[.own id 4 0 ts.length ts.length]], .v (.lst 4 (ts.map encTask)) (.own id 4 0 ts.length ts.length), .k 1 [[.nils]], .k 0 [[.lst 4 (ts.map encTask)]]] := by
    have w := (S1.newK [[.own id 4 0 ts.length ts.length]]).newK [[.own vid 6 0 ts[t].body.length ts[t].body.length, .int .i64 ts[t].next.op, .int .i64 ts[t].next.a, .int .i64 ts[t].next.b]]
    rw [List.append_assoc, List.length_append] at w
    exact w
  have em : ((ts[t].body.map encStmt).drop k).take (ts[t].body.length - k) = (ts[t].body.drop k).map encStmt := by
    rw [← List.map_drop, List.take_of_length_le (by simp)]
  have sn1 := Snap.part (sz := 6) (n := ts[t].body.length) k (ts[t].body.length - k) (u5 [[[.own id 4 0 ts.length ts.length]], [[.own vid 6 0 ts[t].body.length ts[t].body.length, .int .i64 ts[t].next.op, .int .i64 ts[t].next.a, .int .i64 ts[t].next.b]]]) (by simp) (by omega) (flat_Stmt _)
  rw [em] at sn1
  refine S3.goLst (cloneS_f (ts[t].body.drop k) (by simp; omega)) (.cons sn1 (.nil _)) fun r1 h3 x3 S4 ro rn rc => ?_
  have p8 := S4.blk 1 rfl
  have p7 := S4.blk 2 rfl
  have v3 := x3.get (u5 _)
  have i3 := x3.get (u2 _)
  have S5 := S4.newK [[r1, .int .i64 ts[t].next.op, .int .i64 ts[t].next.a, .int .i64 ts[t].next.b]]
  have p8' := S5.blk 2 rfl
  have p7' := S5.blk 3 rfl
  have k0' := S5.blk 6 rfl
  have v3' := fun r => heap_app (h' := r) v3
  have i3' := fun r => heap_app (h' := r) i3
  simp (disch := omega) only [go_sem, q3, q4, ro, rn, rc, p8, p7, v3, i3, p8', p7', k0', v3', i3', storeH, storeB, splice]
  have sn2 := Snap.head (sz := 6) (n := ts[t].body.length) k (v3' [[[r1, .int .i64 ts[t].next.op, .int .i64 ts[t].next.a, .int .i64 ts[t].next.b]]]) (by simp) (by omega) (flat_Stmt _)
  rw [← List.map_take] at sn2
  refine S5.goLst (cloneS_f (ts[t].body.take k) (by simp; omega)) (.cons sn2 (.nil _)) fun r2 h5 x5 S6 r2o r2n r2c => ?_
  have k7 := S6.blk 4 rfl
  have k8 := S6.blk 3 rfl
  have k0 := S6.blk 7 rfl
  have i5 := x5.get (i3' _)
  have S7 := ((S6.pull 2).mkTask (t := ⟨ts[t].body.drop k, ts[t].next⟩)).pull 1
  have S8 := (S7.mkTask (t := ⟨ts[t].body.take k, ⟨1, ts.length, 0⟩⟩)).pull 5
  refine Exists.elim (S8.rowSet (k := t) (by simp [ht])) fun id' q => Exists.elim q fun b' q => ?_
  have w1 := q.1
  have w2 := q.2.1
  have w3 := q.2.2.1
  have w4 := q.2.2.2.1
  have S9 := q.2.2.2.2
  clear q
  injection w1 with e1
  subst e1
  have e2 := Option.some.inj (w2.symm.trans i5)
  subst e2
  have y7 := S9.blk 4 rfl
  have y9 := S9.blk 2 rfl
  have S10 := S9.newK [[r1, .int .i64 ts[t].next.op, .int .i64 ts[t].next.a, .int .i64 ts[t].next.b]]
  have S11 := S10.pick [1, 2, 5, 6] (by decide)
  have hpu := S11.push (bytes := 48) (S10.blk 0 rfl) (by simp; omega)
  refine Exists.elim hpu fun v' q => Exists.elim q fun h7 q => ?_
  have hap := q.1
  have S12 : Sep h7 [.v (.lst 4 ((splitM ts t k).map encTask)) v', .k h1.length [[.own id 4 0 ts.length ts.length]], .k 1 [[.nils]]] := by
    rw [splitM_map ht]; exact q.2
  clear q hpu
  have z12 := S12.vv 0 rfl
  have y12 := S12.blk 1 rfl
  have S13 := ((S12.pull 1).setK [[v']])
  have y13 := S13.blk 0 rfl
  have y1 := S13.blk 2 rfl
  have y1' : ∀ d, ((h7.set h1.length [[v']]).set 1 d)[1]? = some d := fun d => heap_set _ y1
  simp (disch := omega) only [go_sem, q3, r2o, r2n, r2c, k0, k7, k8, w2, q4, y7, y9, ro, rn, rc, hap, z12.1, z12.2.1, z12.2.2, y12, y13, y1, y1', storeH, storeB, splice]
  exact (((S13.pull 2).setK [[v']]).drop1.drop1).prog
theorem append0' {h : Heap} {sz bytes m : Nat} {x : V} {xs : Blk} (hx : elemsOf (h ++ [[]]) sz x = some xs) (hm : xs.length = m) (hl : m * bytes ≤ 140737488355328) : appendH (h ++ [[]]) sz bytes (.own h.length sz 0 0 0) x = some (.own h.length sz 0 m m, h ++ [xs]) := by
  have := appendH_n (h := h ++ [[]]) (sz := sz) (bytes := bytes) (id := h.length) (n := 0) (m := m) (b := []) (xs := xs) (x := x) (by simp) rfl hx hm (by rw [Nat.zero_add]; exact hl)
  simpa using this
theorem elems_part {h : Heap} {sz id o u n : Nat} {b : Blk} (hb : h[id]? = some b) (hn : b.length = n) (hu : o + u ≤ n) : elemsOf h sz (.own id sz o u n) = some ((b.drop o).take u) := by
  subst hn
  simp [elemsOf, hb, hu]
theorem split_s (ts : List Task) (t k : Nat) (hx : ts.length ≤ 1048576) (hb : ∀ t ∈ ts, t.body.length ≤ 1048576) (ht : t < ts.length) (hk0 : 0 < k) (hk : k < ts[t].body.length) : F Tryz.prog 102 [.agg [.lst 4 (ts.map encTask)], .int .i64 t, .int .i64 k] (.agg [.lst 4 ((splitM ts t k).map encTask)]) := by
  have hbt := hb _ (List.getElem_mem ht)
  refine C.by mixed (cfn_ok Tryz.func102 ok102) rfl ?_
  simp (disch := omega) only [s102, go_sem, storeH, storeB, splice]
  have S0 : Sep ([[[.lst 4 (ts.map encTask)]], [[.nils]]] : Heap) [.k 1 [[.nils]], .k 0 [[.lst 4 (ts.map encTask)]]] := ((Sep.nil []).newK _).newK _
  refine S0.goCopy (copyProg_s ts hx hb) (.same (refs_prog1 _ _)) fun v1 h1 x1 S1 o1 n1 c1 => ?_
  refine Exists.elim (S1.taskRow 0 rfl ht (by omega)) fun id q => Exists.elim q fun b q => Exists.elim q fun vid q => ?_
  have q1 := q.1
  have q2 := q.2.1
  have q3 := q.2.2.1
  have q4 := q.2.2.2.1
  have q5 := q.2.2.2.2
  clear q
  subst q1
  have hid := heap_lt q2
  have hvid := heap_lt q5
  have u2 := fun r => heap_app (h' := r) q2
  have u5 := fun r => heap_app (h' := r) q5
  simp (disch := omega) only [go_sem, q2, q3, q4, q5, u2, u5, o1, n1, c1, storeH, storeB, splice]
  have em : ((ts[t].body.map encStmt).drop k).take (ts[t].body.length - k) = ((ts[t].body.drop k).map encStmt) := by
    rw [← List.map_drop, List.take_of_length_le (by simp)]
  have S3 : Sep (h1 ++ [[[.own id 4 0 ts.length ts.length]], [[.own vid 6 0 ts[t].body.length ts[t].body.length, .int .i64 ts[t].next.op, .int .i64 ts[t].next.a, .int .i64 ts[t].next.b]]]) (.k (h1.length + 1) [[.own vid 6 0 ts[t].body.length ts[t].body.length, .int .i64 ts[t].next.op, .int .i64 ts[t].next.a, .int .i64 ts[t].next.b]] :: [.k h1.length [[.own id 4 0 ts.length ts.length]], .v (.lst 4 (ts.map encTask)) (.own id 4 0 ts.length ts.length), .k 1 [[.nils]], .k 0 [[.lst 4 (ts.map encTask)]]]) := by
    have w := (S1.newK [[.own id 4 0 ts.length ts.length]]).newK [[.own vid 6 0 ts[t].body.length ts[t].body.length, .int .i64 ts[t].next.op, .int .i64 ts[t].next.a, .int .i64 ts[t].next.b]]
    rw [List.append_assoc, List.length_append] at w
    exact w
  have x3 := elems_part (sz := 6) (n := ts[t].body.length) (o := k) (u := (ts[t].body.length - k)) (u5 [[[.own id 4 0 ts.length ts.length]], [[.own vid 6 0 ts[t].body.length ts[t].body.length, .int .i64 ts[t].next.op, .int .i64 ts[t].next.a, .int .i64 ts[t].next.b]], []]) (by simp) (by omega)
  rw [em] at x3
  have ap1 : appendH (h1 ++ [[[.own id 4 0 ts.length ts.length]], [[.own vid 6 0 ts[t].body.length ts[t].body.length, .int .i64 ts[t].next.op, .int .i64 ts[t].next.a, .int .i64 ts[t].next.b]], []]) 6 48 (.own (h1.length + 2) 6 0 0 0) (.own vid 6 k (ts[t].body.length - k) ts[t].body.length) = some (.own (h1.length + 2) 6 0 (ts[t].body.length - k) (ts[t].body.length - k), h1 ++ [[[.own id 4 0 ts.length ts.length]], [[.own vid 6 0 ts[t].body.length ts[t].body.length, .int .i64 ts[t].next.op, .int .i64 ts[t].next.a, .int .i64 ts[t].next.b]], ((ts[t].body.drop k).map encStmt)]) := by
    have w := append0' (h := h1 ++ [[[.own id 4 0 ts.length ts.length]], [[.own vid 6 0 ts[t].body.length ts[t].body.length, .int .i64 ts[t].next.op, .int .i64 ts[t].next.a, .int .i64 ts[t].next.b]]]) (sz := 6) (bytes := 48) (m := (ts[t].body.length - k)) (x := .own vid 6 k (ts[t].body.length - k) ts[t].body.length) (xs := ((ts[t].body.drop k).map encStmt)) (by rw [List.append_assoc]; exact x3) (by simp) (by omega)
    simpa using w
  have S4 : Sep (h1 ++ [[[.own id 4 0 ts.length ts.length]], [[.own vid 6 0 ts[t].body.length ts[t].body.length, .int .i64 ts[t].next.op, .int .i64 ts[t].next.a, .int .i64 ts[t].next.b]], ((ts[t].body.drop k).map encStmt), [[.own (h1.length + 2) 6 0 (ts[t].body.length - k) (ts[t].body.length - k), .int .i64 ts[t].next.op, .int .i64 ts[t].next.a, .int .i64 ts[t].next.b]]]) (.k (h1.length + 3) [[.own (h1.length + 2) 6 0 (ts[t].body.length - k) (ts[t].body.length - k), .int .i64 ts[t].next.op, .int .i64 ts[t].next.a, .int .i64 ts[t].next.b]] :: .v (.lst 6 ((ts[t].body.drop k).map encStmt)) (.own (h1.length + 2) 6 0 (ts[t].body.length - k) (ts[t].body.length - k)) :: .k (h1.length + 1) [[.own vid 6 0 ts[t].body.length ts[t].body.length, .int .i64 ts[t].next.op, .int .i64 ts[t].next.a, .int .i64 ts[t].next.b]] :: [.k h1.length [[.own id 4 0 ts.length ts.length]], .v (.lst 4 (ts.map encTask)) (.own id 4 0 ts.length ts.length), .k 1 [[.nils]], .k 0 [[.lst 4 (ts.map encTask)]]]) := by
    have w := ((S3.newK ((ts[t].body.drop k).map encStmt)).ofFlat (sz := 6) (n := (ts[t].body.length - k)) (by simp) (flat_Stmt _)).newK [[.own (h1.length + 2) 6 0 (ts[t].body.length - k) (ts[t].body.length - k), .int .i64 ts[t].next.op, .int .i64 ts[t].next.a, .int .i64 ts[t].next.b]]
    simp only [List.append_assoc, List.length_append] at w
    exact w
  have s3a := S3.blk 0 rfl
  have s3b := S3.blk 1 rfl
  have S3n := S3.newK []
  rw [List.append_assoc] at S3n
  have s3c := S3n.blk 1 rfl
  have s3d := S3n.blk 2 rfl
  have S3m := S3.newK ((ts[t].body.drop k).map encStmt)
  rw [List.append_assoc] at S3m
  have s3e := S3m.blk 1 rfl
  have s3f := S3m.blk 2 rfl
  have s4a := S4.blk 0 rfl
  have s4b := S4.blk 2 rfl
  have s4c := S4.blk 3 rfl
  have x4 := elems_part (sz := 6) (n := ts[t].body.length) (o := 0) (u := k) (u5 [[[.own id 4 0 ts.length ts.length]], [[.own vid 6 0 ts[t].body.length ts[t].body.length, .int .i64 ts[t].next.op, .int .i64 ts[t].next.a, .int .i64 ts[t].next.b]], ((ts[t].body.drop k).map encStmt), [[.own (h1.length + 2) 6 0 (ts[t].body.length - k) (ts[t].body.length - k), .int .i64 ts[t].next.op, .int .i64 ts[t].next.a, .int .i64 ts[t].next.b]], []]) (by simp) (by omega)
  rw [List.drop_zero, ← List.map_take] at x4
  have ap2 : appendH (h1 ++ [[[.own id 4 0 ts.length ts.length]], [[.own vid 6 0 ts[t].body.length ts[t].body.length, .int .i64 ts[t].next.op, .int .i64 ts[t].next.a, .int .i64 ts[t].next.b]], ((ts[t].body.drop k).map encStmt), [[.own (h1.length + 2) 6 0 (ts[t].body.length - k) (ts[t].body.length - k), .int .i64 ts[t].next.op, .int .i64 ts[t].next.a, .int .i64 ts[t].next.b]], []]) 6 48 (.own (h1.length + 4) 6 0 0 0) (.own vid 6 0 k ts[t].body.length) = some (.own (h1.length + 4) 6 0 k k, h1 ++ [[[.own id 4 0 ts.length ts.length]], [[.own vid 6 0 ts[t].body.length ts[t].body.length, .int .i64 ts[t].next.op, .int .i64 ts[t].next.a, .int .i64 ts[t].next.b]], ((ts[t].body.drop k).map encStmt), [[.own (h1.length + 2) 6 0 (ts[t].body.length - k) (ts[t].body.length - k), .int .i64 ts[t].next.op, .int .i64 ts[t].next.a, .int .i64 ts[t].next.b]], ((ts[t].body.take k).map encStmt)]) := by
    have w := append0' (h := h1 ++ [[[.own id 4 0 ts.length ts.length]], [[.own vid 6 0 ts[t].body.length ts[t].body.length, .int .i64 ts[t].next.op, .int .i64 ts[t].next.a, .int .i64 ts[t].next.b]], ((ts[t].body.drop k).map encStmt), [[.own (h1.length + 2) 6 0 (ts[t].body.length - k) (ts[t].body.length - k), .int .i64 ts[t].next.op, .int .i64 ts[t].next.a, .int .i64 ts[t].next.b]]]) (sz := 6) (bytes := 48) (m := k) (x := .own vid 6 0 k ts[t].body.length) (xs := ((ts[t].body.take k).map encStmt)) (by rw [List.append_assoc]; exact x4) (by simp; omega) (by omega)
    simpa using w
  have S5n := S4.newK []
  rw [List.append_assoc] at S5n
  have s5a := S5n.blk 3 rfl
  have s5b := S5n.blk 4 rfl
  have S6 : Sep (h1 ++ [[[.own id 4 0 ts.length ts.length]], [[.own vid 6 0 ts[t].body.length ts[t].body.length, .int .i64 ts[t].next.op, .int .i64 ts[t].next.a, .int .i64 ts[t].next.b]], ((ts[t].body.drop k).map encStmt), [[.own (h1.length + 2) 6 0 (ts[t].body.length - k) (ts[t].body.length - k), .int .i64 ts[t].next.op, .int .i64 ts[t].next.a, .int .i64 ts[t].next.b]], ((ts[t].body.take k).map encStmt)]) (.v (.lst 6 ((ts[t].body.take k).map encStmt)) (.own (h1.length + 4) 6 0 k k) :: .k (h1.length + 3) [[.own (h1.length + 2) 6 0 (ts[t].body.length - k) (ts[t].body.length - k), .int .i64 ts[t].next.op, .int .i64 ts[t].next.a, .int .i64 ts[t].next.b]] :: .v (.lst 6 ((ts[t].body.drop k).map encStmt)) (.own (h1.length + 2) 6 0 (ts[t].body.length - k) (ts[t].body.length - k)) :: .k (h1.length + 1) [[.own vid 6 0 ts[t].body.length ts[t].body.length, .int .i64 ts[t].next.op, .int .i64 ts[t].next.a, .int .i64 ts[t].next.b]] :: [.k h1.length [[.own id 4 0 ts.length ts.length]], .v (.lst 4 (ts.map encTask)) (.own id 4 0 ts.length ts.length), .k 1 [[.nils]], .k 0 [[.lst 4 (ts.map encTask)]]]) := by
    have w := (S4.newK ((ts[t].body.take k).map encStmt)).ofFlat (sz := 6) (n := k) (by simp; omega) (flat_Stmt _)
    simp only [List.append_assoc, List.length_append] at w
    exact w
  have s6a := S6.blk 3 rfl
  have s6b := S6.blk 4 rfl
  have s6c := u2 [[[.own id 4 0 ts.length ts.length]], [[.own vid 6 0 ts[t].body.length ts[t].body.length, .int .i64 ts[t].next.op, .int .i64 ts[t].next.a, .int .i64 ts[t].next.b]], ((ts[t].body.drop k).map encStmt), [[.own (h1.length + 2) 6 0 (ts[t].body.length - k) (ts[t].body.length - k), .int .i64 ts[t].next.op, .int .i64 ts[t].next.a, .int .i64 ts[t].next.b]], ((ts[t].body.take k).map encStmt)]
  have S7 := ((S6.pull 2).mkTask (t := ⟨ts[t].body.drop k, ts[t].next⟩)).pull 1
  have S8 := (S7.mkTask (t := ⟨ts[t].body.take k, ⟨1, ts.length, 0⟩⟩)).pull 5
  refine Exists.elim (S8.rowSet (k := t) (by simp [ht])) fun id' q => Exists.elim q fun b' q => ?_
  have w1 := q.1
  have w2 := q.2.1
  have w3 := q.2.2.1
  have S9 := q.2.2.2.2
  clear q
  injection w1 with e1
  subst e1
  have e2 := Option.some.inj (w2.symm.trans s6c)
  subst e2
  have y7 := S9.blk 4 rfl
  have y9 := S9.blk 2 rfl
  have S10 := S9.newK [[.own (h1.length + 2) 6 0 (ts[t].body.length - k) (ts[t].body.length - k), .int .i64 ts[t].next.op, .int .i64 ts[t].next.a, .int .i64 ts[t].next.b]]
  have S11 := S10.pick [1, 2, 5, 6] (by decide)
  have hpu := S11.push (bytes := 48) (S10.blk 0 rfl) (by simp; omega)
  refine Exists.elim hpu fun v' q => Exists.elim q fun h7 q => ?_
  have hap := q.1
  have S12 : Sep h7 [.v (.lst 4 ((splitM ts t k).map encTask)) v', .k h1.length [[.own id 4 0 ts.length ts.length]], .k 1 [[.nils]]] := by
    rw [splitM_map ht]; exact q.2
  clear q hpu
  have z12 := S12.vv 0 rfl
  have y12 := S12.blk 1 rfl
  have S13 := ((S12.pull 1).setK [[v']])
  have y13 := S13.blk 0 rfl
  have y1 := S13.blk 2 rfl
  have y1' : ∀ d, ((h7.set h1.length [[v']]).set 1 d)[1]? = some d := fun d => heap_set _ y1
  simp (disch := omega) only [go_sem, q2, q3, q4, q5, u2, u5, o1, n1, c1, s3a, s3b, s3c, s3d, s3e, s3f, ap1, s4a, s4b, s4c, ap2, s5a, s5b, s6a, s6b, w2, y7, y9, hap, z12.1, z12.2.1, z12.2.2, y12, y13, y1, y1', storeH, storeB, splice]
  exact (((S13.pull 2).setK [[v']]).drop1.drop1).prog
end Go.Av

namespace Go.Av
open Go.Proofs Go.RowKit
set_option linter.unusedVariables false
set_option linter.unusedSimpArgs false
set_option maxRecDepth 100000
set_option maxHeartbeats 4000000
def cutsAt (ts : List Task) (t : Int) : List Int := match ts[t.toNat]? with
  | some tk => cutsM tk.body
  | none => []
def splitsB (ts : List Task) (t k : Int) : Bool := rigidM ts && within t 0 ((ts.length : Int) - 1) && decide (¬ ts.length = 6) && decide (k ∈ cutsAt ts t)
def splitTM (ts : List Task) (t k : Int) : List Task := if splitsB ts t k = true then splitM ts t.toNat k.toNat else ts
theorem cutM_mem (l : List Stmt) : ∀ (d i : Nat) (k : Int), k ∈ cutM l d i → (i : Int) ≤ k ∧ k < i + d
  | 0, i, k, h => absurd h List.not_mem_nil
  | d + 1, i, k, h => by
    rw [cutM, List.mem_append] at h
    rcases h with h | h
    · split at h
      · have := List.mem_singleton.1 h; omega
      · exact absurd h List.not_mem_nil
    · have := cutM_mem l d (i + 1) k h; omega
theorem cutsM_len (xs : List Stmt) : (cutsM xs).length ≤ xs.length := by
  unfold cutsM; split
  · have := cutM_len xs (xs.length - 1) 1; omega
  · simp
theorem cut_pos {xs : List Stmt} {k : Int} (h : k ∈ cutsM xs) : 1 ≤ k ∧ k < xs.length := by
  unfold cutsM at h
  split at h
  · have := cutM_mem xs (xs.length - 1) 1 k h; omega
  · exact absurd h List.not_mem_nil
theorem Sep.progB {h : Heap} {ts : List Task} {v : V} {b : Bool} {L : List It} (S : Sep h (.v (.lst 4 (ts.map encTask)) v :: L)) : ∃ ids : List Nat, ids.Nodup ∧ OwnsR h (.tup [.agg [.lst 4 (ts.map encTask)], .bool b]) (.tup [.agg [v], .bool b]) ids :=
  ((Sep.cons2 (fun es e => by cases e) (Sep.perm (List.Perm.swap _ _ _) (Sep.lb (Sep.l0 ((Sep.cons2 (fun es e => by cases e) ((Sep.perm (List.Perm.swap _ _ _) (Sep.l0 S)))).a))))).t).ret
theorem cutsAt_eq {ts : List Task} {t : Int} {n : Nat} (hn : t = n) (h : n < ts.length) : cutsAt ts t = cutsM ts[n].body := by
  subst hn; unfold cutsAt; rw [Int.toNat_natCast, List.getElem?_eq_getElem h]
theorem progOk_blocks {ts : List Task} (h : programOk ts = true) : ∀ t ∈ ts, blockOk t.body = true := fun t ht => by
  simp only [programOk, Bool.and_eq_true] at h
  have := List.all_eq_true.1 h.2 t ht
  simp only [taskOk, Bool.and_eq_true] at this
  exact this.1
theorem refs_progII (n : Nat) (ts : List Task) (t k : Int) : V.refsL n [.agg [.lst 4 (ts.map encTask)], .int .i64 t, .int .i64 k] = true := by simp only [V.refsL, refs_prog]; rfl
theorem splitTask_c (ts : List Task) (t k : Int) (hx : ts.length ≤ 1048576) (hb : ∀ t ∈ ts, t.body.length ≤ 1048576) : F Tryz.prog 27 [.agg [.lst 4 (ts.map encTask)], .int .i64 t, .int .i64 k] (.tup [.agg [.lst 4 ((splitTM ts t k).map encTask)], .bool (splitsB ts t k)]) := by
  have hb' : ∀ t ∈ ts, t.body.length ≤ 9223372036854775807 := fun t ht => by have := hb t ht; omega
  have S0 : Sep ([[[.lst 4 (ts.map encTask)]], [[.nils]]] : Heap) [.k 1 [[.nils]], .k 0 [[.lst 4 (ts.map encTask)]]] := ((Sep.nil []).newK _).newK _
  refine C.by mixed (cfn_ok Tryz.func27 ok27) rfl ?_
  simp (disch := omega) only [s27, go_sem]
  refine CP.go (hasTask_c ts t hx hb') rfl (refs_progI _ ts _) ?_
  simp (disch := omega) only [go_sem]
  refine condP_split (fun hT => ?_) (fun hT => ?_)
  case' refine_2 =>
    have hz : splitsB ts t k = false := by
      simp only [splitsB, rigidM]
      cases hp : programOk ts <;> cases hw : within t 0 ((ts.length : Int) - 1) <;> simp_all
    simp (disch := omega) only [go_sem, hT]
    refine S0.goCopy (copyProg_f ts hx hb) (.same (refs_prog1 _ _)) fun v1 h9 x9 S9 o1 n1 c1 => ?_
    have y1 := S9.blk 1 rfl
    have y1' : ∀ d, (h9.set 1 d)[1]? = some d := fun d => heap_set _ y1
    simp (disch := omega) only [go_sem, o1, n1, c1, y1, y1', storeH, storeB, splice]
    rw [splitTM, if_neg (by rw [hz]; simp), hz]
    exact (((S9.pull 1).setK [[v1]]).drop1).progB
  have hp : programOk ts = true := by cases hp : programOk ts <;> simp_all
  have hw : within t 0 ((ts.length : Int) - 1) = true := by cases hw : within t 0 ((ts.length : Int) - 1) <;> simp_all
  have htb : 0 ≤ t ∧ t ≤ (ts.length : Int) - 1 := by simpa [within] using hw
  refine Exists.elim (show ∃ n : Nat, t = n from ⟨t.toNat, by omega⟩) fun n hn => ?_
  have hnl : n < ts.length := by omega
  have hca := cutsAt_eq hn hnl
  subst hn
  have hbn := hb _ (List.getElem_mem hnl)
  simp (disch := omega) only [go_sem, hT, encTask]
  refine S0.goLst (CP.f (flat_encI _) (by simp) (cutPoints_c ts[n].body hbn (progOk_blocks hp _ (List.getElem_mem hnl)))) (.same (refs_arg _ _)) fun r h2 x2 S2 r1 r2 r3 => ?_
  have k2 := S2.blk 2 rfl
  simp (disch := omega) only [go_sem, hT, r1, r2, r3, k2]
  refine CP.goS (contains_c (cutsM ts[n].body) k ?_) rfl rfl (.cons (S2.snap 0 rfl) (.cons (.int _ _) (.nil _))) ?_
  · have := cutsM_len ts[n].body; omega
  simp (disch := omega) only [go_sem, hT, r1, r2, r3, k2]
  refine condP_dec (fun hk => ?_) (fun hk => ?_)
  case' refine_2 =>
    have hz : splitsB ts n k = false := by simp [splitsB, hca, hk]
    simp (disch := omega) only [go_sem, hT, r1, r2, r3, k2]
    refine S2.goCopy (copyProg_f ts hx hb) (.same (refs_prog1 _ _)) fun v1 h9 x9 S9 o1 n1 c1 => ?_
    have y1 := S9.blk 2 rfl
    have y1' : ∀ d, (h9.set 1 d)[1]? = some d := fun d => heap_set _ y1
    simp (disch := omega) only [go_sem, o1, n1, c1, y1, y1', storeH, storeB, splice]
    rw [splitTM, if_neg (by rw [hz]; simp), hz]
    exact (((S9.pull 2).setK [[v1]]).drop1).progB
  simp (disch := omega) only [go_sem, hT, r1, r2, r3, k2]
  refine condP_dec (fun h6 => ?_) (fun h6 => ?_)
  · have h6' : ts.length = 6 := by omega
    have hz : splitsB ts n k = false := by simp [splitsB, h6']
    simp (disch := omega) only [go_sem, hT, r1, r2, r3, k2]
    refine S2.goCopy (copyProg_f ts hx hb) (.same (refs_prog1 _ _)) fun v1 h9 x9 S9 o1 n1 c1 => ?_
    have y1 := S9.blk 2 rfl
    have y1' : ∀ d, (h9.set 1 d)[1]? = some d := fun d => heap_set _ y1
    simp (disch := omega) only [go_sem, o1, n1, c1, y1, y1', storeH, storeB, splice]
    rw [splitTM, if_neg (by rw [hz]; simp), hz]
    exact (((S9.pull 2).setK [[v1]]).drop1).progB
  have h6' : ¬ ts.length = 6 := by omega
  simp (disch := omega) only [go_sem, hT, r1, r2, r3, k2]
  refine CP.go (rigid_c ts hx hb') rfl (refs_prog1 _ ts) ?_
  simp (disch := omega) only [go_sem, hT, r1, r2, r3, k2]
  refine condP_split (fun hr => ?_) (fun hr => ?_)
  case' refine_2 =>
    have hz : splitsB ts n k = false := by simp [splitsB, hr]
    simp (disch := omega) only [go_sem, k2, hr]
    refine S2.goCopy (copyProg_f ts hx hb) (.same (refs_prog1 _ _)) fun v1 h9 x9 S9 o1 n1 c1 => ?_
    have y1 := S9.blk 2 rfl
    have y1' : ∀ d, (h9.set 1 d)[1]? = some d := fun d => heap_set _ y1
    simp (disch := omega) only [go_sem, o1, n1, c1, y1, y1', storeH, storeB, splice]
    rw [splitTM, if_neg (by rw [hz]; simp), hz]
    exact (((S9.pull 2).setK [[v1]]).drop1).progB
  have hz : splitsB ts n k = true := by simp [splitsB, hr, hw, h6', hca, hk]
  have hkp := cut_pos hk
  refine Exists.elim (show ∃ m : Nat, k = m from ⟨k.toNat, by omega⟩) fun m hm => ?_
  subst hm
  simp (disch := omega) only [go_sem, k2, hr]
  refine S2.goCopy (split_f ts n m hx hb hnl (by omega) (by omega)) (.same (refs_progII _ ts _ _)) fun v1 h9 x9 S9 o1 n1 c1 => ?_
  have y1 := S9.blk 2 rfl
  have y1' : ∀ d, (h9.set 1 d)[1]? = some d := fun d => heap_set _ y1
  simp (disch := omega) only [go_sem, o1, n1, c1, y1, y1', storeH, storeB, splice]
  rw [splitTM, if_pos hz, hz]
  exact (((S9.pull 2).setK [[v1]]).drop1).progB
theorem splitTask_s (ts : List Task) (t k : Int) (hx : ts.length ≤ 1048576) (hb : ∀ t ∈ ts, t.body.length ≤ 1048576) : F Tryz.prog 38 [.agg [.lst 4 (ts.map encTask)], .int .i64 t, .int .i64 k] (.tup [.agg [.lst 4 ((splitTM ts t k).map encTask)], .bool (splitsB ts t k)]) := by
  have hb' : ∀ t ∈ ts, t.body.length ≤ 9223372036854775807 := fun t ht => by have := hb t ht; omega
  have S0 : Sep ([[[.lst 4 (ts.map encTask)]], [[.nils]]] : Heap) [.k 1 [[.nils]], .k 0 [[.lst 4 (ts.map encTask)]]] := ((Sep.nil []).newK _).newK _
  refine C.by mixed (cfn_ok Tryz.func38 ok38) rfl ?_
  simp (disch := omega) only [s38, go_sem]
  refine CP.go (rigid_s ts hx hb') rfl (refs_prog1 _ ts) ?_
  simp (disch := omega) only [go_sem]
  refine condP_split (fun hr => ?_) (fun hr => ?_)
  case' refine_2 =>
    have hz : splitsB ts t k = false := by simp [splitsB, hr]
    simp (disch := omega) only [go_sem, hr]
    refine S0.goCopy (copyProg_s ts hx hb) (.same (refs_prog1 _ _)) fun v1 h9 x9 S9 o1 n1 c1 => ?_
    have y1 := S9.blk 1 rfl
    have y1' : ∀ d, (h9.set 1 d)[1]? = some d := fun d => heap_set _ y1
    simp (disch := omega) only [go_sem, o1, n1, c1, y1, y1', storeH, storeB, splice]
    rw [splitTM, if_neg (by rw [hz]; simp), hz]
    exact (((S9.pull 1).setK [[v1]]).drop1).progB
  simp (disch := omega) only [go_sem, hr]
  refine CP.go (l01In_c _ _ _) rfl rfl ?_
  simp (disch := omega) only [go_sem, hr]
  refine condP_split (fun hw => ?_) (fun hw => ?_)
  case' refine_2 =>
    have hz : splitsB ts t k = false := by simp [splitsB, hw]
    simp (disch := omega) only [go_sem, hw]
    refine S0.goCopy (copyProg_s ts hx hb) (.same (refs_prog1 _ _)) fun v1 h9 x9 S9 o1 n1 c1 => ?_
    have y1 := S9.blk 1 rfl
    have y1' : ∀ d, (h9.set 1 d)[1]? = some d := fun d => heap_set _ y1
    simp (disch := omega) only [go_sem, o1, n1, c1, y1, y1', storeH, storeB, splice]
    rw [splitTM, if_neg (by rw [hz]; simp), hz]
    exact (((S9.pull 1).setK [[v1]]).drop1).progB
  have htb : 0 ≤ t ∧ t ≤ (ts.length : Int) - 1 := by simpa [within] using hw
  refine Exists.elim (show ∃ n : Nat, t = n from ⟨t.toNat, by omega⟩) fun n hn => ?_
  have hnl : n < ts.length := by omega
  have hca := cutsAt_eq hn hnl
  subst hn
  have hbn := hb _ (List.getElem_mem hnl)
  simp (disch := omega) only [go_sem, hw, encTask]
  refine condP_dec (fun h6 => ?_) (fun h6 => ?_)
  · have h6' : ts.length = 6 := by omega
    have hz : splitsB ts n k = false := by simp [splitsB, h6']
    simp (disch := omega) only [go_sem, hw, encTask]
    refine S0.goCopy (copyProg_s ts hx hb) (.same (refs_prog1 _ _)) fun v1 h9 x9 S9 o1 n1 c1 => ?_
    have y1 := S9.blk 1 rfl
    have y1' : ∀ d, (h9.set 1 d)[1]? = some d := fun d => heap_set _ y1
    simp (disch := omega) only [go_sem, o1, n1, c1, y1, y1', storeH, storeB, splice]
    rw [splitTM, if_neg (by rw [hz]; simp), hz]
    exact (((S9.pull 1).setK [[v1]]).drop1).progB
  have h6' : ¬ ts.length = 6 := by omega
  simp (disch := omega) only [go_sem, hw, encTask]
  refine S0.goLst (CP.f (flat_encI _) (by simp) (cutPoints_s ts[n].body hbn)) (.same (refs_arg _ _)) fun r h2 x2 S2 r1 r2 r3 => ?_
  have k2 := S2.blk 2 rfl
  simp (disch := omega) only [go_sem, r1, r2, r3, k2]
  refine CP.goS (hasVar_s (cutsM ts[n].body) k ?_) rfl rfl (.cons (S2.snap 0 rfl) (.cons (.int _ _) (.nil _))) ?_
  · have := cutsM_len ts[n].body; omega
  simp (disch := omega) only [go_sem, r1, r2, r3, k2]
  refine condP_dec (fun hk => ?_) (fun hk => ?_)
  case' refine_2 =>
    have hz : splitsB ts n k = false := by simp [splitsB, hca, hk]
    simp (disch := omega) only [go_sem, k2]
    refine S2.goCopy (copyProg_s ts hx hb) (.same (refs_prog1 _ _)) fun v1 h9 x9 S9 o1 n1 c1 => ?_
    have y1 := S9.blk 2 rfl
    have y1' : ∀ d, (h9.set 1 d)[1]? = some d := fun d => heap_set _ y1
    simp (disch := omega) only [go_sem, o1, n1, c1, y1, y1', storeH, storeB, splice]
    rw [splitTM, if_neg (by rw [hz]; simp), hz]
    exact (((S9.pull 2).setK [[v1]]).drop1).progB
  have hz : splitsB ts n k = true := by simp [splitsB, hr, hw, h6', hca, hk]
  have hkp := cut_pos hk
  refine Exists.elim (show ∃ m : Nat, k = m from ⟨k.toNat, by omega⟩) fun m hm => ?_
  subst hm
  simp (disch := omega) only [go_sem, k2]
  refine S2.goCopy (split_s ts n m hx hb hnl (by omega) (by omega)) (.same (refs_progII _ ts _ _)) fun v1 h9 x9 S9 o1 n1 c1 => ?_
  have y1 := S9.blk 2 rfl
  have y1' : ∀ d, (h9.set 1 d)[1]? = some d := fun d => heap_set _ y1
  simp (disch := omega) only [go_sem, o1, n1, c1, y1, y1', storeH, storeB, splice]
  rw [splitTM, if_pos hz, hz]
  exact (((S9.pull 2).setK [[v1]]).drop1).progB
end Go.Av

namespace Go.Av
open Go.Proofs Go.RowKit
set_option linter.unusedVariables false
set_option linter.unusedSimpArgs false
set_option maxRecDepth 100000
set_option maxHeartbeats 4000000
theorem store_d {h : Heap} {id : Nat} {ts : List Task} {v : V} {L : List It} (hl : ts.length ≤ 6) (hb : ∀ t ∈ ts, t.body.length ≤ 1048576) (S : Sep h (.v (.lst 4 (ts.map encTask)) v :: .c id :: L)) : C Tryz.prog 63 [.ptr id 1 0 0, .agg [v]] h (fun r h' => ∃ s : Store, r = .agg (encStore s) ∧ storeOk s = true ∧ Sep h' (.v (.lst 4 (ts.map encTask)) v :: .c id :: L)) := by
  have zv := S.vv 0 rfl
  have hnh : [V.ptr id 1 0 0, .agg [v]].all V.noHole = true := rfl
  refine C.by mixed (cfn_ok Tryz.func63 ok63) hnh ?_
  simp (disch := omega) only [s63, go_sem, zv.1, zv.2.1, zv.2.2]
  have S0 : Sep (h ++ [[[v]], [[.int .i64 0, .int .i64 0, .int .i64 0, .int .i64 0]]]) (.c id :: .v (.lst 4 (ts.map encTask)) v :: .k h.length [[v]] :: .k (h.length + 1) [[.int .i64 0, .int .i64 0, .int .i64 0, .int .i64 0]] :: L) := by
    have := ((S.newK [[v]]).newK [[.int .i64 0, .int .i64 0, .int .i64 0, .int .i64 0]])
    simp only [List.append_assoc, List.cons_append, List.nil_append, List.length_append, List.length_cons, List.length_nil, Nat.zero_add] at this
    exact this.pk (A := [_, _, _, _]) [3, 2, 1, 0] rfl
  refine loopP_intro (fun q s => ∃ (k : Nat) (n : Int), k ≤ ts.length ∧ q = ts.length - k ∧ 1 ≤ n ∧ n ≤ 2300000000200 ∧ s.e 0 = .ptr id 1 0 0 ∧ s.e 3 = .ptr h.length 1 0 0 ∧ s.e 4 = .ptr (h.length + 1) 1 0 0 ∧ s.e 5 = .int .i64 n ∧ s.e 6 = .int .i64 k ∧ Sep s.h (.c id :: .v (.lst 4 (ts.map encTask)) v :: .k h.length [[v]] :: .k (h.length + 1) [[.int .i64 0, .int .i64 0, .int .i64 0, .int .i64 0]] :: L)) ts.length ⟨0, 1, by omega, by omega, by omega, by omega, by simp (disch := omega) only [go_sem, zv.1, zv.2.1, zv.2.2], by simp (disch := omega) only [go_sem, zv.1, zv.2.1, zv.2.2], by simp (disch := omega) only [go_sem, zv.1, zv.2.1, zv.2.2], by simp (disch := omega) only [go_sem, zv.1, zv.2.1, zv.2.2], by simp (disch := omega) only [go_sem, zv.1, zv.2.1, zv.2.2] <;> rfl, S0⟩ ?_
  intro q e hp P
  refine Exists.elim P fun k P => Exists.elim P fun n P => ?_
  have hk := P.1
  have hq := P.2.1
  have hn1 := P.2.2.1
  have hn2 := P.2.2.2.1
  have e0 := P.2.2.2.2.1
  have e3 := P.2.2.2.2.2.1
  have e4 := P.2.2.2.2.2.2.1
  have e5 := P.2.2.2.2.2.2.2.1
  have e6 := P.2.2.2.2.2.2.2.2.1
  have S1 := P.2.2.2.2.2.2.2.2.2
  clear P
  subst hq
  simp only at e0 e3 e4 e5 e6 S1
  have lenv := fun G => (S1.lst 1 rfl).elim fun i o => o.len_ G
  simp only [List.length_map] at lenv
  have K1 := S1.blk 2 rfl
  simp (disch := omega) only [go_sem, e0, e3, e4, e5, e6, zv.1, zv.2.1, zv.2.2, K1, lenv]
  refine condP_dec (fun hlt => ?_) (fun hlt => ?_)
  · have hlt' : k < ts.length := by omega
    refine Exists.elim (S1.row 1 rfl (k := k) (d := encTask ts[k]) (by simp [hlt'])) fun tid q => Exists.elim q fun b q => Exists.elim q fun c q => Exists.elim q fun i q => ?_
    have hv := q.1
    have hid := q.2.1
    have hbl := q.2.2.1
    have hc := q.2.2.2.1
    have oc := q.2.2.2.2
    clear q
    rw [List.length_map] at hv hbl
    refine Exists.elim oc.task fun va q => ?_
    have hcc := q.1
    have oa := q.2
    clear q oc
    subst hcc
    have za := oa.vv
    simp (disch := omega) only [go_sem, e0, e3, e4, e5, e6, zv.1, zv.2.1, zv.2.2, K1, lenv, hv, hid, hbl, hc, za.1, za.2.1, za.2.2]
    refine CP.goS (bootB_s ts[k] (hb _ (List.getElem_mem hlt'))) rfl rfl (.cons (Snap.ofSnaps ((OwnsL.mkTask oa).snap)) (.nil _)) ?_
    have hbd := bootB_bd ts[k]
    simp (disch := omega) only [go_sem, e0, e3, e4, e5, e6]
    exact nextP_intro (ts.length - (k + 1)) (by omega) ⟨k + 1, max n (bootB ts[k]), by omega, rfl, by omega, by omega, by simp (disch := omega) only [go_sem, e0, e3, e4, e5, e6], by simp (disch := omega) only [go_sem, e0, e3, e4, e5, e6], by simp (disch := omega) only [go_sem, e0, e3, e4, e5, e6], by simp (disch := omega) only [go_sem, e0, e3, e4, e5, e6], by simp (disch := omega) only [go_sem, e0, e3, e4, e5, e6] <;> rfl, S1⟩
  simp (disch := omega) only [go_sem, e0, e3, e4, e5, e6]
  refine S1.goBelow (n := 20) (by omega) fun x h2 x0 x1 S2 => ?_
  simp (disch := omega) only [go_sem, e0, e3, e4, e5, e6]
  refine S2.goBelow (n := 50) (by omega) fun y h3 y0 y1 S3 => ?_
  simp (disch := omega) only [go_sem, e0, e3, e4, e5, e6]
  refine S3.goBelow (n := 3) (by omega) fun w h4 w0 w1 S4 => ?_
  have K4 := S4.blk 3 rfl
  have c4 : ∀ d, (h4.set (h.length + 1) d)[h.length + 1]? = some d := fun d => heap_set _ K4
  simp (disch := omega) only [go_sem, e0, e3, e4, e5, e6, storeH, storeB, splice, K4, c4]
  refine ⟨⟨0, min (min (n + x) 5000 + y) 5000, min (n + x) 5000, w⟩, rfl, ?_, ((S4.pull 3).setK _).pk (A := [_, _, _, _]) [2, 1] rfl⟩
  simp only [storeOk, within, Bool.and_eq_true, decide_eq_true_eq]
  omega
end Go.Av

namespace Go.Av
open Go.Proofs Go.RowKit
set_option linter.unusedVariables false
set_option linter.unusedSimpArgs false
set_option maxRecDepth 100000
set_option maxHeartbeats 4000000
theorem big_c (bs : List Int) (hb : bs.length ≤ 9223372036854775807) : CP Tryz.prog 13 [.lst 1 (bs.map encB)] (.bool (decide (1048576 < (bs.length : Int)))) [] := by
  refine CP.by rfl mixed (cfn_ok Tryz.func13 ok13) rfl ?_
  simp (disch := omega) only [s13, go_sem]
theorem refs_bytes (n : Nat) (bs : List Int) : V.refsL n [.lst 1 (bs.map encB)] = true := by simp [V.refsL, V.refs, refsLL_map encB (fun _ => rfl) bs]
theorem Sep.goNew {h : Heap} {L : List It} {K : V → Heap → Prop} {bs : List Int} (S : Sep h L) (hb : bs.length ≤ 1048576) (hk : ∀ h', Sep h' (.c h.length :: L) → K (.ptr h.length 1 0 0) h') : @callP Tryz.prog 59 [.lst 1 (bs.map encB)] h ⟨K⟩ := by
  refine C.go (new_c bs h hb) ?_
  rintro r h' ⟨rfl, e, c⟩
  exact hk h' (S.curNew e c)
def DrawnP (ts : List Task) : Prop := (1 ≤ ts.length ∧ ts.length ≤ 3) ∧ ∀ t ∈ ts, taskOk t = true
theorem DrawnP.body {ts : List Task} (h : DrawnP ts) : ∀ t ∈ ts, t.body.length ≤ 1048576 := fun t ht => by
  have := (treeOf_ok (task_facts (h.2 t ht)).1).2.2
  omega
theorem DrawnP.ok {ts : List Task} (h : DrawnP ts) : programOk ts = true := by
  simp only [programOk, within, Bool.and_eq_true, decide_eq_true_eq, List.all_eq_true]
  have := h.1
  exact ⟨by omega, h.2⟩
theorem drawCert_d {h : Heap} {L : List It} {bs : List Int} (S : Sep h L) (hb : bs.length ≤ 1048576) : C Tryz.prog 14 [.lst 1 (bs.map encB)] h (fun r h' => ∃ (ts : List Task) (v : V) (m : List Int) (l : Nat) (t b : Int) (s : Store) (hs : List Int) (k : Nat), r = .tup [.agg [v], .own l 1 0 49 49, .agg (encStore s), .own k 1 0 hs.length hs.length] ∧ DrawnP ts ∧ MemD ts.length m t 0 b ∧ storeOk s = true ∧ hs.length ≤ 11 ∧ (∀ z ∈ hs, 0 ≤ z ∧ z ≤ 400) ∧ Sep h' (.v (.lst 4 (ts.map encTask)) v :: .k l (m.map encI) :: .k k (hs.map encI) :: L)) := by
  refine C.by mixed (cfn_ok Tryz.func14 ok14) rfl ?_
  simp (disch := omega) only [s14, go_sem]
  have S0 : Sep (h ++ [[[V.nils]], [[.int .i64 0, .int .i64 0, .int .i64 0, .int .i64 0]]]) (.k (h.length + 1) [[.int .i64 0, .int .i64 0, .int .i64 0, .int .i64 0]] :: .k h.length [[.nils]] :: L) := by
    have := ((S.newK [[.nils]]).newK [[.int .i64 0, .int .i64 0, .int .i64 0, .int .i64 0]])
    simp only [List.append_assoc, List.cons_append, List.nil_append, List.length_append, List.length_cons, List.length_nil, Nat.zero_add] at this
    exact this
  refine S0.goNew hb fun h1 S1 => ?_
  simp only [List.length_append, List.length_cons, List.length_nil, Nat.zero_add] at S1
  simp (disch := omega) only [go_sem]
  refine C.go (program_d S1) ?_
  rintro r h2 ⟨ts, v, rfl, hl, hok, S2⟩
  have hD : DrawnP ts := ⟨hl, hok⟩
  have zv := S2.vv 0 rfl
  simp (disch := omega) only [go_sem, zv.1, zv.2.1, zv.2.2, storeH, storeB, splice]
  refine C.go (mem_d ⟨hl.1, by omega⟩ ((S2.newK [[v]]).pk (A := [_, _, _]) [1, 2, 0] rfl)) ?_
  rintro r h3 ⟨m, l, t, c, b, rfl, hm, S3⟩
  have K3 := S3.blk 0 rfl
  have g8 := hm.ctl
  simp (disch := omega) only [go_sem, zv.1, zv.2.1, zv.2.2, storeH, storeB, splice, K3, g8, hm.len, List.getElem?_map, encI]
  have hpb := packM_bd t c b
  refine CP.go (unpack_s _) rfl rfl ?_
  have hu := unpack_pack (t := t) (c := c) (l := b) ⟨hm.t0, by have := hm.t1; have := hl.2; omega⟩ ⟨hm.c0, hm.c1⟩ ⟨hm.l0, hm.l1⟩
  simp (disch := omega) only [go_sem, zv.1, zv.2.1, zv.2.2, encU, hu]
  refine CP.go (pack_s _ _ _) rfl rfl ?_
  have st := store_i (z := packM t 0 b) (i := 8) (S3.blk 0 rfl) hm.len (by omega)
  have S4 := S3.setK ((m.set 8 (packM t 0 b)).map encI)
  have hm4 : MemD ts.length (m.set 8 (packM t 0 b)) t 0 b := ⟨by simpa using hm.len, set_all hm.val (by have := packM_bd t 0 b; omega), hm.t0, hm.t1, by omega, by omega, hm.l0, hm.l1, by rw [List.getElem?_set_self (by rw [hm.len]; omega)]⟩
  have K4 := S4.blk 3 rfl
  simp (disch := omega) only [go_sem, zv.1, zv.2.1, zv.2.2, st, K4]
  refine C.go (store_d (by omega) hD.body (S4.pk (A := [_, _, _]) [1, 2, 0] rfl)) ?_
  rintro r h5 ⟨s, rfl, hs, S5⟩
  have S6 := S5.newK [encStore s]
  simp only [encStore] at S6
  have K6 := S6.blk 4 rfl
  have A6 := S6.blk 0 rfl
  simp (disch := omega) only [go_sem, zv.1, zv.2.1, zv.2.2, storeH, storeB, splice, K6, A6, encStore]
  refine C.go (harvest_d (S6.pull 2)) ?_
  rintro r h7 ⟨hs', k, rfl, hl', hh', S7⟩
  have K7 := S7.blk 2 rfl
  have A7 := S7.blk 5 rfl
  have B7 := S7.blk 7 rfl
  have c7 : ∀ d, (h7.set h.length d)[h.length]? = some d := fun d => heap_set _ B7
  have S8 := (S7.pull 7).setK [[v]]
  have B8 := S8.blk 7 rfl
  have K8 := S8.blk 3 rfl
  have c8 : ∀ d, ((h7.set h.length [[v]]).set (h.length + 1) d)[h.length + 1]? = some d := fun d => heap_set _ B8
  have S9 := (S8.pull 7).setK [[.int .i64 s.charge, .int .i64 s.cap, .int .i64 s.on, .int .i64 s.leak]]
  have B9 := S9.blk 1 rfl
  simp (disch := omega) only [go_sem, zv.1, zv.2.1, zv.2.2, storeH, storeB, splice, K7, A7, B7, c7, B8, c8, B9, K8, resV_four]
  exact ⟨ts, v, m.set 8 (packM t 0 b), l, t, b, s, hs', k, rfl, hD, hm4, hs, hl', hh', S9.pk (A := [_, _, _, _, _, _, _, _]) [5, 6, 2] rfl⟩
end Go.Av

namespace Go.Av
open Go.Proofs Go.RowKit
set_option linter.unusedVariables false
set_option linter.unusedSimpArgs false
set_option maxRecDepth 100000
set_option maxHeartbeats 8000000
theorem gtI_of {m : List Int} {k : Nat} {z : Int} (h : m[k]? = some z) : gtI m k = z := by simp [gtI, h]
theorem memD_ok {ts : List Task} {m : List Int} {t b : Int} (hD : DrawnP ts) (h : MemD ts.length m t 0 b) : memOkM ts m = true ∧ unpackM (gtI m 8) = (t, 0, b) := by
  have hl := hD.1
  have ht1 := h.t1
  have hu : unpackM (gtI m 8) = (t, 0, b) := by
    rw [gtI_of h.ctl]
    exact unpack_pack ⟨h.t0, by omega⟩ ⟨by omega, by omega⟩ ⟨h.l0, h.l1⟩
  refine ⟨?_, hu⟩
  have va : ∀ l : List Int, (∀ z ∈ l, z ∈ m) → vals l = true := fun l hl => vals_iff.2 fun z hz => by
    have := h.val z (hl z hz)
    simp [isValue, within]; omega
  simp only [memOkM, hu, hD.ok, h.len, Bool.and_eq_true, decide_eq_true_eq, Bool.true_and]
  refine ⟨⟨⟨⟨trivial, va _ fun z hz => List.mem_of_mem_take hz⟩, h.t0, h.t1⟩, va _ fun z hz => List.mem_of_mem_take (List.mem_of_mem_drop hz)⟩, rfl⟩
theorem drawMem_d {h : Heap} {L : List It} {bs : List Int} (S : Sep h L) (hb : bs.length ≤ 1048576) : C Tryz.prog 30 [.lst 1 (bs.map encB)] h (fun r h' => ∃ (ts : List Task) (v : V) (m : List Int) (l : Nat) (t b : Int), r = .tup [.agg [v], .own l 1 0 49 49] ∧ DrawnP ts ∧ MemD ts.length m t 0 b ∧ Sep h' (.v (.lst 4 (ts.map encTask)) v :: .k l (m.map encI) :: L)) := by
  refine C.by mixed (cfn_ok Tryz.func30 ok30) rfl ?_
  simp (disch := omega) only [s30, go_sem]
  have S0 := S.newK [[V.nils]]
  refine S0.goNew hb fun h1 S1 => ?_
  simp only [List.length_append, List.length_cons, List.length_nil, Nat.zero_add] at S1
  simp (disch := omega) only [go_sem]
  refine C.go (program_d S1) ?_
  rintro r h2 ⟨ts, v, rfl, hl, hok, S2⟩
  have hD : DrawnP ts := ⟨hl, hok⟩
  have zv := S2.vv 0 rfl
  simp (disch := omega) only [go_sem, zv.1, zv.2.1, zv.2.2, storeH, storeB, splice]
  refine C.go (mem_d ⟨hl.1, by omega⟩ ((S2.newK [[v]]).pk (A := [_, _, _]) [1, 2, 0] rfl)) ?_
  rintro r h3 ⟨m, l, t, c, b, rfl, hm, S3⟩
  have K3 := S3.blk 0 rfl
  have g8 := hm.ctl
  simp (disch := omega) only [go_sem, zv.1, zv.2.1, zv.2.2, storeH, storeB, splice, K3, g8, hm.len, List.getElem?_map, encI]
  refine CP.go (unpack_s _) rfl rfl ?_
  have hu := unpack_pack (t := t) (c := c) (l := b) ⟨hm.t0, by have := hm.t1; have := hl.2; omega⟩ ⟨hm.c0, hm.c1⟩ ⟨hm.l0, hm.l1⟩
  simp (disch := omega) only [go_sem, zv.1, zv.2.1, zv.2.2, encU, hu]
  refine CP.go (pack_s _ _ _) rfl rfl ?_
  have st := store_i (z := packM t 0 b) (i := 8) (S3.blk 0 rfl) hm.len (by omega)
  have S4 := S3.setK ((m.set 8 (packM t 0 b)).map encI)
  have hm4 : MemD ts.length (m.set 8 (packM t 0 b)) t 0 b := ⟨by simpa using hm.len, set_all hm.val (by have := packM_bd t 0 b; omega), hm.t0, hm.t1, by omega, by omega, hm.l0, hm.l1, by rw [List.getElem?_set_self (by rw [hm.len]; omega)]⟩
  have K4 := S4.blk 3 rfl
  have Z4 := S4.blk 4 rfl
  have c4 : ∀ d, ((h3.set l ((m.set 8 (packM t 0 b)).map encI)).set h.length d)[h.length]? = some d := fun d => heap_set _ Z4
  simp (disch := omega) only [go_sem, zv.1, zv.2.1, zv.2.2, st, K4]
  simp (disch := omega) only [go_sem, zv.1, zv.2.1, zv.2.2, Z4, c4, storeH, storeB, splice]
  exact ⟨ts, v, m.set 8 (packM t 0 b), l, t, b, rfl, hD, hm4, ((S4.pull 4).setK [[v]]).pk (A := [_, _, _, _, _]) [2, 1] rfl⟩
theorem drawReadings_d {h : Heap} {L : List It} {bs : List Int} (S : Sep h L) (hb : bs.length ≤ 1048576) : C Tryz.prog 15 [.lst 1 (bs.map encB)] h (fun r h' => ∃ (zs : List Int) (l : Nat), r = .own l 1 0 zs.length zs.length ∧ (1 ≤ zs.length ∧ zs.length ≤ 9) ∧ vals zs = true ∧ Sep h' (.k l (zs.map encI) :: L)) := by
  refine C.by mixed (cfn_ok Tryz.func15 ok15) rfl ?_
  simp (disch := omega) only [s15, go_sem]
  refine S.goNew hb fun h1 S1 => ?_
  simp (disch := omega) only [go_sem]
  refine C.go (readings_d S1) ?_
  rintro r h2 ⟨zs, l, rfl, hl, hz, S2⟩
  simp (disch := omega) only [go_sem]
  exact ⟨zs, l, rfl, hl, vals_iff.2 fun z hz' => by have := hz z hz'; simp [isValue, within]; omega, S2.drop 1⟩
theorem bounds_law (bs : List Int) (hb : bs.length ≤ 9223372036854775807) : CP Tryz.prog 5 [.lst 1 (bs.map encB)] (.bool true) [] := by
  refine CP.by rfl mixed (cfn_ok Tryz.func5 ok5) rfl ?_
  simp (disch := omega) only [s5, go_sem]
  refine CP.go (big_c bs hb) rfl (refs_bytes _ _) ?_
  simp (disch := omega) only [go_sem]
  refine condP_dec (fun hbig => ?_) (fun hbig => ?_)
  · simp (disch := omega) only [go_sem]
  simp (disch := omega) only [go_sem]
  refine C.go (drawMem_d (Sep.nil _) (by omega)) ?_
  intro r h1 P
  refine Exists.elim P fun ts P => Exists.elim P fun v P => Exists.elim P fun m P => Exists.elim P fun l P => Exists.elim P fun t P => Exists.elim P fun b P => ?_
  have hr := P.1
  have hD := P.2.1
  have hm := P.2.2.1
  have S1 := P.2.2.2
  clear P
  subst hr
  have zv := S1.vv 0 rfl
  have hok := memD_ok hD hm
  have hu := hok.2
  have S2 := S1.newK [[v]]
  have A2 := S2.blk 0 rfl
  simp (disch := omega) only [go_sem, zv.1, zv.2.1, zv.2.2, storeH, storeB, splice]
  refine C.go (drawReadings_d S2 (by omega)) ?_
  rintro r h3 ⟨rd, l3, rfl, hl3, hv3, S3⟩
  have A3 := S3.blk 1 rfl
  simp (disch := omega) only [go_sem, zv.1, zv.2.1, zv.2.2, A3]
  refine S3.go (traceOfT_f ts m rd 0 t b hok.1 hu (by omega) hv3 (by omega)) (.cons (S3.progSnap 2 rfl) (.cons (Snap.flatN (S3.blk 3 rfl) (by simpa using hm.len) (flat_encI _)) (.cons (Snap.flatN (S3.blk 0 rfl) (by simp) (flat_encI _)) (.cons (.int _ _) (.nil _))))) fun r4 h4 x4 S4 => ?_
  refine Exists.elim S4.openT fun va q => Exists.elim q fun vb q => ?_
  have hr4 := q.1
  have S5 := q.2
  clear q S4
  subst hr4
  have za := S5.vv 0 rfl
  have zb := S5.vv 1 rfl
  have S6 := S5.newK [[va, vb]]
  have M6 := S6.blk 6 rfl
  have g8 := gtI_some (zs := m) (i := 8) (by rw [hm.len]; omega)
  have hml := hm.len
  simp (disch := omega) only [go_sem, zv.1, zv.2.1, zv.2.2, za.1, za.2.1, za.2.2, zb.1, zb.2.1, zb.2.2, storeH, storeB, splice, M6, g8, hml, List.getElem?_map, encI, gtI_get]
  refine CP.go (unpack_s _) rfl rfl ?_
  have htl : t.toNat < ts.length := by have := hm.t0; have := hm.t1; omega
  have ht0 := hm.t0
  have ht1 := hm.t1
  refine Exists.elim (S6.row 5 rfl (k := t.toNat) (d := encTask (taskAt ts t)) (by rw [List.getElem?_map, taskAt_some htl]; rfl)) fun tid q => Exists.elim q fun bb q => Exists.elim q fun c q => Exists.elim q fun i q => ?_
  have hv := q.1
  have hid := q.2.1
  have hbl := q.2.2.1
  have hc := q.2.2.2.1
  have oc := q.2.2.2.2
  clear q
  rw [List.length_map] at hv hbl
  refine Exists.elim oc.task fun vt q => ?_
  have hcc := q.1
  have oa := q.2
  clear q oc
  subst hcc
  have zt := oa.vv
  have A6 := S6.blk 4 rfl
  subst hv
  simp (disch := omega) only [go_sem, encU, hu, za.1, za.2.1, za.2.2, zb.1, zb.2.1, zb.2.2, zt.1, zt.2.1, zt.2.2, A6, hid, hbl, hc, Nat.zero_add]
  have hmem : taskAt ts t ∈ ts := by rw [← taskAt_eq htl]; exact List.getElem_mem _
  have htk := hD.2 _ hmem
  have hbt := hD.body _ hmem
  have hcost := trace_cost (m := m) (rd := rd) (at_ := 0) (tail := b) htk
  have hpos := trace_pos (ts := ts) (task := t) (m := m) (rd := rd) (at_ := 0) (tail := b) htk
  have hTb := taskB_bd (taskAt ts t)
  have hBb := bootB_bd (taskAt ts t)
  have hle1 : taskB (taskAt ts t) ≤ bootB (taskAt ts t) := by
    rw [bootB, if_pos htk]; unfold recCost; split <;> omega
  have hlt1 : blockB (taskAt ts t) < taskB (taskAt ts t) := by
    rw [blockB, if_pos htk, taskB, if_pos htk]; omega
  have hll := len_le_sum _ hpos
  have hsl : (traceS ts m rd 0 t b).length ≤ 9223372036854775807 := by omega
  refine CP.goS (traceCost_c (traceS ts m rd 0 t b) (traceU ts m rd 0 t b) (fun x hx => by have := hpos x hx; omega) (by omega) hsl) rfl rfl (.cons (Snap.ofSnaps (.cons ((S5.app _).snap 0 rfl) (.cons ((S5.app _).snap 1 rfl) (.nil _)))) (.nil _)) ?_
  have otk : ∀ c, Snap (h4 ++ [[[va, vb]], c]) (.agg [vt, .int .i64 (taskAt ts t).next.op, .int .i64 (taskAt ts t).next.a, .int .i64 (taskAt ts t).next.b]) (.agg (encTask (taskAt ts t))) := fun c => by
    have := (Snap.ofSnaps ((OwnsL.mkTask oa).snap)).ext [c]
    simpa only [List.append_assoc, List.cons_append, List.nil_append] using this
  simp (disch := omega) only [go_sem, encU, hu, za.1, za.2.1, za.2.2, zb.1, zb.2.1, zb.2.2, zt.1, zt.2.1, zt.2.2, A6, hid, hbl, hc, Nat.zero_add]
  refine CP.goS (taskB_c (taskAt ts t) hbt) rfl rfl (.cons (otk _) (.nil _)) ?_
  simp (disch := omega) only [go_sem, encU, hu, za.1, za.2.1, za.2.2, zb.1, zb.2.1, zb.2.2, zt.1, zt.2.1, zt.2.2, A6, hid, hbl, hc, Nat.zero_add]
  refine CP.goS (taskB_c (taskAt ts t) hbt) rfl rfl (.cons (otk _) (.nil _)) ?_
  simp (disch := omega) only [go_sem, encU, hu, za.1, za.2.1, za.2.2, zb.1, zb.2.1, zb.2.2, zt.1, zt.2.1, zt.2.2, A6, hid, hbl, hc, Nat.zero_add]
  refine CP.goS (bootB_c (taskAt ts t) hbt) rfl rfl (.cons (otk _) (.nil _)) ?_
  simp (disch := omega) only [go_sem, encU, hu, za.1, za.2.1, za.2.2, zb.1, zb.2.1, zb.2.2, zt.1, zt.2.1, zt.2.2, A6, hid, hbl, hc, Nat.zero_add]
  refine CP.goS (blockB_c (taskAt ts t) hbt) rfl rfl (.cons (otk _) (.nil _)) ?_
  simp (disch := omega) only [go_sem, encU, hu, za.1, za.2.1, za.2.2, zb.1, zb.2.1, zb.2.2, zt.1, zt.2.1, zt.2.2, A6, hid, hbl, hc, Nat.zero_add]
  refine CP.goS (taskB_c (taskAt ts t) hbt) rfl rfl (.cons (otk _) (.nil _)) ?_
  simp (disch := omega) only [go_sem, encU, hu, za.1, za.2.1, za.2.2, zb.1, zb.2.1, zb.2.2, zt.1, zt.2.1, zt.2.2, A6, hid, hbl, hc, Nat.zero_add]
  rw [decide_eq_true hlt1]
end Go.Av

