import Derived.Test.YtjfmbdigfnablaaGreatZZDCFnBounds
import Derived.Test.YtjfmbdigfnablaaGreatAv27
namespace Go.Av
open Go.Proofs Go.RowKit
set_option linter.unusedVariables false
set_option linter.unusedSimpArgs false
set_option maxRecDepth 100000
set_option maxHeartbeats 4000000
theorem store_d {h : Heap} {id : Nat} {ts : List Task} {v : V} {L : List It} (hl : ts.length ≤ 6) (hb : ∀ t ∈ ts, t.body.length ≤ 1048576) (S : Sep h (.v (.lst 4 (ts.map encTask)) v :: .c id :: L)) : C Tryz.prog 63 [.ptr id 1 0 0, .agg [v]] h (fun r h' => ∃ s : Store, r = .agg (encStore s) ∧ storeOk s = true ∧ Sep h' (.v (.lst 4 (ts.map encTask)) v :: .c id :: L)) := by
  have zv := S.vv 0 rfl
  have hnh : [V.ptr id 1 0 0, .agg [v]].all V.noHole = true := rfl
  refine C.by mixed (cfn_ok Tryz.func63 ok63) hnh ?_
  simp (disch := omega) only [s63, go_sem, zv.1, zv.2.1, zv.2.2]
  have S0 : Sep (h ++ [[[v]], [[.int .i64 0, .int .i64 0, .int .i64 0, .int .i64 0]]]) (.c id :: .v (.lst 4 (ts.map encTask)) v :: .k h.length [[v]] :: .k (h.length + 1) [[.int .i64 0, .int .i64 0, .int .i64 0, .int .i64 0]] :: L) := by
    have := ((S.newK [[v]]).newK [[.int .i64 0, .int .i64 0, .int .i64 0, .int .i64 0]])
    simp only [List.append_assoc, List.cons_append, List.nil_append, List.length_append, List.length_cons, List.length_nil, Nat.zero_add] at this
    exact this.pk (A := [_, _, _, _]) [3, 2, 1, 0] rfl
  refine loopP_intro (fun q s => ∃ (k : Nat) (n : Int), k ≤ ts.length ∧ q = ts.length - k ∧ 1 ≤ n ∧ n ≤ 2300000000200 ∧ s.e 0 = .ptr id 1 0 0 ∧ s.e 3 = .ptr h.length 1 0 0 ∧ s.e 4 = .ptr (h.length + 1) 1 0 0 ∧ s.e 5 = .int .i64 n ∧ s.e 6 = .int .i64 k ∧ Sep s.h (.c id :: .v (.lst 4 (ts.map encTask)) v :: .k h.length [[v]] :: .k (h.length + 1) [[.int .i64 0, .int .i64 0, .int .i64 0, .int .i64 0]] :: L)) ts.length ⟨0, 1, by omega, by omega, by omega, by omega, by simp (disch := omega) only [go_sem, zv.1, zv.2.1, zv.2.2], by simp (disch := omega) only [go_sem, zv.1, zv.2.1, zv.2.2], by simp (disch := omega) only [go_sem, zv.1, zv.2.1, zv.2.2], by simp (disch := omega) only [go_sem, zv.1, zv.2.1, zv.2.2], by simp (disch := omega) only [go_sem, zv.1, zv.2.1, zv.2.2] <;> rfl, S0⟩ ?_
  intro q e hp P
  refine Exists.elim P fun k P => Exists.elim P fun n P => ?_
  have hk := P.1
  have hq := P.2.1
  have hn1 := P.2.2.1
  have hn2 := P.2.2.2.1
  have e0 := P.2.2.2.2.1
  have e3 := P.2.2.2.2.2.1
  have e4 := P.2.2.2.2.2.2.1
  have e5 := P.2.2.2.2.2.2.2.1
  have e6 := P.2.2.2.2.2.2.2.2.1
  have S1 := P.2.2.2.2.2.2.2.2.2
  clear P
  subst hq
  simp only at e0 e3 e4 e5 e6 S1
  have lenv := fun G => (S1.lst 1 rfl).elim fun i o => o.len_ G
  simp only [List.length_map] at lenv
  have K1 := S1.blk 2 rfl
  simp (disch := omega) only [go_sem, e0, e3, e4, e5, e6, zv.1, zv.2.1, zv.2.2, K1, lenv]
  refine condP_dec (fun hlt => ?_) (fun hlt => ?_)
  · have hlt' : k < ts.length := by omega
    refine Exists.elim (S1.row 1 rfl (k := k) (d := encTask ts[k]) (by simp [hlt'])) fun tid q => Exists.elim q fun b q => Exists.elim q fun c q => Exists.elim q fun i q => ?_
    have hv := q.1
    have hid := q.2.1
    have hbl := q.2.2.1
    have hc := q.2.2.2.1
    have oc := q.2.2.2.2
    clear q
    rw [List.length_map] at hv hbl
    refine Exists.elim oc.task fun va q => ?_
    have hcc := q.1
    have oa := q.2
    clear q oc
    subst hcc
    have za := oa.vv
    simp (disch := omega) only [go_sem, e0, e3, e4, e5, e6, zv.1, zv.2.1, zv.2.2, K1, lenv, hv, hid, hbl, hc, za.1, za.2.1, za.2.2]
    refine CP.goS (bootB_s ts[k] (hb _ (List.getElem_mem hlt'))) rfl rfl (.cons (Snap.ofSnaps ((OwnsL.mkTask oa).snap)) (.nil _)) ?_
    have hbd := bootB_bd ts[k]
    simp (disch := omega) only [go_sem, e0, e3, e4, e5, e6]
    exact nextP_intro (ts.length - (k + 1)) (by omega) ⟨k + 1, max n (bootB ts[k]), by omega, rfl, by omega, by omega, by simp (disch := omega) only [go_sem, e0, e3, e4, e5, e6], by simp (disch := omega) only [go_sem, e0, e3, e4, e5, e6], by simp (disch := omega) only [go_sem, e0, e3, e4, e5, e6], by simp (disch := omega) only [go_sem, e0, e3, e4, e5, e6], by simp (disch := omega) only [go_sem, e0, e3, e4, e5, e6] <;> rfl, S1⟩
  simp (disch := omega) only [go_sem, e0, e3, e4, e5, e6]
  refine S1.goBelow (n := 20) (by omega) fun x h2 x0 x1 S2 => ?_
  simp (disch := omega) only [go_sem, e0, e3, e4, e5, e6]
  refine S2.goBelow (n := 50) (by omega) fun y h3 y0 y1 S3 => ?_
  simp (disch := omega) only [go_sem, e0, e3, e4, e5, e6]
  refine S3.goBelow (n := 3) (by omega) fun w h4 w0 w1 S4 => ?_
  have K4 := S4.blk 3 rfl
  have c4 : ∀ d, (h4.set (h.length + 1) d)[h.length + 1]? = some d := fun d => heap_set _ K4
  simp (disch := omega) only [go_sem, e0, e3, e4, e5, e6, storeH, storeB, splice, K4, c4]
  refine ⟨⟨0, min (min (n + x) 5000 + y) 5000, min (n + x) 5000, w⟩, rfl, ?_, ((S4.pull 3).setK _).pk (A := [_, _, _, _]) [2, 1] rfl⟩
  simp only [storeOk, within, Bool.and_eq_true, decide_eq_true_eq]
  omega
end Go.Av

namespace Go.Av
open Go.Proofs Go.RowKit
set_option linter.unusedVariables false
set_option linter.unusedSimpArgs false
set_option maxRecDepth 100000
set_option maxHeartbeats 4000000
theorem big_c (bs : List Int) (hb : bs.length ≤ 9223372036854775807) : CP Tryz.prog 13 [.lst 1 (bs.map encB)] (.bool (decide (1048576 < (bs.length : Int)))) [] := by
  refine CP.by rfl mixed (cfn_ok Tryz.func13 ok13) rfl ?_
  simp (disch := omega) only [s13, go_sem]
theorem refs_bytes (n : Nat) (bs : List Int) : V.refsL n [.lst 1 (bs.map encB)] = true := by simp [V.refsL, V.refs, refsLL_map encB (fun _ => rfl) bs]
theorem Sep.goNew {h : Heap} {L : List It} {K : V → Heap → Prop} {bs : List Int} (S : Sep h L) (hb : bs.length ≤ 1048576) (hk : ∀ h', Sep h' (.c h.length :: L) → K (.ptr h.length 1 0 0) h') : @callP Tryz.prog 59 [.lst 1 (bs.map encB)] h ⟨K⟩ := by
  refine C.go (new_c bs h hb) ?_
  rintro r h' ⟨rfl, e, c⟩
  exact hk h' (S.curNew e c)
def DrawnP (ts : List Task) : Prop := (1 ≤ ts.length ∧ ts.length ≤ 3) ∧ ∀ t ∈ ts, taskOk t = true
theorem DrawnP.body {ts : List Task} (h : DrawnP ts) : ∀ t ∈ ts, t.body.length ≤ 1048576 := fun t ht => by
  have := (treeOf_ok (task_facts (h.2 t ht)).1).2.2
  omega
theorem DrawnP.ok {ts : List Task} (h : DrawnP ts) : programOk ts = true := by
  simp only [programOk, within, Bool.and_eq_true, decide_eq_true_eq, List.all_eq_true]
  have := h.1
  exact ⟨by omega, h.2⟩
theorem drawCert_d {h : Heap} {L : List It} {bs : List Int} (S : Sep h L) (hb : bs.length ≤ 1048576) : C Tryz.prog 14 [.lst 1 (bs.map encB)] h (fun r h' => ∃ (ts : List Task) (v : V) (m : List Int) (l : Nat) (t b : Int) (s : Store) (hs : List Int) (k : Nat), r = .tup [.agg [v], .own l 1 0 49 49, .agg (encStore s), .own k 1 0 hs.length hs.length] ∧ DrawnP ts ∧ MemD ts.length m t 0 b ∧ storeOk s = true ∧ hs.length ≤ 11 ∧ (∀ z ∈ hs, 0 ≤ z ∧ z ≤ 400) ∧ Sep h' (.v (.lst 4 (ts.map encTask)) v :: .k l (m.map encI) :: .k k (hs.map encI) :: L)) := by
  refine C.by mixed (cfn_ok Tryz.func14 ok14) rfl ?_
  simp (disch := omega) only [s14, go_sem]
  have S0 : Sep (h ++ [[[V.nils]], [[.int .i64 0, .int .i64 0, .int .i64 0, .int .i64 0]]]) (.k (h.length + 1) [[.int .i64 0, .int .i64 0, .int .i64 0, .int .i64 0]] :: .k h.length [[.nils]] :: L) := by
    have := ((S.newK [[.nils]]).newK [[.int .i64 0, .int .i64 0, .int .i64 0, .int .i64 0]])
    simp only [List.append_assoc, List.cons_append, List.nil_append, List.length_append, List.length_cons, List.length_nil, Nat.zero_add] at this
    exact this
  refine S0.goNew hb fun h1 S1 => ?_
  simp only [List.length_append, List.length_cons, List.length_nil, Nat.zero_add] at S1
  simp (disch := omega) only [go_sem]
  refine C.go (program_d S1) ?_
  rintro r h2 ⟨ts, v, rfl, hl, hok, S2⟩
  have hD : DrawnP ts := ⟨hl, hok⟩
  have zv := S2.vv 0 rfl
  simp (disch := omega) only [go_sem, zv.1, zv.2.1, zv.2.2, storeH, storeB, splice]
  refine C.go (mem_d ⟨hl.1, by omega⟩ ((S2.newK [[v]]).pk (A := [_, _, _]) [1, 2, 0] rfl)) ?_
  rintro r h3 ⟨m, l, t, c, b, rfl, hm, S3⟩
  have K3 := S3.blk 0 rfl
  have g8 := hm.ctl
  simp (disch := omega) only [go_sem, zv.1, zv.2.1, zv.2.2, storeH, storeB, splice, K3, g8, hm.len, List.getElem?_map, encI]
  have hpb := packM_bd t c b
  refine CP.go (unpack_s _) rfl rfl ?_
  have hu := unpack_pack (t := t) (c := c) (l := b) ⟨hm.t0, by have := hm.t1; have := hl.2; omega⟩ ⟨hm.c0, hm.c1⟩ ⟨hm.l0, hm.l1⟩
  simp (disch := omega) only [go_sem, zv.1, zv.2.1, zv.2.2, encU, hu]
  refine CP.go (pack_s _ _ _) rfl rfl ?_
  have st := store_i (z := packM t 0 b) (i := 8) (S3.blk 0 rfl) hm.len (by omega)
  have S4 := S3.setK ((m.set 8 (packM t 0 b)).map encI)
  have hm4 : MemD ts.length (m.set 8 (packM t 0 b)) t 0 b := ⟨by simpa using hm.len, set_all hm.val (by have := packM_bd t 0 b; omega), hm.t0, hm.t1, by omega, by omega, hm.l0, hm.l1, by rw [List.getElem?_set_self (by rw [hm.len]; omega)]⟩
  have K4 := S4.blk 3 rfl
  simp (disch := omega) only [go_sem, zv.1, zv.2.1, zv.2.2, st, K4]
  refine C.go (store_d (by omega) hD.body (S4.pk (A := [_, _, _]) [1, 2, 0] rfl)) ?_
  rintro r h5 ⟨s, rfl, hs, S5⟩
  have S6 := S5.newK [encStore s]
  simp only [encStore] at S6
  have K6 := S6.blk 4 rfl
  have A6 := S6.blk 0 rfl
  simp (disch := omega) only [go_sem, zv.1, zv.2.1, zv.2.2, storeH, storeB, splice, K6, A6, encStore]
  refine C.go (harvest_d (S6.pull 2)) ?_
  rintro r h7 ⟨hs', k, rfl, hl', hh', S7⟩
  have K7 := S7.blk 2 rfl
  have A7 := S7.blk 5 rfl
  have B7 := S7.blk 7 rfl
  have c7 : ∀ d, (h7.set h.length d)[h.length]? = some d := fun d => heap_set _ B7
  have S8 := (S7.pull 7).setK [[v]]
  have B8 := S8.blk 7 rfl
  have K8 := S8.blk 3 rfl
  have c8 : ∀ d, ((h7.set h.length [[v]]).set (h.length + 1) d)[h.length + 1]? = some d := fun d => heap_set _ B8
  have S9 := (S8.pull 7).setK [[.int .i64 s.charge, .int .i64 s.cap, .int .i64 s.on, .int .i64 s.leak]]
  have B9 := S9.blk 1 rfl
  simp (disch := omega) only [go_sem, zv.1, zv.2.1, zv.2.2, storeH, storeB, splice, K7, A7, B7, c7, B8, c8, B9, K8, resV_four]
  exact ⟨ts, v, m.set 8 (packM t 0 b), l, t, b, s, hs', k, rfl, hD, hm4, hs, hl', hh', S9.pk (A := [_, _, _, _, _, _, _, _]) [5, 6, 2] rfl⟩
end Go.Av

namespace Go.Av
open Go.Proofs Go.RowKit
set_option linter.unusedVariables false
set_option linter.unusedSimpArgs false
set_option maxRecDepth 100000
set_option maxHeartbeats 4000000
def itN {α : Type} (f : α → α) : Nat → α → α
  | 0, a => a
  | n + 1, a => itN f n (f a)
theorem itN_succ {α : Type} (f : α → α) : ∀ (n : Nat) (a : α), itN f (n + 1) a = f (itN f n a)
  | 0, a => rfl
  | n + 1, a => by show itN f (n + 1) (f a) = _; rw [itN_succ f n (f a)]; rfl
def rounds (s : Stmt) (b : Bool) : Nat := if s.kind = 4 then (if b = true then 1 else 0) else s.n.toNat
def runG {σ : Type} (stp : Stmt → σ → σ) (hold : Stmt → σ → Bool) : Tr → σ → σ
  | .nil, st => st
  | .one s r, st => runG stp hold r (stp s st)
  | .grp s a r, st => runG stp hold r (itN (fun x => runG stp hold a x) (rounds s (hold s st)) (stp s st))
def cntT : Tr → Nat
  | .nil => 0
  | .one _ r => 1 + cntT r
  | .grp _ a r => 1 + 5 * cntT a + cntT r
theorem pow3n_le {a b : Nat} (h : a ≤ b) : 3 ^ a ≤ 3 ^ b := Nat.pow_le_pow_right (by omega) h
theorem cntT_lt : ∀ t : Tr, cntT t + 1 ≤ 3 ^ t.flat.length
  | .nil => by simp [cntT, Tr.flat]
  | .one s r => by
    have := cntT_lt r
    simp only [cntT, Tr.flat, List.length_cons, Nat.pow_succ]
    omega
  | .grp s a r => by
    have h1 := cntT_lt a
    have h2 := cntT_lt r
    have hl : (Tr.grp s a r).flat.length = (a.flat.length + r.flat.length) + 1 + 1 := by simp [Tr.flat]; omega
    have p1 := pow3n_le (show a.flat.length ≤ a.flat.length + r.flat.length by omega)
    have p2 := pow3n_le (show r.flat.length ≤ a.flat.length + r.flat.length by omega)
    rw [hl, Nat.pow_succ, Nat.pow_succ]
    simp only [cntT]
    omega
def maxCnt : Nat := 282429536481
theorem cntT_max {t : Tr} (h : t.flat.length ≤ 24) : cntT t ≤ maxCnt := by
  have h1 := cntT_lt t
  have h2 := pow3n_le h
  have : 3 ^ 24 = maxCnt := by decide
  omega
theorem rounds_le {s : Stmt} {b : Bool} (h : stmtOk s = true) (hk : s.kind = 4 ∨ s.kind = 5) : rounds s b ≤ 5 ∧ (s.kind = 5 → (rounds s b : Int) = s.n) ∧ (s.kind = 4 → (rounds s b : Int) = bitI b) := by
  have ht := stmt_times h hk
  unfold rounds timesS at *
  rcases hk with h4 | h5
  · rw [if_pos h4]
    refine ⟨by split <;> omega, fun h => by omega, fun _ => ?_⟩
    cases b <;> simp [bitI]
  · rw [if_neg (by omega)]
    rw [if_pos h5] at ht
    exact ⟨by omega, fun _ => by omega, fun h => by omega⟩
structure Keeps {σ : Type} (R : Nat → σ → List It → Heap → Prop) : Prop where
  new : ∀ {n st L h} (b : Blk), R n st L h → R n st (.k h.length b :: L) (h ++ [b])
  get : ∀ {n st id b L h}, R n st (.k id b :: L) h → h[id]? = some b
  drop : ∀ {n st x L h}, R n st (x :: L) h → R n st L h
section
variable {σ : Type} {R : Nat → σ → List It → Heap → Prop} {stp : Stmt → σ → σ} {hold : Stmt → σ → Bool} {g : Nat} {caps : List V}
def WalkC (R : Nat → σ → List It → Heap → Prop) (stp : Stmt → σ → σ) (hold : Stmt → σ → Bool) (g : Nat) (caps : List V) (t : Tr) : Prop := ∀ (xs : List Stmt) (n : Nat) (st : σ) (L : List It) (h : Heap), t.ok = true → xs = t.flat → xs.length ≤ 24 → n + cntT t ≤ maxCnt → R n st L h →
    C Tryz.prog 146 [.lst 6 (xs.map encStmt), .fn g caps] h (fun r h' => r = .tup [] ∧ ∃ n', n' ≤ n + cntT t ∧ R n' (runG stp hold t st) L h')
theorem walk_step (K : Keeps R) (hsee : ∀ (n : Nat) (st : σ) (s : Stmt) (L : List It) (h : Heap), n < maxCnt → stmtOk s = true → s.kind ≠ 6 → R n st L h → C Tryz.prog g (.agg (encStmt s) :: caps) h (fun r h' => r = .bool (hold s st) ∧ R (n + 1) (stp s st) L h'))
    (sz : Nat) (ih : ∀ b : Tr, b.size < sz → WalkC R stp hold g caps b) (t : Tr) (hsz : t.size ≤ sz) : WalkC R stp hold g caps t := by
  intro xs n st L h ht hf hl hn hR
  refine C.by mixed (cfn_ok Tryz.func146 ok146) rfl ?_
  simp (disch := omega) only [s146, go_sem]
  refine loopP_intro (fun m s => ∃ (k : Nat) (r : Tr) (n' : Nat) (st' : σ), k ≤ xs.length ∧ m = xs.length - k ∧ r.ok = true ∧ r.size ≤ sz ∧ r.flat.length ≤ 24 ∧ xs.drop k = r.flat ∧ n' + cntT r ≤ n + cntT t ∧ runG stp hold r st' = runG stp hold t st ∧ s.e 0 = .lst 6 (xs.map encStmt) ∧ s.e 1 = .fn g caps ∧ s.e 4 = .int .i64 k ∧ R n' st' L s.h) xs.length ⟨0, t, n, st, by omega, by omega, ht, hsz, by rw [← hf]; exact hl, by simpa using hf, by omega, rfl, by simp (disch := omega) only [go_sem], by simp (disch := omega) only [go_sem], by simp (disch := omega) only [go_sem] <;> rfl, hR⟩ ?_
  intro m e hp P
  refine Exists.elim P fun k P => Exists.elim P fun r P => Exists.elim P fun n1 P => Exists.elim P fun st1 P => ?_
  have hk := P.1
  have hm := P.2.1
  have hr := P.2.2.1
  have hrs := P.2.2.2.1
  have hrl := P.2.2.2.2.1
  have hdk := P.2.2.2.2.2.1
  have hc := P.2.2.2.2.2.2.1
  have hrun := P.2.2.2.2.2.2.2.1
  have e0 := P.2.2.2.2.2.2.2.2.1
  have e1 := P.2.2.2.2.2.2.2.2.2.1
  have e4 := P.2.2.2.2.2.2.2.2.2.2.1
  have R1 := P.2.2.2.2.2.2.2.2.2.2.2
  clear P
  subst hm
  simp only at e0 e1 e4 R1
  simp (disch := omega) only [go_sem, e0, e1, e4]
  refine condP_dec (fun hlt => ?_) (fun hlt => ?_)
  case' refine_2 =>
    have hke : k = xs.length := by omega
    subst hke
    have hz : r = .nil := by
      have hlen := congrArg List.length hdk
      rw [List.drop_length, List.length_nil] at hlen
      cases r with
      | nil => rfl
      | one s r => simp [Tr.flat] at hlen
      | grp s a r => simp [Tr.flat] at hlen
    subst hz
    simp (disch := omega) only [go_sem, e0, e1, e4]
    refine ⟨n1, by simp only [cntT] at hc; omega, ?_⟩
    rw [← hrun]; exact R1
  have hlt' : k < xs.length := by omega
  have nxt : ∀ (e' : Nat → V) (hh : Heap) (q : Nat) (r' : Tr) (n' : Nat) (st' : σ), k < q → q ≤ xs.length → r'.ok = true → r'.size ≤ sz → r'.flat.length ≤ 24 → xs.drop q = r'.flat → n' + cntT r' ≤ n + cntT t → runG stp hold r' st' = runG stp hold t st → e' 0 = .lst 6 (xs.map encStmt) → e' 1 = .fn g caps → e' 4 = .int .i64 q → R n' st' L hh → @nextP (xs.length - k) ⟨e', hh⟩ ⟨fun m s => ∃ (k : Nat) (r : Tr) (n' : Nat) (st' : σ), k ≤ xs.length ∧ m = xs.length - k ∧ r.ok = true ∧ r.size ≤ sz ∧ r.flat.length ≤ 24 ∧ xs.drop k = r.flat ∧ n' + cntT r ≤ n + cntT t ∧ runG stp hold r st' = runG stp hold t st ∧ s.e 0 = .lst 6 (xs.map encStmt) ∧ s.e 1 = .fn g caps ∧ s.e 4 = .int .i64 k ∧ R n' st' L s.h⟩ := fun e' hh q r' n' st' a1 a2 a3 a4 a5 a6 a7 a8 a9 b1 b2 b3 =>
    nextP_intro (xs.length - q) (by omega) ⟨q, r', n', st', a2, rfl, a3, a4, a5, a6, a7, a8, a9, b1, b2, b3⟩
  rcases r with _ | ⟨s, r⟩ | ⟨s, b, r⟩
  · have := congrArg List.length hdk
    simp [Tr.flat] at this
    omega
  · obtain ⟨hs, hkk, hr'⟩ := Tr.one_ok hr
    simp only [Tr.flat] at hdk hrl
    simp only [List.length_cons] at hrl
    simp only [Tr.size] at hrs
    simp only [cntT] at hc
    simp only [runG] at hrun
    refine Exists.elim (drop_head hdk) fun hk0 z => ?_
    have hks := z.1
    have hd1 := z.2
    have hg : ∀ h : k < xs.length, xs[k] = s := fun _ => hks
    have R2 := K.new [encStmt s] R1
    have B2 := K.get R2
    simp only [encStmt] at R2 B2
    have hO : isOpening s.kind = false := by rcases hkk with h | h | h <;> simp [isOpening, h]
    simp (disch := omega) only [go_sem, e0, e1, e4, hg, B2, encStmt]
    refine C.go (hsee n1 st1 s _ _ (by omega) hs (by omega) R2) ?_
    rintro r h3 ⟨rfl, R3⟩
    have B3 := K.get R3
    simp (disch := omega) only [go_sem, e0, e1, e4, B3]
    refine CP.go (isOpening_c s.kind) rfl rfl ?_
    simp (disch := omega) only [go_sem, e0, e1, e4, hO, B3]
    exact nxt _ _ (k + 1) r (n1 + 1) (stp s st1) (by omega) (by omega) hr' (by omega) (by omega) hd1 (by omega) hrun (by simp (disch := omega) only [go_sem, e0, e1, e4, hO, B3]) (by simp (disch := omega) only [go_sem, e0, e1, e4, hO, B3]) (by simp (disch := omega) only [go_sem, e0, e1, e4, hO, B3]; rfl) (K.drop R3)
  · obtain ⟨hs, hkk, hb', hr'⟩ := Tr.grp_ok hr
    simp only [Tr.flat] at hdk hrl
    simp only [List.length_cons, List.length_append] at hrl
    simp only [Tr.size] at hrs
    simp only [cntT] at hc
    simp only [runG] at hrun
    refine Exists.elim (drop_head hdk) fun hk0 z => ?_
    have hks := z.1
    have hd1 := z.2
    have hd2 := drop_skip hd1
    refine Exists.elim (drop_head hd2) fun hk3 z => ?_
    have hd4 := z.2
    have hg : ∀ h : k < xs.length, xs[k] = s := fun _ => hks
    have R2 := K.new [encStmt s] R1
    have B2 := K.get R2
    simp only [encStmt] at R2 B2
    have hO : isOpening s.kind = true := by rcases hkk with h | h <;> simp [isOpening, h]
    have hen : endO 0 k (xs.drop k) = (k : Int) + 1 + b.flat.length := by rw [hdk]; exact endO_grp k _ hkk hb'
    have htm := take_mid (xs := xs) hdk
    have t1 : ((k : Int) + 1).toNat = k + 1 := by omega
    have t2 : ((k : Int) + 1 + b.flat.length).toNat = k + 1 + b.flat.length := by omega
    simp (disch := omega) only [go_sem, e0, e1, e4, hg, B2, encStmt]
    refine C.go (hsee n1 st1 s _ _ (by omega) hs (by omega) R2) ?_
    rintro r3 h3 ⟨rfl, R3⟩
    have B3 := K.get R3
    simp (disch := omega) only [go_sem, e0, e1, e4, B3]
    refine CP.go (isOpening_c s.kind) rfl rfl ?_
    simp (disch := omega) only [go_sem, e0, e1, e4, hO, B3]
    refine CP.go (endO_c xs k (by omega) (by omega)) rfl (refs_args _ _ _) ?_
    have hrd := rounds_le (b := hold s st1) hs hkk
    refine Exists.elim (show ∃ c, c = rounds s (hold s st1) from ⟨_, rfl⟩) fun c hce => ?_
    rw [← hce] at hrd hrun
    simp (disch := omega) only [go_sem, e0, e1, e4, hen, B3]
    refine condP_dec (fun h4 => ?_) (fun h4 => ?_)
    case' refine_1 =>
      have hcb := hrd.2.2 h4
      simp (disch := omega) only [go_sem, e0, e1, e4, hen, B3]
      refine CP.go (bit_c _) rfl rfl ?_
      simp (disch := omega) only [go_sem, e0, e1, e4, hen, B3, hcb.symm]
    case' refine_2 =>
      have hcb := hrd.2.1 (by omega)
      simp (disch := omega) only [go_sem, e0, e1, e4, hen, B3, hcb.symm]
    all_goals
      refine loopP_intro (fun m s' => ∃ (j n' : Nat) (st' : σ), j ≤ c ∧ m = c - j ∧ n' ≤ n1 + 1 + j * cntT b ∧ st' = itN (fun x => runG stp hold b x) j (stp s st1) ∧ s'.e 0 = .lst 6 (xs.map encStmt) ∧ s'.e 1 = .fn g caps ∧ s'.e 4 = .int .i64 k ∧ s'.e 7 = .int .i64 ((k : Int) + 1 + b.flat.length) ∧ s'.e 39 = .int .i64 c ∧ s'.e 40 = .int .i64 j ∧ R n' st' L s'.h) c ⟨0, n1 + 1, stp s st1, by omega, by omega, by omega, rfl, by simp (disch := omega) only [go_sem, e0, e1, e4, hen, B3], by simp (disch := omega) only [go_sem, e0, e1, e4, hen, B3], by simp (disch := omega) only [go_sem, e0, e1, e4, hen, B3], by simp (disch := omega) only [go_sem, e0, e1, e4, hen, B3], by simp (disch := omega) only [go_sem, e0, e1, e4, hen, B3], by simp (disch := omega) only [go_sem, e0, e1, e4, hen, B3] <;> rfl, K.drop R3⟩ ?_
      clear e0 e1 e4 R1 R2 B2 R3 B3 hcb h4
      intro m e hp P
      refine Exists.elim P fun j P => Exists.elim P fun n2 P => Exists.elim P fun st2 P => ?_
      have hj := P.1
      have hm := P.2.1
      have hn2 := P.2.2.1
      have hst := P.2.2.2.1
      have e0 := P.2.2.2.2.1
      have e1 := P.2.2.2.2.2.1
      have e4 := P.2.2.2.2.2.2.1
      have e7 := P.2.2.2.2.2.2.2.1
      have e39 := P.2.2.2.2.2.2.2.2.1
      have e40 := P.2.2.2.2.2.2.2.2.2.1
      have R1 := P.2.2.2.2.2.2.2.2.2.2
      clear P
      subst hm
      simp only at e0 e1 e4 e7 e39 e40 R1
      have hj5 : (j + 1) * cntT b ≤ 5 * cntT b ∨ c ≤ j := by
        rcases Nat.lt_or_ge j c with h | h
        · exact .inl (Nat.mul_le_mul_right _ (by omega))
        · exact .inr h
      rw [Nat.add_mul] at hj5
      simp (disch := omega) only [go_sem, e0, e1, e4, e7, e39, e40]
      refine condP_dec (fun hjc => ?_) (fun hjc => ?_)
      · simp (disch := omega) only [go_sem, e0, e1, e4, e7, e39, e40, t1, t2, htm]
        refine C.go (ih b (by omega) b.flat n2 st2 L hp hb' rfl (by omega) (by omega) R1) ?_
        intro r4 h4 P
        have hr4 := P.1
        refine Exists.elim P.2 fun n3 P => ?_
        have hn3 := P.1
        have R4 := P.2
        clear P
        subst hr4
        simp (disch := omega) only [go_sem, e0, e1, e4, e7, e39, e40]
        refine nextP_intro (c - (j + 1)) (by omega) ⟨j + 1, n3, runG stp hold b st2, by omega, rfl, by rw [Nat.add_mul]; omega, by rw [itN_succ, hst], by simp (disch := omega) only [go_sem, e0, e1, e4, e7, e39, e40], by simp (disch := omega) only [go_sem, e0, e1, e4, e7, e39, e40], by simp (disch := omega) only [go_sem, e0, e1, e4, e7, e39, e40], by simp (disch := omega) only [go_sem, e0, e1, e4, e7, e39, e40], by simp (disch := omega) only [go_sem, e0, e1, e4, e7, e39, e40], by simp (disch := omega) only [go_sem, e0, e1, e4, e7, e39, e40] <;> rfl, R4⟩
      · have hjc' : j = c := by omega
        subst hjc'
        have hcc : j * cntT b ≤ 5 * cntT b := Nat.mul_le_mul_right _ (by omega)
        simp (disch := omega) only [go_sem, e0, e1, e4, e7, e39, e40]
        exact nxt _ _ (k + 1 + b.flat.length + 1) r n2 st2 (by omega) (by omega) hr' (by omega) (by omega) hd4 (by omega) (by rw [hst]; exact hrun) (by simp (disch := omega) only [go_sem, e0, e1, e4, e7, e39, e40]) (by simp (disch := omega) only [go_sem, e0, e1, e4, e7, e39, e40]) (by simp (disch := omega) only [go_sem, e0, e1, e4, e7, e39, e40]; exact congrArg (V.int .i64) (by omega)) R1
theorem walk_c (K : Keeps R) (hsee : ∀ (n : Nat) (st : σ) (s : Stmt) (L : List It) (h : Heap), n < maxCnt → stmtOk s = true → s.kind ≠ 6 → R n st L h → C Tryz.prog g (.agg (encStmt s) :: caps) h (fun r h' => r = .bool (hold s st) ∧ R (n + 1) (stp s st) L h')) (t : Tr) : WalkC R stp hold g caps t := by
  induction hn : t.size using Nat.strongRecOn generalizing t with
  | ind n ih => exact walk_step K hsee n (fun b hb => ih b.size hb b rfl) t (by omega)
end
end Go.Av

namespace Go.Av
open Go.Proofs Go.RowKit
set_option linter.unusedVariables false
set_option linter.unusedSimpArgs false
set_option maxRecDepth 100000
set_option maxHeartbeats 4000000
theorem Sep.ls {h : Heap} {L : List It} (S : Sep h L) (c : List V) (hc : c.all V.scalar = true) : Sep h (.l c c :: L) := by
  obtain ⟨ids, nd, s⟩ := S
  exact ⟨ids, nd, [], ids, rfl, (OwnsL.scalars hc).2 ⟨rfl, rfl⟩, s⟩
theorem Sep.pushS {h : Heap} {sz bytes : Nat} {ys : Blk} {v : V} {L : List It} (S : Sep h (.v (.lst sz ys) v :: L)) (c : List V) (hc : c.all V.scalar = true) (hb : (ys.length + 1) * bytes ≤ 140737488355328) :
    ∃ v' h', appendH (h ++ [[c]]) sz bytes v (.own h.length sz 0 1 1) = some (v', h') ∧ Sep h' (.v (.lst sz (ys ++ [c])) v' :: L) := by
  have S1 := ((S.app [[c]]).ls c hc).sw
  exact S1.push (at_app0 _ _) hb
structure Micro where
  cost : Int
  at_ : Int
  val : Int
def encMicro (m : Micro) : List V := [.int .i64 m.cost, .int .i64 m.at_, .int .i64 m.val]
theorem flat_Micro (xs : List Micro) : flat (xs.map encMicro) = true := by simp [flat, encMicro, V.scalar]
def rowT (vs vu : V) (task tail sent : Int) (vl : V) (F : List Bool) (vv : V) : List V := [vs, vu, .int .i64 task, .int .i64 tail, .int .i64 sent, vl] ++ (F.map V.bool ++ [vv])
section
variable {vs vu vl vv : V} {task tail sent : Int} {F : List Bool} {h : Heap} {X : Nat}
theorem rowT_0 : rdc false 1 (rowT vs vu task tail sent vl F vv) = some vs := rfl
theorem rowT_1 : rdc false 1 ((rowT vs vu task tail sent vl F vv).drop 1) = some vu := rfl
theorem rowT_2 : rdc false 1 ((rowT vs vu task tail sent vl F vv).drop 2) = some (.int .i64 task) := rfl
theorem rowT_3 : rdc false 1 ((rowT vs vu task tail sent vl F vv).drop 3) = some (.int .i64 tail) := rfl
theorem rowT_4 : rdc false 1 ((rowT vs vu task tail sent vl F vv).drop 4) = some (.int .i64 sent) := rfl
theorem rowT_5 : rdc false 1 ((rowT vs vu task tail sent vl F vv).drop 5) = some vl := rfl
theorem rowT_F (hF : F.length = 8) {k : Nat} (hk : k < 8) : rdc false 1 ((rowT vs vu task tail sent vl F vv).drop (6 + k)) = some (.bool (bitB F k)) := by
  have e : (rowT vs vu task tail sent vl F vv).drop (6 + k) = (F.map V.bool ++ [vv]).drop k := by
    unfold rowT
    rw [List.drop_append, List.drop_eq_nil_of_le (by simp), List.nil_append]; congr 1; simp
  have h1 : k < (F.map V.bool ++ [vv]).length := by simp; omega
  rw [e, List.drop_eq_getElem_cons h1]
  simp [rdc, bitB, hF, hk]
theorem rowT_14 (hF : F.length = 8) : rdc false 1 ((rowT vs vu task tail sent vl F vv).drop 14) = some vv := by
  have e : (rowT vs vu task tail sent vl F vv).drop 14 = [vv] := by
    unfold rowT
    rw [List.drop_append, List.drop_eq_nil_of_le (by simp), List.nil_append, List.drop_append, List.drop_eq_nil_of_le (by simp [hF])]
    simp [hF]
  rw [e]; rfl
theorem rowT_out : rdc true 2 (rowT vs vu task tail sent vl F vv) = some (.agg [vs, vu]) := by
  have : 2 ≤ (rowT vs vu task tail sent vl F vv).length := by simp [rowT]
  simp [rdc, this]; rfl
theorem rowT_len (hF : F.length = 8) : (rowT vs vu task tail sent vl F vv).length = 15 := by simp [rowT, hF]
theorem rowT_s0 (hb : h[X]? = some [rowT vs vu task tail sent vl F vv]) (hF : F.length = 8) {w : V} (h1 : w.one = true) (h2 : w.cells = [w]) : storeH h 1 (.ptr X 1 0 0) w = some (h.set X [rowT w vu task tail sent vl F vv]) := by
  rw [storeH_cell (n := 1) (i := 0) hb rfl rfl (by rw [rowT_len hF]; omega) h1 h2]; rfl
theorem rowT_s1 (hb : h[X]? = some [rowT vs vu task tail sent vl F vv]) (hF : F.length = 8) {w : V} (h1 : w.one = true) (h2 : w.cells = [w]) : storeH h 1 (.ptr X 1 0 1) w = some (h.set X [rowT vs w task tail sent vl F vv]) := by
  rw [storeH_cell (n := 1) (i := 0) hb rfl rfl (by rw [rowT_len hF]; omega) h1 h2]; rfl
theorem rowT_s4 (hb : h[X]? = some [rowT vs vu task tail sent vl F vv]) (hF : F.length = 8) {w : Int} : storeH h 1 (.ptr X 1 0 4) (.int .i64 w) = some (h.set X [rowT vs vu task tail w vl F vv]) := by
  rw [storeH_cell (n := 1) (i := 0) hb rfl rfl (by rw [rowT_len hF]; omega) rfl rfl]; rfl
theorem rowT_s5 (hb : h[X]? = some [rowT vs vu task tail sent vl F vv]) (hF : F.length = 8) {w : V} (h1 : w.one = true) (h2 : w.cells = [w]) : storeH h 1 (.ptr X 1 0 5) w = some (h.set X [rowT vs vu task tail sent w F vv]) := by
  rw [storeH_cell (n := 1) (i := 0) hb rfl rfl (by rw [rowT_len hF]; omega) h1 h2]; rfl
theorem rowT_sF (hb : h[X]? = some [rowT vs vu task tail sent vl F vv]) (hF : F.length = 8) {k : Nat} (hk : k < 8) : storeH h 1 (.ptr X 1 0 (6 + k)) (.bool true) = some (h.set X [rowT vs vu task tail sent vl (F.set k true) vv]) := by
  rw [storeH_cell (n := 1) (i := 0) hb rfl rfl (by rw [rowT_len hF]; omega) rfl rfl]
  congr 3
  simp only [List.set_cons_zero]
  unfold rowT
  rw [List.set_append_right _ _ (by simp), show 6 + k - [vs, vu, V.int .i64 task, .int .i64 tail, .int .i64 sent, vl].length = k by simp, List.set_append_left _ _ (by simp; omega), List.map_set]
end
structure TS where
  vars : List Int
  steps : List Micro
  used : List Int
  sent : List Int
  logged : List Int
structure TrF (must : List Int) (σ : TS) (F : List Bool) : Prop where
  f8 : F.length = 8
  v8 : σ.vars.length = 8
  val : ∀ z ∈ σ.vars, isValue z = true
  fr : ∀ k : Nat, k < 8 → (k : Int) ∈ must → (bitB F k = true ↔ (k : Int) ∈ σ.logged)
def TrS (h : Heap) (X : Nat) (must : List Int) (task tail : Int) (σ : TS) (L : List It) : Prop := ∃ (vs vu vl : V) (F : List Bool) (vid : Nat), TrF must σ F ∧ Sep h (.k X [rowT vs vu task tail σ.sent.length vl F (.own vid 1 0 8 8)] :: .v (.lst 3 (σ.steps.map encMicro)) vs :: .v (.lst 1 (σ.used.map encI)) vu :: .v (.lst 1 (σ.logged.map encI)) vl :: .k vid (σ.vars.map encI) :: L)
theorem TrS.mk {h : Heap} {X : Nat} {must : List Int} {task tail : Int} {σ : TS} {L : List It} {vs vu vl : V} {F : List Bool} {vid : Nat} (f : TrF must σ F) (S : Sep h (.k X [rowT vs vu task tail σ.sent.length vl F (.own vid 1 0 8 8)] :: .v (.lst 3 (σ.steps.map encMicro)) vs :: .v (.lst 1 (σ.used.map encI)) vu :: .v (.lst 1 (σ.logged.map encI)) vl :: .k vid (σ.vars.map encI) :: L)) : TrS h X must task tail σ L := ⟨vs, vu, vl, F, vid, f, S⟩
def TS.add (σ : TS) (ms : List Micro) : TS := { σ with steps := σ.steps ++ ms }
theorem push_micro (xs : List Micro) (m : Micro) : (xs ++ [m]).map encMicro = xs.map encMicro ++ [encMicro m] := by simp
theorem work_c {h : Heap} {X : Nat} {must : List Int} {task tail : Int} {σ : TS} {L : List It} (c : Int) (T : TrS h X must task tail σ L) (hl : σ.steps.length ≤ 5000000000000) : C Tryz.prog 153 [.ptr X 1 0 0, .int .i64 c] h (fun r h' => r = .tup [] ∧ TrS h' X must task tail (σ.add [⟨c, -1, 0⟩]) L) := by
  refine C.by mixed (cfn_ok Tryz.func153 ok153) rfl ?_
  refine Exists.elim T fun vs T => Exists.elim T fun vu T => Exists.elim T fun vl T => Exists.elim T fun F T => Exists.elim T fun vid T => ?_
  have f := T.1
  have S := T.2
  clear T
  have K := S.blk 0 rfl
  refine Exists.elim ((S.pull 1).pushS (bytes := 24) (encMicro ⟨c, -1, 0⟩) rfl (by simp; omega)) fun v' q => Exists.elim q fun h5 q => ?_
  have hap := q.1
  have S2 := q.2
  clear q
  rw [← push_micro] at S2
  have K2 := S2.blk 1 rfl
  have z := S2.vv 0 rfl
  have st := rowT_s0 K2 f.f8 z.1 z.2.2
  simp only [encMicro] at hap
  have zs := S.vv 1 rfl
  simp (disch := omega) only [s153, go_sem, K, rowT_0, zs.1, zs.2.1, zs.2.2, splice, hap, z.1, z.2.1, z.2.2, st]
  exact ⟨v', vu, vl, F, vid, ⟨f.f8, f.v8, f.val, f.fr⟩, ((S2.pull 1).setK _)⟩
theorem write_c {h : Heap} {X : Nat} {must : List Int} {task tail : Int} {σ : TS} {L : List It} (a v : Int) (T : TrS h X must task tail σ L) (hl : σ.steps.length ≤ 5000000000000) : C Tryz.prog 158 [.ptr X 1 0 0, .int .i64 a, .int .i64 v] h (fun r h' => r = .tup [] ∧ TrS h' X must task tail (σ.add [⟨3, a, v⟩]) L) := by
  refine C.by mixed (cfn_ok Tryz.func158 ok158) rfl ?_
  refine Exists.elim T fun vs T => Exists.elim T fun vu T => Exists.elim T fun vl T => Exists.elim T fun F T => Exists.elim T fun vid T => ?_
  have f := T.1
  have S := T.2
  clear T
  have K := S.blk 0 rfl
  refine Exists.elim ((S.pull 1).pushS (bytes := 24) (encMicro ⟨3, a, v⟩) rfl (by simp; omega)) fun v' q => Exists.elim q fun h5 q => ?_
  have hap := q.1
  have S2 := q.2
  clear q
  rw [← push_micro] at S2
  have K2 := S2.blk 1 rfl
  have z := S2.vv 0 rfl
  have st := rowT_s0 K2 f.f8 z.1 z.2.2
  simp only [encMicro] at hap
  have zs := S.vv 1 rfl
  simp (disch := omega) only [s158, go_sem, K, rowT_0, zs.1, zs.2.1, zs.2.2, splice, hap, z.1, z.2.1, z.2.2, st]
  exact ⟨v', vu, vl, F, vid, ⟨f.f8, f.v8, f.val, f.fr⟩, ((S2.pull 1).setK _)⟩
def sendT (tail : Int) (x : Int) (σ : TS) : TS := { (if tail + σ.sent.length < 24 then σ.add [⟨3, 25 + (tail + σ.sent.length), x⟩] else σ) with sent := σ.sent ++ [x] }
theorem send_c {h : Heap} {X : Nat} {must : List Int} {task tail : Int} {σ : TS} {L : List It} (x : Int) (T : TrS h X must task tail σ L) (hl : σ.steps.length ≤ 5000000000000) (hs : σ.sent.length ≤ 5000000000000) (ht : 0 ≤ tail ∧ tail ≤ 24) : C Tryz.prog 157 [.ptr X 1 0 0, .int .i64 x] h (fun r h' => r = .tup [] ∧ TrS h' X must task tail (sendT tail x σ) L) := by
  refine C.by mixed (cfn_ok Tryz.func157 ok157) rfl ?_
  have T0 := T
  refine Exists.elim T fun vs T => Exists.elim T fun vu T => Exists.elim T fun vl T => Exists.elim T fun F T => Exists.elim T fun vid T => ?_
  have f := T.1
  have S := T.2
  clear T
  have K := S.blk 0 rfl
  simp (disch := omega) only [s157, go_sem, K, rowT_3, rowT_4]
  have fin : ∀ (h2 : Heap) (σ2 : TS), σ2.sent = σ.sent → TrS h2 X must task tail σ2 L → ∃ (vs vu vl vv : V) (F : List Bool), h2[X]? = some [rowT vs vu task tail σ.sent.length vl F vv] ∧ F.length = 8 ∧ TrS (h2.set X [rowT vs vu task tail ((σ.sent.length : Int) + 1) vl F vv]) X must task tail { σ2 with sent := σ.sent ++ [x] } L := fun h2 σ2 e T => by
    obtain ⟨vs, vu, vl, F, vid, f, S⟩ := T
    have K := S.blk 0 rfl
    rw [e] at K
    refine ⟨vs, vu, vl, _, F, K, f.f8, vs, vu, vl, F, vid, ⟨f.f8, f.v8, f.val, f.fr⟩, ?_⟩
    have := S.setK [rowT vs vu task tail ((σ.sent.length : Int) + 1) vl F (.own vid 1 0 8 8)]
    simpa using this
  refine condP_dec (fun hlt => ?_) (fun hlt => ?_)
  · simp (disch := omega) only [go_sem, K, rowT_3, rowT_4]
    refine C.go (write_c (25 + (tail + σ.sent.length)) x T0 hl) ?_
    rintro r h2 ⟨rfl, T2⟩
    have he : sendT tail x σ = { σ.add [⟨3, 25 + (tail + σ.sent.length), x⟩] with sent := σ.sent ++ [x] } := by unfold sendT; rw [if_pos hlt]
    refine Exists.elim (fin h2 (σ.add [⟨3, 25 + (tail + σ.sent.length), x⟩]) rfl T2) fun vs T => Exists.elim T fun vu T => Exists.elim T fun vl T => Exists.elim T fun vv T => Exists.elim T fun F T => ?_
    have K2 := T.1
    have st := rowT_s4 (w := (σ.sent.length : Int) + 1) K2 T.2.1
    have T3 := T.2.2
    clear T
    simp (disch := omega) only [go_sem, K2, rowT_4, st]
    rw [he]; exact T3
  · have he : sendT tail x σ = { σ with sent := σ.sent ++ [x] } := by unfold sendT; rw [if_neg hlt]
    refine Exists.elim (fin h σ rfl T0) fun vs T => Exists.elim T fun vu T => Exists.elim T fun vl T => Exists.elim T fun vv T => Exists.elim T fun F T => ?_
    have K2 := T.1
    have st := rowT_s4 (w := (σ.sent.length : Int) + 1) K2 T.2.1
    have T3 := T.2.2
    clear T
    simp (disch := omega) only [go_sem, K2, rowT_4, st]
    rw [he]; exact T3
def logA (must : List Int) (task tail k : Int) (σ : TS) : TS := if k ∈ must ∧ k ∉ σ.logged then { σ with steps := σ.steps ++ [⟨3, 9 + 2 * σ.logged.length, k⟩, ⟨3, 9 + 2 * σ.logged.length + 1, gtI σ.vars k.toNat⟩, ⟨3, 8, packM task (σ.logged.length + 1) tail⟩], logged := σ.logged ++ [k] } else σ
def assignT (must : List Int) (task tail k v : Int) (σ : TS) : TS := { logA must task tail k σ with vars := (logA must task tail k σ).vars.set k.toNat v, steps := (logA must task tail k σ).steps ++ [⟨3, k, v⟩] }
theorem assign_c {h : Heap} {X : Nat} {must : List Int} {task tail : Int} {σ : TS} {r : V} {L : List It} (k v : Int) (T : TrS h X must task tail σ (.p must r :: L)) (hl : σ.steps.length ≤ 4000000000000) (hlg : σ.logged.length ≤ 4000000000000) (hm : must.length ≤ 1048576) (hk : 0 ≤ k ∧ k ≤ 7) (hv : isValue v = true) : C Tryz.prog 155 [.ptr X 1 0 0, r, .int .i64 k, .int .i64 v] h (fun r' h' => r' = .tup [] ∧ TrS h' X must task tail (assignT must task tail k v σ) (.p must r :: L)) := by
  have T0 := T
  refine Exists.elim T fun vs T => Exists.elim T fun vu T => Exists.elim T fun vl T => Exists.elim T fun F T => Exists.elim T fun vid T => ?_
  have f := T.1
  have S := T.2
  clear T
  have K := S.blk 0 rfl
  have zr := (S.pvv 5 rfl).1
  have hnh : [V.ptr X 1 0 0, r, .int .i64 k, .int .i64 v].all V.noHole = true := by
    refine Exists.elim (S.nth 5 rfl) fun i q => ?_
    rcases q.2 with ⟨rfl, _⟩ | ⟨_, _, _, rfl, _⟩ <;> rfl
  refine C.by mixed (cfn_ok Tryz.func155 ok155) hnh ?_
  simp (disch := omega) only [s155, go_sem, zr.1, zr.2.1, zr.2.2]
  refine CP.goS (hasVar_c' must k (by omega)) rfl rfl (.cons (S.psnap 5 rfl) (.cons (.int _ _) (.nil _))) ?_
  have hin : 0 ≤ k ∧ k < ((8 : Nat) : Int) := by omega
  have hrf := rowT_F (vs := vs) (vu := vu) (task := task) (tail := tail) (sent := σ.sent.length) (vl := vl) (vv := .own vid 1 0 8 8) f.f8 (show k.toNat < 8 by omega)
  have mono : ∀ (F : List Bool) (σ : TS), TrF must σ F → TrF (must.filter fun z => !decide (z = k)) σ F := fun F σ f => ⟨f.f8, f.v8, f.val, fun j hj hm => f.fr j hj (List.mem_filter.1 hm).1⟩
  simp (disch := omega) only [go_sem, K, hrf, hin, Nat.mul_one]
  refine condP_dec (fun hkm => ?_) (fun hkm => ?_)
  case' refine_1 =>
    have hkf := f.fr k.toNat (by omega) (by rw [show ((k.toNat : Nat) : Int) = k by omega]; exact hkm)
    rw [show ((k.toNat : Nat) : Int) = k by omega] at hkf
    simp (disch := omega) only [go_sem, K, hrf, hin, Nat.mul_one, zr.1, zr.2.1, zr.2.2]
    refine condP_split (fun hb => ?_) (fun hb => ?_)
    case' refine_2 =>
      have hnl : k ∉ σ.logged := fun q => by rw [hkf.2 q] at hb; cases hb
      have lenl := fun G => (S.lst 3 rfl).elim fun i o => o.len_ G
      simp only [List.length_map] at lenl
      have zl := S.vv 3 rfl
      simp (disch := omega) only [go_sem, K, rowT_5, lenl, zl.1, zl.2.1, zl.2.2]
      refine C.go (write_c (9 + 2 * σ.logged.length) k T0 (by omega)) ?_
      rintro r0 h1 ⟨rfl, T1⟩
      have T1' := T1
      refine Exists.elim T1 fun vs1 T1 => Exists.elim T1 fun vu1 T1 => Exists.elim T1 fun vl1 T1 => Exists.elim T1 fun F1 T1 => Exists.elim T1 fun vid1 T1 => ?_
      have f1 := T1.1
      have S1 := T1.2
      clear T1
      have K1 := S1.blk 0 rfl
      have V1 := S1.blk 4 rfl
      have r14 := rowT_14 (vs := vs1) (vu := vu1) (task := task) (tail := tail) (sent := (σ.add [⟨3, 9 + 2 * σ.logged.length, k⟩]).sent.length) (vl := vl1) (vv := .own vid1 1 0 8 8) f1.f8
      have v8 : (σ.add [⟨3, 9 + 2 * σ.logged.length, k⟩]).vars.length = 8 := f.v8
      have hgv : (σ.add [⟨3, 9 + 2 * σ.logged.length, k⟩]).vars[k.toNat]? = some (gtI σ.vars k.toNat) := gtI_some (by show k.toNat < σ.vars.length; rw [f.v8]; omega)
      simp (disch := omega) only [go_sem, K1, V1, r14, v8, hgv, List.getElem?_map, List.length_map, encI, Nat.zero_add]
      refine C.go (write_c (9 + 2 * σ.logged.length + 1) (gtI σ.vars k.toNat) T1' (by simp [TS.add]; omega)) ?_
      rintro r0 h2 ⟨rfl, T2⟩
      clear K K1 V1 r14 S1 f1 zl lenl T1'
      refine Exists.elim (show ∃ σ2 : TS, σ2 = (σ.add [⟨3, 9 + 2 * σ.logged.length, k⟩]).add [⟨3, 9 + 2 * σ.logged.length + 1, gtI σ.vars k.toNat⟩] from ⟨_, rfl⟩) fun σ2 hσ => ?_
      rw [← hσ] at T2
      have g2 : σ2.logged = σ.logged := by rw [hσ]; rfl
      have g3 : σ2.steps.length = σ.steps.length + 2 := by rw [hσ]; simp [TS.add]
      refine Exists.elim T2 fun vs2 T2 => Exists.elim T2 fun vu2 T2 => Exists.elim T2 fun vl2 T2 => Exists.elim T2 fun F2 T2 => Exists.elim T2 fun vid2 T2 => ?_
      have f2 := T2.1
      have S2 := T2.2
      clear T2
      have K2 := S2.blk 0 rfl
      have z2 := S2.vv 3 rfl
      refine Exists.elim ((S2.pull 3).pushS (bytes := 8) [.int .i64 k] rfl (by simp [g2]; omega)) fun v' q => Exists.elim q fun h3 q => ?_
      have hap := q.1
      have S3 := q.2
      clear q
      rw [show σ2.logged.map encI ++ [[V.int .i64 k]] = (σ2.logged ++ [k]).map encI by simp [encI]] at S3
      have z3 := S3.vv 0 rfl
      have K3 := S3.blk 1 rfl
      have st := rowT_s5 K3 f2.f8 z3.1 z3.2.2
      have S4 := (S3.pull 1).setK [rowT vs2 vu2 task tail σ2.sent.length v' F2 (.own vid2 1 0 8 8)]
      have K4 := S4.blk 0 rfl
      have len4 := fun G => (S4.lst 1 rfl).elim fun i o => o.len_ G
      simp only [List.length_append, List.length_map, List.length_cons, List.length_nil, Nat.zero_add] at len4
      simp (disch := omega) only [go_sem, K2, rowT_5, z2.1, z2.2.1, z2.2.2, hap, z3.1, z3.2.1, z3.2.2, st, K4, rowT_2, rowT_3, len4]
      refine CP.go (pack_c _ _ _) rfl rfl ?_
      have T4 : TrS (h3.set X [rowT vs2 vu2 task tail σ2.sent.length v' F2 (.own vid2 1 0 8 8)]) X (must.filter fun z => !decide (z = k)) task tail { σ2 with logged := σ2.logged ++ [k] } (.p must r :: L) := by
        refine ⟨vs2, vu2, v', F2, vid2, ⟨f2.f8, f2.v8, f2.val, fun j hj hm => ?_⟩, S4.pk (A := [_, _, _, _, _]) [0, 2, 3, 1, 4] rfl⟩
        have q := List.mem_filter.1 hm
        rw [f2.fr j hj q.1]
        have hne : (j : Int) ≠ k := by simpa using q.2
        simp [hne]
      simp (disch := omega) only [go_sem, K4, rowT_2, rowT_3, len4]
      refine C.go (write_c 8 (packM task ((σ2.logged.length + 1 : Nat) : Int) tail) T4 (by show σ2.steps.length ≤ _; omega)) ?_
      rintro r0 h5 ⟨rfl, T5⟩
      have hA : logA must task tail k σ = { σ with steps := σ.steps ++ [⟨3, 9 + 2 * σ.logged.length, k⟩, ⟨3, 9 + 2 * σ.logged.length + 1, gtI σ.vars k.toNat⟩, ⟨3, 8, packM task (σ.logged.length + 1) tail⟩], logged := σ.logged ++ [k] } := if_pos ⟨hkm, hnl⟩
      have T6 : TrS h5 X (must.filter fun z => !decide (z = k)) task tail (logA must task tail k σ) (.p must r :: L) := by
        rw [hA]
        rw [hσ] at T5
        simpa [TS.add] using T5
      have hkl : k ∈ must → k ∈ (logA must task tail k σ).logged := fun _ => by rw [hA]; simp
    case' refine_1 =>
      have hA : logA must task tail k σ = σ := if_neg fun q => q.2 (hkf.1 hb)
      have T6 : TrS h X (must.filter fun z => !decide (z = k)) task tail (logA must task tail k σ) (.p must r :: L) := by
        rw [hA]; exact ⟨vs, vu, vl, F, vid, mono _ _ f, S⟩
      have hkl : k ∈ must → k ∈ (logA must task tail k σ).logged := fun _ => by rw [hA]; exact hkf.1 hb
  case' refine_2 =>
    have hA : logA must task tail k σ = σ := if_neg fun q => hkm q.1
    have T6 : TrS h X (must.filter fun z => !decide (z = k)) task tail (logA must task tail k σ) (.p must r :: L) := by
      rw [hA]; exact ⟨vs, vu, vl, F, vid, mono _ _ f, S⟩
    have hkl : k ∈ must → k ∈ (logA must task tail k σ).logged := fun q => absurd q hkm
  all_goals
    have lv : (logA must task tail k σ).vars = σ.vars := by unfold logA; split <;> rfl
    have ls : (logA must task tail k σ).steps.length ≤ σ.steps.length + 3 := by unfold logA; split <;> simp
    refine Exists.elim T6 fun vs6 T6 => Exists.elim T6 fun vu6 T6 => Exists.elim T6 fun vl6 T6 => Exists.elim T6 fun F6 T6 => Exists.elim T6 fun vid6 T6 => ?_
    have f6 := T6.1
    have S6 := T6.2
    clear T6
    have K6 := S6.blk 0 rfl
    have st1 := rowT_sF K6 f6.f8 (show k.toNat < 8 by omega)
    have S7 := S6.setK [rowT vs6 vu6 task tail (logA must task tail k σ).sent.length vl6 (F6.set k.toNat true) (.own vid6 1 0 8 8)]
    have K7 := S7.blk 0 rfl
    have r14 := rowT_14 (vs := vs6) (vu := vu6) (task := task) (tail := tail) (sent := (logA must task tail k σ).sent.length) (vl := vl6) (vv := .own vid6 1 0 8 8) (F := F6.set k.toNat true) (by simpa using f6.f8)
    have st2 := store_i (z := v) (i := k.toNat) (S7.blk 4 rfl) f6.v8 (by omega)
    have F8 : TrF must { logA must task tail k σ with vars := (logA must task tail k σ).vars.set k.toNat v } (F6.set k.toNat true) := by
      refine ⟨by simpa using f6.f8, by simpa using f6.v8, fun z hz => ?_, fun j hj hm => ?_⟩
      · rcases List.mem_or_eq_of_mem_set hz with q | q
        · exact f6.val z q
        · rw [q]; exact hv
      · rw [bitB_set (by rw [f6.f8]; omega)]
        by_cases e : k.toNat = j
        · have e' : (j : Int) = k := by omega
          rw [e'] at hm ⊢
          simp [e, hkl hm]
        · have e' : (j : Int) ≠ k := by omega
          have := f6.fr j hj (List.mem_filter.2 ⟨hm, by simpa using e'⟩)
          simp [e, this]
    have T8 := TrS.mk (L := .p must r :: L) F8 (((S7.pull 4).setK (((logA must task tail k σ).vars.set k.toNat v).map encI)).pk (A := [_, _, _, _, _]) [1, 2, 3, 4, 0] rfl)
    simp (disch := omega) only [go_sem, hin, Nat.mul_one, Nat.zero_add, st1, K7, r14, st2]
    refine C.go (write_c k v T8 (by show (logA must task tail k σ).steps.length ≤ _; omega)) ?_
    rintro r0 h9 ⟨rfl, T9⟩
    simp (disch := omega) only [go_sem, hin, Nat.mul_one, Nat.zero_add, st1, K7, r14, st2]
    exact T9
end Go.Av

namespace Go.Av
open Go.Proofs Go.RowKit
set_option linter.unusedVariables false
set_option linter.unusedSimpArgs false
set_option maxRecDepth 100000
set_option maxHeartbeats 4000000
theorem sat_value (x : Int) : isValue (sat x) = true := by
  have := sat_bd x
  simp [isValue, within]; omega
theorem evalE_value {zs : List Int} {e : Expr} (hz : ∀ z ∈ zs, isValue z = true) (h8 : zs.length = 8) (he : exprOk e = true) : isValue (evalE zs e) = true := by
  obtain ⟨h1, h2, h3⟩ := exprOk_facts he
  have hv : ∀ x : Int, -8 ≤ x ∧ x ≤ 999 → -1000000 ≤ valOf zs x ∧ valOf zs x ≤ 1000000 := fun x hx => by
    unfold valOf
    split
    · have hl : (-1 - x).toNat < zs.length := by omega
      rw [List.getElem?_eq_getElem hl]
      have := hz _ (List.getElem_mem hl)
      simp only [isValue, within, Bool.and_eq_true, decide_eq_true_eq] at this
      simpa using this
    · omega
  have ha := hv _ h2
  have hb := hv _ h3
  have hbit : ∀ b, isValue (bitI b) = true := fun b => by cases b <;> rfl
  unfold evalE
  simp only
  split
  · exact sat_value _
  split
  · exact sat_value _
  split
  · exact sat_value _
  split
  · simp [isValue, within]; omega
  split
  · simp [isValue, within]; omega
  split <;> exact hbit _
def readM (rd : List Int) (s n : Int) : Int := if rd.length = 0 ∨ isSensor s = false ∨ n < 0 then 0 else sat (sat (gtI rd (n.toNat % rd.length)) + sat (100 * s))
theorem readM_value (rd : List Int) (s n : Int) : isValue (readM rd s n) = true := by
  unfold readM
  split
  · rfl
  · exact sat_value _
theorem mod_toNat {n : Int} {l : Nat} (hn : 0 ≤ n) (hl : l ≠ 0) : n.tmod l = ((n.toNat % l : Nat) : Int) := by
  obtain ⟨k, rfl⟩ := Int.eq_ofNat_of_zero_le hn
  rw [mod_nn (by omega), Int.toNat_natCast, Int.natCast_emod]
theorem readSensor_c (rd : List Int) (s n : Int) (hl : rd.length ≤ 9223372036854775807) : CP Tryz.prog 156 [.lst 1 (rd.map encI), .int .i64 s, .int .i64 n] (.int .i64 (readM rd s n)) [] := by
  refine CP.by rfl mixed (cfn_ok Tryz.func156 ok156) rfl ?_
  simp (disch := omega) only [s156, go_sem]
  refine condP_dec (fun h0 => ?_) (fun h0 => ?_)
  · simp (disch := omega) only [go_sem]
    rw [readM, if_pos (.inl (by omega))]
  simp (disch := omega) only [go_sem]
  refine CP.go (isSensor_c s) rfl rfl ?_
  simp (disch := omega) only [go_sem]
  refine condP_split (fun h1 => ?_) (fun h1 => ?_)
  case' refine_2 =>
    simp (disch := omega) only [go_sem, h1]
    rw [readM, if_pos (.inr (.inl h1))]
  simp (disch := omega) only [go_sem, h1]
  refine condP_dec (fun h2 => ?_) (fun h2 => ?_)
  · simp (disch := omega) only [go_sem, h1]
    rw [readM, if_pos (.inr (.inr h2))]
  have hs : 0 ≤ s ∧ s ≤ 3 := by simpa [isSensor, within] using h1
  have hm := mod_toNat (n := n) (l := rd.length) (by omega) (by omega)
  have hlt : n.toNat % rd.length < rd.length := Nat.mod_lt _ (by omega)
  have hg := gtI_some hlt
  simp (disch := omega) only [go_sem, h1, hm, List.getElem?_map, hg, encI, gtI_get]
  refine CP.go (add_c _ _) rfl rfl ?_
  simp (disch := omega) only [go_sem, h1, hm, List.getElem?_map, hg, encI, gtI_get]
  rw [readM, if_neg (fun q => by rcases q with q | q | q <;> first | omega | (rw [h1] at q; cases q))]
theorem readSensor_s (rd : List Int) (s n : Int) (hl : rd.length ≤ 9223372036854775807) : CP Tryz.prog 280 [.lst 1 (rd.map encI), .int .i64 s, .int .i64 n] (.int .i64 (readM rd s n)) [] := by
  refine CP.by rfl mixed (cfn_ok Tryz.func280 ok280) rfl ?_
  simp (disch := omega) only [s280, go_sem]
  refine condP_dec (fun h0 => ?_) (fun h0 => ?_)
  · simp (disch := omega) only [go_sem]
    rw [readM, if_pos (.inl (by omega))]
  simp (disch := omega) only [go_sem]
  refine CP.go (l01In_c s 0 3) rfl rfl ?_
  simp (disch := omega) only [go_sem]
  refine condP_split (fun h1 => ?_) (fun h1 => ?_)
  case' refine_2 =>
    simp (disch := omega) only [go_sem, h1]
    rw [readM, if_pos (.inr (.inl h1))]
  simp (disch := omega) only [go_sem, h1]
  refine condP_dec (fun h2 => ?_) (fun h2 => ?_)
  · simp (disch := omega) only [go_sem, h1]
    rw [readM, if_pos (.inr (.inr h2))]
  have hs : 0 ≤ s ∧ s ≤ 3 := by simpa [within] using h1
  have h1' : isSensor s = true := h1
  have hm := mod_toNat (n := n) (l := rd.length) (by omega) (by omega)
  have hlt : n.toNat % rd.length < rd.length := Nat.mod_lt _ (by omega)
  have hg := gtI_some hlt
  simp (disch := omega) only [go_sem, h1, hm, List.getElem?_map, hg, encI, gtI_get]
  refine CP.go (add_s _ _) rfl rfl ?_
  simp (disch := omega) only [go_sem, h1, hm, List.getElem?_map, hg, encI, gtI_get]
  rw [readM, if_neg (fun q => by rcases q with q | q | q <;> first | omega | (rw [h1'] at q; cases q))]
def stepT (must : List Int) (task tail : Int) (rd : List Int) (at_ : Int) (s : Stmt) (σ : TS) : TS :=
  if s.kind = 1 then assignT must task tail s.var (evalE σ.vars s.e) (σ.add [⟨costK s.kind, -1, 0⟩])
  else if s.kind = 2 then assignT must task tail s.var (readM rd s.n (at_ + σ.used.length)) { σ.add [⟨costK s.kind, -1, 0⟩] with used := σ.used ++ [readM rd s.n (at_ + σ.used.length)] }
  else if s.kind = 3 then sendT tail (evalE σ.vars s.e) (σ.add [⟨costK s.kind, -1, 0⟩])
  else σ.add [⟨costK s.kind, -1, 0⟩]
def holdT (s : Stmt) (σ : TS) : Bool := if s.kind = 4 then !decide (evalE σ.vars s.e = 0) else true
def KeepT (must : List Int) (task tail : Int) (rd : List Int) (at_ : Int) (X px mx rx ax : Nat) (r : V) (n : Nat) (σ : TS) (L : List It) (h : Heap) : Prop :=
  (σ.steps.length ≤ 5 * n ∧ σ.used.length ≤ n ∧ σ.sent.length ≤ n ∧ σ.logged.length ≤ n) ∧ TrS h X must task tail σ (.p must r :: .k px [[.ptr X 1 0 0]] :: .k mx [[r]] :: .k rx [[.lst 1 (rd.map encI)]] :: .k ax [[.int .i64 at_]] :: L)
theorem keepT_keeps (must : List Int) (task tail : Int) (rd : List Int) (at_ : Int) (X px mx rx ax : Nat) (r : V) : Keeps (KeepT must task tail rd at_ X px mx rx ax r) where
  new := fun b ⟨hn, vs, vu, vl, F, vid, f, S⟩ => ⟨hn, vs, vu, vl, F, vid, f, (S.newK b).pk (A := [_, _, _, _, _, _, _, _, _, _, _]) [1, 2, 3, 4, 5, 6, 7, 8, 9, 10, 0] rfl⟩
  get := fun ⟨hn, vs, vu, vl, F, vid, f, S⟩ => S.blk 10 rfl
  drop := fun ⟨hn, vs, vu, vl, F, vid, f, S⟩ => ⟨hn, vs, vu, vl, F, vid, f, S.drop 10⟩
theorem assignT_bd (must : List Int) (task tail k v : Int) (σ : TS) : (assignT must task tail k v σ).steps.length ≤ σ.steps.length + 4 ∧ (assignT must task tail k v σ).used = σ.used ∧ (assignT must task tail k v σ).sent = σ.sent ∧ (assignT must task tail k v σ).logged.length ≤ σ.logged.length + 1 := by
  unfold assignT logA
  split
  · simp
  · simp
theorem stepT_bd (must : List Int) (task tail : Int) (rd : List Int) (at_ : Int) (s : Stmt) (σ : TS) : (stepT must task tail rd at_ s σ).steps.length ≤ σ.steps.length + 5 ∧ (stepT must task tail rd at_ s σ).used.length ≤ σ.used.length + 1 ∧ (stepT must task tail rd at_ s σ).sent.length ≤ σ.sent.length + 1 ∧ (stepT must task tail rd at_ s σ).logged.length ≤ σ.logged.length + 1 := by
  unfold stepT
  split
  · have := assignT_bd must task tail s.var (evalE σ.vars s.e) (σ.add [⟨costK s.kind, -1, 0⟩])
    rw [this.2.1, this.2.2.1]
    simp only [TS.add, List.length_append, List.length_cons, List.length_nil] at this ⊢
    omega
  split
  · have := assignT_bd must task tail s.var (readM rd s.n (at_ + σ.used.length)) { σ.add [⟨costK s.kind, -1, 0⟩] with used := σ.used ++ [readM rd s.n (at_ + σ.used.length)] }
    rw [this.2.1, this.2.2.1]
    simp only [TS.add, List.length_append, List.length_cons, List.length_nil] at this ⊢
    omega
  split
  · unfold sendT TS.add
    split <;> simp <;> omega
  · simp [TS.add]
theorem see_c {must : List Int} {task tail : Int} {rd : List Int} {at_ : Int} {X px mx rx ax : Nat} {r : V} (hm : must.length ≤ 1048576) (ht : 0 ≤ tail ∧ tail ≤ 24) (hr : rd.length ≤ 9223372036854775807) (ha : 0 ≤ at_ ∧ at_ ≤ 1000000) (n : Nat) (σ : TS) (s : Stmt) (L : List It) (h : Heap) (hn : n < maxCnt) (hs : stmtOk s = true) (h6 : s.kind ≠ 6) (K0 : KeepT must task tail rd at_ X px mx rx ax r n σ L h) :
    C Tryz.prog 152 [.agg (encStmt s), .ptr px 1 0 0, .ptr mx 1 0 0, .ptr rx 1 0 0, .ptr ax 1 0 0] h (fun r' h' => r' = .bool (holdT s σ) ∧ KeepT must task tail rd at_ X px mx rx ax r (n + 1) (stepT must task tail rd at_ s σ) L h') := by
  have hnn : maxCnt = 282429536481 := rfl
  have hkk := stmt_kinds hs
  have K1 := (keepT_keeps must task tail rd at_ X px mx rx ax r).new [encStmt s] K0
  have hb := K1.1
  have T1 := K1.2
  refine Exists.elim K1.2 fun vs T => Exists.elim T fun vu T => Exists.elim T fun vl T => Exists.elim T fun F T => Exists.elim T fun vid T => ?_
  have f := T.1
  have S := T.2
  clear T K1
  have P1 := S.blk 6 rfl
  have B1 := S.blk 10 rfl
  simp only [encStmt] at P1 B1
  refine C.by mixed (cfn_ok Tryz.func152 ok152) rfl ?_
  simp (disch := omega) only [s152, go_sem, encStmt, P1, B1]
  refine CP.go (cost_c s hs) rfl rfl ?_
  simp (disch := omega) only [go_sem, encStmt, P1, B1]
  refine C.go (work_c (costK s.kind) T1 (by omega)) ?_
  rintro r0 h2 ⟨rfl, T2⟩
  have T2' := T2
  refine Exists.elim T2 fun vs2 T => Exists.elim T fun vu2 T => Exists.elim T fun vl2 T => Exists.elim T fun F2 T => Exists.elim T fun vid2 T => ?_
  have f2 := T.1
  have S2 := T.2
  clear T T2
  have B2 := S2.blk 10 rfl
  simp only [encStmt] at B2
  simp (disch := omega) only [go_sem, encStmt, B2]
  have bd := stepT_bd must task tail rd at_ s σ
  have fin : ∀ (h3 : Heap) (bx : It), TrS h3 X must task tail (stepT must task tail rd at_ s σ) (.p must r :: .k px [[.ptr X 1 0 0]] :: .k mx [[r]] :: .k rx [[.lst 1 (rd.map encI)]] :: .k ax [[.int .i64 at_]] :: bx :: L) → KeepT must task tail rd at_ X px mx rx ax r (n + 1) (stepT must task tail rd at_ s σ) L h3 := fun h3 bx T3 =>
    (keepT_keeps must task tail rd at_ X px mx rx ax r).drop (x := bx) ⟨by omega, T3⟩
  have P2 := S2.blk 6 rfl
  have M2 := S2.blk 7 rfl
  have R2 := S2.blk 8 rfl
  have A2 := S2.blk 9 rfl
  have X2 := S2.blk 0 rfl
  have r14 := rowT_14 (vs := vs2) (vu := vu2) (task := task) (tail := tail) (sent := (σ.add [⟨costK s.kind, -1, 0⟩]).sent.length) (vl := vl2) (vv := .own vid2 1 0 8 8) f2.f8
  have zr := (S2.pvv 5 rfl).1
  have hlen2 : (σ.add [⟨costK s.kind, -1, 0⟩]).steps.length ≤ 5 * n + 1 := by simp [TS.add]; omega
  have hvs : Snap h2 (.own vid2 1 0 8 8) (.lst 1 (σ.vars.map encI)) := Snap.flatN (S2.blk 4 rfl) (by rw [List.length_map]; exact f2.v8) (flat_encI _)
  refine condP_dec (fun h1 => ?_) (fun h1 => ?_)
  · have hx : hasExpr s.kind = true := by simp [hasExpr, h1]
    have hv : hasVar s.kind = true := by simp [hasVar, h1]
    have hsv := stmt_var hs hv
    have hex := stmt_expr hs hx
    simp (disch := omega) only [go_sem, encStmt, B2, P2, M2, X2, r14, zr.1, zr.2.1, zr.2.2]
    refine CP.goS (eval_c σ.vars s.e f.val f.v8 hex) rfl rfl (.cons hvs (.cons (.same _ (by rfl)) (.nil _))) ?_
    simp (disch := omega) only [go_sem, encStmt, B2, P2, M2, X2, r14, zr.1, zr.2.1, zr.2.2]
    refine C.go (assign_c s.var (evalE σ.vars s.e) T2' (by omega) (by show σ.logged.length ≤ _; omega) hm (by omega) (evalE_value f.val f.v8 hex)) ?_
    rintro r0 h3 ⟨rfl, T3⟩
    have he : stepT must task tail rd at_ s σ = assignT must task tail s.var (evalE σ.vars s.e) (σ.add [⟨costK s.kind, -1, 0⟩]) := if_pos h1
    rw [← he] at T3
    have hh : holdT s σ = true := if_neg (by omega)
    simp (disch := omega) only [go_sem, hh]
    exact fin _ _ T3
  have he1 : stepT must task tail rd at_ s σ = if s.kind = 2 then assignT must task tail s.var (readM rd s.n (at_ + σ.used.length)) { σ.add [⟨costK s.kind, -1, 0⟩] with used := σ.used ++ [readM rd s.n (at_ + σ.used.length)] } else if s.kind = 3 then sendT tail (evalE σ.vars s.e) (σ.add [⟨costK s.kind, -1, 0⟩]) else σ.add [⟨costK s.kind, -1, 0⟩] := if_neg h1
  simp (disch := omega) only [go_sem, encStmt, B2]
  refine condP_dec (fun h1 => ?_) (fun h1 => ?_)
  · have hv : hasVar s.kind = true := by simp [hasVar, h1]
    have hsv := stmt_var hs hv
    have lenu := fun G => (S2.lst 2 rfl).elim fun i o => o.len_ G
    simp only [List.length_map, TS.add] at lenu
    have zu := S2.vv 2 rfl
    simp (disch := omega) only [go_sem, encStmt, B2, P2, R2, A2, X2, rowT_1, zu.1, zu.2.1, zu.2.2, lenu]
    refine CP.go (readSensor_c rd s.n _ hr) rfl (by simp [V.refsL, V.refs, refsLL_map encI (fun _ => rfl) rd]) ?_
    refine Exists.elim ((S2.pull 2).pushS (bytes := 8) [.int .i64 (readM rd s.n (at_ + σ.used.length))] rfl (by simp [TS.add]; omega)) fun v' q => Exists.elim q fun h3 q => ?_
    have hap := q.1
    have S3 := q.2
    clear q
    rw [show (σ.add [⟨costK s.kind, -1, 0⟩]).used.map encI ++ [[V.int .i64 (readM rd s.n (at_ + σ.used.length))]] = (σ.used ++ [readM rd s.n (at_ + σ.used.length)]).map encI by simp [encI, TS.add]] at S3
    have z3 := S3.vv 0 rfl
    have X3 := S3.blk 1 rfl
    have st := rowT_s1 X3 f2.f8 z3.1 z3.2.2
    have S4 := (S3.pull 1).setK [rowT vs2 v' task tail (σ.add [⟨costK s.kind, -1, 0⟩]).sent.length vl2 F2 (.own vid2 1 0 8 8)]
    have T4 := TrS.mk (σ := { σ.add [⟨costK s.kind, -1, 0⟩] with used := σ.used ++ [readM rd s.n (at_ + σ.used.length)] }) (must := must) ⟨f2.f8, f2.v8, f2.val, f2.fr⟩ (S4.pk (A := [_, _, _, _, _]) [0, 2, 1, 3, 4] rfl)
    have P4 := S4.blk 6 rfl
    have M4 := S4.blk 7 rfl
    have B4 := S4.blk 10 rfl
    have P3 := S3.blk 6 rfl
    have X2' := fun t => heap_app (h' := t) X2
    have P2' := fun t => heap_app (h' := t) P2
    simp (disch := omega) only [go_sem, encStmt, B2, P2, R2, A2, X2, X2', P2', rowT_1, zu.1, zu.2.1, zu.2.2, hap, z3.1, z3.2.1, z3.2.2, P3, X3, st, P4, M4, B4, zr.1, zr.2.1, zr.2.2]
    refine C.go (assign_c s.var (readM rd s.n (at_ + σ.used.length)) T4 (by show (σ.add [⟨costK s.kind, -1, 0⟩]).steps.length ≤ _; omega) (by show σ.logged.length ≤ _; omega) hm (by omega) (readM_value _ _ _)) ?_
    rintro r0 h5 ⟨rfl, T5⟩
    have he : stepT must task tail rd at_ s σ = _ := he1.trans (if_pos h1)
    rw [← he] at T5
    have hh : holdT s σ = true := if_neg (by omega)
    simp (disch := omega) only [go_sem, hh]
    exact fin _ _ T5
  have he2 := he1.trans (if_neg h1)
  simp (disch := omega) only [go_sem, encStmt, B2]
  refine condP_dec (fun h1 => ?_) (fun h1 => ?_)
  · have hx : hasExpr s.kind = true := by simp [hasExpr, h1]
    have hex := stmt_expr hs hx
    simp (disch := omega) only [go_sem, encStmt, B2, P2, M2, X2, r14, zr.1, zr.2.1, zr.2.2]
    refine CP.goS (eval_c σ.vars s.e f.val f.v8 hex) rfl rfl (.cons hvs (.cons (.same _ (by rfl)) (.nil _))) ?_
    simp (disch := omega) only [go_sem, encStmt, B2, P2, M2, X2, r14, zr.1, zr.2.1, zr.2.2]
    refine C.go (send_c (evalE σ.vars s.e) T2' (by omega) (by show σ.sent.length ≤ _; omega) ht) ?_
    rintro r0 h3 ⟨rfl, T3⟩
    have he := he2.trans (if_pos h1)
    rw [← he] at T3
    have hh : holdT s σ = true := if_neg (by omega)
    simp (disch := omega) only [go_sem, hh]
    exact fin _ _ T3
  have he := he2.trans (if_neg h1)
  rw [← he] at T2'
  simp (disch := omega) only [go_sem, encStmt, B2]
  refine condP_dec (fun h1 => ?_) (fun h1 => ?_)
  · have hx : hasExpr s.kind = true := by simp [hasExpr, h1]
    have hex := stmt_expr hs hx
    simp (disch := omega) only [go_sem, encStmt, B2, P2, M2, X2, r14, zr.1, zr.2.1, zr.2.2]
    refine CP.goS (eval_c σ.vars s.e f.val f.v8 hex) rfl rfl (.cons hvs (.cons (.same _ (by rfl)) (.nil _))) ?_
    have hh : holdT s σ = !decide (evalE σ.vars s.e = 0) := if_pos h1
    simp (disch := omega) only [go_sem, encStmt, B2, P2, M2, X2, r14, zr.1, zr.2.1, zr.2.2, hh]
    exact fin _ _ T2'
  · have hh : holdT s σ = true := if_neg h1
    simp (disch := omega) only [go_sem, hh]
    exact fin _ _ T2'
end Go.Av

namespace Go.Av
open Go.Proofs Go.RowKit
set_option linter.unusedVariables false
set_option linter.unusedSimpArgs false
set_option maxRecDepth 100000
set_option maxHeartbeats 4000000
theorem memVars_f (m : List Int) (hm : m.length = 49) : F Tryz.prog 151 [.lst 1 (m.map encI)] (.lst 1 ((m.take 8).map encI)) := by
  refine C.by mixed (cfn_ok Tryz.func151 ok151) rfl ?_
  simp (disch := omega) only [s151, go_sem, hm]
  refine F.go (cloneI_f (m.take 8) (by simp; omega)) (.same (refs_int1 _ _)) fun r h' ids x n g o => ?_
  have z := (Owns.lstR.1 o).vv
  simp (disch := omega) only [go_sem, z.1, z.2.1, z.2.2]
  exact ⟨ids, n, o⟩
def taskAt (ts : List Task) (t : Int) : Task := (ts[t.toNat]?).getD ⟨[], ⟨0, 0, 0⟩⟩
theorem taskAt_eq {ts : List Task} {t : Int} (h : t.toNat < ts.length) : ts[t.toNat] = taskAt ts t := by simp [taskAt, h]
theorem taskAt_some {ts : List Task} {t : Int} (h : t.toNat < ts.length) : ts[t.toNat]? = some (taskAt ts t) := by simp [taskAt, h]
def nextM (ts : List Task) (vars : List Int) (t : Int) : Int := evalE vars (taskAt ts t).next % (ts.length : Int)
theorem prog_facts {ts : List Task} (h : programOk ts = true) : (1 ≤ ts.length ∧ ts.length ≤ 6) ∧ ∀ t ∈ ts, taskOk t = true ∧ t.body.length ≤ 24 := by
  simp only [programOk, within, Bool.and_eq_true, decide_eq_true_eq, List.all_eq_true] at h
  refine ⟨by omega, fun t ht => ⟨h.2 t ht, ?_⟩⟩
  exact (treeOf_ok (task_facts (h.2 t ht)).1).2.2
theorem nextM_bd {ts : List Task} (h : 0 < ts.length) (vars : List Int) (t : Int) : 0 ≤ nextM ts vars t ∧ nextM ts vars t < ts.length := ⟨Int.emod_nonneg _ (by omega), Int.emod_lt_of_pos _ (by omega)⟩
theorem tmod_twice {a n : Int} (hn : 0 < n) : (a.tmod n + n).tmod n = a % n := by
  have h1 : -n < a.tmod n := Int.lt_tmod_of_pos a hn
  rw [mod_nn (by omega), Int.add_emod_right]
  have h2 := Int.tmod_add_mul_tdiv a n
  conv => rhs; rw [← h2]
  rw [Int.add_mul_emod_self_left]
theorem next_c (ts : List Task) (vars : List Int) (t : Int) (hp : programOk ts = true) (hv : ∀ z ∈ vars, isValue z = true) (h8 : vars.length = 8) (ht : 0 ≤ t ∧ t < ts.length) : CP Tryz.prog 148 [.agg [.lst 4 (ts.map encTask)], .lst 1 (vars.map encI), .int .i64 t] (.int .i64 (nextM ts vars t)) [] := by
  have pf := prog_facts hp
  have hmem : taskAt ts t ∈ ts := by rw [← taskAt_eq (by omega)]; exact List.getElem_mem _
  have hte := task_facts (pf.2 _ hmem).1
  have hin : within t 0 ((ts.length : Int) - 1) = true := by simp [within]; omega
  have hvo : varsOkM vars = true := by simp only [varsOkM, h8, Bool.and_eq_true, decide_eq_true_eq, true_and]; exact vals_iff.2 hv
  have hev := evalE_value hv h8 hte.2
  simp only [isValue, within, Bool.and_eq_true, decide_eq_true_eq] at hev
  refine CP.by rfl mixed (cfn_ok Tryz.func148 ok148) rfl ?_
  simp (disch := omega) only [s148, go_sem]
  refine CP.go (hasTask_c ts t (by omega) (fun u hu => by have := (pf.2 u hu).2; omega)) rfl (by simp [V.refsL, V.refs, refsLL_map encTask (refs_task 0) ts]) ?_
  simp (disch := omega) only [go_sem, hp, hin, Bool.true_and]
  refine CP.go (varsOkG_c vars (by omega)) rfl (refs_int1 _ _) ?_
  have hta := taskAt_some (ts := ts) (t := t) (by omega)
  simp (disch := omega) only [go_sem, hvo, hta, List.getElem?_map, encTask, taskAt_eq]
  refine CP.go (eval_c vars (taskAt ts t).next hv h8 hte.2) rfl (by simp [V.refsL, V.refs, refsLL_map encI (fun _ => rfl) vars]) ?_
  have hm1 : -(ts.length : Int) < (evalE vars (taskAt ts t).next).tmod ts.length := Int.lt_tmod_of_pos _ (by omega)
  have hm2 : (evalE vars (taskAt ts t).next).tmod ts.length < ts.length := Int.tmod_lt_of_pos _ (by omega)
  simp (disch := omega) only [go_sem, hvo, hta, List.getElem?_map, encTask, taskAt_eq]
  rw [tmod_twice (by omega)]; rfl
structure MemT (n : Nat) (m : List Int) (t c l : Int) : Prop where
  len : m.length = 49
  val : ∀ z ∈ m.take 8, isValue z = true
  t0 : 0 ≤ t
  t1 : t < n
  l0 : 0 ≤ l
  l1 : l ≤ 24
  ctl : unpackM (gtI m 8) = (t, c, l)
noncomputable def mustOf (tk : Task) : List Int := logT (treeOf tk.body) tk.next
noncomputable def runT (tk : Task) (task tail : Int) (rd : List Int) (at_ : Int) (vars : List Int) : TS := runG (stepT (mustOf tk) task tail rd at_) holdT (treeOf tk.body) ⟨vars, [], [], [], []⟩
noncomputable def traceEnd (ts : List Task) (task tail : Int) (σ : TS) : List Micro := [⟨1, -1, 0⟩, ⟨3, 8, packM (nextM ts σ.vars task) 0 (min 24 (tail + σ.sent.length))⟩]
noncomputable def traceS (ts : List Task) (m rd : List Int) (at_ task tail : Int) : List Micro := (runT (taskAt ts task) task tail rd at_ (m.take 8)).steps ++ traceEnd ts task tail (runT (taskAt ts task) task tail rd at_ (m.take 8))
noncomputable def traceU (ts : List Task) (m rd : List Int) (at_ task tail : Int) : List Int := (runT (taskAt ts task) task tail rd at_ (m.take 8)).used
theorem traceOf_f (ts : List Task) (m rd : List Int) (at_ task c tail : Int) (hp : programOk ts = true) (hm : MemT ts.length m task c tail) (hr : rd.length ≤ 9223372036854775807) (ha : 0 ≤ at_ ∧ at_ ≤ 1000000) :
    F Tryz.prog 92 [.agg [.lst 4 (ts.map encTask)], .lst 1 (m.map encI), .lst 1 (rd.map encI), .int .i64 at_] (.agg [.lst 3 ((traceS ts m rd at_ task tail).map encMicro), .lst 1 ((traceU ts m rd at_ task tail).map encI)]) := by
  have pf := prog_facts hp
  have htl : task.toNat < ts.length := by have := hm.t0; have := hm.t1; omega
  have hta := taskAt_some htl
  have hmem : taskAt ts task ∈ ts := by rw [← taskAt_eq htl]; exact List.getElem_mem _
  have htk := pf.2 _ hmem
  have hte := task_facts htk.1
  have htr := treeOf_ok hte.1
  have hg8 : m[8]? = some (gtI m 8) := gtI_some (by rw [hm.len]; omega)
  have hnn : maxCnt = 282429536481 := rfl
  have hml := hm.len
  refine C.by mixed (cfn_ok Tryz.func92 ok92) rfl ?_
  simp (disch := omega) only [s92, go_sem, hml, hg8, List.getElem?_map, encI, gtI_get]
  refine CP.go (unpack_c _) rfl rfl ?_
  simp (disch := omega) only [go_sem, encU, hm.ctl]
  have S0 : Sep ([[[V.lst 4 (ts.map encTask)]], [[V.lst 1 (rd.map encI)]], [[V.int .i64 at_]], [[V.nils, .nils]]] : Heap) [.k 3 [[V.nils, .nils]], .k 2 [[V.int .i64 at_]], .k 1 [[V.lst 1 (rd.map encI)]], .k 0 [[V.lst 4 (ts.map encTask)]]] := ((((Sep.nil []).newK _).newK _).newK _).newK _
  refine S0.goLst (memVars_f m hm.len) (.same (refs_int1 _ _)) fun v1 h1 x1 S1 o1 n1 c1 => ?_
  have h8 : ((m.take 8).map encI).length = 8 := by simp; omega
  refine Exists.elim (show ∃ q, v1 = .own q 1 0 8 8 ∧ Sep h1 [.k q ((m.take 8).map encI), .k 3 [[V.nils, .nils]], .k 2 [[V.int .i64 at_]], .k 1 [[V.lst 1 (rd.map encI)]], .k 0 [[V.lst 4 (ts.map encTask)]]] from ?_) fun vid z => ?_
  · rcases S1.flat_ (flat_encI _) with ⟨a, b, c⟩ | ⟨q, a, b⟩
    · rw [b] at h8; simp at h8
    · rw [h8] at a; exact ⟨q, a, b⟩
  have z1 := z.1
  have S1' := z.2
  clear z
  subst z1
  have tail0 := hm.l0
  have tail1 := hm.l1
  have task0 := hm.t0
  have S2 := S1'.newK3 [rowT .nils .nils task tail 0 .nils zero8 (.own vid 1 0 8 8)] [[.ptr h1.length 1 0 0]] [encTask (taskAt ts task)]
  have S2b := S1'.newK2 [rowT .nils .nils task tail 0 .nils zero8 (.own vid 1 0 8 8)] [[.ptr h1.length 1 0 0]]
  have P2 := S2b.blk 6 rfl
  have T2 := S2.blk 0 rfl
  simp only [rowT, zero8, List.map_cons, List.map_nil, List.cons_append, List.nil_append, encTask] at T2 P2
  simp (disch := omega) only [go_sem, splice, P2, T2, encTask, List.getElem?_map, hta, taskAt_eq]
  simp only [encTask] at S2
  refine S2.goPt (log_c (treeOf (taskAt ts task).body) (taskAt ts task).body (taskAt ts task).next htr.1 htr.2.1 hte.1 hte.2) (.same (refs_task1 _ (taskAt ts task))) fun r h3 x3 S3 ro rn rc rl => ?_
  have S4 := S3.newK [[r]]
  have T4 := S4.blk 2 rfl
  have hX : mustOf (taskAt ts task) = logT (treeOf (taskAt ts task).body) (taskAt ts task).next := rfl
  have hml8 : (mustOf (taskAt ts task)).length ≤ 8 := by rw [hX]; exact log_len _ _
  have R0 : KeepT (mustOf (taskAt ts task)) task tail rd at_ h1.length (h1.length + 1) h3.length 1 2 r 0 ⟨m.take 8, [], [], [], []⟩ [.k 3 [[V.nils, .nils]], .k 0 [[V.lst 4 (ts.map encTask)]], .k (h1.length + 2) [[.lst 6 ((taskAt ts task).body.map encStmt), .int .i64 (taskAt ts task).next.op, .int .i64 (taskAt ts task).next.a, .int .i64 (taskAt ts task).next.b]]] (h3 ++ [[[r]]]) := by
    refine ⟨by simp, .nils, .nils, .nils, zero8, vid, ⟨rfl, by simp; omega, hm.val, fun k hk _ => ?_⟩, ?_⟩
    · rw [bitB_zero]; simp
    · exact (((S4.nils (sz := 1)).nils (sz := 1)).nils (sz := 3)).pk (A := [_, _, _, _, _, _, _, _, _, _, _, _, _]) (L := []) [7, 0, 1, 2, 8, 4, 6, 3, 11, 10, 9, 12, 5] rfl
  simp (disch := omega) only [go_sem, ro, rn, rc, T4]
  refine C.go (walk_c (keepT_keeps (mustOf (taskAt ts task)) task tail rd at_ h1.length (h1.length + 1) h3.length 1 2 r) (see_c (by omega) ⟨tail0, tail1⟩ hr ha) (treeOf (taskAt ts task).body) (taskAt ts task).body 0 _ _ _ htr.1 htr.2.1 htr.2.2 (by have := cntT_max (t := treeOf (taskAt ts task).body) (by rw [← htr.2.1]; exact htr.2.2); omega) R0) ?_
  intro r5 h5 P
  have hr5 := P.1
  refine Exists.elim P.2 fun n' P => ?_
  have hn' := P.1
  have K5 := P.2
  clear P
  subst hr5
  have hcm := cntT_max (t := treeOf (taskAt ts task).body) (by rw [← htr.2.1]; exact htr.2.2)
  refine Exists.elim (show ∃ σ, σ = runT (taskAt ts task) task tail rd at_ (m.take 8) from ⟨_, rfl⟩) fun σ hσ => ?_
  have hσ' : runG (stepT (mustOf (taskAt ts task)) task tail rd at_) holdT (treeOf (taskAt ts task).body) ⟨m.take 8, [], [], [], []⟩ = σ := hσ.symm
  rw [hσ'] at K5
  have hb5 := K5.1
  have T5 := K5.2
  clear K5
  have P5 := Exists.elim T5 fun _ T => Exists.elim T fun _ T => Exists.elim T fun _ T => Exists.elim T fun _ T => Exists.elim T fun _ T => T.2.blk 6 rfl
  simp (disch := omega) only [go_sem, P5]
  refine C.go (work_c 1 T5 (by omega)) ?_
  rintro r6 h6 ⟨rfl, T6⟩
  have T6' := T6
  refine Exists.elim T6 fun vs6 T => Exists.elim T fun vu6 T => Exists.elim T fun vl6 T => Exists.elim T fun F6 T => Exists.elim T fun vid6 T => ?_
  have f6 := T.1
  have S6 := T.2
  clear T T6
  have X6 := S6.blk 0 rfl
  have P6 := S6.blk 6 rfl
  have G6 := S6.blk 11 rfl
  have r14 := rowT_14 (vs := vs6) (vu := vu6) (task := task) (tail := tail) (sent := (σ.add [⟨1, -1, 0⟩]).sent.length) (vl := vl6) (vv := .own vid6 1 0 8 8) f6.f8
  simp (disch := omega) only [go_sem, X6, P6, G6, r14, rowT_4, refs_task]
  refine CP.goS (next_c ts σ.vars task hp f6.val f6.v8 ⟨task0, hm.t1⟩) rfl rfl (.cons (.same _ (refs_prog 0 ts)) (.cons (Snap.flatN (S6.blk 4 rfl) (by rw [List.length_map]; exact f6.v8) (flat_encI _)) (.cons (.int _ _) (.nil _)))) ?_
  have hs6 : (σ.add [⟨1, -1, 0⟩]).sent = σ.sent := rfl
  have hsl : σ.sent.length ≤ 282429536481 := by omega
  simp (disch := omega) only [go_sem, X6, P6, G6, r14, rowT_4, refs_task, hs6]
  refine CP.go (pack_c _ _ _) rfl rfl ?_
  simp (disch := omega) only [go_sem, X6, P6, G6, r14, rowT_4, refs_task, hs6]
  refine C.go (write_c 8 (packM (nextM ts σ.vars task) 0 (min 24 (tail + σ.sent.length))) T6' (by simp [TS.add]; omega)) ?_
  rintro r7 h7 ⟨rfl, T7⟩
  refine Exists.elim T7 fun vs7 T => Exists.elim T fun vu7 T => Exists.elim T fun vl7 T => Exists.elim T fun F7 T => Exists.elim T fun vid7 T => ?_
  have f7 := T.1
  have S7 := T.2
  clear T T7
  have X7 := S7.blk 0 rfl
  have P7 := S7.blk 6 rfl
  have Z7 := S7.blk 10 rfl
  have zs := S7.vv 1 rfl
  have zu := S7.vv 2 rfl
  have c7 : ∀ d, (h7.set 3 d)[3]? = some d := fun d => heap_set _ Z7
  simp (disch := omega) only [go_sem, X7, P7, Z7, rowT_out, zs.1, zs.2.1, zs.2.2, zu.1, zu.2.1, zu.2.2, storeH, storeB, splice, c7]
  have S8 := ((S7.pull 10).setK [[vs7, vu7]])
  have S9 := S8.pk (A := [_, _, _, _]) [3, 2] rfl
  have e1 : ((σ.add [⟨1, -1, 0⟩]).add [⟨3, 8, packM (nextM ts σ.vars task) 0 (min 24 (tail + σ.sent.length))⟩]).steps = traceS ts m rd at_ task tail := by
    unfold traceS traceEnd; rw [← hσ]; simp [TS.add]
  have e2 : ((σ.add [⟨1, -1, 0⟩]).add [⟨3, 8, packM (nextM ts σ.vars task) 0 (min 24 (tail + σ.sent.length))⟩]).used = traceU ts m rd at_ task tail := by
    unfold traceU; rw [← hσ]; rfl
  rw [e1, e2] at S9
  have A1 := (Sep.cons2 (fun es e => by cases e) (Sep.perm (List.Perm.swap _ _ _) (Sep.l0 S9)))
  exact ((Sep.cons2 (fun es e => by cases e) (Sep.perm (List.Perm.swap _ _ _) A1)).a).ret
end Go.Av

namespace Go.Av
open Go.Proofs Go.RowKit
set_option linter.unusedVariables false
set_option linter.unusedSimpArgs false
set_option maxRecDepth 100000
set_option maxHeartbeats 4000000
def logOk (m : List Int) (i : Nat) : Bool := isVar (gtI m (9 + 2 * i)) && isValue (gtI m (9 + 2 * i + 1))
def memOkM (ts : List Task) (m : List Int) : Bool := programOk ts && decide (m.length = 49) && vals (m.take 8) && (decide (0 ≤ (unpackM (gtI m 8)).1) && decide ((unpackM (gtI m 8)).1 < ts.length)) && vals ((m.take (25 + (unpackM (gtI m 8)).2.2).toNat).drop 25) && (List.range (unpackM (gtI m 8)).2.1.toNat).all (logOk m)
theorem sl_both (m : List Int) {l : Int} (h0 : 0 ≤ l ∧ l ≤ 24) (hm : m.length = 49) : sliceV 1 (.lst 1 (m.map encI)) (some (.int .i64 25)) (some (.int .i64 (25 + l))) = some (.lst 1 (((m.take (25 + l).toNat).drop 25).map encI)) := by
  rw [sliceV_both encI 1 .i64 .i64 m 25 (25 + l) (by omega) (by omega) (by omega)]; rfl
theorem log_all {m : List Int} {c : Nat} (h : ∀ j, j < c → logOk m j = true) : (List.range c).all (logOk m) = true := List.all_eq_true.2 fun j hj => h j (List.mem_range.1 hj)
theorem log_some {m : List Int} {c k : Nat} (hk : k < c) (h : logOk m k = false) : (List.range c).all (logOk m) = false := List.all_eq_false.2 ⟨k, List.mem_range.2 hk, by simp [h]⟩
theorem memOk_c (ts : List Task) (m : List Int) (hl : ts.length ≤ 1048576) (hb : ∀ t ∈ ts, t.body.length ≤ 9223372036854775807) (hml : m.length ≤ 9223372036854775807) : CP Tryz.prog 89 [.agg [.lst 4 (ts.map encTask)], .lst 1 (m.map encI)] (.bool (memOkM ts m)) [] := by
  refine CP.by rfl mixed (cfn_ok Tryz.func89 ok89) rfl ?_
  simp (disch := omega) only [s89, go_sem]
  refine CP.go (programOk_c ts hl hb) rfl (refs_prog1 _ ts) ?_
  simp (disch := omega) only [go_sem]
  refine condP_split (fun hp => ?_) (fun hp => ?_)
  case' refine_2 =>
    simp (disch := omega) only [go_sem, hp]
    simp [memOkM, hp]
  simp (disch := omega) only [go_sem, hp]
  refine condP_dec (fun h49 => ?_) (fun h49 => ?_)
  case' refine_2 =>
    simp (disch := omega) only [go_sem, hp]
    have : ¬ m.length = 49 := by omega
    simp [memOkM, this]
  have hm : m.length = 49 := by omega
  simp (disch := omega) only [go_sem, hp]
  refine CP.go (values_c (m.take 8) (by simp; omega)) rfl (refs_int1 _ _) ?_
  simp (disch := omega) only [go_sem, hp]
  refine condP_split (fun hv => ?_) (fun hv => ?_)
  case' refine_2 =>
    simp (disch := omega) only [go_sem, hp, hv]
    have hv' : vals (m.take (8 : Int).toNat) = false := hv
    have hv2 : vals (m.take 8) = false := hv'
    simp [memOkM, hv2]
  have hg8 : m[8]? = some (gtI m 8) := gtI_some (by omega)
  simp (disch := omega) only [go_sem, hp, hv, hg8, List.getElem?_map, encI, gtI_get]
  refine CP.go (unpack_c _) rfl rfl ?_
  refine Exists.elim (show ∃ a b c, unpackM (gtI m 8) = (a, b, c) from ⟨_, _, _, rfl⟩) fun a q => Exists.elim q fun b q => Exists.elim q fun c hu => ?_
  have ub := unpackM_bd (gtI m 8)
  rw [hu] at ub
  simp only at ub
  simp (disch := omega) only [go_sem, encU, hu]
  refine condP_dec (fun h0 => ?_) (fun h0 => ?_)
  · simp (disch := omega) only [go_sem, encU, hu]
    have : ¬ 0 ≤ a := by omega
    simp [memOkM, hu, this]
  simp (disch := omega) only [go_sem, encU, hu]
  refine condP_dec (fun h1 => ?_) (fun h1 => ?_)
  · simp (disch := omega) only [go_sem, encU, hu]
    have : ¬ a < ts.length := by omega
    simp [memOkM, hu, this]
  have hsl := sl_both m (l := c) (by omega) hm
  simp (disch := omega) only [go_sem, encU, hu, hsl]
  refine CP.go (values_c _ (by simp; omega)) rfl (refs_int1 _ _) ?_
  simp (disch := omega) only [go_sem, encU, hu, hsl]
  refine condP_split (fun hbx => ?_) (fun hbx => ?_)
  case' refine_2 =>
    simp (disch := omega) only [go_sem, hbx]
    simp [memOkM, hu, hbx]
  have ha0 : 0 ≤ a := by omega
  have ha1 : a < ts.length := by omega
  have key : memOkM ts m = (List.range b.toNat).all (logOk m) := by simp [memOkM, hp, hm, show vals (m.take 8) = true from hv, hu, hbx, ha0, ha1]
  simp (disch := omega) only [go_sem, hbx, hv]
  refine loopP_intro (fun n s => ∃ k : Nat, (k : Int) ≤ b ∧ n = b.toNat - k ∧ s.e 1 = .lst 1 (m.map encI) ∧ s.e 48 = .int .i64 b ∧ s.e 49 = .int .i64 k ∧ ∀ j, j < k → logOk m j = true) b.toNat ⟨0, by omega, by omega, by simp (disch := omega) only [go_sem, hbx, hv], by simp (disch := omega) only [go_sem, hbx, hv], by simp (disch := omega) only [go_sem, hbx, hv] <;> rfl, fun j h => absurd h (by omega)⟩ ?_
  intro n e hp P
  refine Exists.elim P fun k P => ?_
  have hk := P.1
  have hn := P.2.1
  have e1 := P.2.2.1
  have ec := P.2.2.2.1
  have ek := P.2.2.2.2.1
  have hall := P.2.2.2.2.2
  clear P
  subst hn
  simp only at e1 ec ek
  simp (disch := omega) only [go_sem, e1, ec, ek]
  refine condP_dec (fun hlt => ?_) (fun hlt => ?_)
  case' refine_2 =>
    simp (disch := omega) only [go_sem, e1, ec, ek]
    rw [key, log_all (fun j hj => hall j (by omega))]
  have i1 : (9 + 2 * (k : Int)).toNat = 9 + 2 * k := by omega
  have i2 : (9 + 2 * (k : Int) + 1).toNat = 9 + 2 * k + 1 := by omega
  have g1 := gtI_some (zs := m) (i := 9 + 2 * k) (by omega)
  have g2 := gtI_some (zs := m) (i := 9 + 2 * k + 1) (by omega)
  simp (disch := omega) only [go_sem, e1, ec, ek, encI, i1, i2, g1, g2, List.getElem?_map, gtI_get]
  refine CP.go (isVar_c (gtI m (9 + 2 * k))) rfl rfl ?_
  simp (disch := omega) only [go_sem, e1, ec, ek]
  refine condP_split (fun hx => ?_) (fun hx => ?_)
  case' refine_2 =>
    simp (disch := omega) only [go_sem, e1, ec, ek, hx]
    rw [key, log_some (k := k) (by omega) (by unfold logOk; rw [hx]; rfl)]
  simp (disch := omega) only [go_sem, e1, ec, ek, hx, encI, i1, i2, g1, g2, List.getElem?_map, gtI_get]
  refine CP.go (isValue_c _) rfl rfl ?_
  simp (disch := omega) only [go_sem, e1, ec, ek, hx]
  refine condP_split (fun hy => ?_) (fun hy => ?_)
  · simp (disch := omega) only [go_sem, e1, ec, ek, hx, hy]
    refine nextP_intro (b.toNat - (k + 1)) (by omega) ⟨k + 1, by omega, rfl, by simp (disch := omega) only [go_sem, e1, ec, ek, hx, hy], by simp (disch := omega) only [go_sem, e1, ec, ek, hx, hy], by simp (disch := omega) only [go_sem, e1, ec, ek, hx, hy] <;> rfl, fun j hj => ?_⟩
    by_cases q : j = k
    · rw [q]; unfold logOk; rw [hx, hy]; rfl
    · exact hall j (by omega)
  · simp (disch := omega) only [go_sem, e1, ec, ek, hx, hy]
    rw [key, log_some (k := k) (by omega) (by unfold logOk; rw [hy, Bool.and_false])]
theorem memOk_s (ts : List Task) (m : List Int) (hl : ts.length ≤ 1048576) (hb : ∀ t ∈ ts, t.body.length ≤ 9223372036854775807) (hml : m.length ≤ 9223372036854775807) : CP Tryz.prog 226 [.agg [.lst 4 (ts.map encTask)], .lst 1 (m.map encI)] (.bool (memOkM ts m)) [] := by
  refine CP.by rfl mixed (cfn_ok Tryz.func226 ok226) rfl ?_
  simp (disch := omega) only [s226, go_sem]
  refine CP.go (programOk_s ts hl hb) rfl (refs_prog1 _ ts) ?_
  simp (disch := omega) only [go_sem]
  refine condP_split (fun hp => ?_) (fun hp => ?_)
  case' refine_2 =>
    simp (disch := omega) only [go_sem, hp]
    simp [memOkM, hp]
  simp (disch := omega) only [go_sem, hp]
  refine condP_dec (fun h49 => ?_) (fun h49 => ?_)
  case' refine_2 =>
    simp (disch := omega) only [go_sem, hp]
    have : ¬ m.length = 49 := by omega
    simp [memOkM, this]
  have hm : m.length = 49 := by omega
  have hg8 : m[8]? = some (gtI m 8) := gtI_some (by omega)
  simp (disch := omega) only [go_sem, hp, hg8, List.getElem?_map, encI, gtI_get]
  refine CP.go (unpack_s _) rfl rfl ?_
  refine Exists.elim (show ∃ a b c, unpackM (gtI m 8) = (a, b, c) from ⟨_, _, _, rfl⟩) fun a q => Exists.elim q fun b q => Exists.elim q fun c hu => ?_
  have ub := unpackM_bd (gtI m 8)
  rw [hu] at ub
  simp only at ub
  simp (disch := omega) only [go_sem, encU, hu]
  refine condP_dec (fun h0 => ?_) (fun h0 => ?_)
  · simp (disch := omega) only [go_sem, encU, hu]
    have : ¬ 0 ≤ a := by omega
    simp [memOkM, hu, this]
  simp (disch := omega) only [go_sem, encU, hu]
  refine condP_dec (fun h1 => ?_) (fun h1 => ?_)
  · simp (disch := omega) only [go_sem, encU, hu]
    have : ¬ a < ts.length := by omega
    simp [memOkM, hu, this]
  have hsl := sl_both m (l := c) (by omega) hm
  simp (disch := omega) only [go_sem, encU, hu, hsl]
  refine CP.go (values_s (m.take 8) (by simp; omega)) rfl (refs_int1 _ _) ?_
  simp (disch := omega) only [go_sem, encU, hu, hsl]
  refine condP_split (fun hv => ?_) (fun hv => ?_)
  case' refine_2 =>
    simp (disch := omega) only [go_sem, hv]
    have hv2 : vals (m.take 8) = false := hv
    simp [memOkM, hv2]
  simp (disch := omega) only [go_sem, encU, hu, hsl, hv]
  refine CP.go (values_s _ (by simp; omega)) rfl (refs_int1 _ _) ?_
  simp (disch := omega) only [go_sem, encU, hu, hsl, hv]
  refine condP_split (fun hbx => ?_) (fun hbx => ?_)
  case' refine_2 =>
    simp (disch := omega) only [go_sem, hbx]
    simp [memOkM, hu, hbx]
  have ha0 : 0 ≤ a := by omega
  have ha1 : a < ts.length := by omega
  have key : memOkM ts m = (List.range b.toNat).all (logOk m) := by simp [memOkM, hp, hm, show vals (m.take 8) = true from hv, hu, hbx, ha0, ha1]
  simp (disch := omega) only [go_sem, hbx, hv]
  refine loopP_intro (fun n s => ∃ k : Nat, (k : Int) ≤ b ∧ n = b.toNat - k ∧ s.e 1 = .lst 1 (m.map encI) ∧ s.e 6 = .int .i64 b ∧ s.e 8 = .int .i64 k ∧ ∀ j, j < k → logOk m j = true) b.toNat ⟨0, by omega, by omega, by simp (disch := omega) only [go_sem, hbx, hv], by simp (disch := omega) only [go_sem, hbx, hv], by simp (disch := omega) only [go_sem, hbx, hv] <;> rfl, fun j h => absurd h (by omega)⟩ ?_
  intro n e hp P
  refine Exists.elim P fun k P => ?_
  have hk := P.1
  have hn := P.2.1
  have e1 := P.2.2.1
  have ec := P.2.2.2.1
  have ek := P.2.2.2.2.1
  have hall := P.2.2.2.2.2
  clear P
  subst hn
  simp only at e1 ec ek
  simp (disch := omega) only [go_sem, e1, ec, ek]
  refine condP_dec (fun hlt => ?_) (fun hlt => ?_)
  case' refine_2 =>
    simp (disch := omega) only [go_sem, e1, ec, ek]
    rw [key, log_all (fun j hj => hall j (by omega))]
  have i1 : (9 + 2 * (k : Int)).toNat = 9 + 2 * k := by omega
  have i2 : (9 + 2 * (k : Int) + 1).toNat = 9 + 2 * k + 1 := by omega
  have g1 := gtI_some (zs := m) (i := 9 + 2 * k) (by omega)
  have g2 := gtI_some (zs := m) (i := 9 + 2 * k + 1) (by omega)
  simp (disch := omega) only [go_sem, e1, ec, ek, encI, i1, i2, g1, g2, List.getElem?_map, gtI_get]
  refine CP.go (l01In_c (gtI m (9 + 2 * k)) 0 7) rfl rfl ?_
  simp (disch := omega) only [go_sem, e1, ec, ek]
  refine condP_split (fun hx => ?_) (fun hx => ?_)
  case' refine_2 =>
    simp (disch := omega) only [go_sem, e1, ec, ek, hx]
    rw [key, log_some (k := k) (by omega) (by unfold logOk; rw [show isVar (gtI m (9 + 2 * k)) = _ from hx]; rfl)]
  simp (disch := omega) only [go_sem, e1, ec, ek, hx, encI, i1, i2, g1, g2, List.getElem?_map, gtI_get]
  refine CP.go (isValue_s _) rfl rfl ?_
  simp (disch := omega) only [go_sem, e1, ec, ek, hx]
  refine condP_split (fun hy => ?_) (fun hy => ?_)
  · simp (disch := omega) only [go_sem, e1, ec, ek, hx, hy]
    refine nextP_intro (b.toNat - (k + 1)) (by omega) ⟨k + 1, by omega, rfl, by simp (disch := omega) only [go_sem, e1, ec, ek, hx, hy], by simp (disch := omega) only [go_sem, e1, ec, ek, hx, hy], by simp (disch := omega) only [go_sem, e1, ec, ek, hx, hy] <;> rfl, fun j hj => ?_⟩
    by_cases q : j = k
    · rw [q]; unfold logOk; rw [show isVar (gtI m (9 + 2 * k)) = _ from hx, hy]; rfl
    · exact hall j (by omega)
  · simp (disch := omega) only [go_sem, e1, ec, ek, hx, hy]
    rw [key, log_some (k := k) (by omega) (by unfold logOk; rw [hy, Bool.and_false])]
end Go.Av

namespace Go.Av
open Go.Proofs Go.RowKit
set_option linter.unusedVariables false
set_option linter.unusedSimpArgs false
set_option maxRecDepth 100000
set_option maxHeartbeats 4000000
theorem nodup_len : ∀ (l m : List Int), l.Nodup → (∀ x ∈ l, x ∈ m) → l.length ≤ m.length
  | [], m, _, _ => Nat.zero_le _
  | x :: l, m, hn, hs => by
    have n' := List.nodup_cons.1 hn
    have ih := nodup_len l (m.erase x) n'.2 fun y hy => (List.mem_erase_of_ne (fun (e : y = x) => n'.1 (by rw [← e]; exact hy))).2 (hs y (by simp [hy]))
    have hx := hs x (by simp)
    have := List.length_erase_of_mem hx
    have := List.length_pos_of_mem hx
    simp only [List.length_cons]
    omega
def sumC (ms : List Micro) : Int := (ms.map Micro.cost).sum
theorem sumC_app (a b : List Micro) : sumC (a ++ b) = sumC a + sumC b := by simp [sumC]
theorem sumC_cons (m : Micro) (b : List Micro) : sumC (m :: b) = m.cost + sumC b := by simp [sumC]
theorem sumC_nil : sumC [] = 0 := rfl
def LogIn (must : List Int) (σ : TS) : Prop := σ.logged.Nodup ∧ ∀ k ∈ σ.logged, k ∈ must
def pot (σ : TS) : Int := sumC σ.steps - 9 * σ.logged.length
theorem assign_pot {must : List Int} {task tail k v : Int} {σ : TS} (h : LogIn must σ) : LogIn must (assignT must task tail k v σ) ∧ pot (assignT must task tail k v σ) = pot σ + 3 := by
  unfold assignT logA
  by_cases q : k ∈ must ∧ k ∉ σ.logged
  · rw [if_pos q]
    refine ⟨⟨?_, fun j hj => ?_⟩, ?_⟩
    · rw [List.nodup_append]
      refine ⟨h.1, by simp, fun a ha b hb e => ?_⟩
      rw [List.mem_singleton.1 hb] at e
      exact q.2 (e ▸ ha)
    · rcases List.mem_append.1 hj with w | w
      · exact h.2 j w
      · rw [List.mem_singleton.1 w]; exact q.1
    · simp only [pot, sumC_app, sumC_cons, sumC_nil, List.length_append, List.length_cons, List.length_nil]
      push_cast
      omega
  · rw [if_neg q]
    refine ⟨h, ?_⟩
    simp only [pot, sumC_app, sumC_cons, sumC_nil]
    omega
theorem add_pot (σ : TS) (ms : List Micro) : pot (σ.add ms) = pot σ + sumC ms := by simp only [pot, TS.add, sumC_app]; omega
theorem step_pot {must : List Int} {task tail : Int} {rd : List Int} {at_ : Int} {s : Stmt} {σ : TS} (h : LogIn must σ) : LogIn must (stepT must task tail rd at_ s σ) ∧ pot (stepT must task tail rd at_ s σ) ≤ pot σ + costK s.kind + (if s.kind = 1 ∨ s.kind = 2 ∨ s.kind = 3 then 3 else 0) := by
  have h0 : LogIn must (σ.add [⟨costK s.kind, -1, 0⟩]) := h
  have p0 : pot (σ.add [⟨costK s.kind, -1, 0⟩]) = pot σ + costK s.kind := by rw [add_pot, sumC_cons, sumC_nil]; simp
  unfold stepT
  split
  · rename_i h1
    have := assign_pot (task := task) (tail := tail) (k := s.var) (v := evalE σ.vars s.e) h0
    rw [if_pos (.inl h1)]
    exact ⟨this.1, by rw [this.2]; omega⟩
  split
  · rename_i h2
    have := assign_pot (must := must) (task := task) (tail := tail) (k := s.var) (v := readM rd s.n (at_ + σ.used.length)) (σ := { σ.add [⟨costK s.kind, -1, 0⟩] with used := σ.used ++ [readM rd s.n (at_ + σ.used.length)] }) h0
    rw [if_pos (.inr (.inl h2))]
    refine ⟨this.1, ?_⟩
    rw [this.2]
    show pot (σ.add [⟨costK s.kind, -1, 0⟩]) + 3 ≤ _
    omega
  split
  · rename_i h3
    rw [if_pos (.inr (.inr h3))]
    unfold sendT
    split
    · refine ⟨h0, ?_⟩
      show pot ((σ.add [⟨costK s.kind, -1, 0⟩]).add _) ≤ _
      rw [add_pot, sumC_cons, sumC_nil, p0]
      simp only
      omega
    · refine ⟨h0, ?_⟩
      show pot (σ.add [⟨costK s.kind, -1, 0⟩]) ≤ _
      omega
  · refine ⟨h0, ?_⟩
    rw [if_neg (by omega)]
    omega
theorem it_pot {must : List Int} {f : TS → TS} {B : Int} (hB : 0 ≤ B) (hf : ∀ σ, LogIn must σ → LogIn must (f σ) ∧ pot (f σ) ≤ pot σ + B) : ∀ (n : Nat) (σ : TS), LogIn must σ → LogIn must (itN f n σ) ∧ pot (itN f n σ) ≤ pot σ + n * B
  | 0, σ, h => ⟨h, by simp [itN]⟩
  | n + 1, σ, h => by
    have h1 := hf σ h
    have h2 := it_pot hB hf n (f σ) h1.1
    refine ⟨h2.1, ?_⟩
    have e : ((n + 1 : Nat) : Int) * B = n * B + B := by push_cast; rw [Int.add_mul, Int.one_mul]
    rw [e]
    show pot (itN f n (f σ)) ≤ _
    omega
theorem run_pot {must : List Int} {task tail : Int} {rd : List Int} {at_ : Int} : ∀ (t : Tr) (σ : TS), t.ok = true → LogIn must σ → LogIn must (runG (stepT must task tail rd at_) holdT t σ) ∧ pot (runG (stepT must task tail rd at_) holdT t σ) ≤ pot σ + boundT t
  | .nil, σ, _, h => ⟨h, by simp [runG, boundT]⟩
  | .one s r, σ, ht, h => by
    obtain ⟨hs, hk, hr⟩ := Tr.one_ok ht
    have h1 := step_pot (task := task) (tail := tail) (rd := rd) (at_ := at_) (s := s) h
    rw [if_pos (by omega)] at h1
    have h2 := run_pot (task := task) (tail := tail) (rd := rd) (at_ := at_) r _ hr h1.1
    simp only [runG, boundT]
    exact ⟨h2.1, by omega⟩
  | .grp s a r, σ, ht, h => by
    obtain ⟨hs, hk, ha, hr⟩ := Tr.grp_ok ht
    have h1 := step_pot (task := task) (tail := tail) (rd := rd) (at_ := at_) (s := s) h
    rw [if_neg (by omega)] at h1
    have hb := (boundT_bd a ha).1
    have h2 := it_pot (must := must) hb (fun σ hσ => run_pot (task := task) (tail := tail) (rd := rd) (at_ := at_) a σ ha hσ) (rounds s (holdT s σ)) _ h1.1
    have h3 := run_pot (task := task) (tail := tail) (rd := rd) (at_ := at_) r _ hr h2.1
    have hrt : ((rounds s (holdT s σ) : Nat) : Int) ≤ timesS s := by
      have q := rounds_le (b := holdT s σ) hs hk
      rcases hk with h4 | h5
      · rw [q.2.2 h4, timesS, if_neg (by omega)]
        unfold bitI; split <;> omega
      · rw [q.2.1 h5, timesS, if_pos h5]; exact Int.le_refl _
    have hmul := Int.mul_le_mul_of_nonneg_right hrt hb
    simp only [runG, boundT]
    exact ⟨h3.1, by show pot (runG (stepT must task tail rd at_) holdT r (itN (runG (stepT must task tail rd at_) holdT a) (rounds s (holdT s σ)) (stepT must task tail rd at_ s σ))) ≤ _; omega⟩
theorem trace_cost {ts : List Task} {m rd : List Int} {at_ task tail : Int} (htk : taskOk (taskAt ts task) = true) : sumC (traceS ts m rd at_ task tail) ≤ taskB (taskAt ts task) := by
  have hte := task_facts htk
  have htr := treeOf_ok hte.1
  have h0 : LogIn (mustOf (taskAt ts task)) ⟨m.take 8, [], [], [], []⟩ := ⟨.nil, by simp⟩
  have h1 := run_pot (task := task) (tail := tail) (rd := rd) (at_ := at_) (treeOf (taskAt ts task).body) _ htr.1 h0
  have h2 := nodup_len _ _ h1.1.1 h1.1.2
  have p0 : pot ⟨m.take 8, [], [], [], []⟩ = 0 := rfl
  rw [p0] at h1
  have hT : taskB (taskAt ts task) = boundT (treeOf (taskAt ts task).body) + 9 * ((mustOf (taskAt ts task)).length : Int) + 1 + 3 := by rw [taskB, if_pos htk]; rfl
  rw [hT, traceS, traceEnd, sumC_app, sumC_cons, sumC_cons, sumC_nil]
  have h3 := h1.2
  simp only [pot] at h3
  simp only
  show sumC (runG (stepT (mustOf (taskAt ts task)) task tail rd at_) holdT (treeOf (taskAt ts task).body) ⟨m.take 8, [], [], [], []⟩).steps + _ ≤ _
  have h4 : ((runG (stepT (mustOf (taskAt ts task)) task tail rd at_) holdT (treeOf (taskAt ts task).body) ⟨m.take 8, [], [], [], []⟩).logged.length : Int) ≤ (mustOf (taskAt ts task)).length := by exact_mod_cast h2
  omega
theorem step_cost {must : List Int} {task tail : Int} {rd : List Int} {at_ : Int} {s : Stmt} {σ : TS} (hk : 1 ≤ costK s.kind) (h : ∀ x ∈ σ.steps, 1 ≤ x.cost) : ∀ x ∈ (stepT must task tail rd at_ s σ).steps, 1 ≤ x.cost := by
  have h0 : ∀ x ∈ (σ.add [⟨costK s.kind, -1, 0⟩]).steps, 1 ≤ x.cost := fun x hx => by
    rcases List.mem_append.1 hx with q | q
    · exact h x q
    · rw [List.mem_singleton.1 q]; exact hk
  have ha : ∀ (k v : Int) (σ : TS), (∀ x ∈ σ.steps, 1 ≤ x.cost) → ∀ x ∈ (assignT must task tail k v σ).steps, 1 ≤ x.cost := fun k v σ h x hx => by
    unfold assignT logA at hx
    split at hx
    · simp only [List.mem_append, List.mem_cons, List.not_mem_nil, or_false] at hx
      rcases hx with (hx | rfl | rfl | rfl) | rfl
      · exact h x hx
      all_goals simp
    · simp only [List.mem_append, List.mem_cons, List.not_mem_nil, or_false] at hx
      rcases hx with hx | rfl
      · exact h x hx
      · simp
  unfold stepT
  split
  · exact ha _ _ _ h0
  split
  · exact ha _ _ _ h0
  split
  · unfold sendT
    split
    · intro x hx
      simp only [TS.add, List.mem_append, List.mem_cons, List.not_mem_nil, or_false] at hx
      rcases hx with (hx | rfl) | rfl
      · exact h x hx
      · exact hk
      · simp
    · exact h0
  · exact h0
theorem it_inv {α : Type} {p : α → Prop} {f : α → α} (hf : ∀ a, p a → p (f a)) : ∀ (n : Nat) (a : α), p a → p (itN f n a)
  | 0, a, h => h
  | n + 1, a, h => it_inv hf n (f a) (hf a h)
theorem run_inv {σ : Type} {p : σ → Prop} {stp : Stmt → σ → σ} {hold : Stmt → σ → Bool} (hs : ∀ s a, stmtOk s = true → s.kind ≠ 6 → p a → p (stp s a)) : ∀ (t : Tr) (a : σ), t.ok = true → p a → p (runG stp hold t a)
  | .nil, a, _, h => h
  | .one s r, a, ht, h => by
    obtain ⟨h1, hk, hr⟩ := Tr.one_ok ht
    exact run_inv hs r _ hr (hs s a h1 (by omega) h)
  | .grp s b r, a, ht, h => by
    obtain ⟨h1, hk, hb, hr⟩ := Tr.grp_ok ht
    exact run_inv hs r _ hr (it_inv (fun a h => run_inv hs b a hb h) _ _ (hs s a h1 (by omega) h))
theorem costK_pos {s : Stmt} (h : stmtOk s = true) (h6 : s.kind ≠ 6) : 1 ≤ costK s.kind := by
  have := stmt_kinds h
  unfold costK
  repeat' split
  all_goals omega
theorem len_le_sum : ∀ (ms : List Micro), (∀ x ∈ ms, 1 ≤ x.cost) → (ms.length : Int) ≤ sumC ms
  | [], _ => Int.le_refl _
  | x :: xs, h => by
    rw [sumC_cons]
    have := h x (by simp)
    have := len_le_sum xs fun y hy => h y (by simp [hy])
    simp only [List.length_cons]
    push_cast
    omega
theorem trace_pos {ts : List Task} {m rd : List Int} {at_ task tail : Int} (htk : taskOk (taskAt ts task) = true) : ∀ x ∈ traceS ts m rd at_ task tail, 1 ≤ x.cost := by
  intro x hx
  rcases List.mem_append.1 hx with q | q
  · exact run_inv (p := fun σ : TS => ∀ x ∈ σ.steps, 1 ≤ x.cost) (fun s a hs h6 h => step_cost (costK_pos hs h6) h) (treeOf (taskAt ts task).body) ⟨m.take 8, [], [], [], []⟩ (treeOf_ok (task_facts htk).1).1 (by simp) x q
  · simp only [traceEnd, List.mem_cons, List.not_mem_nil, or_false] at q
    rcases q with rfl | rfl <;> simp
end Go.Av

namespace Go.Av
open Go.Proofs Go.RowKit
set_option linter.unusedVariables false
set_option linter.unusedSimpArgs false
set_option maxRecDepth 100000
set_option maxHeartbeats 4000000
theorem clean_c (m : List Int) (hm : m.length = 49) : CP Tryz.prog 90 [.lst 1 (m.map encI)] (.bool (decide ((unpackM (gtI m 8)).2.1 = 0))) [] := by
  have hg8 : m[8]? = some (gtI m 8) := gtI_some (by omega)
  refine CP.by rfl mixed (cfn_ok Tryz.func90 ok90) rfl ?_
  simp (disch := omega) only [s90, go_sem, hg8, List.getElem?_map, encI, gtI_get]
  refine CP.go (unpack_c _) rfl rfl ?_
  simp (disch := omega) only [go_sem, encU]
theorem isReading_c (rd : List Int) (a : Int) (hr : rd.length ≤ 9223372036854775807) : CP Tryz.prog 91 [.lst 1 (rd.map encI), .int .i64 a] (.bool (within a 0 1000000 && vals rd)) [] := by
  refine CP.by rfl mixed (cfn_ok Tryz.func91 ok91) rfl ?_
  simp (disch := omega) only [s91, go_sem]
  refine CP.go (within_c _ _ _) rfl rfl ?_
  simp (disch := omega) only [go_sem]
  refine condP_split (fun h => ?_) (fun h => ?_)
  · simp (disch := omega) only [go_sem, h]
    refine CP.go (values_c rd hr) rfl (refs_int1 _ _) ?_
    simp (disch := omega) only [go_sem, h, Bool.true_and]
  · simp (disch := omega) only [go_sem, h, Bool.false_and]
theorem memOk_facts {ts : List Task} {m : List Int} (h : memOkM ts m = true) : programOk ts = true ∧ m.length = 49 ∧ vals (m.take 8) = true ∧ (0 ≤ (unpackM (gtI m 8)).1 ∧ (unpackM (gtI m 8)).1 < ts.length) ∧ vals ((m.take (25 + (unpackM (gtI m 8)).2.2).toNat).drop 25) = true ∧ ∀ j, j < (unpackM (gtI m 8)).2.1.toNat → logOk m j = true := by
  simp only [memOkM, Bool.and_eq_true, decide_eq_true_eq] at h
  refine ⟨h.1.1.1.1.1, h.1.1.1.1.2, h.1.1.1.2, h.1.1.2, h.1.2, fun j hj => List.all_eq_true.1 h.2 j (List.mem_range.2 hj)⟩
theorem memOk_T {ts : List Task} {m : List Int} (h : memOkM ts m = true) : MemT ts.length m (unpackM (gtI m 8)).1 (unpackM (gtI m 8)).2.1 (unpackM (gtI m 8)).2.2 := by
  have f := memOk_facts h
  have b := unpackM_bd (gtI m 8)
  exact ⟨f.2.1, fun z hz => vals_iff.1 f.2.2.1 z hz, f.2.2.2.1.1, f.2.2.2.1.2, by omega, by omega, rfl⟩
theorem traceOfT_f (ts : List Task) (m rd : List Int) (at_ task tail : Int) (hm : memOkM ts m = true) (hu : unpackM (gtI m 8) = (task, 0, tail)) (hr : rd.length ≤ 9223372036854775807) (hv : vals rd = true) (ha : 0 ≤ at_ ∧ at_ ≤ 1000000) :
    F Tryz.prog 31 [.agg [.lst 4 (ts.map encTask)], .lst 1 (m.map encI), .lst 1 (rd.map encI), .int .i64 at_] (.tup [.agg [.lst 3 ((traceS ts m rd at_ task tail).map encMicro), .lst 1 ((traceU ts m rd at_ task tail).map encI)], .bool true]) := by
  have f := memOk_facts hm
  have pf := prog_facts f.1
  have hT := memOk_T hm
  rw [hu] at hT
  have hw : within at_ 0 1000000 = true := by simp [within]; omega
  refine C.by mixed (cfn_ok Tryz.func31 ok31) rfl ?_
  simp (disch := omega) only [s31, go_sem]
  refine CP.go (memOk_c ts m (by omega) (fun t ht => by have := (pf.2 t ht).2; omega) (by omega)) rfl (by simp [V.refsL, V.refs, refsLL_map encTask (refs_task 0) ts, refsLL_map encI (fun _ => rfl) m]) ?_
  simp (disch := omega) only [go_sem, hm]
  refine CP.go (clean_c m f.2.1) rfl (refs_int1 _ _) ?_
  simp (disch := omega) only [go_sem, hm, hu]
  refine CP.go (isReading_c rd at_ hr) rfl (refs_ints _ _ _ rfl) ?_
  simp (disch := omega) only [go_sem, hw, hv, Bool.and_self]
  refine F.go (traceOf_f ts m rd at_ task 0 tail f.1 hT hr ha) (.same (by simp [V.refsL, V.refs, refsLL_map encTask (refs_task 0) ts, refsLL_map encI (fun _ => rfl) m, refsLL_map encI (fun _ => rfl) rd])) fun r h1 ids x1 n1 g1 o1 => ?_
  obtain ⟨cs, rfl, p1⟩ := Owns.aggR.1 o1
  obtain ⟨c0, cs', i0, j0, rfl, rfl, q0, p2⟩ := OwnsL.cons_.1 p1
  obtain ⟨c1, cs'', i1, j1, rfl, rfl, q1, p3⟩ := OwnsL.cons_.1 p2
  obtain ⟨rfl, rfl⟩ := OwnsL.nil_.1 p3
  have z0 := q0.vv
  have z1 := q1.vv
  have b1 := x1.get (i := 1) rfl
  have c1' : ∀ d, (h1.set 1 d)[1]? = some d := fun d => heap_set _ b1
  have b0 := x1.get (i := 0) rfl
  simp (disch := omega) only [go_sem, z0.1, z0.2.1, z0.2.2, z1.1, z1.2.1, z1.2.2, b1, c1', storeH, storeB, splice]
  have n2 : 1 ∉ i0 ++ (i1 ++ []) := fun hm => absurd (g1 1 hm) (by simp)
  have A := OwnsL.o (Owns.a (OwnsL.o (q0.set [[c0, c1]] (j := 1) fun w => n2 (by simp [w])) (OwnsL.o (q1.set [[c0, c1]] (j := 1) fun w => n2 (by simp [w])) OwnsL.e))) (OwnsL.b (b := true) OwnsL.e)
  rw [List.append_nil] at A
  exact ⟨_, n1, OwnsR.tup.2 ⟨_, rfl, A⟩⟩
theorem sumC_take {ms : List Micro} {k : Nat} (h : k < ms.length) : sumC (ms.take (k + 1)) = sumC (ms.take k) + ms[k].cost := by
  rw [List.take_succ_eq_append_getElem h, sumC_app, sumC_cons, sumC_nil]; omega
theorem sumC_nn : ∀ (ms : List Micro), (∀ x ∈ ms, 0 ≤ x.cost) → 0 ≤ sumC ms
  | [], _ => Int.le_refl _
  | x :: xs, h => by
    rw [sumC_cons]
    have := h x (by simp)
    have := sumC_nn xs fun y hy => h y (by simp [hy])
    omega
theorem sumC_le {ms : List Micro} (h : ∀ x ∈ ms, 0 ≤ x.cost) (k : Nat) : 0 ≤ sumC (ms.take k) ∧ sumC (ms.take k) ≤ sumC ms := by
  have h1 := sumC_nn (ms.take k) fun x hx => h x (List.mem_of_mem_take hx)
  have h2 := sumC_nn (ms.drop k) fun x hx => h x (List.mem_of_mem_drop hx)
  have h3 := sumC_app (ms.take k) (ms.drop k)
  rw [List.take_append_drop] at h3
  omega
theorem traceCost_c (ms : List Micro) (us : List Int) (hn : ∀ x ∈ ms, 0 ≤ x.cost) (hs : sumC ms ≤ 9223372036854775807) (hl : ms.length ≤ 9223372036854775807) : CP Tryz.prog 33 [.agg [.lst 3 (ms.map encMicro), .lst 1 (us.map encI)]] (.int .i64 (sumC ms)) [] := by
  refine CP.by rfl mixed (cfn_ok Tryz.func33 ok33) rfl ?_
  simp (disch := omega) only [s33, go_sem]
  refine loopP_intro (fun m s => ∃ k : Nat, k ≤ ms.length ∧ m = ms.length - k ∧ s.e 3 = .int .i64 (sumC (ms.take k)) ∧ s.e 7 = .lst 3 (ms.map encMicro) ∧ s.e 8 = .int .i64 ms.length ∧ s.e 9 = .int .i64 k) ms.length ⟨0, by omega, by omega, by simp (disch := omega) only [go_sem] <;> rfl, by simp (disch := omega) only [go_sem], by simp (disch := omega) only [go_sem], by simp (disch := omega) only [go_sem] <;> rfl⟩ ?_
  rintro m e hp ⟨k, hk, rfl, e3, e7, e8, e9⟩
  simp only at e3 e7 e8 e9
  simp (disch := omega) only [go_sem, e3, e7, e8, e9, encMicro]
  refine condP_dec (fun hlt => ?_) (fun hlt => ?_)
  · have hlt' : k < ms.length := by omega
    have h1 := sumC_take hlt'
    have h2 := sumC_le hn (k + 1)
    have h3 := sumC_le hn k
    have hw : IntKind.wrap .i64 (sumC (ms.take k) + ms[k].cost) = sumC (ms.take (k + 1)) := by rw [← h1]; exact wrap64 (by omega) (by omega)
    simp (disch := omega) only [go_sem, e3, e7, e8, e9, encMicro, hw]
    exact nextP_intro (ms.length - (k + 1)) (by omega) ⟨k + 1, by omega, rfl, by simp (disch := omega) only [go_sem, e3, e7, e8, e9, encMicro, hw], by simp (disch := omega) only [go_sem, e3, e7, e8, e9, encMicro, hw], by simp (disch := omega) only [go_sem, e3, e7, e8, e9, encMicro, hw], by simp (disch := omega) only [go_sem, e3, e7, e8, e9, encMicro, hw] <;> rfl⟩
  · simp (disch := omega) only [go_sem, e3, e7, e8, e9]
    have : k = ms.length := by omega
    rw [this, List.take_length]
theorem blockB_c (tk : Task) (hb : tk.body.length ≤ 1048576) : CP Tryz.prog 36 [.agg (encTask tk)] (.int .i64 (blockB tk)) [] := by
  refine CP.by rfl mixed (cfn_ok Tryz.func36 ok36) rfl ?_
  simp (disch := omega) only [s36, go_sem, encTask]
  refine CP.go (taskOk_c tk (by omega)) rfl (refs_task1 _ tk) ?_
  simp (disch := omega) only [go_sem, encTask]
  refine condP_split (fun hk => ?_) (fun hk => ?_)
  case' refine_2 =>
    simp (disch := omega) only [go_sem, encTask]
    rw [blockB, if_neg (by simp [hk])]
  obtain ⟨h1, h2⟩ := task_facts hk
  obtain ⟨t1, t2, t3⟩ := treeOf_ok h1
  simp (disch := omega) only [go_sem, encTask]
  refine CP.go (bound_c (treeOf tk.body) t1 tk.body t2 t3) rfl (refs_arg _ _) ?_
  simp (disch := omega) only [go_sem, encTask]
  rw [blockB, if_pos hk]
end Go.Av

namespace Go.Av
open Go.Proofs Go.RowKit
set_option linter.unusedVariables false
set_option linter.unusedSimpArgs false
set_option maxRecDepth 100000
set_option maxHeartbeats 8000000
theorem gtI_of {m : List Int} {k : Nat} {z : Int} (h : m[k]? = some z) : gtI m k = z := by simp [gtI, h]
theorem memD_ok {ts : List Task} {m : List Int} {t b : Int} (hD : DrawnP ts) (h : MemD ts.length m t 0 b) : memOkM ts m = true ∧ unpackM (gtI m 8) = (t, 0, b) := by
  have hl := hD.1
  have ht1 := h.t1
  have hu : unpackM (gtI m 8) = (t, 0, b) := by
    rw [gtI_of h.ctl]
    exact unpack_pack ⟨h.t0, by omega⟩ ⟨by omega, by omega⟩ ⟨h.l0, h.l1⟩
  refine ⟨?_, hu⟩
  have va : ∀ l : List Int, (∀ z ∈ l, z ∈ m) → vals l = true := fun l hl => vals_iff.2 fun z hz => by
    have := h.val z (hl z hz)
    simp [isValue, within]; omega
  simp only [memOkM, hu, hD.ok, h.len, Bool.and_eq_true, decide_eq_true_eq, Bool.true_and]
  refine ⟨⟨⟨⟨trivial, va _ fun z hz => List.mem_of_mem_take hz⟩, h.t0, h.t1⟩, va _ fun z hz => List.mem_of_mem_take (List.mem_of_mem_drop hz)⟩, rfl⟩
theorem drawMem_d {h : Heap} {L : List It} {bs : List Int} (S : Sep h L) (hb : bs.length ≤ 1048576) : C Tryz.prog 30 [.lst 1 (bs.map encB)] h (fun r h' => ∃ (ts : List Task) (v : V) (m : List Int) (l : Nat) (t b : Int), r = .tup [.agg [v], .own l 1 0 49 49] ∧ DrawnP ts ∧ MemD ts.length m t 0 b ∧ Sep h' (.v (.lst 4 (ts.map encTask)) v :: .k l (m.map encI) :: L)) := by
  refine C.by mixed (cfn_ok Tryz.func30 ok30) rfl ?_
  simp (disch := omega) only [s30, go_sem]
  have S0 := S.newK [[V.nils]]
  refine S0.goNew hb fun h1 S1 => ?_
  simp only [List.length_append, List.length_cons, List.length_nil, Nat.zero_add] at S1
  simp (disch := omega) only [go_sem]
  refine C.go (program_d S1) ?_
  rintro r h2 ⟨ts, v, rfl, hl, hok, S2⟩
  have hD : DrawnP ts := ⟨hl, hok⟩
  have zv := S2.vv 0 rfl
  simp (disch := omega) only [go_sem, zv.1, zv.2.1, zv.2.2, storeH, storeB, splice]
  refine C.go (mem_d ⟨hl.1, by omega⟩ ((S2.newK [[v]]).pk (A := [_, _, _]) [1, 2, 0] rfl)) ?_
  rintro r h3 ⟨m, l, t, c, b, rfl, hm, S3⟩
  have K3 := S3.blk 0 rfl
  have g8 := hm.ctl
  simp (disch := omega) only [go_sem, zv.1, zv.2.1, zv.2.2, storeH, storeB, splice, K3, g8, hm.len, List.getElem?_map, encI]
  refine CP.go (unpack_s _) rfl rfl ?_
  have hu := unpack_pack (t := t) (c := c) (l := b) ⟨hm.t0, by have := hm.t1; have := hl.2; omega⟩ ⟨hm.c0, hm.c1⟩ ⟨hm.l0, hm.l1⟩
  simp (disch := omega) only [go_sem, zv.1, zv.2.1, zv.2.2, encU, hu]
  refine CP.go (pack_s _ _ _) rfl rfl ?_
  have st := store_i (z := packM t 0 b) (i := 8) (S3.blk 0 rfl) hm.len (by omega)
  have S4 := S3.setK ((m.set 8 (packM t 0 b)).map encI)
  have hm4 : MemD ts.length (m.set 8 (packM t 0 b)) t 0 b := ⟨by simpa using hm.len, set_all hm.val (by have := packM_bd t 0 b; omega), hm.t0, hm.t1, by omega, by omega, hm.l0, hm.l1, by rw [List.getElem?_set_self (by rw [hm.len]; omega)]⟩
  have K4 := S4.blk 3 rfl
  have Z4 := S4.blk 4 rfl
  have c4 : ∀ d, ((h3.set l ((m.set 8 (packM t 0 b)).map encI)).set h.length d)[h.length]? = some d := fun d => heap_set _ Z4
  simp (disch := omega) only [go_sem, zv.1, zv.2.1, zv.2.2, st, K4]
  simp (disch := omega) only [go_sem, zv.1, zv.2.1, zv.2.2, Z4, c4, storeH, storeB, splice]
  exact ⟨ts, v, m.set 8 (packM t 0 b), l, t, b, rfl, hD, hm4, ((S4.pull 4).setK [[v]]).pk (A := [_, _, _, _, _]) [2, 1] rfl⟩
theorem drawReadings_d {h : Heap} {L : List It} {bs : List Int} (S : Sep h L) (hb : bs.length ≤ 1048576) : C Tryz.prog 15 [.lst 1 (bs.map encB)] h (fun r h' => ∃ (zs : List Int) (l : Nat), r = .own l 1 0 zs.length zs.length ∧ (1 ≤ zs.length ∧ zs.length ≤ 9) ∧ vals zs = true ∧ Sep h' (.k l (zs.map encI) :: L)) := by
  refine C.by mixed (cfn_ok Tryz.func15 ok15) rfl ?_
  simp (disch := omega) only [s15, go_sem]
  refine S.goNew hb fun h1 S1 => ?_
  simp (disch := omega) only [go_sem]
  refine C.go (readings_d S1) ?_
  rintro r h2 ⟨zs, l, rfl, hl, hz, S2⟩
  simp (disch := omega) only [go_sem]
  exact ⟨zs, l, rfl, hl, vals_iff.2 fun z hz' => by have := hz z hz'; simp [isValue, within]; omega, S2.drop 1⟩
theorem Sep.open2 {h : Heap} {sa sb : Nat} {ya yb : Blk} {r : V} {L : List It} (S : Sep h (.v (.agg [.lst sa ya, .lst sb yb]) r :: L)) : ∃ va vb, r = .agg [va, vb] ∧ Sep h (.v (.lst sa ya) va :: .v (.lst sb yb) vb :: L) := by
  obtain ⟨_, rfl, S1⟩ := sep_agg.1 S
  obtain ⟨va, _, rfl, S2⟩ := sep_ll.1 S1
  obtain ⟨vb, _, rfl, S3⟩ := sep_ll.1 S2
  obtain ⟨rfl, S4⟩ := sep_l0.1 S3
  exact ⟨va, vb, rfl, Sep.sw ((Sep.rot S4).perm (.cons _ List.perm_append_comm))⟩
theorem Sep.openT {h : Heap} {sa sb : Nat} {ya yb : Blk} {b : Bool} {r : V} {L : List It} (S : Sep h (.v (.tup [.agg [.lst sa ya, .lst sb yb], .bool b]) r :: L)) : ∃ va vb, r = .tup [.agg [va, vb], .bool b] ∧ Sep h (.v (.lst sa ya) va :: .v (.lst sb yb) vb :: L) := by
  obtain ⟨_, rfl, S1⟩ := sep_tup.1 S
  obtain ⟨c, _, rfl, S2⟩ := sep_la.1 S1
  obtain ⟨_, rfl, S3⟩ := sep_lb.1 (S2.perm (.swap _ _ _))
  obtain ⟨rfl, S4⟩ := sep_l0.1 S3
  obtain ⟨va, vb, e, S5⟩ := S4.a.open2
  injection e with e
  subst e
  exact ⟨va, vb, rfl, S5⟩
theorem bounds_law (bs : List Int) (hb : bs.length ≤ 9223372036854775807) : CP Tryz.prog 5 [.lst 1 (bs.map encB)] (.bool true) [] := by
  refine CP.by rfl mixed (cfn_ok Tryz.func5 ok5) rfl ?_
  simp (disch := omega) only [s5, go_sem]
  refine CP.go (big_c bs hb) rfl (refs_bytes _ _) ?_
  simp (disch := omega) only [go_sem]
  refine condP_dec (fun hbig => ?_) (fun hbig => ?_)
  · simp (disch := omega) only [go_sem]
  simp (disch := omega) only [go_sem]
  refine C.go (drawMem_d (Sep.nil _) (by omega)) ?_
  intro r h1 P
  refine Exists.elim P fun ts P => Exists.elim P fun v P => Exists.elim P fun m P => Exists.elim P fun l P => Exists.elim P fun t P => Exists.elim P fun b P => ?_
  have hr := P.1
  have hD := P.2.1
  have hm := P.2.2.1
  have S1 := P.2.2.2
  clear P
  subst hr
  have zv := S1.vv 0 rfl
  have hok := memD_ok hD hm
  have hu := hok.2
  have S2 := S1.newK [[v]]
  have A2 := S2.blk 0 rfl
  simp (disch := omega) only [go_sem, zv.1, zv.2.1, zv.2.2, storeH, storeB, splice]
  refine C.go (drawReadings_d S2 (by omega)) ?_
  rintro r h3 ⟨rd, l3, rfl, hl3, hv3, S3⟩
  have A3 := S3.blk 1 rfl
  simp (disch := omega) only [go_sem, zv.1, zv.2.1, zv.2.2, A3]
  refine S3.go (traceOfT_f ts m rd 0 t b hok.1 hu (by omega) hv3 (by omega)) (.cons (S3.progSnap 2 rfl) (.cons (Snap.flatN (S3.blk 3 rfl) (by simpa using hm.len) (flat_encI _)) (.cons (Snap.flatN (S3.blk 0 rfl) (by simp) (flat_encI _)) (.cons (.int _ _) (.nil _))))) fun r4 h4 x4 S4 => ?_
  refine Exists.elim S4.openT fun va q => Exists.elim q fun vb q => ?_
  have hr4 := q.1
  have S5 := q.2
  clear q S4
  subst hr4
  have za := S5.vv 0 rfl
  have zb := S5.vv 1 rfl
  have S6 := S5.newK [[va, vb]]
  have M6 := S6.blk 6 rfl
  have g8 := gtI_some (zs := m) (i := 8) (by rw [hm.len]; omega)
  have hml := hm.len
  simp (disch := omega) only [go_sem, zv.1, zv.2.1, zv.2.2, za.1, za.2.1, za.2.2, zb.1, zb.2.1, zb.2.2, storeH, storeB, splice, M6, g8, hml, List.getElem?_map, encI, gtI_get]
  refine CP.go (unpack_s _) rfl rfl ?_
  have htl : t.toNat < ts.length := by have := hm.t0; have := hm.t1; omega
  have ht0 := hm.t0
  have ht1 := hm.t1
  refine Exists.elim (S6.row 5 rfl (k := t.toNat) (d := encTask (taskAt ts t)) (by rw [List.getElem?_map, taskAt_some htl]; rfl)) fun tid q => Exists.elim q fun bb q => Exists.elim q fun c q => Exists.elim q fun i q => ?_
  have hv := q.1
  have hid := q.2.1
  have hbl := q.2.2.1
  have hc := q.2.2.2.1
  have oc := q.2.2.2.2
  clear q
  rw [List.length_map] at hv hbl
  refine Exists.elim oc.task fun vt q => ?_
  have hcc := q.1
  have oa := q.2
  clear q oc
  subst hcc
  have zt := oa.vv
  have A6 := S6.blk 4 rfl
  subst hv
  simp (disch := omega) only [go_sem, encU, hu, za.1, za.2.1, za.2.2, zb.1, zb.2.1, zb.2.2, zt.1, zt.2.1, zt.2.2, A6, hid, hbl, hc, Nat.zero_add]
  have hmem : taskAt ts t ∈ ts := by rw [← taskAt_eq htl]; exact List.getElem_mem _
  have htk := hD.2 _ hmem
  have hbt := hD.body _ hmem
  have hcost := trace_cost (m := m) (rd := rd) (at_ := 0) (tail := b) htk
  have hpos := trace_pos (ts := ts) (task := t) (m := m) (rd := rd) (at_ := 0) (tail := b) htk
  have hTb := taskB_bd (taskAt ts t)
  have hBb := bootB_bd (taskAt ts t)
  have hle1 : taskB (taskAt ts t) ≤ bootB (taskAt ts t) := by
    rw [bootB, if_pos htk]; unfold recCost; split <;> omega
  have hlt1 : blockB (taskAt ts t) < taskB (taskAt ts t) := by
    rw [blockB, if_pos htk, taskB, if_pos htk]; omega
  have hll := len_le_sum _ hpos
  have hsl : (traceS ts m rd 0 t b).length ≤ 9223372036854775807 := by omega
  refine CP.goS (traceCost_c (traceS ts m rd 0 t b) (traceU ts m rd 0 t b) (fun x hx => by have := hpos x hx; omega) (by omega) hsl) rfl rfl (.cons (Snap.ofSnaps (.cons ((S5.app _).snap 0 rfl) (.cons ((S5.app _).snap 1 rfl) (.nil _)))) (.nil _)) ?_
  have otk : ∀ c, Snap (h4 ++ [[[va, vb]], c]) (.agg [vt, .int .i64 (taskAt ts t).next.op, .int .i64 (taskAt ts t).next.a, .int .i64 (taskAt ts t).next.b]) (.agg (encTask (taskAt ts t))) := fun c => by
    have := (Snap.ofSnaps ((OwnsL.mkTask oa).snap)).ext [c]
    simpa only [List.append_assoc, List.cons_append, List.nil_append] using this
  simp (disch := omega) only [go_sem, encU, hu, za.1, za.2.1, za.2.2, zb.1, zb.2.1, zb.2.2, zt.1, zt.2.1, zt.2.2, A6, hid, hbl, hc, Nat.zero_add]
  refine CP.goS (taskB_c (taskAt ts t) hbt) rfl rfl (.cons (otk _) (.nil _)) ?_
  simp (disch := omega) only [go_sem, encU, hu, za.1, za.2.1, za.2.2, zb.1, zb.2.1, zb.2.2, zt.1, zt.2.1, zt.2.2, A6, hid, hbl, hc, Nat.zero_add]
  refine CP.goS (taskB_c (taskAt ts t) hbt) rfl rfl (.cons (otk _) (.nil _)) ?_
  simp (disch := omega) only [go_sem, encU, hu, za.1, za.2.1, za.2.2, zb.1, zb.2.1, zb.2.2, zt.1, zt.2.1, zt.2.2, A6, hid, hbl, hc, Nat.zero_add]
  refine CP.goS (bootB_c (taskAt ts t) hbt) rfl rfl (.cons (otk _) (.nil _)) ?_
  simp (disch := omega) only [go_sem, encU, hu, za.1, za.2.1, za.2.2, zb.1, zb.2.1, zb.2.2, zt.1, zt.2.1, zt.2.2, A6, hid, hbl, hc, Nat.zero_add]
  refine CP.goS (blockB_c (taskAt ts t) hbt) rfl rfl (.cons (otk _) (.nil _)) ?_
  simp (disch := omega) only [go_sem, encU, hu, za.1, za.2.1, za.2.2, zb.1, zb.2.1, zb.2.2, zt.1, zt.2.1, zt.2.2, A6, hid, hbl, hc, Nat.zero_add]
  refine CP.goS (taskB_c (taskAt ts t) hbt) rfl rfl (.cons (otk _) (.nil _)) ?_
  simp (disch := omega) only [go_sem, encU, hu, za.1, za.2.1, za.2.2, zb.1, zb.2.1, zb.2.2, zt.1, zt.2.1, zt.2.2, A6, hid, hbl, hc, Nat.zero_add]
  rw [decide_eq_true hlt1]
end Go.Av

