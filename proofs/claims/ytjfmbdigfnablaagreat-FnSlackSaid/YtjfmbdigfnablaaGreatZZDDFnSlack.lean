import Derived.Test.YtjfmbdigfnablaaGreatZZDCFnSlack
namespace Go.Av
open Go.Proofs Go.RowKit
set_option linter.unusedVariables false
set_option linter.unusedSimpArgs false
set_option maxRecDepth 100000
set_option maxHeartbeats 4000000
theorem store_d {h : Heap} {id : Nat} {ts : List Task} {v : V} {L : List It} (hl : ts.length ≤ 6) (hb : ∀ t ∈ ts, t.body.length ≤ 1048576) (S : Sep h (.v (.lst 4 (ts.map encTask)) v :: .c id :: L)) : C Tryz.prog 63 [.ptr id 1 0 0, .agg [v]] h (fun r h' => ∃ s : Store, r = .agg (encStore s) ∧ storeOk s = true ∧ Sep h' (.v (.lst 4 (ts.map encTask)) v :: .c id :: L)) := by
  have zv := S.vv 0 rfl
  have hnh : [V.ptr id 1 0 0, .agg [v]].all V.noHole = true := rfl
  refine C.by mixed (cfn_ok Tryz.func63 ok63) hnh ?_
  simp (disch := omega) only [s63, go_sem, zv.1, zv.2.1, zv.2.2]
  have S0 : Sep (h ++ [[[v]], [[.int .i64 0, .int .i64 0, .int .i64 0, .int .i64 0]]]) (.c id :: .v (.lst 4 (ts.map encTask)) v :: .k h.length [[v]] :: .k (h.length + 1) [[.int .i64 0, .int .i64 0, .int .i64 0, .int .i64 0]] :: L) := by
    have := ((S.newK [[v]]).newK [[.int .i64 0, .int .i64 0, .int .i64 0, .int .i64 0]])
    simp only [List.append_assoc, List.cons_append, List.nil_append, List.length_append, List.length_cons, List.length_nil, Nat.zero_add] at this
    exact this.pk (A := [_, _, _, _]) [3, 2, 1, 0] rfl
  refine loopP_intro (fun q s => ∃ (k : Nat) (n : Int), k ≤ ts.length ∧ q = ts.length - k ∧ 1 ≤ n ∧ n ≤ 2300000000200 ∧ s.e 0 = .ptr id 1 0 0 ∧ s.e 3 = .ptr h.length 1 0 0 ∧ s.e 4 = .ptr (h.length + 1) 1 0 0 ∧ s.e 5 = .int .i64 n ∧ s.e 6 = .int .i64 k ∧ Sep s.h (.c id :: .v (.lst 4 (ts.map encTask)) v :: .k h.length [[v]] :: .k (h.length + 1) [[.int .i64 0, .int .i64 0, .int .i64 0, .int .i64 0]] :: L)) ts.length ⟨0, 1, by omega, by omega, by omega, by omega, by simp (disch := omega) only [go_sem, zv.1, zv.2.1, zv.2.2], by simp (disch := omega) only [go_sem, zv.1, zv.2.1, zv.2.2], by simp (disch := omega) only [go_sem, zv.1, zv.2.1, zv.2.2], by simp (disch := omega) only [go_sem, zv.1, zv.2.1, zv.2.2], by simp (disch := omega) only [go_sem, zv.1, zv.2.1, zv.2.2] <;> rfl, S0⟩ ?_
  intro q e hp P
  refine Exists.elim P fun k P => Exists.elim P fun n P => ?_
  have hk := P.1
  have hq := P.2.1
  have hn1 := P.2.2.1
  have hn2 := P.2.2.2.1
  have e0 := P.2.2.2.2.1
  have e3 := P.2.2.2.2.2.1
  have e4 := P.2.2.2.2.2.2.1
  have e5 := P.2.2.2.2.2.2.2.1
  have e6 := P.2.2.2.2.2.2.2.2.1
  have S1 := P.2.2.2.2.2.2.2.2.2
  clear P
  subst hq
  simp only at e0 e3 e4 e5 e6 S1
  have lenv := fun G => (S1.lst 1 rfl).elim fun i o => o.len_ G
  simp only [List.length_map] at lenv
  have K1 := S1.blk 2 rfl
  simp (disch := omega) only [go_sem, e0, e3, e4, e5, e6, zv.1, zv.2.1, zv.2.2, K1, lenv]
  refine condP_dec (fun hlt => ?_) (fun hlt => ?_)
  · have hlt' : k < ts.length := by omega
    refine Exists.elim (S1.row 1 rfl (k := k) (d := encTask ts[k]) (by simp [hlt'])) fun tid q => Exists.elim q fun b q => Exists.elim q fun c q => Exists.elim q fun i q => ?_
    have hv := q.1
    have hid := q.2.1
    have hbl := q.2.2.1
    have hc := q.2.2.2.1
    have oc := q.2.2.2.2
    clear q
    rw [List.length_map] at hv hbl
    refine Exists.elim oc.task fun va q => ?_
    have hcc := q.1
    have oa := q.2
    clear q oc
    subst hcc
    have za := oa.vv
    simp (disch := omega) only [go_sem, e0, e3, e4, e5, e6, zv.1, zv.2.1, zv.2.2, K1, lenv, hv, hid, hbl, hc, za.1, za.2.1, za.2.2]
    refine CP.goS (bootB_s ts[k] (hb _ (List.getElem_mem hlt'))) rfl rfl (.cons (Snap.ofSnaps ((OwnsL.mkTask oa).snap)) (.nil _)) ?_
    have hbd := bootB_bd ts[k]
    simp (disch := omega) only [go_sem, e0, e3, e4, e5, e6]
    exact nextP_intro (ts.length - (k + 1)) (by omega) ⟨k + 1, max n (bootB ts[k]), by omega, rfl, by omega, by omega, by simp (disch := omega) only [go_sem, e0, e3, e4, e5, e6], by simp (disch := omega) only [go_sem, e0, e3, e4, e5, e6], by simp (disch := omega) only [go_sem, e0, e3, e4, e5, e6], by simp (disch := omega) only [go_sem, e0, e3, e4, e5, e6], by simp (disch := omega) only [go_sem, e0, e3, e4, e5, e6] <;> rfl, S1⟩
  simp (disch := omega) only [go_sem, e0, e3, e4, e5, e6]
  refine S1.goBelow (n := 20) (by omega) fun x h2 x0 x1 S2 => ?_
  simp (disch := omega) only [go_sem, e0, e3, e4, e5, e6]
  refine S2.goBelow (n := 50) (by omega) fun y h3 y0 y1 S3 => ?_
  simp (disch := omega) only [go_sem, e0, e3, e4, e5, e6]
  refine S3.goBelow (n := 3) (by omega) fun w h4 w0 w1 S4 => ?_
  have K4 := S4.blk 3 rfl
  have c4 : ∀ d, (h4.set (h.length + 1) d)[h.length + 1]? = some d := fun d => heap_set _ K4
  simp (disch := omega) only [go_sem, e0, e3, e4, e5, e6, storeH, storeB, splice, K4, c4]
  refine ⟨⟨0, min (min (n + x) 5000 + y) 5000, min (n + x) 5000, w⟩, rfl, ?_, ((S4.pull 3).setK _).pk (A := [_, _, _, _]) [2, 1] rfl⟩
  simp only [storeOk, within, Bool.and_eq_true, decide_eq_true_eq]
  omega
end Go.Av

namespace Go.Av
open Go.Proofs Go.RowKit
set_option linter.unusedVariables false
set_option linter.unusedSimpArgs false
set_option maxRecDepth 100000
set_option maxHeartbeats 4000000
theorem big_c (bs : List Int) (hb : bs.length ≤ 9223372036854775807) : CP Tryz.prog 13 [.lst 1 (bs.map encB)] (.bool (decide (1048576 < (bs.length : Int)))) [] := by
  refine CP.by rfl mixed (cfn_ok Tryz.func13 ok13) rfl ?_
  simp (disch := omega) only [s13, go_sem]
theorem refs_bytes (n : Nat) (bs : List Int) : V.refsL n [.lst 1 (bs.map encB)] = true := by simp [V.refsL, V.refs, refsLL_map encB (fun _ => rfl) bs]
theorem Sep.goNew {h : Heap} {L : List It} {K : V → Heap → Prop} {bs : List Int} (S : Sep h L) (hb : bs.length ≤ 1048576) (hk : ∀ h', Sep h' (.c h.length :: L) → K (.ptr h.length 1 0 0) h') : @callP Tryz.prog 59 [.lst 1 (bs.map encB)] h ⟨K⟩ := by
  refine C.go (new_c bs h hb) ?_
  rintro r h' ⟨rfl, e, c⟩
  exact hk h' (S.curNew e c)
theorem resV_four (s : St) (a b c d : SRes) : resV s [a, b, c, d] = (a.val s).bind fun u => (b.val s).bind fun v => (c.val s).bind fun x => (d.val s).map fun y => .tup [u, v, x, y] := by
  show ((a.val s).bind fun v => ((b.val s).bind fun v => ((c.val s).bind fun v => ((d.val s).bind fun v => some [v]).map (v :: ·)).map (v :: ·)).map (v :: ·)).map _ = _
  cases a.val s <;> cases b.val s <;> cases c.val s <;> cases d.val s <;> rfl
theorem Sep.newK2 {h : Heap} {L : List It} (S : Sep h L) (b c : Blk) : Sep (h ++ [b, c]) (.k (h.length + 1) c :: .k h.length b :: L) := by
  have := (S.newK b).newK c
  simp only [List.append_assoc, List.cons_append, List.nil_append, List.length_append, List.length_cons, List.length_nil, Nat.zero_add] at this
  exact this
theorem Sep.newK3 {h : Heap} {L : List It} (S : Sep h L) (b c d : Blk) : Sep (h ++ [b, c, d]) (.k (h.length + 2) d :: .k (h.length + 1) c :: .k h.length b :: L) := by
  have := (S.newK2 b c).newK d
  simp only [List.append_assoc, List.cons_append, List.nil_append, List.length_append, List.length_cons, List.length_nil, Nat.zero_add] at this
  exact this
def DrawnP (ts : List Task) : Prop := (1 ≤ ts.length ∧ ts.length ≤ 3) ∧ ∀ t ∈ ts, taskOk t = true
theorem DrawnP.body {ts : List Task} (h : DrawnP ts) : ∀ t ∈ ts, t.body.length ≤ 1048576 := fun t ht => by
  have := (treeOf_ok (task_facts (h.2 t ht)).1).2.2
  omega
theorem DrawnP.ok {ts : List Task} (h : DrawnP ts) : programOk ts = true := by
  simp only [programOk, within, Bool.and_eq_true, decide_eq_true_eq, List.all_eq_true]
  have := h.1
  exact ⟨by omega, h.2⟩
theorem drawCert_d {h : Heap} {L : List It} {bs : List Int} (S : Sep h L) (hb : bs.length ≤ 1048576) : C Tryz.prog 14 [.lst 1 (bs.map encB)] h (fun r h' => ∃ (ts : List Task) (v : V) (m : List Int) (l : Nat) (t b : Int) (s : Store) (hs : List Int) (k : Nat), r = .tup [.agg [v], .own l 1 0 49 49, .agg (encStore s), .own k 1 0 hs.length hs.length] ∧ DrawnP ts ∧ MemD ts.length m t 0 b ∧ storeOk s = true ∧ hs.length ≤ 11 ∧ (∀ z ∈ hs, 0 ≤ z ∧ z ≤ 400) ∧ Sep h' (.v (.lst 4 (ts.map encTask)) v :: .k l (m.map encI) :: .k k (hs.map encI) :: L)) := by
  refine C.by mixed (cfn_ok Tryz.func14 ok14) rfl ?_
  simp (disch := omega) only [s14, go_sem]
  have S0 : Sep (h ++ [[[V.nils]], [[.int .i64 0, .int .i64 0, .int .i64 0, .int .i64 0]]]) (.k (h.length + 1) [[.int .i64 0, .int .i64 0, .int .i64 0, .int .i64 0]] :: .k h.length [[.nils]] :: L) := by
    have := ((S.newK [[.nils]]).newK [[.int .i64 0, .int .i64 0, .int .i64 0, .int .i64 0]])
    simp only [List.append_assoc, List.cons_append, List.nil_append, List.length_append, List.length_cons, List.length_nil, Nat.zero_add] at this
    exact this
  refine S0.goNew hb fun h1 S1 => ?_
  simp only [List.length_append, List.length_cons, List.length_nil, Nat.zero_add] at S1
  simp (disch := omega) only [go_sem]
  refine C.go (program_d S1) ?_
  rintro r h2 ⟨ts, v, rfl, hl, hok, S2⟩
  have hD : DrawnP ts := ⟨hl, hok⟩
  have zv := S2.vv 0 rfl
  simp (disch := omega) only [go_sem, zv.1, zv.2.1, zv.2.2, storeH, storeB, splice]
  refine C.go (mem_d ⟨hl.1, by omega⟩ ((S2.newK [[v]]).pk (A := [_, _, _]) [1, 2, 0] rfl)) ?_
  rintro r h3 ⟨m, l, t, c, b, rfl, hm, S3⟩
  have K3 := S3.blk 0 rfl
  have g8 := hm.ctl
  simp (disch := omega) only [go_sem, zv.1, zv.2.1, zv.2.2, storeH, storeB, splice, K3, g8, hm.len, List.getElem?_map, encI]
  have hpb := packM_bd t c b
  refine CP.go (unpack_s _ (by omega)) rfl rfl ?_
  have hu := unpack_pack (t := t) (c := c) (l := b) ⟨hm.t0, by have := hm.t1; have := hl.2; omega⟩ ⟨hm.c0, hm.c1⟩ ⟨hm.l0, hm.l1⟩
  simp (disch := omega) only [go_sem, zv.1, zv.2.1, zv.2.2, encU, hu]
  refine CP.go (pack_s _ _ _) rfl rfl ?_
  have st := store_i (z := packM t 0 b) (i := 8) (S3.blk 0 rfl) hm.len (by omega)
  have S4 := S3.setK ((m.set 8 (packM t 0 b)).map encI)
  have hm4 : MemD ts.length (m.set 8 (packM t 0 b)) t 0 b := ⟨by simpa using hm.len, set_all hm.val (by have := packM_bd t 0 b; omega), hm.t0, hm.t1, by omega, by omega, hm.l0, hm.l1, by rw [List.getElem?_set_self (by rw [hm.len]; omega)]⟩
  have K4 := S4.blk 3 rfl
  simp (disch := omega) only [go_sem, zv.1, zv.2.1, zv.2.2, st, K4]
  refine C.go (store_d (by omega) hD.body (S4.pk (A := [_, _, _]) [1, 2, 0] rfl)) ?_
  rintro r h5 ⟨s, rfl, hs, S5⟩
  have S6 := S5.newK [encStore s]
  simp only [encStore] at S6
  have K6 := S6.blk 4 rfl
  have A6 := S6.blk 0 rfl
  simp (disch := omega) only [go_sem, zv.1, zv.2.1, zv.2.2, storeH, storeB, splice, K6, A6, encStore]
  refine C.go (harvest_d (S6.pull 2)) ?_
  rintro r h7 ⟨hs', k, rfl, hl', hh', S7⟩
  have K7 := S7.blk 2 rfl
  have A7 := S7.blk 5 rfl
  have B7 := S7.blk 7 rfl
  have c7 : ∀ d, (h7.set h.length d)[h.length]? = some d := fun d => heap_set _ B7
  have S8 := (S7.pull 7).setK [[v]]
  have B8 := S8.blk 7 rfl
  have K8 := S8.blk 3 rfl
  have c8 : ∀ d, ((h7.set h.length [[v]]).set (h.length + 1) d)[h.length + 1]? = some d := fun d => heap_set _ B8
  have S9 := (S8.pull 7).setK [[.int .i64 s.charge, .int .i64 s.cap, .int .i64 s.on, .int .i64 s.leak]]
  have B9 := S9.blk 1 rfl
  simp (disch := omega) only [go_sem, zv.1, zv.2.1, zv.2.2, storeH, storeB, splice, K7, A7, B7, c7, B8, c8, B9, K8, resV_four]
  exact ⟨ts, v, m.set 8 (packM t 0 b), l, t, b, s, hs', k, rfl, hD, hm4, hs, hl', hh', S9.pk (A := [_, _, _, _, _, _, _, _]) [5, 6, 2] rfl⟩
end Go.Av

namespace Go.Av
open Go.Proofs Go.RowKit
set_option linter.unusedVariables false
set_option linter.unusedSimpArgs false
set_option maxRecDepth 100000
set_option maxHeartbeats 8000000
theorem most_ge : ∀ (ts : List Task) (n : Int), n ≤ ts.foldl (fun n t => max n (bootB t)) n ∧ ∀ t ∈ ts, bootB t ≤ ts.foldl (fun n t => max n (bootB t)) n
  | [], n => ⟨Int.le_refl _, by simp⟩
  | t :: ts, n => by
    have ih := most_ge ts (max n (bootB t))
    refine ⟨by have := ih.1; simp only [List.foldl_cons]; omega, fun u hu => ?_⟩
    simp only [List.foldl_cons]
    rcases List.mem_cons.1 hu with rfl | hu
    · have := ih.1; omega
    · exact ih.2 u hu
theorem most_at : ∀ (ts : List Task) (n : Int), ts.foldl (fun n t => max n (bootB t)) n = n ∨ ∃ t ∈ ts, bootB t = ts.foldl (fun n t => max n (bootB t)) n
  | [], n => .inl rfl
  | t :: ts, n => by
    simp only [List.foldl_cons]
    rcases most_at ts (max n (bootB t)) with h | ⟨u, hu, h⟩
    · rcases Int.le_total n (bootB t) with q | q
      · exact .inr ⟨t, by simp, by rw [h]; omega⟩
      · exact .inl (by rw [h]; omega)
    · exact .inr ⟨u, by simp [hu], h⟩
theorem boot_pos {t : Task} (h : taskOk t = true) : 4 ≤ bootB t := by
  have hb : 0 ≤ boundT (treeOf t.body) := by
    have q := treeOf_ok (task_facts h).1
    exact (boundT_bd _ q.1).1
  unfold bootB taskB recCost
  rw [if_pos h, if_pos h]
  split <;> omega
theorem slack_pure {ts : List Task} {s : Store} (hn : ¬ slackM ts s < 0) : certM ts { s with on := s.on - slackM ts s } = true ∧ certM ts { s with on := s.on - slackM ts s - 1 } = false ∧ slackM ts { s with on := s.on - slackM ts s } = 0 ∧ (0 ≤ slackM ts s ∧ slackM ts s ≤ 5000 ∧ 0 ≤ s.on ∧ s.on ≤ 5000) := by
  have hc : certM ts s = true := by
    cases h : certM ts s
    · rw [slackM, if_neg (by simp [h])] at hn; omega
    · rfl
  have hs : slackM ts s = s.on - mostB ts := if_pos hc
  have f := cert_facts hc
  have M := most_bd ts
  have hv : ∀ t ∈ ts, bootB t ≤ s.on := by
    simp only [certM, Bool.and_eq_true, Bool.not_eq_true', List.any_eq_false, overB, decide_eq_true_eq] at hc
    intro t ht; have := hc.2 t ht; omega
  have hpo := f.1
  simp only [programOk, within, Bool.and_eq_true, decide_eq_true_eq, List.all_eq_true] at hpo
  have hso := f.2.1
  simp only [storeOk, within, Bool.and_eq_true, decide_eq_true_eq] at hso
  have at' : ∃ t ∈ ts, bootB t = mostB ts := by
    rcases most_at ts 0 with h | h
    · exfalso
      cases ts with
      | nil => simp at hpo
      | cons t ts =>
        have a := (most_ge (t :: ts) 0).2 t (by simp)
        have b := boot_pos (hpo.2 t (by simp))
        omega
    · exact h
  obtain ⟨u, hu, hue⟩ := at'
  have hu4 := boot_pos (hpo.2 u hu)
  have huv := hv u hu
  have hM : s.on - slackM ts s = mostB ts := by omega
  have hge := (most_ge ts 0).2
  have ca : certM ts { s with on := mostB ts } = true := by
    simp only [certM, Bool.and_eq_true, Bool.not_eq_true', List.any_eq_false, overB, decide_eq_true_eq]
    refine ⟨⟨f.1, ?_⟩, fun t ht => ?_⟩
    · simp only [storeOk, within, Bool.and_eq_true, decide_eq_true_eq]; omega
    · have : bootB t ≤ mostB ts := hge t ht
      omega
  rw [hM]
  refine ⟨ca, ?_, ?_, by omega⟩
  · have : ts.any (overB (mostB ts - 1)) = true := List.any_eq_true.2 ⟨u, hu, by simp only [overB, decide_eq_true_eq]; omega⟩
    simp only [certM, this, Bool.not_true, Bool.and_false]
  · rw [slackM, if_pos ca]; simp
theorem slack_law (bs : List Int) (hb : bs.length ≤ 9223372036854775807) : CP Tryz.prog 7 [.lst 1 (bs.map encB)] (.bool true) [] := by
  refine CP.by rfl mixed (cfn_ok Tryz.func7 ok7) rfl ?_
  simp (disch := omega) only [s7, go_sem]
  refine CP.go (big_c bs hb) rfl (refs_bytes _ _) ?_
  simp (disch := omega) only [go_sem]
  refine condP_dec (fun hbig => ?_) (fun hbig => ?_)
  · simp (disch := omega) only [go_sem]
  simp (disch := omega) only [go_sem]
  refine C.go (drawCert_d (Sep.nil _) (by omega)) ?_
  intro r h1 P
  refine Exists.elim P fun ts P => Exists.elim P fun v P => Exists.elim P fun m P => Exists.elim P fun l P => Exists.elim P fun t P => Exists.elim P fun b P => Exists.elim P fun s P => Exists.elim P fun hs P => Exists.elim P fun k P => ?_
  have hr := P.1
  have hD := P.2.1
  have hso := P.2.2.2.1
  have S1 := P.2.2.2.2.2.2
  clear P
  subst hr
  have hx : ts.length ≤ 1048576 := by have := hD.1; omega
  have hb' := hD.body
  have zv := S1.vv 0 rfl
  have S2 := S1.newK2 [[v]] [encStore s]
  simp only [encStore] at S2
  have A2 := S2.blk 0 rfl
  have B2 := S2.blk 1 rfl
  simp (disch := omega) only [go_sem, zv.1, zv.2.1, zv.2.2, encStore, storeH, storeB, splice, A2, B2]
  refine CP.goS (slack_c ts s hx hb') rfl rfl (.cons (S2.progSnap 2 rfl) (.cons (.same _ (by rfl)) (.nil _))) ?_
  simp (disch := omega) only [go_sem, zv.1, zv.2.1, zv.2.2, encStore, storeH, storeB, splice, A2, B2]
  refine condP_dec (fun hn => ?_) (fun hn => ?_)
  · simp (disch := omega) only [go_sem, zv.1, zv.2.1, zv.2.2, encStore, storeH, storeB, splice, A2, B2]
    refine CP.goS (cert_c ts s hx hb') rfl rfl (.cons (S2.progSnap 2 rfl) (.cons (.same _ (by rfl)) (.nil _))) ?_
    have hc : certM ts s = false := by
      cases h : certM ts s
      · rfl
      · have hs : slackM ts s = s.on - mostB ts := if_pos h
        have f := cert_facts h
        have M := most_bd ts
        exfalso
        have hge : mostB ts ≤ s.on := by
          simp only [certM, Bool.and_eq_true, Bool.not_eq_true', List.any_eq_false, overB, decide_eq_true_eq] at h
          rcases most_at ts 0 with q | ⟨t, ht, q⟩
          · have : mostB ts = 0 := q
            omega
          · have := h.2 t ht
            have : bootB t = mostB ts := q
            omega
        omega
    simp (disch := omega) only [go_sem, hc]
  have hp := slack_pure hn
  have p1 := hp.1
  have p2 := hp.2.1
  have p3 := hp.2.2.1
  have p4 := hp.2.2.2
  clear hp
  simp (disch := omega) only [go_sem, zv.1, zv.2.1, zv.2.2, encStore, storeH, storeB, splice, A2, B2]
  refine CP.goS (cert_c ts { s with on := s.on - slackM ts s } hx hb') rfl rfl (.cons ((S1.app _).progSnap 0 rfl) (.cons (.same _ (by rfl)) (.nil _))) ?_
  simp (disch := omega) only [go_sem, p1]
  refine CP.goS (cert_c ts { s with on := s.on - slackM ts s - 1 } hx hb') rfl rfl (.cons ((S1.app _).progSnap 0 rfl) (.cons (.same _ (by rfl)) (.nil _))) ?_
  simp (disch := omega) only [go_sem, p2]
  refine CP.goS (slack_c ts { s with on := s.on - slackM ts s } hx hb') rfl rfl (.cons ((S1.app _).progSnap 0 rfl) (.cons (.same _ (by rfl)) (.nil _))) ?_
  simp (disch := omega) only [go_sem, p3]
end Go.Av

