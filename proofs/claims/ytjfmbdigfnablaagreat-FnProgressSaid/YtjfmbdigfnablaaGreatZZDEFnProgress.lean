import Derived.Test.YtjfmbdigfnablaaGreatZZDDFnProgress
namespace Go.Av
open Go.Proofs Go.RowKit
set_option linter.unusedVariables false
set_option linter.unusedSimpArgs false
set_option maxRecDepth 100000
set_option maxHeartbeats 8000000
theorem runL_facts {K : Prop} {ts : List Task} {rd : List Int} (hp : programOk ts = true) : ∀ (es : List Int) (r : Run), VM K ts r.mem → (∀ e ∈ es, 0 ≤ e ∧ e ≤ 5000) → VM K ts (runL ts rd es r).mem ∧ r.at_ ≤ (runL ts rd es r).at_ ∧ (runL ts rd es r).at_ ≤ r.at_ + 5000 * es.length
  | [], r, h, _ => ⟨h, Int.le_refl _, by simp [runL]⟩
  | e :: es, r, h, he => by
    have e0 := he e (by simp)
    have B := bootM_facts (rd := rd) (at_ := r.at_) (e := e) hp h e0.1
    have ih := runL_facts (rd := rd) hp es ⟨(bootM ts r.mem rd r.at_ e).mem, (bootM ts r.mem rd r.at_ e).at_, r.used ++ (bootM ts r.mem rd r.at_ e).used, r.boots ++ [((bootM ts r.mem rd r.at_ e).used.length : Int)]⟩ B.1 (fun x hx => he x (by simp [hx]))
    unfold runL
    refine ⟨ih.1, ?_, ?_⟩
    · have := ih.2.1; simp only at this; omega
    · have := ih.2.2; simp only at this; simp only [List.length_cons]; push_cast; omega
theorem bootOnce_f (ts : List Task) (m rd : List Int) (at_ e : Int) (hl : ts.length ≤ 1048576) (hb : ∀ t ∈ ts, t.body.length ≤ 9223372036854775807) (hok : memOkM ts m = true) (hv : vals rd = true) (hr : rd.length ≤ 9223372036854775807) (ha : within at_ 0 500000 = true) (he : within e 0 100000 = true) :
    F Tryz.prog 47 [.agg [.lst 4 (ts.map encTask)], .lst 1 (m.map encI), .lst 1 (rd.map encI), .int .i64 at_, .int .i64 e] (.tup [.agg (encBoot (bootM ts m rd at_ e)), .bool true]) := by
  have f := memOk_facts hok
  have ha' : 0 ≤ at_ ∧ at_ ≤ 500000 := by simpa [within] using ha
  have he' : 0 ≤ e ∧ e ≤ 100000 := by simpa [within] using he
  refine C.by mixed (cfn_ok Tryz.func47 ok47) rfl ?_
  simp (disch := omega) only [s47, go_sem]
  refine CP.go (isBootAt_c ts m rd at_ hl hb (by have := f.2.1; omega) hr) rfl (by simp [V.refsL, V.refs, refsLL_map encTask (refs_task 0) ts, refsLL_map encI (fun _ => rfl) m, refsLL_map encI (fun _ => rfl) rd]) ?_
  have S0 : Sep ([[[V.lst 4 (ts.map encTask)]], [[V.nils, .int .i64 0, .nils, .int .i64 0]]] : Heap) [.k 1 [[V.nils, .int .i64 0, .nils, .int .i64 0]], .k 0 [[V.lst 4 (ts.map encTask)]]] := ((Sep.nil []).newK _).newK _
  simp (disch := omega) only [go_sem, hok, hv, ha, Bool.and_true]
  refine CP.go (within_c _ _ _) rfl rfl ?_
  simp (disch := omega) only [go_sem, he, refs_task]
  refine S0.go (boot_f ts m rd at_ e f.1 (memV_weak hok) hr ha' he') (.same (by simp [V.refsL, V.refs, refsLL_map encTask (refs_task 0) ts, refsLL_map encI (fun _ => rfl) m, refsLL_map encI (fun _ => rfl) rd])) fun r1 h1 x1 S1 => ?_
  refine Exists.elim (show ∃ b, b = bootM ts m rd at_ e from ⟨_, rfl⟩) fun b hb => ?_
  rw [← hb] at S1
  refine Exists.elim S1.openBoot fun vm q => Exists.elim q fun vu q => ?_
  have hr1 := q.1
  have S2 := q.2
  clear q S1
  subst hr1
  have zm := S2.vv 0 rfl
  have zu := S2.vv 1 rfl
  have K2 := S2.blk 2 rfl
  have C2 : ∀ d, (h1.set 1 d)[1]? = some d := fun d => heap_set _ K2
  have S3 := ((S2.pull 2).setK [[vm, .int .i64 b.at_, vu, .int .i64 b.left]]).pk (A := [_, _, _, _]) [1, 2] rfl
  have A1 := Sep.li (k := .i64) (z := b.left) (Sep.l0 (Sep.sw S3))
  have A2 := Sep.li (k := .i64) (z := b.at_) (Sep.cons2 (fun es e => by cases e) (Sep.sw A1))
  have A3 := (Sep.cons2 (fun es e => by cases e) (Sep.sw A2)).a
  have A4 := (Sep.cons2 (fun es e => by cases e) (Sep.sw (Sep.lb (z := true) (Sep.l0 A3)))).t.ret
  simp (disch := omega) only [go_sem, K2, C2, zm.1, zm.2.1, zm.2.2, zu.1, zu.2.1, zu.2.2, storeH, storeB, splice]
  rw [← hb]
  exact A4
theorem bootTasks_c (b : BT) (hu : b.used.length ≤ 9223372036854775807) : CP Tryz.prog 48 [.agg (encBoot b)] (.int .i64 b.used.length) [] := by
  refine CP.by rfl mixed (cfn_ok Tryz.func48 ok48) rfl ?_
  simp (disch := omega) only [s48, go_sem, encBoot]
theorem drawEnergies_d {h : Heap} {L : List It} {bs : List Int} (S : Sep h L) (hb : bs.length ≤ 1048576) : C Tryz.prog 45 [.lst 1 (bs.map encB)] h (fun r h' => ∃ (zs : List Int) (l : Nat), r = .own l 1 0 zs.length zs.length ∧ zs.length ≤ 8 ∧ (∀ z ∈ zs, 0 ≤ z ∧ z ≤ 250) ∧ Sep h' (.k l (zs.map encI) :: L)) := by
  refine C.by mixed (cfn_ok Tryz.func45 ok45) rfl ?_
  simp (disch := omega) only [s45, go_sem]
  refine S.goNew hb fun h1 S1 => ?_
  simp (disch := omega) only [go_sem]
  refine C.go (energies_d S1) ?_
  rintro r h2 ⟨zs, l, rfl, hl, hz, S2⟩
  simp (disch := omega) only [go_sem]
  exact ⟨zs, l, rfl, hl, hz, S2.drop 1⟩
theorem Sep.openRun {h : Heap} {x : Run} {b : Bool} {r : V} {L : List It} (S : Sep h (.v (.tup [.agg (encRun x), .bool b]) r :: L)) : ∃ vm vu vb, r = .tup [.agg [vm, .int .i64 x.at_, vu, vb], .bool b] ∧ Sep h (.v (.lst 1 (x.mem.map encI)) vm :: .v (.lst 1 (x.used.map encL)) vu :: .v (.lst 1 (x.boots.map encI)) vb :: L) := by
  obtain ⟨_, rfl, S1⟩ := sep_tup.1 S
  obtain ⟨c, _, rfl, S2⟩ := sep_la.1 S1
  obtain ⟨_, rfl, S3⟩ := sep_lb.1 (S2.perm (.swap _ _ _))
  obtain ⟨rfl, S4⟩ := sep_l0.1 S3
  obtain ⟨vm, _, rfl, T2⟩ := sep_ll.1 S4
  obtain ⟨_, rfl, T3⟩ := sep_li.1 T2
  obtain ⟨vu, _, rfl, T4⟩ := sep_ll.1 T3
  obtain ⟨vb, _, rfl, T5⟩ := sep_ll.1 T4
  obtain ⟨rfl, T6⟩ := sep_l0.1 T5
  refine ⟨vm, vu, vb, rfl, T6.perm ?_⟩
  simp only [List.append_assoc, List.cons_append, List.nil_append]
  exact List.perm_append_comm
theorem Sep.openBootT {h : Heap} {b : BT} {z : Bool} {r : V} {L : List It} (S : Sep h (.v (.tup [.agg (encBoot b), .bool z]) r :: L)) : ∃ vm vu, r = .tup [.agg [vm, .int .i64 b.at_, vu, .int .i64 b.left], .bool z] ∧ Sep h (.v (.lst 1 (b.mem.map encI)) vm :: .v (.lst 1 (b.used.map encL)) vu :: L) := by
  obtain ⟨_, rfl, S1⟩ := sep_tup.1 S
  obtain ⟨c, _, rfl, S2⟩ := sep_la.1 S1
  obtain ⟨_, rfl, S3⟩ := sep_lb.1 (S2.perm (.swap _ _ _))
  obtain ⟨rfl, S4⟩ := sep_l0.1 S3
  obtain ⟨vm, vu, e, S5⟩ := S4.a.openBoot
  injection e with e
  subst e
  exact ⟨vm, vu, rfl, S5⟩
theorem bootBounds_law (bs : List Int) (hb : bs.length ≤ 9223372036854775807) : CP Tryz.prog 9 [.lst 1 (bs.map encB)] (.bool true) [] := by
  refine CP.by rfl mixed (cfn_ok Tryz.func9 ok9) rfl ?_
  simp (disch := omega) only [s9, go_sem]
  refine CP.go (big_c bs hb) rfl (refs_bytes _ _) ?_
  simp (disch := omega) only [go_sem]
  refine condP_dec (fun hbig => ?_) (fun hbig => ?_)
  · simp (disch := omega) only [go_sem]
  simp (disch := omega) only [go_sem]
  refine C.go (drawMem_d (Sep.nil _) (by omega)) ?_
  intro r h1 P
  refine Exists.elim P fun ts P => Exists.elim P fun v P => Exists.elim P fun m P => Exists.elim P fun l P => Exists.elim P fun t P => Exists.elim P fun b P => ?_
  have hr := P.1
  have hD := P.2.1
  have hm := P.2.2.1
  have S1 := P.2.2.2
  clear P
  subst hr
  have zv := S1.vv 0 rfl
  have hok := memD_ok hD hm
  have hml := hm.len
  have S2 := S1.newK [[v]]
  have A2 := S2.blk 0 rfl
  simp (disch := omega) only [go_sem, zv.1, zv.2.1, zv.2.2, storeH, storeB, splice]
  refine C.go (drawReadings_d S2 (by omega)) ?_
  rintro r h3 ⟨rd, l3, rfl, hl3, hv3, S3⟩
  simp (disch := omega) only [go_sem, zv.1, zv.2.1, zv.2.2]
  refine C.go (drawEnergies_d S3 (by omega)) ?_
  rintro r h5 ⟨es, l5, rfl, hl5, hv5, S5⟩
  have A5 := S5.blk 2 rfl
  have hro : runOk ts m rd es = true := by
    simp only [runOk, hok.1, hv3, Bool.true_and, Bool.and_eq_true, decide_eq_true_eq, List.all_eq_true]
    refine ⟨by omega, fun z hz => ?_⟩
    have := hv5 z hz
    simp [energyOk, within]; omega
  have hbody : ∀ t ∈ ts, t.body.length ≤ 9223372036854775807 := fun t ht => by have := hD.body t ht; omega
  have htl : ts.length ≤ 1048576 := by have := hD.1; omega
  have hrun := runBoots_f ts m rd es htl hbody (by omega) (by omega) (by omega)
  refine Exists.elim (show ∃ x, x = runR ts m rd es from ⟨_, rfl⟩) fun x hx => ?_
  rw [hro, ← hx] at hrun
  rw [runR, if_pos hro] at hx
  have hV : VM False ts m := by
    have := memOk_V hok.1
    rw [hok.2] at this
    exact ⟨t, 0, b, .inl (by omega), this⟩
  have RF := runL_facts (K := False) (rd := rd) hD.ok es ⟨m, 0, [], []⟩ hV (fun z hz => by have := hv5 z hz; omega)
  rw [show runL ts rd es ⟨m, 0, [], []⟩ = x from hx.symm] at RF
  simp only at RF
  simp (disch := omega) only [go_sem, zv.1, zv.2.1, zv.2.2, A5]
  refine S5.go hrun (.cons (S5.progSnap 3 rfl) (.cons (Snap.flatN (S5.blk 4 rfl) (by simpa using hml) (flat_encI _)) (.cons (Snap.flatN (S5.blk 1 rfl) (by simp) (flat_encI _)) (.cons (Snap.flatN (S5.blk 0 rfl) (by simp) (flat_encI _)) (.nil _))))) fun r6 h6 x6 S6 => ?_
  refine Exists.elim S6.openRun fun vm q => Exists.elim q fun vu q => Exists.elim q fun vb q => ?_
  have hr6 := q.1
  have S7 := q.2
  clear q S6
  subst hr6
  refine Exists.elim RF.1 fun t' q => Exists.elim q fun c' q => Exists.elim q fun l' q => ?_
  have hc' : c' ≤ ((mustOf (taskAt ts t')).length : Int) := q.1.resolve_right id
  have hM := q.2
  clear q
  have zm := S7.vv 0 rfl
  have zu := S7.vv 1 rfl
  have zb := S7.vv 2 rfl
  have S8 := S7.newK [[vm, .int .i64 x.at_, vu, vb]]
  have K8 := S8.blk 0 rfl
  have A8 := S8.blk 6 rfl
  have hxl := hM.len
  refine Exists.elim (S8.ownF 1 (flat_encI _) rfl (k := 8) (by simp [hxl])) fun mid q => ?_
  have hvm := q.1
  have hmk := q.2
  clear q
  rw [List.length_map, hxl] at hvm
  subst hvm
  have g8 := gtI_some (zs := x.mem) (i := 8) (by omega)
  have hu := hM.ctl
  have ht0 := hM.t0
  have ht1 := hM.t1
  simp (disch := omega) only [go_sem, zv.1, zv.2.1, zv.2.2, zu.1, zu.2.1, zu.2.2, zb.1, zb.2.1, zb.2.2, storeH, storeB, splice, K8, hmk, g8, hxl, List.getElem?_map, encI, gtI_get]
  refine CP.go (unpack_s _) rfl rfl ?_
  have htl' : t'.toNat < ts.length := by omega
  refine Exists.elim (S8.row 7 rfl (k := t'.toNat) (d := encTask (taskAt ts t')) (by rw [List.getElem?_map, taskAt_some htl']; rfl)) fun tid q => Exists.elim q fun bb q => Exists.elim q fun c q => Exists.elim q fun i q => ?_
  have hv := q.1
  have hid := q.2.1
  have hbl := q.2.2.1
  have hc := q.2.2.2.1
  have oc := q.2.2.2.2
  clear q
  rw [List.length_map] at hv hbl
  refine Exists.elim oc.task fun vt q => ?_
  have hcc := q.1
  have oa := q.2
  clear q oc
  subst hcc
  have zt := oa.vv
  subst hv
  have hmem : taskAt ts t' ∈ ts := by rw [← taskAt_eq htl']; exact List.getElem_mem _
  have htk := hD.2 _ hmem
  have hbt := hD.body _ hmem
  simp (disch := omega) only [go_sem, encU, hu, zu.1, zu.2.1, zu.2.2, zb.1, zb.2.1, zb.2.2, zt.1, zt.2.1, zt.2.2, A8, hid, hbl, hc, Nat.zero_add]
  have otk := Snap.ofSnaps ((OwnsL.mkTask oa).snap)
  refine CP.goS (bootB_c (taskAt ts t') hbt) rfl rfl (.cons otk (.nil _)) ?_
  have hBd := bootB_bd (taskAt ts t')
  have hB0 : 0 ≤ bootB (taskAt ts t') := by
    rw [bootB, if_pos htk, taskB, if_pos htk]
    have := (boundT_bd _ (treeOf_ok (task_facts htk).1).1).1
    unfold recCost; split <;> omega
  simp (disch := omega) only [go_sem, A8, K8]
  refine condP_dec (fun hbig2 => ?_) (fun hbig2 => ?_)
  · simp (disch := omega) only [go_sem, A8, K8]
  have hokx : memOkM ts x.mem = true := hM.ok hD.ok
  have wa : within x.at_ 0 500000 = true := by
    simp [within]; omega
  have we : within (bootB (taskAt ts t')) 0 100000 = true := by
    simp [within]; omega
  have hbo := bootOnce_f ts x.mem rd x.at_ (bootB (taskAt ts t')) htl hbody hokx hv3 (by omega) wa we
  have BF := bootM_facts (K := False) (rd := rd) (at_ := x.at_) (e := bootB (taskAt ts t')) hD.ok RF.1 hB0
  refine Exists.elim (show ∃ y, y = bootM ts x.mem rd x.at_ (bootB (taskAt ts t')) from ⟨_, rfl⟩) fun y hy => ?_
  rw [← hy] at hbo BF
  rw [hu] at BF
  simp only at BF
  have hused := BF.2.2.2.2.2 id (Int.le_refl _)
  simp (disch := omega) only [go_sem, A8, K8, zu.1, zu.2.1, zu.2.2, zb.1, zb.2.1, zb.2.2]
  refine S8.go hbo (.cons (S8.progSnap 7 rfl) (.cons (S8.snap 1 rfl) (.cons (Snap.flatN (S8.blk 5 rfl) (by simp) (flat_encI _)) (.cons (.int _ _) (.cons (.int _ _) (.nil _)))))) fun r9 h9 x9 S9 => ?_
  refine Exists.elim S9.openBootT fun vm9 q => Exists.elim q fun vu9 q => ?_
  have hr9 := q.1
  have S10 := q.2
  clear q S9
  subst hr9
  have z9 := S10.vv 0 rfl
  have w9 := S10.vv 1 rfl
  have S11 := S10.newK [[vm9, .int .i64 y.at_, vu9, .int .i64 y.left]]
  have K11 := S11.blk 0 rfl
  simp (disch := omega) only [go_sem, z9.1, z9.2.1, z9.2.2, w9.1, w9.2.1, w9.2.2, storeH, storeB, splice, K11]
  refine CP.goS (bootTasks_c y (by omega)) rfl rfl (.cons (Snap.ofSnaps (.cons (S11.snap 1 rfl) (.cons (.int _ _) (.cons (S11.snap 2 rfl) (.cons (.int _ _) (.nil _)))))) (.nil _)) ?_
  simp (disch := omega) only [go_sem, z9.1, z9.2.1, z9.2.2, w9.1, w9.2.1, w9.2.2, storeH, storeB, splice, K11]
  rw [decide_eq_true (show (1 : Int) ≤ y.used.length by omega)]
end Go.Av

namespace Go.Av
open Go.Proofs Go.RowKit
set_option linter.unusedVariables false
set_option linter.unusedSimpArgs false
set_option maxRecDepth 100000
set_option maxHeartbeats 8000000
theorem runL_prog {ts : List Task} {rd : List Int} {on : Int} (hp : programOk ts = true) (hb : ∀ t ∈ ts, bootB t ≤ on) : ∀ (es : List Int) (r : Run), VM False ts r.mem → (∀ e ∈ es, 0 ≤ e ∧ on ≤ e) → ∃ bs : List Int, (runL ts rd es r).boots = r.boots ++ bs ∧ bs.length = es.length ∧ (∀ b ∈ bs, 1 ≤ b) ∧ r.used.length + es.length ≤ (runL ts rd es r).used.length
  | [], r, h, _ => ⟨[], by simp [runL], rfl, by simp, by simp [runL]⟩
  | e :: es, r, h, he => by
    have e0 := he e (by simp)
    have B := bootM_facts (rd := rd) (at_ := r.at_) (e := e) hp h e0.1
    obtain ⟨t, c, l, hc, hM⟩ := h
    have ht0 := hM.t0
    have ht1 := hM.t1
    have htl : t.toNat < ts.length := by omega
    have hmem : taskAt ts t ∈ ts := by rw [← taskAt_eq htl]; exact List.getElem_mem _
    have h1 := B.2.2.2.2.2 id (by rw [hM.ctl]; have := hb _ hmem; simp only; omega)
    obtain ⟨bs, q1, q2, q3, q4⟩ := runL_prog (rd := rd) hp hb es ⟨(bootM ts r.mem rd r.at_ e).mem, (bootM ts r.mem rd r.at_ e).at_, r.used ++ (bootM ts r.mem rd r.at_ e).used, r.boots ++ [((bootM ts r.mem rd r.at_ e).used.length : Int)]⟩ B.1 (fun x hx => he x (by simp [hx]))
    unfold runL
    refine ⟨((bootM ts r.mem rd r.at_ e).used.length : Int) :: bs, by rw [q1]; simp, by simp [q2], fun b hb' => ?_, ?_⟩
    · rcases List.mem_cons.1 hb' with rfl | w
      · omega
      · exact q3 b w
    · simp only [List.length_append] at q4
      simp only [List.length_cons]
      omega
theorem runL_used {ts : List Task} {rd : List Int} (hp : programOk ts = true) : ∀ (es : List Int) (r : Run), VM False ts r.mem → (∀ e ∈ es, 0 ≤ e) → (runL ts rd es r).used.length ≤ r.used.length + 10 * es.length
  | [], r, h, _ => by simp [runL]
  | e :: es, r, h, he => by
    have B := bootM_facts (rd := rd) (at_ := r.at_) (e := e) hp h (he e (by simp))
    have q := runL_used (rd := rd) hp es ⟨(bootM ts r.mem rd r.at_ e).mem, (bootM ts r.mem rd r.at_ e).at_, r.used ++ (bootM ts r.mem rd r.at_ e).used, r.boots ++ [((bootM ts r.mem rd r.at_ e).used.length : Int)]⟩ B.1 (fun x hx => he x (by simp [hx]))
    unfold runL
    simp only [List.length_append] at q
    simp only [List.length_cons]
    omega
theorem enM_bd : ∀ (hs : List Int) (s : Store), StoreIn s → ∀ e ∈ enM s hs, s.on ≤ e ∧ 0 ≤ e ∧ e ≤ 5000
  | [], s, _, e, he => absurd he List.not_mem_nil
  | n :: ns, s, h, e, he => by
    have ht := tickIn n h
    have hc := ht.charge
    have hcap := ht.cap
    unfold enM at he
    split at he
    · rename_i q
      rcases List.mem_cons.1 he with rfl | w
      · exact ⟨q, by omega, by omega⟩
      · exact enM_bd ns (emptied (tickM s n)) (emptiedIn ht) e w
    · exact enM_bd ns (tickM s n) ht e he
theorem idle_c (r : Run) (hb : ∀ b ∈ r.boots, 1 ≤ b) (hl : r.boots.length ≤ 1048576) : CP Tryz.prog 20 [.agg (encRun r)] (.int .i64 0) [] := by
  have bit : CP Tryz.prog 71 [.bool false] (.int .i64 0) [] := by
    refine CP.by rfl mixed (cfn_ok Tryz.func71 ok71) rfl ?_
    simp (disch := omega) only [s71, go_sem]
  refine CP.by rfl mixed (cfn_ok Tryz.func20 ok20) rfl ?_
  simp (disch := omega) only [s20, go_sem, encRun]
  refine loopP_intro (fun n s => ∃ k : Nat, k ≤ r.boots.length ∧ n = r.boots.length - k ∧ s.e 3 = .int .i64 0 ∧ s.e 7 = .lst 1 (r.boots.map encI) ∧ s.e 8 = .int .i64 r.boots.length ∧ s.e 9 = .int .i64 k) r.boots.length ⟨0, by omega, by omega, by simp (disch := omega) only [go_sem, encRun], by simp (disch := omega) only [go_sem, encRun], by simp (disch := omega) only [go_sem, encRun], by simp (disch := omega) only [go_sem, encRun] <;> rfl⟩ ?_
  rintro n e hp ⟨k, hk, rfl, e3, e7, e8, e9⟩
  simp only at e3 e7 e8 e9
  simp (disch := omega) only [go_sem, e3, e7, e8, e9, encI]
  refine condP_dec (fun hlt => ?_) (fun hlt => ?_)
  · have hlt' : k < r.boots.length := by omega
    have h1 := hb _ (List.getElem_mem hlt')
    have hne : ¬ r.boots[k] = 0 := by omega
    simp (disch := omega) only [go_sem, e3, e7, e8, e9, encI, hne]
    refine CP.go bit rfl rfl ?_
    simp (disch := omega) only [go_sem, e3, e7, e8, e9, encI]
    refine nextP_intro (r.boots.length - (k + 1)) (by omega) ⟨k + 1, by omega, rfl, by simp (disch := omega) only [go_sem, e3, e7, e8, e9, encI], by simp (disch := omega) only [go_sem, e3, e7, e8, e9, encI], by simp (disch := omega) only [go_sem, e3, e7, e8, e9, encI], by simp (disch := omega) only [go_sem, e3, e7, e8, e9, encI] <;> rfl⟩
  · simp (disch := omega) only [go_sem, e3, e7, e8, e9, encI]
theorem progress_c (r : Run) (hu : r.used.length ≤ 1048576) : CP Tryz.prog 21 [.agg (encRun r)] (.int .i64 r.used.length) [] := by
  refine CP.by rfl mixed (cfn_ok Tryz.func21 ok21) rfl ?_
  simp (disch := omega) only [s21, go_sem, encRun]
noncomputable def certR (ts : List Task) (m rd es : List Int) (s : Store) : Run := if certM ts s = true then runR ts m rd es else ⟨[], 0, [], []⟩
theorem certRun_f (ts : List Task) (m rd hs : List Int) (s : Store) (hl : ts.length ≤ 1048576) (hb : ∀ t ∈ ts, t.body.length ≤ 1048576) (hml : m.length ≤ 9223372036854775807) (hr : rd.length ≤ 9223372036854775807) (ho : harvOk s hs = true) (h60 : hs.length ≤ 60) :
    F Tryz.prog 16 [.agg [.lst 4 (ts.map encTask)], .lst 1 (m.map encI), .lst 1 (rd.map encI), .agg (encStore s), .lst 1 (hs.map encI)] (.tup [.agg (encRun (certR ts m rd (enM s hs) s)), .bool (certM ts s && runOk ts m rd (enM s hs))]) := by
  have hel : (enM s hs).length ≤ 60 := by have := enM_len hs s; omega
  refine C.by mixed (cfn_ok Tryz.func16 ok16) rfl ?_
  simp (disch := omega) only [s16, go_sem, encStore]
  have S0 : Sep ([[[V.lst 4 (ts.map encTask)]], [encStore s], [[V.nils, .int .i64 0, .nils, .nils]]] : Heap) [.k 2 [[V.nils, .int .i64 0, .nils, .nils]], .k 1 [encStore s], .k 0 [[V.lst 4 (ts.map encTask)]]] := (((Sep.nil []).newK _).newK _).newK _
  refine S0.goLstB (energies_f s hs ho) (.same (by simp [V.refsL, V.refs, encStore, refsLL_map encI (fun _ => rfl) hs])) fun v1 h1 x1 S1 o1 n1 c1 => ?_
  have A1 := S1.blk 3 rfl
  have B1 := S1.blk 2 rfl
  have K1 := S1.blk 1 rfl
  have C1 : ∀ d, (h1.set 2 d)[2]? = some d := fun d => heap_set _ K1
  simp only [encStore] at B1
  simp (disch := omega) only [go_sem, o1, n1, c1, A1, B1, refs_task]
  refine CP.go (cert_c ts s hl hb) rfl (refs_cert _ ts s) ?_
  simp (disch := omega) only [go_sem, o1, n1, c1, A1, B1, refs_task]
  refine condP_split (fun hc => ?_) (fun hc => ?_)
  case' refine_2 =>
    have S2 := (S1.pull 1).setK [[V.nils, .int .i64 0, .nils, .nils]]
    have A1 := Sep.cons2 (fun es e => by cases e) (Sep.sw (Sep.l0 (S2.nils (sz := 1))))
    have A2 := Sep.cons2 (fun es e => by cases e) (A1.nils (sz := 1))
    have A3 := Sep.li (k := .i64) (z := 0) A2
    have A4 := Sep.cons2 (fun es e => by cases e) (A3.nils (sz := 1))
    have A5 := Sep.cons2 (fun es e => by cases e) (Sep.sw (Sep.lb (z := false) (Sep.l0 A4.a)))
    have A6 := A5.t.ret
    simp (disch := omega) only [go_sem, hc, K1, C1, storeH, storeB, splice]
    rw [certR, if_neg (by simp [hc])]
    exact A6
  have hmin : min 60 ((enM s hs).length : Int) = (enM s hs).length := by omega
  have len1 := fun G => (S1.lst 0 rfl).elim fun i o => o.len_ G
  simp only [List.length_map] at len1
  have pf := (cert_facts hc).1
  have hrun := runBoots_f ts m rd (enM s hs) hl (fun t ht => by have := hb t ht; omega) hml hr (by omega)
  refine Exists.elim (show ∃ x, x = runR ts m rd (enM s hs) from ⟨_, rfl⟩) fun x hx => ?_
  rw [← hx] at hrun
  refine Or.elim (S1.flat_ (flat_encI _)) (fun q => ?_) (fun q => Exists.elim q fun eid q => ?_)
  case' refine_1 =>
    have hv1 := q.1
    have hz : (enM s hs).length = 0 := by have := congrArg List.length q.2.1; simpa using this
    have hsl : sliceV 1 V.nils none (some (V.int .i64 ((enM s hs).length : Int))) = some V.nils := by rw [hz]; rfl
    clear q
    subst hv1
    simp (disch := omega) only [go_sem, hc, o1, n1, c1, A1, len1, hmin, refs_task, hsl]
  case' refine_2 =>
    have hv1 := q.1
    clear q
    simp only [List.length_map] at hv1
    subst hv1
    simp (disch := omega) only [go_sem, hc, o1, n1, c1, A1, len1, hmin, refs_task]
  all_goals
    refine S1.go hrun (.cons (.same _ (refs_prog 0 ts)) (.cons (.same _ (by simp [V.refs, refsLL_map encI (fun _ => rfl) m])) (.cons (.same _ (by simp [V.refs, refsLL_map encI (fun _ => rfl) rd])) (.cons (S1.snap 0 rfl) (.nil _))))) fun r2 h2 x2 S2 => ?_
    refine Exists.elim S2.openRun fun vm q => Exists.elim q fun vu q => Exists.elim q fun vb q => ?_
    have hr2 := q.1
    have S3 := q.2
    clear q S2
    subst hr2
    have zm := S3.vv 0 rfl
    have zu := S3.vv 1 rfl
    have zb := S3.vv 2 rfl
    have K3 := S3.blk 4 rfl
    have C3 : ∀ d, (h2.set 2 d)[2]? = some d := fun d => heap_set _ K3
    have S4 := ((S3.pull 4).setK [[vm, .int .i64 x.at_, vu, vb]]).pk (A := [_, _, _, _, _, _, _]) [3, 2, 1] rfl
    have D0 := S4.asRow
    have D1 := Sep.cons2 (fun es e => by cases e) (Sep.sw D0)
    have D2 := Sep.li (k := .i64) (z := x.at_) D1
    have D3 := Sep.cons2 (fun es e => by cases e) (Sep.sw D2)
    have D5 := Sep.cons2 (fun es e => by cases e) (Sep.sw (Sep.lb (z := runOk ts m rd (enM s hs)) (Sep.l0 D3.a)))
    have D6 := D5.t.ret
    simp (disch := omega) only [go_sem, hc, K3, C3, zm.1, zm.2.1, zm.2.2, zu.1, zu.2.1, zu.2.2, zb.1, zb.2.1, zb.2.2, storeH, storeB, splice]
    rw [certR, if_pos hc, ← hx]
    exact D6
theorem progress_law (bs : List Int) (hb : bs.length ≤ 9223372036854775807) : CP Tryz.prog 3 [.lst 1 (bs.map encB)] (.bool true) [] := by
  refine CP.by rfl mixed (cfn_ok Tryz.func3 ok3) rfl ?_
  simp (disch := omega) only [s3, go_sem]
  refine CP.go (big_c bs hb) rfl (refs_bytes _ _) ?_
  simp (disch := omega) only [go_sem]
  refine condP_dec (fun hbig => ?_) (fun hbig => ?_)
  · simp (disch := omega) only [go_sem]
  simp (disch := omega) only [go_sem]
  refine C.go (drawCert_d (Sep.nil _) (by omega)) ?_
  intro r h1 P
  refine Exists.elim P fun ts P => Exists.elim P fun v P => Exists.elim P fun m P => Exists.elim P fun l P => Exists.elim P fun t P => Exists.elim P fun b P => Exists.elim P fun s P => Exists.elim P fun hs P => Exists.elim P fun k P => ?_
  have hr := P.1
  have hD := P.2.1
  have hm := P.2.2.1
  have hst := P.2.2.2.1
  have hhl := P.2.2.2.2.1
  have hhv := P.2.2.2.2.2.1
  have S1 := P.2.2.2.2.2.2
  clear P
  subst hr
  have zv := S1.vv 0 rfl
  have hok := memD_ok hD hm
  have hml := hm.len
  have hx : ts.length ≤ 1048576 := by have := hD.1; omega
  have hb' := hD.body
  have S2 := S1.newK2 [[v]] [encStore s]
  simp only [encStore] at S2
  simp (disch := omega) only [go_sem, zv.1, zv.2.1, zv.2.2, storeH, storeB, splice, encStore]
  refine C.go (drawReadings_d S2 (by omega)) ?_
  rintro r h3 ⟨rd, l3, rfl, hl3, hv3, S3⟩
  have ho : harvOk s hs = true := by
    simp only [harvOk, hst, Bool.true_and, Bool.and_eq_true, decide_eq_true_eq, List.all_eq_true]
    refine ⟨by omega, fun z hz => ?_⟩
    have := hhv z hz
    simp [isHarvest, within]; omega
  have hlen := enM_len hs s
  have hbd := enM_bd hs s (storeIn hst)
  have hro : runOk ts m rd (enM s hs) = true := by
    simp only [runOk, hok.1, hv3, Bool.true_and, Bool.and_eq_true, decide_eq_true_eq, List.all_eq_true]
    refine ⟨by omega, fun z hz => ?_⟩
    have := hbd z hz
    simp [energyOk, within]; omega
  have hrun := certRun_f ts m rd hs s hx hb' (by omega) (by omega) ho (by omega)
  rw [hro, Bool.and_true] at hrun
  have hfacts : certM ts s = true → (∀ b ∈ (certR ts m rd (enM s hs) s).boots, 1 ≤ b) ∧ (certR ts m rd (enM s hs) s).boots.length = (enM s hs).length ∧ (enM s hs).length ≤ (certR ts m rd (enM s hs) s).used.length ∧ (certR ts m rd (enM s hs) s).used.length ≤ 1048576 := fun hc => by
    have hV : VM False ts m := by
      have := memOk_V hok.1
      rw [hok.2] at this
      exact ⟨t, 0, b, .inl (by omega), this⟩
    have hbo : ∀ t ∈ ts, bootB t ≤ s.on := by
      simp only [certM, Bool.and_eq_true, Bool.not_eq_true', List.any_eq_false, overB, decide_eq_true_eq] at hc
      intro t ht; have := hc.2 t ht; omega
    obtain ⟨bs', q1, q2, q3, q4⟩ := runL_prog (rd := rd) hD.ok hbo (enM s hs) ⟨m, 0, [], []⟩ hV (fun e he => by have := hbd e he; omega)
    have q5 := runL_used (rd := rd) hD.ok (enM s hs) ⟨m, 0, [], []⟩ hV (fun e he => by have := hbd e he; omega)
    have e : certR ts m rd (enM s hs) s = runL ts rd (enM s hs) ⟨m, 0, [], []⟩ := by
      rw [certR, if_pos hc, runR, if_pos hro]; rfl
    rw [e]
    simp only [List.nil_append, List.length_nil, Nat.zero_add] at q1 q4 q5
    exact ⟨by rw [q1]; exact q3, by rw [q1]; exact q2, q4, by omega⟩
  refine Exists.elim (show ∃ x, x = certR ts m rd (enM s hs) s from ⟨_, rfl⟩) fun x hx' => ?_
  rw [← hx'] at hrun hfacts
  have A3 := S3.blk 2 rfl
  have B3 := S3.blk 1 rfl
  simp (disch := omega) only [go_sem, zv.1, zv.2.1, zv.2.2, A3, B3, encStore]
  refine S3.go hrun (.cons (S3.progSnap 3 rfl) (.cons (Snap.flatN (S3.blk 4 rfl) (by simpa using hml) (flat_encI _)) (.cons (Snap.flatN (S3.blk 0 rfl) (by simp) (flat_encI _)) (.cons (.same _ (by rfl)) (.cons (Snap.flatN (S3.blk 5 rfl) (by simp) (flat_encI _)) (.nil _)))))) fun r6 h6 x6 S6 => ?_
  refine Exists.elim S6.openRun fun vm q => Exists.elim q fun vu q => Exists.elim q fun vb q => ?_
  have hr6 := q.1
  have S7 := q.2
  clear q S6
  subst hr6
  have zm := S7.vv 0 rfl
  have zu := S7.vv 1 rfl
  have zb := S7.vv 2 rfl
  have S8 := S7.newK [[vm, .int .i64 x.at_, vu, vb]]
  have K8 := S8.blk 0 rfl
  have A8 := S8.blk 6 rfl
  have B8 := S8.blk 5 rfl
  have len8 := fun G => (S8.lst 3 rfl).elim fun i o => o.len_ G
  simp only [List.length_map] at len8
  simp (disch := omega) only [go_sem, zv.1, zv.2.1, zv.2.2, zm.1, zm.2.1, zm.2.2, zu.1, zu.2.1, zu.2.2, zb.1, zb.2.1, zb.2.2, storeH, storeB, splice, K8, A8, B8, encStore]
  refine CP.goS (cert_c ts s hx hb') rfl rfl (.cons (S8.progSnap 7 rfl) (.cons (.same _ (by rfl)) (.nil _))) ?_
  simp (disch := omega) only [go_sem, zv.1, zv.2.1, zv.2.2, zm.1, zm.2.1, zm.2.2, zu.1, zu.2.1, zu.2.2, zb.1, zb.2.1, zb.2.2, storeH, storeB, splice, K8, A8, B8, encStore]
  refine condP_split (fun hc => ?_) (fun hc => ?_)
  case' refine_2 =>
    have hsl : slackM ts s = -1 := if_neg (by simp [hc])
    simp (disch := omega) only [go_sem, hc, zv.1, zv.2.1, zv.2.2, A8, B8, encStore]
    refine CP.goS (slack_c ts s hx hb') rfl rfl (.cons (S8.progSnap 7 rfl) (.cons (.same _ (by rfl)) (.nil _))) ?_
    simp (disch := omega) only [go_sem, hsl]
  have hf := hfacts hc
  simp (disch := omega) only [go_sem, hc, zv.1, zv.2.1, zv.2.2, A8, B8, encStore]
  refine CP.goS (commits_c s hs ho) rfl rfl (.cons (.same _ (by rfl)) (.cons (Snap.flatN (S8.blk 9 rfl) (by simp) (flat_encI _)) (.nil _))) ?_
  have sx := Snap.ofSnaps (.cons (S8.snap 1 rfl) (.cons (.int .i64 x.at_) (.cons (S8.snap 2 rfl) (.cons (S8.snap 3 rfl) (.nil _)))))
  simp (disch := omega) only [go_sem, hc, K8, zm.1, zm.2.1, zm.2.2, zu.1, zu.2.1, zu.2.2, zb.1, zb.2.1, zb.2.2]
  refine CP.goS (idle_c x hf.1 (by omega)) rfl rfl (.cons sx (.nil _)) ?_
  simp (disch := omega) only [go_sem, hc, K8, zm.1, zm.2.1, zm.2.2, zu.1, zu.2.1, zu.2.2, zb.1, zb.2.1, zb.2.2]
  refine CP.goS (progress_c x hf.2.2.2) rfl rfl (.cons sx (.nil _)) ?_
  have d1 : decide (min 60 ((enM s hs).length : Int) ≤ x.used.length) = true := decide_eq_true (by omega)
  have d2 : decide ((x.boots.length : Int) = min 60 ((enM s hs).length : Int)) = true := decide_eq_true (by omega)
  simp (disch := omega) only [go_sem, hc, K8, zm.1, zm.2.1, zm.2.2, zu.1, zu.2.1, zu.2.2, zb.1, zb.2.1, zb.2.2, d1, d2, len8]
end Go.Av

