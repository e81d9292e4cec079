/- keep. No condition. -/
import Derived.Test.YtdlanjhcabcagaaD7Conf
namespace Go.Av
open Go.Proofs Go.RowKit
set_option linter.unusedVariables false
set_option linter.unusedSimpArgs false
set_option maxRecDepth 100000
set_option maxHeartbeats 4000000
theorem ge1_c (h : Heap) (s t : Setting) (eid : Nat) (he : h[eid]? = some [[.int .i64 s.reg, .int .i64 s.val]]) :
    C Try.prog 51 [.agg (encSetting t), .ptr eid 1 0 0] h (fun r h' => r = .bool (geS s t) ∧ Ext h h') := by
  refine C.by mixed (cfn_ok Try.func51 ok51) rfl ?_
  have he' := fun t => heap_app (h' := t) he
  simp (disch := omega) only [s51, go_sem, he, he', encSetting]
  exact ⟨rfl, Ext.app _ _⟩
theorem geIdx_c {h : Heap} (ts : List Setting) (v : V) (eid : Nat) (s : Setting) (L : List It) (S : Sep h (.v (.lst 2 (ts.map encSetting)) v :: L)) (he : h[eid]? = some [[.int .i64 s.reg, .int .i64 s.val]]) (hx : ts.length ≤ 1048576) :
    C Try.prog 50 [v, .fn 51 [.ptr eid 1 0 0]] h (fun r h' => r = .int .i64 (idxI (geS s) ts) ∧ Ext h h') := by
  have zv := S.vv 0 rfl
  have hnh : [v, .fn 51 [.ptr eid 1 0 0]].all V.noHole = true := by
    have := S.noH 0 rfl
    simp only [List.all_cons, this, Bool.true_and]; rfl
  have lenv := fun G => (S.lst 0 rfl).elim fun i o => o.len_ G
  simp only [List.length_map] at lenv
  refine C.by mixed (cfn_ok Try.func50 ok50) hnh ?_
  simp (disch := omega) only [s50, go_sem, zv.1, zv.2.1, zv.2.2, lenv]
  refine loopP_intro (fun m st => ∃ k : Nat, k ≤ ts.length ∧ m = ts.length - k ∧ st.e 0 = v ∧ st.e 1 = .fn 51 [.ptr eid 1 0 0] ∧ st.e 7 = .int .i64 ts.length ∧ st.e 8 = .int .i64 k ∧ Ext h st.h ∧ ∀ j (hj : j < ts.length), j < k → geS s ts[j] = false) ts.length ⟨0, by omega, by omega, by simp (disch := omega) only [go_sem, zv.1, zv.2.1, zv.2.2, lenv], by simp (disch := omega) only [go_sem, zv.1, zv.2.1, zv.2.2, lenv] <;> rfl, by simp (disch := omega) only [go_sem, zv.1, zv.2.1, zv.2.2, lenv] <;> rfl, by simp (disch := omega) only [go_sem, zv.1, zv.2.1, zv.2.2, lenv] <;> rfl, .refl _, fun j _ h => absurd h (by omega)⟩ ?_
  rintro m ee hp ⟨k, hk, rfl, e0, e1, e7, e8, X, hall⟩
  simp only at e0 e1 e7 e8 X
  simp (disch := omega) only [go_sem, zv.1, zv.2.1, zv.2.2, lenv, e0, e1, e7, e8]
  refine condP_dec (fun hlt => ?_) (fun hlt => ?_)
  · have hlt' : k < ts.length := by omega
    refine Or.elim ((S.up X).flat_ (flat_G _)) (fun q => ?_) fun q => ?_
    · have := congrArg List.length q.2.1
      simp only [List.length_map, List.length_nil] at this
      omega
    refine Exists.elim q fun id q => ?_
    have hv := q.1
    have hid := q.2.blk 0 rfl
    clear q
    rw [List.length_map] at hv
    have hg : ts[k]? = some ts[k] := List.getElem?_eq_getElem hlt'
    simp (disch := omega) only [go_sem, zv.1, zv.2.1, zv.2.2, lenv, e0, e1, e7, e8, hv, hid, hg, List.getElem?_map, encSetting]
    refine C.go (ge1_c hp s ts[k] eid (X.get he)) ?_
    rintro r h2 ⟨rfl, X2⟩
    simp (disch := omega) only [go_sem, zv.1, zv.2.1, zv.2.2, lenv, e0, e1, e7, e8, hv, hid, hg, List.getElem?_map, encSetting]
    refine condP_split (fun h => ?_) (fun h => ?_)
    · simp (disch := omega) only [go_sem, zv.1, zv.2.1, zv.2.2, lenv, e0, e1, e7, e8, hv, hid, hg, List.getElem?_map, encSetting]
      rw [idxI_found hlt' h hall]
      exact ⟨rfl, X.trans X2⟩
    · simp (disch := omega) only [go_sem, zv.1, zv.2.1, zv.2.2, lenv, e0, e1, e7, e8, hv, hid, hg, List.getElem?_map, encSetting]
      refine nextP_intro (ts.length - (k + 1)) (by omega) ⟨k + 1, by omega, rfl, by simp (disch := omega) only [go_sem, zv.1, zv.2.1, zv.2.2, lenv, e0, e1, e7, e8, hv, hid, hg, List.getElem?_map, encSetting] <;> exact hv.symm, by simp (disch := omega) only [go_sem, zv.1, zv.2.1, zv.2.2, lenv, e0, e1, e7, e8, hv, hid, hg, List.getElem?_map, encSetting], by simp (disch := omega) only [go_sem, zv.1, zv.2.1, zv.2.2, lenv, e0, e1, e7, e8, hv, hid, hg, List.getElem?_map, encSetting], by simp (disch := omega) only [go_sem, zv.1, zv.2.1, zv.2.2, lenv, e0, e1, e7, e8, hv, hid, hg, List.getElem?_map, encSetting]; rfl, X.trans X2, fun j hj hjk => ?_⟩
      by_cases q : j = k
      · subst q; exact h
      · exact hall j hj (by omega)
  · simp (disch := omega) only [go_sem, zv.1, zv.2.1, zv.2.2, lenv, e0, e1, e7, e8]
    rw [idxI_none (fun j hj => hall j hj (by omega))]
    exact ⟨rfl, X⟩
theorem kM_none {l : List Setting} {s : Setting} (h : idxI (geS s) l < 0) : kM l s = l.length := by
  unfold idxI at h
  split at h
  · omega
  · rename_i q
    exact List.findIdx_eq_length.2 fun t ht => by
      cases g : geS s t
      · rfl
      · exact absurd (List.any_eq_true.2 ⟨t, ht, g⟩) q
theorem kM_some {l : List Setting} {s : Setting} (h : ¬ idxI (geS s) l < 0) : idxI (geS s) l = kM l s ∧ kM l s < l.length := by
  unfold idxI at *
  split
  · rename_i q
    obtain ⟨t, ht, g⟩ := List.any_eq_true.1 q
    exact ⟨rfl, List.findIdx_lt_length_of_exists ⟨t, ht, g⟩⟩
  · rename_i q
    rw [if_neg q] at h; omega
theorem keep_c {h : Heap} (d : Device) (vr vl : V) (did : Nat) (s : Setting) (L : List It) (S : Sep h (.k did [[vr, vl]] :: .v (.lst 2 (d.list.map encSetting)) vl :: L)) (hx : d.list.length ≤ 1048576) :
    C Try.prog 26 [.ptr did 1 0 0, .agg (encSetting s)] h (fun r h' => r = .tup [] ∧ ∃ vl', Sep h' (.k did [[vr, vl']] :: .v (.lst 2 ((putM d.list s).map encSetting)) vl' :: L)) := by
  have zl := S.vv 1 rfl
  refine C.by mixed (cfn_ok Try.func26 ok26) rfl ?_
  have b0 := fun t => heap_app (h' := t) (S.blk 0 rfl)
  simp (disch := omega) only [s26, go_sem, encSetting, zl.1, zl.2.1, zl.2.2, b0]
  have K1 : (h ++ [[[V.int .i64 s.reg, .int .i64 s.val]]])[h.length]? = some [[.int .i64 s.reg, .int .i64 s.val]] := by simp
  have S1 := S.app [[[.int .i64 s.reg, .int .i64 s.val]]]
  refine C.go (geIdx_c d.list vl h.length s _ (S1.pull 1) K1 (by omega)) ?_
  rintro r h2 ⟨rfl, X2⟩
  have S2 := S1.up X2
  have kk := X2.get K1
  have bb := S2.blk 0 rfl
  have k1 := fun t => heap_app (h' := t) (X2.get K1)
  have b2 := fun t => heap_app (h' := t) (S2.blk 0 rfl)
  simp (disch := omega) only [go_sem, zl.1, zl.2.1, zl.2.2, kk, bb]
  refine condP_dec (fun hneg => ?_) (fun hneg => ?_)
  · have hkm : kM d.list s = d.list.length := kM_none hneg
    obtain ⟨v', h3, hap, S3⟩ := Sep.pushS (S2.pull 1) [.int .i64 s.reg, .int .i64 s.val] rfl (bytes := 16) (by simp; omega)
    have c0 := S3.blk 1 rfl
    have S4 := (S3.pull 1).setK [[vr, v']]
    have z3 := S3.vv 0 rfl
    simp (disch := omega) only [go_sem, zl.1, zl.2.1, zl.2.2, k1, b2, hap, c0, z3.1, z3.2.1, z3.2.2, storeH, storeB, splice, kk, bb]
    have hp : (putM d.list s).map encSetting = d.list.map encSetting ++ [[.int .i64 s.reg, .int .i64 s.val]] := by
      rw [putM_eq hkm, hit_end hkm]; simp [encSetting]
    rw [hp]
    exact ⟨v', (S3.sw).setK _⟩
  · have hks := kM_some hneg
    have hkm : kM d.list s = kM d.list s := rfl
    rw [hks.1] at hneg ⊢
    obtain ⟨k, hk⟩ : ∃ k, kM d.list s = k := ⟨_, rfl⟩
    rw [hk] at hks hneg ⊢
    have hlt' := hks.2
    refine Or.elim ((S2.pull 1).flat_ (flat_G _)) (fun q => ?_) fun q => ?_
    · have := congrArg List.length q.2.1
      simp only [List.length_map, List.length_nil] at this
      omega
    refine Exists.elim q fun id q => ?_
    have hv := q.1
    have S3 : Sep h2 (.k id (d.list.map encSetting) :: .k did [[vr, vl]] :: L) := q.2
    clear q
    rw [List.length_map] at hv
    subst hv
    have hid := S3.blk 0 rfl
    have hg : d.list[k]? = some d.list[k] := List.getElem?_eq_getElem hlt'
    have hgi : ((k : Int)).toNat = k := Int.toNat_natCast k
    simp (disch := omega) only [go_sem, hneg, hlt', hid, hg, List.getElem?_map, encSetting, k1, b2, kk, bb, storeH, storeB, splice]
    have hh := hit_at hlt' hk
    have hpm := putM_eq hk
    refine condP_dec (fun he => ?_) (fun he => ?_)
    · rw [decide_eq_true he] at hh
      rw [if_pos hh] at hpm
      have st := storeH_row (h := h2) (id := id) (n := d.list.length) (i := k) (sz := 2) (x := .agg (encSetting s)) hid (by simp) hlt' (fun e he => by obtain ⟨x, _, rfl⟩ := List.mem_map.1 he; rfl) rfl
      have hset : (d.list.map encSetting).set k (V.agg (encSetting s)).cells = (putM d.list s).map encSetting := by
        rw [hpm, show (V.agg (encSetting s)).cells = encSetting s from rfl, ← List.map_set, List.set_eq_take_append_cons_drop, if_pos hlt']
      rw [hset] at st
      simp only [encSetting] at st
      simp (disch := omega) only [go_sem, he, hneg, hlt', hid, hg, List.getElem?_map, encSetting, k1, b2, kk, bb, st]
      exact ⟨_, ((S3.setK ((putM d.list s).map encSetting)).ofFlat (sz := 2) (n := d.list.length) (by rw [hpm]; simp; omega) (flat_G _)).sw⟩
    · rw [decide_eq_false he] at hh
      rw [hh, if_neg (by simp)] at hpm
      have hid' := heap_app (h' := [[[V.int .i64 s.reg, .int .i64 s.val]]]) hid
      have hidl : id < h2.length := (List.getElem?_eq_some_iff.1 hid).1
      have hset : (d.list.map encSetting).take k ++ [V.int .i64 s.reg, .int .i64 s.val] :: (d.list.map encSetting).drop k = (putM d.list s).map encSetting := by
        rw [hpm]; simp [encSetting]
      have ins := insert_c (h := h2 ++ [[[V.int .i64 s.reg, .int .i64 s.val]]]) (vid := h2.length) (i := k) (x := [.int .i64 s.reg, .int .i64 s.val]) hid' (n := d.list.length) (by simp) (by simp) (by omega) hlt' (by omega)
      rw [hset] at ins
      simp (disch := omega) only [go_sem, he, hneg, hlt', hid, hg, List.getElem?_map, encSetting, k1, b2, kk, bb]
      refine C.go ins ?_
      rintro r h4 ⟨rfl, rfl⟩
      have S5 := (S3.app [[[V.int .i64 s.reg, .int .i64 s.val]]]).setK ((putM d.list s).map encSetting)
      have c0 := S5.blk 1 rfl
      simp (disch := omega) only [go_sem, c0, storeH, storeB, splice]
      exact ⟨_, ((S5.sw.setK _).sw.ofFlat (sz := 2) (n := d.list.length + 1) (by rw [hpm]; simp; omega) (flat_G _)).sw⟩
end Go.Av
