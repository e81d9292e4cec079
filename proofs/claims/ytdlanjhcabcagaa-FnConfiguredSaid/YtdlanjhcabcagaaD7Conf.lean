/- Configure, the asked one. No condition. -/
import Derived.Test.YtdlanjhcabcagaaD7Cfg
namespace Go.Av
open Go.Proofs Go.RowKit
set_option linter.unusedVariables false
set_option linter.unusedSimpArgs false
set_option maxRecDepth 100000
set_option maxHeartbeats 4000000
def cfgB (d : Device) (s : Setting) (n : Int) : Bool := devOk d && isStg s && within n 0 2
def cfgM (d : Device) (s : Setting) (n : Int) : Device := if cfgB d s n = true then ⟨if 1 < n then d.regs.set s.reg.toNat s.val else d.regs, if 0 < n then putM d.list s else d.list⟩ else d
theorem Sep.retDB {h : Heap} {d : Device} {vr vl : V} {b : Bool} {L : List It} (S : Sep h (.v (.lst 1 (d.regs.map encI)) vr :: .v (.lst 2 (d.list.map encSetting)) vl :: L)) : ∃ ids : List Nat, ids.Nodup ∧ OwnsR h (.tup [.agg (encDevice d), .bool b]) (.tup [.agg [vr, vl], .bool b]) ids := by
  have A1 := Sep.cons2 (fun es e => by cases e) (Sep.sw (Sep.l0 (S.sw)))
  exact (Sep.cons2 (fun es e => by cases e) (Sep.sw (Sep.lb (z := b) (Sep.l0 ((Sep.cons2 (fun es e => by cases e) (Sep.sw A1)).a))))).t.ret
theorem cfg_s (d : Device) (s : Setting) (n : Int) (hr : d.regs.length ≤ 1048576) (hl : d.list.length ≤ 1048576) : F Try.prog 13 [.agg (encDevice d), .agg (encSetting s), .int .i64 n] (.tup [.agg (encDevice (cfgM d s n)), .bool (cfgB d s n)]) := by
  have S0 : Sep ([[[.lst 1 (d.regs.map encI), .lst 2 (d.list.map encSetting)]], [[.int .i64 s.reg, .int .i64 s.val]], [[.nils, .nils]]] : Heap) [.k 2 [[.nils, .nils]]] := ((((Sep.nil []).newK _).newK _).newK _).drop 1 |>.drop 1
  refine C.by mixed (cfn_ok Try.func13 ok13) rfl ?_
  simp (disch := omega) only [s13, go_sem, encDevice, encSetting]
  refine S0.goDev (l26Copy_f d hr (by omega)) (.same (refs_dev1 _ _)) fun vr vl h1 x1 S1 zr zl => ?_
  have b0 := fun t => heap_app (h' := t) (x1.get (i := 0) rfl)
  have b1 := fun t => heap_app (h' := t) (x1.get (i := 1) rfl)
  have S2 := S1.newK [[vr, vl]]
  have b3 := S2.blk 0 rfl
  simp (disch := omega) only [go_sem, zr.1, zr.2.1, zr.2.2, zl.1, zl.2.1, zl.2.2, b0, b1, b3]
  refine CP.go (devOk_s d (by omega) (by omega)) rfl (refs_dev1 _ _) ?_
  simp (disch := omega) only [go_sem, zr.1, zr.2.1, zr.2.2, zl.1, zl.2.1, zl.2.2, b0, b1, b3]
  have b2 := S2.blk 3 rfl
  have b2' := fun t => heap_set (h := h1 ++ [[[vr, vl]]]) t b2
  have bad : cfgB d s n = false → ∃ ids : List Nat, ids.Nodup ∧ OwnsR ((h1 ++ [[[vr, vl]]]).set 2 [[vr, vl]]) (.tup [.agg (encDevice (cfgM d s n)), .bool (cfgB d s n)]) (.tup [.agg [vr, vl], .bool false]) ids := fun hq => by
    rw [cfgM, hq, if_neg (by simp)]
    exact (((S2.pull 3).setK [[vr, vl]]).drop1.drop1).retDB
  refine condP_split (fun hd => ?_) (fun hd => ?_)
  case' refine_2 =>
    simp (disch := omega) only [go_sem, hd, zr.1, zr.2.1, zr.2.2, zl.1, zl.2.1, zl.2.2, b0, b1, b2, b2', b3, storeH, storeB, splice]
    exact bad (by simp [cfgB, hd])
  simp (disch := omega) only [go_sem, hd, zr.1, zr.2.1, zr.2.2, zl.1, zl.2.1, zl.2.2, b0, b1, b3]
  refine CP.go (l01In_c _ _ _) rfl rfl ?_
  simp (disch := omega) only [go_sem, hd, zr.1, zr.2.1, zr.2.2, zl.1, zl.2.1, zl.2.2, b0, b1, b3]
  refine condP_split (fun hw => ?_) (fun hw => ?_)
  case' refine_2 =>
    simp (disch := omega) only [go_sem, hd, hw, zr.1, zr.2.1, zr.2.2, zl.1, zl.2.1, zl.2.2, b0, b1, b2, b2', b3, storeH, storeB, splice]
    exact bad (by simp [cfgB, isStg, hd, hw])
  simp (disch := omega) only [go_sem, hd, hw, zr.1, zr.2.1, zr.2.2, zl.1, zl.2.1, zl.2.2, b0, b1, b3]
  refine CP.go (isValue_s _) rfl rfl ?_
  simp (disch := omega) only [go_sem, hd, hw, zr.1, zr.2.1, zr.2.2, zl.1, zl.2.1, zl.2.2, b0, b1, b3]
  refine condP_split (fun hv => ?_) (fun hv => ?_)
  case' refine_2 =>
    simp (disch := omega) only [go_sem, hd, hw, hv, zr.1, zr.2.1, zr.2.2, zl.1, zl.2.1, zl.2.2, b0, b1, b2, b2', b3, storeH, storeB, splice]
    exact bad (by simp [cfgB, isStg, hd, hw, hv])
  simp (disch := omega) only [go_sem, hd, hw, hv, zr.1, zr.2.1, zr.2.2, zl.1, zl.2.1, zl.2.2, b0, b1, b3]
  refine CP.go (l01In_c _ _ _) rfl rfl ?_
  simp (disch := omega) only [go_sem, hd, hw, hv, zr.1, zr.2.1, zr.2.2, zl.1, zl.2.1, zl.2.2, b0, b1, b3]
  refine condP_split (fun hn => ?_) (fun hn => ?_)
  case' refine_2 =>
    simp (disch := omega) only [go_sem, hd, hw, hv, hn, zr.1, zr.2.1, zr.2.2, zl.1, zl.2.1, zl.2.2, b0, b1, b2, b2', b3, storeH, storeB, splice]
    exact bad (by simp [cfgB, hn])
  have hq : cfgB d s n = true := by simp [cfgB, isStg, hd, hw, hv, hn]
  have hn' : 0 ≤ n ∧ n ≤ 2 := by simpa [within] using hn
  have hw' : 0 ≤ s.reg ∧ s.reg ≤ 3 := by simpa [within] using hw
  have h4 : d.regs.length = 4 := by have := hd; simp only [devOk, Bool.and_eq_true, decide_eq_true_eq] at this; omega
  simp (disch := omega) only [go_sem, hd, hw, hv, hn, zr.1, zr.2.1, zr.2.2, zl.1, zl.2.1, zl.2.2, b0, b1, b3]
  refine condP_dec (fun hn1 => ?_) (fun hn1 => ?_)
  case' refine_2 =>
    simp (disch := omega) only [go_sem, hn1, zr.1, zr.2.1, zr.2.2, zl.1, zl.2.1, zl.2.2, b0, b1, b3]
    simp (disch := omega) only [go_sem, hn1, zr.1, zr.2.1, zr.2.2, zl.1, zl.2.1, zl.2.2, b0, b1, b2, b2', b3, storeH, storeB, splice]
    have hm : cfgM d s n = d := by rw [cfgM, hq, if_pos rfl, if_neg (by omega), if_neg (by omega)]
    rw [hm, hq]
    exact (((S2.pull 3).setK [[vr, vl]]).drop1.drop1).retDB
  simp (disch := omega) only [go_sem, hn1, zr.1, zr.2.1, zr.2.2, zl.1, zl.2.1, zl.2.2, b0, b1, b3]
  refine S2.goLst (l26Put_f d.list s (by omega)) (.cons (S2.snap 2 rfl) (.cons (.same _ rfl) (.nil _))) fun vp h2 x2 S3 po pn pc => ?_
  have d1 := x2.get (b1 [[[vr, vl]]])
  have d3 := S3.blk 1 rfl
  have S4 : Sep (h2.set h1.length [[vr, vp]]) [.k h1.length [[vr, vp]], .v (.lst 1 (d.regs.map encI)) vr, .v (.lst 2 ((putM d.list s).map encSetting)) vp, .k 2 [[.nils, .nils]]] := (S3.pick [1, 2, 0, 4] (by decide)).setK [[vr, vp]]
  have d3' := fun t => heap_set (h := h2) t d3
  have d1' : (h2.set h1.length [[vr, vp]])[1]? = some [[.int .i64 s.reg, .int .i64 s.val]] := by
    have : 1 < h1.length := (List.getElem?_eq_some_iff.1 (x1.get (i := 1) rfl)).1
    rw [List.getElem?_set_ne (by omega)]; exact d1
  simp (disch := omega) only [go_sem, hn1, zr.1, zr.2.1, zr.2.2, zl.1, zl.2.1, zl.2.2, po, pn, pc, d1, d1', d3, d3', storeH, storeB, splice]
  have d2 := S4.blk 3 rfl
  have d2' := fun t => heap_set (h := h2.set h1.length [[vr, vp]]) t d2
  refine condP_dec (fun hn2 => ?_) (fun hn2 => ?_)
  case' refine_2 =>
    simp (disch := omega) only [go_sem, hn1, hn2, zr.1, zr.2.1, zr.2.2, zl.1, zl.2.1, zl.2.2, po, pn, pc, d1, d1', d2, d2', d3, d3', storeH, storeB, splice]
    have hm : cfgM d s n = ⟨d.regs, putM d.list s⟩ := by rw [cfgM, hq, if_pos rfl, if_neg (by omega), if_pos (by omega)]
    rw [hm, hq]
    exact (((S4.pull 3).setK [[vr, vp]]).drop1.drop1).retDB (d := ⟨d.regs, putM d.list s⟩)
  subst hn2
  refine Or.elim ((S4.pull 1).flat_ (flat_encI _)) (fun q => ?_) fun q => ?_
  · have := congrArg List.length q.2.1
    simp only [List.length_map, List.length_nil] at this
    omega
  refine Exists.elim q fun id q => ?_
  have hvr := q.1
  have S5 : Sep (h2.set h1.length [[vr, vp]]) [.k id (d.regs.map encI), .k h1.length [[vr, vp]], .v (.lst 2 ((putM d.list s).map encSetting)) vp, .k 2 [[.nils, .nils]]] := q.2
  clear q
  rw [List.length_map, h4] at hvr
  have i0 := S5.blk 0 rfl
  have st := store_i (h := h2.set h1.length [[vr, vp]]) (id := id) (n := 4) (i := s.reg.toNat) (zs := d.regs) (z := s.val) i0 h4 (by omega)
  have S6 := S5.setK ((d.regs.set s.reg.toNat s.val).map encI)
  have c3 := S6.blk 1 rfl
  have c2 := S6.blk 3 rfl
  have c2' := fun t => heap_set t c2
  subst hvr
  simp (disch := omega) only [go_sem, hn1, zl.1, zl.2.1, zl.2.2, po, pn, pc, d1, d1', d2, d2', d3, d3', st, c3]
  simp (disch := omega) only [go_sem, hn1, zl.1, zl.2.1, zl.2.2, po, pn, pc, d1, d1', d2, d2', d3, d3', st, c3, c2, c2', storeH, storeB, splice]
  have hm : cfgM d s 2 = ⟨d.regs.set s.reg.toNat s.val, putM d.list s⟩ := by rw [cfgM, hq, if_pos rfl, if_pos (by omega), if_pos (by omega)]
  rw [hm, hq]
  exact (((S6.pick [3, 0, 2] (by decide)).setK [[.own id 1 0 4 4, vp]]).drop1.ofFlat (sz := 1) (n := 4) (by simp [h4]) (flat_encI _)).retDB (d := ⟨d.regs.set s.reg.toNat s.val, putM d.list s⟩)
end Go.Av
