/- Configure, the written one. No condition. -/
import Derived.Test.YtdlanjhcabcagaaD7Keep
namespace Go.Av
open Go.Proofs Go.RowKit
set_option linter.unusedVariables false
set_option linter.unusedSimpArgs false
set_option maxRecDepth 100000
set_option maxHeartbeats 4000000
theorem cfg_c (d : Device) (s : Setting) (n : Int) (hr : d.regs.length ≤ 1048576) (hl : d.list.length ≤ 1048576) : F Try.prog 8 [.agg (encDevice d), .agg (encSetting s), .int .i64 n] (.tup [.agg (encDevice (cfgM d s n)), .bool (cfgB d s n)]) := by
  have S0 : Sep ([[[.lst 1 (d.regs.map encI), .lst 2 (d.list.map encSetting)]], [[.int .i64 s.reg, .int .i64 s.val]], [[.nils, .nils]]] : Heap) [.k 2 [[.nils, .nils]], .k 1 [[.int .i64 s.reg, .int .i64 s.val]]] := (((((Sep.nil []).newK _).newK _).newK _).pick [0, 1] (by decide))
  refine C.by mixed (cfn_ok Try.func8 ok8) rfl ?_
  simp (disch := omega) only [s8, go_sem, encDevice, encSetting]
  refine S0.goDev (copyDev_f d hr (by omega)) (.same (refs_dev1 _ _)) fun vr vl h1 x1 S1 zr zl => ?_
  have b0 := fun t => heap_app (h' := t) (x1.get (i := 0) rfl)
  have b1 := fun t => heap_app (h' := t) (x1.get (i := 1) rfl)
  have S2 := S1.newK [[vr, vl]]
  have b3 := S2.blk 0 rfl
  simp (disch := omega) only [go_sem, zr.1, zr.2.1, zr.2.2, zl.1, zl.2.1, zl.2.2, b0, b1, b3]
  refine CP.go (devOk_c d (by omega) (by omega)) rfl (refs_dev1 _ _) ?_
  simp (disch := omega) only [go_sem, zr.1, zr.2.1, zr.2.2, zl.1, zl.2.1, zl.2.2, b0, b1, b3]
  have b2 := S2.blk 3 rfl
  have b2' := fun t => heap_set (h := h1 ++ [[[vr, vl]]]) t b2
  have bad : cfgB d s n = false → ∃ ids : List Nat, ids.Nodup ∧ OwnsR ((h1 ++ [[[vr, vl]]]).set 2 [[vr, vl]]) (.tup [.agg (encDevice (cfgM d s n)), .bool (cfgB d s n)]) (.tup [.agg [vr, vl], .bool false]) ids := fun hq => by
    rw [cfgM, hq, if_neg (by simp)]
    exact (((S2.pull 3).setK [[vr, vl]]).drop1.drop1).retDB
  refine condP_split (fun hd => ?_) (fun hd => ?_)
  case' refine_2 =>
    simp (disch := omega) only [go_sem, hd, zr.1, zr.2.1, zr.2.2, zl.1, zl.2.1, zl.2.2, b0, b1, b2, b2', b3, storeH, storeB, splice]
    exact bad (by simp [cfgB, hd])
  simp (disch := omega) only [go_sem, hd, zr.1, zr.2.1, zr.2.2, zl.1, zl.2.1, zl.2.2, b0, b1, b3]
  refine CP.go (isStg_c s) rfl rfl ?_
  simp (disch := omega) only [go_sem, hd, zr.1, zr.2.1, zr.2.2, zl.1, zl.2.1, zl.2.2, b0, b1, b3]
  refine condP_split (fun hv => ?_) (fun hv => ?_)
  case' refine_2 =>
    simp (disch := omega) only [go_sem, hd, hv, zr.1, zr.2.1, zr.2.2, zl.1, zl.2.1, zl.2.2, b0, b1, b2, b2', b3, storeH, storeB, splice]
    exact bad (by simp [cfgB, hd, hv])
  simp (disch := omega) only [go_sem, hd, hv, zr.1, zr.2.1, zr.2.2, zl.1, zl.2.1, zl.2.2, b0, b1, b3]
  refine CP.go (within_c _ _ _) rfl rfl ?_
  simp (disch := omega) only [go_sem, hd, hv, zr.1, zr.2.1, zr.2.2, zl.1, zl.2.1, zl.2.2, b0, b1, b3]
  refine condP_split (fun hn => ?_) (fun hn => ?_)
  case' refine_2 =>
    simp (disch := omega) only [go_sem, hd, hv, hn, zr.1, zr.2.1, zr.2.2, zl.1, zl.2.1, zl.2.2, b0, b1, b2, b2', b3, storeH, storeB, splice]
    exact bad (by simp [cfgB, hn])
  have hq : cfgB d s n = true := by simp [cfgB, hd, hv, hn]
  have hn' : 0 ≤ n ∧ n ≤ 2 := by simpa [within] using hn
  have hw' : 0 ≤ s.reg ∧ s.reg ≤ 3 := by
    have := hv; simp only [isStg, within, Bool.and_eq_true, decide_eq_true_eq] at this; exact this.1
  have h4 : d.regs.length = 4 := by have := hd; simp only [devOk, Bool.and_eq_true, decide_eq_true_eq] at this; omega
  simp (disch := omega) only [go_sem, hd, hv, hn, zr.1, zr.2.1, zr.2.2, zl.1, zl.2.1, zl.2.2, b0, b1, b3]
  refine condP_dec (fun hn1 => ?_) (fun hn1 => ?_)
  case' refine_2 =>
    simp (disch := omega) only [go_sem, hn1, zr.1, zr.2.1, zr.2.2, zl.1, zl.2.1, zl.2.2, b0, b1, b3]
    simp (disch := omega) only [go_sem, hn1, zr.1, zr.2.1, zr.2.2, zl.1, zl.2.1, zl.2.2, b0, b1, b2, b2', b3, storeH, storeB, splice]
    have hm : cfgM d s n = d := by rw [cfgM, hq, if_pos rfl, if_neg (by omega), if_neg (by omega)]
    rw [hm, hq]
    exact (((S2.pull 3).setK [[vr, vl]]).drop1.drop1).retDB
  simp (disch := omega) only [go_sem, hn1, zr.1, zr.2.1, zr.2.2, zl.1, zl.2.1, zl.2.2, b0, b1, b3]
  refine C.go (keep_c d vr vl h1.length s _ (S2.pick [0, 2, 1, 3, 4] (by decide)) hl) ?_
  rintro r h2 ⟨rfl, vp, S3⟩
  have S4 : Sep h2 [.k h1.length [[vr, vp]], .v (.lst 1 (d.regs.map encI)) vr, .v (.lst 2 ((putM d.list s).map encSetting)) vp, .k 2 [[.nils, .nils]], .k 1 [[.int .i64 s.reg, .int .i64 s.val]]] := S3.pick [0, 2, 1, 3, 4] (by decide)
  have d3 := S4.blk 0 rfl
  have zp := S4.vv 2 rfl
  have d1 := S4.blk 4 rfl
  have d2 := S4.blk 3 rfl
  have d2' := fun t => heap_set t d2
  simp (disch := omega) only [go_sem, hn1, zr.1, zr.2.1, zr.2.2, zp.1, zp.2.1, zp.2.2, d1, d3]
  refine condP_dec (fun hn2 => ?_) (fun hn2 => ?_)
  case' refine_2 =>
    simp (disch := omega) only [go_sem, hn1, hn2, zr.1, zr.2.1, zr.2.2, zp.1, zp.2.1, zp.2.2, d1, d2, d2', d3, storeH, storeB, splice]
    have hm : cfgM d s n = ⟨d.regs, putM d.list s⟩ := by rw [cfgM, hq, if_pos rfl, if_neg (by omega), if_pos (by omega)]
    rw [hm, hq]
    exact (((S4.pull 3).setK [[vr, vp]]).drop1.drop1).retDB (d := ⟨d.regs, putM d.list s⟩)
  have hn2' : n = 2 := by omega
  subst hn2'
  refine Or.elim ((S4.pull 1).flat_ (flat_encI _)) (fun q => ?_) fun q => ?_
  · have := congrArg List.length q.2.1
    simp only [List.length_map, List.length_nil] at this
    omega
  refine Exists.elim q fun id q => ?_
  have hvr := q.1
  have S5 : Sep h2 [.k id (d.regs.map encI), .k h1.length [[vr, vp]], .v (.lst 2 ((putM d.list s).map encSetting)) vp, .k 2 [[.nils, .nils]], .k 1 [[.int .i64 s.reg, .int .i64 s.val]]] := q.2
  clear q
  rw [List.length_map, h4] at hvr
  have i0 := S5.blk 0 rfl
  have st := store_i (h := h2) (id := id) (n := 4) (i := s.reg.toNat) (zs := d.regs) (z := s.val) i0 h4 (by omega)
  have S6 := S5.setK ((d.regs.set s.reg.toNat s.val).map encI)
  have c3 := S6.blk 1 rfl
  have c2 := S6.blk 3 rfl
  have c2' := fun t => heap_set t c2
  subst hvr
  simp (disch := omega) only [go_sem, hn1, zp.1, zp.2.1, zp.2.2, d1, d3, st, c3]
  simp (disch := omega) only [go_sem, hn1, zp.1, zp.2.1, zp.2.2, st, c3, c2, c2', storeH, storeB, splice]
  have hm : cfgM d s 2 = ⟨d.regs.set s.reg.toNat s.val, putM d.list s⟩ := by rw [cfgM, hq, if_pos rfl, if_pos (by omega), if_pos (by omega)]
  rw [hm, hq]
  exact (((S6.pick [3, 0, 2] (by decide)).setK [[.own id 1 0 4 4, vp]]).drop1.ofFlat (sz := 1) (n := 4) (by simp [h4]) (flat_encI _)).retDB (d := ⟨d.regs.set s.reg.toNat s.val, putM d.list s⟩)
end Go.Av
