/- What the laws do with whole devices. No condition. -/
import Derived.Test.YtdlanjhcabcagaaD7Types
namespace Go.Av
open Go.Proofs Go.RowKit
set_option linter.unusedVariables false
set_option linter.unusedSimpArgs false
set_option maxRecDepth 100000
set_option maxHeartbeats 4000000
theorem refs_intI (n : Nat) (xs : List Int) (z : Int) : V.refsL n [.lst 1 (xs.map encI), .int .i64 z] = true := refs_ints _ _ _ rfl
theorem refs_setI (n : Nat) (xs : List Setting) (z : Int) : V.refsL n [.lst 2 (xs.map encSetting), .int .i64 z] = true := by simp only [V.refsL, refs_GS]; rfl
theorem refs_int2 (n : Nat) (xs ys : List Int) : V.refsL n [.lst 1 (xs.map encI), .lst 1 (ys.map encI)] = true := by simp [V.refsL, V.refs, refsLL_map encI (fun _ => rfl) xs, refsLL_map encI (fun _ => rfl) ys]
theorem refs_set2 (n : Nat) (xs ys : List Setting) : V.refsL n [.lst 2 (xs.map encSetting), .lst 2 (ys.map encSetting)] = true := by simp only [V.refsL, refs_GS, Bool.and_true]
def szD (d : Device) (left : Int) : Int := if szM d.regs.length left < 0 then -1 else if szM d.list.length (szM d.regs.length left) < 0 then -1 else szM d.list.length (szM d.regs.length left)
theorem szD_ok {d : Device} {left : Int} (hl : 0 ≤ left ∧ left ≤ 1048576) (h : ¬ szD d left < 0) : d.regs.length ≤ 1048576 ∧ d.list.length ≤ 1048576 ∧ (d.regs.length : Int) + d.list.length ≤ left := by
  unfold szD at h
  split at h
  · omega
  · split at h
    · omega
    · rename_i a b
      unfold szM at *
      split at a
      · omega
      · split at b
        · omega
        · omega
theorem szDev_c (d : Device) (left : Int) (hr : d.regs.length ≤ 9223372036854775807) (hx : d.list.length ≤ 9223372036854775807) (hl : 0 ≤ left ∧ left ≤ 1048576) : CP Try.prog 12 [.agg (encDevice d), .int .i64 left] (.int .i64 (szD d left)) [] := by
  have b1 := szM_bd d.regs.length left hl
  refine CP.by rfl mixed (cfn_ok Try.func12 ok12) rfl ?_
  simp (disch := omega) only [s12, go_sem, encDevice]
  refine CP.go (szIntS_c d.regs left hr hl) rfl (refs_intI _ _ _) ?_
  simp (disch := omega) only [go_sem, encDevice]
  refine condP_dec (fun h => ?_) (fun h => ?_)
  · simp (disch := omega) only [go_sem, h]
    rw [szD, if_pos h]
  · simp (disch := omega) only [go_sem, h]
    refine CP.go (szSettingS_c d.list _ hx (by omega)) rfl (refs_setI _ _ _) ?_
    simp (disch := omega) only [go_sem, h]
    refine condP_dec (fun h2 => ?_) (fun h2 => ?_)
    · simp (disch := omega) only [go_sem, h, h2]
      rw [szD, if_neg h, if_pos h2]
    · simp (disch := omega) only [go_sem, h, h2]
      rw [szD, if_neg h, if_neg h2]
theorem toDev_f (d : Device) (hr : d.regs.length ≤ 1048576) (hl : d.list.length ≤ 1048576) : F Try.prog 14 [.agg (encDevice d)] (.agg (encDevice d)) := by
  have S0 : Sep ([[[.lst 1 (d.regs.map encI), .lst 2 (d.list.map encSetting)]], [[.nils, .nils]], [[.nils, .nils]]] : Heap) [.k 2 [[.nils, .nils]], .k 1 [[.nils, .nils]], .k 0 [[.lst 1 (d.regs.map encI), .lst 2 (d.list.map encSetting)]]] := (((Sep.nil []).newK _).newK _).newK _
  refine C.by mixed (cfn_ok Try.func14 ok14) rfl ?_
  simp (disch := omega) only [s14, go_sem, encDevice]
  refine S0.goLst (toIntS_f d.regs hr) (.same (refs_int1 _ _)) fun v1 h1 x1 S1 o1 n1 c1 => ?_
  have S2 : Sep (h1.set 2 [[v1, .nils]]) [.k 2 [[v1, .nils]], .v (.lst 1 (d.regs.map encI)) v1, .k 1 [[.nils, .nils]], .k 0 [[.lst 1 (d.regs.map encI), .lst 2 (d.list.map encSetting)]]] := (S1.pull 1).setK [[v1, .nils]]
  have a2 := S1.blk 1 rfl
  have b0 := S2.blk 3 rfl
  have b2 := S2.blk 0 rfl
  simp (disch := omega) only [go_sem, o1, n1, c1, a2, b0, b2, storeH, storeB, splice]
  refine S2.goLst (toSettingS_f d.list hl) (.same (refs_set1 _ _)) fun v2 h2 x2 S3 o2 n2 c2 => ?_
  have a3 := S3.blk 1 rfl
  have S4 : Sep (h2.set 2 [[v1, v2]]) [.k 2 [[v1, v2]], .v (.lst 1 (d.regs.map encI)) v1, .v (.lst 2 (d.list.map encSetting)) v2, .k 1 [[.nils, .nils]]] := (S3.pick [1, 2, 0, 3] (by decide)).setK [[v1, v2]]
  have b3 := S4.blk 0 rfl
  have b1 := S4.blk 3 rfl
  have b1' := fun t => heap_set t b1
  simp (disch := omega) only [go_sem, o1, n1, c1, o2, n2, c2, a3, b3, b1, b1', storeH, storeB, splice]
  exact (((S4.pull 3).setK [[v1, v2]]).drop1.drop1).retD
theorem eqDev_c (d : Device) (hr : d.regs.length ≤ 9223372036854775807) (hx : d.list.length ≤ 9223372036854775807) : CP Try.prog 16 [.agg (encDevice d), .agg (encDevice d)] (.bool true) [] := by
  refine CP.by rfl mixed (cfn_ok Try.func16 ok16) rfl ?_
  simp (disch := omega) only [s16, go_sem, encDevice]
  refine CP.go (eqIntS_r d.regs hr) rfl (refs_int2 _ _ _) ?_
  simp (disch := omega) only [go_sem, encDevice]
  refine CP.go (eqSettingS_c d.list hx) rfl (refs_set2 _ _ _) ?_
  simp (disch := omega) only [go_sem, encDevice]
def mkD (k : Int) (d : Device) : Device := ⟨mkI k d.regs.length, mkS (k + d.regs.length) d.list.length⟩
def endD (k : Int) (d : Device) : Int := k + d.regs.length + 2 * d.list.length
theorem markDev_c (h : Heap) (d : Device) (vr vl : V) (k : Int) (L : List It) (S : Sep h (.v (.lst 1 (d.regs.map encI)) vr :: .v (.lst 2 (d.list.map encSetting)) vl :: L)) (hr : d.regs.length ≤ 1048577) (hx : d.list.length ≤ 1048577) (hk : 0 ≤ k ∧ k ≤ 1000000000000) :
    C Try.prog 17 [.agg [vr, vl], .int .i64 k] h (fun r h' => r = .int .i64 (endD k d) ∧ Sep h' (.v (.lst 1 ((mkD k d).regs.map encI)) vr :: .v (.lst 2 ((mkD k d).list.map encSetting)) vl :: L)) := by
  have zr := S.vv 0 rfl
  have zl := S.vv 1 rfl
  have hnh : [V.agg [vr, vl], .int .i64 k].all V.noHole = true := by
    rcases S.flat_ (flat_encI _) with ⟨rfl, _⟩ | ⟨l, rfl, _⟩ <;> rcases (S.pull 1).flat_ (flat_G _) with ⟨rfl, _⟩ | ⟨l, rfl, _⟩ <;> rfl
  refine C.by mixed (cfn_ok Try.func17 ok17) hnh ?_
  simp (disch := omega) only [s17, go_sem, zr.1, zr.2.1, zr.2.2, zl.1, zl.2.1, zl.2.2]
  have S1 := S.newK [[vr, vl]]
  refine C.go (markIntS_c _ d.regs vr k _ (S1.pk (A := [_, _, _]) [1, 0, 2] rfl) (by omega) (by omega)) ?_
  rintro r h2 ⟨rfl, S2⟩
  have b2 := S2.blk 1 rfl
  simp (disch := omega) only [go_sem, zr.1, zr.2.1, zr.2.2, zl.1, zl.2.1, zl.2.2, b2]
  refine C.go (markSettingS_c _ d.list vl _ _ (S2.pk (A := [_, _, _]) [2, 0, 1] rfl) (by omega) (by omega)) ?_
  rintro r h3 ⟨rfl, S3⟩
  simp (disch := omega) only [go_sem, zr.1, zr.2.1, zr.2.2, zl.1, zl.2.1, zl.2.2]
  exact ⟨rfl, S3.pk (A := [_, _, _]) [1, 0] rfl⟩
theorem heldDev_c (d : Device) (k : Int) (hr : d.regs.length ≤ 1048577) (hx : d.list.length ≤ 1048577) (hk : 0 ≤ k ∧ k ≤ 1000000000000) : CP Try.prog 18 [.agg (encDevice (mkD k d)), .int .i64 k] (.int .i64 (endD k d)) [] := by
  refine CP.by rfl mixed (cfn_ok Try.func18 ok18) rfl ?_
  simp (disch := omega) only [s18, go_sem, encDevice, mkD]
  refine CP.go (heldIntS_c d.regs.length k (by omega) (by omega)) rfl (refs_intI _ _ _) ?_
  simp (disch := omega) only [go_sem, encDevice, mkD]
  refine CP.go (heldSettingS_c d.list.length _ (by omega) (by omega)) rfl (refs_setI _ _ _) ?_
  simp (disch := omega) only [go_sem, encDevice, mkD]
  rfl
end Go.Av
