/- PowerFail and Restore at valid devices. No condition. -/
import Derived.Test.YtdlanjhcabcagaaD7Draw
namespace Go.Av
open Go.Proofs Go.RowKit
set_option linter.unusedVariables false
set_option linter.unusedSimpArgs false
set_option maxRecDepth 100000
set_option maxHeartbeats 4000000
theorem pow_f (d : Device) (hd : devOk d = true) : F Try.prog 10 [.agg (encDevice d)] (.agg (encDevice ⟨[0, 0, 0, 0], d.list⟩)) := by
  have dl := devOk_len hd
  have S0 : Sep ([[[.lst 1 (d.regs.map encI), .lst 2 (d.list.map encSetting)]], [[.nils, .nils]]] : Heap) [.k 1 [[.nils, .nils]], .k 0 [[.lst 1 (d.regs.map encI), .lst 2 (d.list.map encSetting)]]] := ((Sep.nil []).newK _).newK _
  refine C.by mixed (cfn_ok Try.func10 ok10) rfl ?_
  simp (disch := omega) only [s10, go_sem, encDevice]
  refine S0.goDev (copyDev_f d (by omega) (by omega)) (.same (refs_dev1 _ _)) fun vr vl h1 x1 S1 zr zl => ?_
  have S2 := S1.newK [[vr, vl]]
  have b0 := S2.blk 4 rfl
  have b3 := S2.blk 0 rfl
  simp (disch := omega) only [go_sem, zr.1, zr.2.1, zr.2.2, zl.1, zl.2.1, zl.2.2, b0, b3]
  refine CP.go (devOk_c d (by omega) (by omega)) rfl (refs_dev1 _ _) ?_
  simp (disch := omega) only [go_sem, hd, zr.1, zr.2.1, zr.2.2, zl.1, zl.2.1, zl.2.2, b0, b3]
  refine Or.elim ((S2.pull 1).flat_ (flat_encI _)) (fun q => ?_) fun q => ?_
  · have := congrArg List.length q.2.1
    simp only [List.length_map, List.length_nil] at this
    omega
  refine Exists.elim q fun id q => ?_
  have hvr := q.1
  have S3 : Sep (h1 ++ [[[vr, vl]]]) [.k id (d.regs.map encI), .k h1.length [[vr, vl]], .v (.lst 2 (d.list.map encSetting)) vl, .k 1 [[.nils, .nils]], .k 0 [[.lst 1 (d.regs.map encI), .lst 2 (d.list.map encSetting)]]] := q.2
  clear q
  rw [List.length_map, dl.1] at hvr
  subst hvr
  have i0 := S3.blk 0 rfl
  have hln : (d.regs.map encI).length = 4 := by simpa using dl.1
  have hz : (d.regs.map encI).drop 4 = [] := List.drop_eq_nil_of_le (by omega)
  have S4 := S3.setK [[.int .i64 0], [.int .i64 0], [.int .i64 0], [.int .i64 0]]
  have c3 := S4.blk 1 rfl
  have c1 := S4.blk 3 rfl
  have c1' := fun t => heap_set t c1
  simp (disch := omega) only [go_sem, hd, zl.1, zl.2.1, zl.2.2, b0, b3, i0, hln, hz, c3]
  simp (disch := omega) only [go_sem, hd, zl.1, zl.2.1, zl.2.2, c3, c1, c1', storeH, storeB, splice]
  exact ((((S4.pick [3, 0, 2] (by decide)).setK [[.own id 1 0 4 4, vl]]).drop1).ofFlat (sz := 1) (n := 4) rfl rfl).retD (d := ⟨[0, 0, 0, 0], d.list⟩)
def resM (r : List Int) (l : List Setting) : List Int := l.foldl (fun r s => r.set s.reg.toNat s.val) r
theorem resM_len (l : List Setting) : ∀ r : List Int, (resM r l).length = r.length := by
  induction l with
  | nil => intro r; rfl
  | cons s l ih => intro r; show (resM (r.set s.reg.toNat s.val) l).length = _; rw [ih, List.length_set]
theorem resM_take {r : List Int} {l : List Setting} {k : Nat} (hk : k < l.length) : resM r (l.take (k + 1)) = (resM r (l.take k)).set l[k].reg.toNat l[k].val := by
  unfold resM; rw [List.take_succ_eq_append_getElem hk, List.foldl_append]; rfl
theorem listOk_mem : ∀ {l : List Setting} {a : Int}, listOk a l = true → ∀ s ∈ l, a < s.reg ∧ s.reg ≤ 3
  | [], _, _, _, h => absurd h List.not_mem_nil
  | t :: r, a, hl, s, h => by
    simp only [listOk, within, Bool.and_eq_true, decide_eq_true_eq] at hl
    rcases List.mem_cons.1 h with rfl | h
    · omega
    · have := listOk_mem hl.2 s h; omega
theorem res_f (d : Device) (hd : devOk d = true) : F Try.prog 9 [.agg (encDevice d)] (.agg (encDevice ⟨resM d.regs d.list, d.list⟩)) := by
  have dl := devOk_len hd
  have hm := listOk_mem (devOk_iff.1 hd).2.2
  have S0 : Sep ([[[.lst 1 (d.regs.map encI), .lst 2 (d.list.map encSetting)]], [[.nils, .nils]]] : Heap) [.k 1 [[.nils, .nils]], .k 0 [[.lst 1 (d.regs.map encI), .lst 2 (d.list.map encSetting)]]] := ((Sep.nil []).newK _).newK _
  refine C.by mixed (cfn_ok Try.func9 ok9) rfl ?_
  simp (disch := omega) only [s9, go_sem, encDevice]
  refine S0.goDev (copyDev_f d (by omega) (by omega)) (.same (refs_dev1 _ _)) fun vr vl h1 x1 S1 zr zl => ?_
  have S2 := S1.newK [[vr, vl]]
  have b0 := S2.blk 4 rfl
  have b3 := S2.blk 0 rfl
  simp (disch := omega) only [go_sem, zr.1, zr.2.1, zr.2.2, zl.1, zl.2.1, zl.2.2, b0, b3]
  refine CP.go (devOk_c d (by omega) (by omega)) rfl (refs_dev1 _ _) ?_
  simp (disch := omega) only [go_sem, hd, zr.1, zr.2.1, zr.2.2, zl.1, zl.2.1, zl.2.2, b0, b3]
  refine Or.elim ((S2.pull 1).flat_ (flat_encI _)) (fun q => ?_) fun q => ?_
  · have := congrArg List.length q.2.1
    simp only [List.length_map, List.length_nil] at this
    omega
  refine Exists.elim q fun id q => ?_
  have hvr := q.1
  have S3 : Sep (h1 ++ [[[vr, vl]]]) [.k id (d.regs.map encI), .k h1.length [[vr, vl]], .v (.lst 2 (d.list.map encSetting)) vl, .k 1 [[.nils, .nils]], .k 0 [[.lst 1 (d.regs.map encI), .lst 2 (d.list.map encSetting)]]] := q.2
  clear q
  rw [List.length_map, dl.1] at hvr
  subst hvr
  refine loopP_intro (fun m s => ∃ k : Nat, k ≤ d.list.length ∧ m = d.list.length - k ∧ s.e 1 = .ptr 0 1 0 0 ∧ s.e 2 = .ptr 1 1 0 0 ∧ s.e 3 = .ptr h1.length 1 0 0 ∧ s.e 11 = .lst 2 (d.list.map encSetting) ∧ s.e 12 = .int .i64 d.list.length ∧ s.e 13 = .int .i64 k ∧ Sep s.h [.k id ((resM d.regs (d.list.take k)).map encI), .k h1.length [[.own id 1 0 4 4, vl]], .v (.lst 2 (d.list.map encSetting)) vl, .k 1 [[.nils, .nils]]]) d.list.length ⟨0, by omega, by omega, by simp (disch := omega) only [go_sem, hd, zr.1, zr.2.1, zr.2.2, zl.1, zl.2.1, zl.2.2, b0, b3], by simp (disch := omega) only [go_sem, hd, zr.1, zr.2.1, zr.2.2, zl.1, zl.2.1, zl.2.2, b0, b3], by simp (disch := omega) only [go_sem, hd, zr.1, zr.2.1, zr.2.2, zl.1, zl.2.1, zl.2.2, b0, b3], by simp (disch := omega) only [go_sem, hd, zr.1, zr.2.1, zr.2.2, zl.1, zl.2.1, zl.2.2, b0, b3], by simp (disch := omega) only [go_sem, hd, zr.1, zr.2.1, zr.2.2, zl.1, zl.2.1, zl.2.2, b0, b3] <;> rfl, by simp (disch := omega) only [go_sem, hd, zr.1, zr.2.1, zr.2.2, zl.1, zl.2.1, zl.2.2, b0, b3] <;> rfl, S3.drop 4⟩ ?_
  rintro m e hp ⟨k, hk, rfl, e1, e2, e3, e11, e12, e13, S4⟩
  simp only at e1 e2 e3 e11 e12 e13 S4
  simp (disch := omega) only [go_sem, e1, e2, e3, e11, e12, e13]
  refine condP_dec (fun hlt => ?_) (fun hlt => ?_)
  · have hlt' : k < d.list.length := by omega
    have hg : d.list[k]? = some d.list[k] := List.getElem?_eq_getElem hlt'
    have hmk := hm _ (List.getElem_mem hlt')
    have S5 := S4.newK [[.int .i64 d.list[k].reg, .int .i64 d.list[k].val]]
    have p0 := S5.blk 0 rfl
    have p2 := S5.blk 2 rfl
    have st := store_i (h := hp ++ [[[.int .i64 d.list[k].reg, .int .i64 d.list[k].val]]]) (id := id) (n := 4) (i := d.list[k].reg.toNat) (zs := resM d.regs (d.list.take k)) (z := d.list[k].val) (S5.blk 1 rfl) (by rw [resM_len]; exact dl.1) (by omega)
    have S6 := (S5.drop1).setK (((resM d.regs (d.list.take k)).set d.list[k].reg.toNat d.list[k].val).map encI)
    rw [← resM_take hlt'] at st S6
    simp (disch := omega) only [go_sem, e1, e2, e3, e11, e12, e13, hg, List.getElem?_map, encSetting, p0, p2, st]
    exact nextP_intro (d.list.length - (k + 1)) (by omega) ⟨k + 1, by omega, rfl, by simp (disch := omega) only [go_sem, e1, e2, e3, e11, e12, e13, hg, List.getElem?_map, encSetting, p0, p2, st], by simp (disch := omega) only [go_sem, e1, e2, e3, e11, e12, e13, hg, List.getElem?_map, encSetting, p0, p2, st], by simp (disch := omega) only [go_sem, e1, e2, e3, e11, e12, e13, hg, List.getElem?_map, encSetting, p0, p2, st], by simp (disch := omega) only [go_sem, e1, e2, e3, e11, e12, e13, hg, List.getElem?_map, encSetting, p0, p2, st], by simp (disch := omega) only [go_sem, e1, e2, e3, e11, e12, e13, hg, List.getElem?_map, encSetting, p0, p2, st], by simp (disch := omega) only [go_sem, e1, e2, e3, e11, e12, e13, hg, List.getElem?_map, encSetting, p0, p2, st] <;> rfl, S6⟩
  · have hke : k = d.list.length := by omega
    subst hke
    rw [List.take_length] at S4
    have c3 := S4.blk 1 rfl
    have c1 := S4.blk 3 rfl
    have c1' := fun t => heap_set t c1
    simp (disch := omega) only [go_sem, e1, e2, e3, zl.1, zl.2.1, zl.2.2, c3, c1, c1', storeH, storeB, splice]
    exact ((((S4.pick [3, 0, 2] (by decide)).setK [[.own id 1 0 4 4, vl]]).drop1).ofFlat (sz := 1) (n := 4) (by rw [List.length_map, resM_len]; exact dl.1) (flat_encI _)).retD (d := ⟨resM d.regs d.list, d.list⟩)
end Go.Av
