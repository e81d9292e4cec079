/- The law FnExactConfigure. No condition. -/
import Derived.Test.YtdlanjhcabcagaaD7Ty2
namespace Go.Av
open Go.Proofs Go.RowKit
set_option linter.unusedVariables false
set_option linter.unusedSimpArgs false
set_option maxRecDepth 100000
set_option maxHeartbeats 16000000
theorem Sep.goDevB {P : Program} {f : FuncId} {args args' : List V} {d : Device} {b : Bool} {h : Heap} {L : List It} {K : V → Heap → Prop} (S : Sep h L) (hf : F P f args' (.tup [.agg (encDevice d), .bool b])) (hs : Snaps h args args')
    (hk : ∀ vr vl h', Ext h h' → Sep h' (.v (.lst 1 (d.regs.map encI)) vr :: .v (.lst 2 (d.list.map encSetting)) vl :: L) → (V.one vr = true ∧ V.nohole vr = vr ∧ V.cells vr = [vr]) → (V.one vl = true ∧ V.nohole vl = vl ∧ V.cells vl = [vl]) → K (.tup [.agg [vr, vl], .bool b]) h') : @callP P f args h ⟨K⟩ :=
  S.go hf hs fun r h' x S => by
    obtain ⟨_, rfl, S1⟩ := sep_tup.1 S
    obtain ⟨c, _, rfl, S2⟩ := sep_la.1 S1
    obtain ⟨_, rfl, S3⟩ := sep_lb.1 S2.sw
    obtain ⟨rfl, S4⟩ := sep_l0.1 S3
    obtain ⟨vr, vl, e, S5⟩ := (Sep.a S4).openD
    cases e
    exact hk vr vl h' x S5 (S5.vv 0 rfl) (S5.vv 1 rfl)
theorem Sep.devSnap {h : Heap} {L : List It} {d : Device} {vr vl : V} (S : Sep h L) (i j : Nat) (hi : L[i]? = some (.v (.lst 1 (d.regs.map encI)) vr)) (hj : L[j]? = some (.v (.lst 2 (d.list.map encSetting)) vl)) : Snap h (.agg [vr, vl]) (.agg (encDevice d)) :=
  Snap.ofSnaps (.cons (S.snap i hi) (.cons (S.snap j hj) (.nil _)))
theorem putM_len (l : List Setting) (s : Setting) : (putM l s).length ≤ l.length + 1 := by
  unfold putM
  simp only [List.length_append, List.length_take, List.length_cons, List.length_drop]
  split <;> omega
theorem cfgM_len (d : Device) (s : Setting) (n : Int) : (cfgM d s n).regs.length = d.regs.length ∧ (cfgM d s n).list.length ≤ d.list.length + 1 := by
  have := putM_len d.list s
  unfold cfgM
  split
  · constructor
    · simp only; split <;> simp
    · simp only; split <;> omega
  · exact ⟨rfl, by omega⟩
theorem refs_devI (n : Nat) (d : Device) (z : Int) : V.refsL n [.agg (encDevice d), .int .i64 z] = true := by simp only [V.refsL, refs_D]; rfl
theorem cfg_law (d : Device) (s : Setting) (n : Int) (hr0 : d.regs.length ≤ 9223372036854775807) (hl0 : d.list.length ≤ 9223372036854775807) : CP Try.prog 4 [.agg (encDevice d), .agg (encSetting s), .int .i64 n] (.bool true) [] := by
  refine CP.by rfl mixed (cfn_ok Try.func4 ok4) rfl ?_
  simp (disch := omega) only [s4, go_sem, encDevice, encSetting]
  refine CP.go (szDev_c d 1048576 hr0 hl0 (by omega)) rfl (refs_devI _ d _) ?_
  simp (disch := omega) only [go_sem, encDevice, encSetting]
  refine condP_dec (fun hz => ?_) (fun hz => ?_)
  · simp (disch := omega) only [go_sem, encDevice, encSetting]
  have hin := szD_ok (by omega) hz
  have hr := hin.1
  have hl := hin.2.1
  have hS := cfg_s d s n hr hl
  have hI := cfg_c d s n hr hl
  have hlen := cfgM_len d s n
  refine Exists.elim (show ∃ x, x = cfgM d s n from ⟨_, rfl⟩) fun D hD => ?_
  refine Exists.elim (show ∃ x, x = cfgB d s n from ⟨_, rfl⟩) fun B hB => ?_
  rw [← hD] at hS hI hlen
  rw [← hB] at hS hI
  clear hD hB
  have heqD := eqDev_c D (by omega) (by omega)
  have heqd := eqDev_c d hr0 hl0
  have S0 : Sep ([[[.lst 1 (d.regs.map encI), .lst 2 (d.list.map encSetting)]], [[.int .i64 s.reg, .int .i64 s.val]]] : Heap) [.k 1 [[.int .i64 s.reg, .int .i64 s.val]], .k 0 [[.lst 1 (d.regs.map encI), .lst 2 (d.list.map encSetting)]]] := ((Sep.nil []).newK _).newK _
  simp (disch := omega) only [go_sem, encDevice, encSetting]
  refine S0.goDev (toDev_f d hr hl) (.same (refs_dev1 _ _)) fun ar al h1 x1 S1 zr zl => ?_
  have A1 := S1.blk 2 rfl
  simp (disch := omega) only [go_sem, zr.1, zr.2.1, zr.2.2, zl.1, zl.2.1, zl.2.2, A1]
  refine CP.go (toSetting_c s) rfl rfl ?_
  simp (disch := omega) only [go_sem, zr.1, zr.2.1, zr.2.2, zl.1, zl.2.1, zl.2.2, A1]
  refine S1.goDevB hS (.cons (S1.devSnap 0 1 rfl rfl) (.cons (.same _ rfl) (.cons (.int _ _) (.nil _)))) fun wr wl h2 x2 S2 yr yl => ?_
  have S3 := (S2.newK [[wr, wl]]).pk (A := [_, _, _, _, _, _, _]) [0, 1, 2, 5, 6] rfl
  clear S0 S1 S2 A1 zr zl
  have P3 := S3.blk 0 rfl
  have D3 := S3.blk 4 rfl
  simp (disch := omega) only [go_sem, yr.1, yr.2.1, yr.2.2, yl.1, yl.2.1, yl.2.2, P3, D3]
  refine S3.goDev (toDev_f d hr hl) (.same (refs_dev1 _ _)) fun ar al h4 x4 S4 zr zl => ?_
  have S5 := S4.newK [[ar, al]]
  have P5 := S5.blk 0 rfl
  have Q5 := S5.blk 6 rfl
  simp (disch := omega) only [go_sem, yr.1, yr.2.1, yr.2.2, yl.1, yl.2.1, yl.2.2, zr.1, zr.2.1, zr.2.2, zl.1, zl.2.1, zl.2.2, P5, Q5]
  refine CP.go (toSetting_c s) rfl rfl ?_
  simp (disch := omega) only [go_sem, yr.1, yr.2.1, yr.2.2, yl.1, yl.2.1, yl.2.2, zr.1, zr.2.1, zr.2.2, zl.1, zl.2.1, zl.2.2, P5, Q5]
  refine S5.goDevB hI (.cons (S5.devSnap 1 2 rfl rfl) (.cons (.same _ rfl) (.cons (.int _ _) (.nil _)))) fun gr gl h6 x6 S6 ur ul => ?_
  have S7 := S6.newK [[gr, gl]]
  clear S3 S4 S5 S6 P3 D3 P5 Q5
  have P7 := S7.blk 0 rfl
  have Q7 := S7.blk 6 rfl
  simp (disch := omega) only [go_sem, yr.1, yr.2.1, yr.2.2, yl.1, yl.2.1, yl.2.2, zr.1, zr.2.1, zr.2.2, zl.1, zl.2.1, zl.2.2, ur.1, ur.2.1, ur.2.2, ul.1, ul.2.1, ul.2.2, P7, Q7]
  refine CP.goS heqD rfl rfl (.cons (S7.devSnap 1 2 rfl rfl) (.cons (S7.devSnap 7 8 rfl rfl) (.nil _))) ?_
  have R7 := S7.blk 3 rfl
  have D7 := S7.blk 10 rfl
  simp (disch := omega) only [go_sem, beq_self_eq_true, zr.1, zr.2.1, zr.2.2, zl.1, zl.2.1, zl.2.2, R7, D7]
  refine S7.goDev (toDev_f d hr hl) (.same (refs_dev1 _ _)) fun er el h8 x8 S8 tr tl => ?_
  have R8 := x8.get R7
  simp (disch := omega) only [go_sem, beq_self_eq_true, zr.1, zr.2.1, zr.2.2, zl.1, zl.2.1, zl.2.2, tr.1, tr.2.1, tr.2.2, tl.1, tl.2.1, tl.2.2, R7, R8, D7]
  refine CP.goS heqd rfl rfl (.cons (S8.devSnap 6 7 rfl rfl) (.cons (S8.devSnap 0 1 rfl rfl) (.nil _))) ?_
  have S9 := S8.pk (A := [_, _, _, _, _, _, _, _, _, _, _, _, _]) [5, 6, 7, 2, 3, 4, 8, 9, 10, 11, 12] rfl
  clear S7 S8 P7 Q7 R7 R8 D7 x4 x6 x8
  have P9 := S9.blk 0 rfl
  simp (disch := omega) only [go_sem, beq_self_eq_true, zr.1, zr.2.1, zr.2.2, zl.1, zl.2.1, zl.2.2, P9]
  refine C.go (markDev_c _ d ar al 1 _ (S9.pk (A := [_, _, _, _, _, _, _, _, _, _, _]) [1, 2, 0, 3, 4, 5, 6, 7, 8, 9, 10] rfl) (by omega) (by omega) (by omega)) ?_
  rintro r h10 ⟨rfl, S10⟩
  clear S9 P9
  have em : ¬ endD 1 d < 0 := by unfold endD; omega
  have P10 := S10.blk 3 rfl
  have Q10 := S10.blk 6 rfl
  simp (disch := omega) only [go_sem, beq_self_eq_true, em, ur.1, ur.2.1, ur.2.2, ul.1, ul.2.1, ul.2.2, yr.1, yr.2.1, yr.2.2, yl.1, yl.2.1, yl.2.2, P10, Q10]
  refine CP.goS heqD rfl rfl (.cons (S10.devSnap 4 5 rfl rfl) (.cons (S10.devSnap 7 8 rfl rfl) (.nil _))) ?_
  simp (disch := omega) only [go_sem, beq_self_eq_true, em, ur.1, ur.2.1, ur.2.2, ul.1, ul.2.1, ul.2.2, yr.1, yr.2.1, yr.2.2, yl.1, yl.2.1, yl.2.2, P10, Q10]
  refine C.go (markDev_c _ D gr gl 1 _ (S10.pk (A := [_, _, _, _, _, _, _, _, _, _, _]) [4, 5, 3, 6, 7, 8, 9, 10] rfl) (by omega) (by omega) (by omega)) ?_
  rintro r h11 ⟨rfl, S11⟩
  clear S10 P10 Q10
  have hmD := heldDev_c D 1 (by omega) (by omega) (by omega)
  have em2 : ¬ endD 1 D < 0 := by unfold endD; omega
  have P11 := S11.blk 2 rfl
  simp (disch := omega) only [go_sem, beq_self_eq_true, ur.1, ur.2.1, ur.2.2, ul.1, ul.2.1, ul.2.2, P11]
  refine CP.goS hmD rfl rfl (.cons (S11.devSnap 0 1 rfl rfl) (.cons (.int _ _) (.nil _))) ?_
  have A11 := S11.blk 7 rfl
  have B11 := S11.blk 6 rfl
  simp (disch := omega) only [go_sem, beq_self_eq_true, em2, ur.1, ur.2.1, ur.2.2, ul.1, ul.2.1, ul.2.2, P11, A11, B11]
  refine S11.goDev (toDev_f d hr hl) (.same (refs_dev1 _ _)) fun br bl h12 x12 S12 zr zl => ?_
  have B12 := S12.blk 8 rfl
  simp (disch := omega) only [go_sem, zr.1, zr.2.1, zr.2.2, zl.1, zl.2.1, zl.2.2, B12]
  refine CP.go (toSetting_c s) rfl rfl ?_
  simp (disch := omega) only [go_sem, zr.1, zr.2.1, zr.2.2, zl.1, zl.2.1, zl.2.2, B12]
  refine S12.goDevB hI (.cons (S12.devSnap 0 1 rfl rfl) (.cons (.same _ rfl) (.cons (.int _ _) (.nil _)))) fun pr pl h13 x13 S13 vr vl => ?_
  have S14 := S13.newK [[pr, pl]]
  have P14 := S14.blk 0 rfl
  have Q14 := S14.blk 8 rfl
  have R14 := S14.blk 7 rfl
  simp (disch := omega) only [go_sem, yr.1, yr.2.1, yr.2.2, yl.1, yl.2.1, yl.2.2, vr.1, vr.2.1, vr.2.2, vl.1, vl.2.1, vl.2.2, P14, Q14]
  refine CP.goS heqD rfl rfl (.cons (S14.devSnap 1 2 rfl rfl) (.cons (S14.devSnap 9 10 rfl rfl) (.nil _))) ?_
  simp (disch := omega) only [go_sem, beq_self_eq_true, ur.1, ur.2.1, ur.2.2, ul.1, ul.2.1, ul.2.2, R14]
  refine CP.goS hmD rfl rfl (.cons (S14.devSnap 5 6 rfl rfl) (.cons (.int _ _) (.nil _))) ?_
  simp (disch := omega) only [go_sem, beq_self_eq_true, em2]
theorem dev_bounds {S : Nat → Prop} {ρ : Rho} {w : World} {v : Value} {d : Device} (r : Rep S ρ w v (.agg (encDevice d))) : d.regs.length ≤ 9223372036854775807 ∧ d.list.length ≤ 9223372036854775807 := by
  obtain ⟨_, r1⟩ := r.field (j := 0) rfl
  obtain ⟨_, r2⟩ := r.field (j := 1) rfl
  exact ⟨by simpa using lst_bound r1, by simpa using lst_bound r2⟩
end Go.Av
