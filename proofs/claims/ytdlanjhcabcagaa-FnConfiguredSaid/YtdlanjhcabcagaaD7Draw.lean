/- Drawn devices. No condition. -/
import Derived.Test.YtdlanjhcabcagaaD7CfgLaw
namespace Go.Av
open Go.Proofs Go.RowKit
set_option linter.unusedVariables false
set_option linter.unusedSimpArgs false
set_option maxRecDepth 100000
set_option maxHeartbeats 4000000
theorem listOk_mono : ∀ {l : List Setting} {a b : Int}, a ≤ b → listOk b l = true → listOk a l = true
  | [], _, _, _, _ => rfl
  | s :: r, a, b, h, hl => by
    simp only [listOk, within, Bool.and_eq_true, decide_eq_true_eq] at *
    exact ⟨⟨⟨by omega, hl.1.1.2⟩, hl.1.2⟩, hl.2⟩
theorem kM_nil (s : Setting) : kM [] s = 0 := rfl
theorem kM_lt {t : Setting} {r : List Setting} {s : Setting} (h : t.reg < s.reg) : kM (t :: r) s = kM r s + 1 := by
  unfold kM; rw [List.findIdx_cons]
  have : geS s t = false := by simp [geS]; omega
  rw [this]; rfl
theorem kM_ge {t : Setting} {r : List Setting} {s : Setting} (h : ¬ t.reg < s.reg) : kM (t :: r) s = 0 := by
  unfold kM; rw [List.findIdx_cons]
  have : geS s t = true := by simp [geS]; omega
  rw [this]; rfl
theorem putM_nil (s : Setting) : putM [] s = [s] := rfl
theorem putM_lt {t : Setting} {r : List Setting} {s : Setting} (h : t.reg < s.reg) : putM (t :: r) s = t :: putM r s := by
  have hk := kM_lt (r := r) h
  have hh : hitM (t :: r) s = hitM r s := by unfold hitM; rw [hk]; rfl
  unfold putM
  rw [hk, hh]
  split <;> rfl
theorem putM_hit {t : Setting} {r : List Setting} {s : Setting} (h : t.reg = s.reg) : putM (t :: r) s = s :: r := by
  have hk := kM_ge (t := t) (r := r) (s := s) (by omega)
  have hh : hitM (t :: r) s = true := by unfold hitM; rw [hk]; simpa using h
  unfold putM
  rw [hk, hh]; rfl
theorem putM_gt {t : Setting} {r : List Setting} {s : Setting} (h : s.reg < t.reg) : putM (t :: r) s = s :: t :: r := by
  have hk := kM_ge (t := t) (r := r) (s := s) (by omega)
  have hh : hitM (t :: r) s = false := by unfold hitM; rw [hk]; simp; omega
  unfold putM
  rw [hk, hh]; rfl
theorem putM_ok {s : Setting} (hs : isStg s = true) : ∀ {l : List Setting} {a : Int}, a < s.reg → listOk a l = true → listOk a (putM l s) = true
  | [], a, h, _ => by
    simp only [isStg, within, Bool.and_eq_true, decide_eq_true_eq] at hs
    rw [putM_nil]
    simp only [listOk, within, Bool.and_eq_true, decide_eq_true_eq]
    exact ⟨⟨⟨by omega, by omega⟩, hs.2⟩, trivial⟩
  | t :: r, a, h, hl => by
    have hs' := hs
    simp only [isStg, within, Bool.and_eq_true, decide_eq_true_eq] at hs'
    simp only [listOk, within, Bool.and_eq_true, decide_eq_true_eq] at hl
    rcases Int.lt_trichotomy t.reg s.reg with q | q | q
    · rw [putM_lt q]
      simp only [listOk, within, Bool.and_eq_true, decide_eq_true_eq]
      exact ⟨hl.1, putM_ok hs q hl.2⟩
    · rw [putM_hit q]
      simp only [listOk, within, Bool.and_eq_true, decide_eq_true_eq]
      exact ⟨⟨⟨by omega, by omega⟩, hs'.2⟩, by rw [← q]; exact hl.2⟩
    · rw [putM_gt q]
      simp only [listOk, within, Bool.and_eq_true, decide_eq_true_eq]
      exact ⟨⟨⟨by omega, by omega⟩, hs'.2⟩, ⟨⟨by omega, hl.1.1.2⟩, hl.1.2⟩, hl.2⟩
theorem devOk_iff {d : Device} : devOk d = true ↔ d.regs.length = 4 ∧ vals d.regs = true ∧ listOk (-1) d.list = true := by
  simp only [devOk, Bool.and_eq_true, decide_eq_true_eq, and_assoc]
  constructor
  · rintro ⟨a, b⟩; exact ⟨by omega, b⟩
  · rintro ⟨a, b⟩; exact ⟨by omega, b⟩
theorem vals_set {zs : List Int} {i : Nat} {z : Int} (h : vals zs = true) (hz : isValue z = true) : vals (zs.set i z) = true :=
  vals_iff.2 fun x hx => by
    rcases List.mem_or_eq_of_mem_set hx with q | q
    · exact vals_iff.1 h x q
    · rw [q]; exact hz
theorem cfgM_ok {d : Device} {s : Setting} {n : Int} (h : devOk d = true) : devOk (cfgM d s n) = true := by
  unfold cfgM
  split
  · rename_i hb
    simp only [cfgB, Bool.and_eq_true] at hb
    have hs := hb.1.2
    have hs' := hs
    simp only [isStg, within, Bool.and_eq_true, decide_eq_true_eq] at hs'
    have hd := devOk_iff.1 h
    refine devOk_iff.2 ⟨?_, ?_, ?_⟩
    · simp only; split
      · rw [List.length_set]; exact hd.1
      · exact hd.1
    · simp only; split
      · exact vals_set hd.2.1 hs'.2
      · exact hd.2.1
    · simp only; split
      · exact putM_ok hs (by omega) hd.2.2
      · exact hd.2.2
  · exact h
theorem listOk_len : ∀ {l : List Setting} {a : Int}, -1 ≤ a → a ≤ 3 → listOk a l = true → (l.length : Int) ≤ 3 - a
  | [], a, h, h3, _ => by simp; omega
  | s :: r, a, h, h3, hl => by
    simp only [listOk, within, Bool.and_eq_true, decide_eq_true_eq] at hl
    have := listOk_len (l := r) (a := s.reg) (by omega) (by omega) hl.2
    simp only [List.length_cons]; omega
theorem devOk_len {d : Device} (h : devOk d = true) : d.regs.length = 4 ∧ d.list.length ≤ 4 := by
  have hd := devOk_iff.1 h
  have := listOk_len (by omega) (by omega) hd.2.2
  exact ⟨hd.1, by omega⟩
theorem new_f : F Try.prog 42 [] (.agg (encDevice ⟨[0, 0, 0, 0], []⟩)) := by
  refine C.by mixed (cfn_ok Try.func42 ok42) rfl ?_
  simp (disch := omega) only [s42, go_sem, storeH, storeB, splice]
  have S0 := (((Sep.nil []).newK [[.own 1 1 0 4 4, .nils]]).newK (([0, 0, 0, 0] : List Int).map encI)).ofFlat (sz := 1) (n := 4) rfl (flat_encI _)
  exact ((S0.nils (sz := 2)).sw).retD (d := ⟨[0, 0, 0, 0], []⟩)
theorem pickL_c (h : Heap) (id : Nat) (zs : List Int) (hc : Cur h id) (h0 : 0 < zs.length) (hn : zs.length ≤ 4294967296) : C Try.prog 43 [.ptr id 1 0 0, .lst 1 (zs.map encI)] h (fun r h' => ∃ z, r = .int .i64 z ∧ z ∈ zs ∧ Cur h' id ∧ ExtX id h h') := by
  refine C.by mixed (cfn_ok Try.func43 ok43) rfl ?_
  simp (disch := omega) only [s43, go_sem]
  refine DI.go (below_c _ _ _ hc (by omega)) fun z h1 z0 z1 c1 x1 => ?_
  have hlt : z.toNat < zs.length := by omega
  have hg : zs[z.toNat]? = some zs[z.toNat] := List.getElem?_eq_getElem hlt
  simp (disch := omega) only [go_sem, hg, List.getElem?_map, encI]
  exact ⟨_, rfl, List.getElem_mem hlt, c1, x1⟩
theorem Sep.goPick {h : Heap} {id : Nat} {zs : List Int} {L : List It} {K : V → Heap → Prop} (S : Sep h (.c id :: L)) (h0 : 0 < zs.length) (hn : zs.length ≤ 4294967296) (hk : ∀ z h', z ∈ zs → Sep h' (.c id :: L) → K (.int .i64 z) h') : @callP Try.prog 43 [.ptr id 1 0 0, .lst 1 (zs.map encI)] h ⟨K⟩ := by
  refine C.go (pickL_c h id zs S.cur h0 hn) ?_
  rintro r h' ⟨z, rfl, hz, c, x⟩
  exact hk z h' hz (S.curX c x)
theorem Sep.goPick3 {h : Heap} {id : Nat} {L : List It} {K : V → Heap → Prop} (S : Sep h (.c id :: L)) (hk : ∀ z h', Sep h' (.c id :: L) → K (.int .i64 z) h') : @callP Try.prog 43 [.ptr id 1 0 0, .lst 1 [[.int .i64 2], [.int .i64 2], [.int .i64 1]]] h ⟨K⟩ :=
  S.goPick (zs := [2, 2, 1]) (by decide) (by decide) fun z h' _ S' => hk z h' S'
theorem Sep.goOnce {h : Heap} {id : Nat} {n : Int} {L : List It} {K : V → Heap → Prop} (S : Sep h (.c id :: L)) (hn : n ≤ 4294967296) (hk : ∀ b h', Sep h' (.c id :: L) → K (.bool b) h') : @callP Try.prog 44 [.ptr id 1 0 0, .int .i64 n] h ⟨K⟩ :=
  DB.go (once_c h id n S.cur hn) fun b h' c x => hk b h' (S.curX c x)
theorem draw_set {d : Device} {i : Nat} {y : Int} (h : devOk d = true) (y0 : 0 ≤ y) (y1 : y < 9) : devOk ⟨d.regs.set i y, d.list⟩ = true := by
  have hd := devOk_iff.1 h
  exact devOk_iff.2 ⟨by simpa using hd.1, vals_set hd.2.1 (by simp [isValue, within]; omega), hd.2.2⟩
theorem l26Device_d {h : Heap} {id : Nat} {L : List It} (S : Sep h (.c id :: L)) : C Try.prog 19 [.ptr id 1 0 0] h (fun r h' => ∃ d vr vl, r = .agg [vr, vl] ∧ devOk d = true ∧ Sep h' (.v (.lst 1 (d.regs.map encI)) vr :: .v (.lst 2 (d.list.map encSetting)) vl :: .c id :: L)) := by
  refine C.by mixed (cfn_ok Try.func19 ok19) rfl ?_
  simp (disch := omega) only [s19, go_sem]
  refine (S.newK [[.nils, .nils]]).goDev new_f (.nil _) fun vr vl h1 x1 S1 zr zl => ?_
  have S2 : Sep (h1 ++ [[[vr, vl]]]) (.c id :: .k h1.length [[vr, vl]] :: .v (.lst 1 ((⟨[0, 0, 0, 0], []⟩ : Device).regs.map encI)) vr :: .v (.lst 2 ((⟨[0, 0, 0, 0], []⟩ : Device).list.map encSetting)) vl :: .k h.length [[.nils, .nils]] :: L) := (S1.newK [[vr, vl]]).pk (A := [_, _, _, _, _]) [4, 0, 1, 2, 3] rfl
  simp (disch := omega) only [go_sem, zr.1, zr.2.1, zr.2.2, zl.1, zl.2.1, zl.2.2]
  refine loopP_intro (fun m s => ∃ (k : Nat) (d : Device) (vr vl : V), k ≤ 5 ∧ m = 5 - k ∧ devOk d = true ∧ s.e 0 = .ptr id 1 0 0 ∧ s.e 2 = .ptr h.length 1 0 0 ∧ s.e 3 = .ptr h1.length 1 0 0 ∧ s.e 4 = .int .i64 k ∧ Sep s.h (.c id :: .k h1.length [[vr, vl]] :: .v (.lst 1 (d.regs.map encI)) vr :: .v (.lst 2 (d.list.map encSetting)) vl :: .k h.length [[.nils, .nils]] :: L)) 5 ⟨0, _, vr, vl, by omega, rfl, (by rfl : devOk ⟨[0, 0, 0, 0], []⟩ = true), by simp (disch := omega) only [go_sem, zr.1, zr.2.1, zr.2.2, zl.1, zl.2.1, zl.2.2], by simp (disch := omega) only [go_sem, zr.1, zr.2.1, zr.2.2, zl.1, zl.2.1, zl.2.2], by simp (disch := omega) only [go_sem, zr.1, zr.2.1, zr.2.2, zl.1, zl.2.1, zl.2.2], by simp (disch := omega) only [go_sem, zr.1, zr.2.1, zr.2.2, zl.1, zl.2.1, zl.2.2] <;> rfl, S2⟩ ?_
  clear S1 S2 zr zl x1
  intro m e hp P
  refine Exists.elim P fun k P => Exists.elim P fun d P => Exists.elim P fun vr P => Exists.elim P fun vl P => ?_
  have hk := P.1
  have hm := P.2.1
  have hd := P.2.2.1
  have e0 := P.2.2.2.1
  have e2 := P.2.2.2.2.1
  have e3 := P.2.2.2.2.2.1
  have e4 := P.2.2.2.2.2.2.1
  have S3 := P.2.2.2.2.2.2.2
  clear P
  subst hm
  simp only at e0 e2 e3 e4 S3
  have dl := devOk_len hd
  simp (disch := omega) only [go_sem, e0, e2, e3, e4]
  refine S3.goBelow (n := 5) (by omega) fun b h4 b0 b1 S4 => ?_
  simp (disch := omega) only [go_sem, e0, e2, e3, e4]
  have zr := S4.vv 2 rfl
  have zl := S4.vv 3 rfl
  refine condP_dec (fun hlt => ?_) (fun hlt => ?_)
  · have P4 := S4.blk 1 rfl
    simp (disch := omega) only [go_sem, e0, e2, e3, e4, zr.1, zr.2.1, zr.2.2, zl.1, zl.2.1, zl.2.2, P4]
    refine S4.goBelow (n := 4) (by omega) fun x h5 x0 x1 S5 => ?_
    have P5 := S5.blk 1 rfl
    simp (disch := omega) only [go_sem, e0, e2, e3, e4, zr.1, zr.2.1, zr.2.2, zl.1, zl.2.1, zl.2.2, P5]
    refine S5.goBelow (n := 90) (by omega) fun y h6 y0 y1 S6 => ?_
    have P6 := S6.blk 1 rfl
    simp (disch := omega) only [go_sem, e0, e2, e3, e4, zr.1, zr.2.1, zr.2.2, zl.1, zl.2.1, zl.2.2, P6]
    refine S6.goPick3 fun z h7 S7 => ?_
    have P7 := S7.blk 1 rfl
    simp (disch := omega) only [go_sem, e0, e2, e3, e4, zr.1, zr.2.1, zr.2.2, zl.1, zl.2.1, zl.2.2, P7, splice]
    refine (?_ : @stayP h7 [0] [(0, V.ptr h1.length 1 0 0, true, 2, V.agg [vr, vl])] ⟨_⟩)
    simp (disch := omega) only [go_sem, zr.1, zr.2.1, zr.2.2, zl.1, zl.2.1, zl.2.2, P7]
    refine S7.goDevB (cfg_s d ⟨x, y⟩ z (by omega) (by omega)) (.cons (S7.devSnap 2 3 rfl rfl) (.cons (.same _ rfl) (.cons (.int _ _) (.nil _)))) fun wr wl h8 x8 S8 yr yl => ?_
    have P8 := S8.blk 3 rfl
    have S9 : Sep (h8.set h1.length [[wr, wl]]) (.c id :: .k h1.length [[wr, wl]] :: .v (.lst 1 ((cfgM d ⟨x, y⟩ z).regs.map encI)) wr :: .v (.lst 2 ((cfgM d ⟨x, y⟩ z).list.map encSetting)) wl :: .k h.length [[.nils, .nils]] :: L) := ((S8.pk (A := [_, _, _, _, _, _, _]) [3, 2, 0, 1, 6] rfl).setK [[wr, wl]]).sw
    simp (disch := omega) only [go_sem, e0, e2, e3, e4, yr.1, yr.2.1, yr.2.2, yl.1, yl.2.1, yl.2.2, P8, storeH, storeB, splice]
    exact nextP_intro (5 - (k + 1)) (by omega) ⟨k + 1, _, wr, wl, by omega, rfl, cfgM_ok hd, by simp (disch := omega) only [go_sem, e0, e2, e3, e4, yr.1, yr.2.1, yr.2.2, yl.1, yl.2.1, yl.2.2, P8, storeH, storeB, splice], by simp (disch := omega) only [go_sem, e0, e2, e3, e4, yr.1, yr.2.1, yr.2.2, yl.1, yl.2.1, yl.2.2, P8, storeH, storeB, splice], by simp (disch := omega) only [go_sem, e0, e2, e3, e4, yr.1, yr.2.1, yr.2.2, yl.1, yl.2.1, yl.2.2, P8, storeH, storeB, splice], by simp (disch := omega) only [go_sem, e0, e2, e3, e4, yr.1, yr.2.1, yr.2.2, yl.1, yl.2.1, yl.2.2, P8, storeH, storeB, splice] <;> rfl, S9⟩
  · have P4 := S4.blk 1 rfl
    simp (disch := omega) only [go_sem, e0, e2, e3, e4, zr.1, zr.2.1, zr.2.2, zl.1, zl.2.1, zl.2.2, P4]
    refine S4.goOnce (n := 4) (by omega) fun bb h5 S5 => ?_
    have P5 := S5.blk 1 rfl
    have Q5 := S5.blk 4 rfl
    have Q5' := fun t => heap_set t Q5
    simp (disch := omega) only [go_sem, e0, e2, e3, e4, zr.1, zr.2.1, zr.2.2, zl.1, zl.2.1, zl.2.2, P5]
    refine condP_split (fun hb => ?_) (fun hb => ?_)
    · refine Or.elim ((S5.pull 2).flat_ (flat_encI _)) (fun q => ?_) fun q => ?_
      · have := congrArg List.length q.2.1
        simp only [List.length_map, List.length_nil] at this
        omega
      refine Exists.elim q fun idr q => ?_
      have hvr := q.1
      have S6 : Sep h5 (.c id :: .k idr (d.regs.map encI) :: .k h1.length [[vr, vl]] :: .v (.lst 2 (d.list.map encSetting)) vl :: .k h.length [[.nils, .nils]] :: L) := Sep.sw q.2
      clear q
      rw [List.length_map, dl.1] at hvr
      subst hvr
      simp (disch := omega) only [go_sem, hb, e0, e2, e3, e4, zl.1, zl.2.1, zl.2.2, P5]
      refine S6.goBelow (n := 4) (by omega) fun x h6 x0 x1 S7 => ?_
      have P7 := S7.blk 2 rfl
      simp (disch := omega) only [go_sem, e0, e2, e3, e4, zl.1, zl.2.1, zl.2.2, P7]
      refine S7.goBelow (n := 9) (by omega) fun y h7 y0 y1 S8 => ?_
      have P8 := S8.blk 2 rfl
      have st := store_i (h := h7) (id := idr) (n := 4) (i := x.toNat) (zs := d.regs) (z := y) (S8.blk 1 rfl) dl.1 (by omega)
      have S9 := S8.sw.setK ((d.regs.set x.toNat y).map encI)
      have P9 := S9.blk 2 rfl
      have Q9 := S9.blk 4 rfl
      have Q9' := fun t => heap_set t Q9
      simp (disch := omega) only [go_sem, e0, e2, e3, e4, zl.1, zl.2.1, zl.2.2, P8, st, P9]
      simp (disch := omega) only [go_sem, e0, e2, e3, e4, zl.1, zl.2.1, zl.2.2, P9, Q9, Q9', storeH, storeB, splice]
      exact ⟨⟨d.regs.set x.toNat y, d.list⟩, _, vl, rfl, draw_set hd (by omega) (by omega), (((S9.pull 4).setK [[.own idr 1 0 4 4, vl]]).drop1.ofFlat (sz := 1) (n := 4) (by simp [dl.1]) (flat_encI _)).pk (A := [_, _, _, _]) [0, 3, 1] rfl⟩
    · simp (disch := omega) only [go_sem, hb, e0, e2, e3, e4, zr.1, zr.2.1, zr.2.2, zl.1, zl.2.1, zl.2.2, P5, Q5, Q5', storeH, storeB, splice]
      exact ⟨d, vr, vl, rfl, hd, (((S5.pull 4).setK [[vr, vl]]).drop1.pk (A := [_, _, _, _]) [2, 3, 0] rfl)⟩
theorem drawDevice_d {h : Heap} {L : List It} {bs : List Int} (S : Sep h L) (hb : bs.length ≤ 1048576) : C Try.prog 6 [.lst 1 (bs.map encB)] h (fun r h' => ∃ d vr vl, r = .agg [vr, vl] ∧ devOk d = true ∧ Sep h' (.v (.lst 1 (d.regs.map encI)) vr :: .v (.lst 2 (d.list.map encSetting)) vl :: L)) := by
  refine C.by mixed (cfn_ok Try.func6 ok6) rfl ?_
  simp (disch := omega) only [s6, go_sem]
  refine (S.newK [[.nils, .nils]]).goNew hb fun h1 S1 => ?_
  rw [List.length_append] at S1
  simp (disch := omega) only [go_sem]
  refine C.go (l26Device_d S1) ?_
  rintro r h2 ⟨d, vr, vl, rfl, hd, S2⟩
  have zr := S2.vv 0 rfl
  have zl := S2.vv 1 rfl
  have P2 := S2.blk 3 rfl
  have P2' := fun t => heap_set t P2
  simp (disch := omega) only [go_sem, zr.1, zr.2.1, zr.2.2, zl.1, zl.2.1, zl.2.2, P2, P2', storeH, storeB, splice]
  exact ⟨d, vr, vl, rfl, hd, (((S2.pull 3).setK [[vr, vl]]).drop1.pk (A := [_, _, _]) [0, 1] rfl)⟩
end Go.Av
