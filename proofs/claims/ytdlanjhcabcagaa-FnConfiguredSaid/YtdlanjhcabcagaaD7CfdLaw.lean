/- The law FnConfigured. No condition. -/
import Derived.Test.YtdlanjhcabcagaaD7Pow
namespace Go.Av
open Go.Proofs Go.RowKit
set_option linter.unusedVariables false
set_option linter.unusedSimpArgs false
set_option maxRecDepth 100000
set_option maxHeartbeats 16000000
theorem resM_low : ∀ {l : List Setting} {a : Int} {r : List Int} {i : Nat}, listOk a l = true → (i : Int) ≤ a → -1 ≤ a → (resM r l)[i]? = r[i]?
  | [], _, _, _, _, _, _ => rfl
  | t :: l, a, r, i, hl, hi, ha => by
    simp only [listOk, within, Bool.and_eq_true, decide_eq_true_eq] at hl
    show (resM (r.set t.reg.toNat t.val) l)[i]? = _
    rw [resM_low hl.2 (by omega) (by omega), List.getElem?_set_ne (by omega)]
theorem resM_put {s : Setting} (hs : isStg s = true) : ∀ {l : List Setting} {a : Int} {r : List Int}, a < s.reg → -1 ≤ a → listOk a l = true → r.length = 4 → (resM r (putM l s))[s.reg.toNat]? = some s.val
  | [], a, r, h, ha, _, hr => by
    simp only [isStg, within, Bool.and_eq_true, decide_eq_true_eq] at hs
    show (r.set s.reg.toNat s.val)[s.reg.toNat]? = _
    rw [List.getElem?_set_self (by omega)]
  | t :: l, a, r, h, ha, hl, hr => by
    have hs' := hs
    simp only [isStg, within, Bool.and_eq_true, decide_eq_true_eq] at hs'
    have hl' := hl
    simp only [listOk, within, Bool.and_eq_true, decide_eq_true_eq] at hl'
    rcases Int.lt_trichotomy t.reg s.reg with q | q | q
    · rw [putM_lt q]
      exact resM_put hs (r := r.set t.reg.toNat t.val) q (by omega) hl'.2 (by simpa using hr)
    · rw [putM_hit q]
      show (resM (r.set s.reg.toNat s.val) l)[s.reg.toNat]? = _
      rw [resM_low (a := t.reg) hl'.2 (by omega) (by omega), List.getElem?_set_self (by omega)]
    · rw [putM_gt q]
      show (resM (r.set s.reg.toNat s.val) (t :: l))[s.reg.toNat]? = _
      have : listOk s.reg (t :: l) = true := by
        simp only [listOk, within, Bool.and_eq_true, decide_eq_true_eq]
        exact ⟨⟨⟨by omega, hl'.1.1.2⟩, hl'.1.2⟩, hl'.2⟩
      rw [resM_low this (by omega) (by omega), List.getElem?_set_self (by omega)]
theorem Sep.ownAt {h : Heap} {L : List It} (S : Sep h L) (n : Nat) {zs : List Int} {r : V} (e : L[n]? = some (.v (.lst 1 (zs.map encI)) r)) {k : Nat} (hk : k < zs.length) : ∃ q, r = .own q 1 0 zs.length zs.length ∧ h[q]? = some (zs.map encI) := by
  obtain ⟨i, o⟩ := S.lst n e
  rcases (Owns.flat_ (flat_encI zs)).1 o with ⟨_, e, _⟩ | ⟨q, e1, e2, _⟩
  · have : zs = [] := by simpa using e
    subst this; simp at hk
  · exact ⟨q, by rw [e1, List.length_map], e2⟩
theorem cfgM_zero {d : Device} {s : Setting} {n : Int} (h : n = 0) : cfgM d s n = d := by
  subst h
  unfold cfgM
  split
  · rw [if_neg (by omega), if_neg (by omega)]
  · rfl
theorem cfgM_two {d : Device} {s : Setting} (h : cfgB d s 2 = true) : cfgM d s 2 = ⟨d.regs.set s.reg.toNat s.val, putM d.list s⟩ := by
  unfold cfgM
  rw [if_pos h, if_pos (by omega), if_pos (by omega)]
theorem cfgM_list {d : Device} {s : Setting} {n : Int} (h : cfgB d s n = true) (hn : 0 < n) : (cfgM d s n).list = putM d.list s := by
  unfold cfgM
  rw [if_pos h]
  simp only [if_pos hn]
theorem cfd_law (bs : List Int) (hb : bs.length ≤ 9223372036854775807) : CP Try.prog 3 [.lst 1 (bs.map encB)] (.bool true) [] := by
  refine CP.by rfl mixed (cfn_ok Try.func3 ok3) rfl ?_
  simp (disch := omega) only [s3, go_sem]
  refine CP.go (big_c bs hb) rfl (refs_bytes _ _) ?_
  simp (disch := omega) only [go_sem]
  refine condP_dec (fun hbig => ?_) (fun hbig => ?_)
  · simp (disch := omega) only [go_sem]
  simp (disch := omega) only [go_sem]
  refine C.go (drawDevice_d (Sep.nil _) (by omega)) ?_
  rintro r h1 ⟨d, vr, vl, rfl, hd, S1⟩
  have dl := devOk_len hd
  have zr := S1.vv 0 rfl
  have zl := S1.vv 1 rfl
  have S2 := S1.newK [[vr, vl]]
  simp (disch := omega) only [go_sem, zr.1, zr.2.1, zr.2.2, zl.1, zl.2.1, zl.2.2]
  refine C.go (drawPlaces_d S2 (by omega)) ?_
  rintro r h2 ⟨pl, lp, rfl, hpl, hplv, S3⟩
  have A3 := S3.blk 0 rfl
  have g0 : pl[0]? = some pl[0] := List.getElem?_eq_getElem (by omega)
  have g1 : pl[1]? = some pl[1] := List.getElem?_eq_getElem (by omega)
  have g2 : pl[2]? = some pl[2] := List.getElem?_eq_getElem (by omega)
  have p0 := hplv _ (List.getElem_mem (show 0 < pl.length by omega))
  have p1 := hplv _ (List.getElem_mem (show 1 < pl.length by omega))
  have p2 := hplv _ (List.getElem_mem (show 2 < pl.length by omega))
  have t0 := tmod_bd (n := 4) p0.1 (by omega)
  have t2 := tmod_bd (n := 3) p2.1 (by omega)
  refine Exists.elim (show ∃ s : Setting, s = ⟨pl[0].tmod 4, pl[1] - 5000⟩ from ⟨_, rfl⟩) fun s hs => ?_
  have hs1 : s.reg = pl[0].tmod 4 := by rw [hs]
  have hs2 : s.val = pl[1] - 5000 := by rw [hs]
  refine Exists.elim (show ∃ n : Int, n = pl[2].tmod 3 from ⟨_, rfl⟩) fun n hn => ?_
  have hst : isStg s = true := by simp only [isStg, isValue, within, Bool.and_eq_true, decide_eq_true_eq]; omega
  have hB : ∀ n, 0 ≤ n ∧ n ≤ 2 → cfgB d s n = true := fun n h => by simp [cfgB, hd, hst, within, h]
  simp (disch := omega) only [go_sem, A3, hpl, g0, g1, g2, List.getElem?_map, encI, splice, hs1.symm, hs2.symm, hn.symm]
  have S4 := S3.newK [[.int .i64 s.reg, .int .i64 s.val]]
  have A4 := S4.blk 1 rfl
  have B4 := S4.blk 0 rfl
  have C4 := S4.blk 2 rfl
  simp (disch := omega) only [go_sem, A4, B4, C4, hpl, g2, List.getElem?_map, encI, hn.symm]
  refine S4.goDevB (cfg_c d s n (by omega) (by omega)) (.cons (S4.devSnap 3 4 rfl rfl) (.cons (.same _ rfl) (.cons (.int _ _) (.nil _)))) fun ar al h5 x5 S5 yr yl => ?_
  have S6 := S5.newK [[ar, al]]
  have B6 := S6.blk 3 rfl
  have C6 := S6.blk 5 rfl
  simp (disch := omega) only [go_sem, B6, C6, yr.1, yr.2.1, yr.2.2, yl.1, yl.2.1, yl.2.2]
  refine S6.goDevB (cfg_c d s 2 (by omega) (by omega)) (.cons (S6.devSnap 6 7 rfl rfl) (.cons (.same _ rfl) (.cons (.int _ _) (.nil _)))) fun br bl h7 x7 S7 ur ul => ?_
  have S8 := S7.newK [[br, bl]]
  have D8 := S8.blk 3 rfl
  have ok1 := cfgM_ok (s := s) (n := n) hd
  have ok2 := cfgM_ok (s := s) (n := 2) hd
  have hBn := hB n (by omega)
  have hB2 := hB 2 (by omega)
  have ok1z : devOk ⟨[0, 0, 0, 0], (cfgM d s n).list⟩ = true := devOk_iff.2 ⟨rfl, rfl, (devOk_iff.1 ok1).2.2⟩
  have ok2z : devOk ⟨[0, 0, 0, 0], (cfgM d s 2).list⟩ = true := devOk_iff.2 ⟨rfl, rfl, (devOk_iff.1 ok2).2.2⟩
  have ok0z : devOk ⟨[0, 0, 0, 0], d.list⟩ = true := devOk_iff.2 ⟨rfl, rfl, (devOk_iff.1 hd).2.2⟩
  simp (disch := omega) only [go_sem, hBn, hB2, D8, yr.1, yr.2.1, yr.2.2, yl.1, yl.2.1, yl.2.2, ur.1, ur.2.1, ur.2.2, ul.1, ul.2.1, ul.2.2]
  refine S8.goDev (pow_f (cfgM d s n) ok1) (.cons (S8.devSnap 4 5 rfl rfl) (.nil _)) fun er el h9 x9 S9 tr tl => ?_
  simp (disch := omega) only [go_sem, hBn, hB2, D8, yr.1, yr.2.1, yr.2.2, yl.1, yl.2.1, yl.2.2, ur.1, ur.2.1, ur.2.2, ul.1, ul.2.1, ul.2.2]
  refine S9.goDev (res_f ⟨[0, 0, 0, 0], (cfgM d s n).list⟩ ok1z) (.cons (S9.devSnap 0 1 rfl rfl) (.nil _)) fun fr fl h10 x10 S10 wr wl => ?_
  have S11 := S10.newK [[fr, fl]]
  have E11 := S11.blk 0 rfl
  have D11 := S11.blk 5 rfl
  have lnF := fun G => (S11.lst 1 rfl).elim fun i o => o.len_ G
  have lnB := fun G => (S11.lst 6 rfl).elim fun i o => o.len_ G
  have hl1 : (resM [0, 0, 0, 0] (cfgM d s n).list).length = 4 := by rw [resM_len]; rfl
  have hl2 : (cfgM d s 2).regs.length = 4 := (devOk_len ok2).1
  simp only [List.length_map, hl1] at lnF
  simp only [List.length_map, hl2] at lnB
  simp (disch := omega) only [go_sem, lnF, lnB, E11, D11, wr.1, wr.2.1, wr.2.2, wl.1, wl.2.1, wl.2.2, ur.1, ur.2.1, ur.2.2, ul.1, ul.2.1, ul.2.2]
  have V11 := S11.blk 13 rfl
  refine condP_dec (fun h0 => ?_) (fun h0 => ?_)
  · have q0 : cfgM d s n = d := cfgM_zero (by omega)
    simp (disch := omega) only [go_sem, hBn, hB2, V11, zr.1, zr.2.1, zr.2.2, zl.1, zl.2.1, zl.2.2]
    refine S11.goDev (pow_f d hd) (.cons (S11.devSnap 14 15 rfl rfl) (.nil _)) fun gr gl h12 x12 S12 _ _ => ?_
    have E12 := S12.blk 2 rfl
    simp (disch := omega) only [go_sem, E12, wr.1, wr.2.1, wr.2.2, wl.1, wl.2.1, wl.2.2]
    refine S12.goDev (res_f ⟨[0, 0, 0, 0], d.list⟩ ok0z) (.cons (S12.devSnap 0 1 rfl rfl) (.nil _)) fun kr kl h13 x13 S13 xr xl => ?_
    have E13 := S13.blk 4 rfl
    simp (disch := omega) only [go_sem, E13, wr.1, wr.2.1, wr.2.2, wl.1, wl.2.1, wl.2.2, xr.1, xr.2.1, xr.2.2, xl.1, xl.2.1, xl.2.2]
    refine CP.goS (sameInts_c (resM [0, 0, 0, 0] (cfgM d s n).list) (resM [0, 0, 0, 0] d.list) (by rw [q0]) (by omega)) rfl rfl (.cons (S13.snap 5 rfl) (.cons (S13.snap 0 rfl) (.nil _))) ?_
    simp (disch := omega) only [go_sem, E13, wr.1, wr.2.1, wr.2.2, wl.1, wl.2.1, wl.2.2, xr.1, xr.2.1, xr.2.2, xl.1, xl.2.1, xl.2.2]
  · simp (disch := omega) only [go_sem, hBn, hB2, D11, ur.1, ur.2.1, ur.2.2, ul.1, ul.2.1, ul.2.2]
    have q1 : (cfgM d s n).list = putM d.list s := cfgM_list hBn (by omega)
    have q2 : (cfgM d s 2).list = putM d.list s := cfgM_list hB2 (by omega)
    refine S11.goDev (pow_f (cfgM d s 2) ok2) (.cons (S11.devSnap 6 7 rfl rfl) (.nil _)) fun gr gl h12 x12 S12 _ _ => ?_
    have E12 := S12.blk 2 rfl
    simp (disch := omega) only [go_sem, E12, wr.1, wr.2.1, wr.2.2, wl.1, wl.2.1, wl.2.2]
    refine S12.goDev (res_f ⟨[0, 0, 0, 0], (cfgM d s 2).list⟩ ok2z) (.cons (S12.devSnap 0 1 rfl rfl) (.nil _)) fun kr kl h13 x13 S13 xr xl => ?_
    have E13 := S13.blk 4 rfl
    simp (disch := omega) only [go_sem, E13, wr.1, wr.2.1, wr.2.2, wl.1, wl.2.1, wl.2.2, xr.1, xr.2.1, xr.2.2, xl.1, xl.2.1, xl.2.2]
    refine CP.goS (sameInts_c (resM [0, 0, 0, 0] (cfgM d s n).list) (resM [0, 0, 0, 0] (cfgM d s 2).list) (by rw [q1, q2]) (by omega)) rfl rfl (.cons (S13.snap 5 rfl) (.cons (S13.snap 0 rfl) (.nil _))) ?_
    simp (disch := omega) only [go_sem, E13, wr.1, wr.2.1, wr.2.2, wl.1, wl.2.1, wl.2.2, xr.1, xr.2.1, xr.2.2, xl.1, xl.2.1, xl.2.2]
    have K13 := S13.blk 15 rfl
    have s0 : 0 ≤ s.reg ∧ s.reg ≤ 3 := by omega
    have rg1 : ((resM [0, 0, 0, 0] (cfgM d s n).list).map encI)[s.reg.toNat]? = some [.int .i64 s.val] := by
      rw [List.getElem?_map, q1, resM_put hst (a := -1) (by omega) (by omega) (devOk_iff.1 hd).2.2 rfl]; rfl
    have rg2 : ((cfgM d s 2).regs.map encI)[s.reg.toNat]? = some [.int .i64 s.val] := by
      rw [List.getElem?_map, cfgM_two hB2]
      show Option.map encI ((d.regs.set s.reg.toNat s.val)[s.reg.toNat]?) = _
      rw [List.getElem?_set_self (by omega)]; rfl
    refine Exists.elim (S13.ownAt 5 rfl (k := 0) (by rw [resM_len]; show 0 < 4; omega)) fun qa za => ?_
    refine Exists.elim (S13.ownAt 10 rfl (k := 0) (by omega)) fun qb zb => ?_
    have za1 := za.1
    have za2 := za.2
    have zb1 := zb.1
    have zb2 := zb.2
    simp only [resM_len, List.length_cons, List.length_nil, Nat.zero_add] at za1
    simp only [hl2] at zb1
    subst za1
    subst zb1
    have D13 := S13.blk 9 rfl
    simp (disch := omega) only [go_sem, hl1, hl2, K13, E13, D13, za2, zb2, rg1, rg2, wl.1, wl.2.1, wl.2.2, ul.1, ul.2.1, ul.2.2, beq_self_eq_true]
end Go.Av
