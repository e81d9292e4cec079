/- What the laws do with devices: copies, equality, marks. No condition. -/
import Derived.Test.YtdlanjhcabcagaaD7ConfI
namespace Go.Av
open Go.Proofs Go.RowKit
set_option linter.unusedVariables false
set_option linter.unusedSimpArgs false
set_option maxRecDepth 100000
set_option maxHeartbeats 4000000
theorem szIntS_c (xs : List Int) (left : Int) (hx : xs.length ≤ 9223372036854775807) (hl : 0 ≤ left ∧ left ≤ 1048576) : CP Try.prog 27 [.lst 1 (xs.map encI), .int .i64 left] (.int .i64 (szM xs.length left)) [] := by
  refine CP.by rfl mixed (cfn_ok Try.func27 ok27) rfl ?_
  simp (disch := omega) only [s27, go_sem]
  refine condP_dec (fun h => ?_) (fun h => ?_) <;> simp (disch := omega) only [go_sem] <;> simp [szM, h]
theorem refs_Setting (n : Nat) (x : Setting) : V.refsL n (encSetting x) = true := rfl
theorem refs_SettingS (n : Nat) (xs : List Setting) : V.refs n (.lst 2 (xs.map encSetting)) = true := by simp [V.refs, refsLL_map encSetting (refs_Setting n) xs]
theorem flat_Setting (xs : List Setting) : flat (xs.map encSetting) = true := by simp [flat, encSetting, V.scalar]
theorem szSettingS_c (xs : List Setting) (left : Int) (hx : xs.length ≤ 9223372036854775807) (hl : 0 ≤ left ∧ left ≤ 1048576) : CP Try.prog 28 [.lst 2 (xs.map encSetting), .int .i64 left] (.int .i64 (szM xs.length left)) [] := by
  refine CP.by rfl mixed (cfn_ok Try.func28 ok28) rfl ?_
  simp (disch := omega) only [s28, go_sem]
  refine condP_dec (fun h => ?_) (fun h => ?_) <;> simp (disch := omega) only [go_sem] <;> simp [szM, h]
theorem toSetting_c (s : Setting) : CP Try.prog 15 [.agg (encSetting s)] (.agg (encSetting s)) [] := by
  obtain ⟨f0, f1⟩ := s
  refine CP.by rfl mixed (cfn_ok Try.func15 ok15) rfl ?_
  simp (disch := omega) only [s15, go_sem, encSetting, storeH, storeB, splice]
theorem toSettingS_c (xs : List Setting) (hx : xs.length ≤ 1048576) : CP Try.prog 35 [.lst 2 (xs.map encSetting)] (.own 0 2 0 xs.length xs.length) [xs.map encSetting] := by
  refine C.cpOwn (flat_Setting _) (C.by mixed (cfn_ok Try.func35 ok35) rfl ?_)
  simp (disch := omega) only [s35, go_sem]
  refine loopP_intro (fun m s => ∃ k : Nat, k ≤ xs.length ∧ m = xs.length - k ∧ s.e 0 = .lst 2 (xs.map encSetting) ∧ s.e 4 = .int .i64 k ∧ s.e 3 = .own 0 2 0 xs.length xs.length ∧ s.h[0]? = some ((xs.take k).map encSetting ++ List.replicate (xs.length - k) [.int .i64 0, .int .i64 0])) xs.length ⟨0, by omega, by omega, rfl, rfl, rfl, by simp⟩ ?_
  rintro m e hp ⟨k, hk, rfl, e0, e4, e3, hid⟩
  simp only at e0 e4 e3 hid
  simp (disch := omega) only [go_sem, e0, e4, e3, encSetting]
  refine condP_dec (fun hlt => ?_) (fun hlt => ?_)
  · have hlt' : k < xs.length := by omega
    simp (disch := omega) only [go_sem, e0, e4, e3, encSetting]
    refine CP.go (toSetting_c xs[k]) rfl rfl ?_
    simp (disch := omega) only [go_sem, e0, e4, e3, encSetting]
    have hst := storeH_row (sz := 2) (x := .agg (encSetting xs[k])) hid (half_len _ _ hk) hlt' (half_sz (fun _ => rfl) rfl) rfl
    simp only [encSetting, cells_agg] at hst
    simp (disch := omega) only [go_sem, e0, e4, e3, encSetting, hst]
    refine nextP_intro (xs.length - (k + 1)) (by omega) ⟨k + 1, by omega, rfl, ?_, ?_, ?_, ?_⟩
    · simp (disch := omega) only [go_sem, e0, e4, e3, encSetting, hst]
    · simp (disch := omega) only [go_sem, e0, e4, e3, encSetting, hst]; rfl
    · simp (disch := omega) only [go_sem, e0, e4, e3, encSetting, hst]
    · rw [heap_set _ hid]
      congr 1
      exact half_set encSetting _ hlt'
  · simp (disch := omega) only [go_sem, e0, e4, e3, encSetting]
    refine ⟨0, rfl, ?_⟩
    have : k = xs.length := by omega
    subst this
    rw [hid]; simp
theorem toSettingS_f (xs : List Setting) (hx : xs.length ≤ 1048576) : F Try.prog 35 [.lst 2 (xs.map encSetting)] (.lst 2 (xs.map encSetting)) := CP.f (flat_Setting _) (by simp) (toSettingS_c xs hx)
def eqSettingB (x y : Setting) : Bool := decide (x.reg = y.reg) && decide (x.val = y.val)
theorem eqSetting_c (x y : Setting) : CP Try.prog 54 [.agg (encSetting x), .agg (encSetting y)] (.bool (eqSettingB x y)) [] := by
  obtain ⟨f0, f1⟩ := x
  refine CP.by rfl mixed (cfn_ok Try.func54 ok54) rfl ?_
  simp (disch := omega) only [s54, go_sem, encSetting]
  repeat' (first | (refine condP_t (by assumption) ?_ <;> (try simp (disch := omega) only [go_sem])) | (refine condP_f (by assumption) ?_ <;> (try simp (disch := omega) only [go_sem])) | (refine condP_dec (fun h => ?_) (fun h => ?_) <;> (try simp (disch := omega) only [go_sem])) | (refine condP_split (fun h => ?_) (fun h => ?_) <;> (try simp (disch := omega) only [go_sem])))
  all_goals simp_all [eqSettingB]
theorem eqSettingB_refl (x : Setting) : eqSettingB x x = true := by simp [eqSettingB]
theorem eqSettingS_c (xs : List Setting) (hx : xs.length ≤ 9223372036854775807) : CP Try.prog 37 [.lst 2 (xs.map encSetting), .lst 2 (xs.map encSetting)] (.bool true) [] := by
  refine CP.by rfl mixed (cfn_ok Try.func37 ok37) rfl ?_
  simp (disch := omega) only [s37, go_sem]
  refine loopP_intro (fun m s => ∃ k : Nat, k ≤ xs.length ∧ m = xs.length - k ∧ s.e 0 = .lst 2 (xs.map encSetting) ∧ s.e 1 = .lst 2 (xs.map encSetting) ∧ s.e 5 = .int .i64 k) xs.length ⟨0, by omega, by omega, rfl, rfl, rfl⟩ ?_
  rintro m e hp ⟨k, hk, rfl, e0, e1, e5⟩
  simp only at e0 e1 e5
  simp (disch := omega) only [go_sem, e0, e1, e5, encSetting]
  refine condP_dec (fun hlt => ?_) (fun hlt => ?_)
  · have hlt' : k < xs.length := by omega
    simp (disch := omega) only [go_sem, e0, e1, e5, encSetting]
    refine CP.go (eqSetting_c xs[k] xs[k]) rfl rfl ?_
    simp (disch := omega) only [go_sem, eqSettingB_refl, e0, e1, e5, encSetting]
    refine nextP_intro (xs.length - (k + 1)) (by omega) ⟨k + 1, by omega, rfl, ?_, ?_, ?_⟩
    · simp (disch := omega) only [go_sem, e0, e1, e5, encSetting]
    · simp (disch := omega) only [go_sem, e0, e1, e5, encSetting]
    · simp (disch := omega) only [go_sem, e0, e1, e5, encSetting]; rfl
  · simp (disch := omega) only [go_sem, e0, e1, e5, encSetting]
theorem storeH_cell {h : Heap} {id n i j : Nat} {b : Blk} {e : List V} {v : V} (hb : h[id]? = some b) (hn : b.length = n) (he : b[i]? = some e) (hj : j < e.length) (hv : v.one = true) (hc : v.cells = [v]) : storeH h 1 (.ptr id n i j) v = some (h.set id (b.set i (e.set j v))) := by
  subst hn
  have h3 : splice e j [v] = e.set j v := by
    rw [List.set_eq_take_append_cons_drop, if_pos hj]
    simp [splice]
  simp [storeH, storeB, hb, he, hc, hv, h3]
  omega
theorem store_cell {h : Heap} {id n i o : Nat} {b : Blk} {r : List V} {z : Int} (hb : h[id]? = some b) (hn : b.length = n) (hi : b[i]? = some r) (ho : o < r.length) : storeH h 1 (.ptr id n i o) (.int .i64 z) = some (h.set id (b.set i (r.set o (.int .i64 z)))) :=
  storeH_cell hb hn hi ho rfl rfl
def mkS (k : Int) (n : Nat) : List Setting := (List.range n).map fun (i : Nat) => ⟨k + 2 * (i : Int), k + 2 * (i : Int) + 1⟩
theorem mkS_len (k : Int) (n : Nat) : (mkS k n).length = n := by simp [mkS]
theorem mkS_succ (k : Int) (n : Nat) : mkS k (n + 1) = mkS k n ++ [⟨k + 2 * (n : Int), k + 2 * (n : Int) + 1⟩] := by simp [mkS, List.range_succ]
theorem markSettingS_c (h : Heap) (xs : List Setting) (v : V) (k : Int) (L : List It) (S : Sep h (.v (.lst 2 (xs.map encSetting)) v :: L)) (hx : xs.length ≤ 1000000000000000) (hk : 0 ≤ k ∧ k ≤ 1000000000000000000) :
    C Try.prog 39 [v, .int .i64 k] h (fun r h' => r = .int .i64 (k + 2 * xs.length) ∧ Sep h' (.v (.lst 2 ((mkS k xs.length).map encSetting)) v :: L)) := by
  have zv := S.vv 0 rfl
  have ovn := zv.2.1
  have hnh : [v, .int .i64 k].all V.noHole = true := by
    rcases S.flat_ (flat_G xs) with ⟨rfl, _⟩ | ⟨l, rfl, _⟩ <;> rfl
  refine C.by mixed (cfn_ok Try.func39 ok39) hnh ?_
  simp (disch := omega) only [s39, go_sem, ovn]
  refine loopP_intro (fun m s => ∃ j : Nat, j ≤ xs.length ∧ m = xs.length - j ∧ s.e 0 = v ∧ s.e 1 = .int .i64 (k + 2 * (j : Int)) ∧ s.e 5 = .int .i64 j ∧ Sep s.h (.v (.lst 2 ((mkS k j ++ xs.drop j).map encSetting)) v :: L)) xs.length ⟨0, by omega, by omega, by simp (disch := omega) only [go_sem, ovn], by simp (disch := omega) only [go_sem, ovn] <;> simp, by simp (disch := omega) only [go_sem, ovn] <;> rfl, by simpa [mkS] using S⟩ ?_
  intro m e hp P
  refine Exists.elim P fun j P => ?_
  have hj := P.1
  have hm := P.2.1
  have e0 := P.2.2.1
  have e1 := P.2.2.2.1
  have e5 := P.2.2.2.2.1
  have Sj := P.2.2.2.2.2
  clear P
  subst hm
  simp only at e0 e1 e5 Sj
  have hml : (mkS k j ++ xs.drop j).length = xs.length := by simp [mkS_len]; omega
  have lenv := fun G => (Sj.lst 0 rfl).elim fun i o => o.len_ G
  simp only [List.length_map, hml] at lenv
  simp (disch := omega) only [go_sem, e0, e1, e5, ovn, lenv]
  refine condP_dec (fun hlt => ?_) (fun hlt => ?_)
  · have hlt' : j < xs.length := by omega
    refine Or.elim (Sj.flat_ (flat_G _)) (fun q => ?_) fun q => ?_
    · have := congrArg List.length q.2.1
      simp only [List.length_map, hml, List.length_nil] at this
      omega
    refine Exists.elim q fun id q => ?_
    have hv := q.1
    have Sk := q.2
    clear q
    rw [List.length_map, hml] at hv
    subst hv
    have hid := Sk.blk 0 rfl
    have hr0 : ((mkS k j ++ xs.drop j).map encSetting)[j]? = some [.int .i64 xs[j].reg, .int .i64 xs[j].val] := by
      rw [List.getElem?_map, List.getElem?_append_right (by rw [mkS_len]; omega), mkS_len, Nat.sub_self, List.getElem?_drop, Nat.add_zero, List.getElem?_eq_getElem hlt']; rfl
    have st := store_cell (n := xs.length) (o := 0) (z := k + 2 * j) hid (by simpa using hml) hr0 (by simp)
    have Sn := Sk.setK (((mkS k j ++ xs.drop j).map encSetting).set j [.int .i64 (k + 2 * j), .int .i64 xs[j].val])
    have hid2 := Sn.blk 0 rfl
    have hr1 : (((mkS k j ++ xs.drop j).map encSetting).set j [.int .i64 (k + 2 * j), .int .i64 xs[j].val])[j]? = some [.int .i64 (k + 2 * j), .int .i64 xs[j].val] := by
      rw [List.getElem?_set_self (by rw [List.length_map, hml]; exact hlt')]
    have st2 := store_cell (n := xs.length) (o := 1) (z := k + 2 * j + 1) hid2 (by rw [List.length_set, List.length_map]; exact hml) hr1 (by simp)
    have e2 : (((mkS k j ++ xs.drop j).map encSetting).set j [.int .i64 (k + 2 * j), .int .i64 xs[j].val]).set j [.int .i64 (k + 2 * j), .int .i64 (k + 2 * j + 1)] = (mkS k (j + 1) ++ xs.drop (j + 1)).map encSetting := by
      rw [List.set_set, show [V.int .i64 (k + 2 * j), .int .i64 (k + 2 * j + 1)] = encSetting ⟨k + 2 * j, k + 2 * j + 1⟩ from rfl, ← List.map_set]
      congr 1
      rw [List.set_append_right _ _ (by rw [mkS_len]; omega), mkS_len, Nat.sub_self, List.drop_eq_getElem_cons hlt', List.set_cons_zero, mkS_succ, List.append_assoc]; rfl
    simp only [List.set_cons_zero, List.set_cons_succ] at st st2
    rw [e2] at st2
    have Sm := Sn.setK ((mkS k (j + 1) ++ xs.drop (j + 1)).map encSetting)
    simp (disch := omega) only [go_sem, e0, e1, e5, ovn, lenv, st, st2]
    refine nextP_intro (xs.length - (j + 1)) (by omega) ⟨j + 1, by omega, rfl, by simp (disch := omega) only [go_sem, e0, e1, e5, ovn, lenv, st, st2], by simp (disch := omega) only [go_sem, e0, e1, e5, ovn, lenv, st, st2]; exact congrArg (V.int .i64) (by omega), by simp (disch := omega) only [go_sem, e0, e1, e5, ovn, lenv, st, st2] <;> rfl, ?_⟩
    exact Sm.ofFlat (sz := 2) (n := xs.length) (by simp [mkS_len]; omega) (flat_G _)
  · have : j = xs.length := by omega
    subst this
    rw [List.drop_length, List.append_nil] at Sj
    simp (disch := omega) only [go_sem, e0, e1, e5, ovn, lenv]
    exact Sj
theorem heldSettingS_c (n : Nat) (k : Int) (hx : n ≤ 1000000000000000) (hk : 0 ≤ k ∧ k ≤ 1000000000000000000) : CP Try.prog 41 [.lst 2 ((mkS k n).map encSetting), .int .i64 k] (.int .i64 (k + 2 * n)) [] := by
  have hml := mkS_len k n
  refine CP.by rfl mixed (cfn_ok Try.func41 ok41) rfl ?_
  simp (disch := omega) only [s41, go_sem, encSetting, hml]
  refine loopP_intro (fun m s => ∃ j : Nat, j ≤ n ∧ m = n - j ∧ s.e 0 = .lst 2 ((mkS k n).map encSetting) ∧ s.e 1 = .int .i64 (k + 2 * j) ∧ s.e 5 = .int .i64 j) n ⟨0, by omega, by omega, rfl, by simp (disch := omega) only [go_sem, encSetting, hml] <;> simp, rfl⟩ ?_
  rintro m e hp ⟨j, hj, rfl, e0, e1, e5⟩
  simp only at e0 e1 e5
  simp (disch := omega) only [go_sem, e0, e1, e5, encSetting, hml]
  refine condP_dec (fun hlt => ?_) (fun hlt => ?_)
  · have hlt' : j < (mkS k n).length := by omega
    have hm : (mkS k n)[j] = ⟨k + 2 * (j : Int), k + 2 * (j : Int) + 1⟩ := by simp [mkS]
    simp (disch := omega) only [go_sem, hm, e0, e1, e5, encSetting, hml]
    refine nextP_intro (n - (j + 1)) (by omega) ⟨j + 1, by omega, rfl, ?_, ?_, ?_⟩
    · simp (disch := omega) only [go_sem, e0, e1, e5, encSetting, hml]
    · simp (disch := omega) only [go_sem, e0, e1, e5, encSetting, hml] <;> exact congrArg (V.int .i64) (by omega)
    · simp (disch := omega) only [go_sem, e0, e1, e5, encSetting, hml] <;> rfl
  · simp (disch := omega) only [go_sem, e0, e1, e5, encSetting, hml]
    have : j = n := by omega
    subst this
    rfl
end Go.Av
