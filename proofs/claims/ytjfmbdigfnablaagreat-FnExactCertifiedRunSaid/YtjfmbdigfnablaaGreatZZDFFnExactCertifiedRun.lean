import Derived.Test.YtjfmbdigfnablaaGreatZZDDFnExactCertifiedRun
import Derived.Test.YtjfmbdigfnablaaGreatZZDEFnExactCertifiedRun
namespace Go.Av
open Go.Proofs Go.RowKit
set_option linter.unusedVariables false
set_option linter.unusedSimpArgs false
set_option maxRecDepth 100000
set_option maxHeartbeats 8000000
theorem toIntS_c (xs : List Int) (hx : xs.length ≤ 1048576) : CP Tryz.prog 53 [.lst 1 (xs.map encI)] (.own 0 1 0 xs.length xs.length) [xs.map encI] := by
  refine C.cpOwn (flat_encI _) (C.by mixed (cfn_ok Tryz.func53 ok53) rfl ?_)
  simp (disch := omega) only [s53, go_sem]
  refine loopP_intro (fun m s => ∃ k : Nat, k ≤ xs.length ∧ m = xs.length - k ∧ s.e 0 = .lst 1 (xs.map encI) ∧ s.e 4 = .int .i64 k ∧ s.e 3 = .own 0 1 0 xs.length xs.length ∧ s.h[0]? = some ((xs.take k).map encI ++ List.replicate (xs.length - k) (encI 0))) xs.length ⟨0, by omega, by omega, rfl, rfl, rfl, by simp [encI]⟩ ?_
  rintro m e hp ⟨k, hk, rfl, e0, e4, e3, hid⟩
  simp only at e0 e4 e3 hid
  simp (disch := omega) only [go_sem, e0, e4, e3, encI]
  refine condP_dec (fun hlt => ?_) (fun hlt => ?_)
  · have hlt' : k < xs.length := by omega
    simp (disch := omega) only [go_sem, e0, e4, e3, encI]
    rw [storeH_row hid (half_len _ _ hk) hlt' (half_sz (fun _ => rfl) rfl) rfl]
    simp (disch := omega) only [go_sem, e0, e4, e3, encI]
    refine nextP_intro (xs.length - (k + 1)) (by omega) ⟨k + 1, by omega, rfl, ?_, ?_, ?_, ?_⟩
    · simp (disch := omega) only [go_sem, e0, e4, e3, encI]
    · simp (disch := omega) only [go_sem, e0, e4, e3, encI]; rfl
    · simp (disch := omega) only [go_sem, e0, e4, e3, encI]
    · rw [heap_set _ hid]
      congr 1
      exact half_set encI _ hlt'
  · simp (disch := omega) only [go_sem, e0, e4, e3, encI]
    refine ⟨0, rfl, ?_⟩
    have : k = xs.length := by omega
    subst this
    rw [hid]; simp
theorem toIntS_f (xs : List Int) (hx : xs.length ≤ 1048576) : F Tryz.prog 53 [.lst 1 (xs.map encI)] (.lst 1 (xs.map encI)) := CP.f (flat_encI _) (by simp) (toIntS_c xs hx)
theorem eqIntS_r (xs : List Int) (hx : xs.length ≤ 9223372036854775807) : CP Tryz.prog 55 [.lst 1 (xs.map encI), .lst 1 (xs.map encI)] (.bool true) [] := by
  refine CP.by rfl mixed (cfn_ok Tryz.func55 ok55) rfl ?_
  simp (disch := omega) only [s55, go_sem, encI]
  refine loopP_intro (fun m s => ∃ k : Nat, k ≤ xs.length ∧ m = xs.length - k ∧ s.e 0 = .lst 1 (xs.map encI) ∧ s.e 1 = .lst 1 (xs.map encI) ∧ s.e 5 = .int .i64 k) xs.length ⟨0, by omega, by omega, rfl, rfl, rfl⟩ ?_
  rintro m e hp ⟨k, hk, rfl, e0, e1, e5⟩
  simp only at e0 e1 e5
  simp (disch := omega) only [go_sem, e0, e1, e5, encI]
  refine condP_dec (fun hlt => ?_) (fun hlt => ?_)
  · have hlt' : k < xs.length := by omega
    simp (disch := omega) only [go_sem, e0, e1, e5, encI]
    exact nextP_intro (xs.length - (k + 1)) (by omega) ⟨k + 1, by omega, rfl, by simp (disch := omega) only [go_sem, e0, e1, e5, encI], by simp (disch := omega) only [go_sem, e0, e1, e5, encI], by simp (disch := omega) only [go_sem, e0, e1, e5, encI]; rfl⟩
  · simp (disch := omega) only [go_sem, e0, e1, e5, encI]
theorem refs_LL (n : Nat) (us : List (List Int)) : V.refs n (.lst 1 (us.map encL)) = true := by simp [V.refs, refsLL_map encL (refs_L n) us]
theorem refs_int2 (n : Nat) (xs ys : List Int) : V.refsL n [.lst 1 (xs.map encI), .lst 1 (ys.map encI)] = true := by simp [V.refsL, V.refs, refsLL_map encI (fun _ => rfl) xs, refsLL_map encI (fun _ => rfl) ys]
theorem eqIntSS_r (us : List (List Int)) (hx : us.length ≤ 9223372036854775807) (hb : ∀ u ∈ us, u.length ≤ 9223372036854775807) : CP Tryz.prog 122 [.lst 1 (us.map encL), .lst 1 (us.map encL)] (.bool true) [] := by
  refine CP.by rfl mixed (cfn_ok Tryz.func122 ok122) rfl ?_
  simp (disch := omega) only [s122, go_sem, encL]
  refine loopP_intro (fun m s => ∃ k : Nat, k ≤ us.length ∧ m = us.length - k ∧ s.e 0 = .lst 1 (us.map encL) ∧ s.e 1 = .lst 1 (us.map encL) ∧ s.e 5 = .int .i64 k) us.length ⟨0, by omega, by omega, rfl, rfl, rfl⟩ ?_
  rintro m e hp ⟨k, hk, rfl, e0, e1, e5⟩
  simp only at e0 e1 e5
  simp (disch := omega) only [go_sem, e0, e1, e5, encL]
  refine condP_dec (fun hlt => ?_) (fun hlt => ?_)
  · have hlt' : k < us.length := by omega
    simp (disch := omega) only [go_sem, e0, e1, e5, encL]
    refine CP.go (eqIntS_r us[k] (hb _ (List.getElem_mem hlt'))) rfl (refs_int2 _ _ _) ?_
    simp (disch := omega) only [go_sem, e0, e1, e5, encL]
    exact nextP_intro (us.length - (k + 1)) (by omega) ⟨k + 1, by omega, rfl, by simp (disch := omega) only [go_sem, e0, e1, e5, encL], by simp (disch := omega) only [go_sem, e0, e1, e5, encL], by simp (disch := omega) only [go_sem, e0, e1, e5, encL]; rfl⟩
  · simp (disch := omega) only [go_sem, e0, e1, e5, encL]
theorem eqRun_r (x : Run) (hm : x.mem.length ≤ 9223372036854775807) (hu : x.used.length ≤ 9223372036854775807) (hl : ∀ u ∈ x.used, u.length ≤ 9223372036854775807) (hb : x.boots.length ≤ 9223372036854775807) : CP Tryz.prog 54 [.agg (encRun x), .agg (encRun x)] (.bool true) [] := by
  refine CP.by rfl mixed (cfn_ok Tryz.func54 ok54) rfl ?_
  simp (disch := omega) only [s54, go_sem, encRun]
  refine CP.go (eqIntS_r x.mem hm) rfl (refs_int2 _ _ _) ?_
  simp (disch := omega) only [go_sem, encRun]
  refine CP.go (eqIntSS_r x.used hu hl) rfl (by simp only [V.refsL, refs_LL]; rfl) ?_
  simp (disch := omega) only [go_sem, encRun]
  refine CP.go (eqIntS_r x.boots hb) rfl (refs_int2 _ _ _) ?_
  simp (disch := omega) only [go_sem, encRun]
def mkI (k : Int) (n : Nat) : List Int := (List.range n).map fun (i : Nat) => k + (i : Int)
theorem mkI_len (k : Int) (n : Nat) : (mkI k n).length = n := by simp [mkI]
theorem mkI_succ (k : Int) (n : Nat) : mkI k (n + 1) = mkI k n ++ [k + (n : Int)] := by simp [mkI, List.range_succ]
theorem markIntS_c (h : Heap) (xs : List Int) (v : V) (k : Int) (L : List It) (S : Sep h (.v (.lst 1 (xs.map encI)) v :: L)) (hx : xs.length ≤ 1000000000000000) (hk : 0 ≤ k ∧ k ≤ 1000000000000000000) :
    C Tryz.prog 56 [v, .int .i64 k] h (fun r h' => r = .int .i64 (k + xs.length) ∧ Sep h' (.v (.lst 1 ((mkI k xs.length).map encI)) v :: L)) := by
  have zv := S.vv 0 rfl
  have ovn := zv.2.1
  have hnh : [v, .int .i64 k].all V.noHole = true := by
    rcases S.flat_ (flat_encI xs) with ⟨rfl, _⟩ | ⟨l, rfl, _⟩ <;> rfl
  refine C.by mixed (cfn_ok Tryz.func56 ok56) hnh ?_
  simp (disch := omega) only [s56, go_sem, ovn]
  refine loopP_intro (fun m s => ∃ j : Nat, j ≤ xs.length ∧ m = xs.length - j ∧ s.e 0 = v ∧ s.e 1 = .int .i64 (k + (j : Int)) ∧ s.e 5 = .int .i64 j ∧ Sep s.h (.v (.lst 1 ((mkI k j ++ xs.drop j).map encI)) v :: L)) xs.length ⟨0, by omega, by omega, by simp (disch := omega) only [go_sem, ovn], by simp (disch := omega) only [go_sem, ovn] <;> simp, by simp (disch := omega) only [go_sem, ovn] <;> rfl, by simpa [mkI] using S⟩ ?_
  intro m e hp P
  refine Exists.elim P fun j P => ?_
  have hj := P.1
  have hm := P.2.1
  have e0 := P.2.2.1
  have e1 := P.2.2.2.1
  have e5 := P.2.2.2.2.1
  have Sj := P.2.2.2.2.2
  clear P
  subst hm
  simp only at e0 e1 e5 Sj
  have hml : (mkI k j ++ xs.drop j).length = xs.length := by simp [mkI_len]; omega
  have lenv := fun G => (Sj.lst 0 rfl).elim fun i o => o.len_ G
  simp only [List.length_map, hml] at lenv
  simp (disch := omega) only [go_sem, e0, e1, e5, ovn, lenv]
  refine condP_dec (fun hlt => ?_) (fun hlt => ?_)
  · have hlt' : j < xs.length := by omega
    refine Or.elim (Sj.flat_ (flat_encI _)) (fun q => ?_) fun q => ?_
    · have := congrArg List.length q.2.1
      simp only [List.length_map, hml, List.length_nil] at this
      omega
    refine Exists.elim q fun id q => ?_
    have hv := q.1
    have Sk := q.2
    clear q
    rw [List.length_map, hml] at hv
    subst hv
    have hid := Sk.blk 0 rfl
    have st := storeH_row (h := hp) (id := id) (n := xs.length) (i := j) (sz := 1) (x := .int .i64 (k + j)) hid (by simpa using hml) hlt' (fun e he => by obtain ⟨x, _, rfl⟩ := List.mem_map.1 he; rfl) rfl
    have e2 : ((mkI k j ++ xs.drop j).map encI).set j (V.cells (V.int .i64 (k + j))) = (mkI k (j + 1) ++ xs.drop (j + 1)).map encI := by
      rw [show V.cells (V.int .i64 (k + j)) = encI (k + j) from rfl, ← List.map_set]
      congr 1
      rw [List.set_append_right _ _ (by rw [mkI_len]; omega), mkI_len, Nat.sub_self, List.drop_eq_getElem_cons hlt', List.set_cons_zero, mkI_succ, List.append_assoc]; rfl
    have Sn := Sk.setK (((mkI k j ++ xs.drop j).map encI).set j (V.cells (V.int .i64 (k + j))))
    rw [e2] at Sn st
    simp (disch := omega) only [go_sem, e0, e1, e5, ovn, lenv, st]
    refine nextP_intro (xs.length - (j + 1)) (by omega) ⟨j + 1, by omega, rfl, by simp (disch := omega) only [go_sem, e0, e1, e5, ovn, lenv, st], by simp (disch := omega) only [go_sem, e0, e1, e5, ovn, lenv, st]; exact congrArg (V.int .i64) (by omega), by simp (disch := omega) only [go_sem, e0, e1, e5, ovn, lenv, st] <;> rfl, ?_⟩
    exact Sn.ofFlat (sz := 1) (n := xs.length) (by simp [mkI_len]; omega) (flat_encI _)
  · have : j = xs.length := by omega
    subst this
    rw [List.drop_length, List.append_nil] at Sj
    simp (disch := omega) only [go_sem, e0, e1, e5, ovn, lenv]
    exact Sj
theorem heldIntS_c (n : Nat) (k : Int) (hx : n ≤ 1000000000000000) (hk : 0 ≤ k ∧ k ≤ 1000000000000000000) : CP Tryz.prog 124 [.lst 1 ((mkI k n).map encI), .int .i64 k] (.int .i64 (k + n)) [] := by
  have hml := mkI_len k n
  refine CP.by rfl mixed (cfn_ok Tryz.func124 ok124) rfl ?_
  simp (disch := omega) only [s124, go_sem, encI, hml]
  refine loopP_intro (fun m s => ∃ j : Nat, j ≤ n ∧ m = n - j ∧ s.e 0 = .lst 1 ((mkI k n).map encI) ∧ s.e 1 = .int .i64 (k + j) ∧ s.e 5 = .int .i64 j) n ⟨0, by omega, by omega, rfl, by simp (disch := omega) only [go_sem, encI, hml] <;> simp, rfl⟩ ?_
  rintro m e hp ⟨j, hj, rfl, e0, e1, e5⟩
  simp only at e0 e1 e5
  simp (disch := omega) only [go_sem, e0, e1, e5, encI, hml]
  refine condP_dec (fun hlt => ?_) (fun hlt => ?_)
  · have hlt' : j < (mkI k n).length := by omega
    have hm : (mkI k n)[j] = k + (j : Int) := by simp [mkI]
    simp (disch := omega) only [go_sem, hm, e0, e1, e5, encI, hml]
    refine nextP_intro (n - (j + 1)) (by omega) ⟨j + 1, by omega, rfl, ?_, ?_, ?_⟩
    · simp (disch := omega) only [go_sem, e0, e1, e5, encI, hml]
    · simp (disch := omega) only [go_sem, e0, e1, e5, encI, hml] <;> exact congrArg (V.int .i64) (by omega)
    · simp (disch := omega) only [go_sem, e0, e1, e5, encI, hml] <;> rfl
  · simp (disch := omega) only [go_sem, e0, e1, e5, encI, hml]
    have : j = n := by omega
    subst this
    rfl
def cntL : List (List Int) → Int
  | [] => 0
  | u :: us => (u.length : Int) + cntL us
def mkL : List (List Int) → Int → List (List Int)
  | [], _ => []
  | u :: us, k => mkI k u.length :: mkL us (k + (u.length : Int))
theorem mkL_app : ∀ (a b : List (List Int)) (k : Int), mkL (a ++ b) k = mkL a k ++ mkL b (k + cntL a)
  | [], b, k => by simp [mkL, cntL]
  | t :: a, b, k => by
    simp only [List.cons_append, mkL, mkL_app a b, cntL]
    rw [Int.add_assoc]
theorem cntL_app : ∀ (a b : List (List Int)), cntL (a ++ b) = cntL a + cntL b
  | [], b => by simp [cntL]
  | t :: a, b => by simp only [List.cons_append, cntL, cntL_app a b]; omega
theorem mkL_len : ∀ (us : List (List Int)) (k : Int), (mkL us k).length = us.length
  | [], _ => rfl
  | t :: us, k => by simp [mkL, mkL_len us]
theorem cntL_bd : ∀ (us : List (List Int)), (∀ u ∈ us, u.length ≤ 282429536481) → 0 ≤ cntL us ∧ cntL us ≤ 282429536481 * (us.length : Int)
  | [], _ => by simp [cntL]
  | t :: us, h => by
    have h1 := cntL_bd us fun u hu => h u (List.mem_cons_of_mem _ hu)
    have h2 := h t List.mem_cons_self
    simp only [cntL, List.length_cons]; omega
theorem cntL_take {us : List (List Int)} {j : Nat} (h : j < us.length) : cntL (us.take (j + 1)) = cntL (us.take j) + (us[j].length : Int) := by
  rw [List.take_succ_eq_append_getElem h, cntL_app]; simp [cntL]
theorem mkL_take {us : List (List Int)} {j : Nat} (k : Int) (h : j < us.length) : mkL (us.take (j + 1)) k = mkL (us.take j) k ++ [mkI (k + cntL (us.take j)) us[j].length] := by
  rw [List.take_succ_eq_append_getElem h, mkL_app]; rfl
theorem mkL_get {us : List (List Int)} {j : Nat} (k : Int) (h : j < us.length) : (mkL us k)[j]'(by rw [mkL_len]; exact h) = mkI (k + cntL (us.take j)) us[j].length := by
  have e : mkL us k = mkL (us.take (j + 1)) k ++ mkL (us.drop (j + 1)) (k + cntL (us.take (j + 1))) := by rw [← mkL_app, List.take_append_drop]
  have l1 : (mkL (us.take j) k).length = j := by rw [mkL_len]; simp; omega
  have : (mkL us k)[j]? = some (mkI (k + cntL (us.take j)) us[j].length) := by
    rw [e, mkL_take k h, List.append_assoc, List.getElem?_append_right (by omega), l1, Nat.sub_self]; rfl
  exact (List.getElem?_eq_some_iff.1 this).2
theorem Sep.unL {u : List Int} {h : Heap} {L : List It} {c : List V} (S : Sep h (.l (encL u) c :: L)) : ∃ va, c = [va] ∧ Sep h (.v (.lst 1 (u.map encI)) va :: L) := by
  obtain ⟨va, c1, rfl, S1⟩ := sep_ll.1 S
  obtain ⟨rfl, S5⟩ := sep_l0.1 S1
  exact ⟨va, rfl, S5.rot⟩
theorem set_same {b : Blk} {j : Nat} {c : List V} (h : b[j]? = some c) : b.set j c = b := by
  obtain ⟨q, rfl⟩ := List.getElem?_eq_some_iff.1 h
  exact List.set_getElem_self q
theorem markIntSS_c (h : Heap) (us : List (List Int)) (v : V) (k : Int) (L : List It) (S : Sep h (.v (.lst 1 (us.map encL)) v :: L)) (hx : us.length ≤ 1048576) (hb : ∀ u ∈ us, u.length ≤ 282429536481) (hk : 0 ≤ k ∧ k ≤ 100000000000000000) :
    C Tryz.prog 123 [v, .int .i64 k] h (fun r h' => r = .int .i64 (k + cntL us) ∧ Sep h' (.v (.lst 1 ((mkL us k).map encL)) v :: L)) := by
  have zv := S.vv 0 rfl
  have ovn := zv.2.1
  have hnh : [v, .int .i64 k].all V.noHole = true := by
    refine Exists.elim (S.lst 0 rfl) fun i o => ?_
    rcases Owns.lst_.1 o with ⟨rfl, _⟩ | ⟨_, _, _, rfl, _⟩ <;> rfl
  refine C.by mixed (cfn_ok Tryz.func123 ok123) hnh ?_
  simp (disch := omega) only [s123, go_sem, ovn]
  refine loopP_intro (fun m s => ∃ j : Nat, j ≤ us.length ∧ m = us.length - j ∧ s.e 0 = v ∧ s.e 1 = .int .i64 (k + cntL (us.take j)) ∧ s.e 5 = .int .i64 j ∧ Sep s.h (.v (.lst 1 ((mkL (us.take j) k ++ us.drop j).map encL)) v :: L)) us.length ⟨0, by omega, by omega, by simp (disch := omega) only [go_sem, ovn], by simp (disch := omega) only [go_sem, ovn] <;> simp [cntL], by simp (disch := omega) only [go_sem, ovn] <;> rfl, by simpa [mkL] using S⟩ ?_
  intro m e hp P
  refine Exists.elim P fun j P => ?_
  have hj := P.1
  have hm := P.2.1
  have e0 := P.2.2.1
  have e1 := P.2.2.2.1
  have e5 := P.2.2.2.2.1
  have Sj := P.2.2.2.2.2
  clear P
  subst hm
  simp only at e0 e1 e5 Sj
  have hml : (mkL (us.take j) k ++ us.drop j).length = us.length := by simp [mkL_len]; omega
  have lenv := fun G => (Sj.lst 0 rfl).elim fun i o => o.len_ G
  simp only [List.length_map, hml] at lenv
  have hcb := cntL_bd (us.take j) fun t ht => hb t (List.mem_of_mem_take ht)
  simp only [List.length_take] at hcb
  simp (disch := omega) only [go_sem, e0, e1, e5, ovn, lenv]
  refine condP_dec (fun hlt => ?_) (fun hlt => ?_)
  · have hlt' : j < us.length := by omega
    have hbj := hb _ (List.getElem_mem hlt')
    have hd : ((mkL (us.take j) k ++ us.drop j).map encL)[j]? = some (encL us[j]) := by
      have l1 : (mkL (us.take j) k).length = j := by rw [mkL_len]; simp; omega
      rw [List.getElem?_map, List.getElem?_append_right (by omega), l1, Nat.sub_self, List.drop_eq_getElem_cons hlt']; rfl
    refine Exists.elim (Sj.rowWork hd) fun id q => Exists.elim q fun b q => Exists.elim q fun c q => Exists.elim q fun M q => ?_
    have hv := q.1
    have hbl := q.2.1
    have hbj' := q.2.2.1
    have S1 := q.2.2.2.1
    have back := q.2.2.2.2
    clear q
    rw [List.length_map, hml] at hv hbl
    subst hv
    refine Exists.elim (S1.pull 1).unL fun va q => ?_
    have hc := q.1
    have S2 := q.2
    clear q
    subst hc
    have hid := S1.blk 0 rfl
    have z2 := S2.vv 0 rfl
    simp (disch := omega) only [go_sem, e0, e1, e5, ovn, lenv, hid, hbl, hbj', z2.1, z2.2.1, z2.2.2]
    refine C.go (markIntS_c hp us[j] va (k + cntL (us.take j)) _ S2 (by omega) (by omega)) ?_
    rintro r h' ⟨rfl, S3⟩
    have S4 := back _ (encL (mkI (k + cntL (us.take j)) us[j].length)) [va] (by rw [set_same hbj']; exact S3.asRow.sw)
    have hys : ((mkL (us.take j) k ++ us.drop j).map encL).set j (encL (mkI (k + cntL (us.take j)) us[j].length)) = (mkL (us.take (j + 1)) k ++ us.drop (j + 1)).map encL := by
      have l1 : ((mkL (us.take j) k).map encL).length = j := by rw [List.length_map, mkL_len]; simp; omega
      rw [List.map_append, List.drop_eq_getElem_cons hlt', List.map_cons, set_midR l1, mkL_take k hlt', List.map_append, List.map_append, List.append_assoc]; rfl
    rw [hys] at S4
    have hct := cntL_take hlt'
    simp (disch := omega) only [go_sem, e0, e1, e5, ovn, lenv]
    exact nextP_intro (us.length - (j + 1)) (by omega) ⟨j + 1, by omega, rfl, by simp (disch := omega) only [go_sem, e0, e1, e5, ovn, lenv], by simp (disch := omega) only [go_sem, e0, e1, e5, ovn, lenv]; exact congrArg (V.int .i64) (by omega), by simp (disch := omega) only [go_sem, e0, e1, e5, ovn, lenv] <;> rfl, S4⟩
  · have : j = us.length := by omega
    subst this
    rw [List.drop_length, List.append_nil, List.take_length] at Sj
    rw [List.take_length] at e1
    simp (disch := omega) only [go_sem, e0, e1, e5]
    exact Sj
theorem heldIntSS_c (us : List (List Int)) (k : Int) (hx : us.length ≤ 1048576) (hb : ∀ u ∈ us, u.length ≤ 282429536481) (hk : 0 ≤ k ∧ k ≤ 100000000000000000) : CP Tryz.prog 125 [.lst 1 ((mkL us k).map encL), .int .i64 k] (.int .i64 (k + cntL us)) [] := by
  refine CP.by rfl mixed (cfn_ok Tryz.func125 ok125) rfl ?_
  simp (disch := omega) only [s125, go_sem]
  refine loopP_intro (fun m s => ∃ j : Nat, j ≤ us.length ∧ m = us.length - j ∧ s.e 0 = .lst 1 ((mkL us k).map encL) ∧ s.e 1 = .int .i64 (k + cntL (us.take j)) ∧ s.e 5 = .int .i64 j) us.length ⟨0, by omega, by omega, by simp (disch := omega) only [go_sem], by simp (disch := omega) only [go_sem] <;> simp [cntL], by simp (disch := omega) only [go_sem] <;> rfl⟩ ?_
  rintro m e hp ⟨j, hj, rfl, e0, e1, e5⟩
  simp only at e0 e1 e5
  have hml := mkL_len us k
  have hcb := cntL_bd (us.take j) fun t ht => hb t (List.mem_of_mem_take ht)
  simp only [List.length_take] at hcb
  simp (disch := omega) only [go_sem, e0, e1, e5, hml]
  refine condP_dec (fun hlt => ?_) (fun hlt => ?_)
  · have hlt' : j < us.length := by omega
    have hbj := hb _ (List.getElem_mem hlt')
    have hg : ∀ h : j < (mkL us k).length, (mkL us k)[j] = mkI (k + cntL (us.take j)) us[j].length := fun h => mkL_get k hlt'
    simp (disch := omega) only [go_sem, e0, e1, e5, hml, hg, encL]
    refine CP.go (heldIntS_c us[j].length (k + cntL (us.take j)) (by omega) (by omega)) rfl (by simp [V.refsL, V.refs, refsLL_map encI (fun _ => rfl)]) ?_
    simp (disch := omega) only [go_sem, e0, e1, e5, hml, hg, encL]
    repeat' (first | (refine condP_t (by assumption) ?_ <;> (try simp (disch := omega) only [go_sem, e0, e1, e5, hml, hg, encL])) | (refine condP_f (by assumption) ?_ <;> (try simp (disch := omega) only [go_sem, e0, e1, e5, hml, hg, encL])) | (refine condP_dec (fun h => ?_) (fun h => ?_) <;> (try simp (disch := omega) only [go_sem, e0, e1, e5, hml, hg, encL])) | (refine condP_split (fun h => ?_) (fun h => ?_) <;> (try simp (disch := omega) only [go_sem, e0, e1, e5, hml, hg, encL])))
    have hct := cntL_take hlt'
    exact nextP_intro (us.length - (j + 1)) (by omega) ⟨j + 1, by omega, rfl, by simp (disch := omega) only [go_sem, e0, e1, e5, hml, hg, encL], by simp (disch := omega) only [go_sem, e0, e1, e5, hml, hg, encL]; exact congrArg (V.int .i64) (by omega), by simp (disch := omega) only [go_sem, e0, e1, e5, hml, hg, encL] <;> rfl⟩
  · have : j = us.length := by omega
    subst this
    rw [List.take_length] at e1
    simp (disch := omega) only [go_sem, e0, e1, e5, hml]
def cntR (x : Run) : Int := (x.mem.length : Int) + cntL x.used + (x.boots.length : Int)
def mkRun (x : Run) (k : Int) : Run := ⟨mkI k x.mem.length, x.at_, mkL x.used (k + (x.mem.length : Int)), mkI (k + (x.mem.length : Int) + cntL x.used) x.boots.length⟩
structure RunBd (x : Run) : Prop where
  m : x.mem.length ≤ 1048576
  u : x.used.length ≤ 1048576
  b : x.boots.length ≤ 1048576
  l : ∀ u ∈ x.used, u.length ≤ 282429536481
theorem markRun_c (h : Heap) (x : Run) (vm vu vb : V) (k : Int) (L : List It) (S : Sep h (.v (.lst 1 (x.mem.map encI)) vm :: .v (.lst 1 (x.used.map encL)) vu :: .v (.lst 1 (x.boots.map encI)) vb :: L)) (B : RunBd x) (hk : 0 ≤ k ∧ k ≤ 10000000000000) :
    C Tryz.prog 57 [.agg [vm, .int .i64 x.at_, vu, vb], .int .i64 k] h (fun r h' => r = .int .i64 (k + cntR x) ∧ Sep h' (.v (.lst 1 ((mkRun x k).mem.map encI)) vm :: .v (.lst 1 ((mkRun x k).used.map encL)) vu :: .v (.lst 1 ((mkRun x k).boots.map encI)) vb :: L)) := by
  have bm := B.m
  have bu := B.u
  have bb := B.b
  have hcl := cntL_bd x.used B.l
  have zm := S.vv 0 rfl
  have zu := S.vv 1 rfl
  have zb := S.vv 2 rfl
  refine C.by mixed (cfn_ok Tryz.func57 ok57) rfl ?_
  have S1 := S.newK [[vm, .int .i64 x.at_, vu, vb]]
  have K1 := S1.blk 0 rfl
  simp (disch := omega) only [s57, go_sem, zm.1, zm.2.1, zm.2.2, zu.1, zu.2.1, zu.2.2, zb.1, zb.2.1, zb.2.2, K1]
  refine C.go (markIntS_c _ x.mem vm k _ (S1.pull 1) (by omega) (by omega)) ?_
  rintro r h2 ⟨rfl, S2⟩
  have K2 := S2.blk 1 rfl
  simp (disch := omega) only [go_sem, zm.1, zm.2.1, zm.2.2, zu.1, zu.2.1, zu.2.2, zb.1, zb.2.1, zb.2.2, K2]
  refine C.go (markIntSS_c _ x.used vu (k + x.mem.length) _ (S2.pull 2) bu B.l (by omega)) ?_
  rintro r h3 ⟨rfl, S3⟩
  have K3 := S3.blk 2 rfl
  simp (disch := omega) only [go_sem, zm.1, zm.2.1, zm.2.2, zu.1, zu.2.1, zu.2.2, zb.1, zb.2.1, zb.2.2, K3]
  refine C.go (markIntS_c _ x.boots vb (k + x.mem.length + cntL x.used) _ (S3.pull 3) (by omega) (by omega)) ?_
  rintro r h4 ⟨rfl, S4⟩
  simp (disch := omega) only [go_sem, zm.1, zm.2.1, zm.2.2, zu.1, zu.2.1, zu.2.2, zb.1, zb.2.1, zb.2.2, K3]
  exact ⟨congrArg (V.int .i64) (by unfold cntR; omega), S4.pk (A := [_, _, _, _]) [2, 1, 0] rfl⟩
theorem heldRun_c (x : Run) (k : Int) (B : RunBd x) (hk : 0 ≤ k ∧ k ≤ 10000000000000) : CP Tryz.prog 58 [.agg (encRun (mkRun x k)), .int .i64 k] (.int .i64 (k + cntR x)) [] := by
  have bm := B.m
  have bu := B.u
  have bb := B.b
  have hcl := cntL_bd x.used B.l
  refine CP.by rfl mixed (cfn_ok Tryz.func58 ok58) rfl ?_
  simp (disch := omega) only [s58, go_sem, encRun, mkRun]
  refine CP.go (heldIntS_c x.mem.length k (by omega) (by omega)) rfl (by simp [V.refsL, V.refs, refsLL_map encI (fun _ => rfl)]) ?_
  simp (disch := omega) only [go_sem, encRun, mkRun]
  repeat' (first | (refine condP_t (by assumption) ?_ <;> (try simp (disch := omega) only [go_sem, encRun, mkRun])) | (refine condP_f (by assumption) ?_ <;> (try simp (disch := omega) only [go_sem, encRun, mkRun])) | (refine condP_dec (fun h => ?_) (fun h => ?_) <;> (try simp (disch := omega) only [go_sem, encRun, mkRun])) | (refine condP_split (fun h => ?_) (fun h => ?_) <;> (try simp (disch := omega) only [go_sem, encRun, mkRun])))
  refine CP.go (heldIntSS_c x.used (k + x.mem.length) bu B.l (by omega)) rfl (by simp only [V.refsL, refs_LL]; rfl) ?_
  simp (disch := omega) only [go_sem, encRun, mkRun]
  repeat' (first | (refine condP_t (by assumption) ?_ <;> (try simp (disch := omega) only [go_sem, encRun, mkRun])) | (refine condP_f (by assumption) ?_ <;> (try simp (disch := omega) only [go_sem, encRun, mkRun])) | (refine condP_dec (fun h => ?_) (fun h => ?_) <;> (try simp (disch := omega) only [go_sem, encRun, mkRun])) | (refine condP_split (fun h => ?_) (fun h => ?_) <;> (try simp (disch := omega) only [go_sem, encRun, mkRun])))
  refine CP.go (heldIntS_c x.boots.length (k + x.mem.length + cntL x.used) (by omega) (by omega)) rfl (by simp [V.refsL, V.refs, refsLL_map encI (fun _ => rfl)]) ?_
  simp (disch := omega) only [go_sem, encRun, mkRun]
  repeat' (first | (refine condP_t (by assumption) ?_ <;> (try simp (disch := omega) only [go_sem, encRun, mkRun])) | (refine condP_f (by assumption) ?_ <;> (try simp (disch := omega) only [go_sem, encRun, mkRun])) | (refine condP_dec (fun h => ?_) (fun h => ?_) <;> (try simp (disch := omega) only [go_sem, encRun, mkRun])) | (refine condP_split (fun h => ?_) (fun h => ?_) <;> (try simp (disch := omega) only [go_sem, encRun, mkRun])))
  all_goals exact congrArg (V.int .i64) (by unfold cntR; omega)
end Go.Av

namespace Go.Av
open Go.Proofs Go.RowKit
set_option linter.unusedVariables false
set_option linter.unusedSimpArgs false
set_option maxRecDepth 100000
set_option maxHeartbeats 16000000
theorem itN_used {f : TS → TS} {c : Nat} (h : ∀ σ, (f σ).used.length ≤ σ.used.length + c) : ∀ (n : Nat) (σ : TS), (itN f n σ).used.length ≤ σ.used.length + n * c
  | 0, σ => by simp [itN]
  | n + 1, σ => by
    have h1 := itN_used h n (f σ)
    have h2 := h σ
    show (itN f n (f σ)).used.length ≤ _
    rw [Nat.add_mul]; omega
theorem runG_used {must : List Int} {task tail : Int} {rd : List Int} {at_ : Int} : ∀ (t : Tr) (σ : TS), t.ok = true → (runG (stepT must task tail rd at_) holdT t σ).used.length ≤ σ.used.length + cntT t
  | .nil, σ, _ => by simp [runG, cntT]
  | .one s r, σ, h => by
    obtain ⟨hs, hk, hr⟩ := Tr.one_ok h
    have h1 := runG_used (must := must) (task := task) (tail := tail) (rd := rd) (at_ := at_) r (stepT must task tail rd at_ s σ) hr
    have h2 := stepT_bd must task tail rd at_ s σ
    simp only [runG, cntT]; omega
  | .grp s a r, σ, h => by
    obtain ⟨hs, hk, ha, hr⟩ := Tr.grp_ok h
    have h1 := runG_used (must := must) (task := task) (tail := tail) (rd := rd) (at_ := at_) r (itN (fun x => runG (stepT must task tail rd at_) holdT a x) (rounds s (holdT s σ)) (stepT must task tail rd at_ s σ)) hr
    have h2 := stepT_bd must task tail rd at_ s σ
    have h3 := itN_used (f := fun x => runG (stepT must task tail rd at_) holdT a x) (fun σ => runG_used (must := must) (task := task) (tail := tail) (rd := rd) (at_ := at_) a σ ha) (rounds s (holdT s σ)) (stepT must task tail rd at_ s σ)
    have h4 := (rounds_le (b := holdT s σ) hs hk).1
    have h5 : rounds s (holdT s σ) * cntT a ≤ 5 * cntT a := Nat.mul_le_mul_right _ h4
    simp only [runG, cntT]; omega
theorem traceU_len {ts : List Task} {m rd : List Int} {at_ t l : Int} (hp : programOk ts = true) (hm : MemV ts.length m t 0 l) : (traceU ts m rd at_ t l).length ≤ 282429536481 := by
  have pf := prog_facts hp
  have htl : t.toNat < ts.length := by have := hm.t0; have := hm.t1; omega
  have hmem : taskAt ts t ∈ ts := by rw [← taskAt_eq htl]; exact List.getElem_mem _
  have hte := task_facts (pf.2 _ hmem).1
  have htr := treeOf_ok hte.1
  have hcm := cntT_max (t := treeOf (taskAt ts t).body) (by rw [← htr.2.1]; exact htr.2.2)
  have hnn : maxCnt = 282429536481 := rfl
  have := runG_used (must := mustOf (taskAt ts t)) (task := t) (tail := l) (rd := rd) (at_ := at_) (treeOf (taskAt ts t).body) ⟨m.take 8, [], [], [], []⟩ htr.1
  unfold traceU runT
  simp only [List.length_nil, Nat.zero_add] at this
  omega
theorem bootL_used {ts : List Task} {rd : List Int} (hp : programOk ts = true) : ∀ (n : Nat) (b : BT), CM ts b.mem → 0 ≤ b.left → (∀ u ∈ b.used, u.length ≤ 282429536481) → ∀ u ∈ (bootL ts rd n b).used, u.length ≤ 282429536481
  | 0, b, _, _, h => h
  | n + 1, b, hc, hl, h => by
    obtain ⟨t, l, hM⟩ := hc
    have hu := hM.ctl
    obtain ⟨T1, T2, T3, T4, T5⟩ := trace_V (rd := rd) (at_ := b.at_) hp hM
    obtain ⟨⟨k, f1, f2⟩, f3, f4, f5, f6, f7, f8⟩ := taskM_facts (traceS ts b.mem rd b.at_ t l) b T3 hl
    unfold bootL
    rw [hu]
    simp only
    split
    · rename_i q
      rw [f2 q, List.take_length] at f1
      refine bootL_used hp n { (taskM (traceS ts b.mem rd b.at_ t l) b).2 with used := b.used ++ [traceU ts b.mem rd b.at_ t l] } (by show CM ts (taskM (traceS ts b.mem rd b.at_ t l) b).2.mem; rw [f1]; exact T2) f4 fun u hu' => ?_
      rcases List.mem_append.1 hu' with w | w
      · exact h u w
      · rw [List.mem_singleton.1 w]; exact traceU_len hp hM
    · rw [f3]; exact h
theorem bootM_used {ts : List Task} {m rd : List Int} {at_ e : Int} (hp : programOk ts = true) (h : VM True ts m) (he : 0 ≤ e) : ∀ u ∈ (bootM ts m rd at_ e).used, u.length ≤ 282429536481 := by
  obtain ⟨t, c, l, hc, hM⟩ := h
  have hu := hM.ctl
  have pf := prog_facts hp
  have c0 := hM.c0
  unfold bootM
  by_cases q : c < 1
  · have hc0 : c = 0 := by omega
    subst hc0
    have hr : recM m = [] := by unfold recM; rw [hu, if_pos q]
    rw [hr]
    exact bootL_used hp 10 ⟨m, at_, [], e⟩ ⟨t, l, hM⟩ he (by simp)
  · have hr : recM m = recVars m c.toNat ++ [⟨8, packM t 0 l⟩] := by unfold recM; rw [hu, if_neg q]
    have R := recover_V (by have := hM.t1; omega) (recVars m c.toNat) ⟨m, at_, [], e⟩ hM (recVars_bd hM.log _ (Nat.le_refl _)) he
    rw [← hr] at R
    split
    · rename_i w
      exact bootL_used hp 10 _ ⟨t, l, (R.1 w).1⟩ R.2.2.2.2.1 (by rw [R.2.2.1]; simp)
    · rw [R.2.2.1]; simp
theorem runL_bd {ts : List Task} {rd : List Int} (hp : programOk ts = true) : ∀ (es : List Int) (r : Run), VM True ts r.mem → (∀ e ∈ es, 0 ≤ e) → (∀ u ∈ r.used, u.length ≤ 282429536481) →
    (runL ts rd es r).mem.length = 49 ∧ (runL ts rd es r).used.length ≤ r.used.length + 10 * es.length ∧ (runL ts rd es r).boots.length = r.boots.length + es.length ∧ ∀ u ∈ (runL ts rd es r).used, u.length ≤ 282429536481
  | [], r, h, _, hu => ⟨by obtain ⟨t, c, l, _, h⟩ := h; exact h.len, by simp [runL], by simp [runL], hu⟩
  | e :: es, r, h, he, hu => by
    have B := bootM_facts (rd := rd) (at_ := r.at_) (e := e) hp h (he e (by simp))
    have U := bootM_used (rd := rd) (at_ := r.at_) hp h (he e (by simp))
    obtain ⟨q1, q2, q3, q4⟩ := runL_bd (rd := rd) hp es ⟨(bootM ts r.mem rd r.at_ e).mem, (bootM ts r.mem rd r.at_ e).at_, r.used ++ (bootM ts r.mem rd r.at_ e).used, r.boots ++ [((bootM ts r.mem rd r.at_ e).used.length : Int)]⟩ B.1 (fun x hx => he x (by simp [hx])) (fun u w => by
      rcases List.mem_append.1 w with z | z
      · exact hu u z
      · exact U u z)
    unfold runL
    simp only [List.length_append, List.length_cons, List.length_nil] at q2 q3
    refine ⟨q1, ?_, ?_, q4⟩
    · simp only [List.length_cons]; omega
    · simp only [List.length_cons]; omega
theorem crR_bd (ts : List Task) (m rd hs : List Int) (s : Store) : RunBd (crR ts m rd hs s) := by
  have z : RunBd ⟨[], 0, [], []⟩ := ⟨by simp, by simp, by simp, by simp⟩
  unfold crR
  split
  · unfold runR
    split
    · rename_i h
      simp only [runOk, Bool.and_eq_true, decide_eq_true_eq, List.all_eq_true] at h
      obtain ⟨⟨⟨h1, h2⟩, h3⟩, h4⟩ := h
      have hp := (memOk_facts h1).1
      obtain ⟨q1, q2, q3, q4⟩ := runL_bd (rd := rd) hp ((enX s hs).take 60) ⟨m, 0, [], []⟩ (memV_weak h1) (fun e he => by
        have := h4 e he
        simp only [energyOk, within, Bool.and_eq_true, decide_eq_true_eq] at this
        omega) (by simp)
      simp only [List.length_nil, Nat.zero_add] at q2 q3
      exact ⟨by unfold runM; omega, by unfold runM; omega, by unfold runM; omega, q4⟩
    · exact z
  · exact z
theorem Sep.runSnap {h : Heap} {L : List It} {x : Run} {vm vu vb : V} (S : Sep h L) (i j k : Nat) (hi : L[i]? = some (.v (.lst 1 (x.mem.map encI)) vm)) (hj : L[j]? = some (.v (.lst 1 (x.used.map encL)) vu)) (hk : L[k]? = some (.v (.lst 1 (x.boots.map encI)) vb)) : Snap h (.agg [vm, .int .i64 x.at_, vu, vb]) (.agg (encRun x)) :=
  Snap.ofSnaps (.cons (S.snap i hi) (.cons (.int .i64 x.at_) (.cons (S.snap j hj) (.cons (S.snap k hk) (.nil _)))))
theorem certRun_law (ts : List Task) (m rd : List Int) (s : Store) (hs : List Int) (hx0 : ts.length ≤ 9223372036854775807) (hb0 : ∀ t ∈ ts, t.body.length ≤ 9223372036854775807) (hm0 : m.length ≤ 9223372036854775807) (hr0 : rd.length ≤ 9223372036854775807) (hh0 : hs.length ≤ 9223372036854775807) : CP Tryz.prog 12 [.agg [.lst 4 (ts.map encTask)], .lst 1 (m.map encI), .lst 1 (rd.map encI), .agg (encStore s), .lst 1 (hs.map encI)] (.bool true) [] := by
  refine CP.by rfl mixed (cfn_ok Tryz.func12 ok12) rfl ?_
  simp (disch := omega) only [s12, go_sem, encStore]
  refine condP_dec (fun hm => ?_) (fun hm => ?_)
  · simp (disch := omega) only [go_sem, encStore]
  simp (disch := omega) only [go_sem, encStore]
  refine condP_dec (fun hr => ?_) (fun hr => ?_)
  · simp (disch := omega) only [go_sem, encStore]
  simp (disch := omega) only [go_sem, encStore]
  refine condP_dec (fun hh => ?_) (fun hh => ?_)
  · simp (disch := omega) only [go_sem, encStore]
  simp (disch := omega) only [go_sem, encStore]
  refine CP.go (szProg_c ts 1048576 hx0 hb0 (by omega)) rfl (refs_progI _ _ _) ?_
  simp (disch := omega) only [go_sem, encStore]
  refine condP_dec (fun hz => ?_) (fun hz => ?_)
  · simp (disch := omega) only [go_sem, encStore]
  have hin := szTask_in (by omega) hz
  have hx := hin.1
  have hb := hin.2
  have hc1 := cntP_bd ts hb
  have R := crR_bd ts m rd hs s
  have hS := crS_f ts m rd hs s hx hb (by omega) (by omega) (by omega)
  have hI := crI_f ts m rd hs s hx hb (by omega) (by omega) (by omega)
  refine Exists.elim (show ∃ x, x = crR ts m rd hs s from ⟨_, rfl⟩) fun x hxx => ?_
  refine Exists.elim (show ∃ y, y = crB ts m rd hs s from ⟨_, rfl⟩) fun y hyy => ?_
  rw [← hxx] at R hS hI
  rw [← hyy] at hS hI
  clear hxx hyy
  have Rm := R.m
  have Ru := R.u
  have Rb := R.b
  have Rl := cntL_bd x.used R.l
  have hcr : 0 ≤ cntR x ∧ cntR x ≤ 1000000000000000000 := by unfold cntR; omega
  have eqr := eqRun_r x (by omega) (by omega) (fun u hu => by have := R.l u hu; omega) (by omega)
  simp (disch := omega) only [go_sem, encStore]
  have S0 : Sep ([[[.lst 4 (ts.map encTask)]], [encStore s]] : Heap) [.k 1 [encStore s], .k 0 [[.lst 4 (ts.map encTask)]]] := ((Sep.nil []).newK _).newK _
  simp only [encStore] at S0
  refine S0.goProg hx hb fun v1 h1 x1 S1 o1 n1 c1 => ?_
  have A1 := S1.blk 1 rfl
  simp (disch := omega) only [go_sem, o1, n1, c1, A1]
  refine S1.goLst (toIntS_f m (by omega)) (.same (refs_int1 _ _)) fun v2 h2 x2 S2 o2 n2 c2 => ?_
  have A2 := S2.blk 2 rfl
  simp (disch := omega) only [go_sem, o1, n1, c1, o2, n2, c2, A2]
  refine S2.goLst (toIntS_f rd (by omega)) (.same (refs_int1 _ _)) fun v3 h3 x3 S3 o3 n3 c3 => ?_
  have A3 := S3.blk 3 rfl
  simp (disch := omega) only [go_sem, o1, n1, c1, o2, n2, c2, o3, n3, c3, A3]
  refine CP.go (toStore_c s) rfl rfl ?_
  simp (disch := omega) only [go_sem, o1, n1, c1, o2, n2, c2, o3, n3, c3, A3]
  refine S3.goLst (toIntS_f hs (by omega)) (.same (refs_int1 _ _)) fun v4 h4 x4 S4 o4 n4 c4 => ?_
  have A4 := S4.blk 4 rfl
  simp (disch := omega) only [go_sem, o1, n1, c1, o2, n2, c2, o3, n3, c3, o4, n4, c4, A4]
  refine S4.go hS (.cons (S4.progSnap 3 rfl) (.cons (S4.snap 2 rfl) (.cons (S4.snap 1 rfl) (.cons (.same _ (by rfl)) (.cons (S4.snap 0 rfl) (.nil _)))))) fun r5 h5 x5 S5 => ?_
  clear S0 S1 S2 S3 S4 A1 A2 A3 A4 o1 n1 c1 o2 n2 c2 o3 n3 c3 o4 n4 c4
  refine Exists.elim S5.openRun fun wm q => Exists.elim q fun wu q => Exists.elim q fun wb q => ?_
  have hr5 := q.1
  have S6 := q.2
  clear q S5
  subst hr5
  have owm := S6.vv 0 rfl
  have owu := S6.vv 1 rfl
  have owb := S6.vv 2 rfl
  have S7 := (S6.newK [[wm, .int .i64 x.at_, wu, wb]]).pk (A := [_, _, _, _, _, _, _, _]) [0, 1, 2, 3] rfl
  have P7 := S7.blk 5 rfl
  simp (disch := omega) only [go_sem, owm.1, owm.2.1, owm.2.2, owu.1, owu.2.1, owu.2.2, owb.1, owb.2.1, owb.2.2, P7, splice]
  refine S7.goProg hx hb fun v1 h1 x1 S8 o1 n1 c1 => ?_
  have S9 := S8.newK [[v1]]
  simp (disch := omega) only [go_sem, o1, n1, c1, splice]
  refine S9.goLst (toIntS_f m (by omega)) (.same (refs_int1 _ _)) fun v2 h2 x2 S10 o2 n2 c2 => ?_
  simp (disch := omega) only [go_sem, o1, n1, c1, o2, n2, c2]
  refine S10.goLst (toIntS_f rd (by omega)) (.same (refs_int1 _ _)) fun v3 h3 x3 S11 o3 n3 c3 => ?_
  simp (disch := omega) only [go_sem, o1, n1, c1, o2, n2, c2, o3, n3, c3]
  refine S11.goLst (toIntS_f hs (by omega)) (.same (refs_int1 _ _)) fun v4 h4 x4 S12 o4 n4 c4 => ?_
  have K12 := S12.blk 3 rfl
  have A12 := S12.blk 9 rfl
  simp (disch := omega) only [go_sem, o1, n1, c1, o2, n2, c2, o3, n3, c3, o4, n4, c4, K12, A12]
  refine CP.go (toStore_c s) rfl rfl ?_
  simp (disch := omega) only [go_sem, o1, n1, c1, o2, n2, c2, o3, n3, c3, o4, n4, c4, K12, A12]
  refine S12.go hI (.cons (S12.progSnap 4 rfl) (.cons (S12.snap 2 rfl) (.cons (S12.snap 1 rfl) (.cons (.same _ (by rfl)) (.cons (S12.snap 0 rfl) (.nil _)))))) fun r5 h5 x5 S13 => ?_
  clear S6 S7 S8 S9 S10 S11 S12 P7
  refine Exists.elim S13.openRun fun gm q => Exists.elim q fun gu q => Exists.elim q fun gb q => ?_
  have hr5 := q.1
  have S14 := q.2
  clear q S13
  subst hr5
  have ogm := S14.vv 0 rfl
  have ogu := S14.vv 1 rfl
  have ogb := S14.vv 2 rfl
  have S15 := S14.newK [[gm, .int .i64 x.at_, gu, gb]]
  have G15 := S15.blk 0 rfl
  have W15 := S15.blk 9 rfl
  simp (disch := omega) only [go_sem, o1, n1, c1, o2, n2, c2, o3, n3, c3, o4, n4, c4, ogm.1, ogm.2.1, ogm.2.2, ogu.1, ogu.2.1, ogu.2.2, ogb.1, ogb.2.1, ogb.2.2, owm.1, owm.2.1, owm.2.2, owu.1, owu.2.1, owu.2.2, owb.1, owb.2.1, owb.2.2, splice, G15, W15]
  refine CP.goS eqr rfl rfl (.cons (S15.runSnap 1 2 3 rfl rfl rfl) (.cons (S15.runSnap 10 11 12 rfl rfl rfl) (.nil _))) ?_
  have P15 := S15.blk 14 rfl
  have X15 := S15.blk 7 rfl
  simp (disch := omega) only [go_sem, o1, n1, c1, P15, X15, beq_self_eq_true]
  refine S15.goProg hx hb fun v6 h6 x6 S16 o6 n6 c6 => ?_
  have P16 := S16.blk 15 rfl
  have X16 := S16.blk 8 rfl
  simp (disch := omega) only [go_sem, o1, n1, c1, o6, n6, c6, P16, X16]
  refine CP.goS (eqProg_c ts hx hb) rfl rfl (.cons (S16.progSnap 9 rfl) (.cons (S16.progSnap 0 rfl) (.nil _))) ?_
  have S17 := S16.drop1
  simp (disch := omega) only [go_sem, o1, n1, c1, o2, n2, c2, o3, n3, c3, o4, n4, c4]
  refine S17.goLst (toIntS_f m (by omega)) (.same (refs_int1 _ _)) fun v7 h7 x7 S18 o7 n7 c7 => ?_
  simp (disch := omega) only [go_sem, o1, n1, c1, o2, n2, c2, o3, n3, c3, o4, n4, c4, o7, n7, c7]
  refine CP.goS (eqIntS_r m (by omega)) rfl rfl (.cons (S18.snap 7 rfl) (.cons (S18.snap 0 rfl) (.nil _))) ?_
  have S19 := S18.drop1
  simp (disch := omega) only [go_sem, o1, n1, c1, o2, n2, c2, o3, n3, c3, o4, n4, c4]
  refine S19.goLst (toIntS_f rd (by omega)) (.same (refs_int1 _ _)) fun v8 h8 x8 S20 o8 n8 c8 => ?_
  simp (disch := omega) only [go_sem, o1, n1, c1, o2, n2, c2, o3, n3, c3, o4, n4, c4, o8, n8, c8]
  refine CP.goS (eqIntS_r rd (by omega)) rfl rfl (.cons (S20.snap 6 rfl) (.cons (S20.snap 0 rfl) (.nil _))) ?_
  have S21 := S20.drop1
  simp (disch := omega) only [go_sem, o1, n1, c1, o2, n2, c2, o3, n3, c3, o4, n4, c4]
  refine S21.goLst (toIntS_f hs (by omega)) (.same (refs_int1 _ _)) fun v9 h9 x9 S22 o9 n9 c9 => ?_
  simp (disch := omega) only [go_sem, o1, n1, c1, o2, n2, c2, o3, n3, c3, o4, n4, c4, o9, n9, c9]
  refine CP.goS (eqIntS_r hs (by omega)) rfl rfl (.cons (S22.snap 5 rfl) (.cons (S22.snap 0 rfl) (.nil _))) ?_
  have S23 := S22.drop1
  have X23 := S23.blk 7 rfl
  clear S15 S16 S17 S18 S19 S20 S21 S22 P15 X15 P16 X16
  simp (disch := omega) only [go_sem, o1, n1, c1, o2, n2, c2, o3, n3, c3, o4, n4, c4, X23]
  refine C.go (markProg_c _ ts v1 1 _ (S23.pull 8) hx hb (by omega)) ?_
  rintro r h10 ⟨rfl, S24⟩
  simp (disch := omega) only [go_sem, o1, n1, c1, o2, n2, c2, o3, n3, c3, o4, n4, c4]
  refine C.go (markIntS_c _ m v2 (1 + cntP ts) _ (S24.pull 7) (by omega) (by omega)) ?_
  rintro r h11 ⟨rfl, S25⟩
  simp (disch := omega) only [go_sem, o1, n1, c1, o2, n2, c2, o3, n3, c3, o4, n4, c4]
  refine C.go (markIntS_c _ rd v3 (1 + cntP ts + m.length) _ (S25.pull 7) (by omega) (by omega)) ?_
  rintro r h12 ⟨rfl, S26⟩
  simp (disch := omega) only [go_sem, o1, n1, c1, o2, n2, c2, o3, n3, c3, o4, n4, c4]
  refine C.go (markIntS_c _ hs v4 (1 + cntP ts + m.length + rd.length) _ (S26.pull 7) (by omega) (by omega)) ?_
  rintro r h13 ⟨rfl, S27⟩
  have S28 := S27.drop1.drop1.drop1.drop1
  have G28 := S28.blk 0 rfl
  have W28 := S28.blk 5 rfl
  clear S23 S24 S25 S26 S27 X23
  simp (disch := omega) only [go_sem, ogm.1, ogm.2.1, ogm.2.2, ogu.1, ogu.2.1, ogu.2.2, ogb.1, ogb.2.1, ogb.2.2, owm.1, owm.2.1, owm.2.2, owu.1, owu.2.1, owu.2.2, owb.1, owb.2.1, owb.2.2, G28, W28]
  refine CP.goS eqr rfl rfl (.cons (S28.runSnap 1 2 3 rfl rfl rfl) (.cons (S28.runSnap 6 7 8 rfl rfl rfl) (.nil _))) ?_
  simp (disch := omega) only [go_sem, ogm.1, ogm.2.1, ogm.2.2, ogu.1, ogu.2.1, ogu.2.2, ogb.1, ogb.2.1, ogb.2.2, owm.1, owm.2.1, owm.2.2, owu.1, owu.2.1, owu.2.2, owb.1, owb.2.1, owb.2.2, G28, W28, beq_self_eq_true]
  have S29 := S28.pk (A := [_, _, _, _]) [1, 2, 3, 0] rfl
  refine C.go (markRun_c _ x gm gu gb 1 _ S29 R (by omega)) ?_
  rintro r h14 ⟨rfl, S30⟩
  have G30 := S30.blk 3 rfl
  simp (disch := omega) only [go_sem, ogm.1, ogm.2.1, ogm.2.2, ogu.1, ogu.2.1, ogu.2.2, ogb.1, ogb.2.1, ogb.2.2, owm.1, owm.2.1, owm.2.2, owu.1, owu.2.1, owu.2.2, owb.1, owb.2.1, owb.2.2, G30]
  refine CP.goS (heldRun_c x 1 R (by omega)) rfl rfl (.cons (S30.runSnap (x := mkRun x 1) 0 1 2 rfl rfl rfl) (.cons (.int _ _) (.nil _))) ?_
  clear S28 S29 G28 W28
  have P30 := S30.blk 10 rfl
  have A30 := S30.blk 9 rfl
  simp (disch := omega) only [go_sem, ogm.1, ogm.2.1, ogm.2.2, ogu.1, ogu.2.1, ogu.2.2, ogb.1, ogb.2.1, ogb.2.2, owm.1, owm.2.1, owm.2.2, owu.1, owu.2.1, owu.2.2, owb.1, owb.2.1, owb.2.2, P30, A30]
  clear o1 n1 c1 o2 n2 c2 o3 n3 c3 o4 n4 c4
  refine S30.goProg hx hb fun v1 h1 x1 S1 o1 n1 c1 => ?_
  have A1 := S1.blk 10 rfl
  simp (disch := omega) only [go_sem, o1, n1, c1, A1]
  refine S1.goLst (toIntS_f m (by omega)) (.same (refs_int1 _ _)) fun v2 h2 x2 S2 o2 n2 c2 => ?_
  have A2 := S2.blk 11 rfl
  simp (disch := omega) only [go_sem, o1, n1, c1, o2, n2, c2, A2]
  refine S2.goLst (toIntS_f rd (by omega)) (.same (refs_int1 _ _)) fun v3 h3 x3 S3 o3 n3 c3 => ?_
  have A3 := S3.blk 12 rfl
  simp (disch := omega) only [go_sem, o1, n1, c1, o2, n2, c2, o3, n3, c3, A3]
  refine CP.go (toStore_c s) rfl rfl ?_
  simp (disch := omega) only [go_sem, o1, n1, c1, o2, n2, c2, o3, n3, c3, A3]
  refine S3.goLst (toIntS_f hs (by omega)) (.same (refs_int1 _ _)) fun v4 h4 x4 S4 o4 n4 c4 => ?_
  have A4 := S4.blk 13 rfl
  simp (disch := omega) only [go_sem, o1, n1, c1, o2, n2, c2, o3, n3, c3, o4, n4, c4, A4]
  refine S4.go hI (.cons (S4.progSnap 3 rfl) (.cons (S4.snap 2 rfl) (.cons (S4.snap 1 rfl) (.cons (.same _ (by rfl)) (.cons (S4.snap 0 rfl) (.nil _)))))) fun r5 h5 x5 S5 => ?_
  clear S1 S2 S3 S4 A1 A2 A3 A4 S30 P30 A30
  refine Exists.elim S5.openRun fun fm q => Exists.elim q fun fu q => Exists.elim q fun fb q => ?_
  have hr5 := q.1
  have S6 := q.2
  clear q S5
  subst hr5
  have ofm := S6.vv 0 rfl
  have ofu := S6.vv 1 rfl
  have ofb := S6.vv 2 rfl
  have S7 := (S6.newK [[fm, .int .i64 x.at_, fu, fb]])
  have F7 := S7.blk 0 rfl
  have W7 := S7.blk 13 rfl
  have G7 := S7.blk 11 rfl
  simp (disch := omega) only [go_sem, o1, n1, c1, o2, n2, c2, o3, n3, c3, o4, n4, c4, ofm.1, ofm.2.1, ofm.2.2, ofu.1, ofu.2.1, ofu.2.2, ofb.1, ofb.2.1, ofb.2.2, owm.1, owm.2.1, owm.2.2, owu.1, owu.2.1, owu.2.2, owb.1, owb.2.1, owb.2.2, splice, F7, W7]
  refine CP.goS eqr rfl rfl (.cons (S7.runSnap 1 2 3 rfl rfl rfl) (.cons (S7.runSnap 14 15 16 rfl rfl rfl) (.nil _))) ?_
  simp (disch := omega) only [go_sem, ogm.1, ogm.2.1, ogm.2.2, ogu.1, ogu.2.1, ogu.2.2, ogb.1, ogb.2.1, ogb.2.2, owm.1, owm.2.1, owm.2.2, owu.1, owu.2.1, owu.2.2, owb.1, owb.2.1, owb.2.2, G7, beq_self_eq_true]
  refine CP.goS (heldRun_c x 1 R (by omega)) rfl rfl (.cons (S7.runSnap (x := mkRun x 1) 8 9 10 rfl rfl rfl) (.cons (.int _ _) (.nil _))) ?_
  simp (disch := omega) only [go_sem, ogm.1, ogm.2.1, ogm.2.2, ogu.1, ogu.2.1, ogu.2.2, ogb.1, ogb.2.1, ogb.2.2, owm.1, owm.2.1, owm.2.2, owu.1, owu.2.1, owu.2.2, owb.1, owb.2.1, owb.2.2, G7]
end Go.Av

