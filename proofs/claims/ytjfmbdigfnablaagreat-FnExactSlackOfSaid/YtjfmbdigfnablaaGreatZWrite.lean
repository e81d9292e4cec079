/- Where an opening statement ends; which variables a block may write, which it must; both sides. No condition. -/
import Derived.Test.YtjfmbdigfnablaaGreatZSet
namespace Go.Av
open Go.Proofs Go.RowKit
set_option linter.unusedVariables false
set_option linter.unusedSimpArgs false
set_option maxRecDepth 100000
set_option maxHeartbeats 4000000
def endO : Int → Int → List Stmt → Int
  | _, _, [] => -1
  | c, p, x :: s => if c + dlt x = 0 then p else endO (c + dlt x) (p + 1) s
theorem endO_cons (c p : Int) (x : Stmt) (s : List Stmt) : endO c p (x :: s) = if c + dlt x = 0 then p else endO (c + dlt x) (p + 1) s := rfl
theorem endO_tree : ∀ (t : Tr) (c p : Int) (v : List Stmt), t.ok = true → 1 ≤ c → endO c p (t.flat ++ v) = endO c (p + t.flat.length) v
  | .nil, c, p, v, h, hc => by simp [Tr.flat]
  | .one s r, c, p, v, h, hc => by
    obtain ⟨hs, hk, hr⟩ := Tr.one_ok h
    have hd : dlt s = 0 := by rw [dlt_def, if_neg (by omega), if_neg (by omega)]; rfl
    simp only [Tr.flat, List.cons_append, List.length_cons]
    rw [endO_cons, if_neg (by omega), hd, endO_tree r (c + 0) (p + 1) v hr (by omega)]
    congr 1 <;> push_cast <;> omega
  | .grp s a r, c, p, v, h, hc => by
    obtain ⟨hs, hk, ha, hr⟩ := Tr.grp_ok h
    have hd : dlt s = 1 := by rw [dlt_def, if_pos hk, if_neg (by omega)]; rfl
    have he : dlt endS = -1 := by rw [dlt_def]; rfl
    simp only [Tr.flat, List.cons_append, List.length_cons, List.append_assoc, List.length_append]
    rw [endO_cons, if_neg (by omega), hd, endO_tree a (c + 1) (p + 1) _ ha (by omega)]
    rw [endO_cons, if_neg (by rw [he]; omega), he, endO_tree r _ _ v hr (by omega)]
    congr 1 <;> push_cast <;> omega
theorem endO_grp {s : Stmt} {a : Tr} (p : Int) (v : List Stmt) (hk : s.kind = 4 ∨ s.kind = 5) (ha : a.ok = true) : endO 0 p (s :: (a.flat ++ endS :: v)) = p + 1 + a.flat.length := by
  have hd : dlt s = 1 := by rw [dlt_def, if_pos hk, if_neg (by omega)]; rfl
  have he : dlt endS = -1 := by rw [dlt_def]; rfl
  rw [endO_cons, if_neg (by omega), hd, endO_tree a (0 + 1) (p + 1) _ ha (by omega)]
  rw [endO_cons, if_pos (by rw [he]; rfl)]
theorem endO_c (xs : List Stmt) (j : Nat) (hj : j ≤ xs.length) (hx : xs.length ≤ 9223372036854775807) : CP Tryz.prog 161 [.lst 6 (xs.map encStmt), .int .i64 j] (.int .i64 (endO 0 j (xs.drop j))) [] := by
  refine CP.by rfl mixed (cfn_ok Tryz.func161 ok161) rfl ?_
  simp (disch := omega) only [s161, go_sem]
  refine loopP_intro (fun m s => ∃ (k : Nat) (c : Int), k ≤ xs.length ∧ m = xs.length - k ∧ -(k : Int) ≤ c ∧ c ≤ k ∧ s.e 0 = .lst 6 (xs.map encStmt) ∧ s.e 6 = .int .i64 k ∧ s.e 5 = .int .i64 c ∧ endO 0 j (xs.drop j) = endO c k (xs.drop k)) (xs.length - j) ⟨j, 0, by omega, by omega, by omega, by omega, rfl, by simp (disch := omega) only [go_sem], by simp (disch := omega) only [go_sem], rfl⟩ ?_
  rintro m e h ⟨k, c, hk, rfl, hc1, hc2, e0, e6, e5, hb⟩
  simp only at e0 e6 e5
  simp (disch := omega) only [go_sem, e0, e6, e5, encStmt]
  refine condP_dec (fun hlt => ?_) (fun hlt => ?_)
  · have hlt' : k < xs.length := by omega
    obtain ⟨hd4, hd5, hd6, hd0⟩ := delta_facts xs[k].kind
    have hO : isOpening xs[k].kind = decide (xs[k].kind = 4 ∨ xs[k].kind = 5) := by simp [isOpening]
    have hs : endO c k (xs.drop k) = if c + delta xs[k].kind = 0 then (k : Int) else endO (c + delta xs[k].kind) (k + 1) (xs.drop (k + 1)) := by
      rw [List.drop_eq_getElem_cons hlt']; rfl
    simp (disch := omega) only [go_sem, e0, e6, e5, encStmt]
    refine CP.go (isOpening_c xs[k].kind) rfl rfl ?_
    simp only [hO]
    simp (disch := omega) only [go_sem, e0, e6, e5, encStmt]
    repeat' (first | (refine condP_t (by assumption) ?_ <;> (try simp (disch := omega) only [go_sem, e0, e6, e5, encStmt])) | (refine condP_f (by assumption) ?_ <;> (try simp (disch := omega) only [go_sem, e0, e6, e5, encStmt])) | (refine condP_dec (fun h => ?_) (fun h => ?_) <;> (try simp (disch := omega) only [go_sem, e0, e6, e5, encStmt])) | (refine condP_split (fun h => ?_) (fun h => ?_) <;> (try simp (disch := omega) only [go_sem, e0, e6, e5, encStmt])))
    all_goals first
      | (refine nextP_intro (xs.length - (k + 1)) (by omega) ⟨k + 1, c + delta xs[k].kind, by omega, rfl, by omega, by omega, ?_, ?_, ?_, ?_⟩
         · simp (disch := omega) only [go_sem, e0, e6, e5, encStmt]
         · simp (disch := omega) only [go_sem, e0, e6, e5, encStmt]; rfl
         · simp (disch := omega) only [go_sem, e0, e6, e5, encStmt]; congr 1; omega
         · rw [hb, hs, if_neg (by omega)]; rfl)
      | (rw [hb, hs, if_pos (by omega)])
  · simp (disch := omega) only [go_sem, e0, e6, e5, encStmt]
    have hk' : k = xs.length := by omega
    subst hk'
    rw [hb, List.drop_length]
    rfl
/-- What a walk over statements collects. -/
def wr (xs : List Stmt) (q : Nat → Bool) : Nat → List Int
  | 0 => []
  | k + 1 => wr xs q k ++ (match xs[k]? with | some s => if (hasVar s.kind && q k) = true then [s.var] else [] | none => [])
theorem wr_len (xs : List Stmt) (q : Nat → Bool) : ∀ k, (wr xs q k).length ≤ k
  | 0 => Nat.le_refl _
  | k + 1 => by
    have := wr_len xs q k
    unfold wr
    rw [List.length_append]
    cases xs[k]? with
    | none => simp; omega
    | some s => simp only; split <;> simp <;> omega
theorem wr_succ {xs : List Stmt} (q : Nat → Bool) {k : Nat} (h : k < xs.length) : wr xs q (k + 1) = wr xs q k ++ (if (hasVar xs[k].kind && q k) = true then [xs[k].var] else []) := by
  rw [wr, List.getElem?_eq_getElem h]
theorem mem_wr {xs : List Stmt} {q : Nat → Bool} {x : Int} : ∀ {k : Nat}, k ≤ xs.length → (x ∈ wr xs q k ↔ ∃ i, ∃ h : i < xs.length, i < k ∧ hasVar xs[i].kind = true ∧ q i = true ∧ xs[i].var = x)
  | 0, _ => by simp [wr]
  | k + 1, h => by
    rw [wr_succ q (by omega), List.mem_append, mem_wr (by omega)]
    constructor
    · rintro (⟨i, hi, h1, h2⟩ | h1)
      · exact ⟨i, hi, by omega, h2⟩
      · split at h1
        · rename_i hc
          simp at h1 hc
          exact ⟨k, by omega, by omega, hc.1, hc.2, h1.symm⟩
        · simp at h1
    · rintro ⟨i, hi, h1, h2, h3, h4⟩
      rcases Nat.lt_or_ge i k with h5 | h5
      · exact .inl ⟨i, hi, h5, h2, h3, h4⟩
      · have : i = k := by omega
        subst this
        right
        rw [if_pos (by simp [h2, h3])]; simp [h4]
theorem written_c {h : Heap} {L : List It} (xs : List Stmt) (g : Nat) (caps : List V) (q : Nat → Bool) (S : Sep h L) (hx : xs.length ≤ 1048576)
    (hg : ∀ i, i < xs.length → ∀ h', Ext h h' → Sep h' L → C Tryz.prog g (.int .i64 i :: caps) h' (fun r h'' => r = .bool (q i) ∧ h'' = h')) :
    C Tryz.prog 203 [.lst 6 (xs.map encStmt), .fn g caps] h (fun r h' => Ext h h' ∧ Sep h' (.p (ddup (srt (wr xs q xs.length))) r :: L)) := by
  refine C.by mixed (cfn_ok Tryz.func203 ok203) rfl ?_
  simp (disch := omega) only [s203, go_sem]
  refine loopP_intro (fun m s => ∃ (k l : Nat), k ≤ xs.length ∧ m = xs.length - k ∧ s.e 1 = .fn g caps ∧ s.e 9 = .lst 6 (xs.map encStmt) ∧ s.e 10 = .int .i64 xs.length ∧ s.e 11 = .int .i64 k ∧ s.e 5 = .own l 1 0 (wr xs q k).length (wr xs q k).length ∧ Ext h s.h ∧ Sep s.h (.k l ((wr xs q k).map encI) :: L) ∧ h.length ≤ l) xs.length ⟨0, h.length, by omega, by omega, by simp (disch := omega) only [go_sem], by simp (disch := omega) only [go_sem], by simp (disch := omega) only [go_sem], by simp (disch := omega) only [go_sem]; rfl, by simp (disch := omega) only [go_sem]; rfl, Ext.app _ _, S.newK _, by omega⟩ ?_
  rintro m e hp ⟨k, l, hk, rfl, e1, e9, e10, e11, e5, X, S, hlh⟩
  simp only at e1 e9 e10 e11 e5 X S
  simp (disch := omega) only [go_sem, e1, e9, e10, e11, e5]
  refine condP_dec (fun hlt => ?_) (fun hlt => ?_)
  · have hlt' : k < xs.length := by omega
    have hnx := wr_succ q hlt'
    have S1 := S.app [[encStmt xs[k]]]
    have X1 := X.appT [[encStmt xs[k]]]
    have hz := storeBox (h := hp) (z := [V.int .i64 0, .int .i64 0, .int .i64 0, .int .i64 0, .int .i64 0, .int .i64 0]) (x := .agg (encStmt xs[k])) (sz := 6) rfl rfl
    simp only [cells_agg, encStmt] at hz
    simp (disch := omega) only [go_sem, e1, e9, e10, e11, e5, hz, encStmt]
    refine CP.go (hasVar_c xs[k].kind) rfl rfl ?_
    have stay : ∀ (e' : Nat → V), wr xs q (k + 1) = wr xs q k → e' 1 = .fn g caps → e' 9 = .lst 6 (xs.map encStmt) → e' 10 = .int .i64 xs.length → e' 11 = .int .i64 ((k : Int) + 1) → e' 5 = .own l 1 0 (wr xs q k).length (wr xs q k).length → @nextP (xs.length - k) ⟨e', hp ++ [[encStmt xs[k]]]⟩ ⟨fun m s => ∃ (k l : Nat), k ≤ xs.length ∧ m = xs.length - k ∧ s.e 1 = .fn g caps ∧ s.e 9 = .lst 6 (xs.map encStmt) ∧ s.e 10 = .int .i64 xs.length ∧ s.e 11 = .int .i64 k ∧ s.e 5 = .own l 1 0 (wr xs q k).length (wr xs q k).length ∧ Ext h s.h ∧ Sep s.h (.k l ((wr xs q k).map encI) :: L) ∧ h.length ≤ l⟩ := fun e' a0 a1 a2 a3 a4 a5 =>
      nextP_intro (xs.length - (k + 1)) (by omega) ⟨k + 1, l, by omega, rfl, a1, a2, a3, a4, by rw [a0]; exact a5, X1, by rw [a0]; exact S1, hlh⟩
    simp (disch := omega) only [go_sem, e1, e9, e10, e11, e5]
    refine condP_split (fun hv => ?_) (fun hv => ?_)
    · simp (disch := omega) only [go_sem, e1, e9, e10, e11, e5, hv]
      refine C.go (hg k hlt' _ X1 S1.drop1) ?_
      rintro r h' ⟨rfl, rfl⟩
      simp (disch := omega) only [go_sem, e1, e9, e10, e11, e5, hv]
      refine condP_split (fun hq => ?_) (fun hq => ?_)
      · rw [if_pos (by simp [hv, hq])] at hnx
        have hcl := wr_len xs q k
        have ha := append1 (sz := 1) (bytes := 8) (c := encI xs[k].var) (S1.blk 0 rfl) (n := (wr xs q k).length) (by simp) (by omega)
        simp only [encI, encStmt, List.append_assoc, List.cons_append, List.nil_append, List.length_append, List.length_cons, List.length_nil, Nat.zero_add] at ha
        simp (disch := omega) only [go_sem, e1, e9, e10, e11, e5, hv, hq, ha, encI]
        have hl1 : (wr xs q (k + 1)).length = (wr xs q k).length + 1 := by rw [hnx]; simp
        refine nextP_intro (xs.length - (k + 1)) (by omega) ⟨k + 1, l, by omega, rfl, by simp (disch := omega) only [go_sem, e1, e9, e10, e11, e5, hv, hq, ha, encI], by simp (disch := omega) only [go_sem, e1, e9, e10, e11, e5, hv, hq, ha, encI], by simp (disch := omega) only [go_sem, e1, e9, e10, e11, e5, hv, hq, ha, encI], by simp (disch := omega) only [go_sem, e1, e9, e10, e11, e5, hv, hq, ha, encI]; rfl, ?_, ?_, ?_, hlh⟩
        · rw [hl1]; simp (disch := omega) only [go_sem, e1, e9, e10, e11, e5, hv, hq, ha, encI]
        · exact (X.appT _).setNew _ hlh
        · have := (S1.app [[encI xs[k].var]]).setK ((wr xs q k).map encI ++ [encI xs[k].var])
          simp only [List.append_assoc, List.cons_append, List.nil_append] at this
          rw [hnx, List.map_append]
          exact this
      · rw [if_neg (by simp [hq]), List.append_nil] at hnx
        simp (disch := omega) only [go_sem, e1, e9, e10, e11, e5, hv, hq]
        exact stay _ hnx (by simp (disch := omega) only [go_sem, e1, e9, e10, e11, e5, hv, hq]) (by simp (disch := omega) only [go_sem, e1, e9, e10, e11, e5, hv, hq]) (by simp (disch := omega) only [go_sem, e1, e9, e10, e11, e5, hv, hq]) (by simp (disch := omega) only [go_sem, e1, e9, e10, e11, e5, hv, hq]) (by simp (disch := omega) only [go_sem, e1, e9, e10, e11, e5, hv, hq])
    · rw [if_neg (by simp [hv]), List.append_nil] at hnx
      simp (disch := omega) only [go_sem, e1, e9, e10, e11, e5, hv]
      exact stay _ hnx (by simp (disch := omega) only [go_sem, e1, e9, e10, e11, e5, hv]) (by simp (disch := omega) only [go_sem, e1, e9, e10, e11, e5, hv]) (by simp (disch := omega) only [go_sem, e1, e9, e10, e11, e5, hv]) (by simp (disch := omega) only [go_sem, e1, e9, e10, e11, e5, hv]) (by simp (disch := omega) only [go_sem, e1, e9, e10, e11, e5, hv])
  · have : k = xs.length := by omega
    subst this
    have hcl := wr_len xs q xs.length
    simp (disch := omega) only [go_sem, e1, e9, e10, e11, e5]
    refine C.go (sort_c (S.blk 0 rfl) rfl (by omega)) ?_
    rintro r h' ⟨rfl, rfl⟩
    have S1 := S.setK ((srt (wr xs q xs.length)).map encI)
    simp (disch := omega) only [go_sem, e1, e9, e10, e11, e5]
    refine C.go (compact_c (zs := srt (wr xs q xs.length)) (S1.blk 0 rfl) (srt_len _) (by omega)) ?_
    rintro r h' ⟨rfl, rfl⟩
    have S2 := S1.setK ((ddup (srt (wr xs q xs.length))).map encI ++ List.replicate ((wr xs q xs.length).length - (ddup (srt (wr xs q xs.length))).length) (encI 0))
    simp (disch := omega) only [go_sem, e1, e9, e10, e11, e5]
    have hdl := ddup_le (srt (wr xs q xs.length))
    rw [srt_len] at hdl
    refine ⟨(X.setNew _ hlh).setNew _ hlh, S2.toP (n := (wr xs q xs.length).length) (by simp; omega) hdl (List.take_left' (by simp)) ?_⟩
    simp [rows1, encI, V.scalar]
end Go.Av
