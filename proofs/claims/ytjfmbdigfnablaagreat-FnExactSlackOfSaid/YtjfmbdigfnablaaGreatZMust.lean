/- The variables that a valid block may write, and those that it must; both sides. No condition. -/
import Derived.Test.YtjfmbdigfnablaaGreatZWrite
namespace Go.Av
open Go.Proofs Go.RowKit
set_option linter.unusedVariables false
set_option linter.unusedSimpArgs false
set_option maxRecDepth 100000
set_option maxHeartbeats 4000000
def setW (W : List Bool) (vs : List Int) : List Bool := vs.foldl (fun W v => W.set v.toNat true) W
theorem setW_len : ∀ (vs : List Int) (W : List Bool), (setW W vs).length = W.length
  | [], W => rfl
  | v :: vs, W => by
    show (setW (W.set v.toNat true) vs).length = _
    rw [setW_len vs, List.length_set]
theorem setW_app (W : List Bool) (a b : List Int) : setW W (a ++ b) = setW (setW W a) b := by simp [setW]
theorem bit_setW : ∀ (vs : List Int) (W : List Bool), W.length = 8 → (∀ v ∈ vs, 0 ≤ v ∧ v < 8) → ∀ k, k < 8 → bitB (setW W vs) k = (bitB W k || decide ((k : Int) ∈ vs))
  | [], W, _, _, k, hk => by simp [setW]
  | v :: vs, W, hW, hv, k, hk => by
    show bitB (setW (W.set v.toNat true) vs) k = _
    have h0 := hv v (by simp)
    rw [bit_setW vs _ (by simpa using hW) (fun x hx => hv x (by simp [hx])) k hk, bitB_set (by omega)]
    have e : decide (v.toNat = k) = decide ((k : Int) = v) := by
      rw [decide_eq_decide]; omega
    rw [e]
    by_cases h1 : (k : Int) = v
    · simp [h1]
    · simp [h1]
theorem list_setW {vs : List Int} (hv : ∀ v ∈ vs, 0 ≤ v ∧ v < 8) : listB (setW zero8 vs) = canon fun k => decide ((k : Int) ∈ vs) :=
  canon_congr fun k hk => by rw [bit_setW vs zero8 rfl hv k hk, bitB_zero, Bool.false_or]
theorem stmt_var {s : Stmt} (h : stmtOk s = true) (hv : hasVar s.kind = true) : 0 ≤ s.var ∧ s.var < 8 := by
  unfold stmtOk at h
  split at h
  · cases h
  · rename_i hc
    simp only [Bool.or_eq_true, not_or, hv, Bool.true_and, Bool.not_true, Bool.false_and] at hc
    have := hc.1.2
    simp [isVar, within] at this
    omega
theorem block_all {xs : List Stmt} (h : blockOk xs = true) : ∀ s ∈ xs, stmtOk s = true := by
  have key : ∀ (l : List Stmt) (d : Int), blockFrom d l = true → ∀ s ∈ l, stmtOk s = true := fun l => by
    induction l with
    | nil => intro d _ s hs; simp at hs
    | cons x l ih =>
      intro d h s hs
      unfold blockFrom at h
      split at h
      · rename_i hc
        rcases List.mem_cons.1 hs with rfl | hs
        · exact hc.1
        · exact ih _ h s hs
      · cases h
  simp only [blockOk, Bool.and_eq_true] at h
  exact key xs 0 h.1
theorem block_len {xs : List Stmt} (h : blockOk xs = true) : xs.length ≤ 24 := by
  simp only [blockOk, Bool.and_eq_true, decide_eq_true_eq] at h
  omega
/-- The variables that statements write, one by one. -/
def vars (xs : List Stmt) : List Int := (xs.filter fun s => hasVar s.kind).map (·.var)
theorem vars_bd {xs : List Stmt} (h : ∀ s ∈ xs, stmtOk s = true) : ∀ v ∈ vars xs, 0 ≤ v ∧ v < 8 := fun v hv => by
  obtain ⟨s, hs, rfl⟩ := List.mem_map.1 hv
  rw [List.mem_filter] at hs
  exact stmt_var (h s hs.1) hs.2
theorem vars_take {xs : List Stmt} {k : Nat} (h : k < xs.length) : vars (xs.take (k + 1)) = vars (xs.take k) ++ (if hasVar xs[k].kind = true then [xs[k].var] else []) := by
  unfold vars
  rw [List.take_succ_eq_append_getElem h, List.filter_append, List.map_append]
  congr 1
  simp only [List.filter_cons, List.filter_nil]
  split <;> rfl
def mayL (xs : List Stmt) : List Int := canon fun k => decide ((k : Int) ∈ vars xs)
theorem true_c (h : Heap) (i : Int) : C Tryz.prog 205 [.int .i64 i] h (fun r h' => r = .bool true ∧ h' = h) := by
  refine C.by mixed (cfn_ok Tryz.func205 ok205) rfl ?_
  simp (disch := omega) only [s205, go_sem]
theorem mem_wr_true {xs : List Stmt} {x : Int} : x ∈ wr xs (fun _ => true) xs.length ↔ x ∈ vars xs := by
  rw [mem_wr (Nat.le_refl _)]
  unfold vars
  simp only [List.mem_map, List.mem_filter]
  constructor
  · rintro ⟨i, hi, _, h1, _, rfl⟩
    exact ⟨xs[i], ⟨List.getElem_mem hi, h1⟩, rfl⟩
  · rintro ⟨s, ⟨h1, h2⟩, rfl⟩
    obtain ⟨i, hi, rfl⟩ := List.getElem_of_mem h1
    exact ⟨i, hi, hi, h2, trivial, rfl⟩
theorem canon_mem {zs vs : List Int} (hb : ∀ v ∈ vs, 0 ≤ v ∧ v < 8) (h : ∀ x, x ∈ zs ↔ x ∈ vs) : ddup (srt zs) = canon fun k => decide ((k : Int) ∈ vs) := by
  rw [canon_eq fun z hz => hb z ((h z).1 hz)]
  exact canon_congr fun k _ => by rw [decide_eq_decide]; exact h _
theorem may_c (xs : List Stmt) (hb : blockOk xs = true) : Pt Tryz.prog 165 [.lst 6 (xs.map encStmt)] (mayL xs) := by
  have hl := block_len hb
  refine C.by mixed (cfn_ok Tryz.func165 ok165) rfl ?_
  simp (disch := omega) only [s165, go_sem]
  refine CP.go (blockOk_c xs (by omega)) rfl (refs_arg _ _) ?_
  simp (disch := omega) only [go_sem, hb]
  refine C.go (written_c xs 205 [] (fun _ => true) (Sep.nil _) (by omega) (fun i _ h' _ _ => true_c h' i)) ?_
  rintro r h' ⟨X, S⟩
  have z := (S.pvv 0 rfl).1
  simp (disch := omega) only [go_sem, hb, z.2.1]
  have e : mayL xs = ddup (srt (wr xs (fun _ => true) xs.length)) := (canon_mem (vars_bd (block_all hb)) fun x => mem_wr_true).symm
  rw [e]
  exact S.pret
theorem may_s (xs : List Stmt) (hb : blockOk xs = true) : F Tryz.prog 218 [.lst 6 (xs.map encStmt)] (.lst 1 ((mayL xs).map encI)) := by
  have hl := block_len hb
  have hall := block_all hb
  refine C.by mixed (cfn_ok Tryz.func218 ok218) rfl ?_
  simp (disch := omega) only [s218, go_sem]
  refine loopP_intro (fun m s => ∃ k : Nat, k ≤ xs.length ∧ m = xs.length - k ∧ s.e 0 = .lst 6 (xs.map encStmt) ∧ s.e 4 = .int .i64 k ∧ s.e 3 = .own 0 1 0 8 8 ∧ Sep s.h [.k 0 ((setW zero8 (vars (xs.take k))).map encBo)]) xs.length ⟨0, by omega, by omega, by simp (disch := omega) only [go_sem], by simp (disch := omega) only [go_sem]; rfl, by simp (disch := omega) only [go_sem], ⟨[0], by simp, [0], [], rfl, ⟨rfl, rfl⟩, rfl⟩⟩ ?_
  rintro m e hp ⟨k, hk, rfl, e0, e4, e3, S⟩
  simp only at e0 e4 e3 S
  simp (disch := omega) only [go_sem, e0, e4, e3]
  refine condP_dec (fun hlt => ?_) (fun hlt => ?_)
  · have hlt' : k < xs.length := by omega
    have hnx := vars_take hlt'
    simp (disch := omega) only [go_sem, e0, e4, e3]
    refine CP.go (blockOk_s xs (by omega)) rfl (refs_arg _ _) ?_
    simp (disch := omega) only [go_sem, e0, e4, e3, hb, encStmt]
    refine CP.go (writes_s xs[k]) rfl rfl ?_
    simp (disch := omega) only [go_sem, e0, e4, e3, hb, encStmt]
    refine condP_split (fun hv => ?_) (fun hv => ?_)
    · rw [if_pos hv] at hnx
      have hsv := stmt_var (hall _ (List.getElem_mem hlt')) hv
      have st := store_bo (S.blk 0 rfl) (by rw [setW_len]; rfl) (show xs[k].var.toNat < 8 by omega)
      simp (disch := omega) only [go_sem, e0, e4, e3, hb, st, encStmt]
      refine nextP_intro (xs.length - (k + 1)) (by omega) ⟨k + 1, by omega, rfl, by simp (disch := omega) only [go_sem, e0, e4, e3, hb, st, encStmt], by simp (disch := omega) only [go_sem, e0, e4, e3, hb, st, encStmt]; rfl, by simp (disch := omega) only [go_sem, e0, e4, e3, hb, st, encStmt], ?_⟩
      rw [hnx, setW_app]
      exact S.setK _
    · rw [if_neg (by simp [hv]), List.append_nil] at hnx
      simp (disch := omega) only [go_sem, e0, e4, e3, hb, encStmt]
      refine nextP_intro (xs.length - (k + 1)) (by omega) ⟨k + 1, by omega, rfl, by simp (disch := omega) only [go_sem, e0, e4, e3, hb, encStmt], by simp (disch := omega) only [go_sem, e0, e4, e3, hb, encStmt]; rfl, by simp (disch := omega) only [go_sem, e0, e4, e3, hb, encStmt], ?_⟩
      rw [hnx]; exact S
  · have : k = xs.length := by omega
    subst this
    rw [List.take_length] at S
    simp (disch := omega) only [go_sem, e0, e4, e3]
    refine S.goLst (listB_s (setW zero8 (vars xs)) (by rw [setW_len]; rfl)) (.cons (Snap.flatN (S.blk 0 rfl) (by rw [List.length_map, setW_len]; rfl) (flat_bo _)) (.nil _)) fun r h' X S1 ro rn rc => ?_
    simp (disch := omega) only [go_sem, e0, e4, e3, rn]
    have e : listB (setW zero8 (vars xs)) = mayL xs := list_setW (vars_bd hall)
    rw [e] at S1
    exact S1.ret
/-- The variables that every run of a block writes. -/
def mvT : Tr → List Int
  | .nil => []
  | .one s r => (if hasVar s.kind = true then [s.var] else []) ++ mvT r
  | .grp s a r => (if s.kind = 4 then [] else mvT a) ++ mvT r
def mustT (t : Tr) : List Int := canon fun k => decide ((k : Int) ∈ mvT t)
theorem mvT_bd : ∀ {t : Tr}, t.ok = true → ∀ v ∈ mvT t, 0 ≤ v ∧ v < 8
  | .nil, _, v, hv => by simp [mvT] at hv
  | .one s r, h, v, hv => by
    obtain ⟨hs, hk, hr⟩ := Tr.one_ok h
    rcases List.mem_append.1 hv with h1 | h1
    · split at h1
      · simp at h1; subst h1; exact stmt_var hs (by assumption)
      · simp at h1
    · exact mvT_bd hr v h1
  | .grp s a r, h, v, hv => by
    obtain ⟨hs, hk, ha, hr⟩ := Tr.grp_ok h
    rcases List.mem_append.1 hv with h1 | h1
    · split at h1
      · simp at h1
      · exact mvT_bd ha v h1
    · exact mvT_bd hr v h1
/-- What follows, behind the ends of groups that are open. -/
def tailE : List Tr → List Stmt
  | [] => []
  | t :: ts => endS :: (t.flat ++ tailE ts)
def allOk (ts : List Tr) : Prop := ∀ t ∈ ts, t.ok = true
theorem drop_head {xs : List Stmt} {k : Nat} {s : Stmt} {v : List Stmt} (h : xs.drop k = s :: v) : ∃ hk : k < xs.length, xs[k] = s ∧ xs.drop (k + 1) = v := by
  have hk : k < xs.length := by
    rcases Nat.lt_or_ge k xs.length with h1 | h1
    · exact h1
    · rw [List.drop_eq_nil_of_le h1] at h; cases h
  rw [List.drop_eq_getElem_cons hk] at h
  cases h
  exact ⟨hk, rfl, rfl⟩
theorem drop_skip {xs : List Stmt} {k : Nat} {a v : List Stmt} (h : xs.drop k = a ++ v) : xs.drop (k + a.length) = v := by
  rw [← List.drop_drop, h, List.drop_left]
theorem must_s (xs : List Stmt) (t : Tr) (ht : t.ok = true) (hf : xs = t.flat) (hb : blockOk xs = true) : F Tryz.prog 219 [.lst 6 (xs.map encStmt)] (.lst 1 ((mustT t).map encI)) := by
  have hl := block_len hb
  have hall := block_all hb
  refine C.by mixed (cfn_ok Tryz.func219 ok219) rfl ?_
  simp (disch := omega) only [s219, go_sem]
  refine loopP_intro (fun m s => ∃ (k : Nat) (r : Tr) (ts : List Tr) (W : List Bool), k ≤ xs.length ∧ m = xs.length - k ∧ r.ok = true ∧ allOk ts ∧ xs.drop k = r.flat ++ tailE ts ∧ W.length = 8 ∧ setW W (mvT r ++ ts.flatMap mvT) = setW zero8 (mvT t) ∧ s.e 0 = .lst 6 (xs.map encStmt) ∧ s.e 4 = .int .i64 k ∧ s.e 3 = .own 0 1 0 8 8 ∧ Sep s.h [.k 0 (W.map encBo)]) xs.length ⟨0, t, [], zero8, by omega, by omega, ht, fun _ h => by simp at h, by simp [tailE, hf], rfl, by simp, by simp (disch := omega) only [go_sem], by simp (disch := omega) only [go_sem]; rfl, by simp (disch := omega) only [go_sem], ⟨[0], by simp, [0], [], rfl, ⟨rfl, rfl⟩, rfl⟩⟩ ?_
  rintro m e hp ⟨k, r, ts, W, hk, rfl, hr, hts, hdr, hW, hset, e0, e4, e3, S⟩
  simp only at e0 e4 e3 S
  simp (disch := omega) only [go_sem, e0, e4, e3]
  refine condP_dec (fun hlt => ?_) (fun hlt => ?_)
  · have hlt' : k < xs.length := by omega
    simp (disch := omega) only [go_sem, e0, e4, e3]
    refine CP.go (blockOk_s xs (by omega)) rfl (refs_arg _ _) ?_
    -- the statement at hand
    rcases r with _ | ⟨s, r⟩ | ⟨s, a, r⟩
    · -- the end of a group
      match ts, hts, hdr, hset with
      | [], _, hdr, _ =>
        have := congrArg List.length hdr
        simp [Tr.flat, tailE] at this
        omega
      | t' :: ts', hts, hdr, hset =>
        simp only [Tr.flat, tailE, List.nil_append] at hdr
        refine Exists.elim (drop_head hdr) fun hk0 z => ?_
        have hks := z.1
        have hd1 := z.2
        have hk6 : xs[k].kind = 6 := by rw [hks]; rfl
        have hv0 : hasVar xs[k].kind = false := by rw [hks]; rfl
        simp (disch := omega) only [go_sem, e0, e4, e3, hb, encStmt]
        refine CP.go (writes_s xs[k]) rfl rfl ?_
        simp (disch := omega) only [go_sem, e0, e4, e3, hb, hv0]
        exact nextP_intro (xs.length - (k + 1)) (by omega) ⟨k + 1, t', ts', W, by omega, rfl, hts t' (by simp), fun x hx => hts x (by simp [hx]), hd1, hW, by simpa [mvT] using hset, by simp (disch := omega) only [go_sem, e0, e4, e3, hb, hv0], by simp (disch := omega) only [go_sem, e0, e4, e3, hb, hv0]; rfl, by simp (disch := omega) only [go_sem, e0, e4, e3, hb, hv0], S⟩
    · obtain ⟨hs, hkk, hr'⟩ := Tr.one_ok hr
      simp only [Tr.flat, List.cons_append] at hdr
      refine Exists.elim (drop_head hdr) fun hk0 z => ?_
      have hks := z.1
      have hd1 := z.2
      have hk4 : ¬ xs[k].kind = 4 := by rw [hks]; omega
      simp (disch := omega) only [go_sem, e0, e4, e3, hb, encStmt]
      refine CP.go (writes_s xs[k]) rfl rfl ?_
      simp (disch := omega) only [go_sem, e0, e4, e3, hb, encStmt]
      refine condP_split (fun hv => ?_) (fun hv => ?_)
      · have hsv := stmt_var (hall _ (List.getElem_mem hlt')) hv
        have st := store_bo (S.blk 0 rfl) hW (show xs[k].var.toNat < 8 by omega)
        simp (disch := omega) only [go_sem, e0, e4, e3, hb, st, encStmt]
        refine nextP_intro (xs.length - (k + 1)) (by omega) ⟨k + 1, r, ts, W.set xs[k].var.toNat true, by omega, rfl, hr', hts, hd1, by simpa using hW, ?_, by simp (disch := omega) only [go_sem, e0, e4, e3, hb, st, encStmt], by simp (disch := omega) only [go_sem, e0, e4, e3, hb, st, encStmt]; rfl, by simp (disch := omega) only [go_sem, e0, e4, e3, hb, st, encStmt], S.setK _⟩
        rw [← hset, mvT, ← hks, if_pos hv]; rfl
      · simp (disch := omega) only [go_sem, e0, e4, e3, hb, encStmt]
        refine nextP_intro (xs.length - (k + 1)) (by omega) ⟨k + 1, r, ts, W, by omega, rfl, hr', hts, hd1, hW, ?_, by simp (disch := omega) only [go_sem, e0, e4, e3, hb, encStmt], by simp (disch := omega) only [go_sem, e0, e4, e3, hb, encStmt]; rfl, by simp (disch := omega) only [go_sem, e0, e4, e3, hb, encStmt], S⟩
        rw [← hset, mvT, ← hks, if_neg (by simp [hv])]; rfl
    · obtain ⟨hs, hkk, ha, hr'⟩ := Tr.grp_ok hr
      simp only [Tr.flat, List.cons_append, List.append_assoc] at hdr
      refine Exists.elim (drop_head hdr) fun hk0 z => ?_
      have hks := z.1
      have hd1 := z.2
      have hv0 : hasVar xs[k].kind = false := by rw [hks]; simp [hasVar]; omega
      simp (disch := omega) only [go_sem, e0, e4, e3, hb, encStmt]
      refine condP_dec (fun h4 => ?_) (fun h4 => ?_)
      · have hen : endM 0 k (xs.drop k) = (k : Int) + 1 + a.flat.length := by rw [hdr]; exact endM_grp k _ hkk ha
        simp (disch := omega) only [go_sem, e0, e4, e3, hb, encStmt]
        refine CP.go (end_s xs k (by omega) (by omega)) rfl (refs_args _ _ _) ?_
        have hd2 := drop_skip hd1
        have hd3 := (drop_head hd2)
        refine Exists.elim hd3 fun hk3 z => ?_
        have hd4 := z.2
        simp (disch := omega) only [go_sem, e0, e4, e3, hb, hen]
        refine nextP_intro (xs.length - (k + 1 + a.flat.length + 1)) (by omega) ⟨k + 1 + a.flat.length + 1, r, ts, W, by omega, rfl, hr', hts, hd4, hW, ?_, by simp (disch := omega) only [go_sem, e0, e4, e3, hb, hen], by simp (disch := omega) only [go_sem, e0, e4, e3, hb, hen]; exact congrArg (V.int .i64) (by omega), by simp (disch := omega) only [go_sem, e0, e4, e3, hb, hen], S⟩
        rw [← hset, mvT, ← hks, if_pos h4]; rfl
      · simp (disch := omega) only [go_sem, e0, e4, e3, hb, encStmt]
        refine CP.go (writes_s xs[k]) rfl rfl ?_
        simp (disch := omega) only [go_sem, e0, e4, e3, hb, hv0]
        refine nextP_intro (xs.length - (k + 1)) (by omega) ⟨k + 1, a, r :: ts, W, by omega, rfl, ha, fun x hx => ?_, hd1, hW, ?_, by simp (disch := omega) only [go_sem, e0, e4, e3, hb, hv0], by simp (disch := omega) only [go_sem, e0, e4, e3, hb, hv0]; rfl, by simp (disch := omega) only [go_sem, e0, e4, e3, hb, hv0], S⟩
        · rcases List.mem_cons.1 hx with rfl | hx
          · exact hr'
          · exact hts x hx
        · rw [← hset, mvT, ← hks, if_neg h4]; simp
  · have hke : k = xs.length := by omega
    subst hke
    have hz : mvT r ++ ts.flatMap mvT = [] := by
      have hlen := congrArg List.length hdr
      rw [List.drop_length, List.length_append, List.length_nil] at hlen
      have h1 : r.flat.length = 0 := by omega
      have h2 : (tailE ts).length = 0 := by omega
      cases r with
      | nil =>
        cases ts with
        | nil => rfl
        | cons t' ts' => simp [tailE] at h2
      | one s r => simp [Tr.flat] at h1
      | grp s a r => simp [Tr.flat] at h1
    rw [hz] at hset
    have hset' : W = setW zero8 (mvT t) := hset
    simp (disch := omega) only [go_sem, e0, e4, e3]
    refine S.goLst (listB_s W hW) (.cons (Snap.flatN (S.blk 0 rfl) (by rw [List.length_map, hW]) (flat_bo _)) (.nil _)) fun x h' X S1 ro rn rc => ?_
    simp (disch := omega) only [go_sem, e0, e4, e3, rn]
    have e : listB W = mustT t := by rw [hset']; exact list_setW (mvT_bd ht)
    rw [e] at S1
    exact S1.ret
/-- Which statements stand under a condition; g: the group at hand does. -/
def gT (g : Bool) : Tr → List Bool
  | .nil => []
  | .one _ r => g :: gT g r
  | .grp s a r => (g || decide (s.kind = 4)) :: (gT (g || decide (s.kind = 4)) a ++ (g || decide (s.kind = 4)) :: gT g r)
theorem gT_len : ∀ (g : Bool) (t : Tr), (gT g t).length = t.flat.length
  | g, .nil => rfl
  | g, .one s r => by simp [gT, Tr.flat, gT_len g r]
  | g, .grp s a r => by simp [gT, Tr.flat, gT_len _ a, gT_len g r]
theorem gT_must : ∀ (t : Tr) (g : Bool) (x : Int), t.ok = true → ((∃ p ∈ t.flat.zip (gT g t), p.2 = false ∧ hasVar p.1.kind = true ∧ p.1.var = x) ↔ g = false ∧ x ∈ mvT t)
  | .nil, g, x, _ => by simp [Tr.flat, gT, mvT]
  | .one s r, g, x, h => by
    obtain ⟨hs, hk, hr⟩ := Tr.one_ok h
    have ih := gT_must r g x hr
    simp only [Tr.flat, gT, List.zip_cons_cons, List.mem_cons, exists_eq_or_imp, mvT, List.mem_append]
    rw [ih]
    cases g
    · by_cases hv : hasVar s.kind = true
      · rw [if_pos hv]; simp [hv, eq_comm]
      · rw [if_neg hv]; simp [hv]
    · simp
  | .grp s a r, g, x, h => by
    obtain ⟨hs, hk, ha, hr⟩ := Tr.grp_ok h
    have ih1 := gT_must a (g || decide (s.kind = 4)) x ha
    have ih2 := gT_must r g x hr
    have hv0 : hasVar s.kind = false := by rcases hk with h1 | h1 <;> simp [hasVar, h1]
    have he0 : hasVar endS.kind = false := rfl
    simp only [Tr.flat, gT, List.zip_cons_cons, List.mem_cons, exists_eq_or_imp, mvT, List.mem_append]
    rw [List.zip_append (by rw [gT_len])]
    simp only [List.zip_cons_cons, List.mem_append, List.mem_cons, or_and_right, exists_or, exists_eq_left]
    rw [ih1, ih2]
    simp only [hv0, he0, Bool.false_eq_true, false_and, and_false, false_or]
    cases g
    · by_cases h4 : s.kind = 4
      · simp [h4]
      · simp [h4]
    · simp
def tailF : Bool → List (Tr × Bool) → List Bool
  | _, [] => []
  | g, (r, gr) :: ts => g :: (List.replicate r.flat.length gr ++ tailF gr ts)
def tailG : Bool → List (Tr × Bool) → List Bool
  | _, [] => []
  | g, (r, gr) :: ts => g :: (gT gr r ++ tailG gr ts)
theorem tailF_len : ∀ (g : Bool) (ts : List (Tr × Bool)), (tailF g ts).length = (tailE (ts.map (·.1))).length
  | g, [] => rfl
  | g, (r, gr) :: ts => by simp [tailF, tailE, tailF_len gr ts]
theorem set_mid {done rest : List Bool} {j k : Nat} (hd : done.length = k) (hj : k ≤ j) (hr : j - k < rest.length) : (done ++ (List.replicate (j - k) true ++ rest.drop (j - k))).set j true = done ++ (List.replicate (j + 1 - k) true ++ rest.drop (j + 1 - k)) := by
  rw [List.set_append_right _ _ (by omega), List.set_append_right _ _ (by simp; omega), hd, List.length_replicate, show j - k - (j - k) = 0 by omega, List.drop_eq_getElem_cons hr, List.set_cons_zero]
  rw [show j + 1 - k = (j - k) + 1 by omega, List.replicate_succ', List.append_assoc]; rfl
theorem guard_c (h : Heap) (F : List Bool) (n i : Nat) (hF : F.length = n) (hi : i < n) (h0 : h[0]? = some (F.map encBo)) (h1 : h[1]? = some [[.own 0 1 0 n n]]) : C Tryz.prog 204 [.int .i64 i, .ptr 1 1 0 0] h (fun r h' => r = .bool (!bitB F i) ∧ h' = h) := by
  have hb := bitB_some (W := F) (k := i) (by omega)
  refine C.by mixed (cfn_ok Tryz.func204 ok204) rfl ?_
  simp (disch := omega) only [s204, go_sem, h0, h1, hb, hF, List.getElem?_map, List.length_map, encBo]
theorem must_c (xs : List Stmt) (t : Tr) (ht : t.ok = true) (hf : xs = t.flat) (hb : blockOk xs = true) : Pt Tryz.prog 163 [.lst 6 (xs.map encStmt)] (mustT t) := by
  have hl := block_len hb
  have hall := block_all hb
  refine C.by mixed (cfn_ok Tryz.func163 ok163) rfl ?_
  simp (disch := omega) only [s163, go_sem]
  refine CP.go (blockOk_c xs (by omega)) rfl (refs_arg _ _) ?_
  simp (disch := omega) only [go_sem, hb, storeH, storeB, splice]
  refine loopP_intro (fun m s => ∃ (k : Nat) (r : Tr) (g : Bool) (ts : List (Tr × Bool)) (done : List Bool), k ≤ xs.length ∧ m = xs.length - k ∧ r.ok = true ∧ allOk (ts.map (·.1)) ∧ xs.drop k = r.flat ++ tailE (ts.map (·.1)) ∧ done.length = k ∧ done ++ (gT g r ++ tailG g ts) = gT false t ∧ s.e 0 = .lst 6 (xs.map encStmt) ∧ s.e 3 = .ptr 1 1 0 0 ∧ s.e 13 = .lst 6 (xs.map encStmt) ∧ s.e 14 = .int .i64 xs.length ∧ s.e 15 = .int .i64 k ∧
    Sep s.h [.k 0 ((done ++ (List.replicate r.flat.length g ++ tailF g ts)).map encBo), .k 1 [[.own 0 1 0 xs.length xs.length]]]) xs.length ⟨0, t, false, [], [], by omega, by omega, ht, fun _ h => by simp at h, by simp [tailE, hf], rfl, by simp [tailG], by simp (disch := omega) only [go_sem, hb, storeH, storeB, splice], by simp (disch := omega) only [go_sem, hb, storeH, storeB, splice], by simp (disch := omega) only [go_sem, hb, storeH, storeB, splice], by simp (disch := omega) only [go_sem, hb, storeH, storeB, splice], by simp (disch := omega) only [go_sem, hb, storeH, storeB, splice]; rfl, ⟨[0, 1], by simp, [0], [1], rfl, ⟨rfl, by rw [← hf]; simp [tailF, encBo]⟩, [1], [], rfl, ⟨rfl, rfl⟩, rfl⟩⟩ ?_
  rintro m e hp ⟨k, r, g, ts, done, hk, rfl, hr, hts, hdr, hdn, hfin, e0, e3, e13, e14, e15, S⟩
  simp only at e0 e3 e13 e14 e15 S
  simp (disch := omega) only [go_sem, e0, e3, e13, e14, e15]
  refine condP_dec (fun hlt => ?_) (fun hlt => ?_)
  · have hlt' : k < xs.length := by omega
    have hz := storeBox (h := hp) (z := [V.int .i64 0, .int .i64 0, .int .i64 0, .int .i64 0, .int .i64 0, .int .i64 0]) (x := .agg (encStmt xs[k])) (sz := 6) rfl rfl
    simp only [cells_agg, encStmt] at hz
    have S1 := S.app [[encStmt xs[k]]]
    simp only [encStmt] at S1
    simp (disch := omega) only [go_sem, e0, e3, e13, e14, e15, hz, encStmt]
    have nxt : ∀ (e' : Nat → V) (hh : Heap) (r' : Tr) (g' : Bool) (ts' : List (Tr × Bool)) (done' : List Bool), r'.ok = true → allOk (ts'.map (·.1)) → xs.drop (k + 1) = r'.flat ++ tailE (ts'.map (·.1)) → done'.length = k + 1 → done' ++ (gT g' r' ++ tailG g' ts') = gT false t → e' 0 = .lst 6 (xs.map encStmt) → e' 3 = .ptr 1 1 0 0 → e' 13 = .lst 6 (xs.map encStmt) → e' 14 = .int .i64 xs.length → e' 15 = .int .i64 ((k : Int) + 1) →
      Sep hh [.k 0 ((done' ++ (List.replicate r'.flat.length g' ++ tailF g' ts')).map encBo), .k 1 [[.own 0 1 0 xs.length xs.length]]] → @nextP (xs.length - k) ⟨e', hh⟩ ⟨fun m s => ∃ (k : Nat) (r : Tr) (g : Bool) (ts : List (Tr × Bool)) (done : List Bool), k ≤ xs.length ∧ m = xs.length - k ∧ r.ok = true ∧ allOk (ts.map (·.1)) ∧ xs.drop k = r.flat ++ tailE (ts.map (·.1)) ∧ done.length = k ∧ done ++ (gT g r ++ tailG g ts) = gT false t ∧ s.e 0 = .lst 6 (xs.map encStmt) ∧ s.e 3 = .ptr 1 1 0 0 ∧ s.e 13 = .lst 6 (xs.map encStmt) ∧ s.e 14 = .int .i64 xs.length ∧ s.e 15 = .int .i64 k ∧
    Sep s.h [.k 0 ((done ++ (List.replicate r.flat.length g ++ tailF g ts)).map encBo), .k 1 [[.own 0 1 0 xs.length xs.length]]]⟩ := fun e' hh r' g' ts' done' a1 a2 a3 a4 a5 a6 a7 a8 a9 b1 b2 =>
      nextP_intro (xs.length - (k + 1)) (by omega) ⟨k + 1, r', g', ts', done', by omega, rfl, a1, a2, a3, a4, a5, a6, a7, a8, a9, b1, b2⟩
    rcases r with _ | ⟨s, r⟩ | ⟨s, a, r⟩
    · match ts, hts, hdr, hfin, S1 with
      | [], _, hdr, _, _ =>
        have := congrArg List.length hdr
        simp [Tr.flat, tailE] at this
        omega
      | (t', g') :: ts', hts, hdr, hfin, S1 =>
        simp only [Tr.flat, List.map_cons, tailE, List.nil_append] at hdr
        refine Exists.elim (drop_head hdr) fun hk0 z => ?_
        have hks := z.1
        have hd1 := z.2
        have hk4 : ¬ xs[k].kind = 4 := by rw [hks]; decide
        simp (disch := omega) only [go_sem, e0, e3, e13, e14, e15, hk4]
        refine nxt _ _ t' g' ts' (done ++ [g]) (hts t' (by simp)) (fun x hx => hts x (by simp at hx ⊢; exact .inr hx)) hd1 (by simp [hdn]) ?_ (by simp (disch := omega) only [go_sem, e0, e3, e13, e14, e15, hk4]) (by simp (disch := omega) only [go_sem, e0, e3, e13, e14, e15, hk4]) (by simp (disch := omega) only [go_sem, e0, e3, e13, e14, e15, hk4]) (by simp (disch := omega) only [go_sem, e0, e3, e13, e14, e15, hk4]) (by simp (disch := omega) only [go_sem, e0, e3, e13, e14, e15, hk4]) ?_
        · rw [← hfin]; simp [gT, tailG]
        · simpa [Tr.flat, tailF] using S1
    · obtain ⟨hs, hkk, hr'⟩ := Tr.one_ok hr
      simp only [Tr.flat, List.cons_append] at hdr
      refine Exists.elim (drop_head hdr) fun hk0 z => ?_
      have hks := z.1
      have hd1 := z.2
      have hk4 : ¬ xs[k].kind = 4 := by rw [hks]; omega
      simp (disch := omega) only [go_sem, e0, e3, e13, e14, e15, hk4]
      refine nxt _ _ r g ts (done ++ [g]) hr' hts hd1 (by simp [hdn]) ?_ (by simp (disch := omega) only [go_sem, e0, e3, e13, e14, e15, hk4]) (by simp (disch := omega) only [go_sem, e0, e3, e13, e14, e15, hk4]) (by simp (disch := omega) only [go_sem, e0, e3, e13, e14, e15, hk4]) (by simp (disch := omega) only [go_sem, e0, e3, e13, e14, e15, hk4]) (by simp (disch := omega) only [go_sem, e0, e3, e13, e14, e15, hk4]) ?_
      · rw [← hfin]; simp [gT]
      · simpa [Tr.flat, List.replicate_succ] using S1
    · obtain ⟨hs, hkk, ha, hr'⟩ := Tr.grp_ok hr
      simp only [Tr.flat, List.cons_append, List.append_assoc] at hdr
      refine Exists.elim (drop_head hdr) fun hk0 z => ?_
      have hks := z.1
      have hd1 := z.2
      have hts' : allOk (((r, g) :: ts).map (·.1)) := fun x hx => by
        simp only [List.map_cons, List.mem_cons] at hx
        rcases hx with rfl | hx
        · exact hr'
        · exact hts x hx
      refine condP_dec (fun h4 => ?_) (fun h4 => ?_)
      · have hen : endO 0 k (xs.drop k) = (k : Int) + 1 + a.flat.length := by rw [hdr]; exact endO_grp k _ hkk ha
        have hlen : xs.length - k = a.flat.length + 2 + (r.flat.length + (tailE (ts.map (·.1))).length) := by
          have := congrArg List.length hdr
          simp only [List.length_drop, List.length_cons, List.length_append] at this
          omega
        have hrest : (List.replicate (Tr.grp s a r).flat.length g ++ tailF g ts).length = xs.length - k := by
          simp only [List.length_append, List.length_replicate, tailF_len, Tr.flat, List.length_cons]; omega
        simp (disch := omega) only [go_sem, e0, e3, e13, e14, e15]
        refine loopP_intro (fun m s' => ∃ (j : Nat), k ≤ j ∧ j ≤ k + 1 + a.flat.length + 1 ∧ m = k + 1 + a.flat.length + 1 - j ∧ s'.e 0 = .lst 6 (xs.map encStmt) ∧ s'.e 3 = .ptr 1 1 0 0 ∧ s'.e 4 = .int .i64 k ∧ s'.e 6 = .int .i64 j ∧ s'.e 13 = .lst 6 (xs.map encStmt) ∧ s'.e 14 = .int .i64 xs.length ∧ s'.e 15 = .int .i64 k ∧
          Sep s'.h [.k 0 ((done ++ (List.replicate (j - k) true ++ (List.replicate (Tr.grp s a r).flat.length g ++ tailF g ts).drop (j - k))).map encBo), .k 1 [[.own 0 1 0 xs.length xs.length]]]) (1 + a.flat.length + 1) ⟨k, by omega, by omega, by omega, by simp (disch := omega) only [go_sem, e0, e3, e13, e14, e15], by simp (disch := omega) only [go_sem, e0, e3, e13, e14, e15], by simp (disch := omega) only [go_sem, e0, e3, e13, e14, e15], by simp (disch := omega) only [go_sem, e0, e3, e13, e14, e15], by simp (disch := omega) only [go_sem, e0, e3, e13, e14, e15], by simp (disch := omega) only [go_sem, e0, e3, e13, e14, e15], by simp (disch := omega) only [go_sem, e0, e3, e13, e14, e15], by simpa using S1⟩ ?_
        rintro m e h2 ⟨j, hj1, hj2, rfl, e0, e3, e4, e6, e13, e14, e15, S2⟩
        simp only at e0 e3 e4 e6 e13 e14 e15 S2
        simp (disch := omega) only [go_sem, e0, e3, e4, e6, e13, e14, e15]
        refine CP.go (endO_c xs k (by omega) (by omega)) rfl (refs_args _ _ _) ?_
        simp (disch := omega) only [go_sem, e0, e3, e4, e6, e13, e14, e15, hen]
        refine condP_dec (fun hj => ?_) (fun hj => ?_)
        · have hbx := S2.blk 1 rfl
          have hml : (done ++ (List.replicate (j - k) true ++ (List.replicate (Tr.grp s a r).flat.length g ++ tailF g ts).drop (j - k))).length = xs.length := by
            simp only [List.length_append, List.length_replicate, List.length_drop] at hrest ⊢
            omega
          have st := store_bo (S2.blk 0 rfl) hml (show j < xs.length by omega)
          rw [set_mid hdn hj1 (by omega)] at st
          have S3 := S2.setK ((done ++ (List.replicate (j + 1 - k) true ++ (List.replicate (Tr.grp s a r).flat.length g ++ tailF g ts).drop (j + 1 - k))).map encBo)
          simp (disch := omega) only [go_sem, e0, e3, e4, e6, e13, e14, e15, hbx, st]
          exact nextP_intro (k + 1 + a.flat.length + 1 - (j + 1)) (by omega) ⟨j + 1, by omega, by omega, rfl, by simp (disch := omega) only [go_sem, e0, e3, e4, e6, e13, e14, e15, hbx, st], by simp (disch := omega) only [go_sem, e0, e3, e4, e6, e13, e14, e15, hbx, st], by simp (disch := omega) only [go_sem, e0, e3, e4, e6, e13, e14, e15, hbx, st], by simp (disch := omega) only [go_sem, e0, e3, e4, e6, e13, e14, e15, hbx, st]; rfl, by simp (disch := omega) only [go_sem, e0, e3, e4, e6, e13, e14, e15, hbx, st], by simp (disch := omega) only [go_sem, e0, e3, e4, e6, e13, e14, e15, hbx, st], by simp (disch := omega) only [go_sem, e0, e3, e4, e6, e13, e14, e15, hbx, st], S3⟩
        · have hje : j = k + 1 + a.flat.length + 1 := by omega
          subst hje
          simp (disch := omega) only [go_sem, e0, e3, e4, e6, e13, e14, e15, hen]
          refine nxt _ _ a true ((r, g) :: ts) (done ++ [true]) ha hts' (by simpa [tailE] using hd1) (by simp [hdn]) ?_ (by simp (disch := omega) only [go_sem, e0, e3, e4, e6, e13, e14, e15, hen]) (by simp (disch := omega) only [go_sem, e0, e3, e4, e6, e13, e14, e15, hen]) (by simp (disch := omega) only [go_sem, e0, e3, e4, e6, e13, e14, e15, hen]) (by simp (disch := omega) only [go_sem, e0, e3, e4, e6, e13, e14, e15, hen]) (by simp (disch := omega) only [go_sem, e0, e3, e4, e6, e13, e14, e15, hen]) ?_
          · have h4' : s.kind = 4 := by rw [← hks]; exact h4
            rw [← hfin]; simp [gT, tailG, h4']
          · have e1 : k + 1 + a.flat.length + 1 - k = a.flat.length + 2 := by omega
            have e2 : (List.replicate (Tr.grp s a r).flat.length g ++ tailF g ts).drop (a.flat.length + 2) = List.replicate r.flat.length g ++ tailF g ts := by
              rw [List.drop_append_of_le_length (by simp [Tr.flat]), List.drop_replicate]
              congr 2
              simp [Tr.flat]; omega
            rw [e1, e2] at S2
            have e3 : List.replicate (a.flat.length + 2) true = true :: (List.replicate a.flat.length true ++ [true]) := by
              rw [← List.replicate_succ', ← List.replicate_succ]
            rw [e3] at S2
            simpa [tailF] using S2
      · simp (disch := omega) only [go_sem, e0, e3, e13, e14, e15]
        have h4' : ¬ s.kind = 4 := by rw [← hks]; exact h4
        refine nxt _ _ a g ((r, g) :: ts) (done ++ [g]) ha hts' (by simpa [tailE] using hd1) (by simp [hdn]) ?_ (by simp (disch := omega) only [go_sem, e0, e3, e13, e14, e15]) (by simp (disch := omega) only [go_sem, e0, e3, e13, e14, e15]) (by simp (disch := omega) only [go_sem, e0, e3, e13, e14, e15]) (by simp (disch := omega) only [go_sem, e0, e3, e13, e14, e15]) (by simp (disch := omega) only [go_sem, e0, e3, e13, e14, e15]) ?_
        · rw [← hfin]; simp [gT, tailG, h4']
        · have e3 : List.replicate (Tr.grp s a r).flat.length g = g :: (List.replicate a.flat.length g ++ g :: List.replicate r.flat.length g) := by
            rw [← List.replicate_succ, ← List.replicate_append_replicate.symm, ← List.replicate_succ]
            congr 1
            simp [Tr.flat]
          rw [e3] at S1
          simpa [tailF] using S1
  · have hke : k = xs.length := by omega
    subst hke
    have hz : r = .nil ∧ ts = [] := by
      have hlen := congrArg List.length hdr
      rw [List.drop_length, List.length_append, List.length_nil] at hlen
      have h1 : r.flat.length = 0 := by omega
      have h2 : (tailE (ts.map (·.1))).length = 0 := by omega
      cases r with
      | nil =>
        cases ts with
        | nil => exact ⟨rfl, rfl⟩
        | cons t' ts' => simp [tailE] at h2
      | one s r => simp [Tr.flat] at h1
      | grp s a r => simp [Tr.flat] at h1
    obtain ⟨rfl, rfl⟩ := hz
    simp only [gT, tailG, List.append_nil] at hfin
    have S1 : Sep hp [.k 0 ((gT false t).map encBo), .k 1 [[.own 0 1 0 xs.length xs.length]]] := by
      rw [← hfin]; simpa [Tr.flat, tailF] using S
    have hgl : (gT false t).length = xs.length := by rw [gT_len, ← hf]
    simp (disch := omega) only [go_sem, e0, e3, e13, e14, e15]
    refine C.go (written_c xs 204 [.ptr 1 1 0 0] (fun i => !bitB (gT false t) i) S1 (by omega) (fun i hi h' X S' => guard_c h' (gT false t) xs.length i hgl hi (S'.blk 0 rfl) (S'.blk 1 rfl))) ?_
    rintro r h' ⟨X, S2⟩
    have z := (S2.pvv 0 rfl).1
    simp (disch := omega) only [go_sem, z.2.1]
    have em : mustT t = ddup (srt (wr xs (fun i => !bitB (gT false t) i) xs.length)) := by
      refine (canon_mem (mvT_bd ht) fun x => ?_).symm
      rw [mem_wr (Nat.le_refl _)]
      have key := gT_must t false x ht
      simp only [true_and] at key
      rw [← key]
      constructor
      · rintro ⟨i, hi, _, h1, h2, h3⟩
        have hgi : i < (gT false t).length := by omega
        refine ⟨(xs[i], (gT false t)[i]), ?_, ?_, h1, h3⟩
        · subst hf
          rw [List.mem_iff_getElem]
          exact ⟨i, by simp [hgl]; omega, by simp⟩
        · simpa [bitB, hgi] using h2
      · rintro ⟨p, hp, h1, h2, h3⟩
        obtain ⟨i, hi, rfl⟩ := List.mem_iff_getElem.1 hp
        simp only [List.length_zip] at hi
        simp only [List.getElem_zip] at h1 h2 h3
        subst hf
        refine ⟨i, by omega, by omega, h2, ?_, h3⟩
        have hgi : i < (gT false t).length := by omega
        simpa [bitB, hgi] using h1
    rw [em]
    exact S2.pret
end Go.Av
