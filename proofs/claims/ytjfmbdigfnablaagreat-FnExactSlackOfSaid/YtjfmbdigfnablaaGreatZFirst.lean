/- The variables that a task may read before it writes them; both sides. No condition. -/
import Derived.Test.YtjfmbdigfnablaaGreatZMust
namespace Go.Av
open Go.Proofs Go.RowKit
set_option linter.unusedVariables false
set_option linter.unusedSimpArgs false
set_option maxRecDepth 100000
set_option maxHeartbeats 4000000
def noteL (W F : List Bool) (ks : List Int) : List Bool := ks.foldl (fun F k => if bitB W k.toNat = true then F else F.set k.toNat true) F
theorem noteL_len (W : List Bool) : ∀ (ks : List Int) (F : List Bool), (noteL W F ks).length = F.length
  | [], F => rfl
  | k :: ks, F => by
    show (noteL W (if bitB W k.toNat = true then F else F.set k.toNat true) ks).length = _
    rw [noteL_len W ks]; split <;> simp
theorem bit_noteL (W : List Bool) : ∀ (ks : List Int) (F : List Bool), F.length = 8 → (∀ k ∈ ks, 0 ≤ k ∧ k ≤ 7) → ∀ j, j < 8 → bitB (noteL W F ks) j = (bitB F j || (decide ((j : Int) ∈ ks) && !bitB W j))
  | [], F, _, _, j, hj => by simp [noteL]
  | k :: ks, F, hF, hk, j, hj => by
    have h0 := hk k (by simp)
    show bitB (noteL W (if bitB W k.toNat = true then F else F.set k.toNat true) ks) j = _
    rw [bit_noteL W ks _ (by split <;> simp [hF]) (fun x hx => hk x (by simp [hx])) j hj]
    by_cases hw : bitB W k.toNat = true
    · rw [if_pos hw]
      by_cases e : (j : Int) = k
      · have : k.toNat = j := by omega
        rw [this] at hw
        simp [hw]
      · simp [e]
    · rw [if_neg hw, bitB_set (by omega)]
      have e2 : decide (k.toNat = j) = decide ((j : Int) = k) := by rw [decide_eq_decide]; omega
      rw [e2]
      by_cases e : (j : Int) = k
      · have : k.toNat = j := by omega
        rw [this] at hw
        simp [e, hw]
      · simp [e]
theorem bits_eq {A B : List Bool} (hA : A.length = 8) (hB : B.length = 8) (h : ∀ j, j < 8 → bitB A j = bitB B j) : A = B := by
  apply List.ext_getElem (by omega)
  intro j h1 h2
  have := h j (by omega)
  simpa [bitB, h1, h2] using this
def noteE (W F : List Bool) (e : Expr) : List Bool := noteL W F (readsS e)
theorem noteE_len (W F : List Bool) (e : Expr) : (noteE W F e).length = F.length := noteL_len _ _ _
theorem note_same {W F : List Bool} {e : Expr} (h : exprOk e = true) (hF : F.length = 8) : noteL W F (readsI e) = noteE W F e := by
  refine bits_eq (by rw [noteL_len, hF]) (by rw [noteE_len, hF]) fun j hj => ?_
  unfold noteE
  rw [bit_noteL W _ F hF (fun k hk => reads_bd h ((mem_readsI h).1 hk)) j hj, bit_noteL W _ F hF (fun k hk => reads_bd h ((mem_readsS h).1 hk)) j hj]
  have : decide ((j : Int) ∈ readsI e) = decide ((j : Int) ∈ readsS e) := by rw [decide_eq_decide, mem_readsI h, mem_readsS h]
  rw [this]
def passT : Tr → List Bool × List Bool → List Bool × List Bool
  | .nil, st => st
  | .one s r, (W, F) => passT r (if hasVar s.kind = true then W.set s.var.toNat true else W, if hasExpr s.kind = true then noteE W F s.e else F)
  | .grp s a r, (W, F) => if s.kind = 4 then passT r (W, (passT a (W, noteE W F s.e)).2) else passT r (passT a (W, F))
theorem passT_len : ∀ (t : Tr) (W F : List Bool), (passT t (W, F)).1.length = W.length ∧ (passT t (W, F)).2.length = F.length
  | .nil, W, F => ⟨rfl, rfl⟩
  | .one s r, W, F => by
    unfold passT
    have := passT_len r (if hasVar s.kind = true then W.set s.var.toNat true else W) (if hasExpr s.kind = true then noteE W F s.e else F)
    refine ⟨this.1.trans (by split <;> simp), this.2.trans (by split <;> simp [noteE_len])⟩
  | .grp s a r, W, F => by
    unfold passT
    split
    · have h1 := passT_len a W (noteE W F s.e)
      have h2 := passT_len r W (passT a (W, noteE W F s.e)).2
      exact ⟨h2.1, h2.2.trans (h1.2.trans (noteE_len _ _ _))⟩
    · have h1 := passT_len a W F
      have h2 := passT_len r (passT a (W, F)).1 (passT a (W, F)).2
      exact ⟨h2.1.trans h1.1, h2.2.trans h1.2⟩
def firstT (t : Tr) (e : Expr) : List Int := listB (noteE (passT t (zero8, zero8)).1 (passT t (zero8, zero8)).2 e)
theorem stmt_expr {s : Stmt} (h : stmtOk s = true) (hv : hasExpr s.kind = true) : exprOk s.e = true := by
  unfold stmtOk at h
  split at h
  · cases h
  · split at h
    · cases h
    · rename_i hc
      simp only [Bool.or_eq_true, not_or, hv, Bool.true_and, Bool.not_true, Bool.false_and] at hc
      simpa using hc.1
/-! The reference. -/
theorem note_s {h : Heap} {L : List It} (w f : Nat) (W F : List Bool) (e : Expr) (hW : W.length = 8) (hF : F.length = 8) (he : exprOk e = true) (S : Sep h (.k w (W.map encBo) :: .k f (F.map encBo) :: L)) :
    C Tryz.prog 245 [.own f 1 0 8 8, .own w 1 0 8 8, .agg (encExpr e)] h (fun r h' => r = .tup [] ∧ Sep h' (.k w (W.map encBo) :: .k f ((noteE W F e).map encBo) :: L)) := by
  refine C.by mixed (cfn_ok Tryz.func245 ok245) rfl ?_
  simp (disch := omega) only [s245, go_sem, encExpr]
  have S0 := S.app [[encExpr e]]
  simp only [encExpr] at S0
  refine S0.goLst (readsOf_s e) (.same rfl) fun r h1 X1 S1 ro rn rc => ?_
  have hlenr : (readsS e).length ≤ 8 := by
    rw [readsS, if_pos he, List.length_map]
    have := List.length_filter_le (fun (k : Nat) => decide (e.a = -1 - (k : Int)) || decide (e.b = -1 - (k : Int))) (List.range 8)
    simpa using this
  refine Exists.elim (show ∃ q, (r = .own q 1 0 (readsS e).length (readsS e).length ∧ Sep h1 (.k q ((readsS e).map encI) :: .k w (W.map encBo) :: .k f (F.map encBo) :: L)) ∨ (r = .nils ∧ readsS e = [] ∧ Sep h1 (.k w (W.map encBo) :: .k f (F.map encBo) :: L)) from ?_) fun q z => ?_
  · rcases S1.flat_ (flat_encI _) with ⟨a, b, c⟩ | ⟨q, a, b⟩
    · exact ⟨0, .inr ⟨a, by simpa using b, c⟩⟩
    · exact ⟨q, .inl ⟨by rw [a, List.length_map], b⟩⟩
  rcases z with z | z
  · have z1 := z.1
    have S2 := z.2
    clear z
    subst z1
    simp (disch := omega) only [go_sem]
    refine loopP_intro (fun m s => ∃ (k : Nat) (F1 : List Bool), k ≤ (readsS e).length ∧ m = (readsS e).length - k ∧ F1.length = 8 ∧ noteL W F1 ((readsS e).drop k) = noteE W F e ∧ s.e 0 = .own f 1 0 8 8 ∧ s.e 1 = .own w 1 0 8 8 ∧ s.e 6 = .own q 1 0 (readsS e).length (readsS e).length ∧ s.e 7 = .int .i64 k ∧ Sep s.h (.k f (F1.map encBo) :: .k q ((readsS e).map encI) :: .k w (W.map encBo) :: L)) (readsS e).length ⟨0, F, by omega, by omega, hF, rfl, by simp (disch := omega) only [go_sem], by simp (disch := omega) only [go_sem], by simp (disch := omega) only [go_sem], by simp (disch := omega) only [go_sem]; rfl, S2.perm ((List.Perm.cons _ (.swap _ _ _)).trans (.swap _ _ _))⟩ ?_
    rintro m e' hp ⟨k, F1, hk, rfl, hF1, hnt, e0, e1, e6, e7, S3⟩
    simp only at e0 e1 e6 e7 S3
    have hq := S3.blk 1 rfl
    have hw := S3.blk 2 rfl
    simp (disch := omega) only [go_sem, e0, e1, e6, e7, hq, hw]
    refine condP_dec (fun hlt => ?_) (fun hlt => ?_)
    · have hlt' : k < (readsS e).length := by omega
      have hgk := gtI_some hlt'
      have hbd := reads_bd he ((mem_readsS he).1 (List.getElem_mem hlt'))
      rw [gtI_get hlt'] at hbd
      rw [List.drop_eq_getElem_cons hlt', gtI_get hlt'] at hnt
      have hbw := bitB_some (W := W) (k := (gtI (readsS e) k).toNat) (by omega)
      have st := store_bo (S3.blk 0 rfl) hF1 (show (gtI (readsS e) k).toNat < 8 by omega)
      simp (disch := omega) only [go_sem, e0, e1, e6, e7, hq, hw, hgk, hbw, hW, List.getElem?_map, List.length_map, encI, encBo]
      refine condP_split (fun hb => ?_) (fun hb => ?_)
      · simp (disch := omega) only [go_sem, e0, e1, e6, e7, hq, hw, hgk, hbw, hW, List.getElem?_map, List.length_map, encI, encBo]
        refine nextP_intro ((readsS e).length - (k + 1)) (by omega) ⟨k + 1, F1, by omega, rfl, hF1, ?_, by simp (disch := omega) only [go_sem, e0, e1, e6, e7, hq, hw, hgk, hbw, hW, List.getElem?_map, List.length_map, encI, encBo], by simp (disch := omega) only [go_sem, e0, e1, e6, e7, hq, hw, hgk, hbw, hW, List.getElem?_map, List.length_map, encI, encBo], by simp (disch := omega) only [go_sem, e0, e1, e6, e7, hq, hw, hgk, hbw, hW, List.getElem?_map, List.length_map, encI, encBo], by simp (disch := omega) only [go_sem, e0, e1, e6, e7, hq, hw, hgk, hbw, hW, List.getElem?_map, List.length_map, encI, encBo]; rfl, S3⟩
        rw [← hnt]
        show _ = noteL W (if bitB W (gtI (readsS e) k).toNat = true then F1 else _) _
        rw [if_pos hb]
      · simp (disch := omega) only [go_sem, e0, e1, e6, e7, hq, hw, hgk, hbw, hW, st, List.getElem?_map, List.length_map, encI]
        refine nextP_intro ((readsS e).length - (k + 1)) (by omega) ⟨k + 1, F1.set (gtI (readsS e) k).toNat true, by omega, rfl, by simpa using hF1, ?_, by simp (disch := omega) only [go_sem, e0, e1, e6, e7, hq, hw, hgk, hbw, hW, st, List.getElem?_map, List.length_map, encI], by simp (disch := omega) only [go_sem, e0, e1, e6, e7, hq, hw, hgk, hbw, hW, st, List.getElem?_map, List.length_map, encI], by simp (disch := omega) only [go_sem, e0, e1, e6, e7, hq, hw, hgk, hbw, hW, st, List.getElem?_map, List.length_map, encI], by simp (disch := omega) only [go_sem, e0, e1, e6, e7, hq, hw, hgk, hbw, hW, st, List.getElem?_map, List.length_map, encI]; rfl, S3.setK _⟩
        rw [← hnt]
        show _ = noteL W (if bitB W (gtI (readsS e) k).toNat = true then F1 else _) _
        rw [if_neg (by simp [hb])]
    · have : k = (readsS e).length := by omega
      subst this
      rw [List.drop_length] at hnt
      have hnt' : F1 = noteE W F e := hnt
      subst hnt'
      simp (disch := omega) only [go_sem, e0, e1, e6, e7, hq, hw]
      exact (S3.drop 1).perm (.swap _ _ _)
  · have z1 := z.1
    have z2 := z.2.1
    have S2 := z.2.2
    clear z
    subst z1
    have hn : noteE W F e = F := by unfold noteE; rw [z2]; rfl
    rw [hn]
    simp (disch := omega) only [go_sem]
    refine loopP_intro (fun m s => s.e 6 = .nils ∧ s.e 7 = .int .i64 0 ∧ s.h = h1) 0 ⟨by simp (disch := omega) only [go_sem], by simp (disch := omega) only [go_sem], rfl⟩ ?_
    rintro m e' hp ⟨e6, e7, rfl⟩
    simp only at e6 e7
    simp (disch := omega) only [go_sem, e6, e7]
    exact S2
theorem Sep.sw {h : Heap} {a b : It} {L : List It} (S : Sep h (a :: b :: L)) : Sep h (b :: a :: L) := S.perm (.swap _ _ _)
theorem Sep.to3 {h : Heap} {a b c : It} {L : List It} (S : Sep h (a :: b :: c :: L)) : Sep h (b :: c :: a :: L) := S.perm ((List.Perm.swap _ _ _).trans (.cons _ (.swap _ _ _)))
theorem Sep.sw2 {h : Heap} {a b c : It} {L : List It} (S : Sep h (a :: b :: c :: L)) : Sep h (a :: c :: b :: L) := S.perm (.cons _ (.swap _ _ _))
theorem take_mid {xs : List Stmt} {k : Nat} {s : Stmt} {a v : List Stmt} (h : xs.drop k = s :: (a ++ v)) : (xs.take (k + 1 + a.length)).drop (k + 1) = a := by
  rw [List.drop_take, show k + 1 + a.length - (k + 1) = a.length by omega, ← List.drop_drop, h, List.drop_succ_cons, List.drop_zero, List.take_left]
def PassS (t : Tr) : Prop := ∀ (xs : List Stmt) (a : Nat) (ia ib : Int) (v : List Stmt) (w f : Nat) (W F : List Bool) (h : Heap) (L : List It), ia = a → ib = (a : Int) + t.flat.length → t.ok = true → xs.drop a = t.flat ++ v → xs.length ≤ 24 → W.length = 8 → F.length = 8 → Sep h (.k w (W.map encBo) :: .k f (F.map encBo) :: L) →
    C Tryz.prog 244 [.lst 6 (xs.map encStmt), .int .i64 ia, .int .i64 ib, .own w 1 0 8 8, .own f 1 0 8 8] h (fun r h' => r = .tup [] ∧ Sep h' (.k w ((passT t (W, F)).1.map encBo) :: .k f ((passT t (W, F)).2.map encBo) :: L))
theorem passS_step (sz : Nat) (ih : ∀ b : Tr, b.size < sz → PassS b) (t : Tr) (hsz : t.size ≤ sz) : PassS t := by
    intro xs a ia ib v w f W F h L hia hib ht hdr hl hW hF S
    subst hia hib
    have hb : a + t.flat.length ≤ xs.length ∨ t.flat.length = 0 := by
      have := congrArg List.length hdr
      simp only [List.length_drop, List.length_append] at this
      omega
    refine C.by mixed (cfn_ok Tryz.func244 ok244) rfl ?_
    simp (disch := omega) only [s244, go_sem]
    refine loopP_intro (fun m s => ∃ (k : Nat) (r : Tr) (W1 F1 : List Bool), (k : Int) ≤ (a : Int) + t.flat.length ∧ m = a + t.flat.length - k ∧ k + r.flat.length = a + t.flat.length ∧ r.ok = true ∧ r.size ≤ sz ∧ xs.drop k = r.flat ++ v ∧ W1.length = 8 ∧ F1.length = 8 ∧ passT r (W1, F1) = passT t (W, F) ∧ s.e 0 = .lst 6 (xs.map encStmt) ∧ s.e 2 = .int .i64 ((a : Int) + t.flat.length) ∧ s.e 3 = .own w 1 0 8 8 ∧ s.e 4 = .own f 1 0 8 8 ∧ s.e 10 = .int .i64 k ∧ Sep s.h (.k w (W1.map encBo) :: .k f (F1.map encBo) :: L)) t.flat.length ⟨a, t, W, F, by omega, by omega, rfl, ht, hsz, hdr, hW, hF, rfl, by simp (disch := omega) only [go_sem], by simp (disch := omega) only [go_sem], by simp (disch := omega) only [go_sem], by simp (disch := omega) only [go_sem], by simp (disch := omega) only [go_sem], S⟩ ?_
    rintro m e hp ⟨k, r, W1, F1, hk, rfl, hkr, hr, hrs, hdk, hW1, hF1, hps, e0, e2, e3, e4, e10, S⟩
    simp only at e0 e2 e3 e4 e10 S
    simp (disch := omega) only [go_sem, e0, e2, e3, e4, e10]
    refine condP_dec (fun hlt => ?_) (fun hlt => ?_)
    · rcases r with _ | ⟨s, r⟩ | ⟨s, b, r⟩
      · simp [Tr.flat] at hkr; omega
      · obtain ⟨hs, hkk, hr'⟩ := Tr.one_ok hr
        simp only [Tr.flat, List.cons_append] at hdk
        simp only [Tr.flat, List.length_cons] at hkr
        simp only [Tr.size] at hrs
        refine Exists.elim (drop_head hdk) fun hk0 z => ?_
        have hks := z.1
        have hd1 := z.2
        have hg : ∀ h : k < xs.length, xs[k] = s := fun _ => hks
        have nxt : ∀ (e' : Nat → V) (hh : Heap) (W2 F2 : List Bool), W2.length = 8 → F2.length = 8 → passT r (W2, F2) = passT t (W, F) → e' 0 = .lst 6 (xs.map encStmt) → e' 2 = .int .i64 ((a : Int) + t.flat.length) → e' 3 = .own w 1 0 8 8 → e' 4 = .own f 1 0 8 8 → e' 10 = .int .i64 ((k : Int) + 1) → Sep hh (.k w (W2.map encBo) :: .k f (F2.map encBo) :: L) → @nextP (a + t.flat.length - k) ⟨e', hh⟩ ⟨fun m s => ∃ (k : Nat) (r : Tr) (W1 F1 : List Bool), (k : Int) ≤ (a : Int) + t.flat.length ∧ m = a + t.flat.length - k ∧ k + r.flat.length = a + t.flat.length ∧ r.ok = true ∧ r.size ≤ sz ∧ xs.drop k = r.flat ++ v ∧ W1.length = 8 ∧ F1.length = 8 ∧ passT r (W1, F1) = passT t (W, F) ∧ s.e 0 = .lst 6 (xs.map encStmt) ∧ s.e 2 = .int .i64 ((a : Int) + t.flat.length) ∧ s.e 3 = .own w 1 0 8 8 ∧ s.e 4 = .own f 1 0 8 8 ∧ s.e 10 = .int .i64 k ∧ Sep s.h (.k w (W1.map encBo) :: .k f (F1.map encBo) :: L)⟩ := fun e' hh W2 F2 a1 a2 a3 a4 a5 a6 a7 a8 a9 =>
          nextP_intro (a + t.flat.length - (k + 1)) (by omega) ⟨k + 1, r, W2, F2, by omega, rfl, by omega, hr', by omega, hd1, a1, a2, a3, a4, a5, a6, a7, a8, a9⟩
        have hz := storeBox (h := hp) (z := [V.int .i64 0, .int .i64 0, .int .i64 0, .int .i64 0, .int .i64 0, .int .i64 0]) (x := .agg (encStmt s)) (sz := 6) rfl rfl
        simp only [cells_agg, encStmt] at hz
        have S1 := S.newK [encStmt s]
        simp only [encStmt] at S1
        have hbx := S1.blk 0 rfl
        have hpe : passT (.one s r) (W1, F1) = passT r (if hasVar s.kind = true then W1.set s.var.toNat true else W1, if hasExpr s.kind = true then noteE W1 F1 s.e else F1) := rfl
        rw [hpe] at hps
        simp (disch := omega) only [go_sem, e0, e2, e3, e4, e10, hg, hz, hbx, encStmt]
        rcases hkk with hk1 | hk1 | hk1
        · have hv : hasVar s.kind = true := by simp [hasVar, hk1]
          have hx : hasExpr s.kind = true := by simp [hasExpr, hk1]
          rw [if_pos hv, if_pos hx] at hps
          have hsv := stmt_var hs hv
          simp (disch := omega) only [go_sem, e0, e2, e3, e4, e10, hg, hz, hbx]
          refine C.go (note_s w f W1 F1 s.e hW1 hF1 (stmt_expr hs hx) (S1.perm ((List.Perm.swap _ _ _).trans (.cons _ (.swap _ _ _))))) ?_
          rintro r0 h2 ⟨rfl, S2⟩
          have hb2 := S2.blk 2 rfl
          have st := store_bo (S2.blk 0 rfl) hW1 (show s.var.toNat < 8 by omega)
          simp (disch := omega) only [go_sem, e0, e2, e3, e4, e10, hb2, st]
          exact nxt _ _ _ _ (by simpa using hW1) (by rw [noteE_len, hF1]) hps (by simp (disch := omega) only [go_sem, e0, e2, e3, e4, e10, hb2, st]) (by simp (disch := omega) only [go_sem, e0, e2, e3, e4, e10, hb2, st]) (by simp (disch := omega) only [go_sem, e0, e2, e3, e4, e10, hb2, st]) (by simp (disch := omega) only [go_sem, e0, e2, e3, e4, e10, hb2, st]) (by simp (disch := omega) only [go_sem, e0, e2, e3, e4, e10, hb2, st]) ((S2.setK _).drop 2)
        · have hv : hasVar s.kind = true := by simp [hasVar, hk1]
          have hx : hasExpr s.kind = false := by simp [hasExpr, hk1]
          rw [if_pos hv, if_neg (by simp [hx])] at hps
          have hsv := stmt_var hs hv
          have S2 := S1.perm ((List.Perm.swap _ _ _).trans (.cons _ (.swap _ _ _)))
          have st := store_bo (S2.blk 0 rfl) hW1 (show s.var.toNat < 8 by omega)
          simp (disch := omega) only [go_sem, e0, e2, e3, e4, e10, hg, hz, hbx, st]
          exact nxt _ _ _ _ (by simpa using hW1) hF1 hps (by simp (disch := omega) only [go_sem, e0, e2, e3, e4, e10, hg, hz, hbx, st]) (by simp (disch := omega) only [go_sem, e0, e2, e3, e4, e10, hg, hz, hbx, st]) (by simp (disch := omega) only [go_sem, e0, e2, e3, e4, e10, hg, hz, hbx, st]) (by simp (disch := omega) only [go_sem, e0, e2, e3, e4, e10, hg, hz, hbx, st]) (by simp (disch := omega) only [go_sem, e0, e2, e3, e4, e10, hg, hz, hbx, st]) ((S2.setK _).drop 2)
        · have hv : hasVar s.kind = false := by simp [hasVar, hk1]
          have hx : hasExpr s.kind = true := by simp [hasExpr, hk1]
          rw [if_neg (by simp [hv]), if_pos hx] at hps
          simp (disch := omega) only [go_sem, e0, e2, e3, e4, e10, hg, hz, hbx]
          refine C.go (note_s w f W1 F1 s.e hW1 hF1 (stmt_expr hs hx) (S1.perm ((List.Perm.swap _ _ _).trans (.cons _ (.swap _ _ _))))) ?_
          rintro r0 h2 ⟨rfl, S2⟩
          simp (disch := omega) only [go_sem, e0, e2, e3, e4, e10]
          exact nxt _ _ _ _ hW1 (by rw [noteE_len, hF1]) hps (by simp (disch := omega) only [go_sem, e0, e2, e3, e4, e10]) (by simp (disch := omega) only [go_sem, e0, e2, e3, e4, e10]) (by simp (disch := omega) only [go_sem, e0, e2, e3, e4, e10]) (by simp (disch := omega) only [go_sem, e0, e2, e3, e4, e10]) (by simp (disch := omega) only [go_sem, e0, e2, e3, e4, e10]) (S2.drop 2)
      · obtain ⟨hs, hkk, hb', hr'⟩ := Tr.grp_ok hr
        simp only [Tr.flat, List.cons_append, List.append_assoc] at hdk
        simp only [Tr.flat, List.length_cons, List.length_append] at hkr
        simp only [Tr.size] at hrs
        refine Exists.elim (drop_head hdk) fun hk0 z => ?_
        have hks := z.1
        have hd1 := z.2
        have hd2 := drop_skip hd1
        refine Exists.elim (drop_head hd2) fun hk3 z => ?_
        have hd4 := z.2
        have hg : ∀ h : k < xs.length, xs[k] = s := fun _ => hks
        have hen : endM 0 k (xs.drop k) = (k : Int) + 1 + b.flat.length := by rw [hdk]; exact endM_grp k _ hkk hb'
        have hz := storeBox (h := hp) (z := [V.int .i64 0, .int .i64 0, .int .i64 0, .int .i64 0, .int .i64 0, .int .i64 0]) (x := .agg (encStmt s)) (sz := 6) rfl rfl
        simp only [cells_agg, encStmt] at hz
        have S1 := S.newK [encStmt s]
        simp only [encStmt] at S1
        have hbx := S1.blk 0 rfl
        have S1' := S1.to3
        have S1'' := S1'.drop 2
        have nxt : ∀ (e' : Nat → V) (hh : Heap) (W2 F2 : List Bool), W2.length = 8 → F2.length = 8 → passT r (W2, F2) = passT t (W, F) → e' 0 = .lst 6 (xs.map encStmt) → e' 2 = .int .i64 ((a : Int) + t.flat.length) → e' 3 = .own w 1 0 8 8 → e' 4 = .own f 1 0 8 8 → e' 10 = .int .i64 ((k : Int) + 1 + b.flat.length + 1) → Sep hh (.k w (W2.map encBo) :: .k f (F2.map encBo) :: L) → @nextP (a + t.flat.length - k) ⟨e', hh⟩ ⟨fun m s => ∃ (k : Nat) (r : Tr) (W1 F1 : List Bool), (k : Int) ≤ (a : Int) + t.flat.length ∧ m = a + t.flat.length - k ∧ k + r.flat.length = a + t.flat.length ∧ r.ok = true ∧ r.size ≤ sz ∧ xs.drop k = r.flat ++ v ∧ W1.length = 8 ∧ F1.length = 8 ∧ passT r (W1, F1) = passT t (W, F) ∧ s.e 0 = .lst 6 (xs.map encStmt) ∧ s.e 2 = .int .i64 ((a : Int) + t.flat.length) ∧ s.e 3 = .own w 1 0 8 8 ∧ s.e 4 = .own f 1 0 8 8 ∧ s.e 10 = .int .i64 k ∧ Sep s.h (.k w (W1.map encBo) :: .k f (F1.map encBo) :: L)⟩ := fun e' hh W2 F2 a1 a2 a3 a4 a5 a6 a7 a8 a9 =>
          nextP_intro (a + t.flat.length - (k + 1 + b.flat.length + 1)) (by omega) ⟨k + 1 + b.flat.length + 1, r, W2, F2, by omega, rfl, by omega, hr', by omega, hd4, a1, a2, a3, a4, a5, a6, a7, by show e' 10 = _; rw [a8]; exact congrArg (V.int .i64) (by omega), a9⟩
        have hk1' : (k : Int) + 1 = ((k + 1 : Nat) : Int) := by omega
        have hk2' : (k : Int) + 1 + b.flat.length = ((k + 1 : Nat) : Int) + b.flat.length := by omega
        simp (disch := omega) only [go_sem, e0, e2, e3, e4, e10, hg, hz, hbx, encStmt]
        rcases hkk with hk1 | hk1
        · have hx : hasExpr s.kind = true := by simp [hasExpr, hk1]
          have hpe : passT (.grp s b r) (W1, F1) = passT r (W1, (passT b (W1, noteE W1 F1 s.e)).2) := by simp [passT, hk1]
          rw [hpe] at hps
          simp (disch := omega) only [go_sem, e0, e2, e3, e4, e10, hg, hz, hbx]
          refine C.go (note_s w f W1 F1 s.e hW1 hF1 (stmt_expr hs hx) S1') ?_
          rintro r0 h2 ⟨rfl, S2⟩
          simp (disch := omega) only [go_sem, e0, e2, e3, e4, e10]
          refine CP.go (end_s xs k (by omega) (by omega)) rfl (refs_args _ _ _) ?_
          have hWl : (W1.map encBo).length = 8 := by simpa using hW1
          have ha := appendH_n (sz := 1) (bytes := 1) (h := h2 ++ [[]]) (id := h2.length) (n := 0) (m := 8) (b := []) (xs := W1.map encBo) (x := .own w 1 0 8 8) (at_app0 _ _) rfl (elemsOf_n (heap_app (S2.blk 0 rfl)) hWl) hWl (by omega)
          rw [set_app0] at ha
          have S3 := ((S2.drop 2).newK (W1.map encBo)).sw2
          simp (disch := omega) only [go_sem, e0, e2, e3, e4, e10, hen, ha]
          refine C.go (ih b (by omega) xs (k + 1) _ _ (endS :: (r.flat ++ v)) h2.length f W1 (noteE W1 F1 s.e) _ _ hk1' hk2' hb' hd1 hl hW1 (by rw [noteE_len, hF1]) S3) ?_
          rintro r0 h3 ⟨rfl, S4⟩
          have hpl := passT_len b W1 (noteE W1 F1 s.e)
          rw [noteE_len] at hpl
          simp (disch := omega) only [go_sem, e0, e2, e3, e4, e10]
          exact nxt _ _ W1 _ hW1 (by omega) hps (by simp (disch := omega) only [go_sem, e0, e2, e3, e4, e10]) (by simp (disch := omega) only [go_sem, e0, e2, e3, e4, e10]) (by simp (disch := omega) only [go_sem, e0, e2, e3, e4, e10]) (by simp (disch := omega) only [go_sem, e0, e2, e3, e4, e10]) (by simp (disch := omega) only [go_sem, e0, e2, e3, e4, e10]) S4.drop1.sw
        · have hpe : passT (.grp s b r) (W1, F1) = passT r (passT b (W1, F1)) := by simp [passT, hk1]
          rw [hpe] at hps
          simp (disch := omega) only [go_sem, e0, e2, e3, e4, e10, hg, hz, hbx]
          refine CP.go (end_s xs k (by omega) (by omega)) rfl (refs_args _ _ _) ?_
          simp (disch := omega) only [go_sem, e0, e2, e3, e4, e10, hen]
          refine C.go (ih b (by omega) xs (k + 1) _ _ (endS :: (r.flat ++ v)) w f W1 F1 _ _ hk1' hk2' hb' hd1 hl hW1 hF1 S1'') ?_
          rintro r0 h3 ⟨rfl, S4⟩
          have hpl := passT_len b W1 F1
          simp (disch := omega) only [go_sem, e0, e2, e3, e4, e10]
          exact nxt _ _ _ _ (by omega) (by omega) hps (by simp (disch := omega) only [go_sem, e0, e2, e3, e4, e10]) (by simp (disch := omega) only [go_sem, e0, e2, e3, e4, e10]) (by simp (disch := omega) only [go_sem, e0, e2, e3, e4, e10]) (by simp (disch := omega) only [go_sem, e0, e2, e3, e4, e10]) (by simp (disch := omega) only [go_sem, e0, e2, e3, e4, e10]) S4
    · have hr0 : r = .nil := by
        cases r with
        | nil => rfl
        | one s r => simp [Tr.flat] at hkr; omega
        | grp s a r => simp [Tr.flat] at hkr; omega
      subst hr0
      have hpe : passT t (W, F) = (W1, F1) := hps.symm
      rw [hpe]
      simp (disch := omega) only [go_sem, e0, e2, e3, e4, e10]
      exact S
theorem passS_c (t : Tr) : PassS t := by
  induction hn : t.size using Nat.strongRecOn generalizing t with
  | ind n ih => exact passS_step n (fun b hb => ih b.size hb b rfl) t (by omega)
theorem first_s (t : Tr) (xs : List Stmt) (e : Expr) (ht : t.ok = true) (hf : xs = t.flat) (hb : blockOk xs = true) (he : exprOk e = true) : F Tryz.prog 220 [.agg [.lst 6 (xs.map encStmt), .int .i64 e.op, .int .i64 e.a, .int .i64 e.b]] (.lst 1 ((firstT t e).map encI)) := by
  have hl := block_len hb
  refine C.by mixed (cfn_ok Tryz.func220 ok220) rfl ?_
  simp (disch := omega) only [s220, go_sem]
  refine CP.go (blockOk_s xs (by omega)) rfl (refs_arg _ _) ?_
  simp (disch := omega) only [go_sem, hb]
  refine CP.go (exprOk_s e) rfl rfl ?_
  simp (disch := omega) only [go_sem, he, hb]
  have S0 : Sep [[[V.lst 6 (xs.map encStmt), .int .i64 e.op, .int .i64 e.a, .int .i64 e.b]], zero8.map encBo, zero8.map encBo] [.k 2 (zero8.map encBo), .k 1 (zero8.map encBo), .k 0 [[V.lst 6 (xs.map encStmt), .int .i64 e.op, .int .i64 e.a, .int .i64 e.b]]] := ⟨[2, 1, 0], by simp, [2], [1, 0], rfl, ⟨rfl, rfl⟩, [1], [0], rfl, ⟨rfl, rfl⟩, [0], [], rfl, ⟨rfl, rfl⟩, rfl⟩
  refine C.go (passS_c t xs 0 0 xs.length [] 2 1 zero8 zero8 _ _ rfl (by rw [hf]; simp) ht (by simp [hf]) hl rfl rfl S0) ?_
  rintro r h1 ⟨rfl, S1⟩
  have hb0 := S1.blk 2 rfl
  have hpl := passT_len t zero8 zero8
  have h8 : zero8.length = 8 := rfl
  simp (disch := omega) only [go_sem, hb0]
  refine C.go (note_s 2 1 _ _ e (by omega) (by omega) he S1) ?_
  rintro r h2 ⟨rfl, S2⟩
  have hnl : ((noteE (passT t (zero8, zero8)).1 (passT t (zero8, zero8)).2 e).map encBo).length = 8 := by rw [List.length_map, noteE_len]; omega
  simp (disch := omega) only [go_sem, hb0]
  refine S2.goLst (listB_s _ (by simpa using hnl)) (.cons (Snap.flatN (S2.blk 1 rfl) hnl (flat_bo _)) (.nil _)) fun x h' X S3 ro rn rc => ?_
  simp (disch := omega) only [go_sem, rn]
  exact S3.ret
end Go.Av
