import Derived.Test.YtpjcclgpkicadaaJ6Store
namespace Go.Av
open Go.Proofs Go.RowKit
set_option linter.unusedVariables false
set_option linter.unusedSimpArgs false
set_option maxRecDepth 100000
set_option maxHeartbeats 4000000
theorem refs_store (n : Nat) (s : Store) (hs : List Int) : V.refsL n [.agg (encStore s), .lst 1 (hs.map encI)] = true := by simp [V.refsL, V.refs, encStore, refsLL_map encI (fun _ => rfl) hs]
theorem harv_at {hs : List Int} {k : Nat} (h : hs.all isHarvest = true) (hk : k < hs.length) : 0 ≤ hs[k] ∧ hs[k] ≤ 1000 := by
  have := List.all_eq_true.1 h hs[k] (List.getElem_mem hk)
  simpa [isHarvest, within] using this
/-- How far the boots' energies are told. -/
def Part (s : Store) (hs : List Int) (k : Nat) (t : Store) (cs : List Int) : Prop := StoreIn t ∧ cs.length ≤ k ∧ cs ++ enM t (hs.drop k) = enM s hs
theorem part_add {s t : Store} {hs cs : List Int} {k : Nat} (hk : k < hs.length) (h : Part s hs k t cs) (hc : t.on ≤ (tickM t hs[k]).charge) : Part s hs (k + 1) (emptied (tickM t hs[k])) (cs ++ [(tickM t hs[k]).charge]) := by
  obtain ⟨h1, h2, h3⟩ := h
  rw [enM_drop hk, if_pos hc] at h3
  exact ⟨emptiedIn (tickIn _ h1), by simp; omega, by simpa using h3⟩
theorem part_go {s t : Store} {hs cs : List Int} {k : Nat} (hk : k < hs.length) (h : Part s hs k t cs) (hc : ¬ t.on ≤ (tickM t hs[k]).charge) : Part s hs (k + 1) (tickM t hs[k]) cs := by
  obtain ⟨h1, h2, h3⟩ := h
  rw [enM_drop hk, if_neg hc] at h3
  exact ⟨tickIn _ h1, by omega, h3⟩
theorem part_end {s t : Store} {hs cs : List Int} (h : Part s hs hs.length t cs) : cs = enM s hs := by
  have := h.2.2
  rw [List.drop_length] at this
  simpa [enM] using this
theorem energies_s (s : Store) (hs : List Int) (hl : hs.length ≤ 1048576) (h : Heap) : C Try.prog 110 [.agg (encStore s), .lst 1 (hs.map encI)] h (fun r h' => ∃ (es : List Int) (id : Nat), r = .tup [.own id 1 0 es.length es.length, .bool (harvOk s hs)] ∧ h'[id]? = some (es.map encI) ∧ (harvOk s hs = true → es = enM s hs) ∧ es.length ≤ hs.length ∧ h.length ≤ id ∧ Ext h h') := by
  refine C.by mixed (cfn_ok Try.func110 ok110) rfl ?_
  simp (disch := omega) only [s110, go_sem, Nat.reduceEqDiff, Nat.reduceAdd, Nat.reduceSub, Nat.reduceLeDiff, Nat.reduceLT, Nat.reduceMul, Nat.reduceBEq, Int.reduceEq, Int.reduceLT, Int.reduceLE, Int.reduceNeg, Int.reduceToNat, reduceIte, encStore]
  refine CP.go (harvOk_s s hs (by omega)) rfl (refs_store _ _ _) ?_
  simp (disch := omega) only [go_sem, Nat.reduceEqDiff, Nat.reduceAdd, Nat.reduceSub, Nat.reduceLeDiff, Nat.reduceLT, Nat.reduceMul, Nat.reduceBEq, Int.reduceEq, Int.reduceLT, Int.reduceLE, Int.reduceNeg, Int.reduceToNat, reduceIte]
  refine condP_split (fun ho => ?_) (fun ho => ?_)
  · have hs1 : StoreIn s := by
      simp only [harvOk, Bool.and_eq_true] at ho; exact storeIn ho.1.1
    have hall : hs.all isHarvest = true := by
      simp only [harvOk, Bool.and_eq_true] at ho; exact ho.2
    simp (disch := omega) only [go_sem, Nat.reduceEqDiff, Nat.reduceAdd, Nat.reduceSub, Nat.reduceLeDiff, Nat.reduceLT, Nat.reduceMul, Nat.reduceBEq, Int.reduceEq, Int.reduceLT, Int.reduceLE, Int.reduceNeg, Int.reduceToNat, reduceIte]
    refine loopP_intro (fun m q => ∃ (k : Nat), k ≤ hs.length ∧ m = hs.length - k ∧ q.e 1 = .lst 1 (hs.map encI) ∧ q.e 2 = .ptr h.length 1 0 0 ∧ q.e 7 = .int .i64 k ∧ ∃ (t : Store) (cs : List Int) (l : Nat), q.e 6 = .own l 1 0 cs.length cs.length ∧ q.h[l]? = some (cs.map encI) ∧ q.h[h.length]? = some [encStore t] ∧ Part s hs k t cs ∧ h.length < l ∧ Ext h q.h) hs.length ⟨0, by omega, by omega, by simp (disch := omega) only [go_sem, Nat.reduceEqDiff, Nat.reduceAdd, Nat.reduceSub, Nat.reduceLeDiff, Nat.reduceLT, Nat.reduceMul, Nat.reduceBEq, Int.reduceEq, Int.reduceLT, Int.reduceLE, Int.reduceNeg, Int.reduceToNat, reduceIte], by simp (disch := omega) only [go_sem, Nat.reduceEqDiff, Nat.reduceAdd, Nat.reduceSub, Nat.reduceLeDiff, Nat.reduceLT, Nat.reduceMul, Nat.reduceBEq, Int.reduceEq, Int.reduceLT, Int.reduceLE, Int.reduceNeg, Int.reduceToNat, reduceIte], by simp (disch := omega) only [go_sem, Nat.reduceEqDiff, Nat.reduceAdd, Nat.reduceSub, Nat.reduceLeDiff, Nat.reduceLT, Nat.reduceMul, Nat.reduceBEq, Int.reduceEq, Int.reduceLT, Int.reduceLE, Int.reduceNeg, Int.reduceToNat, reduceIte]; rfl, s, [], h.length + 1, by simp (disch := omega) only [go_sem, Nat.reduceEqDiff, Nat.reduceAdd, Nat.reduceSub, Nat.reduceLeDiff, Nat.reduceLT, Nat.reduceMul, Nat.reduceBEq, Int.reduceEq, Int.reduceLT, Int.reduceLE, Int.reduceNeg, Int.reduceToNat, reduceIte], by simp (disch := omega) only [go_sem, Nat.reduceEqDiff, Nat.reduceAdd, Nat.reduceSub, Nat.reduceLeDiff, Nat.reduceLT, Nat.reduceMul, Nat.reduceBEq, Int.reduceEq, Int.reduceLT, Int.reduceLE, Int.reduceNeg, Int.reduceToNat, reduceIte], by simp (disch := omega) only [go_sem, Nat.reduceEqDiff, Nat.reduceAdd, Nat.reduceSub, Nat.reduceLeDiff, Nat.reduceLT, Nat.reduceMul, Nat.reduceBEq, Int.reduceEq, Int.reduceLT, Int.reduceLE, Int.reduceNeg, Int.reduceToNat, reduceIte]; rfl, ⟨hs1, by simp, rfl⟩, by omega, Ext.app _ _⟩ ?_
    rintro m e hp ⟨k, hk, rfl, e1, e2, e7, t, cs, l, e6, hl1, hb1, hpt, hlh, hx⟩
    simp only at e1 e2 e7 e6 hl1 hb1 hx
    simp (disch := omega) only [go_sem, Nat.reduceEqDiff, Nat.reduceAdd, Nat.reduceSub, Nat.reduceLeDiff, Nat.reduceLT, Nat.reduceMul, Nat.reduceBEq, Int.reduceEq, Int.reduceLT, Int.reduceLE, Int.reduceNeg, Int.reduceToNat, reduceIte, e1, e2, e7, e6, hb1, encI, encStore]
    refine condP_dec (fun hlt => ?_) (fun hlt => ?_)
    · have hlt' : k < hs.length := by omega
      have hn := harv_at hall hlt'
      have hb2 : ∀ c, (hp.set h.length c)[h.length]? = some c := fun c => heap_set _ hb1
      have hl2 : ∀ c, (hp.set h.length c)[l]? = some (cs.map encI) := fun c => heap_set_ne _ (by omega) hl1
      simp (disch := omega) only [go_sem, Nat.reduceEqDiff, Nat.reduceAdd, Nat.reduceSub, Nat.reduceLeDiff, Nat.reduceLT, Nat.reduceMul, Nat.reduceBEq, Int.reduceEq, Int.reduceLT, Int.reduceLE, Int.reduceNeg, Int.reduceToNat, reduceIte, e1, e2, e7, e6, hb1, hb2, encI, encStore, storeH, storeB, splice]
      refine CP.go (tick_s t hs[k] hpt.1 hn) rfl rfl ?_
      have on_eq : (tickM t hs[k]).on = t.on := rfl
      simp (disch := omega) only [go_sem, Nat.reduceEqDiff, Nat.reduceAdd, Nat.reduceSub, Nat.reduceLeDiff, Nat.reduceLT, Nat.reduceMul, Nat.reduceBEq, Int.reduceEq, Int.reduceLT, Int.reduceLE, Int.reduceNeg, Int.reduceToNat, reduceIte, on_eq, e1, e2, e7, e6, hb1, hb2, encI, encStore, storeH, storeB, splice]
      refine condP_dec (fun hc => ?_) (fun hc => ?_)
      · simp (disch := omega) only [go_sem, Nat.reduceEqDiff, Nat.reduceAdd, Nat.reduceSub, Nat.reduceLeDiff, Nat.reduceLT, Nat.reduceMul, Nat.reduceBEq, Int.reduceEq, Int.reduceLT, Int.reduceLE, Int.reduceNeg, Int.reduceToNat, reduceIte, e1, e2, e7, e6, hb1, hb2, encI, encStore, storeH, storeB, splice]
        rw [append1 (hl2 _) (by simp) (by have := hpt.2.1; omega)]
        have A1 : ∀ b x d, ((hp.set h.length b ++ x).set l d)[h.length]? = some b := fun b x d => heap_set_ne _ (by omega) (heap_app (hb2 b))
        simp (disch := omega) only [go_sem, Nat.reduceEqDiff, Nat.reduceAdd, Nat.reduceSub, Nat.reduceLeDiff, Nat.reduceLT, Nat.reduceMul, Nat.reduceBEq, Int.reduceEq, Int.reduceLT, Int.reduceLE, Int.reduceNeg, Int.reduceToNat, reduceIte, e1, e2, e7, e6, hb1, hb2, A1, encI, encStore, storeH, storeB, splice]
        refine nextP_intro (hs.length - (k + 1)) (by omega) ⟨k + 1, by omega, rfl, ?_, ?_, ?_, emptied (tickM t hs[k]), cs ++ [(tickM t hs[k]).charge], l, ?_, ?_, ?_, part_add hlt' hpt hc, hlh, ?_⟩
        · simp (disch := omega) only [go_sem, Nat.reduceEqDiff, Nat.reduceAdd, Nat.reduceSub, Nat.reduceLeDiff, Nat.reduceLT, Nat.reduceMul, Nat.reduceBEq, Int.reduceEq, Int.reduceLT, Int.reduceLE, Int.reduceNeg, Int.reduceToNat, reduceIte, e1, e2, e7, e6, hb1, hb2, A1, encI, encStore, storeH, storeB, splice]
        · simp (disch := omega) only [go_sem, Nat.reduceEqDiff, Nat.reduceAdd, Nat.reduceSub, Nat.reduceLeDiff, Nat.reduceLT, Nat.reduceMul, Nat.reduceBEq, Int.reduceEq, Int.reduceLT, Int.reduceLE, Int.reduceNeg, Int.reduceToNat, reduceIte, e1, e2, e7, e6, hb1, hb2, A1, encI, encStore, storeH, storeB, splice]
        · simp (disch := omega) only [go_sem, Nat.reduceEqDiff, Nat.reduceAdd, Nat.reduceSub, Nat.reduceLeDiff, Nat.reduceLT, Nat.reduceMul, Nat.reduceBEq, Int.reduceEq, Int.reduceLT, Int.reduceLE, Int.reduceNeg, Int.reduceToNat, reduceIte, e1, e2, e7, e6, hb1, hb2, A1, encI, encStore, storeH, storeB, splice]; rfl
        · simp (disch := omega) only [go_sem, Nat.reduceEqDiff, Nat.reduceAdd, Nat.reduceSub, Nat.reduceLeDiff, Nat.reduceLT, Nat.reduceMul, Nat.reduceBEq, Int.reduceEq, Int.reduceLT, Int.reduceLE, Int.reduceNeg, Int.reduceToNat, reduceIte, e1, e2, e7, e6, hb1, hb2, A1, encI, encStore, storeH, storeB, splice] <;> simp
        · rw [List.map_append]; exact heap_set_ne _ (by omega) (heap_set _ (heap_app (hl2 _)))
        · exact heap_set _ (A1 _ _ _)
        · exact (((hx.setNew _ (Nat.le_refl _)).appT _).setNew _ (by omega)).setNew _ (Nat.le_refl _)
      · simp (disch := omega) only [go_sem, Nat.reduceEqDiff, Nat.reduceAdd, Nat.reduceSub, Nat.reduceLeDiff, Nat.reduceLT, Nat.reduceMul, Nat.reduceBEq, Int.reduceEq, Int.reduceLT, Int.reduceLE, Int.reduceNeg, Int.reduceToNat, reduceIte, e1, e2, e7, e6, hb1, hb2, encI, encStore, storeH, storeB, splice]
        refine nextP_intro (hs.length - (k + 1)) (by omega) ⟨k + 1, by omega, rfl, ?_, ?_, ?_, tickM t hs[k], cs, l, ?_, hl2 _, hb2 _, part_go hlt' hpt hc, hlh, hx.setNew _ (Nat.le_refl _)⟩
        · simp (disch := omega) only [go_sem, Nat.reduceEqDiff, Nat.reduceAdd, Nat.reduceSub, Nat.reduceLeDiff, Nat.reduceLT, Nat.reduceMul, Nat.reduceBEq, Int.reduceEq, Int.reduceLT, Int.reduceLE, Int.reduceNeg, Int.reduceToNat, reduceIte, e1, e2, e7, e6, hb1, hb2, encI, encStore, storeH, storeB, splice]
        · simp (disch := omega) only [go_sem, Nat.reduceEqDiff, Nat.reduceAdd, Nat.reduceSub, Nat.reduceLeDiff, Nat.reduceLT, Nat.reduceMul, Nat.reduceBEq, Int.reduceEq, Int.reduceLT, Int.reduceLE, Int.reduceNeg, Int.reduceToNat, reduceIte, e1, e2, e7, e6, hb1, hb2, encI, encStore, storeH, storeB, splice]
        · simp (disch := omega) only [go_sem, Nat.reduceEqDiff, Nat.reduceAdd, Nat.reduceSub, Nat.reduceLeDiff, Nat.reduceLT, Nat.reduceMul, Nat.reduceBEq, Int.reduceEq, Int.reduceLT, Int.reduceLE, Int.reduceNeg, Int.reduceToNat, reduceIte, e1, e2, e7, e6, hb1, hb2, encI, encStore, storeH, storeB, splice]; rfl
        · simp (disch := omega) only [go_sem, Nat.reduceEqDiff, Nat.reduceAdd, Nat.reduceSub, Nat.reduceLeDiff, Nat.reduceLT, Nat.reduceMul, Nat.reduceBEq, Int.reduceEq, Int.reduceLT, Int.reduceLE, Int.reduceNeg, Int.reduceToNat, reduceIte, e1, e2, e7, e6, hb1, hb2, encI, encStore, storeH, storeB, splice]
    · simp (disch := omega) only [go_sem, Nat.reduceEqDiff, Nat.reduceAdd, Nat.reduceSub, Nat.reduceLeDiff, Nat.reduceLT, Nat.reduceMul, Nat.reduceBEq, Int.reduceEq, Int.reduceLT, Int.reduceLE, Int.reduceNeg, Int.reduceToNat, reduceIte, e1, e2, e7, e6, hb1, encI, encStore]
      have : k = hs.length := by omega
      subst this
      exact ⟨cs, l, by rw [ho], hl1, fun _ => part_end hpt, hpt.2.1, by omega, hx⟩
  · simp (disch := omega) only [go_sem, Nat.reduceEqDiff, Nat.reduceAdd, Nat.reduceSub, Nat.reduceLeDiff, Nat.reduceLT, Nat.reduceMul, Nat.reduceBEq, Int.reduceEq, Int.reduceLT, Int.reduceLE, Int.reduceNeg, Int.reduceToNat, reduceIte]
    exact ⟨[], h.length + 1, by rw [ho]; rfl, at_app h [[encStore s], []] 1, fun c => by simp [c] at ho, by simp, by omega, Ext.app _ _⟩
theorem harvested_c (s : Store) (hs : List Int) (hl : hs.length ≤ 1048576) (H0 : Heap) : C Try.prog 111 [.agg (encStore s), .lst 1 (hs.map encI)] H0 (fun r h' => (harvOk s hs = false ∧ r = .tup [.nils, .int .i64 0, .bool false]) ∨ (harvOk s hs = true ∧ ∃ (w : Int) (id : Nat), r = .tup [.own id 1 0 (enM s hs).length (enM s hs).length, .int .i64 w, .bool true] ∧ h'[id]? = some ((enM s hs).map encI))) := by
  refine C.by mixed (cfn_ok Try.func111 ok111) rfl ?_
  simp (disch := omega) only [s111, go_sem, Nat.reduceEqDiff, Nat.reduceAdd, Nat.reduceSub, Nat.reduceLeDiff, Nat.reduceLT, Nat.reduceMul, Nat.reduceBEq, Int.reduceEq, Int.reduceLT, Int.reduceLE, Int.reduceNeg, Int.reduceToNat, reduceIte, encStore]
  refine CP.go (storeOk_c s) rfl rfl ?_
  simp (disch := omega) only [go_sem, Nat.reduceEqDiff, Nat.reduceAdd, Nat.reduceSub, Nat.reduceLeDiff, Nat.reduceLT, Nat.reduceMul, Nat.reduceBEq, Int.reduceEq, Int.reduceLT, Int.reduceLE, Int.reduceNeg, Int.reduceToNat, reduceIte]
  repeat' (first | (refine CP.go (areHarvests_c hs (by omega)) rfl (refs_ints1 _ _) ?_ <;> (try simp (disch := omega) only [go_sem, Nat.reduceEqDiff, Nat.reduceAdd, Nat.reduceSub, Nat.reduceLeDiff, Nat.reduceLT, Nat.reduceMul, Nat.reduceBEq, Int.reduceEq, Int.reduceLT, Int.reduceLE, Int.reduceNeg, Int.reduceToNat, reduceIte])) | (refine condP_t (by assumption) ?_ <;> (try simp (disch := omega) only [go_sem, Nat.reduceEqDiff, Nat.reduceAdd, Nat.reduceSub, Nat.reduceLeDiff, Nat.reduceLT, Nat.reduceMul, Nat.reduceBEq, Int.reduceEq, Int.reduceLT, Int.reduceLE, Int.reduceNeg, Int.reduceToNat, reduceIte])) | (refine condP_f (by assumption) ?_ <;> (try simp (disch := omega) only [go_sem, Nat.reduceEqDiff, Nat.reduceAdd, Nat.reduceSub, Nat.reduceLeDiff, Nat.reduceLT, Nat.reduceMul, Nat.reduceBEq, Int.reduceEq, Int.reduceLT, Int.reduceLE, Int.reduceNeg, Int.reduceToNat, reduceIte])) | (refine condP_dec (fun h => ?_) (fun h => ?_) <;> (try simp (disch := omega) only [go_sem, Nat.reduceEqDiff, Nat.reduceAdd, Nat.reduceSub, Nat.reduceLeDiff, Nat.reduceLT, Nat.reduceMul, Nat.reduceBEq, Int.reduceEq, Int.reduceLT, Int.reduceLE, Int.reduceNeg, Int.reduceToNat, reduceIte])) | (refine condP_split (fun h => ?_) (fun h => ?_) <;> (try simp (disch := omega) only [go_sem, Nat.reduceEqDiff, Nat.reduceAdd, Nat.reduceSub, Nat.reduceLeDiff, Nat.reduceLT, Nat.reduceMul, Nat.reduceBEq, Int.reduceEq, Int.reduceLT, Int.reduceLE, Int.reduceNeg, Int.reduceToNat, reduceIte])))
  all_goals try exact .inl (by first | (simp_all [harvOk]; done) | (simp [harvOk]; omega))
  rename_i hok h500
  have hall := h
  have ho : harvOk s hs = true := by simp only [harvOk, hok, hall, Bool.true_and, Bool.and_true, decide_eq_true_eq]; omega
  have hs1 : StoreIn s := storeIn hok
  refine loopP_intro (fun m q => ∃ (k : Nat), k ≤ hs.length ∧ m = hs.length - k ∧ q.e 25 = .lst 1 (hs.map encI) ∧ q.e 26 = .int .i64 hs.length ∧ q.e 2 = .ptr H0.length 1 0 0 ∧ q.e 27 = .int .i64 k ∧ ∃ (t : Store) (cs : List Int) (l : Nat), q.e 7 = .own l 1 0 cs.length cs.length ∧ q.h[l]? = some (cs.map encI) ∧ q.h[H0.length]? = some [encStore t] ∧ Part s hs k t cs ∧ H0.length < l ∧ ∃ w, q.e 8 = .int .i64 w) hs.length ⟨0, by omega, by omega, by simp (disch := omega) only [go_sem, Nat.reduceEqDiff, Nat.reduceAdd, Nat.reduceSub, Nat.reduceLeDiff, Nat.reduceLT, Nat.reduceMul, Nat.reduceBEq, Int.reduceEq, Int.reduceLT, Int.reduceLE, Int.reduceNeg, Int.reduceToNat, reduceIte], by simp (disch := omega) only [go_sem, Nat.reduceEqDiff, Nat.reduceAdd, Nat.reduceSub, Nat.reduceLeDiff, Nat.reduceLT, Nat.reduceMul, Nat.reduceBEq, Int.reduceEq, Int.reduceLT, Int.reduceLE, Int.reduceNeg, Int.reduceToNat, reduceIte], by simp (disch := omega) only [go_sem, Nat.reduceEqDiff, Nat.reduceAdd, Nat.reduceSub, Nat.reduceLeDiff, Nat.reduceLT, Nat.reduceMul, Nat.reduceBEq, Int.reduceEq, Int.reduceLT, Int.reduceLE, Int.reduceNeg, Int.reduceToNat, reduceIte], by simp (disch := omega) only [go_sem, Nat.reduceEqDiff, Nat.reduceAdd, Nat.reduceSub, Nat.reduceLeDiff, Nat.reduceLT, Nat.reduceMul, Nat.reduceBEq, Int.reduceEq, Int.reduceLT, Int.reduceLE, Int.reduceNeg, Int.reduceToNat, reduceIte]; rfl, s, [], H0.length + 1, by simp (disch := omega) only [go_sem, Nat.reduceEqDiff, Nat.reduceAdd, Nat.reduceSub, Nat.reduceLeDiff, Nat.reduceLT, Nat.reduceMul, Nat.reduceBEq, Int.reduceEq, Int.reduceLT, Int.reduceLE, Int.reduceNeg, Int.reduceToNat, reduceIte], by simp (disch := omega) only [go_sem, Nat.reduceEqDiff, Nat.reduceAdd, Nat.reduceSub, Nat.reduceLeDiff, Nat.reduceLT, Nat.reduceMul, Nat.reduceBEq, Int.reduceEq, Int.reduceLT, Int.reduceLE, Int.reduceNeg, Int.reduceToNat, reduceIte], by simp (disch := omega) only [go_sem, Nat.reduceEqDiff, Nat.reduceAdd, Nat.reduceSub, Nat.reduceLeDiff, Nat.reduceLT, Nat.reduceMul, Nat.reduceBEq, Int.reduceEq, Int.reduceLT, Int.reduceLE, Int.reduceNeg, Int.reduceToNat, reduceIte]; rfl, ⟨hs1, by simp, rfl⟩, by omega, 0, by simp (disch := omega) only [go_sem, Nat.reduceEqDiff, Nat.reduceAdd, Nat.reduceSub, Nat.reduceLeDiff, Nat.reduceLT, Nat.reduceMul, Nat.reduceBEq, Int.reduceEq, Int.reduceLT, Int.reduceLE, Int.reduceNeg, Int.reduceToNat, reduceIte]⟩ ?_
  rintro m e hp ⟨k, hk, rfl, e25, e26, e2, e27, t, cs, l, e7, hl1, hb1, hpt, hlh, w, e8⟩
  simp only at e25 e26 e2 e27 e8 e7 hl1 hb1
  simp (disch := omega) only [go_sem, Nat.reduceEqDiff, Nat.reduceAdd, Nat.reduceSub, Nat.reduceLeDiff, Nat.reduceLT, Nat.reduceMul, Nat.reduceBEq, Int.reduceEq, Int.reduceLT, Int.reduceLE, Int.reduceNeg, Int.reduceToNat, reduceIte, e25, e26, e2, e27, e8, e7, hb1, encI, encStore]
  refine condP_dec (fun hlt => ?_) (fun hlt => ?_)
  · have hlt' : k < hs.length := by omega
    have hn := harv_at hall hlt'
    have hb2 : ∀ c, (hp.set H0.length c)[H0.length]? = some c := fun c => heap_set _ hb1
    have hl2 : ∀ c, (hp.set H0.length c)[l]? = some (cs.map encI) := fun c => heap_set_ne _ (by omega) hl1
    simp (disch := omega) only [go_sem, Nat.reduceEqDiff, Nat.reduceAdd, Nat.reduceSub, Nat.reduceLeDiff, Nat.reduceLT, Nat.reduceMul, Nat.reduceBEq, Int.reduceEq, Int.reduceLT, Int.reduceLE, Int.reduceNeg, Int.reduceToNat, reduceIte, e25, e26, e2, e27, e8, e7, hb1, encI, encStore]
    refine C.go (tick_c hp _ t hs[k] hb1 hpt.1 hn) ?_
    rintro r h' ⟨rfl, rfl⟩
    have on_eq : (tickM t hs[k]).on = t.on := rfl
    simp (disch := omega) only [go_sem, Nat.reduceEqDiff, Nat.reduceAdd, Nat.reduceSub, Nat.reduceLeDiff, Nat.reduceLT, Nat.reduceMul, Nat.reduceBEq, Int.reduceEq, Int.reduceLT, Int.reduceLE, Int.reduceNeg, Int.reduceToNat, reduceIte, e25, e26, e2, e27, e8, e7, hb2, on_eq, encI, encStore, storeH, storeB, splice]
    refine condP_dec (fun hc => ?_) (fun hc => ?_)
    · simp (disch := omega) only [go_sem, Nat.reduceEqDiff, Nat.reduceAdd, Nat.reduceSub, Nat.reduceLeDiff, Nat.reduceLT, Nat.reduceMul, Nat.reduceBEq, Int.reduceEq, Int.reduceLT, Int.reduceLE, Int.reduceNeg, Int.reduceToNat, reduceIte, e25, e26, e2, e27, e8, e7, hb2, on_eq, encI, encStore, storeH, storeB, splice]
      have ha := fun b c => append1 (sz := 1) (bytes := 8) (c := c) (hl2 b) (n := cs.length) (by simp) (by have := hpt.2.1; omega)
      have A1 : ∀ b x d, ((hp.set H0.length b ++ x).set l d)[H0.length]? = some b := fun b x d => heap_set_ne _ (by omega) (heap_app (hb2 b))
      simp (disch := omega) only [go_sem, Nat.reduceEqDiff, Nat.reduceAdd, Nat.reduceSub, Nat.reduceLeDiff, Nat.reduceLT, Nat.reduceMul, Nat.reduceBEq, Int.reduceEq, Int.reduceLT, Int.reduceLE, Int.reduceNeg, Int.reduceToNat, reduceIte, e25, e26, e2, e27, e8, e7, hb2, A1, ha, on_eq, encI, encStore, storeH, storeB, splice]
      refine nextP_intro (hs.length - (k + 1)) (by omega) ⟨k + 1, by omega, rfl, ?_, ?_, ?_, ?_, emptied (tickM t hs[k]), cs ++ [(tickM t hs[k]).charge], l, ?_, ?_, ?_, part_add hlt' hpt hc, hlh, ?_⟩
      · simp (disch := omega) only [go_sem, Nat.reduceEqDiff, Nat.reduceAdd, Nat.reduceSub, Nat.reduceLeDiff, Nat.reduceLT, Nat.reduceMul, Nat.reduceBEq, Int.reduceEq, Int.reduceLT, Int.reduceLE, Int.reduceNeg, Int.reduceToNat, reduceIte, e25, e26, e2, e27, e8, e7, hb2, A1, ha, on_eq, encI, encStore, storeH, storeB, splice]
      · simp (disch := omega) only [go_sem, Nat.reduceEqDiff, Nat.reduceAdd, Nat.reduceSub, Nat.reduceLeDiff, Nat.reduceLT, Nat.reduceMul, Nat.reduceBEq, Int.reduceEq, Int.reduceLT, Int.reduceLE, Int.reduceNeg, Int.reduceToNat, reduceIte, e25, e26, e2, e27, e8, e7, hb2, A1, ha, on_eq, encI, encStore, storeH, storeB, splice]
      · simp (disch := omega) only [go_sem, Nat.reduceEqDiff, Nat.reduceAdd, Nat.reduceSub, Nat.reduceLeDiff, Nat.reduceLT, Nat.reduceMul, Nat.reduceBEq, Int.reduceEq, Int.reduceLT, Int.reduceLE, Int.reduceNeg, Int.reduceToNat, reduceIte, e25, e26, e2, e27, e8, e7, hb2, A1, ha, on_eq, encI, encStore, storeH, storeB, splice]
      · simp (disch := omega) only [go_sem, Nat.reduceEqDiff, Nat.reduceAdd, Nat.reduceSub, Nat.reduceLeDiff, Nat.reduceLT, Nat.reduceMul, Nat.reduceBEq, Int.reduceEq, Int.reduceLT, Int.reduceLE, Int.reduceNeg, Int.reduceToNat, reduceIte, e25, e26, e2, e27, e8, e7, hb2, A1, ha, on_eq, encI, encStore, storeH, storeB, splice]; rfl
      · simp (disch := omega) only [go_sem, Nat.reduceEqDiff, Nat.reduceAdd, Nat.reduceSub, Nat.reduceLeDiff, Nat.reduceLT, Nat.reduceMul, Nat.reduceBEq, Int.reduceEq, Int.reduceLT, Int.reduceLE, Int.reduceNeg, Int.reduceToNat, reduceIte, e25, e26, e2, e27, e8, e7, hb2, A1, ha, on_eq, encI, encStore, storeH, storeB, splice] <;> simp
      · rw [List.map_append]; exact heap_set_ne _ (by omega) (heap_set _ (heap_app (hl2 _)))
      · exact heap_set _ (A1 _ _ _)
      · exact ⟨_, by simp (disch := omega) only [go_sem, Nat.reduceEqDiff, Nat.reduceAdd, Nat.reduceSub, Nat.reduceLeDiff, Nat.reduceLT, Nat.reduceMul, Nat.reduceBEq, Int.reduceEq, Int.reduceLT, Int.reduceLE, Int.reduceNeg, Int.reduceToNat, reduceIte, e25, e26, e2, e27, e8, e7, hb2, A1, ha, on_eq, encI, encStore, storeH, storeB, splice]; rfl⟩
    · simp (disch := omega) only [go_sem, Nat.reduceEqDiff, Nat.reduceAdd, Nat.reduceSub, Nat.reduceLeDiff, Nat.reduceLT, Nat.reduceMul, Nat.reduceBEq, Int.reduceEq, Int.reduceLT, Int.reduceLE, Int.reduceNeg, Int.reduceToNat, reduceIte, e25, e26, e2, e27, e8, e7, hb2, on_eq, encI, encStore, storeH, storeB, splice]
      refine nextP_intro (hs.length - (k + 1)) (by omega) ⟨k + 1, by omega, rfl, ?_, ?_, ?_, ?_, tickM t hs[k], cs, l, ?_, hl2 _, hb2 _, part_go hlt' hpt hc, hlh, ?_⟩
      · simp (disch := omega) only [go_sem, Nat.reduceEqDiff, Nat.reduceAdd, Nat.reduceSub, Nat.reduceLeDiff, Nat.reduceLT, Nat.reduceMul, Nat.reduceBEq, Int.reduceEq, Int.reduceLT, Int.reduceLE, Int.reduceNeg, Int.reduceToNat, reduceIte, e25, e26, e2, e27, e8, e7, hb2, on_eq, encI, encStore, storeH, storeB, splice]
      · simp (disch := omega) only [go_sem, Nat.reduceEqDiff, Nat.reduceAdd, Nat.reduceSub, Nat.reduceLeDiff, Nat.reduceLT, Nat.reduceMul, Nat.reduceBEq, Int.reduceEq, Int.reduceLT, Int.reduceLE, Int.reduceNeg, Int.reduceToNat, reduceIte, e25, e26, e2, e27, e8, e7, hb2, on_eq, encI, encStore, storeH, storeB, splice]
      · simp (disch := omega) only [go_sem, Nat.reduceEqDiff, Nat.reduceAdd, Nat.reduceSub, Nat.reduceLeDiff, Nat.reduceLT, Nat.reduceMul, Nat.reduceBEq, Int.reduceEq, Int.reduceLT, Int.reduceLE, Int.reduceNeg, Int.reduceToNat, reduceIte, e25, e26, e2, e27, e8, e7, hb2, on_eq, encI, encStore, storeH, storeB, splice]
      · simp (disch := omega) only [go_sem, Nat.reduceEqDiff, Nat.reduceAdd, Nat.reduceSub, Nat.reduceLeDiff, Nat.reduceLT, Nat.reduceMul, Nat.reduceBEq, Int.reduceEq, Int.reduceLT, Int.reduceLE, Int.reduceNeg, Int.reduceToNat, reduceIte, e25, e26, e2, e27, e8, e7, hb2, on_eq, encI, encStore, storeH, storeB, splice]; rfl
      · simp (disch := omega) only [go_sem, Nat.reduceEqDiff, Nat.reduceAdd, Nat.reduceSub, Nat.reduceLeDiff, Nat.reduceLT, Nat.reduceMul, Nat.reduceBEq, Int.reduceEq, Int.reduceLT, Int.reduceLE, Int.reduceNeg, Int.reduceToNat, reduceIte, e25, e26, e2, e27, e8, e7, hb2, on_eq, encI, encStore, storeH, storeB, splice]
      · exact ⟨_, by simp (disch := omega) only [go_sem, Nat.reduceEqDiff, Nat.reduceAdd, Nat.reduceSub, Nat.reduceLeDiff, Nat.reduceLT, Nat.reduceMul, Nat.reduceBEq, Int.reduceEq, Int.reduceLT, Int.reduceLE, Int.reduceNeg, Int.reduceToNat, reduceIte, e25, e26, e2, e27, e8, e7, hb2, on_eq, encI, encStore, storeH, storeB, splice]; rfl⟩
  · simp (disch := omega) only [go_sem, Nat.reduceEqDiff, Nat.reduceAdd, Nat.reduceSub, Nat.reduceLeDiff, Nat.reduceLT, Nat.reduceMul, Nat.reduceBEq, Int.reduceEq, Int.reduceLT, Int.reduceLE, Int.reduceNeg, Int.reduceToNat, reduceIte, e25, e26, e2, e27, e8, e7, hb1, encI, encStore]
    have : k = hs.length := by omega
    subst this
    have he := part_end hpt
    subst he
    exact .inr ⟨ho, _, l, rfl, hl1⟩
theorem energies_c (s : Store) (hs : List Int) (hl : hs.length ≤ 1048576) (H0 : Heap) : C Try.prog 62 [.agg (encStore s), .lst 1 (hs.map encI)] H0 (fun r h' => (harvOk s hs = false ∧ r = .tup [.nils, .bool false]) ∨ (harvOk s hs = true ∧ ∃ (id : Nat), r = .tup [.own id 1 0 (enM s hs).length (enM s hs).length, .bool true] ∧ h'[id]? = some ((enM s hs).map encI))) := by
  refine C.by mixed (cfn_ok Try.func62 ok62) rfl ?_
  simp (disch := omega) only [s62, go_sem, Nat.reduceEqDiff, Nat.reduceAdd, Nat.reduceSub, Nat.reduceLeDiff, Nat.reduceLT, Nat.reduceMul, Nat.reduceBEq, Int.reduceEq, Int.reduceLT, Int.reduceLE, Int.reduceNeg, Int.reduceToNat, reduceIte, encStore]
  refine C.go (harvested_c s hs hl _) ?_
  rintro r h' (⟨ho, rfl⟩ | ⟨ho, w, id, rfl, hid⟩)
  · simp (disch := omega) only [go_sem, Nat.reduceEqDiff, Nat.reduceAdd, Nat.reduceSub, Nat.reduceLeDiff, Nat.reduceLT, Nat.reduceMul, Nat.reduceBEq, Int.reduceEq, Int.reduceLT, Int.reduceLE, Int.reduceNeg, Int.reduceToNat, reduceIte]
    exact .inl ho
  · simp (disch := omega) only [go_sem, Nat.reduceEqDiff, Nat.reduceAdd, Nat.reduceSub, Nat.reduceLeDiff, Nat.reduceLT, Nat.reduceMul, Nat.reduceBEq, Int.reduceEq, Int.reduceLT, Int.reduceLE, Int.reduceNeg, Int.reduceToNat, reduceIte]
    exact .inr ⟨ho, id, rfl, hid⟩
def commitsM (s : Store) (hs : List Int) : Int := if harvOk s hs = true then min 60 ((enM s hs).length : Int) else -1
theorem commits_c (s : Store) (hs : List Int) (hl : hs.length ≤ 1048576) : CP Try.prog 19 [.agg (encStore s), .lst 1 (hs.map encI)] (.int .i64 (commitsM s hs)) [] := by
  refine CP.by rfl mixed (cfn_ok Try.func19 ok19) rfl ?_
  simp (disch := omega) only [s19, go_sem, Nat.reduceEqDiff, Nat.reduceAdd, Nat.reduceSub, Nat.reduceLeDiff, Nat.reduceLT, Nat.reduceMul, Nat.reduceBEq, Int.reduceEq, Int.reduceLT, Int.reduceLE, Int.reduceNeg, Int.reduceToNat, reduceIte, encStore]
  refine C.go (energies_c s hs hl _) ?_
  rintro r h' (⟨ho, rfl⟩ | ⟨ho, id, rfl, hid⟩)
  · simp (disch := omega) only [go_sem, Nat.reduceEqDiff, Nat.reduceAdd, Nat.reduceSub, Nat.reduceLeDiff, Nat.reduceLT, Nat.reduceMul, Nat.reduceBEq, Int.reduceEq, Int.reduceLT, Int.reduceLE, Int.reduceNeg, Int.reduceToNat, reduceIte]
    simp [commitsM, ho]
  · simp (disch := omega) only [go_sem, Nat.reduceEqDiff, Nat.reduceAdd, Nat.reduceSub, Nat.reduceLeDiff, Nat.reduceLT, Nat.reduceMul, Nat.reduceBEq, Int.reduceEq, Int.reduceLT, Int.reduceLE, Int.reduceNeg, Int.reduceToNat, reduceIte]
    simp [commitsM, ho]
theorem energies23_s (s : Store) (hs : List Int) (hl : hs.length ≤ 1048576) (H0 : Heap) : C Try.prog 61 [.agg (encStore s), .lst 1 (hs.map encI)] H0 (fun r h' => ∃ (es : List Int) (id : Nat), r = .tup [.own id 1 0 es.length es.length, .bool (harvOk s hs)] ∧ h'[id]? = some (es.map encI) ∧ (harvOk s hs = true → es = (enM s hs).take 60) ∧ es.length ≤ 60) := by
  refine C.by mixed (cfn_ok Try.func61 ok61) rfl ?_
  simp (disch := omega) only [s61, go_sem, Nat.reduceEqDiff, Nat.reduceAdd, Nat.reduceSub, Nat.reduceLeDiff, Nat.reduceLT, Nat.reduceMul, Nat.reduceBEq, Int.reduceEq, Int.reduceLT, Int.reduceLE, Int.reduceNeg, Int.reduceToNat, reduceIte, encStore]
  refine C.go (energies_s s hs hl _) ?_
  rintro r h' ⟨es, id, rfl, hid, he, hle, _, _⟩
  simp (disch := omega) only [go_sem, Nat.reduceEqDiff, Nat.reduceAdd, Nat.reduceSub, Nat.reduceLeDiff, Nat.reduceLT, Nat.reduceMul, Nat.reduceBEq, Int.reduceEq, Int.reduceLT, Int.reduceLE, Int.reduceNeg, Int.reduceToNat, reduceIte]
  refine condP_dec (fun hlt => ?_) (fun hlt => ?_)
  · have hn : (((es.map encI).drop 0).take 60).length = 60 := by simp; omega
    have ha : appendH (h' ++ [[]]) 1 8 (.own h'.length 1 0 0 0) (.own id 1 0 60 es.length) = some (.own h'.length 1 0 60 60, (h' ++ [[]]).set h'.length ([] ++ ((es.map encI).drop 0).take 60)) :=
      appendH_n (n := 0) (m := 60) (b := []) (at_app0 _ _) rfl (by simp [elemsOf, heap_app (h' := [[]]) hid]; omega) hn (by omega)
    simp (disch := omega) only [go_sem, Nat.reduceEqDiff, Nat.reduceAdd, Nat.reduceSub, Nat.reduceLeDiff, Nat.reduceLT, Nat.reduceMul, Nat.reduceBEq, Int.reduceEq, Int.reduceLT, Int.reduceLE, Int.reduceNeg, Int.reduceToNat, reduceIte, ha]
    exact ⟨es.take 60, h'.length, by simp; omega, by rw [at_app0]; simp, fun c => by rw [he c], by simp; omega⟩
  · simp (disch := omega) only [go_sem, Nat.reduceEqDiff, Nat.reduceAdd, Nat.reduceSub, Nat.reduceLeDiff, Nat.reduceLT, Nat.reduceMul, Nat.reduceBEq, Int.reduceEq, Int.reduceLT, Int.reduceLE, Int.reduceNeg, Int.reduceToNat, reduceIte]
    exact ⟨es, id, rfl, hid, fun c => by rw [he c, List.take_of_length_le]; rw [← he c]; omega, by omega⟩
theorem commits_s (s : Store) (hs : List Int) (hl : hs.length ≤ 1048576) : CP Try.prog 16 [.agg (encStore s), .lst 1 (hs.map encI)] (.int .i64 (commitsM s hs)) [] := by
  refine CP.by rfl mixed (cfn_ok Try.func16 ok16) rfl ?_
  simp (disch := omega) only [s16, go_sem, Nat.reduceEqDiff, Nat.reduceAdd, Nat.reduceSub, Nat.reduceLeDiff, Nat.reduceLT, Nat.reduceMul, Nat.reduceBEq, Int.reduceEq, Int.reduceLT, Int.reduceLE, Int.reduceNeg, Int.reduceToNat, reduceIte, encStore]
  refine C.go (energies23_s s hs hl _) ?_
  rintro r h' ⟨es, id, rfl, hid, he, hle⟩
  simp (disch := omega) only [go_sem, Nat.reduceEqDiff, Nat.reduceAdd, Nat.reduceSub, Nat.reduceLeDiff, Nat.reduceLT, Nat.reduceMul, Nat.reduceBEq, Int.reduceEq, Int.reduceLT, Int.reduceLE, Int.reduceNeg, Int.reduceToNat, reduceIte]
  refine condP_split (fun ho => ?_) (fun ho => ?_)
  · simp (disch := omega) only [go_sem, Nat.reduceEqDiff, Nat.reduceAdd, Nat.reduceSub, Nat.reduceLeDiff, Nat.reduceLT, Nat.reduceMul, Nat.reduceBEq, Int.reduceEq, Int.reduceLT, Int.reduceLE, Int.reduceNeg, Int.reduceToNat, reduceIte]
    have := he ho
    subst this
    simp only [commitsM, if_pos ho]
    congr 1
    simp; omega
  · simp (disch := omega) only [go_sem, Nat.reduceEqDiff, Nat.reduceAdd, Nat.reduceSub, Nat.reduceLeDiff, Nat.reduceLT, Nat.reduceMul, Nat.reduceBEq, Int.reduceEq, Int.reduceLT, Int.reduceLE, Int.reduceNeg, Int.reduceToNat, reduceIte]
    simp [commitsM, ho]
theorem toStore_c (s : Store) : CP Try.prog 17 [.agg (encStore s)] (.agg (encStore s)) [] := by
  refine CP.by rfl mixed (cfn_ok Try.func17 ok17) rfl ?_
  simp (disch := omega) only [s17, go_sem, Nat.reduceEqDiff, Nat.reduceAdd, Nat.reduceSub, Nat.reduceLeDiff, Nat.reduceLT, Nat.reduceMul, Nat.reduceBEq, Int.reduceEq, Int.reduceLT, Int.reduceLE, Int.reduceNeg, Int.reduceToNat, reduceIte, encStore, storeH, storeB, splice]
theorem snaps_store {h : Heap} {id n : Nat} {hs : List Int} (s : Store) (hid : h[id]? = some (hs.map encI)) (hn : hs.length = n) : Snaps h [.agg (encStore s), .own id 1 0 n n] [.agg (encStore s), .lst 1 (hs.map encI)] :=
  .cons (Snap.aggS rfl) (.cons (Snap.flatN hid (by simpa using hn) (flat_encI _)) (.nil _))
theorem law_c (s : Store) (hs : List Int) (hl : hs.length ≤ 9223372036854775807) : CP Try.prog 4 [.agg (encStore s), .lst 1 (hs.map encI)] (.bool true) [] := by
  refine CP.by rfl mixed (cfn_ok Try.func4 ok4) rfl ?_
  simp (disch := omega) only [s4, go_sem, Nat.reduceEqDiff, Nat.reduceAdd, Nat.reduceSub, Nat.reduceLeDiff, Nat.reduceLT, Nat.reduceMul, Nat.reduceBEq, Int.reduceEq, Int.reduceLT, Int.reduceLE, Int.reduceNeg, Int.reduceToNat, reduceIte, encStore]
  refine condP_dec (fun hbig => ?_) (fun hbig => ?_)
  · simp (disch := omega) only [go_sem, Nat.reduceEqDiff, Nat.reduceAdd, Nat.reduceSub, Nat.reduceLeDiff, Nat.reduceLT, Nat.reduceMul, Nat.reduceBEq, Int.reduceEq, Int.reduceLT, Int.reduceLE, Int.reduceNeg, Int.reduceToNat, reduceIte]
  · have hs' : hs.length ≤ 1048576 := by omega
    have hfl := flat_encI hs
    simp (disch := omega) only [go_sem, Nat.reduceEqDiff, Nat.reduceAdd, Nat.reduceSub, Nat.reduceLeDiff, Nat.reduceLT, Nat.reduceMul, Nat.reduceBEq, Int.reduceEq, Int.reduceLT, Int.reduceLE, Int.reduceNeg, Int.reduceToNat, reduceIte]
    refine CP.go (toStore_c s) rfl rfl ?_
    simp (disch := omega) only [go_sem, Nat.reduceEqDiff, Nat.reduceAdd, Nat.reduceSub, Nat.reduceLeDiff, Nat.reduceLT, Nat.reduceMul, Nat.reduceBEq, Int.reduceEq, Int.reduceLT, Int.reduceLE, Int.reduceNeg, Int.reduceToNat, reduceIte]
    refine CP.goOwn (toIntS_c hs hs') hfl (refs_ints1 _ _) ?_
    simp (disch := omega) only [go_sem, Nat.reduceEqDiff, Nat.reduceAdd, Nat.reduceSub, Nat.reduceLeDiff, Nat.reduceLT, Nat.reduceMul, Nat.reduceBEq, Int.reduceEq, Int.reduceLT, Int.reduceLE, Int.reduceNeg, Int.reduceToNat, reduceIte]
    refine CP.goS (commits_s s hs hs') rfl rfl (snaps_store s (by simp) rfl) ?_
    simp (disch := omega) only [go_sem, Nat.reduceEqDiff, Nat.reduceAdd, Nat.reduceSub, Nat.reduceLeDiff, Nat.reduceLT, Nat.reduceMul, Nat.reduceBEq, Int.reduceEq, Int.reduceLT, Int.reduceLE, Int.reduceNeg, Int.reduceToNat, reduceIte]
    refine CP.goOwn (toIntS_c hs hs') hfl (refs_ints1 _ _) ?_
    simp (disch := omega) only [go_sem, Nat.reduceEqDiff, Nat.reduceAdd, Nat.reduceSub, Nat.reduceLeDiff, Nat.reduceLT, Nat.reduceMul, Nat.reduceBEq, Int.reduceEq, Int.reduceLT, Int.reduceLE, Int.reduceNeg, Int.reduceToNat, reduceIte, encStore]
    refine CP.go (toStore_c s) rfl rfl ?_
    simp (disch := omega) only [go_sem, Nat.reduceEqDiff, Nat.reduceAdd, Nat.reduceSub, Nat.reduceLeDiff, Nat.reduceLT, Nat.reduceMul, Nat.reduceBEq, Int.reduceEq, Int.reduceLT, Int.reduceLE, Int.reduceNeg, Int.reduceToNat, reduceIte]
    refine CP.goS (commits_c s hs hs') rfl rfl (snaps_store s (by simp) rfl) ?_
    simp (disch := omega) only [go_sem, Nat.reduceEqDiff, Nat.reduceAdd, Nat.reduceSub, Nat.reduceLeDiff, Nat.reduceLT, Nat.reduceMul, Nat.reduceBEq, Int.reduceEq, Int.reduceLT, Int.reduceLE, Int.reduceNeg, Int.reduceToNat, reduceIte]
    refine CP.goOwn (toIntS_c hs hs') hfl (refs_ints1 _ _) ?_
    simp (disch := omega) only [go_sem, Nat.reduceEqDiff, Nat.reduceAdd, Nat.reduceSub, Nat.reduceLeDiff, Nat.reduceLT, Nat.reduceMul, Nat.reduceBEq, Int.reduceEq, Int.reduceLT, Int.reduceLE, Int.reduceNeg, Int.reduceToNat, reduceIte]
    refine CP.goS (eqIntS_c hs hs hl) rfl rfl (.cons (Snap.flatN (b := hs.map encI) (by simp) (by simp) hfl) (.cons (Snap.flatN (b := hs.map encI) (by simp) (by simp) hfl) (.nil _))) ?_
    simp (disch := omega) only [go_sem, Nat.reduceEqDiff, Nat.reduceAdd, Nat.reduceSub, Nat.reduceLeDiff, Nat.reduceLT, Nat.reduceMul, Nat.reduceBEq, Int.reduceEq, Int.reduceLT, Int.reduceLE, Int.reduceNeg, Int.reduceToNat, reduceIte, decide_eq_true_eq]
end Go.Av
