import Derived.Test.YtpjcclgpkicadaaJ6Copy
namespace Go.Av
open Go.Proofs Go.RowKit
set_option linter.unusedVariables false
set_option linter.unusedSimpArgs false
set_option maxRecDepth 100000
set_option maxHeartbeats 4000000
theorem words_c (h : Heap) (id : Nat) (hc : Cur h id) : C Try.prog 58 [.ptr id 1 0 0] h (fun r h' => ∃ (ws : List Int) (l : Nat), r = .own l 1 0 6 6 ∧ h'[l]? = some (ws.map encI) ∧ ws.length = 6 ∧ (∀ w ∈ ws, -500 ≤ w ∧ w < 1500) ∧ h.length ≤ l ∧ Cur h' id ∧ ExtX id h h') := by
  have hid := hc.lt
  refine C.by mixed (cfn_ok Try.func58 ok58) rfl ?_
  simp (disch := omega) only [s58, go_sem, Nat.reduceEqDiff, Nat.reduceAdd, Nat.reduceSub, Nat.reduceLeDiff, Nat.reduceLT, Nat.reduceMul, Nat.reduceBEq, Int.reduceEq, Int.reduceLT, Int.reduceLE, Int.reduceNeg, Int.reduceToNat, Int.reduceSub, Int.reduceAdd, reduceIte]
  refine loopP_intro (fun m s => ∃ (k : Nat), k ≤ 6 ∧ m = 6 - k ∧ s.e 0 = .ptr id 1 0 0 ∧ s.e 4 = .int .i64 k ∧ ∃ (ws : List Int) (l : Nat), s.e 3 = .own l 1 0 k k ∧ s.h[l]? = some (ws.map encI) ∧ ws.length = k ∧ (∀ w ∈ ws, -500 ≤ w ∧ w < 1500) ∧ h.length ≤ l ∧ Cur s.h id ∧ ExtX id h s.h) 6 ⟨0, by omega, by omega, rfl, rfl, [], h.length, by simp (disch := omega) only [go_sem, Nat.reduceEqDiff, Nat.reduceAdd, Nat.reduceSub, Nat.reduceLeDiff, Nat.reduceLT, Nat.reduceMul, Nat.reduceBEq, Int.reduceEq, Int.reduceLT, Int.reduceLE, Int.reduceNeg, Int.reduceToNat, Int.reduceSub, Int.reduceAdd, reduceIte], by simp (disch := omega) only [go_sem, Nat.reduceEqDiff, Nat.reduceAdd, Nat.reduceSub, Nat.reduceLeDiff, Nat.reduceLT, Nat.reduceMul, Nat.reduceBEq, Int.reduceEq, Int.reduceLT, Int.reduceLE, Int.reduceNeg, Int.reduceToNat, Int.reduceSub, Int.reduceAdd, reduceIte], rfl, by simp, by omega, hc.app _, (Ext.app _ _).x _⟩ ?_
  rintro m e hp ⟨k, hk, rfl, e0, e4, ws, l, e3, hl, hw, hws, hlh, hcp, hxp⟩
  simp only at e0 e4 e3 hl hcp hxp
  simp (disch := omega) only [go_sem, Nat.reduceEqDiff, Nat.reduceAdd, Nat.reduceSub, Nat.reduceLeDiff, Nat.reduceLT, Nat.reduceMul, Nat.reduceBEq, Int.reduceEq, Int.reduceLT, Int.reduceLE, Int.reduceNeg, Int.reduceToNat, Int.reduceSub, Int.reduceAdd, reduceIte, e0, e4, e3]
  refine condP_dec (fun hlt => ?_) (fun hlt => ?_)
  · simp (disch := omega) only [go_sem, Nat.reduceEqDiff, Nat.reduceAdd, Nat.reduceSub, Nat.reduceLeDiff, Nat.reduceLT, Nat.reduceMul, Nat.reduceBEq, Int.reduceEq, Int.reduceLT, Int.reduceLE, Int.reduceNeg, Int.reduceToNat, Int.reduceSub, Int.reduceAdd, reduceIte, e0, e4, e3]
    refine DI.go (below_c _ _ _ hcp (by omega)) fun z h1 z0 z1 c1 x1 => ?_
    simp (disch := omega) only [go_sem, Nat.reduceEqDiff, Nat.reduceAdd, Nat.reduceSub, Nat.reduceLeDiff, Nat.reduceLT, Nat.reduceMul, Nat.reduceBEq, Int.reduceEq, Int.reduceLT, Int.reduceLE, Int.reduceNeg, Int.reduceToNat, Int.reduceSub, Int.reduceAdd, reduceIte, e0, e4, e3]
    rw [append1 (x1.get hl (by omega)) (by simpa using hw) (by omega)]
    simp (disch := omega) only [go_sem, Nat.reduceEqDiff, Nat.reduceAdd, Nat.reduceSub, Nat.reduceLeDiff, Nat.reduceLT, Nat.reduceMul, Nat.reduceBEq, Int.reduceEq, Int.reduceLT, Int.reduceLE, Int.reduceNeg, Int.reduceToNat, Int.reduceSub, Int.reduceAdd, reduceIte, e0, e4, e3]
    have hlen := x1.len c1
    have hlt := heap_lt hl
    refine nextP_intro (6 - (k + 1)) (by omega) ⟨k + 1, by omega, rfl, ?_, ?_, ws ++ [z - 500], l, ?_, ?_, ?_, ?_, hlh, ?_, ?_⟩
    · simp (disch := omega) only [go_sem, Nat.reduceEqDiff, Nat.reduceAdd, Nat.reduceSub, Nat.reduceLeDiff, Nat.reduceLT, Nat.reduceMul, Nat.reduceBEq, Int.reduceEq, Int.reduceLT, Int.reduceLE, Int.reduceNeg, Int.reduceToNat, Int.reduceSub, Int.reduceAdd, reduceIte, e0, e4, e3]
    · simp (disch := omega) only [go_sem, Nat.reduceEqDiff, Nat.reduceAdd, Nat.reduceSub, Nat.reduceLeDiff, Nat.reduceLT, Nat.reduceMul, Nat.reduceBEq, Int.reduceEq, Int.reduceLT, Int.reduceLE, Int.reduceNeg, Int.reduceToNat, Int.reduceSub, Int.reduceAdd, reduceIte, e0, e4, e3]; rfl
    · simp (disch := omega) only [go_sem, Nat.reduceEqDiff, Nat.reduceAdd, Nat.reduceSub, Nat.reduceLeDiff, Nat.reduceLT, Nat.reduceMul, Nat.reduceBEq, Int.reduceEq, Int.reduceLT, Int.reduceLE, Int.reduceNeg, Int.reduceToNat, Int.reduceSub, Int.reduceAdd, reduceIte, e0, e4, e3]
    · simp only [List.map_append]; exact heap_set _ (heap_app (x1.get hl (by omega)))
    · simp [hw]
    · intro w hm
      rcases List.mem_append.1 hm with hm | hm
      · exact hws w hm
      · simp at hm; omega
    · exact (c1.app _).set _ (by omega)
    · exact ((hxp.trans hcp x1).app c1 _).setNew _ hlh
  · simp (disch := omega) only [go_sem, Nat.reduceEqDiff, Nat.reduceAdd, Nat.reduceSub, Nat.reduceLeDiff, Nat.reduceLT, Nat.reduceMul, Nat.reduceBEq, Int.reduceEq, Int.reduceLT, Int.reduceLE, Int.reduceNeg, Int.reduceToNat, Int.reduceSub, Int.reduceAdd, reduceIte, e0, e4, e3]
    have : k = 6 := by omega
    subst this
    exact ⟨ws, l, rfl, hl, hw, hws, hlh, hcp, hxp⟩
/-- What a drawn slot is. -/
def Drawn (s : Slot) : Prop := s = ⟨0, [], 0⟩ ∨ (1 ≤ s.seq ∧ s.seq ≤ 6 ∧ s.words.length = 6 ∧ s.sum = sumOf s.seq s.words)
theorem slot_c (h : Heap) (id : Nat) (hc : Cur h id) : C Try.prog 108 [.ptr id 1 0 0] h (fun r h' => ∃ (s : Slot) (l : Nat), r = .agg [.int .i64 s.seq, .own l 1 0 6 6, .int .i64 s.sum] ∧ h'[l]? = some (s.words.map encI) ∧ (1 ≤ s.seq ∧ s.seq ≤ 6 ∧ s.words.length = 6 ∧ s.sum = sumOf s.seq s.words) ∧ h.length ≤ l ∧ Cur h' id ∧ ExtX id h h') := by
  have hid := hc.lt
  refine C.by mixed (cfn_ok Try.func108 ok108) rfl ?_
  simp (disch := omega) only [s108, go_sem, Nat.reduceEqDiff, Nat.reduceAdd, Nat.reduceSub, Nat.reduceLeDiff, Nat.reduceLT, Nat.reduceMul, Nat.reduceBEq, Int.reduceEq, Int.reduceLT, Int.reduceLE, Int.reduceNeg, Int.reduceToNat, Int.reduceSub, Int.reduceAdd, reduceIte]
  refine DI.go (below_c _ _ _ (hc.app _) (by omega)) fun z h1 z0 z1 c1 x1 => ?_
  simp (disch := omega) only [go_sem, Nat.reduceEqDiff, Nat.reduceAdd, Nat.reduceSub, Nat.reduceLeDiff, Nat.reduceLT, Nat.reduceMul, Nat.reduceBEq, Int.reduceEq, Int.reduceLT, Int.reduceLE, Int.reduceNeg, Int.reduceToNat, Int.reduceSub, Int.reduceAdd, reduceIte]
  refine C.go (words_c _ _ c1) ?_
  rintro r h2 ⟨ws, l, rfl, hl, hw, hws, hlh, c2, x2⟩
  have x12 := x1.trans c1 x2
  have b0 : h2[h.length]? = some [[V.int .i64 0, .nils, .int .i64 0]] := x12.at (k := 0) hid (by simp)
  have hlen := x12.len c2
  have hlen1 := x1.len c1
  rw [List.length_append] at hlen hlen1
  simp only [List.length_cons, List.length_nil] at hlen hlen1
  have hlt := heap_lt hl
  simp (disch := omega) only [go_sem, Nat.reduceEqDiff, Nat.reduceAdd, Nat.reduceSub, Nat.reduceLeDiff, Nat.reduceLT, Nat.reduceMul, Nat.reduceBEq, Int.reduceEq, Int.reduceLT, Int.reduceLE, Int.reduceNeg, Int.reduceToNat, Int.reduceSub, Int.reduceAdd, reduceIte, splice, storeH, storeB]
  refine CP.goS (sum_s (1 + z) ws (by omega)) rfl rfl (.cons (.int _ _) (.cons (Snap.flatN (heap_app hl) (by simpa using hw) (flat_encI _)) (.nil _))) ?_
  have b0' : ∀ t, (h2 ++ t)[h.length]? = some [[V.int .i64 0, .nils, .int .i64 0]] := fun t => heap_app b0
  have s0 : ∀ t c, (h2 ++ t).set h.length c = h2.set h.length c ++ t := fun t c => set_appL _ _ _ (by omega)
  have l0 : ∀ c t, (h2.set h.length c ++ t)[h.length]? = some c := fun c t => heap_app (heap_set c b0)
  simp (disch := omega) only [go_sem, Nat.reduceEqDiff, Nat.reduceAdd, Nat.reduceSub, Nat.reduceLeDiff, Nat.reduceLT, Nat.reduceMul, Nat.reduceBEq, Int.reduceEq, Int.reduceLT, Int.reduceLE, Int.reduceNeg, Int.reduceToNat, Int.reduceSub, Int.reduceAdd, reduceIte, splice, storeH, storeB, b0', s0, l0]
  refine ⟨⟨1 + z, ws, sumOf (1 + z) ws⟩, l, rfl, heap_app (heap_set_ne _ (by omega) hl), ⟨by simp only; omega, by simp only; omega, hw, rfl⟩, by omega, (c2.set _ (by omega)).app _, ?_⟩
  exact (x12.ofApp.setNew _ (Nat.le_refl _)).app (c2.set _ (by omega)) _
def z6 : List V := [.int .i64 0, .nils, .int .i64 0, .int .i64 0, .nils, .int .i64 0]
/-- A pair whose first slot is drawn. -/
def Half (h H : Heap) (id : Nat) (a : Slot) (va : V) (ida : List Nat) : Prop := H[h.length]? = some [z6] ∧ H[h.length + 1]? = some [[.int .i64 a.seq, va, .int .i64 a.sum, .int .i64 0, .nils, .int .i64 0]] ∧ Owns H (.lst 1 (a.words.map encI)) va ida ∧ ida.Nodup ∧ (∀ i ∈ ida, h.length + 2 ≤ i) ∧ Drawn a ∧ Cur H id ∧ ExtX id h H ∧ h.length + 2 ≤ H.length
theorem pair_c (h : Heap) (id : Nat) (hc : Cur h id) : C Try.prog 57 [.ptr id 1 0 0] h (fun r h' => ∃ (p : Pair) (cs : List V) (ids : List Nat), r = .agg cs ∧ OwnsL h' (encPair p) cs ids ∧ ids.Nodup ∧ (∀ i ∈ ids, h.length ≤ i) ∧ Drawn p.a ∧ Drawn p.b ∧ Cur h' id ∧ ExtX id h h') := by
  have hid := hc.lt
  refine C.by mixed (cfn_ok Try.func57 ok57) rfl ?_
  simp (disch := omega) only [s57, go_sem, Nat.reduceEqDiff, Nat.reduceAdd, Nat.reduceSub, Nat.reduceLeDiff, Nat.reduceLT, Nat.reduceMul, Nat.reduceBEq, Int.reduceEq, Int.reduceLT, Int.reduceLE, Int.reduceNeg, Int.reduceToNat, Int.reduceSub, Int.reduceAdd, reduceIte, splice, storeH, storeB]
  refine DB.go (once_c _ _ _ (hc.app _) (by omega)) fun b h1 c1 x1 => ?_
  have b0 : h1[h.length]? = some [z6] := x1.at (k := 0) hid (by simp)
  have b1 : h1[h.length + 1]? = some [z6] := x1.at (k := 1) hid (by simp)
  have g1 : h.length + 2 ≤ h1.length := by
    have := x1.len c1
    simpa using this
  simp (disch := omega) only [go_sem, Nat.reduceEqDiff, Nat.reduceAdd, Nat.reduceSub, Nat.reduceLeDiff, Nat.reduceLT, Nat.reduceMul, Nat.reduceBEq, Int.reduceEq, Int.reduceLT, Int.reduceLE, Int.reduceNeg, Int.reduceToNat, Int.reduceSub, Int.reduceAdd, reduceIte, splice, storeH, storeB]
  have st : (∃ a va ida, Half h h1 id a va ida) := ⟨⟨0, [], 0⟩, .nils, [], b0, b1, Owns.nils_, .nil, by simp, .inl rfl, c1, x1.ofApp, g1⟩
  refine condP_split (fun hb => ?_) (fun hb => ?_)
  case' refine_2 =>
    simp (disch := omega) only [go_sem, Nat.reduceEqDiff, Nat.reduceAdd, Nat.reduceSub, Nat.reduceLeDiff, Nat.reduceLT, Nat.reduceMul, Nat.reduceBEq, Int.reduceEq, Int.reduceLT, Int.reduceLE, Int.reduceNeg, Int.reduceToNat, Int.reduceSub, Int.reduceAdd, reduceIte, splice, storeH, storeB]
    refine C.go (slot_c _ _ c1) ?_
    rintro r h2 ⟨s, l, rfl, hl, hs, hlh, c2, x2⟩
    have b0' := x2.get b0 (by omega)
    have b1' := x2.get b1 (by omega)
    have g2 := x2.len c2
    simp (disch := omega) only [go_sem, Nat.reduceEqDiff, Nat.reduceAdd, Nat.reduceSub, Nat.reduceLeDiff, Nat.reduceLT, Nat.reduceMul, Nat.reduceBEq, Int.reduceEq, Int.reduceLT, Int.reduceLE, Int.reduceNeg, Int.reduceToNat, Int.reduceSub, Int.reduceAdd, reduceIte, splice, storeH, storeB, b1', z6]
    have hn : [l].Nodup := by simp
    clear st
    have st : (∃ a va ida, Half h (h2.set (h.length + 1) [[.int .i64 s.seq, .own l 1 0 6 6, .int .i64 s.sum, .int .i64 0, .nils, .int .i64 0]]) id a va ida) := ⟨s, .own l 1 0 6 6, [l], heap_set_ne _ (by omega) b0', heap_set _ b1', Owns.own_flat (heap_set_ne _ (by omega) hl) (by simpa using hs.2.2.1) (flat_encI _), hn, by simp; omega, .inr hs, c2.set _ (by omega), (x1.ofApp.trans c1 x2).setNew _ (by omega), by simp; omega⟩
    revert st
    generalize h2.set (h.length + 1) [[.int .i64 s.seq, .own l 1 0 6 6, .int .i64 s.sum, .int .i64 0, .nils, .int .i64 0]] = H
    intro st
  case' refine_1 =>
    simp (disch := omega) only [go_sem, Nat.reduceEqDiff, Nat.reduceAdd, Nat.reduceSub, Nat.reduceLeDiff, Nat.reduceLT, Nat.reduceMul, Nat.reduceBEq, Int.reduceEq, Int.reduceLT, Int.reduceLE, Int.reduceNeg, Int.reduceToNat, Int.reduceSub, Int.reduceAdd, reduceIte]
    revert st
    generalize h1 = H
    intro st
  all_goals
    obtain ⟨a, va, ida, q0, q1, oa, na, ga, da, ca, xa, la⟩ := st
    refine DB.go (once_c _ _ _ ca (by omega)) fun b h1 c1 x1 => ?_
    have q0 := x1.get q0 (by omega)
    have q1 := x1.get q1 (by omega)
    have oa := oa.upX x1 (fun i hi => by have := ga i hi; omega)
    have hold := oa.lt
    have g1 := x1.len c1
    simp (disch := omega) only [go_sem, Nat.reduceEqDiff, Nat.reduceAdd, Nat.reduceSub, Nat.reduceLeDiff, Nat.reduceLT, Nat.reduceMul, Nat.reduceBEq, Int.reduceEq, Int.reduceLT, Int.reduceLE, Int.reduceNeg, Int.reduceToNat, Int.reduceSub, Int.reduceAdd, reduceIte, splice, storeH, storeB, q0, q1, z6]
    refine condP_split (fun hb => ?_) (fun hb => ?_)
  case' refine_2.refine_2 | refine_1.refine_2 =>
    simp (disch := omega) only [go_sem, Nat.reduceEqDiff, Nat.reduceAdd, Nat.reduceSub, Nat.reduceLeDiff, Nat.reduceLT, Nat.reduceMul, Nat.reduceBEq, Int.reduceEq, Int.reduceLT, Int.reduceLE, Int.reduceNeg, Int.reduceToNat, Int.reduceSub, Int.reduceAdd, reduceIte, splice, storeH, storeB]
    refine C.go (slot_c _ _ c1) ?_
    rintro r h2 ⟨s, l, rfl, hl, hs, hlh, c2, x2⟩
    have q0 := x2.get q0 (by omega)
    have q1 := x2.get q1 (by omega)
    have oa := oa.upX x2 (fun i hi => by have := ga i hi; omega)
    have hlt := oa.lt
    have q0' : ∀ c, (h2.set (h.length + 1) c)[h.length]? = some [z6] := fun c => heap_set_ne _ (by omega) q0
    have q1' : ∀ c, (h2.set (h.length + 1) c)[h.length + 1]? = some c := fun c => heap_set _ q1
    have ov := oa.one
    have q2' : ∀ c d, ((h2.set (h.length + 1) c).set h.length d)[h.length]? = some d := fun c d => heap_set _ (q0' c)
    simp (disch := omega) only [go_sem, Nat.reduceEqDiff, Nat.reduceAdd, Nat.reduceSub, Nat.reduceLeDiff, Nat.reduceLT, Nat.reduceMul, Nat.reduceBEq, Int.reduceEq, Int.reduceLT, Int.reduceLE, Int.reduceNeg, Int.reduceToNat, Int.reduceSub, Int.reduceAdd, reduceIte, splice, storeH, storeB, q1, q1', q0', q2', ov, z6]
    have nl : l ∉ ida := fun hm => absurd (hold l hm) (by omega)
    refine ⟨⟨a, s⟩, _, ida ++ [l], rfl, .i (.o ((oa.set _ (fun hm => by have := ga _ hm; omega)).set _ (fun hm => by have := ga _ hm; omega)) (.i (.i (.o (Owns.own_flat (heap_set_ne _ (by omega) (heap_set_ne _ (by omega) hl)) (by simpa using hs.2.2.1) (flat_encI _)) (.i .e))))), ?_, ?_, da, .inr hs, (c2.set _ (by omega)).set _ (by omega), ?_⟩
    · rw [List.nodup_append]
      refine ⟨na, by simp, fun x hx y hy => ?_⟩
      simp at hy; subst hy
      exact fun e => nl (e ▸ hx)
    · intro i hi
      rcases List.mem_append.1 hi with hi | hi
      · have := ga i hi; omega
      · simp at hi; omega
    · exact ((xa.trans ca x1).trans c1 x2).setNew _ (by omega) |>.setNew _ (by omega)
  all_goals
    have ov := oa.one
    have q2' : ∀ d, (h1.set h.length d)[h.length]? = some d := fun d => heap_set _ q0
    simp (disch := omega) only [go_sem, Nat.reduceEqDiff, Nat.reduceAdd, Nat.reduceSub, Nat.reduceLeDiff, Nat.reduceLT, Nat.reduceMul, Nat.reduceBEq, Int.reduceEq, Int.reduceLT, Int.reduceLE, Int.reduceNeg, Int.reduceToNat, Int.reduceSub, Int.reduceAdd, reduceIte, splice, storeH, storeB, q0, q1, q2', ov, z6]
    refine ⟨⟨a, ⟨0, [], 0⟩⟩, _, ida ++ [], rfl, .i (.o (oa.set _ (fun hm => by have := ga _ hm; omega)) (.i (.i (.o Owns.nils_ (.i .e))))), by simpa using na, fun i hi => ?_, da, .inl rfl, c1.set _ (by omega), (xa.trans ca x1).setNew _ (by omega)⟩
    simp at hi
    have := ga i hi; omega
end Go.Av
