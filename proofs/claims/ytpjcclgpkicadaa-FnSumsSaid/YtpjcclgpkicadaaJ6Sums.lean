import Derived.Test.YtpjcclgpkicadaaJ6Pair2
namespace Go.Av
open Go.Proofs Go.RowKit
set_option linter.unusedVariables false
set_option linter.unusedSimpArgs false
set_option maxRecDepth 100000
set_option maxHeartbeats 4000000
theorem fold_inj : ∀ (ws : List Int) (r r' : Int), 0 ≤ r ∧ r < 100003 → 0 ≤ r' ∧ r' < 100003 → r ≠ r' → ws.foldl sumStep r ≠ ws.foldl sumStep r'
  | [], r, r', _, _, hne => hne
  | w :: ws, r, r', h, h', hne => by
    refine fold_inj ws _ _ (step_bd r w) (step_bd r' w) ?_
    unfold sumStep
    omega
theorem fold_word : ∀ (ws : List Int) (k : Nat) (r z : Int), 0 ≤ r ∧ r < 100003 → (∀ a, ws[k]? = some a → a % 100003 ≠ z % 100003) → k < ws.length → (ws.set k z).foldl sumStep r ≠ ws.foldl sumStep r
  | [], k, r, z, _, _, hk => by simp at hk
  | w :: ws, 0, r, z, h, hz, hk => by
    have := hz w rfl
    refine fold_inj ws _ _ (step_bd r z) (step_bd r w) ?_
    unfold sumStep
    omega
  | w :: ws, k + 1, r, z, h, hz, hk => fold_word ws k _ z (step_bd r w) (fun a ha => hz a (by simpa using ha)) (by simpa using hk)
theorem sum_nonneg {s : Int} {ws : List Int} (h : ws.length = 6) : 0 ≤ sumOf s ws := by
  rw [sumOf, if_pos h]
  exact (fold_bd ws _ (by omega)).1
theorem sum_word {s z : Int} {ws : List Int} {k : Nat} (h : ws.length = 6) (hk : k < 6) (hz : ∀ a, ws[k]? = some a → a % 100003 ≠ z % 100003) : sumOf s ws ≠ sumOf s (ws.set k z) := by
  rw [sumOf, if_pos h, sumOf, if_pos (by simpa using h)]
  exact (fold_word ws k _ z (by omega) hz (by omega)).symm
theorem sum_seq {s : Int} {ws : List Int} (h : ws.length = 6) : sumOf s ws ≠ sumOf (s + 1) ws := by
  rw [sumOf, if_pos h, sumOf, if_pos h]
  exact fold_inj ws _ _ (by omega) (by omega) (by omega)
theorem law_c (bs : List Int) (hb : bs.length ≤ 9223372036854775807) : CP Try.prog 3 [.lst 1 (bs.map encB)] (.bool true) [] := by
  refine CP.by rfl mixed (cfn_ok Try.func3 ok3) rfl ?_
  simp (disch := omega) only [s3, go_sem, Nat.reduceEqDiff, Nat.reduceAdd, Nat.reduceSub, Nat.reduceLeDiff, Nat.reduceLT, Nat.reduceMul, Nat.reduceBEq, Int.reduceEq, Int.reduceLT, Int.reduceLE, Int.reduceNeg, Int.reduceToNat, reduceIte]
  refine CP.go (big_c bs hb) rfl (by simp [V.refsL, V.refs, refsLL_map encB (fun _ => rfl) bs]) ?_
  simp (disch := omega) only [go_sem, Nat.reduceEqDiff, Nat.reduceAdd, Nat.reduceSub, Nat.reduceLeDiff, Nat.reduceLT, Nat.reduceMul, Nat.reduceBEq, Int.reduceEq, Int.reduceLT, Int.reduceLE, Int.reduceNeg, Int.reduceToNat, reduceIte]
  refine condP_dec (fun hbig => ?_) (fun hbig => ?_)
  · simp (disch := omega) only [go_sem, Nat.reduceEqDiff, Nat.reduceAdd, Nat.reduceSub, Nat.reduceLeDiff, Nat.reduceLT, Nat.reduceMul, Nat.reduceBEq, Int.reduceEq, Int.reduceLT, Int.reduceLE, Int.reduceNeg, Int.reduceToNat, reduceIte]
  · simp (disch := omega) only [go_sem, Nat.reduceEqDiff, Nat.reduceAdd, Nat.reduceSub, Nat.reduceLeDiff, Nat.reduceLT, Nat.reduceMul, Nat.reduceBEq, Int.reduceEq, Int.reduceLT, Int.reduceLE, Int.reduceNeg, Int.reduceToNat, reduceIte]
    refine C.go (drawPair_c bs _ (by omega)) ?_
    rintro r h1 ⟨p, cs, ids, ws, l, rfl, op, np, gp, da, db, hl, hw, hws, hlg, hni, e1⟩
    obtain ⟨va, vb, ia, ib, rfl, rfl, oa, ob⟩ := op.pair
    have ov := oa.one
    have ow := ob.one
    simp (disch := omega) only [go_sem, Nat.reduceEqDiff, Nat.reduceAdd, Nat.reduceSub, Nat.reduceLeDiff, Nat.reduceLT, Nat.reduceMul, Nat.reduceBEq, Int.reduceEq, Int.reduceLT, Int.reduceLE, Int.reduceNeg, Int.reduceToNat, reduceIte, ov, ow]
    refine C.go (drawPlaces_c bs _ (by omega)) ?_
    rintro r h2 ⟨xs, l2, rfl, hl2, hx, hxs, hlg2, e2⟩
    have hl := e2.get (heap_app hl)
    obtain ⟨x0, h0⟩ : ∃ a, xs[0]? = some a := ⟨_, List.getElem?_eq_getElem (by omega)⟩
    obtain ⟨x1, h1'⟩ : ∃ a, xs[1]? = some a := ⟨_, List.getElem?_eq_getElem (by omega)⟩
    obtain ⟨x2, h2'⟩ : ∃ a, xs[2]? = some a := ⟨_, List.getElem?_eq_getElem (by omega)⟩
    have b0 := hxs x0 (List.mem_of_getElem? h0)
    have b1 := hxs x1 (List.mem_of_getElem? h1')
    have b2 := hxs x2 (List.mem_of_getElem? h2')
    obtain ⟨k, hk⟩ : ∃ k : Nat, x0.tmod 6 = k := ⟨(x0.tmod 6).toNat, by have := tmod_bd (n := 6) b0.1 (by omega); omega⟩
    have hk6 : k < 6 := by have := tmod_bd (n := 6) b0.1 (by omega); omega
    obtain ⟨wk, hwk⟩ : ∃ a, ws[k]? = some a := ⟨_, List.getElem?_eq_getElem (by omega)⟩
    have bk := hws wk (List.mem_of_getElem? hwk)
    have hll := heap_lt hl
    have hll2 := heap_lt hl2
    have gl : ∀ t, (h2 ++ t)[l]? = some (ws.map encI) := fun t => heap_app hl
    have gl2 : ∀ t, (h2 ++ t)[l2]? = some (xs.map encI) := fun t => heap_app hl2
    simp (disch := omega) only [go_sem, Nat.reduceEqDiff, Nat.reduceAdd, Nat.reduceSub, Nat.reduceLeDiff, Nat.reduceLT, Nat.reduceMul, Nat.reduceBEq, Int.reduceEq, Int.reduceLT, Int.reduceLE, Int.reduceNeg, Int.reduceToNat, reduceIte, encI, hl2, hx, h0, h1', h2', hk, List.getElem?_map, gl, gl2]
    rw [appendH_n (n := 0) (m := 6) (b := []) (xs := ws.map encI) (at_app0 _ _) rfl (elemsOf_n (gl _) (by simpa using hw)) (by simpa using hw) (by omega)]
    simp (disch := omega) only [go_sem, Nat.reduceEqDiff, Nat.reduceAdd, Nat.reduceSub, Nat.reduceLeDiff, Nat.reduceLT, Nat.reduceMul, Nat.reduceBEq, Int.reduceEq, Int.reduceLT, Int.reduceLE, Int.reduceNeg, Int.reduceToNat, reduceIte, encI, hl2, hx, hw, h0, h1', h2', hk, hwk, List.getElem?_map, gl, gl2, storeH, storeB, splice]
    have hv : (List.map encI ws).set k [V.int .i64 (wk + 1 + x1)] = (ws.set k (wk + 1 + x1)).map encI := by rw [List.map_set]; rfl
    have hvl : (ws.set k (wk + 1 + x1)).length = 6 := by simpa using hw
    have hwl : (ws.map encI).length = 6 := by simpa using hw
    have n0 := sum_nonneg (s := x2) hw
    have n1 : ¬ sumOf x2 ws = sumOf x2 (ws.set k (wk + 1 + x1)) := sum_word hw hk6 (fun a ha => by rw [hwk] at ha; cases ha; omega)
    have n2 : ¬ sumOf x2 ws = sumOf (x2 + 1) ws := sum_seq hw
    simp only [hv]
    refine CP.goS (sum_c x2 ws (by omega)) rfl rfl (.cons (.int _ _) (.cons (Snap.flatN (gl _) hwl (flat_encI _)) (.nil _))) ?_
    simp (disch := omega) only [go_sem, Nat.reduceEqDiff, Nat.reduceAdd, Nat.reduceSub, Nat.reduceLeDiff, Nat.reduceLT, Nat.reduceMul, Nat.reduceBEq, Int.reduceEq, Int.reduceLT, Int.reduceLE, Int.reduceNeg, Int.reduceToNat, reduceIte, n0, encI, hl2, hx, hw, h0, h1', h2', hk, hwk, List.getElem?_map, gl, gl2, storeH, storeB, splice]
    refine CP.goS (sum_c x2 (ws.set k (wk + 1 + x1)) (by omega)) rfl rfl (.cons (.int _ _) (.cons (Snap.flatN (at_app0 _ _) (by simpa using hw) (flat_encI _)) (.nil _))) ?_
    simp (disch := omega) only [go_sem, Nat.reduceEqDiff, Nat.reduceAdd, Nat.reduceSub, Nat.reduceLeDiff, Nat.reduceLT, Nat.reduceMul, Nat.reduceBEq, Int.reduceEq, Int.reduceLT, Int.reduceLE, Int.reduceNeg, Int.reduceToNat, reduceIte, n0, n1, n2, encI, hl2, hx, hw, h0, h1', h2', hk, hwk, List.getElem?_map, gl, gl2, storeH, storeB, splice]
    refine CP.goS (sum_c (x2 + 1) ws (by omega)) rfl rfl (.cons (.int _ _) (.cons (Snap.flatN (gl _) hwl (flat_encI _)) (.nil _))) ?_
    simp (disch := omega) only [go_sem, Nat.reduceEqDiff, Nat.reduceAdd, Nat.reduceSub, Nat.reduceLeDiff, Nat.reduceLT, Nat.reduceMul, Nat.reduceBEq, Int.reduceEq, Int.reduceLT, Int.reduceLE, Int.reduceNeg, Int.reduceToNat, reduceIte, n0, n1, n2, encI, hl2, hx, hw, h0, h1', h2', hk, hwk, List.getElem?_map, gl, gl2, storeH, storeB, splice]
end Go.Av
