import Derived.Test.YtpjcclgpkicadaaJ6Draw
namespace Go.Av
open Go.Proofs Go.RowKit
set_option linter.unusedVariables false
set_option linter.unusedSimpArgs false
set_option maxRecDepth 100000
set_option maxHeartbeats 4000000
def within (a b c : Int) : Bool := decide (b ≤ a) && decide (a ≤ c)
theorem within_dec (a b c : Int) : within a b c = decide (b ≤ a ∧ a ≤ c) := by simp [within]
theorem within_c (a b c : Int) : CP Try.prog 73 [.int .i64 a, .int .i64 b, .int .i64 c] (.bool (within a b c)) [] := by
  refine CP.by rfl mixed (cfn_ok Try.func73 ok73) rfl ?_
  simp (disch := omega) only [s73, go_sem, Nat.reduceEqDiff, Nat.reduceAdd, Nat.reduceSub, Nat.reduceLeDiff, Nat.reduceLT, Nat.reduceMul, Nat.reduceBEq, Int.reduceEq, Int.reduceLT, Int.reduceLE, Int.reduceNeg, Int.reduceToNat, Int.reduceSub, Int.reduceAdd, reduceIte]
  refine condP_dec (fun h => ?_) (fun h => ?_) <;> simp (disch := omega) only [go_sem, Nat.reduceEqDiff, Nat.reduceAdd, Nat.reduceSub, Nat.reduceLeDiff, Nat.reduceLT, Nat.reduceMul, Nat.reduceBEq, Int.reduceEq, Int.reduceLT, Int.reduceLE, Int.reduceNeg, Int.reduceToNat, Int.reduceSub, Int.reduceAdd, reduceIte] <;> simp [within, h]
theorem l01In_c (a b c : Int) : CP Try.prog 93 [.int .i64 a, .int .i64 b, .int .i64 c] (.bool (within a b c)) [] := by
  refine CP.by rfl mixed (cfn_ok Try.func93 ok93) rfl ?_
  simp (disch := omega) only [s93, go_sem, Nat.reduceEqDiff, Nat.reduceAdd, Nat.reduceSub, Nat.reduceLeDiff, Nat.reduceLT, Nat.reduceMul, Nat.reduceBEq, Int.reduceEq, Int.reduceLT, Int.reduceLE, Int.reduceNeg, Int.reduceToNat, Int.reduceSub, Int.reduceAdd, reduceIte]
  refine condP_dec (fun h => ?_) (fun h => ?_) <;> simp (disch := omega) only [go_sem, Nat.reduceEqDiff, Nat.reduceAdd, Nat.reduceSub, Nat.reduceLeDiff, Nat.reduceLT, Nat.reduceMul, Nat.reduceBEq, Int.reduceEq, Int.reduceLT, Int.reduceLE, Int.reduceNeg, Int.reduceToNat, Int.reduceSub, Int.reduceAdd, reduceIte] <;> simp [within, h]
theorem refs_ints (n : Nat) (zs : List Int) : V.refs n (.lst 1 (zs.map encI)) = true := by simp [V.refs, refsLL_map encI (fun _ => rfl) zs]
theorem refs_ints1 (n : Nat) (zs : List Int) : V.refsL n [.lst 1 (zs.map encI)] = true := by simp [V.refsL, refs_ints]
theorem refs_ints2 (n : Nat) (zs : List Int) (x : V) (hx : V.refs n x = true) : V.refsL n [.lst 1 (zs.map encI), x] = true := by simp [V.refsL, refs_ints, hx]
def idxI {α : Type} (p : α → Bool) (ts : List α) : Int := if ts.any p = true then (ts.findIdx p : Int) else -1
theorem idxI_found {α : Type} {p : α → Bool} {ts : List α} {k : Nat} (hk : k < ts.length) (h : p ts[k] = true) (ha : ∀ j (hj : j < ts.length), j < k → p ts[j] = false) : idxI p ts = k := by
  have h1 : ts.findIdx p = k := (List.findIdx_eq hk).2 ⟨h, fun j hj => ha j (by omega) hj⟩
  have h2 : ts.any p = true := List.any_eq_true.2 ⟨ts[k], List.getElem_mem hk, h⟩
  rw [idxI, if_pos h2, h1]
theorem idxI_none {α : Type} {p : α → Bool} {ts : List α} (ha : ∀ j (hj : j < ts.length), p ts[j] = false) : idxI p ts = -1 := by
  rw [idxI, if_neg (fun c => by
    obtain ⟨t, ht, hn⟩ := List.any_eq_true.1 c
    obtain ⟨j, hj, rfl⟩ := List.getElem_of_mem ht
    rw [ha j hj] at hn; cases hn)]
theorem idxI_ge {α : Type} (p : α → Bool) (ts : List α) : decide (0 ≤ idxI p ts) = ts.any p := by
  unfold idxI
  cases h : ts.any p <;> simp
theorem indexI_c (g : Nat) (p : Int → Bool) (zs : List Int) (hg : ∀ z, CP Try.prog g [.int .i64 z] (.bool (p z)) []) (hl : zs.length ≤ 9223372036854775807) : CP Try.prog 156 [.lst 1 (zs.map encI), .fn g []] (.int .i64 (idxI p zs)) [] := by
  refine CP.by rfl mixed (cfn_ok Try.func156 ok156) rfl ?_
  simp (disch := omega) only [s156, go_sem, Nat.reduceEqDiff, Nat.reduceAdd, Nat.reduceSub, Nat.reduceLeDiff, Nat.reduceLT, Nat.reduceMul, Nat.reduceBEq, Int.reduceEq, Int.reduceLT, Int.reduceLE, Int.reduceNeg, Int.reduceToNat, Int.reduceSub, Int.reduceAdd, reduceIte]
  refine loopP_intro (fun m s => ∃ k : Nat, k ≤ zs.length ∧ m = zs.length - k ∧ s.e 0 = .lst 1 (zs.map encI) ∧ s.e 1 = .fn g [] ∧ s.e 7 = .int .i64 zs.length ∧ s.e 8 = .int .i64 k ∧ ∀ j (hj : j < zs.length), j < k → p zs[j] = false) zs.length ⟨0, by omega, by omega, rfl, rfl, by simp (disch := omega) only [go_sem, Nat.reduceEqDiff, Nat.reduceAdd, Nat.reduceSub, Nat.reduceLeDiff, Nat.reduceLT, Nat.reduceMul, Nat.reduceBEq, Int.reduceEq, Int.reduceLT, Int.reduceLE, Int.reduceNeg, Int.reduceToNat, Int.reduceSub, Int.reduceAdd, reduceIte], rfl, fun j _ h => absurd h (by omega)⟩ ?_
  rintro m e hp ⟨k, hk, rfl, e0, e1, e7, e8, hall⟩
  simp only at e0 e1 e7 e8
  simp (disch := omega) only [go_sem, Nat.reduceEqDiff, Nat.reduceAdd, Nat.reduceSub, Nat.reduceLeDiff, Nat.reduceLT, Nat.reduceMul, Nat.reduceBEq, Int.reduceEq, Int.reduceLT, Int.reduceLE, Int.reduceNeg, Int.reduceToNat, Int.reduceSub, Int.reduceAdd, reduceIte, e0, e1, e7, e8, encI]
  refine condP_dec (fun hlt => ?_) (fun hlt => ?_)
  · have hlt' : k < zs.length := by omega
    simp (disch := omega) only [go_sem, Nat.reduceEqDiff, Nat.reduceAdd, Nat.reduceSub, Nat.reduceLeDiff, Nat.reduceLT, Nat.reduceMul, Nat.reduceBEq, Int.reduceEq, Int.reduceLT, Int.reduceLE, Int.reduceNeg, Int.reduceToNat, Int.reduceSub, Int.reduceAdd, reduceIte, e0, e1, e7, e8, encI]
    refine CP.go (hg zs[k]) rfl rfl ?_
    simp (disch := omega) only [go_sem, Nat.reduceEqDiff, Nat.reduceAdd, Nat.reduceSub, Nat.reduceLeDiff, Nat.reduceLT, Nat.reduceMul, Nat.reduceBEq, Int.reduceEq, Int.reduceLT, Int.reduceLE, Int.reduceNeg, Int.reduceToNat, Int.reduceSub, Int.reduceAdd, reduceIte, e0, e1, e7, e8, encI]
    refine condP_split (fun h => ?_) (fun h => ?_)
    · simp (disch := omega) only [go_sem, Nat.reduceEqDiff, Nat.reduceAdd, Nat.reduceSub, Nat.reduceLeDiff, Nat.reduceLT, Nat.reduceMul, Nat.reduceBEq, Int.reduceEq, Int.reduceLT, Int.reduceLE, Int.reduceNeg, Int.reduceToNat, Int.reduceSub, Int.reduceAdd, reduceIte, e0, e1, e7, e8, encI]
      rw [idxI_found hlt' h hall]
    · simp (disch := omega) only [go_sem, Nat.reduceEqDiff, Nat.reduceAdd, Nat.reduceSub, Nat.reduceLeDiff, Nat.reduceLT, Nat.reduceMul, Nat.reduceBEq, Int.reduceEq, Int.reduceLT, Int.reduceLE, Int.reduceNeg, Int.reduceToNat, Int.reduceSub, Int.reduceAdd, reduceIte, e0, e1, e7, e8, encI]
      refine nextP_intro (zs.length - (k + 1)) (by omega) ⟨k + 1, by omega, rfl, ?_, ?_, ?_, ?_, fun j hj hjk => ?_⟩
      · simp (disch := omega) only [go_sem, Nat.reduceEqDiff, Nat.reduceAdd, Nat.reduceSub, Nat.reduceLeDiff, Nat.reduceLT, Nat.reduceMul, Nat.reduceBEq, Int.reduceEq, Int.reduceLT, Int.reduceLE, Int.reduceNeg, Int.reduceToNat, Int.reduceSub, Int.reduceAdd, reduceIte, e0, e1, e7, e8, encI]
      · simp (disch := omega) only [go_sem, Nat.reduceEqDiff, Nat.reduceAdd, Nat.reduceSub, Nat.reduceLeDiff, Nat.reduceLT, Nat.reduceMul, Nat.reduceBEq, Int.reduceEq, Int.reduceLT, Int.reduceLE, Int.reduceNeg, Int.reduceToNat, Int.reduceSub, Int.reduceAdd, reduceIte, e0, e1, e7, e8, encI]
      · simp (disch := omega) only [go_sem, Nat.reduceEqDiff, Nat.reduceAdd, Nat.reduceSub, Nat.reduceLeDiff, Nat.reduceLT, Nat.reduceMul, Nat.reduceBEq, Int.reduceEq, Int.reduceLT, Int.reduceLE, Int.reduceNeg, Int.reduceToNat, Int.reduceSub, Int.reduceAdd, reduceIte, e0, e1, e7, e8, encI]
      · simp (disch := omega) only [go_sem, Nat.reduceEqDiff, Nat.reduceAdd, Nat.reduceSub, Nat.reduceLeDiff, Nat.reduceLT, Nat.reduceMul, Nat.reduceBEq, Int.reduceEq, Int.reduceLT, Int.reduceLE, Int.reduceNeg, Int.reduceToNat, Int.reduceSub, Int.reduceAdd, reduceIte, e0, e1, e7, e8, encI]; rfl
      · by_cases e : j = k
        · subst e; exact h
        · exact hall j hj (by omega)
  · simp (disch := omega) only [go_sem, Nat.reduceEqDiff, Nat.reduceAdd, Nat.reduceSub, Nat.reduceLeDiff, Nat.reduceLT, Nat.reduceMul, Nat.reduceBEq, Int.reduceEq, Int.reduceLT, Int.reduceLE, Int.reduceNeg, Int.reduceToNat, Int.reduceSub, Int.reduceAdd, reduceIte, e0, e1, e7, e8, encI]
    rw [idxI_none (fun j hj => hall j hj (by omega))]
theorem containsI_c (g : Nat) (p : Int → Bool) (zs : List Int) (hg : ∀ z, CP Try.prog g [.int .i64 z] (.bool (p z)) []) (hl : zs.length ≤ 9223372036854775807) : CP Try.prog 140 [.lst 1 (zs.map encI), .fn g []] (.bool (zs.any p)) [] := by
  refine CP.by rfl mixed (cfn_ok Try.func140 ok140) rfl ?_
  simp (disch := omega) only [s140, go_sem, Nat.reduceEqDiff, Nat.reduceAdd, Nat.reduceSub, Nat.reduceLeDiff, Nat.reduceLT, Nat.reduceMul, Nat.reduceBEq, Int.reduceEq, Int.reduceLT, Int.reduceLE, Int.reduceNeg, Int.reduceToNat, Int.reduceSub, Int.reduceAdd, reduceIte]
  refine CP.go (indexI_c g p zs hg hl) rfl (refs_ints2 _ _ _ rfl) ?_
  simp (disch := omega) only [go_sem, Nat.reduceEqDiff, Nat.reduceAdd, Nat.reduceSub, Nat.reduceLeDiff, Nat.reduceLT, Nat.reduceMul, Nat.reduceBEq, Int.reduceEq, Int.reduceLT, Int.reduceLE, Int.reduceNeg, Int.reduceToNat, Int.reduceSub, Int.reduceAdd, reduceIte, idxI_ge]
/-- One test for every number of a list. -/
theorem all_take {α : Type} {p : α → Bool} {zs : List α} (ha : ∀ j (hj : j < zs.length), p zs[j] = true) : zs.all p = true := List.all_eq_true.2 fun t ht => by
  obtain ⟨j, hj, rfl⟩ := List.getElem_of_mem ht
  exact ha j hj
theorem all_at {α : Type} {p : α → Bool} {zs : List α} {k : Nat} (hk : k < zs.length) (h : p zs[k] = false) : zs.all p = false := List.all_eq_false.2 ⟨zs[k], List.getElem_mem hk, by simp [h]⟩
theorem storeH_row {h : Heap} {id n i sz : Nat} {b : Blk} {x : V} (hb : h[id]? = some b) (hn : b.length = n) (hi : i < n) (he : ∀ e ∈ b, e.length = sz) (hf : fit sz x.cells = true) : storeH h sz (.ptr id n i 0) x = some (h.set id (b.set i x.cells)) := by
  subst hn
  have h1 : b[i]? = some b[i] := List.getElem?_eq_getElem hi
  have h2 := he b[i] (List.getElem_mem hi)
  simp only [fit, Bool.and_eq_true, decide_eq_true_eq] at hf
  have h3 : splice b[i] 0 x.cells = x.cells := by
    have : b[i].drop x.cells.length = [] := List.drop_eq_nil_of_le (by omega)
    simp [splice, this]
  simp [storeH, storeB, hb, h1, hf.1, h2, h3]
  simpa using hf.2
theorem storeH_cell {h : Heap} {id n i j : Nat} {b : Blk} {e : List V} {v : V} (hb : h[id]? = some b) (hn : b.length = n) (he : b[i]? = some e) (hj : j < e.length) (hv : v.one = true) (hc : v.cells = [v]) : storeH h 1 (.ptr id n i j) v = some (h.set id (b.set i (e.set j v))) := by
  subst hn
  have h3 : splice e j [v] = e.set j v := by
    rw [List.set_eq_take_append_cons_drop, if_pos hj]
    simp [splice]
  simp [storeH, storeB, hb, he, hc, hv, h3]
  omega
theorem half_set {α : Type} {xs : List α} {k : Nat} (f : α → List V) (z : List V) (hk : k < xs.length) : ((xs.take k).map f ++ List.replicate (xs.length - k) z).set k (f xs[k]) = (xs.take (k + 1)).map f ++ List.replicate (xs.length - (k + 1)) z := by
  have e1 : xs.length - k = (xs.length - (k + 1)) + 1 := by omega
  have e2 : ((xs.take k).map f).length = k := by simp; omega
  rw [e1, List.replicate_succ, List.set_append_right _ _ (by omega), e2, Nat.sub_self, List.set_cons_zero, List.take_succ_eq_append_getElem hk, List.map_append, List.append_assoc]
  rfl
theorem half_len {α : Type} {xs : List α} {k : Nat} (f : α → List V) (z : List V) (hk : k ≤ xs.length) : ((xs.take k).map f ++ List.replicate (xs.length - k) z).length = xs.length := by simp; omega
theorem half_sz {α : Type} {xs : List α} {k sz : Nat} {f : α → List V} {z : List V} (hf : ∀ x, (f x).length = sz) (hz : z.length = sz) : ∀ e ∈ (xs.take k).map f ++ List.replicate (xs.length - k) z, e.length = sz := fun e he => by
  rcases List.mem_append.1 he with h1 | h1
  · obtain ⟨s, _, rfl⟩ := List.mem_map.1 h1; exact hf s
  · rw [(List.mem_replicate.1 h1).2]; exact hz
theorem toIntS_c (xs : List Int) (hx : xs.length ≤ 1048576) : CP Try.prog 18 [.lst 1 (xs.map encI)] (.own 0 1 0 xs.length xs.length) [xs.map encI] := by
  refine C.cpOwn (flat_encI _) (C.by mixed (cfn_ok Try.func18 ok18) rfl ?_)
  simp (disch := omega) only [s18, go_sem, Nat.reduceEqDiff, Nat.reduceAdd, Nat.reduceSub, Nat.reduceLeDiff, Nat.reduceLT, Nat.reduceMul, Nat.reduceBEq, Int.reduceEq, Int.reduceLT, Int.reduceLE, Int.reduceNeg, Int.reduceToNat, Int.reduceSub, Int.reduceAdd, reduceIte]
  refine loopP_intro (fun m s => ∃ k : Nat, k ≤ xs.length ∧ m = xs.length - k ∧ s.e 0 = .lst 1 (xs.map encI) ∧ s.e 4 = .int .i64 k ∧ s.e 3 = .own 0 1 0 xs.length xs.length ∧ s.h[0]? = some ((xs.take k).map encI ++ List.replicate (xs.length - k) (encI 0))) xs.length ⟨0, by omega, by omega, rfl, rfl, rfl, by simp [encI]⟩ ?_
  rintro m e hp ⟨k, hk, rfl, e0, e4, e3, hid⟩
  simp only at e0 e4 e3 hid
  simp (disch := omega) only [go_sem, Nat.reduceEqDiff, Nat.reduceAdd, Nat.reduceSub, Nat.reduceLeDiff, Nat.reduceLT, Nat.reduceMul, Nat.reduceBEq, Int.reduceEq, Int.reduceLT, Int.reduceLE, Int.reduceNeg, Int.reduceToNat, Int.reduceSub, Int.reduceAdd, reduceIte, e0, e4, e3, encI]
  refine condP_dec (fun hlt => ?_) (fun hlt => ?_)
  · have hlt' : k < xs.length := by omega
    simp (disch := omega) only [go_sem, Nat.reduceEqDiff, Nat.reduceAdd, Nat.reduceSub, Nat.reduceLeDiff, Nat.reduceLT, Nat.reduceMul, Nat.reduceBEq, Int.reduceEq, Int.reduceLT, Int.reduceLE, Int.reduceNeg, Int.reduceToNat, Int.reduceSub, Int.reduceAdd, reduceIte, e0, e4, e3, encI]
    rw [storeH_row hid (half_len _ _ hk) hlt' (half_sz (fun _ => rfl) rfl) rfl]
    simp (disch := omega) only [go_sem, Nat.reduceEqDiff, Nat.reduceAdd, Nat.reduceSub, Nat.reduceLeDiff, Nat.reduceLT, Nat.reduceMul, Nat.reduceBEq, Int.reduceEq, Int.reduceLT, Int.reduceLE, Int.reduceNeg, Int.reduceToNat, Int.reduceSub, Int.reduceAdd, reduceIte, e0, e4, e3, encI]
    refine nextP_intro (xs.length - (k + 1)) (by omega) ⟨k + 1, by omega, rfl, ?_, ?_, ?_, ?_⟩
    · simp (disch := omega) only [go_sem, Nat.reduceEqDiff, Nat.reduceAdd, Nat.reduceSub, Nat.reduceLeDiff, Nat.reduceLT, Nat.reduceMul, Nat.reduceBEq, Int.reduceEq, Int.reduceLT, Int.reduceLE, Int.reduceNeg, Int.reduceToNat, Int.reduceSub, Int.reduceAdd, reduceIte, e0, e4, e3, encI]
    · simp (disch := omega) only [go_sem, Nat.reduceEqDiff, Nat.reduceAdd, Nat.reduceSub, Nat.reduceLeDiff, Nat.reduceLT, Nat.reduceMul, Nat.reduceBEq, Int.reduceEq, Int.reduceLT, Int.reduceLE, Int.reduceNeg, Int.reduceToNat, Int.reduceSub, Int.reduceAdd, reduceIte, e0, e4, e3, encI]; rfl
    · simp (disch := omega) only [go_sem, Nat.reduceEqDiff, Nat.reduceAdd, Nat.reduceSub, Nat.reduceLeDiff, Nat.reduceLT, Nat.reduceMul, Nat.reduceBEq, Int.reduceEq, Int.reduceLT, Int.reduceLE, Int.reduceNeg, Int.reduceToNat, Int.reduceSub, Int.reduceAdd, reduceIte, e0, e4, e3, encI]
    · rw [heap_set _ hid]
      congr 1
      exact half_set encI _ hlt'
  · simp (disch := omega) only [go_sem, Nat.reduceEqDiff, Nat.reduceAdd, Nat.reduceSub, Nat.reduceLeDiff, Nat.reduceLT, Nat.reduceMul, Nat.reduceBEq, Int.reduceEq, Int.reduceLT, Int.reduceLE, Int.reduceNeg, Int.reduceToNat, Int.reduceSub, Int.reduceAdd, reduceIte, e0, e4, e3, encI]
    refine ⟨0, rfl, ?_⟩
    have : k = xs.length := by omega
    subst this
    rw [hid]; simp
theorem eqIntS_c (xs ys : List Int) (hx : xs.length ≤ 9223372036854775807) : CP Try.prog 20 [.lst 1 (xs.map encI), .lst 1 (ys.map encI)] (.bool (decide (xs = ys))) [] := by
  refine CP.by rfl mixed (cfn_ok Try.func20 ok20) rfl ?_
  simp (disch := omega) only [s20, go_sem, Nat.reduceEqDiff, Nat.reduceAdd, Nat.reduceSub, Nat.reduceLeDiff, Nat.reduceLT, Nat.reduceMul, Nat.reduceBEq, Int.reduceEq, Int.reduceLT, Int.reduceLE, Int.reduceNeg, Int.reduceToNat, Int.reduceSub, Int.reduceAdd, reduceIte, encI]
  refine condP_dec (fun hl => ?_) (fun hl => ?_)
  · simp (disch := omega) only [go_sem, Nat.reduceEqDiff, Nat.reduceAdd, Nat.reduceSub, Nat.reduceLeDiff, Nat.reduceLT, Nat.reduceMul, Nat.reduceBEq, Int.reduceEq, Int.reduceLT, Int.reduceLE, Int.reduceNeg, Int.reduceToNat, Int.reduceSub, Int.reduceAdd, reduceIte, encI]
    have hl' : xs.length = ys.length := by omega
    refine loopP_intro (fun m s => ∃ k : Nat, k ≤ xs.length ∧ m = xs.length - k ∧ s.e 0 = .lst 1 (xs.map encI) ∧ s.e 1 = .lst 1 (ys.map encI) ∧ s.e 5 = .int .i64 k ∧ xs.take k = ys.take k) xs.length ⟨0, by omega, by omega, rfl, rfl, rfl, rfl⟩ ?_
    rintro m e hp ⟨k, hk, rfl, e0, e1, e5, ht⟩
    simp only at e0 e1 e5
    simp (disch := omega) only [go_sem, Nat.reduceEqDiff, Nat.reduceAdd, Nat.reduceSub, Nat.reduceLeDiff, Nat.reduceLT, Nat.reduceMul, Nat.reduceBEq, Int.reduceEq, Int.reduceLT, Int.reduceLE, Int.reduceNeg, Int.reduceToNat, Int.reduceSub, Int.reduceAdd, reduceIte, e0, e1, e5, encI]
    refine condP_dec (fun hlt => ?_) (fun hlt => ?_)
    · have hlt' : k < xs.length := by omega
      have hlt2 : k < ys.length := by omega
      simp (disch := omega) only [go_sem, Nat.reduceEqDiff, Nat.reduceAdd, Nat.reduceSub, Nat.reduceLeDiff, Nat.reduceLT, Nat.reduceMul, Nat.reduceBEq, Int.reduceEq, Int.reduceLT, Int.reduceLE, Int.reduceNeg, Int.reduceToNat, Int.reduceSub, Int.reduceAdd, reduceIte, e0, e1, e5, encI]
      refine condP_dec (fun hq => ?_) (fun hq => ?_)
      · simp (disch := omega) only [go_sem, Nat.reduceEqDiff, Nat.reduceAdd, Nat.reduceSub, Nat.reduceLeDiff, Nat.reduceLT, Nat.reduceMul, Nat.reduceBEq, Int.reduceEq, Int.reduceLT, Int.reduceLE, Int.reduceNeg, Int.reduceToNat, Int.reduceSub, Int.reduceAdd, reduceIte, e0, e1, e5, encI]
        refine nextP_intro (xs.length - (k + 1)) (by omega) ⟨k + 1, by omega, rfl, ?_, ?_, ?_, ?_⟩
        · simp (disch := omega) only [go_sem, Nat.reduceEqDiff, Nat.reduceAdd, Nat.reduceSub, Nat.reduceLeDiff, Nat.reduceLT, Nat.reduceMul, Nat.reduceBEq, Int.reduceEq, Int.reduceLT, Int.reduceLE, Int.reduceNeg, Int.reduceToNat, Int.reduceSub, Int.reduceAdd, reduceIte, e0, e1, e5, encI]
        · simp (disch := omega) only [go_sem, Nat.reduceEqDiff, Nat.reduceAdd, Nat.reduceSub, Nat.reduceLeDiff, Nat.reduceLT, Nat.reduceMul, Nat.reduceBEq, Int.reduceEq, Int.reduceLT, Int.reduceLE, Int.reduceNeg, Int.reduceToNat, Int.reduceSub, Int.reduceAdd, reduceIte, e0, e1, e5, encI]
        · simp (disch := omega) only [go_sem, Nat.reduceEqDiff, Nat.reduceAdd, Nat.reduceSub, Nat.reduceLeDiff, Nat.reduceLT, Nat.reduceMul, Nat.reduceBEq, Int.reduceEq, Int.reduceLT, Int.reduceLE, Int.reduceNeg, Int.reduceToNat, Int.reduceSub, Int.reduceAdd, reduceIte, e0, e1, e5, encI]; rfl
        · rw [List.take_succ_eq_append_getElem hlt', List.take_succ_eq_append_getElem hlt2, ht, hq]
      · simp (disch := omega) only [go_sem, Nat.reduceEqDiff, Nat.reduceAdd, Nat.reduceSub, Nat.reduceLeDiff, Nat.reduceLT, Nat.reduceMul, Nat.reduceBEq, Int.reduceEq, Int.reduceLT, Int.reduceLE, Int.reduceNeg, Int.reduceToNat, Int.reduceSub, Int.reduceAdd, reduceIte, e0, e1, e5, encI]
        have : xs ≠ ys := fun e => by subst e; exact hq rfl
        simp [this]
    · simp (disch := omega) only [go_sem, Nat.reduceEqDiff, Nat.reduceAdd, Nat.reduceSub, Nat.reduceLeDiff, Nat.reduceLT, Nat.reduceMul, Nat.reduceBEq, Int.reduceEq, Int.reduceLT, Int.reduceLE, Int.reduceNeg, Int.reduceToNat, Int.reduceSub, Int.reduceAdd, reduceIte, e0, e1, e5, encI]
      have : k = xs.length := by omega
      subst this
      rw [List.take_length] at ht
      have : xs = ys := by rw [ht, hl', List.take_length]
      simp [this]
  · simp (disch := omega) only [go_sem, Nat.reduceEqDiff, Nat.reduceAdd, Nat.reduceSub, Nat.reduceLeDiff, Nat.reduceLT, Nat.reduceMul, Nat.reduceBEq, Int.reduceEq, Int.reduceLT, Int.reduceLE, Int.reduceNeg, Int.reduceToNat, Int.reduceSub, Int.reduceAdd, reduceIte, encI]
    have : xs ≠ ys := fun e => by subst e; exact hl rfl
    simp [this]
end Go.Av
