import Derived.Test.YtpjcclgpkicadaaJ6Lib
namespace Go.Av
open Go.Proofs Go.RowKit
set_option linter.unusedVariables false
set_option linter.unusedSimpArgs false
set_option maxRecDepth 100000
set_option maxHeartbeats 4000000
structure Store where
  charge : Int
  cap : Int
  on : Int
  leak : Int
def encStore (s : Store) : List V := [.int .i64 s.charge, .int .i64 s.cap, .int .i64 s.on, .int .i64 s.leak]
def storeOk (s : Store) : Bool := within s.cap 1 5000 && within s.charge 0 s.cap && within s.on 1 s.cap && within s.leak 0 100
structure StoreIn (s : Store) : Prop where
  cap : 1 ≤ s.cap ∧ s.cap ≤ 5000
  charge : 0 ≤ s.charge ∧ s.charge ≤ s.cap
  on : 1 ≤ s.on ∧ s.on ≤ s.cap
  leak : 0 ≤ s.leak ∧ s.leak ≤ 100
theorem storeIn {s : Store} (h : storeOk s = true) : StoreIn s := by
  simp only [storeOk, within, Bool.and_eq_true, decide_eq_true_eq] at h
  exact ⟨h.1.1.1, h.1.1.2, h.1.2, h.2⟩
def isHarvest (n : Int) : Bool := within n 0 1000
def tickM (s : Store) (n : Int) : Store := ⟨max 0 (min (s.charge + n - s.leak) s.cap), s.cap, s.on, s.leak⟩
theorem tickIn {s : Store} (n : Int) (h : StoreIn s) : StoreIn (tickM s n) := ⟨h.cap, by have := h.cap; show 0 ≤ max 0 (min (s.charge + n - s.leak) s.cap) ∧ max 0 (min (s.charge + n - s.leak) s.cap) ≤ s.cap; omega, h.on, h.leak⟩
def emptied (s : Store) : Store := ⟨0, s.cap, s.on, s.leak⟩
theorem emptiedIn {s : Store} (h : StoreIn s) : StoreIn (emptied s) := ⟨h.cap, by have := h.cap; show (0 : Int) ≤ 0 ∧ 0 ≤ s.cap; omega, h.on, h.leak⟩
/-- The energies of boots. -/
def enM : Store → List Int → List Int
  | _, [] => []
  | s, n :: ns => if s.on ≤ (tickM s n).charge then (tickM s n).charge :: enM (emptied (tickM s n)) ns else enM (tickM s n) ns
theorem enM_drop {hs : List Int} {k : Nat} (h : k < hs.length) (s : Store) : enM s (hs.drop k) = if s.on ≤ (tickM s hs[k]).charge then (tickM s hs[k]).charge :: enM (emptied (tickM s hs[k])) (hs.drop (k + 1)) else enM (tickM s hs[k]) (hs.drop (k + 1)) := by
  rw [List.drop_eq_getElem_cons h]; rfl
theorem enM_len : ∀ (hs : List Int) (s : Store), (enM s hs).length ≤ hs.length
  | [], s => Nat.le_refl _
  | n :: ns, s => by
    unfold enM
    have h1 := enM_len ns (emptied (tickM s n))
    have h2 := enM_len ns (tickM s n)
    split <;> simp <;> omega
def harvOk (s : Store) (hs : List Int) : Bool := storeOk s && decide ((hs.length : Int) ≤ 500) && hs.all isHarvest
theorem storeOk_c (s : Store) : CP Try.prog 134 [.agg (encStore s)] (.bool (storeOk s)) [] := by
  obtain ⟨charge, cap, on, leak⟩ := s
  refine CP.by rfl mixed (cfn_ok Try.func134 ok134) rfl ?_
  simp (disch := omega) only [s134, go_sem, Nat.reduceEqDiff, Nat.reduceAdd, Nat.reduceSub, Nat.reduceLeDiff, Nat.reduceLT, Nat.reduceMul, Nat.reduceBEq, Int.reduceEq, Int.reduceLT, Int.reduceLE, Int.reduceNeg, Int.reduceToNat, reduceIte, encStore]
  repeat' (first | (refine CP.go (within_c _ _ _) rfl rfl ?_ <;> (try simp (disch := omega) only [go_sem, Nat.reduceEqDiff, Nat.reduceAdd, Nat.reduceSub, Nat.reduceLeDiff, Nat.reduceLT, Nat.reduceMul, Nat.reduceBEq, Int.reduceEq, Int.reduceLT, Int.reduceLE, Int.reduceNeg, Int.reduceToNat, reduceIte])) | (refine condP_t (by assumption) ?_ <;> (try simp (disch := omega) only [go_sem, Nat.reduceEqDiff, Nat.reduceAdd, Nat.reduceSub, Nat.reduceLeDiff, Nat.reduceLT, Nat.reduceMul, Nat.reduceBEq, Int.reduceEq, Int.reduceLT, Int.reduceLE, Int.reduceNeg, Int.reduceToNat, reduceIte])) | (refine condP_f (by assumption) ?_ <;> (try simp (disch := omega) only [go_sem, Nat.reduceEqDiff, Nat.reduceAdd, Nat.reduceSub, Nat.reduceLeDiff, Nat.reduceLT, Nat.reduceMul, Nat.reduceBEq, Int.reduceEq, Int.reduceLT, Int.reduceLE, Int.reduceNeg, Int.reduceToNat, reduceIte])) | (refine condP_dec (fun h => ?_) (fun h => ?_) <;> (try simp (disch := omega) only [go_sem, Nat.reduceEqDiff, Nat.reduceAdd, Nat.reduceSub, Nat.reduceLeDiff, Nat.reduceLT, Nat.reduceMul, Nat.reduceBEq, Int.reduceEq, Int.reduceLT, Int.reduceLE, Int.reduceNeg, Int.reduceToNat, reduceIte])) | (refine condP_split (fun h => ?_) (fun h => ?_) <;> (try simp (disch := omega) only [go_sem, Nat.reduceEqDiff, Nat.reduceAdd, Nat.reduceSub, Nat.reduceLeDiff, Nat.reduceLT, Nat.reduceMul, Nat.reduceBEq, Int.reduceEq, Int.reduceLT, Int.reduceLE, Int.reduceNeg, Int.reduceToNat, reduceIte])))
  all_goals simp_all [storeOk]
theorem storeOk_s (s : Store) : CP Try.prog 149 [.agg (encStore s)] (.bool (storeOk s)) [] := by
  obtain ⟨charge, cap, on, leak⟩ := s
  refine CP.by rfl mixed (cfn_ok Try.func149 ok149) rfl ?_
  simp (disch := omega) only [s149, go_sem, Nat.reduceEqDiff, Nat.reduceAdd, Nat.reduceSub, Nat.reduceLeDiff, Nat.reduceLT, Nat.reduceMul, Nat.reduceBEq, Int.reduceEq, Int.reduceLT, Int.reduceLE, Int.reduceNeg, Int.reduceToNat, reduceIte, encStore]
  repeat' (first | (refine CP.go (l01In_c _ _ _) rfl rfl ?_ <;> (try simp (disch := omega) only [go_sem, Nat.reduceEqDiff, Nat.reduceAdd, Nat.reduceSub, Nat.reduceLeDiff, Nat.reduceLT, Nat.reduceMul, Nat.reduceBEq, Int.reduceEq, Int.reduceLT, Int.reduceLE, Int.reduceNeg, Int.reduceToNat, reduceIte])) | (refine condP_t (by assumption) ?_ <;> (try simp (disch := omega) only [go_sem, Nat.reduceEqDiff, Nat.reduceAdd, Nat.reduceSub, Nat.reduceLeDiff, Nat.reduceLT, Nat.reduceMul, Nat.reduceBEq, Int.reduceEq, Int.reduceLT, Int.reduceLE, Int.reduceNeg, Int.reduceToNat, reduceIte])) | (refine condP_f (by assumption) ?_ <;> (try simp (disch := omega) only [go_sem, Nat.reduceEqDiff, Nat.reduceAdd, Nat.reduceSub, Nat.reduceLeDiff, Nat.reduceLT, Nat.reduceMul, Nat.reduceBEq, Int.reduceEq, Int.reduceLT, Int.reduceLE, Int.reduceNeg, Int.reduceToNat, reduceIte])) | (refine condP_dec (fun h => ?_) (fun h => ?_) <;> (try simp (disch := omega) only [go_sem, Nat.reduceEqDiff, Nat.reduceAdd, Nat.reduceSub, Nat.reduceLeDiff, Nat.reduceLT, Nat.reduceMul, Nat.reduceBEq, Int.reduceEq, Int.reduceLT, Int.reduceLE, Int.reduceNeg, Int.reduceToNat, reduceIte])) | (refine condP_split (fun h => ?_) (fun h => ?_) <;> (try simp (disch := omega) only [go_sem, Nat.reduceEqDiff, Nat.reduceAdd, Nat.reduceSub, Nat.reduceLeDiff, Nat.reduceLT, Nat.reduceMul, Nat.reduceBEq, Int.reduceEq, Int.reduceLT, Int.reduceLE, Int.reduceNeg, Int.reduceToNat, reduceIte])))
  all_goals simp_all [storeOk]
theorem isHarvest_c (n : Int) : CP Try.prog 153 [.int .i64 n] (.bool (isHarvest n)) [] := by
  refine CP.by rfl mixed (cfn_ok Try.func153 ok153) rfl ?_
  simp (disch := omega) only [s153, go_sem, Nat.reduceEqDiff, Nat.reduceAdd, Nat.reduceSub, Nat.reduceLeDiff, Nat.reduceLT, Nat.reduceMul, Nat.reduceBEq, Int.reduceEq, Int.reduceLT, Int.reduceLE, Int.reduceNeg, Int.reduceToNat, reduceIte]
  refine CP.go (within_c _ _ _) rfl rfl ?_
  simp (disch := omega) only [go_sem, Nat.reduceEqDiff, Nat.reduceAdd, Nat.reduceSub, Nat.reduceLeDiff, Nat.reduceLT, Nat.reduceMul, Nat.reduceBEq, Int.reduceEq, Int.reduceLT, Int.reduceLE, Int.reduceNeg, Int.reduceToNat, reduceIte]
  rfl
theorem notHarvest_c (n : Int) : CP Try.prog 152 [.int .i64 n] (.bool (!isHarvest n)) [] := by
  refine CP.by rfl mixed (cfn_ok Try.func152 ok152) rfl ?_
  simp (disch := omega) only [s152, go_sem, Nat.reduceEqDiff, Nat.reduceAdd, Nat.reduceSub, Nat.reduceLeDiff, Nat.reduceLT, Nat.reduceMul, Nat.reduceBEq, Int.reduceEq, Int.reduceLT, Int.reduceLE, Int.reduceNeg, Int.reduceToNat, reduceIte]
  refine CP.go (isHarvest_c _) rfl rfl ?_
  simp (disch := omega) only [go_sem, Nat.reduceEqDiff, Nat.reduceAdd, Nat.reduceSub, Nat.reduceLeDiff, Nat.reduceLT, Nat.reduceMul, Nat.reduceBEq, Int.reduceEq, Int.reduceLT, Int.reduceLE, Int.reduceNeg, Int.reduceToNat, reduceIte]
theorem areHarvests_c (hs : List Int) (hl : hs.length ≤ 9223372036854775807) : CP Try.prog 135 [.lst 1 (hs.map encI)] (.bool (hs.all isHarvest)) [] := by
  refine CP.by rfl mixed (cfn_ok Try.func135 ok135) rfl ?_
  simp (disch := omega) only [s135, go_sem, Nat.reduceEqDiff, Nat.reduceAdd, Nat.reduceSub, Nat.reduceLeDiff, Nat.reduceLT, Nat.reduceMul, Nat.reduceBEq, Int.reduceEq, Int.reduceLT, Int.reduceLE, Int.reduceNeg, Int.reduceToNat, reduceIte]
  refine CP.go (containsI_c _ _ hs notHarvest_c hl) rfl (refs_ints2 _ _ _ rfl) ?_
  simp (disch := omega) only [go_sem, Nat.reduceEqDiff, Nat.reduceAdd, Nat.reduceSub, Nat.reduceLeDiff, Nat.reduceLT, Nat.reduceMul, Nat.reduceBEq, Int.reduceEq, Int.reduceLT, Int.reduceLE, Int.reduceNeg, Int.reduceToNat, reduceIte]
  rw [List.not_any_eq_all_not]; simp
theorem harvests_s (hs : List Int) (hl : hs.length ≤ 9223372036854775807) : CP Try.prog 150 [.lst 1 (hs.map encI)] (.bool (hs.all isHarvest)) [] := by
  refine CP.by rfl mixed (cfn_ok Try.func150 ok150) rfl ?_
  simp (disch := omega) only [s150, go_sem, Nat.reduceEqDiff, Nat.reduceAdd, Nat.reduceSub, Nat.reduceLeDiff, Nat.reduceLT, Nat.reduceMul, Nat.reduceBEq, Int.reduceEq, Int.reduceLT, Int.reduceLE, Int.reduceNeg, Int.reduceToNat, reduceIte]
  refine loopP_intro (fun m s => ∃ k : Nat, k ≤ hs.length ∧ m = hs.length - k ∧ s.e 0 = .lst 1 (hs.map encI) ∧ s.e 3 = .int .i64 k ∧ ∀ j (hj : j < hs.length), j < k → isHarvest hs[j] = true) hs.length ⟨0, by omega, by omega, rfl, rfl, fun j _ h => absurd h (by omega)⟩ ?_
  rintro m e hp ⟨k, hk, rfl, e0, e3, hall⟩
  simp only at e0 e3
  simp (disch := omega) only [go_sem, Nat.reduceEqDiff, Nat.reduceAdd, Nat.reduceSub, Nat.reduceLeDiff, Nat.reduceLT, Nat.reduceMul, Nat.reduceBEq, Int.reduceEq, Int.reduceLT, Int.reduceLE, Int.reduceNeg, Int.reduceToNat, reduceIte, e0, e3, encI]
  refine condP_dec (fun hlt => ?_) (fun hlt => ?_)
  · have hlt' : k < hs.length := by omega
    simp (disch := omega) only [go_sem, Nat.reduceEqDiff, Nat.reduceAdd, Nat.reduceSub, Nat.reduceLeDiff, Nat.reduceLT, Nat.reduceMul, Nat.reduceBEq, Int.reduceEq, Int.reduceLT, Int.reduceLE, Int.reduceNeg, Int.reduceToNat, reduceIte, e0, e3, encI]
    refine CP.go (l01In_c hs[k] 0 1000) rfl rfl ?_
    simp (disch := omega) only [go_sem, Nat.reduceEqDiff, Nat.reduceAdd, Nat.reduceSub, Nat.reduceLeDiff, Nat.reduceLT, Nat.reduceMul, Nat.reduceBEq, Int.reduceEq, Int.reduceLT, Int.reduceLE, Int.reduceNeg, Int.reduceToNat, reduceIte, e0, e3, encI]
    refine condP_split (fun h => ?_) (fun h => ?_)
    · simp (disch := omega) only [go_sem, Nat.reduceEqDiff, Nat.reduceAdd, Nat.reduceSub, Nat.reduceLeDiff, Nat.reduceLT, Nat.reduceMul, Nat.reduceBEq, Int.reduceEq, Int.reduceLT, Int.reduceLE, Int.reduceNeg, Int.reduceToNat, reduceIte, e0, e3, encI]
      refine nextP_intro (hs.length - (k + 1)) (by omega) ⟨k + 1, by omega, rfl, ?_, ?_, fun j hj hjk => ?_⟩
      · simp (disch := omega) only [go_sem, Nat.reduceEqDiff, Nat.reduceAdd, Nat.reduceSub, Nat.reduceLeDiff, Nat.reduceLT, Nat.reduceMul, Nat.reduceBEq, Int.reduceEq, Int.reduceLT, Int.reduceLE, Int.reduceNeg, Int.reduceToNat, reduceIte, e0, e3, encI]
      · simp (disch := omega) only [go_sem, Nat.reduceEqDiff, Nat.reduceAdd, Nat.reduceSub, Nat.reduceLeDiff, Nat.reduceLT, Nat.reduceMul, Nat.reduceBEq, Int.reduceEq, Int.reduceLT, Int.reduceLE, Int.reduceNeg, Int.reduceToNat, reduceIte, e0, e3, encI]; rfl
      · by_cases e : j = k
        · subst e; exact h
        · exact hall j hj (by omega)
    · simp (disch := omega) only [go_sem, Nat.reduceEqDiff, Nat.reduceAdd, Nat.reduceSub, Nat.reduceLeDiff, Nat.reduceLT, Nat.reduceMul, Nat.reduceBEq, Int.reduceEq, Int.reduceLT, Int.reduceLE, Int.reduceNeg, Int.reduceToNat, reduceIte, e0, e3, encI]
      rw [all_at hlt' h]
  · simp (disch := omega) only [go_sem, Nat.reduceEqDiff, Nat.reduceAdd, Nat.reduceSub, Nat.reduceLeDiff, Nat.reduceLT, Nat.reduceMul, Nat.reduceBEq, Int.reduceEq, Int.reduceLT, Int.reduceLE, Int.reduceNeg, Int.reduceToNat, reduceIte, e0, e3, encI]
    rw [all_take (fun j hj => hall j hj (by omega))]
theorem harvOk_s (s : Store) (hs : List Int) (hl : hs.length ≤ 9223372036854775807) : CP Try.prog 132 [.agg (encStore s), .lst 1 (hs.map encI)] (.bool (harvOk s hs)) [] := by
  obtain ⟨charge, cap, on, leak⟩ := s
  refine CP.by rfl mixed (cfn_ok Try.func132 ok132) rfl ?_
  simp (disch := omega) only [s132, go_sem, Nat.reduceEqDiff, Nat.reduceAdd, Nat.reduceSub, Nat.reduceLeDiff, Nat.reduceLT, Nat.reduceMul, Nat.reduceBEq, Int.reduceEq, Int.reduceLT, Int.reduceLE, Int.reduceNeg, Int.reduceToNat, reduceIte, encStore]
  refine CP.go (storeOk_s ⟨charge, cap, on, leak⟩) rfl rfl ?_
  simp (disch := omega) only [go_sem, Nat.reduceEqDiff, Nat.reduceAdd, Nat.reduceSub, Nat.reduceLeDiff, Nat.reduceLT, Nat.reduceMul, Nat.reduceBEq, Int.reduceEq, Int.reduceLT, Int.reduceLE, Int.reduceNeg, Int.reduceToNat, reduceIte]
  repeat' (first | (refine CP.go (harvests_s hs hl) rfl (refs_ints1 _ _) ?_ <;> (try simp (disch := omega) only [go_sem, Nat.reduceEqDiff, Nat.reduceAdd, Nat.reduceSub, Nat.reduceLeDiff, Nat.reduceLT, Nat.reduceMul, Nat.reduceBEq, Int.reduceEq, Int.reduceLT, Int.reduceLE, Int.reduceNeg, Int.reduceToNat, reduceIte])) | (refine condP_t (by assumption) ?_ <;> (try simp (disch := omega) only [go_sem, Nat.reduceEqDiff, Nat.reduceAdd, Nat.reduceSub, Nat.reduceLeDiff, Nat.reduceLT, Nat.reduceMul, Nat.reduceBEq, Int.reduceEq, Int.reduceLT, Int.reduceLE, Int.reduceNeg, Int.reduceToNat, reduceIte])) | (refine condP_f (by assumption) ?_ <;> (try simp (disch := omega) only [go_sem, Nat.reduceEqDiff, Nat.reduceAdd, Nat.reduceSub, Nat.reduceLeDiff, Nat.reduceLT, Nat.reduceMul, Nat.reduceBEq, Int.reduceEq, Int.reduceLT, Int.reduceLE, Int.reduceNeg, Int.reduceToNat, reduceIte])) | (refine condP_dec (fun h => ?_) (fun h => ?_) <;> (try simp (disch := omega) only [go_sem, Nat.reduceEqDiff, Nat.reduceAdd, Nat.reduceSub, Nat.reduceLeDiff, Nat.reduceLT, Nat.reduceMul, Nat.reduceBEq, Int.reduceEq, Int.reduceLT, Int.reduceLE, Int.reduceNeg, Int.reduceToNat, reduceIte])) | (refine condP_split (fun h => ?_) (fun h => ?_) <;> (try simp (disch := omega) only [go_sem, Nat.reduceEqDiff, Nat.reduceAdd, Nat.reduceSub, Nat.reduceLeDiff, Nat.reduceLT, Nat.reduceMul, Nat.reduceBEq, Int.reduceEq, Int.reduceLT, Int.reduceLE, Int.reduceNeg, Int.reduceToNat, reduceIte])))
  all_goals first | (simp_all [harvOk]; done) | (simp_all [harvOk]; omega)
theorem clamp0_c (x cap : Int) (h : 0 ≤ cap) : CP Try.prog 154 [.int .i64 x, .int .i64 0, .int .i64 cap] (.int .i64 (max 0 (min x cap))) [] := by
  refine CP.by rfl mixed (cfn_ok Try.func154 ok154) rfl ?_
  simp (disch := omega) only [s154, go_sem, Nat.reduceEqDiff, Nat.reduceAdd, Nat.reduceSub, Nat.reduceLeDiff, Nat.reduceLT, Nat.reduceMul, Nat.reduceBEq, Int.reduceEq, Int.reduceLT, Int.reduceLE, Int.reduceNeg, Int.reduceToNat, reduceIte]
  refine congrArg (V.int .i64) ?_
  omega
theorem clamp0_s (x cap : Int) (h : 0 ≤ cap) : CP Try.prog 151 [.int .i64 x, .int .i64 0, .int .i64 cap] (.int .i64 (max 0 (min x cap))) [] := by
  refine CP.by rfl mixed (cfn_ok Try.func151 ok151) rfl ?_
  simp (disch := omega) only [s151, go_sem, Nat.reduceEqDiff, Nat.reduceAdd, Nat.reduceSub, Nat.reduceLeDiff, Nat.reduceLT, Nat.reduceMul, Nat.reduceBEq, Int.reduceEq, Int.reduceLT, Int.reduceLE, Int.reduceNeg, Int.reduceToNat, reduceIte]
  repeat' (first | (refine condP_t (by assumption) ?_ <;> (try simp (disch := omega) only [go_sem, Nat.reduceEqDiff, Nat.reduceAdd, Nat.reduceSub, Nat.reduceLeDiff, Nat.reduceLT, Nat.reduceMul, Nat.reduceBEq, Int.reduceEq, Int.reduceLT, Int.reduceLE, Int.reduceNeg, Int.reduceToNat, reduceIte])) | (refine condP_f (by assumption) ?_ <;> (try simp (disch := omega) only [go_sem, Nat.reduceEqDiff, Nat.reduceAdd, Nat.reduceSub, Nat.reduceLeDiff, Nat.reduceLT, Nat.reduceMul, Nat.reduceBEq, Int.reduceEq, Int.reduceLT, Int.reduceLE, Int.reduceNeg, Int.reduceToNat, reduceIte])) | (refine condP_dec (fun h => ?_) (fun h => ?_) <;> (try simp (disch := omega) only [go_sem, Nat.reduceEqDiff, Nat.reduceAdd, Nat.reduceSub, Nat.reduceLeDiff, Nat.reduceLT, Nat.reduceMul, Nat.reduceBEq, Int.reduceEq, Int.reduceLT, Int.reduceLE, Int.reduceNeg, Int.reduceToNat, reduceIte])) | (refine condP_split (fun h => ?_) (fun h => ?_) <;> (try simp (disch := omega) only [go_sem, Nat.reduceEqDiff, Nat.reduceAdd, Nat.reduceSub, Nat.reduceLeDiff, Nat.reduceLT, Nat.reduceMul, Nat.reduceBEq, Int.reduceEq, Int.reduceLT, Int.reduceLE, Int.reduceNeg, Int.reduceToNat, reduceIte])))
  all_goals
    refine congrArg (V.int .i64) ?_
    omega
theorem tick_s (s : Store) (n : Int) (hs : StoreIn s) (hn : 0 ≤ n ∧ n ≤ 1000) : CP Try.prog 133 [.agg (encStore s), .int .i64 n] (.agg (encStore (tickM s n))) [] := by
  have h1 := hs.cap
  have h2 := hs.charge
  have h3 := hs.leak
  obtain ⟨charge, cap, on, leak⟩ := s
  simp only at h1 h2 h3
  refine CP.by rfl mixed (cfn_ok Try.func133 ok133) rfl ?_
  simp (disch := omega) only [s133, go_sem, Nat.reduceEqDiff, Nat.reduceAdd, Nat.reduceSub, Nat.reduceLeDiff, Nat.reduceLT, Nat.reduceMul, Nat.reduceBEq, Int.reduceEq, Int.reduceLT, Int.reduceLE, Int.reduceNeg, Int.reduceToNat, reduceIte, encStore, storeH, storeB, splice]
  refine CP.go (clamp0_s _ cap (by omega)) rfl rfl ?_
  simp (disch := omega) only [go_sem, Nat.reduceEqDiff, Nat.reduceAdd, Nat.reduceSub, Nat.reduceLeDiff, Nat.reduceLT, Nat.reduceMul, Nat.reduceBEq, Int.reduceEq, Int.reduceLT, Int.reduceLE, Int.reduceNeg, Int.reduceToNat, reduceIte, storeH, storeB, splice]
  rfl
theorem tick_c (h : Heap) (id : Nat) (s : Store) (n : Int) (hid : h[id]? = some [encStore s]) (hs : StoreIn s) (hn : 0 ≤ n ∧ n ≤ 1000) : C Try.prog 136 [.ptr id 1 0 0, .int .i64 n] h (fun r h' => r = .tup [] ∧ h' = h.set id [encStore (tickM s n)]) := by
  have h1 := hs.cap
  have h2 := hs.charge
  have h3 := hs.leak
  obtain ⟨charge, cap, on, leak⟩ := s
  simp only at h1 h2 h3
  refine C.by mixed (cfn_ok Try.func136 ok136) rfl ?_
  simp (disch := omega) only [s136, go_sem, Nat.reduceEqDiff, Nat.reduceAdd, Nat.reduceSub, Nat.reduceLeDiff, Nat.reduceLT, Nat.reduceMul, Nat.reduceBEq, Int.reduceEq, Int.reduceLT, Int.reduceLE, Int.reduceNeg, Int.reduceToNat, reduceIte, storeH, storeB, splice, hid, encStore]
  refine CP.go (clamp0_c _ cap (by omega)) rfl rfl ?_
  simp (disch := omega) only [go_sem, Nat.reduceEqDiff, Nat.reduceAdd, Nat.reduceSub, Nat.reduceLeDiff, Nat.reduceLT, Nat.reduceMul, Nat.reduceBEq, Int.reduceEq, Int.reduceLT, Int.reduceLE, Int.reduceNeg, Int.reduceToNat, reduceIte, storeH, storeB, splice, hid, encStore]
  rfl
end Go.Av
