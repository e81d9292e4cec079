/- The bounds of blocks, tasks and boots; both sides. No condition. -/
import Derived.Test.YtjfmbdigfnablaaGreatZLog
namespace Go.Av
open Go.Proofs Go.RowKit
set_option linter.unusedVariables false
set_option linter.unusedSimpArgs false
set_option maxRecDepth 100000
set_option maxHeartbeats 4000000
def costK (k : Int) : Int := if k = 1 then 2 else if k = 2 then 5 else if k = 3 then 4 else if k = 4 then 1 else if k = 5 then 1 else 0
theorem cost_s (s : Stmt) : CP Tryz.prog 264 [.agg (encStmt s)] (.int .i64 (costK s.kind)) [] := by
  refine CP.by rfl mixed (cfn_ok Tryz.func264 ok264) rfl ?_
  simp (disch := omega) only [s264, go_sem, encStmt]
  repeat' (first | (refine condP_t (by assumption) ?_ <;> (try simp (disch := omega) only [go_sem])) | (refine condP_f (by assumption) ?_ <;> (try simp (disch := omega) only [go_sem])) | (refine condP_dec (fun h => ?_) (fun h => ?_) <;> (try simp (disch := omega) only [go_sem])) | (refine condP_split (fun h => ?_) (fun h => ?_) <;> (try simp (disch := omega) only [go_sem])))
  all_goals simp_all [costK]
theorem cost_c (s : Stmt) (hs : stmtOk s = true) : CP Tryz.prog 154 [.agg (encStmt s)] (.int .i64 (costK s.kind)) [] := by
  have hk := stmt_kinds hs
  refine CP.by rfl mixed (cfn_ok Tryz.func154 ok154) rfl ?_
  simp (disch := omega) only [s154, go_sem, encStmt]
  refine CP.go (stmtOk_c s) rfl rfl ?_
  have hc : s.kind = 1 ∨ s.kind = 2 ∨ s.kind = 3 ∨ s.kind = 4 ∨ s.kind = 5 ∨ s.kind = 6 := by omega
  have tk : ∀ n : Int, n = s.kind → True := fun _ _ => trivial
  rcases hc with h | h | h | h | h | h <;>
    (simp (disch := omega) only [go_sem, hs, h]; simp [costK])
def timesS (s : Stmt) : Int := if s.kind = 5 then s.n else 1
def boundT : Tr → Int
  | .nil => 0
  | .one s r => costK s.kind + 3 + boundT r
  | .grp s a r => costK s.kind + timesS s * boundT a + boundT r
theorem stmt_times {s : Stmt} (h : stmtOk s = true) (hk : s.kind = 4 ∨ s.kind = 5) : 1 ≤ timesS s ∧ timesS s ≤ 5 ∧ timesS s = max 1 s.n := by
  unfold stmtOk at h
  split at h
  · cases h
  · split at h
    · cases h
    · split at h
      · omega
      · split at h
        · rename_i h5
          simp [within] at h
          unfold timesS
          rw [if_pos h5]; omega
        · rename_i h5
          simp at h
          unfold timesS
          rw [if_neg h5]; omega
theorem costK_bd (k : Int) : 0 ≤ costK k ∧ costK k ≤ 5 := by unfold costK; repeat' split <;> omega
theorem pow3_le {a b : Nat} (h : a ≤ b) : (3 : Int) ^ a ≤ 3 ^ b := by
  exact_mod_cast Nat.pow_le_pow_right (by omega) h
theorem pow3_pos (a : Nat) : (1 : Int) ≤ 3 ^ a := by
  have := pow3_le (Nat.zero_le a)
  simpa using this
theorem boundT_bd : ∀ (t : Tr), t.ok = true → 0 ≤ boundT t ∧ boundT t ≤ 8 * 3 ^ t.flat.length - 8
  | .nil, _ => by simp [boundT, Tr.flat]
  | .one s r, h => by
    obtain ⟨hs, hk, hr⟩ := Tr.one_ok h
    have ih := boundT_bd r hr
    have hc := costK_bd s.kind
    have hp := pow3_pos r.flat.length
    simp only [boundT, Tr.flat, List.length_cons, Int.pow_succ]
    omega
  | .grp s a r, h => by
    obtain ⟨hs, hk, ha, hr⟩ := Tr.grp_ok h
    have ih1 := boundT_bd a ha
    have ih2 := boundT_bd r hr
    have hc := costK_bd s.kind
    have ht := stmt_times hs hk
    have hm : 0 ≤ timesS s * boundT a ∧ timesS s * boundT a ≤ 5 * boundT a := by
      refine ⟨Int.mul_nonneg (by omega) ih1.1, Int.mul_le_mul_of_nonneg_right ht.2.1 ih1.1⟩
    have hl : (Tr.grp s a r).flat.length = (a.flat.length + r.flat.length) + 1 + 1 := by simp [Tr.flat]; omega
    have h1 := pow3_le (show a.flat.length ≤ a.flat.length + r.flat.length by omega)
    have h2 := pow3_le (show r.flat.length ≤ a.flat.length + r.flat.length by omega)
    have h3 := pow3_pos a.flat.length
    rw [hl, Int.pow_succ, Int.pow_succ]
    simp only [boundT]
    omega
theorem pow24 : (3 : Int) ^ 24 = 282429536481 := by decide
theorem bound_bd {t : Tr} (h : t.ok = true) (hl : t.flat.length ≤ 24) : 0 ≤ boundT t ∧ boundT t ≤ 2300000000000 := by
  have h1 := boundT_bd t h
  have h2 := pow3_le hl
  rw [pow24] at h2
  omega
def BoundC (t : Tr) : Prop := t.ok = true → ∀ xs : List Stmt, xs = t.flat → xs.length ≤ 24 → CP Tryz.prog 94 [.lst 6 (xs.map encStmt)] (.int .i64 (boundT t)) []
theorem boundC_step (sz : Nat) (ih : ∀ b : Tr, b.size < sz → BoundC b) (t : Tr) (hsz : t.size ≤ sz) : BoundC t := by
  intro ht xs hf hl
  have htb := bound_bd ht (by rw [← hf]; exact hl)
  refine CP.by rfl mixed (cfn_ok Tryz.func94 ok94) rfl ?_
  simp (disch := omega) only [s94, go_sem]
  refine loopP_intro (fun m s => ∃ (k : Nat) (r : Tr) (c : Int), k ≤ xs.length ∧ m = xs.length - k ∧ r.ok = true ∧ r.size ≤ sz ∧ r.flat.length ≤ 24 ∧ xs.drop k = r.flat ∧ 0 ≤ c ∧ c + boundT r = boundT t ∧ s.e 0 = .lst 6 (xs.map encStmt) ∧ s.e 3 = .int .i64 c ∧ s.e 4 = .int .i64 k) xs.length ⟨0, t, 0, by omega, by omega, ht, hsz, by rw [← hf]; exact hl, by simp [hf], by omega, by omega, by simp (disch := omega) only [go_sem], by simp (disch := omega) only [go_sem], by simp (disch := omega) only [go_sem]; rfl⟩ ?_
  rintro m e hp ⟨k, r, c, hk, rfl, hr, hrs, hrl, hdk, hc0, hcb, e0, e3, e4⟩
  simp only at e0 e3 e4
  have hrb := bound_bd hr hrl
  simp (disch := omega) only [go_sem, e0, e3, e4]
  refine condP_dec (fun hlt => ?_) (fun hlt => ?_)
  · have hlt' : k < xs.length := by omega
    have nxt : ∀ (e' : Nat → V) (hh : Heap) (q : Nat) (r' : Tr) (c' : Int), k < q → q ≤ xs.length → r'.ok = true → r'.size ≤ sz → r'.flat.length ≤ 24 → xs.drop q = r'.flat → 0 ≤ c' → c' + boundT r' = boundT t → e' 0 = .lst 6 (xs.map encStmt) → e' 3 = .int .i64 c' → e' 4 = .int .i64 q → @nextP (xs.length - k) ⟨e', hh⟩ ⟨fun m s => ∃ (k : Nat) (r : Tr) (c : Int), k ≤ xs.length ∧ m = xs.length - k ∧ r.ok = true ∧ r.size ≤ sz ∧ r.flat.length ≤ 24 ∧ xs.drop k = r.flat ∧ 0 ≤ c ∧ c + boundT r = boundT t ∧ s.e 0 = .lst 6 (xs.map encStmt) ∧ s.e 3 = .int .i64 c ∧ s.e 4 = .int .i64 k⟩ := fun e' hh q r' c' a1 a2 a3 a4 a5 a6 a7 a8 a9 b1 b2 =>
      nextP_intro (xs.length - q) (by omega) ⟨q, r', c', a2, rfl, a3, a4, a5, a6, a7, a8, a9, b1, b2⟩
    rcases r with _ | ⟨s, r⟩ | ⟨s, b, r⟩
    · have := congrArg List.length hdk
      simp [Tr.flat] at this
      omega
    · obtain ⟨hs, hkk, hr'⟩ := Tr.one_ok hr
      simp only [Tr.flat] at hdk hrl
      simp only [List.length_cons] at hrl
      simp only [Tr.size] at hrs
      simp only [boundT] at hcb hrb
      refine Exists.elim (drop_head hdk) fun hk0 z => ?_
      have hks := z.1
      have hd1 := z.2
      have hg : ∀ h : k < xs.length, xs[k] = s := fun _ => hks
      have hz := storeBox (h := hp) (z := [V.int .i64 0, .int .i64 0, .int .i64 0, .int .i64 0, .int .i64 0, .int .i64 0]) (x := .agg (encStmt s)) (sz := 6) rfl rfl
      simp only [cells_agg, encStmt] at hz
      have hc := costK_bd s.kind
      have hO : isOpening s.kind = false := by rcases hkk with h | h | h <;> simp [isOpening, h]
      have hrb2 := bound_bd hr' (by omega)
      simp (disch := omega) only [go_sem, e0, e3, e4, hg, hz, encStmt]
      refine CP.go (cost_c s hs) rfl rfl ?_
      simp (disch := omega) only [go_sem, e0, e3, e4]
      refine CP.go (isOpening_c s.kind) rfl rfl ?_
      simp (disch := omega) only [go_sem, e0, e3, e4, hO]
      exact nxt _ _ (k + 1) r (c + costK s.kind + 3) (by omega) (by omega) hr' (by omega) (by omega) hd1 (by omega) (by omega) (by simp (disch := omega) only [go_sem, e0, e3, e4, hO]) (by simp (disch := omega) only [go_sem, e0, e3, e4, hO]) (by simp (disch := omega) only [go_sem, e0, e3, e4, hO]; rfl)
    · obtain ⟨hs, hkk, hb', hr'⟩ := Tr.grp_ok hr
      simp only [Tr.flat] at hdk hrl
      simp only [List.length_cons, List.length_append] at hrl
      simp only [Tr.size] at hrs
      simp only [boundT] at hcb hrb
      refine Exists.elim (drop_head hdk) fun hk0 z => ?_
      have hks := z.1
      have hd1 := z.2
      have hd2 := drop_skip hd1
      refine Exists.elim (drop_head hd2) fun hk3 z => ?_
      have hd4 := z.2
      have hg : ∀ h : k < xs.length, xs[k] = s := fun _ => hks
      have hz := storeBox (h := hp) (z := [V.int .i64 0, .int .i64 0, .int .i64 0, .int .i64 0, .int .i64 0, .int .i64 0]) (x := .agg (encStmt s)) (sz := 6) rfl rfl
      simp only [cells_agg, encStmt] at hz
      have hen : endO 0 k (xs.drop k) = (k : Int) + 1 + b.flat.length := by rw [hdk]; exact endO_grp k _ hkk hb'
      have htm := take_mid (xs := xs) hdk
      have t1 : ((k : Int) + 1).toNat = k + 1 := by omega
      have t2 : ((k : Int) + 1 + b.flat.length).toNat = k + 1 + b.flat.length := by omega
      have hc := costK_bd s.kind
      have hO : isOpening s.kind = true := by rcases hkk with h | h <;> simp [isOpening, h]
      have ht := stmt_times hs hkk
      have hbb := bound_bd hb' (by omega)
      have hrb2 := bound_bd hr' (by omega)
      have hm : 0 ≤ timesS s * boundT b ∧ timesS s * boundT b ≤ 5 * boundT b := ⟨Int.mul_nonneg (by omega) hbb.1, Int.mul_le_mul_of_nonneg_right ht.2.1 hbb.1⟩
      simp (disch := omega) only [go_sem, e0, e3, e4, hg, hz, encStmt]
      refine CP.go (cost_c s hs) rfl rfl ?_
      simp (disch := omega) only [go_sem, e0, e3, e4]
      refine CP.go (isOpening_c s.kind) rfl rfl ?_
      simp (disch := omega) only [go_sem, e0, e3, e4, hO]
      refine CP.go (endO_c xs k (by omega) (by omega)) rfl (refs_args _ _ _) ?_
      simp (disch := omega) only [go_sem, e0, e3, e4, hen]
      have fin : ∀ T : Int, T = timesS s → True := fun _ _ => trivial
      refine condP_dec (fun h5 => ?_) (fun h5 => ?_)
      · have hT : timesS s = s.n := by rw [timesS, if_pos h5]
        rw [hT] at hm hcb ht hrb
        have hw : IntKind.wrap .i64 (s.n * boundT b) = s.n * boundT b := wrap64 (by omega) (by omega)
        simp (disch := omega) only [go_sem, e0, e3, e4, hen, t1, t2, htm]
        refine CP.go (ih b (by omega) hb' b.flat rfl (by omega)) rfl (refs_arg _ _) ?_
        simp (disch := omega) only [go_sem, e0, e3, e4, hen, hw]
        exact nxt _ _ (k + 1 + b.flat.length + 1) r (c + costK s.kind + s.n * boundT b) (by omega) (by omega) hr' (by omega) (by omega) hd4 (by omega) (by omega) (by simp (disch := omega) only [go_sem, e0, e3, e4, hen, hw]) (by simp (disch := omega) only [go_sem, e0, e3, e4, hen, hw]) (by simp (disch := omega) only [go_sem, e0, e3, e4, hen, hw]; exact congrArg (V.int .i64) (by omega))
      · have hT : timesS s = 1 := by rw [timesS, if_neg h5]
        rw [hT, Int.one_mul] at hm hcb hrb
        have hw : IntKind.wrap .i64 (1 * boundT b) = boundT b := by rw [Int.one_mul]; exact wrap64 (by omega) (by omega)
        simp (disch := omega) only [go_sem, e0, e3, e4, hen, t1, t2, htm]
        refine CP.go (ih b (by omega) hb' b.flat rfl (by omega)) rfl (refs_arg _ _) ?_
        simp (disch := omega) only [go_sem, e0, e3, e4, hen, hw]
        exact nxt _ _ (k + 1 + b.flat.length + 1) r (c + costK s.kind + boundT b) (by omega) (by omega) hr' (by omega) (by omega) hd4 (by omega) (by omega) (by simp (disch := omega) only [go_sem, e0, e3, e4, hen, hw]) (by simp (disch := omega) only [go_sem, e0, e3, e4, hen, hw]) (by simp (disch := omega) only [go_sem, e0, e3, e4, hen, hw]; exact congrArg (V.int .i64) (by omega))
  · have hke : k = xs.length := by omega
    subst hke
    have hz : r = .nil := by
      have hlen := congrArg List.length hdk
      rw [List.drop_length, List.length_nil] at hlen
      cases r with
      | nil => rfl
      | one s r => simp [Tr.flat] at hlen
      | grp s a r => simp [Tr.flat] at hlen
    subst hz
    simp only [boundT] at hcb
    simp (disch := omega) only [go_sem, e0, e3, e4]
    exact congrArg (V.int .i64) (by omega)
theorem bound_c (t : Tr) : BoundC t := by
  induction hn : t.size using Nat.strongRecOn generalizing t with
  | ind n ih => exact boundC_step n (fun b hb => ih b.size hb b rfl) t (by omega)
def BoundS (t : Tr) : Prop := t.ok = true → ∀ (xs : List Stmt) (a : Nat) (ia ib : Int) (v : List Stmt), ia = a → ib = (a : Int) + t.flat.length → xs.drop a = t.flat ++ v → xs.length ≤ 24 → CP Tryz.prog 241 [.lst 6 (xs.map encStmt), .int .i64 ia, .int .i64 ib] (.int .i64 (boundT t)) []
theorem boundS_step (sz : Nat) (ih : ∀ b : Tr, b.size < sz → BoundS b) (t : Tr) (hsz : t.size ≤ sz) : BoundS t := by
  intro ht xs a ia ib v hia hib hdr hl
  subst hia hib
  have htl : t.flat.length ≤ 24 := by
    have := congrArg List.length hdr
    simp only [List.length_drop, List.length_append] at this
    omega
  have htb := bound_bd ht htl
  refine CP.by rfl mixed (cfn_ok Tryz.func241 ok241) rfl ?_
  simp (disch := omega) only [s241, go_sem]
  refine loopP_intro (fun m s => ∃ (k : Nat) (r : Tr) (c : Int), k + r.flat.length = a + t.flat.length ∧ m = r.flat.length ∧ r.ok = true ∧ r.size ≤ sz ∧ r.flat.length ≤ 24 ∧ xs.drop k = r.flat ++ v ∧ 0 ≤ c ∧ c + boundT r = boundT t ∧ s.e 0 = .lst 6 (xs.map encStmt) ∧ s.e 2 = .int .i64 ((a : Int) + t.flat.length) ∧ s.e 7 = .int .i64 c ∧ s.e 8 = .int .i64 k) t.flat.length ⟨a, t, 0, rfl, rfl, ht, hsz, htl, hdr, by omega, by omega, by simp (disch := omega) only [go_sem], by simp (disch := omega) only [go_sem], by simp (disch := omega) only [go_sem], by simp (disch := omega) only [go_sem]⟩ ?_
  rintro m e hp ⟨k, r, c, hkr, rfl, hr, hrs, hrl, hdk, hc0, hcb, e0, e2, e7, e8⟩
  simp only at e0 e2 e7 e8
  have hrb := bound_bd hr hrl
  simp (disch := omega) only [go_sem, e0, e2, e7, e8]
  refine condP_dec (fun hlt => ?_) (fun hlt => ?_)
  · have nxt : ∀ (e' : Nat → V) (hh : Heap) (q : Nat) (r' : Tr) (c' : Int), q + r'.flat.length = a + t.flat.length → r'.flat.length < r.flat.length → r'.ok = true → r'.size ≤ sz → r'.flat.length ≤ 24 → xs.drop q = r'.flat ++ v → 0 ≤ c' → c' + boundT r' = boundT t → e' 0 = .lst 6 (xs.map encStmt) → e' 2 = .int .i64 ((a : Int) + t.flat.length) → e' 7 = .int .i64 c' → e' 8 = .int .i64 q → @nextP r.flat.length ⟨e', hh⟩ ⟨fun m s => ∃ (k : Nat) (r : Tr) (c : Int), k + r.flat.length = a + t.flat.length ∧ m = r.flat.length ∧ r.ok = true ∧ r.size ≤ sz ∧ r.flat.length ≤ 24 ∧ xs.drop k = r.flat ++ v ∧ 0 ≤ c ∧ c + boundT r = boundT t ∧ s.e 0 = .lst 6 (xs.map encStmt) ∧ s.e 2 = .int .i64 ((a : Int) + t.flat.length) ∧ s.e 7 = .int .i64 c ∧ s.e 8 = .int .i64 k⟩ := fun e' hh q r' c' a1 a2 a3 a4 a5 a6 a7 a8 a9 b1 b2 b3 =>
      nextP_intro r'.flat.length a2 ⟨q, r', c', a1, rfl, a3, a4, a5, a6, a7, a8, a9, b1, b2, b3⟩
    rcases r with _ | ⟨s, r⟩ | ⟨s, b, r⟩
    · simp [Tr.flat] at hkr; omega
    · obtain ⟨hs, hkk, hr'⟩ := Tr.one_ok hr
      simp only [Tr.flat, List.cons_append] at hdk
      simp only [Tr.flat, List.length_cons] at hrl hkr nxt
      simp only [Tr.size] at hrs
      simp only [boundT] at hcb hrb
      refine Exists.elim (drop_head hdk) fun hk0 z => ?_
      have hks := z.1
      have hd1 := z.2
      have hg : ∀ h : k < xs.length, xs[k] = s := fun _ => hks
      have hc := costK_bd s.kind
      have hrb2 := bound_bd hr' (by omega)
      simp (disch := omega) only [go_sem, e0, e2, e7, e8, hg, encStmt]
      refine CP.go (cost_s s) rfl rfl ?_
      simp (disch := omega) only [go_sem, e0, e2, e7, e8]
      exact nxt _ _ (k + 1) r (c + costK s.kind + 3) (by omega) (by omega) hr' (by omega) (by omega) hd1 (by omega) (by omega) (by simp (disch := omega) only [go_sem, e0, e2, e7, e8]) (by simp (disch := omega) only [go_sem, e0, e2, e7, e8]) (by simp (disch := omega) only [go_sem, e0, e2, e7, e8]) (by simp (disch := omega) only [go_sem, e0, e2, e7, e8]; rfl)
    · obtain ⟨hs, hkk, hb', hr'⟩ := Tr.grp_ok hr
      simp only [Tr.flat, List.cons_append, List.append_assoc] at hdk
      simp only [Tr.flat, List.length_cons, List.length_append] at hrl hkr
      simp only [Tr.size] at hrs
      simp only [boundT] at hcb hrb
      refine Exists.elim (drop_head hdk) fun hk0 z => ?_
      have hks := z.1
      have hd1 := z.2
      have hd2 := drop_skip hd1
      refine Exists.elim (drop_head hd2) fun hk3 z => ?_
      have hd4 := z.2
      have hg : ∀ h : k < xs.length, xs[k] = s := fun _ => hks
      have hen : endM 0 k (xs.drop k) = (k : Int) + 1 + b.flat.length := by rw [hdk]; exact endM_grp k _ hkk hb'
      have hk1' : (k : Int) + 1 = ((k + 1 : Nat) : Int) := by omega
      have hk2' : (k : Int) + 1 + b.flat.length = ((k + 1 : Nat) : Int) + b.flat.length := by omega
      have hc := costK_bd s.kind
      have ht := stmt_times hs hkk
      have hbb := bound_bd hb' (by omega)
      have hrb2 := bound_bd hr' (by omega)
      have hm : 0 ≤ timesS s * boundT b ∧ timesS s * boundT b ≤ 5 * boundT b := ⟨Int.mul_nonneg (by omega) hbb.1, Int.mul_le_mul_of_nonneg_right ht.2.1 hbb.1⟩
      have hw : IntKind.wrap .i64 (max 1 s.n * boundT b) = timesS s * boundT b := by rw [← ht.2.2]; exact wrap64 (by omega) (by omega)
      have main : ∀ (G : Prop), G → G := fun _ g => g
      simp (disch := omega) only [go_sem, e0, e2, e7, e8, hg, encStmt]
      repeat' (first | (refine condP_t (by assumption) ?_ <;> (try simp (disch := omega) only [go_sem, e0, e2, e7, e8, hg, encStmt])) | (refine condP_f (by assumption) ?_ <;> (try simp (disch := omega) only [go_sem, e0, e2, e7, e8, hg, encStmt])) | (refine condP_dec (fun h => ?_) (fun h => ?_) <;> (try simp (disch := omega) only [go_sem, e0, e2, e7, e8, hg, encStmt])) | (refine condP_split (fun h => ?_) (fun h => ?_) <;> (try simp (disch := omega) only [go_sem, e0, e2, e7, e8, hg, encStmt])))
      all_goals first
        | (exfalso; omega)
        | (refine CP.go (end_s xs k (by omega) (by omega)) rfl (refs_args _ _ _) ?_
           simp (disch := omega) only [go_sem, e0, e2, e7, e8, hg, hen, encStmt]
           refine CP.go (cost_s s) rfl rfl ?_
           simp (disch := omega) only [go_sem, e0, e2, e7, e8, hg, hen, encStmt]
           refine CP.go (ih b (by omega) hb' xs (k + 1) _ _ (endS :: (r.flat ++ v)) hk1' hk2' hd1 hl) rfl (by simp [V.refsL, V.refs, refsLL_map encStmt (refs_stmt 0) xs]) ?_
           simp (disch := omega) only [go_sem, e0, e2, e7, e8, hw]
           exact nxt _ _ (k + 1 + b.flat.length + 1) r (c + costK s.kind + timesS s * boundT b) (by omega) (by simp only [Tr.flat, List.length_cons, List.length_append]; omega) hr' (by omega) (by omega) hd4 (by omega) (by omega) (by simp (disch := omega) only [go_sem, e0, e2, e7, e8, hw]) (by simp (disch := omega) only [go_sem, e0, e2, e7, e8, hw]) (by simp (disch := omega) only [go_sem, e0, e2, e7, e8, hw]) (by simp (disch := omega) only [go_sem, e0, e2, e7, e8, hw]; exact congrArg (V.int .i64) (by omega)))
  · have hz : r = .nil := by
      cases r with
      | nil => rfl
      | one s r => simp [Tr.flat] at hkr; omega
      | grp s a r => simp [Tr.flat] at hkr; omega
    subst hz
    simp only [boundT] at hcb
    simp (disch := omega) only [go_sem, e0, e2, e7, e8]
    exact congrArg (V.int .i64) (by omega)
theorem bound_s (t : Tr) : BoundS t := by
  induction hn : t.size using Nat.strongRecOn generalizing t with
  | ind n ih => exact boundS_step n (fun b hb => ih b.size hb b rfl) t (by omega)
end Go.Av
