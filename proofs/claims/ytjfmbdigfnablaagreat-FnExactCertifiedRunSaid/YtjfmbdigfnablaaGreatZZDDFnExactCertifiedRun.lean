import Derived.Test.YtjfmbdigfnablaaGreatZZDCFnExactCertifiedRun
import Derived.Test.YtjfmbdigfnablaaGreatAv19
import Derived.Test.YtjfmbdigfnablaaGreatAv24
import Derived.Test.YtjfmbdigfnablaaGreatAv27
import Derived.Test.YtjfmbdigfnablaaGreatAv28
namespace Go.Av
open Go.Proofs Go.RowKit
set_option linter.unusedVariables false
set_option linter.unusedSimpArgs false
set_option maxRecDepth 100000
set_option maxHeartbeats 4000000
def costK (k : Int) : Int := if k = 1 then 2 else if k = 2 then 5 else if k = 3 then 4 else if k = 4 then 1 else if k = 5 then 1 else 0
theorem cost_s (s : Stmt) : CP Tryz.prog 264 [.agg (encStmt s)] (.int .i64 (costK s.kind)) [] := by
  refine CP.by rfl mixed (cfn_ok Tryz.func264 ok264) rfl ?_
  simp (disch := omega) only [s264, go_sem, encStmt]
  repeat' (first | (refine condP_t (by assumption) ?_ <;> (try simp (disch := omega) only [go_sem])) | (refine condP_f (by assumption) ?_ <;> (try simp (disch := omega) only [go_sem])) | (refine condP_dec (fun h => ?_) (fun h => ?_) <;> (try simp (disch := omega) only [go_sem])) | (refine condP_split (fun h => ?_) (fun h => ?_) <;> (try simp (disch := omega) only [go_sem])))
  all_goals simp_all [costK]
theorem cost_c (s : Stmt) (hs : stmtOk s = true) : CP Tryz.prog 154 [.agg (encStmt s)] (.int .i64 (costK s.kind)) [] := by
  have hk := stmt_kinds hs
  refine CP.by rfl mixed (cfn_ok Tryz.func154 ok154) rfl ?_
  simp (disch := omega) only [s154, go_sem, encStmt]
  refine CP.go (stmtOk_c s) rfl rfl ?_
  have hc : s.kind = 1 ∨ s.kind = 2 ∨ s.kind = 3 ∨ s.kind = 4 ∨ s.kind = 5 ∨ s.kind = 6 := by omega
  have tk : ∀ n : Int, n = s.kind → True := fun _ _ => trivial
  rcases hc with h | h | h | h | h | h <;>
    (simp (disch := omega) only [go_sem, hs, h]; simp [costK])
def timesS (s : Stmt) : Int := if s.kind = 5 then s.n else 1
def boundT : Tr → Int
  | .nil => 0
  | .one s r => costK s.kind + 3 + boundT r
  | .grp s a r => costK s.kind + timesS s * boundT a + boundT r
theorem stmt_times {s : Stmt} (h : stmtOk s = true) (hk : s.kind = 4 ∨ s.kind = 5) : 1 ≤ timesS s ∧ timesS s ≤ 5 ∧ timesS s = max 1 s.n := by
  unfold stmtOk at h
  split at h
  · cases h
  · split at h
    · cases h
    · split at h
      · omega
      · split at h
        · rename_i h5
          simp [within] at h
          unfold timesS
          rw [if_pos h5]; omega
        · rename_i h5
          simp at h
          unfold timesS
          rw [if_neg h5]; omega
theorem costK_bd (k : Int) : 0 ≤ costK k ∧ costK k ≤ 5 := by unfold costK; repeat' split <;> omega
theorem pow3_le {a b : Nat} (h : a ≤ b) : (3 : Int) ^ a ≤ 3 ^ b := by
  exact_mod_cast Nat.pow_le_pow_right (by omega) h
theorem pow3_pos (a : Nat) : (1 : Int) ≤ 3 ^ a := by
  have := pow3_le (Nat.zero_le a)
  simpa using this
theorem boundT_bd : ∀ (t : Tr), t.ok = true → 0 ≤ boundT t ∧ boundT t ≤ 8 * 3 ^ t.flat.length - 8
  | .nil, _ => by simp [boundT, Tr.flat]
  | .one s r, h => by
    obtain ⟨hs, hk, hr⟩ := Tr.one_ok h
    have ih := boundT_bd r hr
    have hc := costK_bd s.kind
    have hp := pow3_pos r.flat.length
    simp only [boundT, Tr.flat, List.length_cons, Int.pow_succ]
    omega
  | .grp s a r, h => by
    obtain ⟨hs, hk, ha, hr⟩ := Tr.grp_ok h
    have ih1 := boundT_bd a ha
    have ih2 := boundT_bd r hr
    have hc := costK_bd s.kind
    have ht := stmt_times hs hk
    have hm : 0 ≤ timesS s * boundT a ∧ timesS s * boundT a ≤ 5 * boundT a := by
      refine ⟨Int.mul_nonneg (by omega) ih1.1, Int.mul_le_mul_of_nonneg_right ht.2.1 ih1.1⟩
    have hl : (Tr.grp s a r).flat.length = (a.flat.length + r.flat.length) + 1 + 1 := by simp [Tr.flat]; omega
    have h1 := pow3_le (show a.flat.length ≤ a.flat.length + r.flat.length by omega)
    have h2 := pow3_le (show r.flat.length ≤ a.flat.length + r.flat.length by omega)
    have h3 := pow3_pos a.flat.length
    rw [hl, Int.pow_succ, Int.pow_succ]
    simp only [boundT]
    omega
theorem pow24 : (3 : Int) ^ 24 = 282429536481 := by decide
theorem bound_bd {t : Tr} (h : t.ok = true) (hl : t.flat.length ≤ 24) : 0 ≤ boundT t ∧ boundT t ≤ 2300000000000 := by
  have h1 := boundT_bd t h
  have h2 := pow3_le hl
  rw [pow24] at h2
  omega
def BoundC (t : Tr) : Prop := t.ok = true → ∀ xs : List Stmt, xs = t.flat → xs.length ≤ 24 → CP Tryz.prog 94 [.lst 6 (xs.map encStmt)] (.int .i64 (boundT t)) []
theorem boundC_step (sz : Nat) (ih : ∀ b : Tr, b.size < sz → BoundC b) (t : Tr) (hsz : t.size ≤ sz) : BoundC t := by
  intro ht xs hf hl
  have htb := bound_bd ht (by rw [← hf]; exact hl)
  refine CP.by rfl mixed (cfn_ok Tryz.func94 ok94) rfl ?_
  simp (disch := omega) only [s94, go_sem]
  refine loopP_intro (fun m s => ∃ (k : Nat) (r : Tr) (c : Int), k ≤ xs.length ∧ m = xs.length - k ∧ r.ok = true ∧ r.size ≤ sz ∧ r.flat.length ≤ 24 ∧ xs.drop k = r.flat ∧ 0 ≤ c ∧ c + boundT r = boundT t ∧ s.e 0 = .lst 6 (xs.map encStmt) ∧ s.e 3 = .int .i64 c ∧ s.e 4 = .int .i64 k) xs.length ⟨0, t, 0, by omega, by omega, ht, hsz, by rw [← hf]; exact hl, by simp [hf], by omega, by omega, by simp (disch := omega) only [go_sem], by simp (disch := omega) only [go_sem], by simp (disch := omega) only [go_sem]; rfl⟩ ?_
  rintro m e hp ⟨k, r, c, hk, rfl, hr, hrs, hrl, hdk, hc0, hcb, e0, e3, e4⟩
  simp only at e0 e3 e4
  have hrb := bound_bd hr hrl
  simp (disch := omega) only [go_sem, e0, e3, e4]
  refine condP_dec (fun hlt => ?_) (fun hlt => ?_)
  · have hlt' : k < xs.length := by omega
    have nxt : ∀ (e' : Nat → V) (hh : Heap) (q : Nat) (r' : Tr) (c' : Int), k < q → q ≤ xs.length → r'.ok = true → r'.size ≤ sz → r'.flat.length ≤ 24 → xs.drop q = r'.flat → 0 ≤ c' → c' + boundT r' = boundT t → e' 0 = .lst 6 (xs.map encStmt) → e' 3 = .int .i64 c' → e' 4 = .int .i64 q → @nextP (xs.length - k) ⟨e', hh⟩ ⟨fun m s => ∃ (k : Nat) (r : Tr) (c : Int), k ≤ xs.length ∧ m = xs.length - k ∧ r.ok = true ∧ r.size ≤ sz ∧ r.flat.length ≤ 24 ∧ xs.drop k = r.flat ∧ 0 ≤ c ∧ c + boundT r = boundT t ∧ s.e 0 = .lst 6 (xs.map encStmt) ∧ s.e 3 = .int .i64 c ∧ s.e 4 = .int .i64 k⟩ := fun e' hh q r' c' a1 a2 a3 a4 a5 a6 a7 a8 a9 b1 b2 =>
      nextP_intro (xs.length - q) (by omega) ⟨q, r', c', a2, rfl, a3, a4, a5, a6, a7, a8, a9, b1, b2⟩
    rcases r with _ | ⟨s, r⟩ | ⟨s, b, r⟩
    · have := congrArg List.length hdk
      simp [Tr.flat] at this
      omega
    · obtain ⟨hs, hkk, hr'⟩ := Tr.one_ok hr
      simp only [Tr.flat] at hdk hrl
      simp only [List.length_cons] at hrl
      simp only [Tr.size] at hrs
      simp only [boundT] at hcb hrb
      refine Exists.elim (drop_head hdk) fun hk0 z => ?_
      have hks := z.1
      have hd1 := z.2
      have hg : ∀ h : k < xs.length, xs[k] = s := fun _ => hks
      have hz := storeBox (h := hp) (z := [V.int .i64 0, .int .i64 0, .int .i64 0, .int .i64 0, .int .i64 0, .int .i64 0]) (x := .agg (encStmt s)) (sz := 6) rfl rfl
      simp only [cells_agg, encStmt] at hz
      have hc := costK_bd s.kind
      have hO : isOpening s.kind = false := by rcases hkk with h | h | h <;> simp [isOpening, h]
      have hrb2 := bound_bd hr' (by omega)
      simp (disch := omega) only [go_sem, e0, e3, e4, hg, hz, encStmt]
      refine CP.go (cost_c s hs) rfl rfl ?_
      simp (disch := omega) only [go_sem, e0, e3, e4]
      refine CP.go (isOpening_c s.kind) rfl rfl ?_
      simp (disch := omega) only [go_sem, e0, e3, e4, hO]
      exact nxt _ _ (k + 1) r (c + costK s.kind + 3) (by omega) (by omega) hr' (by omega) (by omega) hd1 (by omega) (by omega) (by simp (disch := omega) only [go_sem, e0, e3, e4, hO]) (by simp (disch := omega) only [go_sem, e0, e3, e4, hO]) (by simp (disch := omega) only [go_sem, e0, e3, e4, hO]; rfl)
    · obtain ⟨hs, hkk, hb', hr'⟩ := Tr.grp_ok hr
      simp only [Tr.flat] at hdk hrl
      simp only [List.length_cons, List.length_append] at hrl
      simp only [Tr.size] at hrs
      simp only [boundT] at hcb hrb
      refine Exists.elim (drop_head hdk) fun hk0 z => ?_
      have hks := z.1
      have hd1 := z.2
      have hd2 := drop_skip hd1
      refine Exists.elim (drop_head hd2) fun hk3 z => ?_
      have hd4 := z.2
      have hg : ∀ h : k < xs.length, xs[k] = s := fun _ => hks
      have hz := storeBox (h := hp) (z := [V.int .i64 0, .int .i64 0, .int .i64 0, .int .i64 0, .int .i64 0, .int .i64 0]) (x := .agg (encStmt s)) (sz := 6) rfl rfl
      simp only [cells_agg, encStmt] at hz
      have hen : endO 0 k (xs.drop k) = (k : Int) + 1 + b.flat.length := by rw [hdk]; exact endO_grp k _ hkk hb'
      have htm := take_mid (xs := xs) hdk
      have t1 : ((k : Int) + 1).toNat = k + 1 := by omega
      have t2 : ((k : Int) + 1 + b.flat.length).toNat = k + 1 + b.flat.length := by omega
      have hc := costK_bd s.kind
      have hO : isOpening s.kind = true := by rcases hkk with h | h <;> simp [isOpening, h]
      have ht := stmt_times hs hkk
      have hbb := bound_bd hb' (by omega)
      have hrb2 := bound_bd hr' (by omega)
      have hm : 0 ≤ timesS s * boundT b ∧ timesS s * boundT b ≤ 5 * boundT b := ⟨Int.mul_nonneg (by omega) hbb.1, Int.mul_le_mul_of_nonneg_right ht.2.1 hbb.1⟩
      simp (disch := omega) only [go_sem, e0, e3, e4, hg, hz, encStmt]
      refine CP.go (cost_c s hs) rfl rfl ?_
      simp (disch := omega) only [go_sem, e0, e3, e4]
      refine CP.go (isOpening_c s.kind) rfl rfl ?_
      simp (disch := omega) only [go_sem, e0, e3, e4, hO]
      refine CP.go (endO_c xs k (by omega) (by omega)) rfl (refs_args _ _ _) ?_
      simp (disch := omega) only [go_sem, e0, e3, e4, hen]
      have fin : ∀ T : Int, T = timesS s → True := fun _ _ => trivial
      refine condP_dec (fun h5 => ?_) (fun h5 => ?_)
      · have hT : timesS s = s.n := by rw [timesS, if_pos h5]
        rw [hT] at hm hcb ht hrb
        have hw : IntKind.wrap .i64 (s.n * boundT b) = s.n * boundT b := wrap64 (by omega) (by omega)
        simp (disch := omega) only [go_sem, e0, e3, e4, hen, t1, t2, htm]
        refine CP.go (ih b (by omega) hb' b.flat rfl (by omega)) rfl (refs_arg _ _) ?_
        simp (disch := omega) only [go_sem, e0, e3, e4, hen, hw]
        exact nxt _ _ (k + 1 + b.flat.length + 1) r (c + costK s.kind + s.n * boundT b) (by omega) (by omega) hr' (by omega) (by omega) hd4 (by omega) (by omega) (by simp (disch := omega) only [go_sem, e0, e3, e4, hen, hw]) (by simp (disch := omega) only [go_sem, e0, e3, e4, hen, hw]) (by simp (disch := omega) only [go_sem, e0, e3, e4, hen, hw]; exact congrArg (V.int .i64) (by omega))
      · have hT : timesS s = 1 := by rw [timesS, if_neg h5]
        rw [hT, Int.one_mul] at hm hcb hrb
        have hw : IntKind.wrap .i64 (1 * boundT b) = boundT b := by rw [Int.one_mul]; exact wrap64 (by omega) (by omega)
        simp (disch := omega) only [go_sem, e0, e3, e4, hen, t1, t2, htm]
        refine CP.go (ih b (by omega) hb' b.flat rfl (by omega)) rfl (refs_arg _ _) ?_
        simp (disch := omega) only [go_sem, e0, e3, e4, hen, hw]
        exact nxt _ _ (k + 1 + b.flat.length + 1) r (c + costK s.kind + boundT b) (by omega) (by omega) hr' (by omega) (by omega) hd4 (by omega) (by omega) (by simp (disch := omega) only [go_sem, e0, e3, e4, hen, hw]) (by simp (disch := omega) only [go_sem, e0, e3, e4, hen, hw]) (by simp (disch := omega) only [go_sem, e0, e3, e4, hen, hw]; exact congrArg (V.int .i64) (by omega))
  · have hke : k = xs.length := by omega
    subst hke
    have hz : r = .nil := by
      have hlen := congrArg List.length hdk
      rw [List.drop_length, List.length_nil] at hlen
      cases r with
      | nil => rfl
      | one s r => simp [Tr.flat] at hlen
      | grp s a r => simp [Tr.flat] at hlen
    subst hz
    simp only [boundT] at hcb
    simp (disch := omega) only [go_sem, e0, e3, e4]
    exact congrArg (V.int .i64) (by omega)
theorem bound_c (t : Tr) : BoundC t := by
  induction hn : t.size using Nat.strongRecOn generalizing t with
  | ind n ih => exact boundC_step n (fun b hb => ih b.size hb b rfl) t (by omega)
def BoundS (t : Tr) : Prop := t.ok = true → ∀ (xs : List Stmt) (a : Nat) (ia ib : Int) (v : List Stmt), ia = a → ib = (a : Int) + t.flat.length → xs.drop a = t.flat ++ v → xs.length ≤ 24 → CP Tryz.prog 241 [.lst 6 (xs.map encStmt), .int .i64 ia, .int .i64 ib] (.int .i64 (boundT t)) []
theorem boundS_step (sz : Nat) (ih : ∀ b : Tr, b.size < sz → BoundS b) (t : Tr) (hsz : t.size ≤ sz) : BoundS t := by
  intro ht xs a ia ib v hia hib hdr hl
  subst hia hib
  have htl : t.flat.length ≤ 24 := by
    have := congrArg List.length hdr
    simp only [List.length_drop, List.length_append] at this
    omega
  have htb := bound_bd ht htl
  refine CP.by rfl mixed (cfn_ok Tryz.func241 ok241) rfl ?_
  simp (disch := omega) only [s241, go_sem]
  refine loopP_intro (fun m s => ∃ (k : Nat) (r : Tr) (c : Int), k + r.flat.length = a + t.flat.length ∧ m = r.flat.length ∧ r.ok = true ∧ r.size ≤ sz ∧ r.flat.length ≤ 24 ∧ xs.drop k = r.flat ++ v ∧ 0 ≤ c ∧ c + boundT r = boundT t ∧ s.e 0 = .lst 6 (xs.map encStmt) ∧ s.e 2 = .int .i64 ((a : Int) + t.flat.length) ∧ s.e 7 = .int .i64 c ∧ s.e 8 = .int .i64 k) t.flat.length ⟨a, t, 0, rfl, rfl, ht, hsz, htl, hdr, by omega, by omega, by simp (disch := omega) only [go_sem], by simp (disch := omega) only [go_sem], by simp (disch := omega) only [go_sem], by simp (disch := omega) only [go_sem]⟩ ?_
  rintro m e hp ⟨k, r, c, hkr, rfl, hr, hrs, hrl, hdk, hc0, hcb, e0, e2, e7, e8⟩
  simp only at e0 e2 e7 e8
  have hrb := bound_bd hr hrl
  simp (disch := omega) only [go_sem, e0, e2, e7, e8]
  refine condP_dec (fun hlt => ?_) (fun hlt => ?_)
  · have nxt : ∀ (e' : Nat → V) (hh : Heap) (q : Nat) (r' : Tr) (c' : Int), q + r'.flat.length = a + t.flat.length → r'.flat.length < r.flat.length → r'.ok = true → r'.size ≤ sz → r'.flat.length ≤ 24 → xs.drop q = r'.flat ++ v → 0 ≤ c' → c' + boundT r' = boundT t → e' 0 = .lst 6 (xs.map encStmt) → e' 2 = .int .i64 ((a : Int) + t.flat.length) → e' 7 = .int .i64 c' → e' 8 = .int .i64 q → @nextP r.flat.length ⟨e', hh⟩ ⟨fun m s => ∃ (k : Nat) (r : Tr) (c : Int), k + r.flat.length = a + t.flat.length ∧ m = r.flat.length ∧ r.ok = true ∧ r.size ≤ sz ∧ r.flat.length ≤ 24 ∧ xs.drop k = r.flat ++ v ∧ 0 ≤ c ∧ c + boundT r = boundT t ∧ s.e 0 = .lst 6 (xs.map encStmt) ∧ s.e 2 = .int .i64 ((a : Int) + t.flat.length) ∧ s.e 7 = .int .i64 c ∧ s.e 8 = .int .i64 k⟩ := fun e' hh q r' c' a1 a2 a3 a4 a5 a6 a7 a8 a9 b1 b2 b3 =>
      nextP_intro r'.flat.length a2 ⟨q, r', c', a1, rfl, a3, a4, a5, a6, a7, a8, a9, b1, b2, b3⟩
    rcases r with _ | ⟨s, r⟩ | ⟨s, b, r⟩
    · simp [Tr.flat] at hkr; omega
    · obtain ⟨hs, hkk, hr'⟩ := Tr.one_ok hr
      simp only [Tr.flat, List.cons_append] at hdk
      simp only [Tr.flat, List.length_cons] at hrl hkr nxt
      simp only [Tr.size] at hrs
      simp only [boundT] at hcb hrb
      refine Exists.elim (drop_head hdk) fun hk0 z => ?_
      have hks := z.1
      have hd1 := z.2
      have hg : ∀ h : k < xs.length, xs[k] = s := fun _ => hks
      have hc := costK_bd s.kind
      have hrb2 := bound_bd hr' (by omega)
      simp (disch := omega) only [go_sem, e0, e2, e7, e8, hg, encStmt]
      refine CP.go (cost_s s) rfl rfl ?_
      simp (disch := omega) only [go_sem, e0, e2, e7, e8]
      exact nxt _ _ (k + 1) r (c + costK s.kind + 3) (by omega) (by omega) hr' (by omega) (by omega) hd1 (by omega) (by omega) (by simp (disch := omega) only [go_sem, e0, e2, e7, e8]) (by simp (disch := omega) only [go_sem, e0, e2, e7, e8]) (by simp (disch := omega) only [go_sem, e0, e2, e7, e8]) (by simp (disch := omega) only [go_sem, e0, e2, e7, e8]; rfl)
    · obtain ⟨hs, hkk, hb', hr'⟩ := Tr.grp_ok hr
      simp only [Tr.flat, List.cons_append, List.append_assoc] at hdk
      simp only [Tr.flat, List.length_cons, List.length_append] at hrl hkr
      simp only [Tr.size] at hrs
      simp only [boundT] at hcb hrb
      refine Exists.elim (drop_head hdk) fun hk0 z => ?_
      have hks := z.1
      have hd1 := z.2
      have hd2 := drop_skip hd1
      refine Exists.elim (drop_head hd2) fun hk3 z => ?_
      have hd4 := z.2
      have hg : ∀ h : k < xs.length, xs[k] = s := fun _ => hks
      have hen : endM 0 k (xs.drop k) = (k : Int) + 1 + b.flat.length := by rw [hdk]; exact endM_grp k _ hkk hb'
      have hk1' : (k : Int) + 1 = ((k + 1 : Nat) : Int) := by omega
      have hk2' : (k : Int) + 1 + b.flat.length = ((k + 1 : Nat) : Int) + b.flat.length := by omega
      have hc := costK_bd s.kind
      have ht := stmt_times hs hkk
      have hbb := bound_bd hb' (by omega)
      have hrb2 := bound_bd hr' (by omega)
      have hm : 0 ≤ timesS s * boundT b ∧ timesS s * boundT b ≤ 5 * boundT b := ⟨Int.mul_nonneg (by omega) hbb.1, Int.mul_le_mul_of_nonneg_right ht.2.1 hbb.1⟩
      have hw : IntKind.wrap .i64 (max 1 s.n * boundT b) = timesS s * boundT b := by rw [← ht.2.2]; exact wrap64 (by omega) (by omega)
      have main : ∀ (G : Prop), G → G := fun _ g => g
      simp (disch := omega) only [go_sem, e0, e2, e7, e8, hg, encStmt]
      repeat' (first | (refine condP_t (by assumption) ?_ <;> (try simp (disch := omega) only [go_sem, e0, e2, e7, e8, hg, encStmt])) | (refine condP_f (by assumption) ?_ <;> (try simp (disch := omega) only [go_sem, e0, e2, e7, e8, hg, encStmt])) | (refine condP_dec (fun h => ?_) (fun h => ?_) <;> (try simp (disch := omega) only [go_sem, e0, e2, e7, e8, hg, encStmt])) | (refine condP_split (fun h => ?_) (fun h => ?_) <;> (try simp (disch := omega) only [go_sem, e0, e2, e7, e8, hg, encStmt])))
      all_goals first
        | (exfalso; omega)
        | (refine CP.go (end_s xs k (by omega) (by omega)) rfl (refs_args _ _ _) ?_
           simp (disch := omega) only [go_sem, e0, e2, e7, e8, hg, hen, encStmt]
           refine CP.go (cost_s s) rfl rfl ?_
           simp (disch := omega) only [go_sem, e0, e2, e7, e8, hg, hen, encStmt]
           refine CP.go (ih b (by omega) hb' xs (k + 1) _ _ (endS :: (r.flat ++ v)) hk1' hk2' hd1 hl) rfl (by simp [V.refsL, V.refs, refsLL_map encStmt (refs_stmt 0) xs]) ?_
           simp (disch := omega) only [go_sem, e0, e2, e7, e8, hw]
           exact nxt _ _ (k + 1 + b.flat.length + 1) r (c + costK s.kind + timesS s * boundT b) (by omega) (by simp only [Tr.flat, List.length_cons, List.length_append]; omega) hr' (by omega) (by omega) hd4 (by omega) (by omega) (by simp (disch := omega) only [go_sem, e0, e2, e7, e8, hw]) (by simp (disch := omega) only [go_sem, e0, e2, e7, e8, hw]) (by simp (disch := omega) only [go_sem, e0, e2, e7, e8, hw]) (by simp (disch := omega) only [go_sem, e0, e2, e7, e8, hw]; exact congrArg (V.int .i64) (by omega)))
  · have hz : r = .nil := by
      cases r with
      | nil => rfl
      | one s r => simp [Tr.flat] at hkr; omega
      | grp s a r => simp [Tr.flat] at hkr; omega
    subst hz
    simp only [boundT] at hcb
    simp (disch := omega) only [go_sem, e0, e2, e7, e8]
    exact congrArg (V.int .i64) (by omega)
theorem bound_s (t : Tr) : BoundS t := by
  induction hn : t.size using Nat.strongRecOn generalizing t with
  | ind n ih => exact boundS_step n (fun b hb => ih b.size hb b rfl) t (by omega)
end Go.Av

namespace Go.Av
open Go.Proofs Go.RowKit
set_option linter.unusedVariables false
set_option linter.unusedSimpArgs false
set_option maxRecDepth 100000
set_option maxHeartbeats 4000000
theorem indexTaskF_c {h : Heap} (g : Nat) (caps : List V) (p : Task → Bool) (zs : List Task) (hg : ∀ z ∈ zs, ∀ h', Ext h h' → C Tryz.prog g (.agg (encTask z) :: caps) h' (fun r h'' => r = .bool (p z) ∧ Ext h' h'')) (hl : zs.length ≤ 9223372036854775807) : C Tryz.prog 118 [.lst 4 (zs.map encTask), .fn g caps] h (fun r h' => r = .int .i64 (idxI p zs) ∧ Ext h h') := by
  refine C.by mixed (cfn_ok Tryz.func118 ok118) rfl ?_
  simp (disch := omega) only [s118, go_sem]
  refine loopP_intro (fun m s => ∃ k : Nat, k ≤ zs.length ∧ m = zs.length - k ∧ s.e 0 = .lst 4 (zs.map encTask) ∧ s.e 1 = .fn g caps ∧ s.e 7 = .int .i64 zs.length ∧ s.e 8 = .int .i64 k ∧ Ext h s.h ∧ ∀ j (hj : j < zs.length), j < k → p zs[j] = false) zs.length ⟨0, by omega, by omega, rfl, rfl, by simp (disch := omega) only [go_sem], rfl, .refl _, fun j _ h => absurd h (by omega)⟩ ?_
  rintro m e hp ⟨k, hk, rfl, e0, e1, e7, e8, X, hall⟩
  simp only at e0 e1 e7 e8 X
  simp (disch := omega) only [go_sem, e0, e1, e7, e8, encTask]
  refine condP_dec (fun hlt => ?_) (fun hlt => ?_)
  · have hlt' : k < zs.length := by omega
    simp (disch := omega) only [go_sem, e0, e1, e7, e8, encTask]
    refine C.go (hg zs[k] (List.getElem_mem hlt') _ X) ?_
    rintro r h2 ⟨rfl, X2⟩
    simp (disch := omega) only [go_sem, e0, e1, e7, e8, encTask]
    refine condP_split (fun h => ?_) (fun h => ?_)
    · simp (disch := omega) only [go_sem, e0, e1, e7, e8, encTask]
      rw [idxI_found hlt' h hall]
      exact ⟨rfl, X.trans X2⟩
    · simp (disch := omega) only [go_sem, e0, e1, e7, e8, encTask]
      refine nextP_intro (zs.length - (k + 1)) (by omega) ⟨k + 1, by omega, rfl, ?_, ?_, ?_, ?_, X.trans X2, fun j hj hjk => ?_⟩
      · simp (disch := omega) only [go_sem, e0, e1, e7, e8, encTask]
      · simp (disch := omega) only [go_sem, e0, e1, e7, e8, encTask]
      · simp (disch := omega) only [go_sem, e0, e1, e7, e8, encTask]
      · simp (disch := omega) only [go_sem, e0, e1, e7, e8, encTask]; rfl
      · by_cases e : j = k
        · subst e; exact h
        · exact hall j hj (by omega)
  · simp (disch := omega) only [go_sem, e0, e1, e7, e8, encTask]
    rw [idxI_none (fun j hj => hall j hj (by omega))]
    exact ⟨rfl, X⟩
theorem containsTaskF_c {h : Heap} (g : Nat) (caps : List V) (p : Task → Bool) (zs : List Task) (hg : ∀ z ∈ zs, ∀ h', Ext h h' → C Tryz.prog g (.agg (encTask z) :: caps) h' (fun r h'' => r = .bool (p z) ∧ Ext h' h'')) (hl : zs.length ≤ 9223372036854775807) : C Tryz.prog 69 [.lst 4 (zs.map encTask), .fn g caps] h (fun r h' => r = .bool (zs.any p) ∧ Ext h h') := by
  refine C.by mixed (cfn_ok Tryz.func69 ok69) rfl ?_
  simp (disch := omega) only [s69, go_sem]
  refine C.go (indexTaskF_c g caps p zs hg hl) ?_
  rintro r h2 ⟨rfl, X⟩
  simp (disch := omega) only [go_sem, idxI_ge]
  exact X
def recCost (n : Nat) : Int := if n = 0 then 0 else 3 * ((n : Int) + 1)
theorem rec_c (n : Nat) (hn : n ≤ 8) : CP Tryz.prog 96 [.int .i64 n] (.int .i64 (recCost n)) [] := by
  refine CP.by rfl mixed (cfn_ok Tryz.func96 ok96) rfl ?_
  simp (disch := omega) only [s96, go_sem, within_dec]
  refine CP.go (within_c _ _ _) rfl rfl ?_
  simp (disch := omega) only [go_sem, within_dec]
  refine condP_dec (fun h => ?_) (fun h => ?_) <;> simp (disch := omega) only [go_sem, within_dec]
  · have : n = 0 := by omega
    subst this; rfl
  · rw [recCost, if_neg (by omega)]
theorem rec_s (n : Nat) (hn : n ≤ 8) : CP Tryz.prog 177 [.int .i64 n] (.int .i64 (recCost n)) [] := by
  refine CP.by rfl mixed (cfn_ok Tryz.func177 ok177) rfl ?_
  simp (disch := omega) only [s177, go_sem, within_dec]
  refine CP.go (l01In_c _ _ _) rfl rfl ?_
  simp (disch := omega) only [go_sem, within_dec]
  refine condP_dec (fun h => ?_) (fun h => ?_) <;> simp (disch := omega) only [go_sem, within_dec]
  · have : n = 0 := by omega
    subst this; rfl
  · rw [recCost, if_neg (by omega)]
noncomputable def treeOf (xs : List Stmt) : Tr := open Classical in if h : blockOk xs = true then (block_tree h).choose else .nil
theorem treeOf_ok {xs : List Stmt} (h : blockOk xs = true) : (treeOf xs).ok = true ∧ xs = (treeOf xs).flat ∧ xs.length ≤ 24 := by
  unfold treeOf
  rw [dif_pos h]
  exact (block_tree h).choose_spec
theorem task_facts {tk : Task} (h : taskOk tk = true) : blockOk tk.body = true ∧ exprOk tk.next = true := by
  simpa [taskOk] using h
noncomputable def taskB (tk : Task) : Int := if taskOk tk = true then boundT (treeOf tk.body) + 9 * ((logT (treeOf tk.body) tk.next).length : Int) + 1 + 3 else -1
noncomputable def bootB (tk : Task) : Int := if taskOk tk = true then taskB tk + recCost (logT (treeOf tk.body) tk.next).length else -1
theorem taskB_bd (tk : Task) : -1 ≤ taskB tk ∧ taskB tk ≤ 2300000000080 := by
  unfold taskB
  split
  · rename_i h
    obtain ⟨h1, h2⟩ := task_facts h
    obtain ⟨t1, t2, t3⟩ := treeOf_ok h1
    have := bound_bd t1 (by rw [← t2]; exact t3)
    have := log_len (treeOf tk.body) tk.next
    omega
  · omega
theorem bootB_bd (tk : Task) : -1 ≤ bootB tk ∧ bootB tk ≤ 2300000000200 := by
  unfold bootB
  have := taskB_bd tk
  have := log_len (treeOf tk.body) tk.next
  split
  · unfold recCost
    rename_i h
    have : 0 ≤ taskB tk := by
      unfold taskB
      rw [if_pos h]
      obtain ⟨h1, h2⟩ := task_facts h
      obtain ⟨t1, t2, t3⟩ := treeOf_ok h1
      have := bound_bd t1 (by rw [← t2]; exact t3)
      omega
    split <;> omega
  · omega
theorem taskB_c (tk : Task) (hb : tk.body.length ≤ 1048576) : CP Tryz.prog 34 [.agg (encTask tk)] (.int .i64 (taskB tk)) [] := by
  have hbd := taskB_bd tk
  refine CP.by rfl mixed (cfn_ok Tryz.func34 ok34) rfl ?_
  simp (disch := omega) only [s34, go_sem, encTask]
  refine CP.go (taskOk_c tk (by omega)) rfl (refs_task1 _ tk) ?_
  simp (disch := omega) only [go_sem, encTask]
  refine condP_split (fun hk => ?_) (fun hk => ?_)
  case' refine_2 =>
    simp (disch := omega) only [go_sem, encTask]
    rw [taskB, if_neg (by simp [hk])]
  obtain ⟨h1, h2⟩ := task_facts hk
  obtain ⟨t1, t2, t3⟩ := treeOf_ok h1
  have hv : taskB tk = boundT (treeOf tk.body) + 9 * ((logT (treeOf tk.body) tk.next).length : Int) + 1 + 3 := by rw [taskB, if_pos hk]
  have hbb := bound_bd t1 (by rw [← t2]; exact t3)
  have hll := log_len (treeOf tk.body) tk.next
  simp (disch := omega) only [go_sem, encTask]
  refine CP.go (bound_c (treeOf tk.body) t1 tk.body t2 t3) rfl (refs_arg _ _) ?_
  simp (disch := omega) only [go_sem, encTask]
  refine (Sep.nil _).goPt (log_c (treeOf tk.body) tk.body tk.next t1 t2 h1 h2) (.same (refs_task1 _ tk)) fun r h' X S ro rn rc rl => ?_
  simp (disch := omega) only [go_sem, rn, rl]
  rw [hv]
theorem taskB_s (tk : Task) (hb : tk.body.length ≤ 1048576) : CP Tryz.prog 176 [.agg (encTask tk)] (.int .i64 (taskB tk)) [] := by
  have hbd := taskB_bd tk
  have blk : taskOk tk = true → CP Tryz.prog 217 [.agg (encTask tk)] (.int .i64 (boundT (treeOf tk.body))) [] := fun hk => by
    obtain ⟨h1, h2⟩ := task_facts hk
    obtain ⟨t1, t2, t3⟩ := treeOf_ok h1
    refine CP.by rfl mixed (cfn_ok Tryz.func217 ok217) rfl ?_
    simp (disch := omega) only [s217, go_sem, encTask]
    refine CP.go (taskOk_s tk (by omega)) rfl (refs_task1 _ tk) ?_
    simp (disch := omega) only [go_sem, hk]
    refine CP.go (bound_s (treeOf tk.body) t1 tk.body 0 0 tk.body.length [] rfl (by rw [← t2]; simp) (by simpa using t2) t3) rfl (by simp [V.refsL, V.refs, refsLL_map encStmt (refs_stmt 0) tk.body]) ?_
    simp (disch := omega) only [go_sem, hk]
  refine CP.by rfl mixed (cfn_ok Tryz.func176 ok176) rfl ?_
  simp (disch := omega) only [s176, go_sem, encTask]
  refine CP.go (taskOk_s tk (by omega)) rfl (refs_task1 _ tk) ?_
  simp (disch := omega) only [go_sem, encTask]
  refine condP_split (fun hk => ?_) (fun hk => ?_)
  case' refine_2 =>
    simp (disch := omega) only [go_sem, encTask]
    rw [taskB, if_neg (by simp [hk])]
  obtain ⟨h1, h2⟩ := task_facts hk
  obtain ⟨t1, t2, t3⟩ := treeOf_ok h1
  have hv : taskB tk = boundT (treeOf tk.body) + 9 * ((logT (treeOf tk.body) tk.next).length : Int) + 1 + 3 := by rw [taskB, if_pos hk]
  have hbb := bound_bd t1 (by rw [← t2]; exact t3)
  have hll := log_len (treeOf tk.body) tk.next
  simp (disch := omega) only [go_sem, encTask]
  refine CP.go (blk hk) rfl (refs_task1 _ tk) ?_
  simp (disch := omega) only [go_sem, encTask]
  refine (Sep.nil _).goLst (log_s (treeOf tk.body) tk.body tk.next t1 t2 h1 h2) (.same (refs_task1 _ tk)) fun r h' X S ro rn rc => ?_
  obtain ⟨i, o⟩ := S.lst 0 rfl
  have rl := fun G => o.len_ G
  simp only [List.length_map] at rl
  simp (disch := omega) only [go_sem, rn, rl]
  rw [hv]
theorem bootB_c (tk : Task) (hb : tk.body.length ≤ 1048576) : CP Tryz.prog 35 [.agg (encTask tk)] (.int .i64 (bootB tk)) [] := by
  have hbd := bootB_bd tk
  refine CP.by rfl mixed (cfn_ok Tryz.func35 ok35) rfl ?_
  simp (disch := omega) only [s35, go_sem, encTask]
  refine CP.go (taskOk_c tk (by omega)) rfl (refs_task1 _ tk) ?_
  simp (disch := omega) only [go_sem, encTask]
  refine condP_split (fun hk => ?_) (fun hk => ?_)
  case' refine_2 =>
    simp (disch := omega) only [go_sem, encTask]
    rw [bootB, if_neg (by simp [hk])]
  obtain ⟨h1, h2⟩ := task_facts hk
  obtain ⟨t1, t2, t3⟩ := treeOf_ok h1
  have hv : bootB tk = taskB tk + recCost (logT (treeOf tk.body) tk.next).length := by rw [bootB, if_pos hk]
  have hll := log_len (treeOf tk.body) tk.next
  simp (disch := omega) only [go_sem, encTask]
  refine CP.go (taskB_c tk hb) rfl (refs_task1 _ tk) ?_
  simp (disch := omega) only [go_sem, encTask]
  refine (Sep.nil _).goPt (log_c (treeOf tk.body) tk.body tk.next t1 t2 h1 h2) (.same (refs_task1 _ tk)) fun r h' X S ro rn rc rl => ?_
  simp (disch := omega) only [go_sem, rn, rl]
  refine CP.go (rec_c _ hll) rfl rfl ?_
  simp (disch := omega) only [go_sem, rn, rl]
  rw [hv]
theorem bootB_s (tk : Task) (hb : tk.body.length ≤ 1048576) : CP Tryz.prog 109 [.agg (encTask tk)] (.int .i64 (bootB tk)) [] := by
  have hbd := bootB_bd tk
  refine CP.by rfl mixed (cfn_ok Tryz.func109 ok109) rfl ?_
  simp (disch := omega) only [s109, go_sem, encTask]
  refine CP.go (taskOk_s tk (by omega)) rfl (refs_task1 _ tk) ?_
  simp (disch := omega) only [go_sem, encTask]
  refine condP_split (fun hk => ?_) (fun hk => ?_)
  case' refine_2 =>
    simp (disch := omega) only [go_sem, encTask]
    rw [bootB, if_neg (by simp [hk])]
  obtain ⟨h1, h2⟩ := task_facts hk
  obtain ⟨t1, t2, t3⟩ := treeOf_ok h1
  have hv : bootB tk = taskB tk + recCost (logT (treeOf tk.body) tk.next).length := by rw [bootB, if_pos hk]
  have hll := log_len (treeOf tk.body) tk.next
  simp (disch := omega) only [go_sem, encTask]
  refine CP.go (taskB_s tk hb) rfl (refs_task1 _ tk) ?_
  simp (disch := omega) only [go_sem, encTask]
  refine (Sep.nil _).goLst (log_s (treeOf tk.body) tk.body tk.next t1 t2 h1 h2) (.same (refs_task1 _ tk)) fun r h' X S ro rn rc => ?_
  obtain ⟨i, o⟩ := S.lst 0 rfl
  have rl := fun G => o.len_ G
  simp only [List.length_map] at rl
  simp (disch := omega) only [go_sem, rn, rl]
  refine CP.go (rec_s _ hll) rfl rfl ?_
  simp (disch := omega) only [go_sem, rn, rl]
  rw [hv]
theorem refs_tasks (n : Nat) (ts : List Task) (x : V) (hx : V.refs n x = true) : V.refsL n [.lst 4 (ts.map encTask), x] = true := by
  simp [V.refsL, V.refs, refsLL_map encTask (refs_task n) ts, hx]
def programOk (ts : List Task) : Bool := within ts.length 1 6 && ts.all taskOk
theorem programOk_c (ts : List Task) (hl : ts.length ≤ 1048576) (hb : ∀ t ∈ ts, t.body.length ≤ 9223372036854775807) : CP Tryz.prog 67 [.agg [.lst 4 (ts.map encTask)]] (.bool (programOk ts)) [] := by
  have hn : (ts.any fun t => !taskOk t) = !ts.all taskOk := by rw [List.not_all_eq_any_not]
  refine CP.by rfl mixed (cfn_ok Tryz.func67 ok67) rfl ?_
  simp (disch := omega) only [s67, go_sem]
  refine CP.go (within_c _ _ _) rfl rfl ?_
  simp (disch := omega) only [go_sem]
  repeat' (first | (refine CP.go (containsTask_c 131 (fun t => !taskOk t) ts (fun t ht => notTaskOk_c t (hb t ht)) (by omega) (refs_tasks _ _ _ rfl)) rfl (refs_tasks _ _ _ rfl) ?_ <;> (try simp (disch := omega) only [go_sem])) | (refine condP_t (by assumption) ?_ <;> (try simp (disch := omega) only [go_sem])) | (refine condP_f (by assumption) ?_ <;> (try simp (disch := omega) only [go_sem])) | (refine condP_dec (fun h => ?_) (fun h => ?_) <;> (try simp (disch := omega) only [go_sem])) | (refine condP_split (fun h => ?_) (fun h => ?_) <;> (try simp (disch := omega) only [go_sem])))
  all_goals simp_all [programOk]
theorem programOk_s (ts : List Task) (hl : ts.length ≤ 1048576) (hb : ∀ t ∈ ts, t.body.length ≤ 9223372036854775807) : CP Tryz.prog 107 [.agg [.lst 4 (ts.map encTask)]] (.bool (programOk ts)) [] := by
  refine CP.by rfl mixed (cfn_ok Tryz.func107 ok107) rfl ?_
  simp (disch := omega) only [s107, go_sem]
  refine loopP_intro (fun m s => ∃ k : Nat, k ≤ ts.length ∧ m = ts.length - k ∧ s.e 1 = .ptr 0 1 0 0 ∧ s.h[0]? = some [[.lst 4 (ts.map encTask)]] ∧ s.e 3 = .int .i64 k ∧ ∀ j (hj : j < ts.length), j < k → taskOk ts[j] = true) ts.length ⟨0, by omega, by omega, rfl, rfl, rfl, fun j _ h => absurd h (by omega)⟩ ?_
  rintro m e hp ⟨k, hk, rfl, e1, hh, e3, hall⟩
  simp only at e1 hh e3
  simp (disch := omega) only [go_sem, e1, e3, hh, encTask]
  refine condP_dec (fun hlt => ?_) (fun hlt => ?_)
  · have hlt' : k < ts.length := by omega
    have hbk := hb _ (List.getElem_mem hlt')
    simp (disch := omega) only [go_sem, e1, e3, hh, encTask]
    refine CP.go (blockOk_s ts[k].body hbk) rfl (refs_arg _ _) ?_
    simp (disch := omega) only [go_sem, e1, e3, hh, encTask]
    repeat' (first | (refine CP.go (exprOk_s ts[k].next) rfl rfl ?_ <;> (try simp (disch := omega) only [go_sem, e1, e3, hh, encTask])) | (refine condP_t (by assumption) ?_ <;> (try simp (disch := omega) only [go_sem, e1, e3, hh, encTask])) | (refine condP_f (by assumption) ?_ <;> (try simp (disch := omega) only [go_sem, e1, e3, hh, encTask])) | (refine condP_dec (fun h => ?_) (fun h => ?_) <;> (try simp (disch := omega) only [go_sem, e1, e3, hh, encTask])) | (refine condP_split (fun h => ?_) (fun h => ?_) <;> (try simp (disch := omega) only [go_sem, e1, e3, hh, encTask])))
    all_goals first
      | (refine nextP_intro (ts.length - (k + 1)) (by omega) ⟨k + 1, by omega, rfl, ?_, hh, ?_, fun j hj hjk => ?_⟩
         · simp (disch := omega) only [go_sem, e1, e3, hh, encTask]
         · simp (disch := omega) only [go_sem, e1, e3, hh, encTask]; rfl
         · by_cases e : j = k
           · subst e; simp_all [taskOk]
           · exact hall j hj (by omega))
      | (have : ts.all taskOk = false := List.all_eq_false.2 ⟨ts[k], List.getElem_mem hlt', by simp_all [taskOk]⟩
         simp [programOk, this])
  · simp (disch := omega) only [go_sem, e1, e3, hh, encTask]
    refine CP.go (l01In_c _ _ _) rfl rfl ?_
    simp (disch := omega) only [go_sem, e1, e3, hh, encTask]
    have : ts.all taskOk = true := List.all_eq_true.2 fun t ht => by
      obtain ⟨j, hj, rfl⟩ := List.getElem_of_mem ht
      exact hall j hj (by omega)
    simp [programOk, this]

structure Store where
  charge : Int
  cap : Int
  on : Int
  leak : Int
def encStore (s : Store) : List V := [.int .i64 s.charge, .int .i64 s.cap, .int .i64 s.on, .int .i64 s.leak]
def storeOk (s : Store) : Bool := within s.cap 1 5000 && within s.charge 0 s.cap && within s.on 1 s.cap && within s.leak 0 100
theorem storeOk_c (s : Store) : CP Tryz.prog 68 [.agg (encStore s)] (.bool (storeOk s)) [] := by
  obtain ⟨ch, cap, on, lk⟩ := s
  refine CP.by rfl mixed (cfn_ok Tryz.func68 ok68) rfl ?_
  simp (disch := omega) only [s68, go_sem, encStore]
  repeat' (first | (refine CP.go (within_c _ _ _) rfl rfl ?_ <;> (try simp (disch := omega) only [go_sem])) | (refine condP_t (by assumption) ?_ <;> (try simp (disch := omega) only [go_sem])) | (refine condP_f (by assumption) ?_ <;> (try simp (disch := omega) only [go_sem])) | (refine condP_dec (fun h => ?_) (fun h => ?_) <;> (try simp (disch := omega) only [go_sem])) | (refine condP_split (fun h => ?_) (fun h => ?_) <;> (try simp (disch := omega) only [go_sem])))
  all_goals simp_all [storeOk]
theorem storeOk_s (s : Store) : CP Tryz.prog 108 [.agg (encStore s)] (.bool (storeOk s)) [] := by
  obtain ⟨ch, cap, on, lk⟩ := s
  refine CP.by rfl mixed (cfn_ok Tryz.func108 ok108) rfl ?_
  simp (disch := omega) only [s108, go_sem, encStore]
  repeat' (first | (refine CP.go (l01In_c _ _ _) rfl rfl ?_ <;> (try simp (disch := omega) only [go_sem])) | (refine condP_t (by assumption) ?_ <;> (try simp (disch := omega) only [go_sem])) | (refine condP_f (by assumption) ?_ <;> (try simp (disch := omega) only [go_sem])) | (refine condP_dec (fun h => ?_) (fun h => ?_) <;> (try simp (disch := omega) only [go_sem])) | (refine condP_split (fun h => ?_) (fun h => ?_) <;> (try simp (disch := omega) only [go_sem])))
  all_goals simp_all [storeOk]
noncomputable def overB (on : Int) (tk : Task) : Bool := decide (on < bootB tk)
noncomputable def certM (ts : List Task) (s : Store) : Bool := programOk ts && storeOk s && !ts.any (overB s.on)
theorem refs_prog (n : Nat) (ts : List Task) : V.refs n (.agg [.lst 4 (ts.map encTask)]) = true := by simp [V.refs, V.refsL, refsLL_map encTask (refs_task n) ts]
theorem refs_prog1 (n : Nat) (ts : List Task) : V.refsL n [.agg [.lst 4 (ts.map encTask)]] = true := by simp only [V.refsL, refs_prog]; rfl
theorem refs_cert (n : Nat) (ts : List Task) (s : Store) : V.refsL n [.agg [.lst 4 (ts.map encTask)], .agg (encStore s)] = true := by simp only [V.refsL, refs_prog]; rfl
theorem over_c (h : Heap) (tk : Task) (id : Nat) (s : Store) (hb : tk.body.length ≤ 1048576) (hs : h[id]? = some [encStore s]) : C Tryz.prog 70 [.agg (encTask tk), .ptr id 1 0 0] h (fun r h' => r = .bool (overB s.on tk) ∧ Ext h h') := by
  refine C.by mixed (cfn_ok Tryz.func70 ok70) rfl ?_
  simp only [encStore] at hs
  have hs' := fun t => heap_app (h' := t) hs
  simp (disch := omega) only [s70, go_sem, encTask, hs']
  refine CP.go (bootB_c tk hb) rfl (refs_task1 _ tk) ?_
  simp (disch := omega) only [go_sem, encTask, hs']
  exact ⟨rfl, Ext.app _ _⟩
theorem cert_c (ts : List Task) (s : Store) (hl : ts.length ≤ 1048576) (hb : ∀ t ∈ ts, t.body.length ≤ 1048576) : CP Tryz.prog 17 [.agg [.lst 4 (ts.map encTask)], .agg (encStore s)] (.bool (certM ts s)) [] := by
  have hb' : ∀ t ∈ ts, t.body.length ≤ 9223372036854775807 := fun t ht => by have := hb t ht; omega
  refine CP.by rfl mixed (cfn_ok Tryz.func17 ok17) rfl ?_
  simp (disch := omega) only [s17, go_sem, encStore]
  refine CP.go (programOk_c ts hl hb') rfl (refs_prog1 _ ts) ?_
  simp (disch := omega) only [go_sem, encStore]
  refine condP_split (fun hp => ?_) (fun hp => ?_)
  case' refine_2 =>
    simp (disch := omega) only [go_sem, hp]
    simp [certM, hp]
  simp (disch := omega) only [go_sem, encStore, hp]
  refine CP.go (storeOk_c s) rfl rfl ?_
  simp (disch := omega) only [go_sem, encStore, hp]
  refine condP_split (fun hs => ?_) (fun hs => ?_)
  case' refine_2 =>
    simp (disch := omega) only [go_sem, hp, hs]
    simp [certM, hs]
  simp (disch := omega) only [go_sem, encStore, hp, hs]
  refine C.go (containsTaskF_c 70 [.ptr 1 1 0 0] (overB s.on) ts (fun t ht h' X => over_c h' t 1 s (hb t ht) (X.get rfl)) (by omega)) ?_
  rintro r h' ⟨rfl, X⟩
  simp (disch := omega) only [go_sem, encStore, hp, hs]
  simp [certM, hp, hs]
theorem cert_s (ts : List Task) (s : Store) (hl : ts.length ≤ 1048576) (hb : ∀ t ∈ ts, t.body.length ≤ 1048576) : CP Tryz.prog 43 [.agg [.lst 4 (ts.map encTask)], .agg (encStore s)] (.bool (certM ts s)) [] := by
  have hb' : ∀ t ∈ ts, t.body.length ≤ 9223372036854775807 := fun t ht => by have := hb t ht; omega
  refine CP.by rfl mixed (cfn_ok Tryz.func43 ok43) rfl ?_
  simp (disch := omega) only [s43, go_sem, encStore]
  refine CP.go (programOk_s ts hl hb') rfl (refs_prog1 _ ts) ?_
  simp (disch := omega) only [go_sem, encStore]
  refine condP_split (fun hp => ?_) (fun hp => ?_)
  case' refine_2 =>
    simp (disch := omega) only [go_sem, hp]
    simp [certM, hp]
  simp (disch := omega) only [go_sem, encStore, hp]
  refine CP.go (storeOk_s s) rfl rfl ?_
  simp (disch := omega) only [go_sem, encStore, hp]
  refine condP_split (fun hs => ?_) (fun hs => ?_)
  case' refine_2 =>
    simp (disch := omega) only [go_sem, hp, hs]
    simp [certM, hs]
  simp (disch := omega) only [go_sem, encStore, hp, hs]
  refine loopP_intro (fun m st => ∃ k : Nat, k ≤ ts.length ∧ m = ts.length - k ∧ st.e 2 = .ptr 0 1 0 0 ∧ st.e 3 = .ptr 1 1 0 0 ∧ st.e 5 = .int .i64 k ∧ st.h[0]? = some [[.lst 4 (ts.map encTask)]] ∧ st.h[1]? = some [encStore s] ∧ ∀ j (hj : j < ts.length), j < k → overB s.on ts[j] = false) ts.length ⟨0, by omega, by omega, rfl, rfl, by simp (disch := omega) only [go_sem, encStore, hp, hs]; rfl, rfl, rfl, fun j _ h => absurd h (by omega)⟩ ?_
  rintro m e hh ⟨k, hk, rfl, e2, e3, e5, h0, h1, hall⟩
  simp only [encStore] at e2 e3 e5 h0 h1
  simp (disch := omega) only [go_sem, e2, e3, e5, h0, h1]
  refine condP_dec (fun hlt => ?_) (fun hlt => ?_)
  · have hlt' : k < ts.length := by omega
    simp (disch := omega) only [go_sem, e2, e3, e5, h0, h1, encTask]
    refine CP.go (bootB_s ts[k] (hb _ (List.getElem_mem hlt'))) rfl (refs_task1 _ ts[k]) ?_
    simp (disch := omega) only [go_sem, e2, e3, e5, h0, h1, encTask]
    refine condP_dec (fun ho => ?_) (fun ho => ?_)
    · simp (disch := omega) only [go_sem, e2, e3, e5, h0, h1, encTask]
      have : ts.any (overB s.on) = true := List.any_eq_true.2 ⟨ts[k], List.getElem_mem hlt', by simpa [overB] using ho⟩
      simp [certM, this]
    · simp (disch := omega) only [go_sem, e2, e3, e5, h0, h1, encTask]
      refine nextP_intro (ts.length - (k + 1)) (by omega) ⟨k + 1, by omega, rfl, by simp (disch := omega) only [go_sem, e2, e3, e5, h0, h1, encTask], by simp (disch := omega) only [go_sem, e2, e3, e5, h0, h1, encTask], by simp (disch := omega) only [go_sem, e2, e3, e5, h0, h1, encTask]; rfl, h0, h1, fun j hj hjk => ?_⟩
      by_cases e : j = k
      · subst e; simp only [overB, decide_eq_false_iff_not]; exact ho
      · exact hall j hj (by omega)
  · simp (disch := omega) only [go_sem, e2, e3, e5, h0, h1]
    have : ts.any (overB s.on) = false := List.any_eq_false.2 fun t ht => by
      obtain ⟨j, hj, rfl⟩ := List.getElem_of_mem ht
      rw [hall j hj (by omega)]; simp
    simp [certM, hp, hs, this]
end Go.Av

namespace Go.Av
open Go.Proofs Go.RowKit
set_option linter.unusedVariables false
set_option linter.unusedSimpArgs false
set_option maxRecDepth 100000
end Go.Av

namespace Go.Av
open Go.Proofs Go.RowKit
set_option linter.unusedVariables false
set_option linter.unusedSimpArgs false
set_option maxRecDepth 100000
set_option maxHeartbeats 4000000
theorem toExpr_c (e : Expr) : CP Tryz.prog 213 [.agg (encExpr e)] (.agg (encExpr e)) [] := by
  obtain ⟨op, a, b⟩ := e
  refine CP.by rfl mixed (cfn_ok Tryz.func213 ok213) rfl ?_
  simp (disch := omega) only [s213, go_sem, encExpr, storeH, storeB, splice]
theorem toStmt_c (s : Stmt) : CP Tryz.prog 239 [.agg (encStmt s)] (.agg (encStmt s)) [] := by
  obtain ⟨kind, var, n, ⟨op, a, b⟩⟩ := s
  refine CP.by rfl mixed (cfn_ok Tryz.func239 ok239) rfl ?_
  simp (disch := omega) only [s239, go_sem, encStmt, encExpr, storeH, storeB, splice]
  refine CP.go (toExpr_c ⟨op, a, b⟩) rfl rfl ?_
  simp (disch := omega) only [go_sem, encStmt, encExpr, storeH, storeB, splice]
def eqExprB (x y : Expr) : Bool := decide (x.op = y.op) && decide (x.a = y.a) && decide (x.b = y.b)
def eqStmtB (x y : Stmt) : Bool := decide (x.kind = y.kind) && decide (x.var = y.var) && decide (x.n = y.n) && eqExprB x.e y.e
theorem eqExpr_c (x y : Expr) : CP Tryz.prog 215 [.agg (encExpr x), .agg (encExpr y)] (.bool (eqExprB x y)) [] := by
  obtain ⟨op, a, b⟩ := x
  obtain ⟨op', a', b'⟩ := y
  refine CP.by rfl mixed (cfn_ok Tryz.func215 ok215) rfl ?_
  simp (disch := omega) only [s215, go_sem, encExpr]
  repeat' (first | (refine condP_t (by assumption) ?_ <;> (try simp (disch := omega) only [go_sem])) | (refine condP_f (by assumption) ?_ <;> (try simp (disch := omega) only [go_sem])) | (refine condP_dec (fun h => ?_) (fun h => ?_) <;> (try simp (disch := omega) only [go_sem])) | (refine condP_split (fun h => ?_) (fun h => ?_) <;> (try simp (disch := omega) only [go_sem])))
  all_goals simp_all [eqExprB]
theorem eqStmt_c (x y : Stmt) : CP Tryz.prog 240 [.agg (encStmt x), .agg (encStmt y)] (.bool (eqStmtB x y)) [] := by
  obtain ⟨kind, var, n, ⟨op, a, b⟩⟩ := x
  obtain ⟨kind', var', n', ⟨op', a', b'⟩⟩ := y
  refine CP.by rfl mixed (cfn_ok Tryz.func240 ok240) rfl ?_
  simp (disch := omega) only [s240, go_sem, encStmt, encExpr]
  repeat' (first | (refine CP.go (eqExpr_c ⟨op, a, b⟩ ⟨op', a', b'⟩) rfl rfl ?_ <;> (try simp (disch := omega) only [go_sem])) | (refine condP_t (by assumption) ?_ <;> (try simp (disch := omega) only [go_sem])) | (refine condP_f (by assumption) ?_ <;> (try simp (disch := omega) only [go_sem])) | (refine condP_dec (fun h => ?_) (fun h => ?_) <;> (try simp (disch := omega) only [go_sem])) | (refine condP_split (fun h => ?_) (fun h => ?_) <;> (try simp (disch := omega) only [go_sem])))
  all_goals simp_all [eqStmtB]
end Go.Av

namespace Go.Av
open Go.Proofs Go.RowKit
set_option linter.unusedVariables false
set_option linter.unusedSimpArgs false
set_option maxRecDepth 100000
set_option maxHeartbeats 4000000
theorem half_set {α : Type} {xs : List α} {k : Nat} (f : α → List V) (z : List V) (hk : k < xs.length) : ((xs.take k).map f ++ List.replicate (xs.length - k) z).set k (f xs[k]) = (xs.take (k + 1)).map f ++ List.replicate (xs.length - (k + 1)) z := by
  have e1 : xs.length - k = (xs.length - (k + 1)) + 1 := by omega
  have e2 : ((xs.take k).map f).length = k := by simp; omega
  rw [e1, List.replicate_succ, List.set_append_right _ _ (by omega), e2, Nat.sub_self, List.set_cons_zero, List.take_succ_eq_append_getElem hk, List.map_append, List.append_assoc]
  rfl
theorem half_len {α : Type} {xs : List α} {k : Nat} (f : α → List V) (z : List V) (hk : k ≤ xs.length) : ((xs.take k).map f ++ List.replicate (xs.length - k) z).length = xs.length := by simp; omega
theorem half_sz {α : Type} {xs : List α} {k sz : Nat} {f : α → List V} {z : List V} (hf : ∀ x, (f x).length = sz) (hz : z.length = sz) : ∀ e ∈ (xs.take k).map f ++ List.replicate (xs.length - k) z, e.length = sz := fun e he => by
  rcases List.mem_append.1 he with h1 | h1
  · obtain ⟨s, _, rfl⟩ := List.mem_map.1 h1; exact hf s
  · rw [(List.mem_replicate.1 h1).2]; exact hz
theorem CP.f {P : Program} {f : FuncId} {args : List V} {sz n : Nat} {b : Blk} (hf : flat b = true) (hn : b.length = n) (h : CP P f args (.own 0 sz 0 n n) [b]) : F P f args (.lst sz b) :=
  C.mono h fun r h' ⟨_, _, g, _, e, hg⟩ => by
    subst e hn
    have := hg 0 b rfl
    rw [mapLL_refs0 (flat_refs 0 hf)] at this
    exact ⟨[g 0], by simp, Owns.own_flat this rfl hf⟩
theorem nin_ge {ids : List Nat} {n j : Nat} (h : ∀ i ∈ ids, n ≤ i) (hj : j < n) : j ∉ ids := fun hm => by have := h j hm; omega
def szM (n : Nat) (left : Int) : Int := if left - n < 0 then -1 else left - n
theorem szM_bd (n : Nat) (left : Int) (h : 0 ≤ left ∧ left ≤ 1048576) : -1 ≤ szM n left ∧ szM n left ≤ 1048576 := by unfold szM; split <;> omega
theorem szM_ok {n : Nat} {left : Int} (h : left ≤ 1048576) (h0 : ¬ szM n left < 0) : n ≤ 1048576 := by unfold szM at h0; split at h0 <;> omega
theorem flat_Stmt (xs : List Stmt) : flat (xs.map encStmt) = true := by simp [flat, encStmt, V.scalar]
theorem refs_stmts1 (n : Nat) (xs : List Stmt) : V.refsL n [.lst 6 (xs.map encStmt)] = true := refs_arg _ _
theorem refs_stmtsI (n : Nat) (xs : List Stmt) (k : Int) : V.refsL n [.lst 6 (xs.map encStmt), .int .i64 k] = true := by simp [V.refsL, V.refs, refsLL_map encStmt (refs_stmt n) xs]
theorem refs_taskI (n : Nat) (t : Task) (k : Int) : V.refsL n [.agg (encTask t), .int .i64 k] = true := by simp [V.refsL, V.refs, refs_task]
theorem refs_tasksI (n : Nat) (ts : List Task) (k : Int) : V.refsL n [.lst 4 (ts.map encTask), .int .i64 k] = true := by simp [V.refsL, V.refs, refsLL_map encTask (refs_task n) ts]
theorem refs_tasksV (n : Nat) (ts : List Task) : V.refs n (.lst 4 (ts.map encTask)) = true := by simp [V.refs, refsLL_map encTask (refs_task n) ts]
theorem szStmtS_c (xs : List Stmt) (left : Int) (hx : xs.length ≤ 9223372036854775807) (hl : 0 ≤ left ∧ left ≤ 1048576) : CP Tryz.prog 206 [.lst 6 (xs.map encStmt), .int .i64 left] (.int .i64 (szM xs.length left)) [] := by
  refine CP.by rfl mixed (cfn_ok Tryz.func206 ok206) rfl ?_
  simp (disch := omega) only [s206, go_sem]
  refine condP_dec (fun h => ?_) (fun h => ?_) <;> simp (disch := omega) only [go_sem] <;> simp [szM, h]
theorem szTask_c (t : Task) (left : Int) (hx : t.body.length ≤ 9223372036854775807) (hl : 0 ≤ left ∧ left ≤ 1048576) : CP Tryz.prog 168 [.agg (encTask t), .int .i64 left] (.int .i64 (szM t.body.length left)) [] := by
  obtain ⟨body, ⟨op, a, b⟩⟩ := t
  simp only at hx
  have hb := szM_bd body.length left hl
  refine CP.by rfl mixed (cfn_ok Tryz.func168 ok168) rfl ?_
  simp (disch := omega) only [s168, go_sem, encTask]
  refine CP.go (szStmtS_c body left hx hl) rfl (refs_stmtsI _ _ _) ?_
  simp (disch := omega) only [go_sem]
  refine condP_dec (fun h => ?_) (fun h => ?_)
  · simp (disch := omega) only [go_sem]
    congr 1; omega
  · simp (disch := omega) only [go_sem]
def szTs : List Task → Int → Int
  | [], l => l
  | t :: ts, l => if szM t.body.length l < 0 then -1 else szTs ts (szM t.body.length l)
def szTaskM (ts : List Task) (l : Int) : Int := if l - ts.length < 0 then -1 else szTs ts (l - ts.length)
theorem szTs_bd : ∀ (ts : List Task) (l : Int), 0 ≤ l → l ≤ 1048576 → -1 ≤ szTs ts l ∧ szTs ts l ≤ 1048576
  | [], l, h0, h1 => ⟨by simp only [szTs]; omega, h1⟩
  | t :: ts, l, h0, h1 => by
    have hb := szM_bd t.body.length l ⟨h0, h1⟩
    simp only [szTs]; split
    · omega
    · exact szTs_bd ts (szM t.body.length l) (by omega) hb.2
theorem szTaskM_bd (ts : List Task) (l : Int) (h : 0 ≤ l ∧ l ≤ 1048576) : -1 ≤ szTaskM ts l ∧ szTaskM ts l ≤ 1048576 := by
  unfold szTaskM; split
  · omega
  · exact szTs_bd ts (l - ts.length) (by omega) (by omega)
theorem szTs_in : ∀ (ts : List Task) (l : Int), 0 ≤ l → l ≤ 1048576 → ¬ szTs ts l < 0 → ∀ t ∈ ts, t.body.length ≤ 1048576
  | [], l, _, _, _, t, ht => absurd ht List.not_mem_nil
  | t :: ts, l, h0, h1, hn, u, hu => by
    have hb := szM_bd t.body.length l ⟨h0, h1⟩
    simp only [szTs] at hn
    split at hn
    · omega
    · rename_i hk
      rcases List.mem_cons.1 hu with h | h
      · subst h; exact szM_ok h1 hk
      · exact szTs_in ts (szM t.body.length l) (by omega) hb.2 hn u h
theorem szTask_in {ts : List Task} {l : Int} (h : 0 ≤ l ∧ l ≤ 1048576) (hn : ¬ szTaskM ts l < 0) : ts.length ≤ 1048576 ∧ ∀ t ∈ ts, t.body.length ≤ 1048576 := by
  unfold szTaskM at hn; split at hn
  · omega
  · exact ⟨by omega, szTs_in ts (l - ts.length) (by omega) (by omega) hn⟩
theorem szTaskS_c (ts : List Task) (left : Int) (hx : ts.length ≤ 9223372036854775807) (hb : ∀ t ∈ ts, t.body.length ≤ 9223372036854775807) (hl : 0 ≤ left ∧ left ≤ 1048576) : CP Tryz.prog 97 [.lst 4 (ts.map encTask), .int .i64 left] (.int .i64 (szTaskM ts left)) [] := by
  refine CP.by rfl mixed (cfn_ok Tryz.func97 ok97) rfl ?_
  simp (disch := omega) only [s97, go_sem]
  refine condP_dec (fun h => ?_) (fun h => ?_)
  · simp (disch := omega) only [go_sem]
    simp only [szTaskM]; rw [if_pos h]
  simp (disch := omega) only [go_sem]
  have hM : szTaskM ts left = szTs ts (left - ts.length) := by simp only [szTaskM]; rw [if_neg h]
  refine loopP_intro (fun m s => ∃ k : Nat, ∃ l : Int, k ≤ ts.length ∧ m = ts.length - k ∧ s.e 0 = .lst 4 (ts.map encTask) ∧ s.e 1 = .int .i64 l ∧ s.e 5 = .int .i64 k ∧ 0 ≤ l ∧ l ≤ 1048576 ∧ szTaskM ts left = szTs (ts.drop k) l) ts.length ⟨0, left - ts.length, by omega, by omega, rfl, rfl, rfl, by omega, by omega, hM⟩ ?_
  rintro m e hp ⟨k, l, hk, rfl, e0, e1, e5, l0, l1, hr⟩
  simp only at e0 e1 e5
  simp (disch := omega) only [go_sem, e0, e1, e5, encTask]
  refine condP_dec (fun hlt => ?_) (fun hlt => ?_)
  · have hlt' : k < ts.length := by omega
    have hm := szM_bd ts[k].body.length l ⟨l0, l1⟩
    rw [List.drop_eq_getElem_cons hlt', szTs] at hr
    simp (disch := omega) only [go_sem, e0, e1, e5, encTask]
    refine CP.go (szTask_c ts[k] l (hb _ (List.getElem_mem hlt')) ⟨l0, l1⟩) rfl (refs_taskI _ ts[k] _) ?_
    simp (disch := omega) only [go_sem, e0, e1, e5, encTask]
    refine condP_dec (fun h2 => ?_) (fun h2 => ?_)
    · simp (disch := omega) only [go_sem, e0, e1, e5, encTask]
      rw [if_pos h2] at hr
      rw [hr]
    · simp (disch := omega) only [go_sem, e0, e1, e5, encTask]
      rw [if_neg h2] at hr
      exact nextP_intro (ts.length - (k + 1)) (by omega) ⟨k + 1, _, by omega, rfl, by simp (disch := omega) only [go_sem, e0, e1, e5, encTask], by simp (disch := omega) only [go_sem, e0, e1, e5, encTask], by simp (disch := omega) only [go_sem, e0, e1, e5, encTask]; rfl, by omega, by omega, hr⟩
  · simp (disch := omega) only [go_sem, e0, e1, e5, encTask]
    have : k = ts.length := by omega
    subst this
    rw [List.drop_length] at hr
    rw [hr]; rfl
theorem szProg_c (ts : List Task) (left : Int) (hx : ts.length ≤ 9223372036854775807) (hb : ∀ t ∈ ts, t.body.length ≤ 9223372036854775807) (hl : 0 ≤ left ∧ left ≤ 1048576) : CP Tryz.prog 37 [.agg [.lst 4 (ts.map encTask)], .int .i64 left] (.int .i64 (szTaskM ts left)) [] := by
  have hm := szTaskM_bd ts left hl
  refine CP.by rfl mixed (cfn_ok Tryz.func37 ok37) rfl ?_
  simp (disch := omega) only [s37, go_sem]
  refine CP.go (szTaskS_c ts left hx hb hl) rfl (refs_tasksI _ _ _) ?_
  simp (disch := omega) only [go_sem]
  refine condP_dec (fun h => ?_) (fun h => ?_)
  · simp (disch := omega) only [go_sem]
    congr 1; omega
  · simp (disch := omega) only [go_sem]
theorem toStmtS_c (xs : List Stmt) (hx : xs.length ≤ 1048576) : CP Tryz.prog 212 [.lst 6 (xs.map encStmt)] (.own 0 6 0 xs.length xs.length) [xs.map encStmt] := by
  refine C.cpOwn (flat_Stmt _) (C.by mixed (cfn_ok Tryz.func212 ok212) rfl ?_)
  simp (disch := omega) only [s212, go_sem]
  refine loopP_intro (fun m s => ∃ k : Nat, k ≤ xs.length ∧ m = xs.length - k ∧ s.e 0 = .lst 6 (xs.map encStmt) ∧ s.e 4 = .int .i64 k ∧ s.e 3 = .own 0 6 0 xs.length xs.length ∧ s.h[0]? = some ((xs.take k).map encStmt ++ List.replicate (xs.length - k) [.int .i64 0, .int .i64 0, .int .i64 0, .int .i64 0, .int .i64 0, .int .i64 0])) xs.length ⟨0, by omega, by omega, rfl, rfl, rfl, by simp⟩ ?_
  rintro m e hp ⟨k, hk, rfl, e0, e4, e3, hid⟩
  simp only at e0 e4 e3 hid
  simp (disch := omega) only [go_sem, e0, e4, e3, encStmt]
  refine condP_dec (fun hlt => ?_) (fun hlt => ?_)
  · have hlt' : k < xs.length := by omega
    simp (disch := omega) only [go_sem, e0, e4, e3, encStmt]
    refine CP.go (toStmt_c xs[k]) rfl rfl ?_
    simp (disch := omega) only [go_sem, e0, e4, e3, encStmt]
    have hst := storeH_row (sz := 6) (x := .agg (encStmt xs[k])) hid (half_len _ _ hk) hlt' (half_sz (fun _ => rfl) rfl) rfl
    simp only [encStmt, cells_agg] at hst
    simp (disch := omega) only [go_sem, e0, e4, e3, encStmt, hst]
    refine nextP_intro (xs.length - (k + 1)) (by omega) ⟨k + 1, by omega, rfl, ?_, ?_, ?_, ?_⟩
    · simp (disch := omega) only [go_sem, e0, e4, e3, encStmt, hst]
    · simp (disch := omega) only [go_sem, e0, e4, e3, encStmt, hst]; rfl
    · simp (disch := omega) only [go_sem, e0, e4, e3, encStmt, hst]
    · rw [heap_set _ hid]
      congr 1
      exact half_set encStmt _ hlt'
  · simp (disch := omega) only [go_sem, e0, e4, e3, encStmt]
    refine ⟨0, rfl, ?_⟩
    have : k = xs.length := by omega
    subst this
    rw [hid]; simp
theorem toStmtS_f (xs : List Stmt) (hx : xs.length ≤ 1048576) : F Tryz.prog 212 [.lst 6 (xs.map encStmt)] (.lst 6 (xs.map encStmt)) := CP.f (flat_Stmt _) (by simp) (toStmtS_c xs hx)
theorem eqB_refl (x : Stmt) : eqStmtB x x = true := by simp [eqStmtB, eqExprB]
theorem eqE_refl (x : Expr) : eqExprB x x = true := by simp [eqExprB]
theorem refs_stmts2 (n : Nat) (xs ys : List Stmt) : V.refsL n [.lst 6 (xs.map encStmt), .lst 6 (ys.map encStmt)] = true := by simp [V.refsL, V.refs, refsLL_map encStmt (refs_stmt n) xs, refsLL_map encStmt (refs_stmt n) ys]
theorem eqStmtS_c (xs : List Stmt) (hx : xs.length ≤ 1048576) : CP Tryz.prog 214 [.lst 6 (xs.map encStmt), .lst 6 (xs.map encStmt)] (.bool true) [] := by
  refine CP.by rfl mixed (cfn_ok Tryz.func214 ok214) rfl ?_
  simp (disch := omega) only [s214, go_sem]
  refine loopP_intro (fun m s => ∃ k : Nat, k ≤ xs.length ∧ m = xs.length - k ∧ s.e 0 = .lst 6 (xs.map encStmt) ∧ s.e 1 = .lst 6 (xs.map encStmt) ∧ s.e 5 = .int .i64 k) xs.length ⟨0, by omega, by omega, rfl, rfl, rfl⟩ ?_
  rintro m e hp ⟨k, hk, rfl, e0, e1, e5⟩
  simp only at e0 e1 e5
  simp (disch := omega) only [go_sem, e0, e1, e5, encStmt]
  refine condP_dec (fun hlt => ?_) (fun hlt => ?_)
  · have hlt' : k < xs.length := by omega
    simp (disch := omega) only [go_sem, e0, e1, e5, encStmt]
    refine CP.go (eqStmt_c xs[k] xs[k]) rfl rfl ?_
    simp (disch := omega) only [go_sem, eqB_refl, e0, e1, e5, encStmt]
    exact nextP_intro (xs.length - (k + 1)) (by omega) ⟨k + 1, by omega, rfl, by simp (disch := omega) only [go_sem, e0, e1, e5, encStmt], by simp (disch := omega) only [go_sem, e0, e1, e5, encStmt], by simp (disch := omega) only [go_sem, e0, e1, e5, encStmt]; rfl⟩
  · simp (disch := omega) only [go_sem, e0, e1, e5, encStmt]
theorem refs_task2 (n : Nat) (s t : Task) : V.refsL n [.agg (encTask s), .agg (encTask t)] = true := by simp [V.refsL, V.refs, refs_task]
theorem refs_tasks2 (n : Nat) (s t : List Task) : V.refsL n [.lst 4 (s.map encTask), .lst 4 (t.map encTask)] = true := by simp [V.refsL, refs_tasksV]
theorem eqTask_c (t : Task) (hx : t.body.length ≤ 1048576) : CP Tryz.prog 171 [.agg (encTask t), .agg (encTask t)] (.bool true) [] := by
  obtain ⟨body, ⟨op, a, b⟩⟩ := t
  refine CP.by rfl mixed (cfn_ok Tryz.func171 ok171) rfl ?_
  simp (disch := omega) only [s171, go_sem, encTask]
  refine CP.go (eqStmtS_c body hx) rfl (refs_stmts2 _ _ _) ?_
  simp (disch := omega) only [go_sem]
  refine CP.go (eqExpr_c ⟨op, a, b⟩ ⟨op, a, b⟩) rfl rfl ?_
  simp (disch := omega) only [go_sem, eqE_refl]
theorem eqTaskS_c (ts : List Task) (hx : ts.length ≤ 1048576) (hb : ∀ t ∈ ts, t.body.length ≤ 1048576) : CP Tryz.prog 104 [.lst 4 (ts.map encTask), .lst 4 (ts.map encTask)] (.bool true) [] := by
  refine CP.by rfl mixed (cfn_ok Tryz.func104 ok104) rfl ?_
  simp (disch := omega) only [s104, go_sem]
  refine loopP_intro (fun m s => ∃ k : Nat, k ≤ ts.length ∧ m = ts.length - k ∧ s.e 0 = .lst 4 (ts.map encTask) ∧ s.e 1 = .lst 4 (ts.map encTask) ∧ s.e 5 = .int .i64 k) ts.length ⟨0, by omega, by omega, rfl, rfl, rfl⟩ ?_
  rintro m e hp ⟨k, hk, rfl, e0, e1, e5⟩
  simp only at e0 e1 e5
  simp (disch := omega) only [go_sem, e0, e1, e5, encTask]
  refine condP_dec (fun hlt => ?_) (fun hlt => ?_)
  · have hlt' : k < ts.length := by omega
    simp (disch := omega) only [go_sem, e0, e1, e5, encTask]
    refine CP.go (eqTask_c ts[k] (hb _ (List.getElem_mem hlt'))) rfl (refs_task2 _ ts[k] ts[k]) ?_
    simp (disch := omega) only [go_sem, e0, e1, e5, encTask]
    exact nextP_intro (ts.length - (k + 1)) (by omega) ⟨k + 1, by omega, rfl, by simp (disch := omega) only [go_sem, e0, e1, e5, encTask], by simp (disch := omega) only [go_sem, e0, e1, e5, encTask], by simp (disch := omega) only [go_sem, e0, e1, e5, encTask]; rfl⟩
  · simp (disch := omega) only [go_sem, e0, e1, e5, encTask]
theorem eqProg_c (ts : List Task) (hx : ts.length ≤ 1048576) (hb : ∀ t ∈ ts, t.body.length ≤ 1048576) : CP Tryz.prog 40 [.agg [.lst 4 (ts.map encTask)], .agg [.lst 4 (ts.map encTask)]] (.bool true) [] := by
  refine CP.by rfl mixed (cfn_ok Tryz.func40 ok40) rfl ?_
  simp (disch := omega) only [s40, go_sem]
  refine CP.go (eqTaskS_c ts hx hb) rfl (refs_tasks2 _ _ _) ?_
  simp (disch := omega) only [go_sem]
theorem toStore_c (s : Store) : CP Tryz.prog 44 [.agg (encStore s)] (.agg (encStore s)) [] := by
  obtain ⟨f0, f1, f2, f3⟩ := s
  refine CP.by rfl mixed (cfn_ok Tryz.func44 ok44) rfl ?_
  simp (disch := omega) only [s44, go_sem, encStore, storeH, storeB, splice]
theorem OwnsL.mkTask {h : Heap} {t : Task} {va : V} {ia : List Nat} (oa : Owns h (.lst 6 (t.body.map encStmt)) va ia) : OwnsL h (encTask t) [va, .int .i64 t.next.op, .int .i64 t.next.a, .int .i64 t.next.b] ia := by
  have := OwnsL.o oa (OwnsL.i (k := .i64) (n := t.next.op) (OwnsL.i (k := .i64) (n := t.next.a) (OwnsL.i (k := .i64) (n := t.next.b) OwnsL.e)))
  rw [List.append_nil] at this
  exact this
theorem OwnsL.task {h : Heap} {t : Task} {cs : List V} {ids : List Nat} (o : OwnsL h (encTask t) cs ids) : ∃ va, cs = [va, .int .i64 t.next.op, .int .i64 t.next.a, .int .i64 t.next.b] ∧ Owns h (.lst 6 (t.body.map encStmt)) va ids := by
  obtain ⟨c, cs', i, j, rfl, rfl, o1, o2⟩ := OwnsL.cons_.1 o
  obtain ⟨rfl, rfl⟩ := (OwnsL.scalars (by rfl)).1 o2
  exact ⟨c, rfl, by simpa using o1⟩
theorem toTask_f (t : Task) (hx : t.body.length ≤ 1048576) : F Tryz.prog 170 [.agg (encTask t)] (.agg (encTask t)) := by
  obtain ⟨body, ⟨op, a, b⟩⟩ := t
  refine C.by mixed (cfn_ok Tryz.func170 ok170) rfl ?_
  simp (disch := omega) only [s170, go_sem, encTask, storeH, storeB, splice]
  refine F.go (toStmtS_f body hx) (.same (refs_stmts1 _ _)) fun r h1 ids x1 n1 g1 o1 => ?_
  have o1 := Owns.lstR.1 o1
  obtain ⟨ov, on, oc⟩ := o1.vv
  have b0 := x1.get (i := 0) rfl
  have b1 := x1.get (i := 1) rfl
  have b2 := x1.get (i := 2) rfl
  have c0 : ∀ c, (h1.set 2 c)[2]? = some c := fun c => heap_set _ b2
  have c1 : ∀ c, (h1.set 2 c)[0]? = some [[.lst 6 (body.map encStmt), .int .i64 op, .int .i64 a, .int .i64 b]] := fun c => heap_set_ne _ (by omega) b0
  have c2 : ∀ c, (h1.set 2 c)[1]? = some [[.nils, .int .i64 0, .int .i64 0, .int .i64 0]] := fun c => heap_set_ne _ (by omega) b1
  have c3 : ∀ c d, ((h1.set 2 c).set 1 d)[1]? = some d := fun c d => heap_set _ (c2 c)
  have ss : ∀ c d, (h1.set 2 c).set 2 d = h1.set 2 d := fun c d => List.set_set ..
  simp (disch := omega) only [go_sem, ov, on, oc, b0, b1, b2, c0, c1, c2, c3, ss, storeH, storeB, splice]
  refine CP.go (toExpr_c ⟨op, a, b⟩) rfl rfl ?_
  simp (disch := omega) only [go_sem, ov, on, oc, b0, b1, b2, c0, c1, c2, c3, ss, storeH, storeB, splice, encExpr]
  exact ⟨ids, n1, Owns.aggR.2 ⟨_, rfl, OwnsL.mkTask (t := ⟨body, ⟨op, a, b⟩⟩) ((o1.set _ (nin_ge g1 (by simp))).set _ (nin_ge g1 (by simp)))⟩⟩
theorem rows_set {b : Blk} {k n : Nat} {c z : List V} (hb : b.length = k) (hk : k < n) : (b ++ List.replicate (n - k) z).set k c = (b ++ [c]) ++ List.replicate (n - (k + 1)) z := by
  have e1 : n - k = (n - (k + 1)) + 1 := by omega
  rw [e1, List.replicate_succ, List.set_append_right _ _ (by omega), hb, Nat.sub_self, List.set_cons_zero, List.append_assoc]; rfl
theorem toTaskS_f (ts : List Task) (hx : ts.length ≤ 1048576) (hb : ∀ t ∈ ts, t.body.length ≤ 1048576) : F Tryz.prog 103 [.lst 4 (ts.map encTask)] (.lst 4 (ts.map encTask)) := by
  refine C.by mixed (cfn_ok Tryz.func103 ok103) rfl ?_
  simp (disch := omega) only [s103, go_sem]
  refine loopP_intro (fun m s => ∃ k : Nat, ∃ rows : Blk, ∃ ids : List Nat, k ≤ ts.length ∧ m = ts.length - k ∧ s.e 0 = .lst 4 (ts.map encTask) ∧ s.e 4 = .int .i64 k ∧ s.e 3 = .own 0 4 0 ts.length ts.length ∧ s.h[0]? = some (rows ++ List.replicate (ts.length - k) [.nils, .int .i64 0, .int .i64 0, .int .i64 0]) ∧ rows.length = k ∧ (∀ e ∈ rows, e.length = 4) ∧ ids.Nodup ∧ (∀ i ∈ ids, 0 < i) ∧ OwnsLL s.h ((ts.take k).map encTask) rows ids) ts.length ⟨0, [], [], by omega, by omega, rfl, rfl, rfl, by simp, rfl, fun e he => absurd he List.not_mem_nil, .nil, fun e he => absurd he List.not_mem_nil, OwnsLL.nil_.2 ⟨rfl, rfl⟩⟩ ?_
  intro m e hp P
  refine Exists.elim P fun k P => Exists.elim P fun rows P => Exists.elim P fun ids P => ?_
  have hk := P.1
  have hm := P.2.1
  have e0 := P.2.2.1
  have e4 := P.2.2.2.1
  have e3 := P.2.2.2.2.1
  have hid := P.2.2.2.2.2.1
  have hr := P.2.2.2.2.2.2.1
  have h4 := P.2.2.2.2.2.2.2.1
  have nd := P.2.2.2.2.2.2.2.2.1
  have g0 := P.2.2.2.2.2.2.2.2.2.1
  have oo := P.2.2.2.2.2.2.2.2.2.2
  clear P
  subst hm
  simp only at e0 e4 e3 hid oo
  simp (disch := omega) only [go_sem, e0, e4, e3, encTask]
  refine condP_dec (fun hlt => ?_) (fun hlt => ?_)
  · have hlt' : k < ts.length := by omega
    simp (disch := omega) only [go_sem, e0, e4, e3, encTask]
    refine F.go (toTask_f ts[k] (hb _ (List.getElem_mem hlt'))) (.same (refs_task1 _ ts[k])) fun r h1 js x1 n1 g1 o1 => ?_
    refine Exists.elim (Owns.aggR.1 o1) fun cs q => ?_
    have q1 := q.1
    refine Exists.elim q.2.task fun va w => ?_
    have w1 := w.1
    have w2 := w.2
    clear o1 q w
    subst w1
    subst q1
    have wv := w2.vv
    have wone := wv.1
    have wno := wv.2.1
    have wce := wv.2.2
    have hid1 := x1.get hid
    have hz : 0 < hp.length := heap_lt hid
    have hrl : ∀ e ∈ rows ++ List.replicate (ts.length - k) [.nils, .int .i64 0, .int .i64 0, .int .i64 0], e.length = 4 := fun e he => by
      rcases List.mem_append.1 he with q | q
      · exact h4 e q
      · rw [(List.mem_replicate.1 q).2]; rfl
    have hst := storeH_row (sz := 4) (x := .agg [va, .int .i64 ts[k].next.op, .int .i64 ts[k].next.a, .int .i64 ts[k].next.b]) hid1 (n := ts.length) (i := k) (by simp; omega) hlt' hrl (by simp only [cells_agg, fit, List.all_cons, List.all_nil, wone]; rfl)
    simp only [cells_agg] at hst
    simp (disch := omega) only [go_sem, e0, e4, e3, hst, wone, wno, wce]
    refine nextP_intro (ts.length - (k + 1)) (by omega) ⟨k + 1, rows ++ [[va, .int .i64 ts[k].next.op, .int .i64 ts[k].next.a, .int .i64 ts[k].next.b]], ids ++ js, by omega, rfl, by simp (disch := omega) only [go_sem, e0, e4, e3, hst, wone, wno, wce], by simp (disch := omega) only [go_sem, e0, e4, e3, hst, wone, wno, wce]; rfl, by simp (disch := omega) only [go_sem, e0, e4, e3, hst, wone, wno, wce], ?_, by simp [hr], ?_, ?_, ?_, ?_⟩
    · rw [heap_set _ hid1]
      congr 1
      exact rows_set hr hlt'
    · intro e he
      rcases List.mem_append.1 he with q | q
      · exact h4 e q
      · rw [List.mem_singleton.1 q]; rfl
    · refine List.nodup_append.2 ⟨nd, n1, fun a ha b hb' => ?_⟩
      have := oo.lt a ha
      have := g1 b hb'
      omega
    · intro i hi
      rcases List.mem_append.1 hi with q | q
      · exact g0 i q
      · have := g1 i q; omega
    · rw [List.take_succ_eq_append_getElem hlt', List.map_append]
      refine OwnsLL.snoc ((oo.up x1).keep fun i hi => ?_) ((OwnsL.mkTask w2).keep fun i hi => ?_)
      · have := g0 i hi; exact List.getElem?_set_ne (by omega)
      · have := g1 i hi; exact List.getElem?_set_ne (by omega)
  · have : k = ts.length := by omega
    subst this
    rw [List.take_length] at oo
    rw [Nat.sub_self, List.replicate_zero, List.append_nil] at hid
    simp (disch := omega) only [go_sem, e0, e4, e3, encTask]
    exact ⟨0 :: ids, List.nodup_cons.2 ⟨fun h => by have := g0 0 h; omega, nd⟩, Owns.lst_.2 (.inr ⟨0, rows, ids, by simp, hid, rfl, oo⟩)⟩
theorem toProg_f (ts : List Task) (hx : ts.length ≤ 1048576) (hb : ∀ t ∈ ts, t.body.length ≤ 1048576) : F Tryz.prog 39 [.agg [.lst 4 (ts.map encTask)]] (.agg [.lst 4 (ts.map encTask)]) := by
  refine C.by mixed (cfn_ok Tryz.func39 ok39) rfl ?_
  simp (disch := omega) only [s39, go_sem, storeH, storeB, splice]
  refine F.go (toTaskS_f ts hx hb) (.same (by simp only [V.refsL, refs_tasksV]; rfl)) fun r h1 ids x1 n1 g1 o1 => ?_
  have o1 := Owns.lstR.1 o1
  obtain ⟨ov, on, oc⟩ := o1.vv
  have b0 := x1.get (i := 0) rfl
  have b1 := x1.get (i := 1) rfl
  have b2 := x1.get (i := 2) rfl
  have c0 : ∀ c, (h1.set 2 c)[2]? = some c := fun c => heap_set _ b2
  have c1 : ∀ c, (h1.set 2 c)[0]? = some [[.lst 4 (ts.map encTask)]] := fun c => heap_set_ne _ (by omega) b0
  have c2 : ∀ c, (h1.set 2 c)[1]? = some [[.nils]] := fun c => heap_set_ne _ (by omega) b1
  have c3 : ∀ c d, ((h1.set 2 c).set 1 d)[1]? = some d := fun c d => heap_set _ (c2 c)
  have ss : ∀ c d, (h1.set 2 c).set 2 d = h1.set 2 d := fun c d => List.set_set ..
  simp (disch := omega) only [go_sem, ov, on, oc, b0, b1, b2, c0, c1, c2, c3, ss, storeH, storeB, splice]
  have := OwnsL.o ((o1.set [[r]] (nin_ge g1 (j := 2) (by simp))).set [[r]] (nin_ge g1 (j := 1) (by simp))) OwnsL.e
  rw [List.append_nil] at this
  exact ⟨ids, n1, Owns.aggR.2 ⟨_, rfl, this⟩⟩
theorem refs_progI (n : Nat) (ts : List Task) (k : Int) : V.refsL n [.agg [.lst 4 (ts.map encTask)], .int .i64 k] = true := by simp only [V.refsL, refs_prog]; rfl
theorem Sep.goProg {ts : List Task} {h : Heap} {L : List It} {K : V → Heap → Prop} (S : Sep h L) (hx : ts.length ≤ 1048576) (hb : ∀ t ∈ ts, t.body.length ≤ 1048576)
    (hk : ∀ v h', Ext h h' → Sep h' (.v (.lst 4 (ts.map encTask)) v :: L) → V.one v = true → V.nohole v = v → V.cells v = [v] → K (.agg [v]) h') : @callP Tryz.prog 39 [.agg [.lst 4 (ts.map encTask)]] h ⟨K⟩ :=
  S.go (toProg_f ts hx hb) (.same (refs_prog1 _ _)) fun r h' x S1 => by
    obtain ⟨_, rfl, S2⟩ := sep_agg.1 S1
    obtain ⟨c, _, rfl, S3⟩ := sep_ll.1 S2
    obtain ⟨rfl, S4⟩ := sep_l0.1 S3
    have S5 := S4.rot
    have z := S5.vv 0 rfl
    exact hk c h' x S5 z.1 z.2.1 z.2.2
theorem Sep.progSnap {ts : List Task} {h : Heap} {L : List It} (S : Sep h L) (n : Nat) {v : V} (e : L[n]? = some (.v (.lst 4 (ts.map encTask)) v)) : Snap h (.agg [v]) (.agg [.lst 4 (ts.map encTask)]) :=
  Snap.ofSnaps (.cons (S.snap n e) (.nil _))
structure Prg where
  tasks : List Task
def encPrg (p : Prg) : List V := [.lst 4 (p.tasks.map encTask)]
theorem prg_bounds {S : Nat → Prop} {ρ : Rho} {w : World} {v : Value} {p : Prg} (r : Rep S ρ w v (.agg (encPrg p))) : p.tasks.length ≤ 9223372036854775807 ∧ ∀ t ∈ p.tasks, t.body.length ≤ 9223372036854775807 := by
  obtain ⟨_, r1⟩ := r.field (j := 0) rfl
  refine ⟨by simpa using lst_bound r1, fun t ht => ?_⟩
  obtain ⟨i, hi, rfl⟩ := List.getElem_of_mem ht
  obtain ⟨_, r2⟩ := r1.row (i := i) (j := 0) (e := encTask p.tasks[i]) (by simp [hi]) rfl
  simpa using lst_bound r2
end Go.Av

namespace Go.Av
open Go.Proofs Go.RowKit
set_option linter.unusedVariables false
set_option linter.unusedSimpArgs false
set_option maxRecDepth 100000
set_option maxHeartbeats 4000000
end Go.Av

namespace Go.Av
open Go.Proofs Go.RowKit
set_option linter.unusedVariables false
set_option linter.unusedSimpArgs false
set_option maxRecDepth 100000
set_option maxHeartbeats 4000000
theorem Sep.task {t : Task} {h : Heap} {L : List It} {r : V} (S : Sep h (.v (.agg (encTask t)) r :: L)) : ∃ va, r = .agg [va, .int .i64 t.next.op, .int .i64 t.next.a, .int .i64 t.next.b] ∧ Sep h (.l (encTask t) [va, .int .i64 t.next.op, .int .i64 t.next.a, .int .i64 t.next.b] :: L) ∧ (V.one va = true ∧ V.nohole va = va ∧ V.cells va = [va]) := by
  obtain ⟨cs, rfl, S1⟩ := sep_agg.1 S
  obtain ⟨i, _, o⟩ := S1.nth 0 rfl
  obtain ⟨va, rfl, o'⟩ := OwnsL.task o
  exact ⟨va, rfl, S1, o'.vv⟩
theorem Sep.prog {h : Heap} {ts : List Task} {v : V} {L : List It} (S : Sep h (.v (.lst 4 (ts.map encTask)) v :: L)) : ∃ ids : List Nat, ids.Nodup ∧ OwnsR h (.agg [.lst 4 (ts.map encTask)]) (.agg [v]) ids :=
  ((Sep.cons2 (fun es e => by cases e) ((Sep.perm (List.Perm.swap _ _ _) (Sep.l0 S)))).a).ret
theorem Sep.mkTask {t : Task} {h : Heap} {L : List It} {va : V} (S : Sep h (.v (.lst 6 (t.body.map encStmt)) va :: L)) : Sep h (.l (encTask t) [va, .int .i64 t.next.op, .int .i64 t.next.a, .int .i64 t.next.b] :: L) :=
  Sep.cons2 (fun es e => by cases e) (Sep.perm (List.Perm.swap _ _ _) (Sep.li (Sep.li (Sep.li (Sep.l0 S)))))
end Go.Av

namespace Go.Av
open Go.Proofs Go.RowKit
set_option linter.unusedVariables false
set_option linter.unusedSimpArgs false
set_option maxRecDepth 100000
set_option maxHeartbeats 4000000
def mkStmt (k : Int) : Stmt := ⟨k, k + 1, k + 2, ⟨k + 3, k + 4, k + 5⟩⟩
def mkS (k : Int) (n : Nat) : List Stmt := (List.range n).map fun (i : Nat) => mkStmt (k + 6 * (i : Int))
theorem mkS_len (k : Int) (n : Nat) : (mkS k n).length = n := by simp [mkS]
theorem mkStmts_succ (k : Int) (n : Nat) : mkS k (n + 1) = mkS k n ++ [mkStmt (k + 6 * (n : Int))] := by simp [mkS, List.range_succ]
theorem set_midR {α : Type} {A B : List α} {x y : α} {j : Nat} (h : A.length = j) : (A ++ x :: B).set j y = A ++ y :: B := by
  subst h; simp
theorem markStmtS_c (h : Heap) (xs : List Stmt) (v : V) (k : Int) (L : List It) (S : Sep h (.v (.lst 6 (xs.map encStmt)) v :: L)) (hx : xs.length ≤ 1048576) (hk : 0 ≤ k ∧ k ≤ 100000000000000) :
    C Tryz.prog 172 [v, .int .i64 k] h (fun r h' => r = .int .i64 (k + 6 * xs.length) ∧ Sep h' (.v (.lst 6 ((mkS k xs.length).map encStmt)) v :: L)) := by
  have zv := S.vv 0 rfl
  have ovn := zv.2.1
  have hnh : [v, .int .i64 k].all V.noHole = true := by
    rcases S.flat_ (flat_Stmt xs) with ⟨rfl, _⟩ | ⟨l, rfl, _⟩ <;> rfl
  refine C.by mixed (cfn_ok Tryz.func172 ok172) hnh ?_
  simp (disch := omega) only [s172, go_sem, ovn]
  refine loopP_intro (fun m s => ∃ j : Nat, j ≤ xs.length ∧ m = xs.length - j ∧ s.e 0 = v ∧ s.e 1 = .int .i64 (k + 6 * (j : Int)) ∧ s.e 5 = .int .i64 j ∧ Sep s.h (.v (.lst 6 ((mkS k j ++ xs.drop j).map encStmt)) v :: L)) xs.length ⟨0, by omega, by omega, by simp (disch := omega) only [go_sem, ovn], by simp (disch := omega) only [go_sem, ovn] <;> simp, by simp (disch := omega) only [go_sem, ovn] <;> rfl, by simpa [mkS] using S⟩ ?_
  intro m e hp P
  refine Exists.elim P fun j P => ?_
  have hj := P.1
  have hm := P.2.1
  have e0 := P.2.2.1
  have e1 := P.2.2.2.1
  have e5 := P.2.2.2.2.1
  have Sj := P.2.2.2.2.2
  clear P
  subst hm
  simp only at e0 e1 e5 Sj
  have hml : (mkS k j ++ xs.drop j).length = xs.length := by simp [mkS_len]; omega
  have lenv := fun G => (Sj.lst 0 rfl).elim fun i o => o.len_ G
  simp only [List.length_map, hml] at lenv
  simp (disch := omega) only [go_sem, e0, e1, e5, ovn, lenv]
  refine condP_dec (fun hlt => ?_) (fun hlt => ?_)
  · have hlt' : j < xs.length := by omega
    have hd : (mkS k j ++ xs.drop j).map encStmt = (mkS k j).map encStmt ++ encStmt xs[j] :: (xs.drop (j + 1)).map encStmt := by
      rw [List.map_append, List.drop_eq_getElem_cons hlt', List.map_cons]
    rw [hd] at Sj
    refine Or.elim (Sj.flat_ (by rw [← hd]; exact flat_Stmt _)) (fun q => ?_) fun q => ?_
    · have := q.2.1
      simp at this
    refine Exists.elim q fun id q => ?_
    have hv := q.1
    have Sk := q.2
    clear q
    have hX : ((mkS k j).map encStmt ++ encStmt xs[j] :: (xs.drop (j + 1)).map encStmt).length = xs.length := by simp [mkS_len]; omega
    rw [hX] at hv
    subst hv
    have hA : ((mkS k j).map encStmt).length = j := by simp [mkS_len]
    have hcj : ((mkS k j).map encStmt ++ encStmt xs[j] :: (xs.drop (j + 1)).map encStmt)[j]? = some (encStmt xs[j]) := by
      rw [List.getElem?_append_right (by omega), hA, Nat.sub_self]; rfl
    have hset : ∀ y, ((mkS k j).map encStmt ++ encStmt xs[j] :: (xs.drop (j + 1)).map encStmt).set j y = (mkS k j).map encStmt ++ y :: (xs.drop (j + 1)).map encStmt := fun y => set_midR hA
    refine Exists.elim (show ∃ c, c = (mkS k j).map encStmt ++ encStmt xs[j] :: (xs.drop (j + 1)).map encStmt from ⟨_, rfl⟩) fun c hc => ?_
    rw [← hc] at Sk hX hcj hset
    have hid := Sk.blk 0 rfl
    have hjc : j < c.length := by omega
    have q1 : ∀ d, (hp.set id d)[id]? = some d := fun d => heap_set _ hid
    have q2 : ∀ e, (c.set j e)[j]? = some e := fun e => by simp [hjc]
    have q3 : ∀ d e, (hp.set id d).set id e = hp.set id e := fun d e => List.set_set ..
    have q4 : ∀ d e, (c.set j d).set j e = c.set j e := fun d e => List.set_set ..
    have q5 : ∀ e, (c.set j e).length = xs.length := fun e => by rw [List.length_set]; exact hX
    simp only [encStmt] at hcj
    simp (disch := omega) only [go_sem, e0, e1, e5, ovn, lenv, hid, hX, hcj, q1, q2, q3, q4, q5, storeH, storeB, splice]
    have Sn := Sk.setK (c.set j (encStmt (mkStmt (k + 6 * (j : Int)))))
    have hcm : c.set j (encStmt (mkStmt (k + 6 * (j : Int)))) = (mkS k (j + 1) ++ xs.drop (j + 1)).map encStmt := by
      rw [hset, mkStmts_succ, List.map_append, List.map_append, List.append_assoc]; rfl
    have hrow : ([.int .i64 (k + 6 * (j : Int)), .int .i64 (k + 6 * (j : Int) + 1), .int .i64 (k + 6 * (j : Int) + 1 + 1), .int .i64 (k + 6 * (j : Int) + 1 + 1 + 1), .int .i64 (k + 6 * (j : Int) + 1 + 1 + 1 + 1), .int .i64 (k + 6 * (j : Int) + 1 + 1 + 1 + 1 + 1)] : List V) = encStmt (mkStmt (k + 6 * (j : Int))) := by
      simp [encStmt, mkStmt]; omega
    refine nextP_intro (xs.length - (j + 1)) (by omega) ⟨j + 1, by omega, rfl, by simp (disch := omega) only [go_sem, e0, e1, e5, ovn, lenv, hid, hX, hcj, q1, q2, q3, q4, q5, storeH, storeB, splice], by simp (disch := omega) only [go_sem, e0, e1, e5, ovn, lenv, hid, hX, hcj, q1, q2, q3, q4, q5, storeH, storeB, splice]; exact congrArg (V.int .i64) (by omega), by simp (disch := omega) only [go_sem, e0, e1, e5, ovn, lenv, hid, hX, hcj, q1, q2, q3, q4, q5, storeH, storeB, splice] <;> rfl, ?_⟩
    rw [hrow]
    have hl1 : (mkS k (j + 1) ++ xs.drop (j + 1)).length = xs.length := by simp [mkS_len]; omega
    rw [hcm] at Sn
    have := Sn.ofFlat (sz := 6) (n := xs.length) (by rw [List.length_map]; exact hl1) (flat_Stmt _)
    rw [hcm]
    exact this
  · have : j = xs.length := by omega
    subst this
    rw [List.drop_length, List.append_nil] at Sj
    simp (disch := omega) only [go_sem, e0, e1, e5, ovn, lenv]
    exact Sj
def mkTask (k : Int) (n : Nat) : Task := ⟨mkS k n, ⟨k + 6 * (n : Int), k + 6 * (n : Int) + 1, k + 6 * (n : Int) + 2⟩⟩
def cntP : List Task → Int
  | [] => 0
  | t :: ts => 6 * (t.body.length : Int) + 3 + cntP ts
def mkTs : List Task → Int → List Task
  | [], _ => []
  | t :: ts, k => mkTask k t.body.length :: mkTs ts (k + (6 * (t.body.length : Int) + 3))
theorem mkTs_app : ∀ (a b : List Task) (k : Int), mkTs (a ++ b) k = mkTs a k ++ mkTs b (k + cntP a)
  | [], b, k => by simp [mkTs, cntP]
  | t :: a, b, k => by
    simp only [List.cons_append, mkTs, mkTs_app a b, cntP]
    rw [Int.add_assoc]
theorem cntP_app : ∀ (a b : List Task), cntP (a ++ b) = cntP a + cntP b
  | [], b => by simp [cntP]
  | t :: a, b => by simp only [List.cons_append, cntP, cntP_app a b]; omega
theorem mkTs_len : ∀ (ts : List Task) (k : Int), (mkTs ts k).length = ts.length
  | [], _ => rfl
  | t :: ts, k => by simp [mkTs, mkTs_len ts]
theorem cntP_bd : ∀ (ts : List Task), (∀ t ∈ ts, t.body.length ≤ 1048576) → 0 ≤ cntP ts ∧ cntP ts ≤ 6291459 * (ts.length : Int)
  | [], _ => by simp [cntP]
  | t :: ts, h => by
    have h1 := cntP_bd ts fun u hu => h u (List.mem_cons_of_mem _ hu)
    have h2 := h t List.mem_cons_self
    simp only [cntP, List.length_cons]; omega
theorem cntP_take {ts : List Task} {j : Nat} (h : j < ts.length) : cntP (ts.take (j + 1)) = cntP (ts.take j) + (6 * (ts[j].body.length : Int) + 3) := by
  rw [List.take_succ_eq_append_getElem h, cntP_app]; simp [cntP]
theorem mkTs_take {ts : List Task} {j : Nat} (k : Int) (h : j < ts.length) : mkTs (ts.take (j + 1)) k = mkTs (ts.take j) k ++ [mkTask (k + cntP (ts.take j)) ts[j].body.length] := by
  rw [List.take_succ_eq_append_getElem h, mkTs_app]; rfl
theorem Sep.unTask {t : Task} {h : Heap} {L : List It} {c : List V} (S : Sep h (.l (encTask t) c :: L)) : ∃ va, c = [va, .int .i64 t.next.op, .int .i64 t.next.a, .int .i64 t.next.b] ∧ Sep h (.v (.lst 6 (t.body.map encStmt)) va :: L) := by
  obtain ⟨va, c1, rfl, S1⟩ := sep_ll.1 S
  obtain ⟨c2, rfl, S2⟩ := sep_li.1 S1
  obtain ⟨c3, rfl, S3⟩ := sep_li.1 S2
  obtain ⟨c4, rfl, S4⟩ := sep_li.1 S3
  obtain ⟨rfl, S5⟩ := sep_l0.1 S4
  exact ⟨va, rfl, S5.rot⟩
theorem markTaskS_c (h : Heap) (ts : List Task) (v : V) (k : Int) (L : List It) (S : Sep h (.v (.lst 4 (ts.map encTask)) v :: L)) (hx : ts.length ≤ 1048576) (hb : ∀ t ∈ ts, t.body.length ≤ 1048576) (hk : 0 ≤ k ∧ k ≤ 10000000000000) :
    C Tryz.prog 105 [v, .int .i64 k] h (fun r h' => r = .int .i64 (k + cntP ts) ∧ Sep h' (.v (.lst 4 ((mkTs ts k).map encTask)) v :: L)) := by
  have zv := S.vv 0 rfl
  have ovn := zv.2.1
  have hnh : [v, .int .i64 k].all V.noHole = true := by
    refine Exists.elim (S.lst 0 rfl) fun i o => ?_
    rcases Owns.lst_.1 o with ⟨rfl, _⟩ | ⟨_, _, _, rfl, _⟩ <;> rfl
  refine C.by mixed (cfn_ok Tryz.func105 ok105) hnh ?_
  simp (disch := omega) only [s105, go_sem, ovn]
  refine loopP_intro (fun m s => ∃ j : Nat, j ≤ ts.length ∧ m = ts.length - j ∧ s.e 0 = v ∧ s.e 1 = .int .i64 (k + cntP (ts.take j)) ∧ s.e 5 = .int .i64 j ∧ Sep s.h (.v (.lst 4 ((mkTs (ts.take j) k ++ ts.drop j).map encTask)) v :: L)) ts.length ⟨0, by omega, by omega, by simp (disch := omega) only [go_sem, ovn], by simp (disch := omega) only [go_sem, ovn] <;> simp [cntP], by simp (disch := omega) only [go_sem, ovn] <;> rfl, by simpa [mkTs] using S⟩ ?_
  intro m e hp P
  refine Exists.elim P fun j P => ?_
  have hj := P.1
  have hm := P.2.1
  have e0 := P.2.2.1
  have e1 := P.2.2.2.1
  have e5 := P.2.2.2.2.1
  have Sj := P.2.2.2.2.2
  clear P
  subst hm
  simp only at e0 e1 e5 Sj
  have hml : (mkTs (ts.take j) k ++ ts.drop j).length = ts.length := by simp [mkTs_len]; omega
  have lenv := fun G => (Sj.lst 0 rfl).elim fun i o => o.len_ G
  simp only [List.length_map, hml] at lenv
  have hcb := cntP_bd (ts.take j) fun t ht => hb t (List.mem_of_mem_take ht)
  simp only [List.length_take] at hcb
  simp (disch := omega) only [go_sem, e0, e1, e5, ovn, lenv]
  refine condP_dec (fun hlt => ?_) (fun hlt => ?_)
  · have hlt' : j < ts.length := by omega
    have hbj := hb _ (List.getElem_mem hlt')
    have hd : ((mkTs (ts.take j) k ++ ts.drop j).map encTask)[j]? = some (encTask ts[j]) := by
      have l1 : (mkTs (ts.take j) k).length = j := by rw [mkTs_len]; simp; omega
      rw [List.getElem?_map, List.getElem?_append_right (by omega), l1, Nat.sub_self, List.drop_eq_getElem_cons hlt']; rfl
    refine Exists.elim (Sj.rowWork hd) fun id q => Exists.elim q fun b q => Exists.elim q fun c q => Exists.elim q fun M q => ?_
    have hv := q.1
    have hbl := q.2.1
    have hbj' := q.2.2.1
    have S1 := q.2.2.2.1
    have back := q.2.2.2.2
    clear q
    rw [List.length_map, hml] at hv hbl
    subst hv
    refine Exists.elim (S1.pull 1).unTask fun va q => ?_
    have hc := q.1
    have S2 := q.2
    clear q
    subst hc
    have hid := S1.blk 0 rfl
    have z2 := S2.vv 0 rfl
    simp (disch := omega) only [go_sem, e0, e1, e5, ovn, lenv, hid, hbl, hbj', z2.1, z2.2.1, z2.2.2]
    refine C.go (markStmtS_c hp ts[j].body va (k + cntP (ts.take j)) _ S2 hbj (by omega)) ?_
    rintro r h' ⟨rfl, S3⟩
    have hid' := S3.blk 1 rfl
    have hjb : j < b.length := by omega
    have q1 : ∀ d, (h'.set id d)[id]? = some d := fun d => heap_set _ hid'
    have q2 : ∀ e, (b.set j e)[j]? = some e := fun e => by simp [hjb]
    have q3 : ∀ d e, (h'.set id d).set id e = h'.set id e := fun d e => List.set_set ..
    have q4 : ∀ d e, (b.set j d).set j e = b.set j e := fun d e => List.set_set ..
    have q5 : ∀ e, (b.set j e).length = ts.length := fun e => by rw [List.length_set]; exact hbl
    simp (disch := omega) only [go_sem, e0, e1, e5, ovn, lenv, hid', hbl, hbj', q1, q2, q3, q4, q5, storeH, storeB, splice, z2.1, z2.2.1, z2.2.2]
    have S4 := back _ _ _ ((((S3.mkTask (t := mkTask (k + cntP (ts.take j)) ts[j].body.length)).pull 1).setK (b.set j [va, .int .i64 (mkTask (k + cntP (ts.take j)) ts[j].body.length).next.op, .int .i64 (mkTask (k + cntP (ts.take j)) ts[j].body.length).next.a, .int .i64 (mkTask (k + cntP (ts.take j)) ts[j].body.length).next.b])))
    have hys : ((mkTs (ts.take j) k ++ ts.drop j).map encTask).set j (encTask (mkTask (k + cntP (ts.take j)) ts[j].body.length)) = (mkTs (ts.take (j + 1)) k ++ ts.drop (j + 1)).map encTask := by
      have l1 : ((mkTs (ts.take j) k).map encTask).length = j := by rw [List.length_map, mkTs_len]; simp; omega
      rw [List.map_append, List.drop_eq_getElem_cons hlt', List.map_cons, set_midR l1, mkTs_take k hlt', List.map_append, List.map_append, List.append_assoc]; rfl
    rw [hys] at S4
    have hct := cntP_take hlt'
    refine nextP_intro (ts.length - (j + 1)) (by omega) ⟨j + 1, by omega, rfl, by simp (disch := omega) only [go_sem, e0, e1, e5, ovn, lenv, hid', hbl, hbj', q1, q2, q3, q4, q5, storeH, storeB, splice, z2.1, z2.2.1, z2.2.2], by simp (disch := omega) only [go_sem, e0, e1, e5, ovn, lenv, hid', hbl, hbj', q1, q2, q3, q4, q5, storeH, storeB, splice, z2.1, z2.2.1, z2.2.2]; exact congrArg (V.int .i64) (by omega), by simp (disch := omega) only [go_sem, e0, e1, e5, ovn, lenv, hid', hbl, hbj', q1, q2, q3, q4, q5, storeH, storeB, splice, z2.1, z2.2.1, z2.2.2] <;> rfl, ?_⟩
    have hrow : ([va, .int .i64 (k + cntP (ts.take j) + 6 * (ts[j].body.length : Int)), .int .i64 (k + cntP (ts.take j) + 6 * (ts[j].body.length : Int) + 1), .int .i64 (k + cntP (ts.take j) + 6 * (ts[j].body.length : Int) + 1 + 1)] : List V) = [va, .int .i64 (mkTask (k + cntP (ts.take j)) ts[j].body.length).next.op, .int .i64 (mkTask (k + cntP (ts.take j)) ts[j].body.length).next.a, .int .i64 (mkTask (k + cntP (ts.take j)) ts[j].body.length).next.b] := by
      simp [mkTask]; omega
    rw [hrow]
    exact S4
  · have : j = ts.length := by omega
    subst this
    rw [List.drop_length, List.append_nil, List.take_length] at Sj
    rw [List.take_length] at e1
    simp (disch := omega) only [go_sem, e0, e1, e5]
    exact Sj
theorem markProg_c (h : Heap) (ts : List Task) (v : V) (k : Int) (L : List It) (S : Sep h (.v (.lst 4 (ts.map encTask)) v :: L)) (hx : ts.length ≤ 1048576) (hb : ∀ t ∈ ts, t.body.length ≤ 1048576) (hk : 0 ≤ k ∧ k ≤ 10000000000000) :
    C Tryz.prog 41 [.agg [v], .int .i64 k] h (fun r h' => r = .int .i64 (k + cntP ts) ∧ Sep h' (.v (.lst 4 ((mkTs ts k).map encTask)) v :: L)) := by
  have zv := S.vv 0 rfl
  have hnh : [V.agg [v], .int .i64 k].all V.noHole = true := by
    refine Exists.elim (S.lst 0 rfl) fun i o => ?_
    rcases Owns.lst_.1 o with ⟨rfl, _⟩ | ⟨_, _, _, rfl, _⟩ <;> rfl
  refine C.by mixed (cfn_ok Tryz.func41 ok41) hnh ?_
  have S1 := S.app [[[v]]]
  have b1 : (h ++ [[[v]]])[h.length]? = some [[v]] := at_app0 _ _
  simp (disch := omega) only [s41, go_sem, zv.1, zv.2.1, zv.2.2, b1]
  refine C.go (markTaskS_c _ ts v k L S1 hx hb hk) ?_
  rintro r h' ⟨rfl, S2⟩
  simp (disch := omega) only [go_sem, zv.1, zv.2.1, zv.2.2, b1]
  exact S2
end Go.Av

namespace Go.Av
open Go.Proofs Go.RowKit
set_option linter.unusedVariables false
set_option linter.unusedSimpArgs false
set_option maxRecDepth 100000
set_option maxHeartbeats 4000000
def itN {α : Type} (f : α → α) : Nat → α → α
  | 0, a => a
  | n + 1, a => itN f n (f a)
theorem itN_succ {α : Type} (f : α → α) : ∀ (n : Nat) (a : α), itN f (n + 1) a = f (itN f n a)
  | 0, a => rfl
  | n + 1, a => by show itN f (n + 1) (f a) = _; rw [itN_succ f n (f a)]; rfl
def rounds (s : Stmt) (b : Bool) : Nat := if s.kind = 4 then (if b = true then 1 else 0) else s.n.toNat
def runG {σ : Type} (stp : Stmt → σ → σ) (hold : Stmt → σ → Bool) : Tr → σ → σ
  | .nil, st => st
  | .one s r, st => runG stp hold r (stp s st)
  | .grp s a r, st => runG stp hold r (itN (fun x => runG stp hold a x) (rounds s (hold s st)) (stp s st))
def cntT : Tr → Nat
  | .nil => 0
  | .one _ r => 1 + cntT r
  | .grp _ a r => 1 + 5 * cntT a + cntT r
theorem pow3n_le {a b : Nat} (h : a ≤ b) : 3 ^ a ≤ 3 ^ b := Nat.pow_le_pow_right (by omega) h
theorem cntT_lt : ∀ t : Tr, cntT t + 1 ≤ 3 ^ t.flat.length
  | .nil => by simp [cntT, Tr.flat]
  | .one s r => by
    have := cntT_lt r
    simp only [cntT, Tr.flat, List.length_cons, Nat.pow_succ]
    omega
  | .grp s a r => by
    have h1 := cntT_lt a
    have h2 := cntT_lt r
    have hl : (Tr.grp s a r).flat.length = (a.flat.length + r.flat.length) + 1 + 1 := by simp [Tr.flat]; omega
    have p1 := pow3n_le (show a.flat.length ≤ a.flat.length + r.flat.length by omega)
    have p2 := pow3n_le (show r.flat.length ≤ a.flat.length + r.flat.length by omega)
    rw [hl, Nat.pow_succ, Nat.pow_succ]
    simp only [cntT]
    omega
def maxCnt : Nat := 282429536481
theorem cntT_max {t : Tr} (h : t.flat.length ≤ 24) : cntT t ≤ maxCnt := by
  have h1 := cntT_lt t
  have h2 := pow3n_le h
  have : 3 ^ 24 = maxCnt := by decide
  omega
theorem rounds_le {s : Stmt} {b : Bool} (h : stmtOk s = true) (hk : s.kind = 4 ∨ s.kind = 5) : rounds s b ≤ 5 ∧ (s.kind = 5 → (rounds s b : Int) = s.n) ∧ (s.kind = 4 → (rounds s b : Int) = bitI b) := by
  have ht := stmt_times h hk
  unfold rounds timesS at *
  rcases hk with h4 | h5
  · rw [if_pos h4]
    refine ⟨by split <;> omega, fun h => by omega, fun _ => ?_⟩
    cases b <;> simp [bitI]
  · rw [if_neg (by omega)]
    rw [if_pos h5] at ht
    exact ⟨by omega, fun _ => by omega, fun h => by omega⟩
structure Keeps {σ : Type} (R : Nat → σ → List It → Heap → Prop) : Prop where
  new : ∀ {n st L h} (b : Blk), R n st L h → R n st (.k h.length b :: L) (h ++ [b])
  get : ∀ {n st id b L h}, R n st (.k id b :: L) h → h[id]? = some b
  drop : ∀ {n st x L h}, R n st (x :: L) h → R n st L h
section
variable {σ : Type} {R : Nat → σ → List It → Heap → Prop} {stp : Stmt → σ → σ} {hold : Stmt → σ → Bool} {g : Nat} {caps : List V}
def WalkC (R : Nat → σ → List It → Heap → Prop) (stp : Stmt → σ → σ) (hold : Stmt → σ → Bool) (g : Nat) (caps : List V) (t : Tr) : Prop := ∀ (xs : List Stmt) (n : Nat) (st : σ) (L : List It) (h : Heap), t.ok = true → xs = t.flat → xs.length ≤ 24 → n + cntT t ≤ maxCnt → R n st L h →
    C Tryz.prog 146 [.lst 6 (xs.map encStmt), .fn g caps] h (fun r h' => r = .tup [] ∧ ∃ n', n' ≤ n + cntT t ∧ R n' (runG stp hold t st) L h')
theorem walk_step (K : Keeps R) (hsee : ∀ (n : Nat) (st : σ) (s : Stmt) (L : List It) (h : Heap), n < maxCnt → stmtOk s = true → s.kind ≠ 6 → R n st L h → C Tryz.prog g (.agg (encStmt s) :: caps) h (fun r h' => r = .bool (hold s st) ∧ R (n + 1) (stp s st) L h'))
    (sz : Nat) (ih : ∀ b : Tr, b.size < sz → WalkC R stp hold g caps b) (t : Tr) (hsz : t.size ≤ sz) : WalkC R stp hold g caps t := by
  intro xs n st L h ht hf hl hn hR
  refine C.by mixed (cfn_ok Tryz.func146 ok146) rfl ?_
  simp (disch := omega) only [s146, go_sem]
  refine loopP_intro (fun m s => ∃ (k : Nat) (r : Tr) (n' : Nat) (st' : σ), k ≤ xs.length ∧ m = xs.length - k ∧ r.ok = true ∧ r.size ≤ sz ∧ r.flat.length ≤ 24 ∧ xs.drop k = r.flat ∧ n' + cntT r ≤ n + cntT t ∧ runG stp hold r st' = runG stp hold t st ∧ s.e 0 = .lst 6 (xs.map encStmt) ∧ s.e 1 = .fn g caps ∧ s.e 4 = .int .i64 k ∧ R n' st' L s.h) xs.length ⟨0, t, n, st, by omega, by omega, ht, hsz, by rw [← hf]; exact hl, by simpa using hf, by omega, rfl, by simp (disch := omega) only [go_sem], by simp (disch := omega) only [go_sem], by simp (disch := omega) only [go_sem] <;> rfl, hR⟩ ?_
  intro m e hp P
  refine Exists.elim P fun k P => Exists.elim P fun r P => Exists.elim P fun n1 P => Exists.elim P fun st1 P => ?_
  have hk := P.1
  have hm := P.2.1
  have hr := P.2.2.1
  have hrs := P.2.2.2.1
  have hrl := P.2.2.2.2.1
  have hdk := P.2.2.2.2.2.1
  have hc := P.2.2.2.2.2.2.1
  have hrun := P.2.2.2.2.2.2.2.1
  have e0 := P.2.2.2.2.2.2.2.2.1
  have e1 := P.2.2.2.2.2.2.2.2.2.1
  have e4 := P.2.2.2.2.2.2.2.2.2.2.1
  have R1 := P.2.2.2.2.2.2.2.2.2.2.2
  clear P
  subst hm
  simp only at e0 e1 e4 R1
  simp (disch := omega) only [go_sem, e0, e1, e4]
  refine condP_dec (fun hlt => ?_) (fun hlt => ?_)
  case' refine_2 =>
    have hke : k = xs.length := by omega
    subst hke
    have hz : r = .nil := by
      have hlen := congrArg List.length hdk
      rw [List.drop_length, List.length_nil] at hlen
      cases r with
      | nil => rfl
      | one s r => simp [Tr.flat] at hlen
      | grp s a r => simp [Tr.flat] at hlen
    subst hz
    simp (disch := omega) only [go_sem, e0, e1, e4]
    refine ⟨n1, by simp only [cntT] at hc; omega, ?_⟩
    rw [← hrun]; exact R1
  have hlt' : k < xs.length := by omega
  have nxt : ∀ (e' : Nat → V) (hh : Heap) (q : Nat) (r' : Tr) (n' : Nat) (st' : σ), k < q → q ≤ xs.length → r'.ok = true → r'.size ≤ sz → r'.flat.length ≤ 24 → xs.drop q = r'.flat → n' + cntT r' ≤ n + cntT t → runG stp hold r' st' = runG stp hold t st → e' 0 = .lst 6 (xs.map encStmt) → e' 1 = .fn g caps → e' 4 = .int .i64 q → R n' st' L hh → @nextP (xs.length - k) ⟨e', hh⟩ ⟨fun m s => ∃ (k : Nat) (r : Tr) (n' : Nat) (st' : σ), k ≤ xs.length ∧ m = xs.length - k ∧ r.ok = true ∧ r.size ≤ sz ∧ r.flat.length ≤ 24 ∧ xs.drop k = r.flat ∧ n' + cntT r ≤ n + cntT t ∧ runG stp hold r st' = runG stp hold t st ∧ s.e 0 = .lst 6 (xs.map encStmt) ∧ s.e 1 = .fn g caps ∧ s.e 4 = .int .i64 k ∧ R n' st' L s.h⟩ := fun e' hh q r' n' st' a1 a2 a3 a4 a5 a6 a7 a8 a9 b1 b2 b3 =>
    nextP_intro (xs.length - q) (by omega) ⟨q, r', n', st', a2, rfl, a3, a4, a5, a6, a7, a8, a9, b1, b2, b3⟩
  rcases r with _ | ⟨s, r⟩ | ⟨s, b, r⟩
  · have := congrArg List.length hdk
    simp [Tr.flat] at this
    omega
  · obtain ⟨hs, hkk, hr'⟩ := Tr.one_ok hr
    simp only [Tr.flat] at hdk hrl
    simp only [List.length_cons] at hrl
    simp only [Tr.size] at hrs
    simp only [cntT] at hc
    simp only [runG] at hrun
    refine Exists.elim (drop_head hdk) fun hk0 z => ?_
    have hks := z.1
    have hd1 := z.2
    have hg : ∀ h : k < xs.length, xs[k] = s := fun _ => hks
    have R2 := K.new [encStmt s] R1
    have B2 := K.get R2
    simp only [encStmt] at R2 B2
    have hO : isOpening s.kind = false := by rcases hkk with h | h | h <;> simp [isOpening, h]
    simp (disch := omega) only [go_sem, e0, e1, e4, hg, B2, encStmt]
    refine C.go (hsee n1 st1 s _ _ (by omega) hs (by omega) R2) ?_
    rintro r h3 ⟨rfl, R3⟩
    have B3 := K.get R3
    simp (disch := omega) only [go_sem, e0, e1, e4, B3]
    refine CP.go (isOpening_c s.kind) rfl rfl ?_
    simp (disch := omega) only [go_sem, e0, e1, e4, hO, B3]
    exact nxt _ _ (k + 1) r (n1 + 1) (stp s st1) (by omega) (by omega) hr' (by omega) (by omega) hd1 (by omega) hrun (by simp (disch := omega) only [go_sem, e0, e1, e4, hO, B3]) (by simp (disch := omega) only [go_sem, e0, e1, e4, hO, B3]) (by simp (disch := omega) only [go_sem, e0, e1, e4, hO, B3]; rfl) (K.drop R3)
  · obtain ⟨hs, hkk, hb', hr'⟩ := Tr.grp_ok hr
    simp only [Tr.flat] at hdk hrl
    simp only [List.length_cons, List.length_append] at hrl
    simp only [Tr.size] at hrs
    simp only [cntT] at hc
    simp only [runG] at hrun
    refine Exists.elim (drop_head hdk) fun hk0 z => ?_
    have hks := z.1
    have hd1 := z.2
    have hd2 := drop_skip hd1
    refine Exists.elim (drop_head hd2) fun hk3 z => ?_
    have hd4 := z.2
    have hg : ∀ h : k < xs.length, xs[k] = s := fun _ => hks
    have R2 := K.new [encStmt s] R1
    have B2 := K.get R2
    simp only [encStmt] at R2 B2
    have hO : isOpening s.kind = true := by rcases hkk with h | h <;> simp [isOpening, h]
    have hen : endO 0 k (xs.drop k) = (k : Int) + 1 + b.flat.length := by rw [hdk]; exact endO_grp k _ hkk hb'
    have htm := take_mid (xs := xs) hdk
    have t1 : ((k : Int) + 1).toNat = k + 1 := by omega
    have t2 : ((k : Int) + 1 + b.flat.length).toNat = k + 1 + b.flat.length := by omega
    simp (disch := omega) only [go_sem, e0, e1, e4, hg, B2, encStmt]
    refine C.go (hsee n1 st1 s _ _ (by omega) hs (by omega) R2) ?_
    rintro r3 h3 ⟨rfl, R3⟩
    have B3 := K.get R3
    simp (disch := omega) only [go_sem, e0, e1, e4, B3]
    refine CP.go (isOpening_c s.kind) rfl rfl ?_
    simp (disch := omega) only [go_sem, e0, e1, e4, hO, B3]
    refine CP.go (endO_c xs k (by omega) (by omega)) rfl (refs_args _ _ _) ?_
    have hrd := rounds_le (b := hold s st1) hs hkk
    refine Exists.elim (show ∃ c, c = rounds s (hold s st1) from ⟨_, rfl⟩) fun c hce => ?_
    rw [← hce] at hrd hrun
    simp (disch := omega) only [go_sem, e0, e1, e4, hen, B3]
    refine condP_dec (fun h4 => ?_) (fun h4 => ?_)
    case' refine_1 =>
      have hcb := hrd.2.2 h4
      simp (disch := omega) only [go_sem, e0, e1, e4, hen, B3]
      refine CP.go (bit_c _) rfl rfl ?_
      simp (disch := omega) only [go_sem, e0, e1, e4, hen, B3, hcb.symm]
    case' refine_2 =>
      have hcb := hrd.2.1 (by omega)
      simp (disch := omega) only [go_sem, e0, e1, e4, hen, B3, hcb.symm]
    all_goals
      refine loopP_intro (fun m s' => ∃ (j n' : Nat) (st' : σ), j ≤ c ∧ m = c - j ∧ n' ≤ n1 + 1 + j * cntT b ∧ st' = itN (fun x => runG stp hold b x) j (stp s st1) ∧ s'.e 0 = .lst 6 (xs.map encStmt) ∧ s'.e 1 = .fn g caps ∧ s'.e 4 = .int .i64 k ∧ s'.e 7 = .int .i64 ((k : Int) + 1 + b.flat.length) ∧ s'.e 39 = .int .i64 c ∧ s'.e 40 = .int .i64 j ∧ R n' st' L s'.h) c ⟨0, n1 + 1, stp s st1, by omega, by omega, by omega, rfl, by simp (disch := omega) only [go_sem, e0, e1, e4, hen, B3], by simp (disch := omega) only [go_sem, e0, e1, e4, hen, B3], by simp (disch := omega) only [go_sem, e0, e1, e4, hen, B3], by simp (disch := omega) only [go_sem, e0, e1, e4, hen, B3], by simp (disch := omega) only [go_sem, e0, e1, e4, hen, B3], by simp (disch := omega) only [go_sem, e0, e1, e4, hen, B3] <;> rfl, K.drop R3⟩ ?_
      clear e0 e1 e4 R1 R2 B2 R3 B3 hcb h4
      intro m e hp P
      refine Exists.elim P fun j P => Exists.elim P fun n2 P => Exists.elim P fun st2 P => ?_
      have hj := P.1
      have hm := P.2.1
      have hn2 := P.2.2.1
      have hst := P.2.2.2.1
      have e0 := P.2.2.2.2.1
      have e1 := P.2.2.2.2.2.1
      have e4 := P.2.2.2.2.2.2.1
      have e7 := P.2.2.2.2.2.2.2.1
      have e39 := P.2.2.2.2.2.2.2.2.1
      have e40 := P.2.2.2.2.2.2.2.2.2.1
      have R1 := P.2.2.2.2.2.2.2.2.2.2
      clear P
      subst hm
      simp only at e0 e1 e4 e7 e39 e40 R1
      have hj5 : (j + 1) * cntT b ≤ 5 * cntT b ∨ c ≤ j := by
        rcases Nat.lt_or_ge j c with h | h
        · exact .inl (Nat.mul_le_mul_right _ (by omega))
        · exact .inr h
      rw [Nat.add_mul] at hj5
      simp (disch := omega) only [go_sem, e0, e1, e4, e7, e39, e40]
      refine condP_dec (fun hjc => ?_) (fun hjc => ?_)
      · simp (disch := omega) only [go_sem, e0, e1, e4, e7, e39, e40, t1, t2, htm]
        refine C.go (ih b (by omega) b.flat n2 st2 L hp hb' rfl (by omega) (by omega) R1) ?_
        intro r4 h4 P
        have hr4 := P.1
        refine Exists.elim P.2 fun n3 P => ?_
        have hn3 := P.1
        have R4 := P.2
        clear P
        subst hr4
        simp (disch := omega) only [go_sem, e0, e1, e4, e7, e39, e40]
        refine nextP_intro (c - (j + 1)) (by omega) ⟨j + 1, n3, runG stp hold b st2, by omega, rfl, by rw [Nat.add_mul]; omega, by rw [itN_succ, hst], by simp (disch := omega) only [go_sem, e0, e1, e4, e7, e39, e40], by simp (disch := omega) only [go_sem, e0, e1, e4, e7, e39, e40], by simp (disch := omega) only [go_sem, e0, e1, e4, e7, e39, e40], by simp (disch := omega) only [go_sem, e0, e1, e4, e7, e39, e40], by simp (disch := omega) only [go_sem, e0, e1, e4, e7, e39, e40], by simp (disch := omega) only [go_sem, e0, e1, e4, e7, e39, e40] <;> rfl, R4⟩
      · have hjc' : j = c := by omega
        subst hjc'
        have hcc : j * cntT b ≤ 5 * cntT b := Nat.mul_le_mul_right _ (by omega)
        simp (disch := omega) only [go_sem, e0, e1, e4, e7, e39, e40]
        exact nxt _ _ (k + 1 + b.flat.length + 1) r n2 st2 (by omega) (by omega) hr' (by omega) (by omega) hd4 (by omega) (by rw [hst]; exact hrun) (by simp (disch := omega) only [go_sem, e0, e1, e4, e7, e39, e40]) (by simp (disch := omega) only [go_sem, e0, e1, e4, e7, e39, e40]) (by simp (disch := omega) only [go_sem, e0, e1, e4, e7, e39, e40]; exact congrArg (V.int .i64) (by omega)) R1
theorem walk_c (K : Keeps R) (hsee : ∀ (n : Nat) (st : σ) (s : Stmt) (L : List It) (h : Heap), n < maxCnt → stmtOk s = true → s.kind ≠ 6 → R n st L h → C Tryz.prog g (.agg (encStmt s) :: caps) h (fun r h' => r = .bool (hold s st) ∧ R (n + 1) (stp s st) L h')) (t : Tr) : WalkC R stp hold g caps t := by
  induction hn : t.size using Nat.strongRecOn generalizing t with
  | ind n ih => exact walk_step K hsee n (fun b hb => ih b.size hb b rfl) t (by omega)
end
end Go.Av

namespace Go.Av
open Go.Proofs Go.RowKit
set_option linter.unusedVariables false
set_option linter.unusedSimpArgs false
set_option maxRecDepth 100000
set_option maxHeartbeats 4000000
theorem range_pick {α : Type} : ∀ L : List α, (List.range L.length).filterMap (L[·]?) = L
  | [] => rfl
  | x :: xs => by
    have ih := range_pick xs
    rw [List.length_cons, List.range_succ_eq_map]
    simp only [List.filterMap_cons, List.getElem?_cons_zero, List.filterMap_map]
    exact congrArg (x :: ·) ih
theorem shift_pick {α : Type} (A L : List α) : ((List.range L.length).map (· + A.length)).filterMap ((A ++ L)[·]?) = L := by
  rw [List.filterMap_map]
  have : ((fun x => (A ++ L)[x]?) ∘ fun x => x + A.length) = fun i => L[i]? := by
    funext i
    simp only [Function.comp]
    rw [List.getElem?_append_right (by omega), Nat.add_sub_cancel]
  rw [this]
  exact range_pick L
theorem fm_congr {α β : Type} {f g : α → Option β} : ∀ {l : List α}, (∀ x ∈ l, f x = g x) → l.filterMap f = l.filterMap g
  | [], _ => rfl
  | x :: xs, h => by
    have ih := fm_congr (l := xs) fun y hy => h y (by simp [hy])
    simp only [List.filterMap_cons, h x (by simp), ih]
theorem Sep.pk {h : Heap} {A L : List It} (is : List Nat) (S : Sep h (A ++ L)) (hn : (decide is.Nodup && is.all fun i => decide (i < A.length)) = true) : Sep h (is.filterMap (A[·]?) ++ L) := by
  simp only [Bool.and_eq_true, decide_eq_true_eq, List.all_eq_true] at hn
  have p := S.pick (is ++ (List.range L.length).map (· + A.length)) (by
    rw [List.nodup_append]
    refine ⟨hn.1, List.Pairwise.map _ (fun a b (e : a ≠ b) => show a + A.length ≠ b + A.length by omega) List.nodup_range, fun a ha b hb e => ?_⟩
    subst e
    obtain ⟨c, _, rfl⟩ := List.mem_map.1 hb
    have := hn.2 _ ha
    omega)
  rw [List.filterMap_append, shift_pick] at p
  have e : is.filterMap ((A ++ L)[·]?) = is.filterMap (A[·]?) := fm_congr fun i hi => List.getElem?_append_left (hn.2 i hi)
  rwa [e] at p
theorem store_i {h : Heap} {id n i : Nat} {zs : List Int} {z : Int} (hb : h[id]? = some (zs.map encI)) (hn : zs.length = n) (hi : i < n) : storeH h 1 (.ptr id n i 0) (.int .i64 z) = some (h.set id ((zs.set i z).map encI)) := by
  rw [storeH_row hb (by simpa using hn) hi (fun e he => by obtain ⟨z, _, rfl⟩ := List.mem_map.1 he; rfl) rfl, List.map_set]; rfl
theorem Sep.newK2 {h : Heap} {L : List It} (S : Sep h L) (b c : Blk) : Sep (h ++ [b, c]) (.k (h.length + 1) c :: .k h.length b :: L) := by
  have := (S.newK b).newK c
  simp only [List.append_assoc, List.cons_append, List.nil_append, List.length_append, List.length_cons, List.length_nil, Nat.zero_add] at this
  exact this
theorem Sep.newK3 {h : Heap} {L : List It} (S : Sep h L) (b c d : Blk) : Sep (h ++ [b, c, d]) (.k (h.length + 2) d :: .k (h.length + 1) c :: .k h.length b :: L) := by
  have := (S.newK2 b c).newK d
  simp only [List.append_assoc, List.cons_append, List.nil_append, List.length_append, List.length_cons, List.length_nil, Nat.zero_add] at this
  exact this
theorem Sep.push1 {h : Heap} {l : Nat} {b : Blk} {L : List It} (S : Sep h (.k l b :: L)) (c : List V) : Sep ((h ++ [[c]]).set l (b ++ [c])) (.k l (b ++ [c]) :: L) := (S.app _).setK _
def packM (t c l : Int) : Int := if (0 ≤ t ∧ t ≤ 5) ∧ (0 ≤ c ∧ c ≤ 8) ∧ (0 ≤ l ∧ l ≤ 24) then t + 8 * (c + 16 * l) else -1
theorem packM_bd (t c l : Int) : -1 ≤ packM t c l ∧ packM t c l ≤ 3141 := by unfold packM; split <;> omega
theorem packM_eq {t c l : Int} (h1 : 0 ≤ t ∧ t ≤ 5) (h2 : 0 ≤ c ∧ c ≤ 8) (h3 : 0 ≤ l ∧ l ≤ 24) : packM t c l = t + 8 * (c + 16 * l) := if_pos ⟨h1, h2, h3⟩
theorem pack_c (t c l : Int) : CP Tryz.prog 159 [.int .i64 t, .int .i64 c, .int .i64 l] (.int .i64 (packM t c l)) [] := by
  refine CP.by rfl mixed (cfn_ok Tryz.func159 ok159) rfl ?_
  simp (disch := omega) only [s159, go_sem, within_dec]
  repeat' (first | (refine CP.go (within_c _ _ _) rfl rfl ?_ <;> (try simp (disch := omega) only [go_sem, within_dec])) | (refine condP_t (by assumption) ?_ <;> (try simp (disch := omega) only [go_sem, within_dec])) | (refine condP_f (by assumption) ?_ <;> (try simp (disch := omega) only [go_sem, within_dec])) | (refine condP_dec (fun h => ?_) (fun h => ?_) <;> (try simp (disch := omega) only [go_sem, within_dec])) | (refine condP_split (fun h => ?_) (fun h => ?_) <;> (try simp (disch := omega) only [go_sem, within_dec])))
  all_goals (unfold packM; first | rw [if_pos (by omega)] | rw [if_neg (by omega)])
theorem pack_s (t c l : Int) : CP Tryz.prog 62 [.int .i64 t, .int .i64 c, .int .i64 l] (.int .i64 (packM t c l)) [] := by
  refine CP.by rfl mixed (cfn_ok Tryz.func62 ok62) rfl ?_
  simp (disch := omega) only [s62, go_sem, within_dec]
  repeat' (first | (refine CP.go (l01In_c _ _ _) rfl rfl ?_ <;> (try simp (disch := omega) only [go_sem, within_dec])) | (refine condP_t (by assumption) ?_ <;> (try simp (disch := omega) only [go_sem, within_dec])) | (refine condP_f (by assumption) ?_ <;> (try simp (disch := omega) only [go_sem, within_dec])) | (refine condP_dec (fun h => ?_) (fun h => ?_) <;> (try simp (disch := omega) only [go_sem, within_dec])) | (refine condP_split (fun h => ?_) (fun h => ?_) <;> (try simp (disch := omega) only [go_sem, within_dec])))
  all_goals (unfold packM; first | rw [if_pos (by omega)] | rw [if_neg (by omega)])
def unpackM (w : Int) : Int × Int × Int := if 0 ≤ w ∧ packM (w % 8) (w / 8 % 16) (w / 128) = w then (w % 8, w / 8 % 16, w / 128) else (-1, -1, -1)
theorem unpack_pack {t c l : Int} (h1 : 0 ≤ t ∧ t ≤ 5) (h2 : 0 ≤ c ∧ c ≤ 8) (h3 : 0 ≤ l ∧ l ≤ 24) : unpackM (packM t c l) = (t, c, l) := by
  rw [packM_eq h1 h2 h3]
  have a : (t + 8 * (c + 16 * l)) % 8 = t := by omega
  have b : (t + 8 * (c + 16 * l)) / 8 % 16 = c := by omega
  have d : (t + 8 * (c + 16 * l)) / 128 = l := by omega
  unfold unpackM
  rw [a, b, d, if_pos ⟨by omega, packM_eq h1 h2 h3⟩]
theorem unpackM_bd (w : Int) : ((unpackM w).1 = -1 ∧ (unpackM w).2.1 = -1 ∧ (unpackM w).2.2 = -1) ∨ ((0 ≤ (unpackM w).1 ∧ (unpackM w).1 ≤ 5) ∧ (0 ≤ (unpackM w).2.1 ∧ (unpackM w).2.1 ≤ 8) ∧ (0 ≤ (unpackM w).2.2 ∧ (unpackM w).2.2 ≤ 24) ∧ w = packM (unpackM w).1 (unpackM w).2.1 (unpackM w).2.2) := by
  unfold unpackM
  split
  · rename_i h
    refine .inr ?_
    have := h.2
    unfold packM at this
    split at this
    · rename_i q; exact ⟨q.1, q.2.1, q.2.2, h.2.symm⟩
    · omega
  · exact .inl ⟨rfl, rfl, rfl⟩
def encU (w : Int) : V := .tup [.int .i64 (unpackM w).1, .int .i64 (unpackM w).2.1, .int .i64 (unpackM w).2.2]
theorem div_nn {a b : Int} (h : 0 ≤ a) : a.tdiv b = a / b := Int.tdiv_eq_ediv_of_nonneg h
theorem mod_nn {a b : Int} (h : 0 ≤ a) : a.tmod b = a % b := Int.tmod_eq_emod_of_nonneg h
theorem unpack_out {w : Int} (h : ¬ (0 ≤ w ∧ w ≤ 3141)) : unpackM w = (-1, -1, -1) := if_neg fun q => by
  have := packM_bd (w % 8) (w / 8 % 16) (w / 128)
  omega
theorem unpack_c (w : Int) : CP Tryz.prog 149 [.int .i64 w] (encU w) [] := by
  refine CP.by rfl mixed (cfn_ok Tryz.func149 ok149) rfl ?_
  simp (disch := omega) only [s149, go_sem]
  refine condP_dec (fun h0 => ?_) (fun h0 => ?_)
  · simp (disch := omega) only [go_sem]
    simp [encU, unpack_out (w := w) (by omega)]
  have h0' : 0 ≤ w := by omega
  by_cases hw : w ≤ 3141
  · have d8 : 0 ≤ w.tdiv 8 ∧ w.tdiv 8 ≤ 1152921504606846976 := by rw [div_nn h0']; omega
    have d128 : 0 ≤ w.tdiv 128 ∧ w.tdiv 128 ≤ 1152921504606846976 := by rw [div_nn h0']; omega
    simp (disch := omega) only [go_sem]
    refine CP.go (pack_c _ _ _) rfl rfl ?_
    have hpk : packM (w.tmod 8) ((w.tdiv 8).tmod 16) (w.tdiv 128) = packM (w % 8) (w / 8 % 16) (w / 128) := by rw [mod_nn h0', div_nn h0', div_nn h0', mod_nn (by omega)]
    simp (disch := omega) only [go_sem]
    refine condP_dec (fun h1 => ?_) (fun h1 => ?_) <;> rw [hpk] at h1
    · simp (disch := omega) only [go_sem]
      have hu : unpackM w = (w % 8, w / 8 % 16, w / 128) := if_pos ⟨h0', h1⟩
      simp only [encU, hu, mod_nn h0', div_nn h0', mod_nn (show 0 ≤ w / 8 by omega)]
    · simp (disch := omega) only [go_sem]
      have hu : unpackM w = (-1, -1, -1) := if_neg fun q => h1 q.2
      simp only [encU, hu]
  · simp (disch := omega) only [go_sem]
    refine CP.go (pack_c _ _ _) rfl rfl ?_
    simp (disch := omega) only [go_sem]
    refine condP_dec (fun h1 => ?_) (fun h1 => ?_)
    · have := packM_bd (w.tmod 8) ((IntKind.wrap .i64 (w.tdiv 8)).tmod 16) (IntKind.wrap .i64 (w.tdiv 128))
      exfalso; omega
    · simp (disch := omega) only [go_sem]
      simp [encU, unpack_out (w := w) (by omega)]
theorem unpack_s (w : Int) : CP Tryz.prog 32 [.int .i64 w] (encU w) [] := by
  refine CP.by rfl mixed (cfn_ok Tryz.func32 ok32) rfl ?_
  simp (disch := omega) only [s32, go_sem]
  refine condP_dec (fun h0 => ?_) (fun h0 => ?_)
  · simp (disch := omega) only [go_sem]
    simp [encU, unpack_out (w := w) (by omega)]
  have h0' : 0 ≤ w := by omega
  simp (disch := omega) only [go_sem]
  refine condP_dec (fun hb => ?_) (fun hb => ?_)
  · simp (disch := omega) only [go_sem]
    simp [encU, unpack_out (w := w) (by omega)]
  by_cases hw : w ≤ 3141
  · have d8 : 0 ≤ w.tdiv 8 ∧ w.tdiv 8 ≤ 1152921504606846976 := by rw [div_nn h0']; omega
    have d128 : 0 ≤ w.tdiv 128 ∧ w.tdiv 128 ≤ 1152921504606846976 := by rw [div_nn h0']; omega
    simp (disch := omega) only [go_sem]
    refine CP.go (pack_s _ _ _) rfl rfl ?_
    have hpk : packM (w.tmod 8) ((w.tdiv 8).tmod 16) (w.tdiv 128) = packM (w % 8) (w / 8 % 16) (w / 128) := by rw [mod_nn h0', div_nn h0', div_nn h0', mod_nn (by omega)]
    simp (disch := omega) only [go_sem]
    refine condP_dec (fun h1 => ?_) (fun h1 => ?_) <;> rw [hpk] at h1
    · simp (disch := omega) only [go_sem]
      have hu : unpackM w = (w % 8, w / 8 % 16, w / 128) := if_pos ⟨h0', h1⟩
      simp only [encU, hu, mod_nn h0', div_nn h0', mod_nn (show 0 ≤ w / 8 by omega)]
    · simp (disch := omega) only [go_sem]
      have hu : unpackM w = (-1, -1, -1) := if_neg fun q => h1 q.2
      simp only [encU, hu]
  · simp (disch := omega) only [go_sem]
    refine CP.go (pack_s _ _ _) rfl rfl ?_
    simp (disch := omega) only [go_sem]
    refine condP_dec (fun h1 => ?_) (fun h1 => ?_)
    · have := packM_bd (w.tmod 8) ((IntKind.wrap .i64 (w.tdiv 8)).tmod 16) (IntKind.wrap .i64 (w.tdiv 128))
      exfalso; omega
    · simp (disch := omega) only [go_sem]
      simp [encU, unpack_out (w := w) (by omega)]
theorem isValue_s (x : Int) : CP Tryz.prog 231 [.int .i64 x] (.bool (isValue x)) [] := by
  refine CP.by rfl mixed (cfn_ok Tryz.func231 ok231) rfl ?_
  simp (disch := omega) only [s231, go_sem]
  refine CP.go (l01In_c _ _ _) rfl rfl ?_
  simp (disch := omega) only [go_sem]
  rfl
def vals (zs : List Int) : Bool := zs.all isValue
theorem vals_iff {zs : List Int} : vals zs = true ↔ ∀ z ∈ zs, isValue z = true := List.all_eq_true
theorem values_s (zs : List Int) (hl : zs.length ≤ 9223372036854775807) : CP Tryz.prog 227 [.lst 1 (zs.map encI)] (.bool (vals zs)) [] := by
  refine CP.by rfl mixed (cfn_ok Tryz.func227 ok227) rfl ?_
  simp (disch := omega) only [s227, go_sem]
  refine loopP_intro (fun m s => ∃ k : Nat, k ≤ zs.length ∧ m = zs.length - k ∧ s.e 0 = .lst 1 (zs.map encI) ∧ s.e 3 = .int .i64 k ∧ ∀ j (hj : j < zs.length), j < k → isValue zs[j] = true) zs.length ⟨0, by omega, by omega, rfl, rfl, fun j _ h => absurd h (by omega)⟩ ?_
  rintro m e hp ⟨k, hk, rfl, e0, e3, hall⟩
  simp only at e0 e3
  simp (disch := omega) only [go_sem, e0, e3, encI]
  refine condP_dec (fun hlt => ?_) (fun hlt => ?_)
  · have hlt' : k < zs.length := by omega
    simp (disch := omega) only [go_sem, e0, e3, encI]
    refine CP.go (isValue_s zs[k]) rfl rfl ?_
    simp (disch := omega) only [go_sem, e0, e3, encI]
    refine condP_split (fun h => ?_) (fun h => ?_)
    · simp (disch := omega) only [go_sem, e0, e3, encI]
      refine nextP_intro (zs.length - (k + 1)) (by omega) ⟨k + 1, by omega, rfl, by simp (disch := omega) only [go_sem, e0, e3, encI], by simp (disch := omega) only [go_sem, e0, e3, encI]; rfl, fun j hj hjk => ?_⟩
      by_cases e : j = k
      · subst e; exact h
      · exact hall j hj (by omega)
    · simp (disch := omega) only [go_sem, e0, e3, encI]
      have : vals zs = false := List.all_eq_false.2 ⟨zs[k], List.getElem_mem hlt', by simp [h]⟩
      rw [this]
  · simp (disch := omega) only [go_sem, e0, e3, encI]
    have : vals zs = true := vals_iff.2 fun z hz => by
      obtain ⟨j, hj, rfl⟩ := List.getElem_of_mem hz
      exact hall j hj (by omega)
    rw [this]
def varsOkM (zs : List Int) : Bool := decide (zs.length = 8) && vals zs
theorem indexI_c (g : Nat) (p : Int → Bool) (zs : List Int) (hg : ∀ z ∈ zs, CP Tryz.prog g [.int .i64 z] (.bool (p z)) []) (hl : zs.length ≤ 9223372036854775807) : CP Tryz.prog 179 [.lst 1 (zs.map encI), .fn g []] (.int .i64 (idxI p zs)) [] := by
  refine CP.by rfl mixed (cfn_ok Tryz.func179 ok179) rfl ?_
  simp (disch := omega) only [s179, go_sem]
  refine loopP_intro (fun m s => ∃ k : Nat, k ≤ zs.length ∧ m = zs.length - k ∧ s.e 0 = .lst 1 (zs.map encI) ∧ s.e 1 = .fn g [] ∧ s.e 7 = .int .i64 zs.length ∧ s.e 8 = .int .i64 k ∧ ∀ j (hj : j < zs.length), j < k → p zs[j] = false) zs.length ⟨0, by omega, by omega, rfl, rfl, by simp (disch := omega) only [go_sem], rfl, fun j _ h => absurd h (by omega)⟩ ?_
  rintro m e hp ⟨k, hk, rfl, e0, e1, e7, e8, hall⟩
  simp only at e0 e1 e7 e8
  simp (disch := omega) only [go_sem, e0, e1, e7, e8, encI]
  refine condP_dec (fun hlt => ?_) (fun hlt => ?_)
  · have hlt' : k < zs.length := by omega
    simp (disch := omega) only [go_sem, e0, e1, e7, e8, encI]
    refine CP.go (hg zs[k] (List.getElem_mem hlt')) rfl rfl ?_
    simp (disch := omega) only [go_sem, e0, e1, e7, e8, encI]
    refine condP_split (fun h => ?_) (fun h => ?_)
    · simp (disch := omega) only [go_sem, e0, e1, e7, e8, encI]
      rw [idxI_found hlt' h hall]
    · simp (disch := omega) only [go_sem, e0, e1, e7, e8, encI]
      refine nextP_intro (zs.length - (k + 1)) (by omega) ⟨k + 1, by omega, rfl, by simp (disch := omega) only [go_sem, e0, e1, e7, e8, encI], by simp (disch := omega) only [go_sem, e0, e1, e7, e8, encI], by simp (disch := omega) only [go_sem, e0, e1, e7, e8, encI], by simp (disch := omega) only [go_sem, e0, e1, e7, e8, encI]; rfl, fun j hj hjk => ?_⟩
      by_cases e : j = k
      · subst e; exact h
      · exact hall j hj (by omega)
  · simp (disch := omega) only [go_sem, e0, e1, e7, e8, encI]
    rw [idxI_none (fun j hj => hall j hj (by omega))]
theorem containsI_c (g : Nat) (p : Int → Bool) (zs : List Int) (hg : ∀ z ∈ zs, CP Tryz.prog g [.int .i64 z] (.bool (p z)) []) (hl : zs.length ≤ 9223372036854775807) : CP Tryz.prog 112 [.lst 1 (zs.map encI), .fn g []] (.bool (zs.any p)) [] := by
  refine CP.by rfl mixed (cfn_ok Tryz.func112 ok112) rfl ?_
  simp (disch := omega) only [s112, go_sem]
  refine CP.go (indexI_c g p zs hg hl) rfl (refs_ints _ _ _ rfl) ?_
  simp (disch := omega) only [go_sem, idxI_ge]
theorem refs_int1 (n : Nat) (zs : List Int) : V.refsL n [.lst 1 (zs.map encI)] = true := by simp [V.refsL, V.refs, refsLL_map encI (fun _ => rfl) zs]
theorem any_not {zs : List Int} : (zs.any fun z => !isValue z) = !vals zs := by unfold vals; rw [List.not_all_eq_any_not]
theorem values_c (zs : List Int) (hl : zs.length ≤ 9223372036854775807) : CP Tryz.prog 85 [.lst 1 (zs.map encI)] (.bool (vals zs)) [] := by
  refine CP.by rfl mixed (cfn_ok Tryz.func85 ok85) rfl ?_
  simp (disch := omega) only [s85, go_sem]
  refine CP.go (containsI_c 144 (fun z => !isValue z) zs (fun z _ => notValue_c z) hl) rfl (refs_ints _ _ _ rfl) ?_
  simp (disch := omega) only [go_sem, any_not, Bool.not_not]
theorem varsOkG_c (zs : List Int) (hl : zs.length ≤ 9223372036854775807) : CP Tryz.prog 84 [.lst 1 (zs.map encI)] (.bool (varsOkM zs)) [] := by
  refine CP.by rfl mixed (cfn_ok Tryz.func84 ok84) rfl ?_
  simp (disch := omega) only [s84, go_sem]
  refine condP_dec (fun h8 => ?_) (fun h8 => ?_)
  · simp (disch := omega) only [go_sem]
    refine CP.go (values_c zs hl) rfl (refs_int1 _ _) ?_
    simp (disch := omega) only [go_sem]
    have : zs.length = 8 := by omega
    simp [varsOkM, this]
  · simp (disch := omega) only [go_sem]
    have : ¬ zs.length = 8 := by omega
    simp [varsOkM, this]
theorem hasTask_c (ts : List Task) (t : Int) (hl : ts.length ≤ 1048576) (hb : ∀ t ∈ ts, t.body.length ≤ 9223372036854775807) : CP Tryz.prog 79 [.agg [.lst 4 (ts.map encTask)], .int .i64 t] (.bool (programOk ts && within t 0 ((ts.length : Int) - 1))) [] := by
  refine CP.by rfl mixed (cfn_ok Tryz.func79 ok79) rfl ?_
  simp (disch := omega) only [s79, go_sem]
  refine CP.go (programOk_c ts hl hb) rfl (refs_prog1 _ ts) ?_
  simp (disch := omega) only [go_sem]
  repeat' (first | (refine CP.go (within_c _ _ _) rfl rfl ?_ <;> (try simp (disch := omega) only [go_sem])) | (refine condP_t (by assumption) ?_ <;> (try simp (disch := omega) only [go_sem])) | (refine condP_f (by assumption) ?_ <;> (try simp (disch := omega) only [go_sem])) | (refine condP_dec (fun h => ?_) (fun h => ?_) <;> (try simp (disch := omega) only [go_sem])) | (refine condP_split (fun h => ?_) (fun h => ?_) <;> (try simp (disch := omega) only [go_sem])))
  all_goals simp_all
theorem cloneI_f (xs : List Int) (hx : xs.length ≤ 1048576) : F Tryz.prog 115 [.lst 1 (xs.map encI)] (.lst 1 (xs.map encI)) := by
  refine C.by mixed (cfn_ok Tryz.func115 ok115) rfl ?_
  simp (disch := omega) only [s115, go_sem]
  have ha : appendH [[]] 1 8 (.own 0 1 0 0 0) (.lst 1 (xs.map encI)) = some (.own 0 1 0 (0 + xs.length) (0 + xs.length), ([[]] : Heap).set 0 ([] ++ xs.map encI)) := appendH_n (n := 0) (m := xs.length) (b := []) rfl rfl (by simp [elemsOf]) (by simp) (by omega)
  have hfin : ∃ ids : List Nat, ids.Nodup ∧ OwnsR [xs.map encI] (.lst 1 (xs.map encI)) (.own 0 1 0 xs.length xs.length) ids := ⟨[0], by simp, Owns.own_flat rfl (by simp) (flat_encI _)⟩
  cases xs with
  | nil =>
    simp only [isnilP, List.map_nil, List.isEmpty_nil, if_true]
    intro b
    cases b
    · simp (disch := omega) only [go_sem, ha]
      exact hfin
    · simp (disch := omega) only [go_sem]
      exact ⟨[], by simp, Owns.nils_⟩
  | cons x xs =>
    simp only [isnilP, List.map_cons, List.isEmpty_cons, Bool.false_eq_true, if_false]
    simp only [List.map_cons] at ha
    simp (disch := omega) only [go_sem, ha]
    exact hfin
end Go.Av

namespace Go.Av
open Go.Proofs Go.RowKit
set_option linter.unusedVariables false
set_option linter.unusedSimpArgs false
set_option maxRecDepth 100000
set_option maxHeartbeats 4000000
theorem Sep.ls {h : Heap} {L : List It} (S : Sep h L) (c : List V) (hc : c.all V.scalar = true) : Sep h (.l c c :: L) := by
  obtain ⟨ids, nd, s⟩ := S
  exact ⟨ids, nd, [], ids, rfl, (OwnsL.scalars hc).2 ⟨rfl, rfl⟩, s⟩
theorem Sep.pushS {h : Heap} {sz bytes : Nat} {ys : Blk} {v : V} {L : List It} (S : Sep h (.v (.lst sz ys) v :: L)) (c : List V) (hc : c.all V.scalar = true) (hb : (ys.length + 1) * bytes ≤ 140737488355328) :
    ∃ v' h', appendH (h ++ [[c]]) sz bytes v (.own h.length sz 0 1 1) = some (v', h') ∧ Sep h' (.v (.lst sz (ys ++ [c])) v' :: L) := by
  have S1 := ((S.app [[c]]).ls c hc).sw
  exact S1.push (at_app0 _ _) hb
structure Micro where
  cost : Int
  at_ : Int
  val : Int
def encMicro (m : Micro) : List V := [.int .i64 m.cost, .int .i64 m.at_, .int .i64 m.val]
theorem flat_Micro (xs : List Micro) : flat (xs.map encMicro) = true := by simp [flat, encMicro, V.scalar]
def rowT (vs vu : V) (task tail sent : Int) (vl : V) (F : List Bool) (vv : V) : List V := [vs, vu, .int .i64 task, .int .i64 tail, .int .i64 sent, vl] ++ (F.map V.bool ++ [vv])
section
variable {vs vu vl vv : V} {task tail sent : Int} {F : List Bool} {h : Heap} {X : Nat}
theorem rowT_0 : rdc false 1 (rowT vs vu task tail sent vl F vv) = some vs := rfl
theorem rowT_1 : rdc false 1 ((rowT vs vu task tail sent vl F vv).drop 1) = some vu := rfl
theorem rowT_2 : rdc false 1 ((rowT vs vu task tail sent vl F vv).drop 2) = some (.int .i64 task) := rfl
theorem rowT_3 : rdc false 1 ((rowT vs vu task tail sent vl F vv).drop 3) = some (.int .i64 tail) := rfl
theorem rowT_4 : rdc false 1 ((rowT vs vu task tail sent vl F vv).drop 4) = some (.int .i64 sent) := rfl
theorem rowT_5 : rdc false 1 ((rowT vs vu task tail sent vl F vv).drop 5) = some vl := rfl
theorem rowT_F (hF : F.length = 8) {k : Nat} (hk : k < 8) : rdc false 1 ((rowT vs vu task tail sent vl F vv).drop (6 + k)) = some (.bool (bitB F k)) := by
  have e : (rowT vs vu task tail sent vl F vv).drop (6 + k) = (F.map V.bool ++ [vv]).drop k := by
    unfold rowT
    rw [List.drop_append, List.drop_eq_nil_of_le (by simp), List.nil_append]; congr 1; simp
  have h1 : k < (F.map V.bool ++ [vv]).length := by simp; omega
  rw [e, List.drop_eq_getElem_cons h1]
  simp [rdc, bitB, hF, hk]
theorem rowT_14 (hF : F.length = 8) : rdc false 1 ((rowT vs vu task tail sent vl F vv).drop 14) = some vv := by
  have e : (rowT vs vu task tail sent vl F vv).drop 14 = [vv] := by
    unfold rowT
    rw [List.drop_append, List.drop_eq_nil_of_le (by simp), List.nil_append, List.drop_append, List.drop_eq_nil_of_le (by simp [hF])]
    simp [hF]
  rw [e]; rfl
theorem rowT_out : rdc true 2 (rowT vs vu task tail sent vl F vv) = some (.agg [vs, vu]) := by
  have : 2 ≤ (rowT vs vu task tail sent vl F vv).length := by simp [rowT]
  simp [rdc, this]; rfl
theorem rowT_len (hF : F.length = 8) : (rowT vs vu task tail sent vl F vv).length = 15 := by simp [rowT, hF]
theorem rowT_s0 (hb : h[X]? = some [rowT vs vu task tail sent vl F vv]) (hF : F.length = 8) {w : V} (h1 : w.one = true) (h2 : w.cells = [w]) : storeH h 1 (.ptr X 1 0 0) w = some (h.set X [rowT w vu task tail sent vl F vv]) := by
  rw [storeH_cell (n := 1) (i := 0) hb rfl rfl (by rw [rowT_len hF]; omega) h1 h2]; rfl
theorem rowT_s1 (hb : h[X]? = some [rowT vs vu task tail sent vl F vv]) (hF : F.length = 8) {w : V} (h1 : w.one = true) (h2 : w.cells = [w]) : storeH h 1 (.ptr X 1 0 1) w = some (h.set X [rowT vs w task tail sent vl F vv]) := by
  rw [storeH_cell (n := 1) (i := 0) hb rfl rfl (by rw [rowT_len hF]; omega) h1 h2]; rfl
theorem rowT_s4 (hb : h[X]? = some [rowT vs vu task tail sent vl F vv]) (hF : F.length = 8) {w : Int} : storeH h 1 (.ptr X 1 0 4) (.int .i64 w) = some (h.set X [rowT vs vu task tail w vl F vv]) := by
  rw [storeH_cell (n := 1) (i := 0) hb rfl rfl (by rw [rowT_len hF]; omega) rfl rfl]; rfl
theorem rowT_s5 (hb : h[X]? = some [rowT vs vu task tail sent vl F vv]) (hF : F.length = 8) {w : V} (h1 : w.one = true) (h2 : w.cells = [w]) : storeH h 1 (.ptr X 1 0 5) w = some (h.set X [rowT vs vu task tail sent w F vv]) := by
  rw [storeH_cell (n := 1) (i := 0) hb rfl rfl (by rw [rowT_len hF]; omega) h1 h2]; rfl
theorem rowT_sF (hb : h[X]? = some [rowT vs vu task tail sent vl F vv]) (hF : F.length = 8) {k : Nat} (hk : k < 8) : storeH h 1 (.ptr X 1 0 (6 + k)) (.bool true) = some (h.set X [rowT vs vu task tail sent vl (F.set k true) vv]) := by
  rw [storeH_cell (n := 1) (i := 0) hb rfl rfl (by rw [rowT_len hF]; omega) rfl rfl]
  congr 3
  simp only [List.set_cons_zero]
  unfold rowT
  rw [List.set_append_right _ _ (by simp), show 6 + k - [vs, vu, V.int .i64 task, .int .i64 tail, .int .i64 sent, vl].length = k by simp, List.set_append_left _ _ (by simp; omega), List.map_set]
end
structure TS where
  vars : List Int
  steps : List Micro
  used : List Int
  sent : List Int
  logged : List Int
structure TrF (must : List Int) (σ : TS) (F : List Bool) : Prop where
  f8 : F.length = 8
  v8 : σ.vars.length = 8
  val : ∀ z ∈ σ.vars, isValue z = true
  fr : ∀ k : Nat, k < 8 → (k : Int) ∈ must → (bitB F k = true ↔ (k : Int) ∈ σ.logged)
def TrS (h : Heap) (X : Nat) (must : List Int) (task tail : Int) (σ : TS) (L : List It) : Prop := ∃ (vs vu vl : V) (F : List Bool) (vid : Nat), TrF must σ F ∧ Sep h (.k X [rowT vs vu task tail σ.sent.length vl F (.own vid 1 0 8 8)] :: .v (.lst 3 (σ.steps.map encMicro)) vs :: .v (.lst 1 (σ.used.map encI)) vu :: .v (.lst 1 (σ.logged.map encI)) vl :: .k vid (σ.vars.map encI) :: L)
theorem TrS.mk {h : Heap} {X : Nat} {must : List Int} {task tail : Int} {σ : TS} {L : List It} {vs vu vl : V} {F : List Bool} {vid : Nat} (f : TrF must σ F) (S : Sep h (.k X [rowT vs vu task tail σ.sent.length vl F (.own vid 1 0 8 8)] :: .v (.lst 3 (σ.steps.map encMicro)) vs :: .v (.lst 1 (σ.used.map encI)) vu :: .v (.lst 1 (σ.logged.map encI)) vl :: .k vid (σ.vars.map encI) :: L)) : TrS h X must task tail σ L := ⟨vs, vu, vl, F, vid, f, S⟩
def TS.add (σ : TS) (ms : List Micro) : TS := { σ with steps := σ.steps ++ ms }
theorem push_micro (xs : List Micro) (m : Micro) : (xs ++ [m]).map encMicro = xs.map encMicro ++ [encMicro m] := by simp
theorem work_c {h : Heap} {X : Nat} {must : List Int} {task tail : Int} {σ : TS} {L : List It} (c : Int) (T : TrS h X must task tail σ L) (hl : σ.steps.length ≤ 5000000000000) : C Tryz.prog 153 [.ptr X 1 0 0, .int .i64 c] h (fun r h' => r = .tup [] ∧ TrS h' X must task tail (σ.add [⟨c, -1, 0⟩]) L) := by
  refine C.by mixed (cfn_ok Tryz.func153 ok153) rfl ?_
  refine Exists.elim T fun vs T => Exists.elim T fun vu T => Exists.elim T fun vl T => Exists.elim T fun F T => Exists.elim T fun vid T => ?_
  have f := T.1
  have S := T.2
  clear T
  have K := S.blk 0 rfl
  refine Exists.elim ((S.pull 1).pushS (bytes := 24) (encMicro ⟨c, -1, 0⟩) rfl (by simp; omega)) fun v' q => Exists.elim q fun h5 q => ?_
  have hap := q.1
  have S2 := q.2
  clear q
  rw [← push_micro] at S2
  have K2 := S2.blk 1 rfl
  have z := S2.vv 0 rfl
  have st := rowT_s0 K2 f.f8 z.1 z.2.2
  simp only [encMicro] at hap
  have zs := S.vv 1 rfl
  simp (disch := omega) only [s153, go_sem, K, rowT_0, zs.1, zs.2.1, zs.2.2, splice, hap, z.1, z.2.1, z.2.2, st]
  exact ⟨v', vu, vl, F, vid, ⟨f.f8, f.v8, f.val, f.fr⟩, ((S2.pull 1).setK _)⟩
theorem write_c {h : Heap} {X : Nat} {must : List Int} {task tail : Int} {σ : TS} {L : List It} (a v : Int) (T : TrS h X must task tail σ L) (hl : σ.steps.length ≤ 5000000000000) : C Tryz.prog 158 [.ptr X 1 0 0, .int .i64 a, .int .i64 v] h (fun r h' => r = .tup [] ∧ TrS h' X must task tail (σ.add [⟨3, a, v⟩]) L) := by
  refine C.by mixed (cfn_ok Tryz.func158 ok158) rfl ?_
  refine Exists.elim T fun vs T => Exists.elim T fun vu T => Exists.elim T fun vl T => Exists.elim T fun F T => Exists.elim T fun vid T => ?_
  have f := T.1
  have S := T.2
  clear T
  have K := S.blk 0 rfl
  refine Exists.elim ((S.pull 1).pushS (bytes := 24) (encMicro ⟨3, a, v⟩) rfl (by simp; omega)) fun v' q => Exists.elim q fun h5 q => ?_
  have hap := q.1
  have S2 := q.2
  clear q
  rw [← push_micro] at S2
  have K2 := S2.blk 1 rfl
  have z := S2.vv 0 rfl
  have st := rowT_s0 K2 f.f8 z.1 z.2.2
  simp only [encMicro] at hap
  have zs := S.vv 1 rfl
  simp (disch := omega) only [s158, go_sem, K, rowT_0, zs.1, zs.2.1, zs.2.2, splice, hap, z.1, z.2.1, z.2.2, st]
  exact ⟨v', vu, vl, F, vid, ⟨f.f8, f.v8, f.val, f.fr⟩, ((S2.pull 1).setK _)⟩
def sendT (tail : Int) (x : Int) (σ : TS) : TS := { (if tail + σ.sent.length < 24 then σ.add [⟨3, 25 + (tail + σ.sent.length), x⟩] else σ) with sent := σ.sent ++ [x] }
theorem send_c {h : Heap} {X : Nat} {must : List Int} {task tail : Int} {σ : TS} {L : List It} (x : Int) (T : TrS h X must task tail σ L) (hl : σ.steps.length ≤ 5000000000000) (hs : σ.sent.length ≤ 5000000000000) (ht : 0 ≤ tail ∧ tail ≤ 24) : C Tryz.prog 157 [.ptr X 1 0 0, .int .i64 x] h (fun r h' => r = .tup [] ∧ TrS h' X must task tail (sendT tail x σ) L) := by
  refine C.by mixed (cfn_ok Tryz.func157 ok157) rfl ?_
  have T0 := T
  refine Exists.elim T fun vs T => Exists.elim T fun vu T => Exists.elim T fun vl T => Exists.elim T fun F T => Exists.elim T fun vid T => ?_
  have f := T.1
  have S := T.2
  clear T
  have K := S.blk 0 rfl
  simp (disch := omega) only [s157, go_sem, K, rowT_3, rowT_4]
  have fin : ∀ (h2 : Heap) (σ2 : TS), σ2.sent = σ.sent → TrS h2 X must task tail σ2 L → ∃ (vs vu vl vv : V) (F : List Bool), h2[X]? = some [rowT vs vu task tail σ.sent.length vl F vv] ∧ F.length = 8 ∧ TrS (h2.set X [rowT vs vu task tail ((σ.sent.length : Int) + 1) vl F vv]) X must task tail { σ2 with sent := σ.sent ++ [x] } L := fun h2 σ2 e T => by
    obtain ⟨vs, vu, vl, F, vid, f, S⟩ := T
    have K := S.blk 0 rfl
    rw [e] at K
    refine ⟨vs, vu, vl, _, F, K, f.f8, vs, vu, vl, F, vid, ⟨f.f8, f.v8, f.val, f.fr⟩, ?_⟩
    have := S.setK [rowT vs vu task tail ((σ.sent.length : Int) + 1) vl F (.own vid 1 0 8 8)]
    simpa using this
  refine condP_dec (fun hlt => ?_) (fun hlt => ?_)
  · simp (disch := omega) only [go_sem, K, rowT_3, rowT_4]
    refine C.go (write_c (25 + (tail + σ.sent.length)) x T0 hl) ?_
    rintro r h2 ⟨rfl, T2⟩
    have he : sendT tail x σ = { σ.add [⟨3, 25 + (tail + σ.sent.length), x⟩] with sent := σ.sent ++ [x] } := by unfold sendT; rw [if_pos hlt]
    refine Exists.elim (fin h2 (σ.add [⟨3, 25 + (tail + σ.sent.length), x⟩]) rfl T2) fun vs T => Exists.elim T fun vu T => Exists.elim T fun vl T => Exists.elim T fun vv T => Exists.elim T fun F T => ?_
    have K2 := T.1
    have st := rowT_s4 (w := (σ.sent.length : Int) + 1) K2 T.2.1
    have T3 := T.2.2
    clear T
    simp (disch := omega) only [go_sem, K2, rowT_4, st]
    rw [he]; exact T3
  · have he : sendT tail x σ = { σ with sent := σ.sent ++ [x] } := by unfold sendT; rw [if_neg hlt]
    refine Exists.elim (fin h σ rfl T0) fun vs T => Exists.elim T fun vu T => Exists.elim T fun vl T => Exists.elim T fun vv T => Exists.elim T fun F T => ?_
    have K2 := T.1
    have st := rowT_s4 (w := (σ.sent.length : Int) + 1) K2 T.2.1
    have T3 := T.2.2
    clear T
    simp (disch := omega) only [go_sem, K2, rowT_4, st]
    rw [he]; exact T3
def logA (must : List Int) (task tail k : Int) (σ : TS) : TS := if k ∈ must ∧ k ∉ σ.logged then { σ with steps := σ.steps ++ [⟨3, 9 + 2 * σ.logged.length, k⟩, ⟨3, 9 + 2 * σ.logged.length + 1, gtI σ.vars k.toNat⟩, ⟨3, 8, packM task (σ.logged.length + 1) tail⟩], logged := σ.logged ++ [k] } else σ
def assignT (must : List Int) (task tail k v : Int) (σ : TS) : TS := { logA must task tail k σ with vars := (logA must task tail k σ).vars.set k.toNat v, steps := (logA must task tail k σ).steps ++ [⟨3, k, v⟩] }
theorem assign_c {h : Heap} {X : Nat} {must : List Int} {task tail : Int} {σ : TS} {r : V} {L : List It} (k v : Int) (T : TrS h X must task tail σ (.p must r :: L)) (hl : σ.steps.length ≤ 4000000000000) (hlg : σ.logged.length ≤ 4000000000000) (hm : must.length ≤ 1048576) (hk : 0 ≤ k ∧ k ≤ 7) (hv : isValue v = true) : C Tryz.prog 155 [.ptr X 1 0 0, r, .int .i64 k, .int .i64 v] h (fun r' h' => r' = .tup [] ∧ TrS h' X must task tail (assignT must task tail k v σ) (.p must r :: L)) := by
  have T0 := T
  refine Exists.elim T fun vs T => Exists.elim T fun vu T => Exists.elim T fun vl T => Exists.elim T fun F T => Exists.elim T fun vid T => ?_
  have f := T.1
  have S := T.2
  clear T
  have K := S.blk 0 rfl
  have zr := (S.pvv 5 rfl).1
  have hnh : [V.ptr X 1 0 0, r, .int .i64 k, .int .i64 v].all V.noHole = true := by
    refine Exists.elim (S.nth 5 rfl) fun i q => ?_
    rcases q.2 with ⟨rfl, _⟩ | ⟨_, _, _, rfl, _⟩ <;> rfl
  refine C.by mixed (cfn_ok Tryz.func155 ok155) hnh ?_
  simp (disch := omega) only [s155, go_sem, zr.1, zr.2.1, zr.2.2]
  refine CP.goS (hasVar_c' must k (by omega)) rfl rfl (.cons (S.psnap 5 rfl) (.cons (.int _ _) (.nil _))) ?_
  have hin : 0 ≤ k ∧ k < ((8 : Nat) : Int) := by omega
  have hrf := rowT_F (vs := vs) (vu := vu) (task := task) (tail := tail) (sent := σ.sent.length) (vl := vl) (vv := .own vid 1 0 8 8) f.f8 (show k.toNat < 8 by omega)
  have mono : ∀ (F : List Bool) (σ : TS), TrF must σ F → TrF (must.filter fun z => !decide (z = k)) σ F := fun F σ f => ⟨f.f8, f.v8, f.val, fun j hj hm => f.fr j hj (List.mem_filter.1 hm).1⟩
  simp (disch := omega) only [go_sem, K, hrf, hin, Nat.mul_one]
  refine condP_dec (fun hkm => ?_) (fun hkm => ?_)
  case' refine_1 =>
    have hkf := f.fr k.toNat (by omega) (by rw [show ((k.toNat : Nat) : Int) = k by omega]; exact hkm)
    rw [show ((k.toNat : Nat) : Int) = k by omega] at hkf
    simp (disch := omega) only [go_sem, K, hrf, hin, Nat.mul_one, zr.1, zr.2.1, zr.2.2]
    refine condP_split (fun hb => ?_) (fun hb => ?_)
    case' refine_2 =>
      have hnl : k ∉ σ.logged := fun q => by rw [hkf.2 q] at hb; cases hb
      have lenl := fun G => (S.lst 3 rfl).elim fun i o => o.len_ G
      simp only [List.length_map] at lenl
      have zl := S.vv 3 rfl
      simp (disch := omega) only [go_sem, K, rowT_5, lenl, zl.1, zl.2.1, zl.2.2]
      refine C.go (write_c (9 + 2 * σ.logged.length) k T0 (by omega)) ?_
      rintro r0 h1 ⟨rfl, T1⟩
      have T1' := T1
      refine Exists.elim T1 fun vs1 T1 => Exists.elim T1 fun vu1 T1 => Exists.elim T1 fun vl1 T1 => Exists.elim T1 fun F1 T1 => Exists.elim T1 fun vid1 T1 => ?_
      have f1 := T1.1
      have S1 := T1.2
      clear T1
      have K1 := S1.blk 0 rfl
      have V1 := S1.blk 4 rfl
      have r14 := rowT_14 (vs := vs1) (vu := vu1) (task := task) (tail := tail) (sent := (σ.add [⟨3, 9 + 2 * σ.logged.length, k⟩]).sent.length) (vl := vl1) (vv := .own vid1 1 0 8 8) f1.f8
      have v8 : (σ.add [⟨3, 9 + 2 * σ.logged.length, k⟩]).vars.length = 8 := f.v8
      have hgv : (σ.add [⟨3, 9 + 2 * σ.logged.length, k⟩]).vars[k.toNat]? = some (gtI σ.vars k.toNat) := gtI_some (by show k.toNat < σ.vars.length; rw [f.v8]; omega)
      simp (disch := omega) only [go_sem, K1, V1, r14, v8, hgv, List.getElem?_map, List.length_map, encI, Nat.zero_add]
      refine C.go (write_c (9 + 2 * σ.logged.length + 1) (gtI σ.vars k.toNat) T1' (by simp [TS.add]; omega)) ?_
      rintro r0 h2 ⟨rfl, T2⟩
      clear K K1 V1 r14 S1 f1 zl lenl T1'
      refine Exists.elim (show ∃ σ2 : TS, σ2 = (σ.add [⟨3, 9 + 2 * σ.logged.length, k⟩]).add [⟨3, 9 + 2 * σ.logged.length + 1, gtI σ.vars k.toNat⟩] from ⟨_, rfl⟩) fun σ2 hσ => ?_
      rw [← hσ] at T2
      have g2 : σ2.logged = σ.logged := by rw [hσ]; rfl
      have g3 : σ2.steps.length = σ.steps.length + 2 := by rw [hσ]; simp [TS.add]
      refine Exists.elim T2 fun vs2 T2 => Exists.elim T2 fun vu2 T2 => Exists.elim T2 fun vl2 T2 => Exists.elim T2 fun F2 T2 => Exists.elim T2 fun vid2 T2 => ?_
      have f2 := T2.1
      have S2 := T2.2
      clear T2
      have K2 := S2.blk 0 rfl
      have z2 := S2.vv 3 rfl
      refine Exists.elim ((S2.pull 3).pushS (bytes := 8) [.int .i64 k] rfl (by simp [g2]; omega)) fun v' q => Exists.elim q fun h3 q => ?_
      have hap := q.1
      have S3 := q.2
      clear q
      rw [show σ2.logged.map encI ++ [[V.int .i64 k]] = (σ2.logged ++ [k]).map encI by simp [encI]] at S3
      have z3 := S3.vv 0 rfl
      have K3 := S3.blk 1 rfl
      have st := rowT_s5 K3 f2.f8 z3.1 z3.2.2
      have S4 := (S3.pull 1).setK [rowT vs2 vu2 task tail σ2.sent.length v' F2 (.own vid2 1 0 8 8)]
      have K4 := S4.blk 0 rfl
      have len4 := fun G => (S4.lst 1 rfl).elim fun i o => o.len_ G
      simp only [List.length_append, List.length_map, List.length_cons, List.length_nil, Nat.zero_add] at len4
      simp (disch := omega) only [go_sem, K2, rowT_5, z2.1, z2.2.1, z2.2.2, hap, z3.1, z3.2.1, z3.2.2, st, K4, rowT_2, rowT_3, len4]
      refine CP.go (pack_c _ _ _) rfl rfl ?_
      have T4 : TrS (h3.set X [rowT vs2 vu2 task tail σ2.sent.length v' F2 (.own vid2 1 0 8 8)]) X (must.filter fun z => !decide (z = k)) task tail { σ2 with logged := σ2.logged ++ [k] } (.p must r :: L) := by
        refine ⟨vs2, vu2, v', F2, vid2, ⟨f2.f8, f2.v8, f2.val, fun j hj hm => ?_⟩, S4.pk (A := [_, _, _, _, _]) [0, 2, 3, 1, 4] rfl⟩
        have q := List.mem_filter.1 hm
        rw [f2.fr j hj q.1]
        have hne : (j : Int) ≠ k := by simpa using q.2
        simp [hne]
      simp (disch := omega) only [go_sem, K4, rowT_2, rowT_3, len4]
      refine C.go (write_c 8 (packM task ((σ2.logged.length + 1 : Nat) : Int) tail) T4 (by show σ2.steps.length ≤ _; omega)) ?_
      rintro r0 h5 ⟨rfl, T5⟩
      have hA : logA must task tail k σ = { σ with steps := σ.steps ++ [⟨3, 9 + 2 * σ.logged.length, k⟩, ⟨3, 9 + 2 * σ.logged.length + 1, gtI σ.vars k.toNat⟩, ⟨3, 8, packM task (σ.logged.length + 1) tail⟩], logged := σ.logged ++ [k] } := if_pos ⟨hkm, hnl⟩
      have T6 : TrS h5 X (must.filter fun z => !decide (z = k)) task tail (logA must task tail k σ) (.p must r :: L) := by
        rw [hA]
        rw [hσ] at T5
        simpa [TS.add] using T5
      have hkl : k ∈ must → k ∈ (logA must task tail k σ).logged := fun _ => by rw [hA]; simp
    case' refine_1 =>
      have hA : logA must task tail k σ = σ := if_neg fun q => q.2 (hkf.1 hb)
      have T6 : TrS h X (must.filter fun z => !decide (z = k)) task tail (logA must task tail k σ) (.p must r :: L) := by
        rw [hA]; exact ⟨vs, vu, vl, F, vid, mono _ _ f, S⟩
      have hkl : k ∈ must → k ∈ (logA must task tail k σ).logged := fun _ => by rw [hA]; exact hkf.1 hb
  case' refine_2 =>
    have hA : logA must task tail k σ = σ := if_neg fun q => hkm q.1
    have T6 : TrS h X (must.filter fun z => !decide (z = k)) task tail (logA must task tail k σ) (.p must r :: L) := by
      rw [hA]; exact ⟨vs, vu, vl, F, vid, mono _ _ f, S⟩
    have hkl : k ∈ must → k ∈ (logA must task tail k σ).logged := fun q => absurd q hkm
  all_goals
    have lv : (logA must task tail k σ).vars = σ.vars := by unfold logA; split <;> rfl
    have ls : (logA must task tail k σ).steps.length ≤ σ.steps.length + 3 := by unfold logA; split <;> simp
    refine Exists.elim T6 fun vs6 T6 => Exists.elim T6 fun vu6 T6 => Exists.elim T6 fun vl6 T6 => Exists.elim T6 fun F6 T6 => Exists.elim T6 fun vid6 T6 => ?_
    have f6 := T6.1
    have S6 := T6.2
    clear T6
    have K6 := S6.blk 0 rfl
    have st1 := rowT_sF K6 f6.f8 (show k.toNat < 8 by omega)
    have S7 := S6.setK [rowT vs6 vu6 task tail (logA must task tail k σ).sent.length vl6 (F6.set k.toNat true) (.own vid6 1 0 8 8)]
    have K7 := S7.blk 0 rfl
    have r14 := rowT_14 (vs := vs6) (vu := vu6) (task := task) (tail := tail) (sent := (logA must task tail k σ).sent.length) (vl := vl6) (vv := .own vid6 1 0 8 8) (F := F6.set k.toNat true) (by simpa using f6.f8)
    have st2 := store_i (z := v) (i := k.toNat) (S7.blk 4 rfl) f6.v8 (by omega)
    have F8 : TrF must { logA must task tail k σ with vars := (logA must task tail k σ).vars.set k.toNat v } (F6.set k.toNat true) := by
      refine ⟨by simpa using f6.f8, by simpa using f6.v8, fun z hz => ?_, fun j hj hm => ?_⟩
      · rcases List.mem_or_eq_of_mem_set hz with q | q
        · exact f6.val z q
        · rw [q]; exact hv
      · rw [bitB_set (by rw [f6.f8]; omega)]
        by_cases e : k.toNat = j
        · have e' : (j : Int) = k := by omega
          rw [e'] at hm ⊢
          simp [e, hkl hm]
        · have e' : (j : Int) ≠ k := by omega
          have := f6.fr j hj (List.mem_filter.2 ⟨hm, by simpa using e'⟩)
          simp [e, this]
    have T8 := TrS.mk (L := .p must r :: L) F8 (((S7.pull 4).setK (((logA must task tail k σ).vars.set k.toNat v).map encI)).pk (A := [_, _, _, _, _]) [1, 2, 3, 4, 0] rfl)
    simp (disch := omega) only [go_sem, hin, Nat.mul_one, Nat.zero_add, st1, K7, r14, st2]
    refine C.go (write_c k v T8 (by show (logA must task tail k σ).steps.length ≤ _; omega)) ?_
    rintro r0 h9 ⟨rfl, T9⟩
    simp (disch := omega) only [go_sem, hin, Nat.mul_one, Nat.zero_add, st1, K7, r14, st2]
    exact T9
end Go.Av

namespace Go.Av
open Go.Proofs Go.RowKit
set_option linter.unusedVariables false
set_option linter.unusedSimpArgs false
set_option maxRecDepth 100000
set_option maxHeartbeats 4000000
theorem sat_value (x : Int) : isValue (sat x) = true := by
  have := sat_bd x
  simp [isValue, within]; omega
theorem evalE_value {zs : List Int} {e : Expr} (hz : ∀ z ∈ zs, isValue z = true) (h8 : zs.length = 8) (he : exprOk e = true) : isValue (evalE zs e) = true := by
  obtain ⟨h1, h2, h3⟩ := exprOk_facts he
  have hv : ∀ x : Int, -8 ≤ x ∧ x ≤ 999 → -1000000 ≤ valOf zs x ∧ valOf zs x ≤ 1000000 := fun x hx => by
    unfold valOf
    split
    · have hl : (-1 - x).toNat < zs.length := by omega
      rw [List.getElem?_eq_getElem hl]
      have := hz _ (List.getElem_mem hl)
      simp only [isValue, within, Bool.and_eq_true, decide_eq_true_eq] at this
      simpa using this
    · omega
  have ha := hv _ h2
  have hb := hv _ h3
  have hbit : ∀ b, isValue (bitI b) = true := fun b => by cases b <;> rfl
  unfold evalE
  simp only
  split
  · exact sat_value _
  split
  · exact sat_value _
  split
  · exact sat_value _
  split
  · simp [isValue, within]; omega
  split
  · simp [isValue, within]; omega
  split <;> exact hbit _
def readM (rd : List Int) (s n : Int) : Int := if rd.length = 0 ∨ isSensor s = false ∨ n < 0 then 0 else sat (sat (gtI rd (n.toNat % rd.length)) + sat (100 * s))
theorem readM_value (rd : List Int) (s n : Int) : isValue (readM rd s n) = true := by
  unfold readM
  split
  · rfl
  · exact sat_value _
theorem mod_toNat {n : Int} {l : Nat} (hn : 0 ≤ n) (hl : l ≠ 0) : n.tmod l = ((n.toNat % l : Nat) : Int) := by
  obtain ⟨k, rfl⟩ := Int.eq_ofNat_of_zero_le hn
  rw [mod_nn (by omega), Int.toNat_natCast, Int.natCast_emod]
theorem readSensor_c (rd : List Int) (s n : Int) (hl : rd.length ≤ 9223372036854775807) : CP Tryz.prog 156 [.lst 1 (rd.map encI), .int .i64 s, .int .i64 n] (.int .i64 (readM rd s n)) [] := by
  refine CP.by rfl mixed (cfn_ok Tryz.func156 ok156) rfl ?_
  simp (disch := omega) only [s156, go_sem]
  refine condP_dec (fun h0 => ?_) (fun h0 => ?_)
  · simp (disch := omega) only [go_sem]
    rw [readM, if_pos (.inl (by omega))]
  simp (disch := omega) only [go_sem]
  refine CP.go (isSensor_c s) rfl rfl ?_
  simp (disch := omega) only [go_sem]
  refine condP_split (fun h1 => ?_) (fun h1 => ?_)
  case' refine_2 =>
    simp (disch := omega) only [go_sem, h1]
    rw [readM, if_pos (.inr (.inl h1))]
  simp (disch := omega) only [go_sem, h1]
  refine condP_dec (fun h2 => ?_) (fun h2 => ?_)
  · simp (disch := omega) only [go_sem, h1]
    rw [readM, if_pos (.inr (.inr h2))]
  have hs : 0 ≤ s ∧ s ≤ 3 := by simpa [isSensor, within] using h1
  have hm := mod_toNat (n := n) (l := rd.length) (by omega) (by omega)
  have hlt : n.toNat % rd.length < rd.length := Nat.mod_lt _ (by omega)
  have hg := gtI_some hlt
  simp (disch := omega) only [go_sem, h1, hm, List.getElem?_map, hg, encI, gtI_get]
  refine CP.go (add_c _ _) rfl rfl ?_
  simp (disch := omega) only [go_sem, h1, hm, List.getElem?_map, hg, encI, gtI_get]
  rw [readM, if_neg (fun q => by rcases q with q | q | q <;> first | omega | (rw [h1] at q; cases q))]
theorem readSensor_s (rd : List Int) (s n : Int) (hl : rd.length ≤ 9223372036854775807) : CP Tryz.prog 280 [.lst 1 (rd.map encI), .int .i64 s, .int .i64 n] (.int .i64 (readM rd s n)) [] := by
  refine CP.by rfl mixed (cfn_ok Tryz.func280 ok280) rfl ?_
  simp (disch := omega) only [s280, go_sem]
  refine condP_dec (fun h0 => ?_) (fun h0 => ?_)
  · simp (disch := omega) only [go_sem]
    rw [readM, if_pos (.inl (by omega))]
  simp (disch := omega) only [go_sem]
  refine CP.go (l01In_c s 0 3) rfl rfl ?_
  simp (disch := omega) only [go_sem]
  refine condP_split (fun h1 => ?_) (fun h1 => ?_)
  case' refine_2 =>
    simp (disch := omega) only [go_sem, h1]
    rw [readM, if_pos (.inr (.inl h1))]
  simp (disch := omega) only [go_sem, h1]
  refine condP_dec (fun h2 => ?_) (fun h2 => ?_)
  · simp (disch := omega) only [go_sem, h1]
    rw [readM, if_pos (.inr (.inr h2))]
  have hs : 0 ≤ s ∧ s ≤ 3 := by simpa [within] using h1
  have h1' : isSensor s = true := h1
  have hm := mod_toNat (n := n) (l := rd.length) (by omega) (by omega)
  have hlt : n.toNat % rd.length < rd.length := Nat.mod_lt _ (by omega)
  have hg := gtI_some hlt
  simp (disch := omega) only [go_sem, h1, hm, List.getElem?_map, hg, encI, gtI_get]
  refine CP.go (add_s _ _) rfl rfl ?_
  simp (disch := omega) only [go_sem, h1, hm, List.getElem?_map, hg, encI, gtI_get]
  rw [readM, if_neg (fun q => by rcases q with q | q | q <;> first | omega | (rw [h1'] at q; cases q))]
def stepT (must : List Int) (task tail : Int) (rd : List Int) (at_ : Int) (s : Stmt) (σ : TS) : TS :=
  if s.kind = 1 then assignT must task tail s.var (evalE σ.vars s.e) (σ.add [⟨costK s.kind, -1, 0⟩])
  else if s.kind = 2 then assignT must task tail s.var (readM rd s.n (at_ + σ.used.length)) { σ.add [⟨costK s.kind, -1, 0⟩] with used := σ.used ++ [readM rd s.n (at_ + σ.used.length)] }
  else if s.kind = 3 then sendT tail (evalE σ.vars s.e) (σ.add [⟨costK s.kind, -1, 0⟩])
  else σ.add [⟨costK s.kind, -1, 0⟩]
def holdT (s : Stmt) (σ : TS) : Bool := if s.kind = 4 then !decide (evalE σ.vars s.e = 0) else true
def KeepT (must : List Int) (task tail : Int) (rd : List Int) (at_ : Int) (X px mx rx ax : Nat) (r : V) (n : Nat) (σ : TS) (L : List It) (h : Heap) : Prop :=
  (σ.steps.length ≤ 5 * n ∧ σ.used.length ≤ n ∧ σ.sent.length ≤ n ∧ σ.logged.length ≤ n) ∧ TrS h X must task tail σ (.p must r :: .k px [[.ptr X 1 0 0]] :: .k mx [[r]] :: .k rx [[.lst 1 (rd.map encI)]] :: .k ax [[.int .i64 at_]] :: L)
theorem keepT_keeps (must : List Int) (task tail : Int) (rd : List Int) (at_ : Int) (X px mx rx ax : Nat) (r : V) : Keeps (KeepT must task tail rd at_ X px mx rx ax r) where
  new := fun b ⟨hn, vs, vu, vl, F, vid, f, S⟩ => ⟨hn, vs, vu, vl, F, vid, f, (S.newK b).pk (A := [_, _, _, _, _, _, _, _, _, _, _]) [1, 2, 3, 4, 5, 6, 7, 8, 9, 10, 0] rfl⟩
  get := fun ⟨hn, vs, vu, vl, F, vid, f, S⟩ => S.blk 10 rfl
  drop := fun ⟨hn, vs, vu, vl, F, vid, f, S⟩ => ⟨hn, vs, vu, vl, F, vid, f, S.drop 10⟩
theorem assignT_bd (must : List Int) (task tail k v : Int) (σ : TS) : (assignT must task tail k v σ).steps.length ≤ σ.steps.length + 4 ∧ (assignT must task tail k v σ).used = σ.used ∧ (assignT must task tail k v σ).sent = σ.sent ∧ (assignT must task tail k v σ).logged.length ≤ σ.logged.length + 1 := by
  unfold assignT logA
  split
  · simp
  · simp
theorem stepT_bd (must : List Int) (task tail : Int) (rd : List Int) (at_ : Int) (s : Stmt) (σ : TS) : (stepT must task tail rd at_ s σ).steps.length ≤ σ.steps.length + 5 ∧ (stepT must task tail rd at_ s σ).used.length ≤ σ.used.length + 1 ∧ (stepT must task tail rd at_ s σ).sent.length ≤ σ.sent.length + 1 ∧ (stepT must task tail rd at_ s σ).logged.length ≤ σ.logged.length + 1 := by
  unfold stepT
  split
  · have := assignT_bd must task tail s.var (evalE σ.vars s.e) (σ.add [⟨costK s.kind, -1, 0⟩])
    rw [this.2.1, this.2.2.1]
    simp only [TS.add, List.length_append, List.length_cons, List.length_nil] at this ⊢
    omega
  split
  · have := assignT_bd must task tail s.var (readM rd s.n (at_ + σ.used.length)) { σ.add [⟨costK s.kind, -1, 0⟩] with used := σ.used ++ [readM rd s.n (at_ + σ.used.length)] }
    rw [this.2.1, this.2.2.1]
    simp only [TS.add, List.length_append, List.length_cons, List.length_nil] at this ⊢
    omega
  split
  · unfold sendT TS.add
    split <;> simp <;> omega
  · simp [TS.add]
theorem see_c {must : List Int} {task tail : Int} {rd : List Int} {at_ : Int} {X px mx rx ax : Nat} {r : V} (hm : must.length ≤ 1048576) (ht : 0 ≤ tail ∧ tail ≤ 24) (hr : rd.length ≤ 9223372036854775807) (ha : 0 ≤ at_ ∧ at_ ≤ 1000000) (n : Nat) (σ : TS) (s : Stmt) (L : List It) (h : Heap) (hn : n < maxCnt) (hs : stmtOk s = true) (h6 : s.kind ≠ 6) (K0 : KeepT must task tail rd at_ X px mx rx ax r n σ L h) :
    C Tryz.prog 152 [.agg (encStmt s), .ptr px 1 0 0, .ptr mx 1 0 0, .ptr rx 1 0 0, .ptr ax 1 0 0] h (fun r' h' => r' = .bool (holdT s σ) ∧ KeepT must task tail rd at_ X px mx rx ax r (n + 1) (stepT must task tail rd at_ s σ) L h') := by
  have hnn : maxCnt = 282429536481 := rfl
  have hkk := stmt_kinds hs
  have K1 := (keepT_keeps must task tail rd at_ X px mx rx ax r).new [encStmt s] K0
  have hb := K1.1
  have T1 := K1.2
  refine Exists.elim K1.2 fun vs T => Exists.elim T fun vu T => Exists.elim T fun vl T => Exists.elim T fun F T => Exists.elim T fun vid T => ?_
  have f := T.1
  have S := T.2
  clear T K1
  have P1 := S.blk 6 rfl
  have B1 := S.blk 10 rfl
  simp only [encStmt] at P1 B1
  refine C.by mixed (cfn_ok Tryz.func152 ok152) rfl ?_
  simp (disch := omega) only [s152, go_sem, encStmt, P1, B1]
  refine CP.go (cost_c s hs) rfl rfl ?_
  simp (disch := omega) only [go_sem, encStmt, P1, B1]
  refine C.go (work_c (costK s.kind) T1 (by omega)) ?_
  rintro r0 h2 ⟨rfl, T2⟩
  have T2' := T2
  refine Exists.elim T2 fun vs2 T => Exists.elim T fun vu2 T => Exists.elim T fun vl2 T => Exists.elim T fun F2 T => Exists.elim T fun vid2 T => ?_
  have f2 := T.1
  have S2 := T.2
  clear T T2
  have B2 := S2.blk 10 rfl
  simp only [encStmt] at B2
  simp (disch := omega) only [go_sem, encStmt, B2]
  have bd := stepT_bd must task tail rd at_ s σ
  have fin : ∀ (h3 : Heap) (bx : It), TrS h3 X must task tail (stepT must task tail rd at_ s σ) (.p must r :: .k px [[.ptr X 1 0 0]] :: .k mx [[r]] :: .k rx [[.lst 1 (rd.map encI)]] :: .k ax [[.int .i64 at_]] :: bx :: L) → KeepT must task tail rd at_ X px mx rx ax r (n + 1) (stepT must task tail rd at_ s σ) L h3 := fun h3 bx T3 =>
    (keepT_keeps must task tail rd at_ X px mx rx ax r).drop (x := bx) ⟨by omega, T3⟩
  have P2 := S2.blk 6 rfl
  have M2 := S2.blk 7 rfl
  have R2 := S2.blk 8 rfl
  have A2 := S2.blk 9 rfl
  have X2 := S2.blk 0 rfl
  have r14 := rowT_14 (vs := vs2) (vu := vu2) (task := task) (tail := tail) (sent := (σ.add [⟨costK s.kind, -1, 0⟩]).sent.length) (vl := vl2) (vv := .own vid2 1 0 8 8) f2.f8
  have zr := (S2.pvv 5 rfl).1
  have hlen2 : (σ.add [⟨costK s.kind, -1, 0⟩]).steps.length ≤ 5 * n + 1 := by simp [TS.add]; omega
  have hvs : Snap h2 (.own vid2 1 0 8 8) (.lst 1 (σ.vars.map encI)) := Snap.flatN (S2.blk 4 rfl) (by rw [List.length_map]; exact f2.v8) (flat_encI _)
  refine condP_dec (fun h1 => ?_) (fun h1 => ?_)
  · have hx : hasExpr s.kind = true := by simp [hasExpr, h1]
    have hv : hasVar s.kind = true := by simp [hasVar, h1]
    have hsv := stmt_var hs hv
    have hex := stmt_expr hs hx
    simp (disch := omega) only [go_sem, encStmt, B2, P2, M2, X2, r14, zr.1, zr.2.1, zr.2.2]
    refine CP.goS (eval_c σ.vars s.e f.val f.v8 hex) rfl rfl (.cons hvs (.cons (.same _ (by rfl)) (.nil _))) ?_
    simp (disch := omega) only [go_sem, encStmt, B2, P2, M2, X2, r14, zr.1, zr.2.1, zr.2.2]
    refine C.go (assign_c s.var (evalE σ.vars s.e) T2' (by omega) (by show σ.logged.length ≤ _; omega) hm (by omega) (evalE_value f.val f.v8 hex)) ?_
    rintro r0 h3 ⟨rfl, T3⟩
    have he : stepT must task tail rd at_ s σ = assignT must task tail s.var (evalE σ.vars s.e) (σ.add [⟨costK s.kind, -1, 0⟩]) := if_pos h1
    rw [← he] at T3
    have hh : holdT s σ = true := if_neg (by omega)
    simp (disch := omega) only [go_sem, hh]
    exact fin _ _ T3
  have he1 : stepT must task tail rd at_ s σ = if s.kind = 2 then assignT must task tail s.var (readM rd s.n (at_ + σ.used.length)) { σ.add [⟨costK s.kind, -1, 0⟩] with used := σ.used ++ [readM rd s.n (at_ + σ.used.length)] } else if s.kind = 3 then sendT tail (evalE σ.vars s.e) (σ.add [⟨costK s.kind, -1, 0⟩]) else σ.add [⟨costK s.kind, -1, 0⟩] := if_neg h1
  simp (disch := omega) only [go_sem, encStmt, B2]
  refine condP_dec (fun h1 => ?_) (fun h1 => ?_)
  · have hv : hasVar s.kind = true := by simp [hasVar, h1]
    have hsv := stmt_var hs hv
    have lenu := fun G => (S2.lst 2 rfl).elim fun i o => o.len_ G
    simp only [List.length_map, TS.add] at lenu
    have zu := S2.vv 2 rfl
    simp (disch := omega) only [go_sem, encStmt, B2, P2, R2, A2, X2, rowT_1, zu.1, zu.2.1, zu.2.2, lenu]
    refine CP.go (readSensor_c rd s.n _ hr) rfl (by simp [V.refsL, V.refs, refsLL_map encI (fun _ => rfl) rd]) ?_
    refine Exists.elim ((S2.pull 2).pushS (bytes := 8) [.int .i64 (readM rd s.n (at_ + σ.used.length))] rfl (by simp [TS.add]; omega)) fun v' q => Exists.elim q fun h3 q => ?_
    have hap := q.1
    have S3 := q.2
    clear q
    rw [show (σ.add [⟨costK s.kind, -1, 0⟩]).used.map encI ++ [[V.int .i64 (readM rd s.n (at_ + σ.used.length))]] = (σ.used ++ [readM rd s.n (at_ + σ.used.length)]).map encI by simp [encI, TS.add]] at S3
    have z3 := S3.vv 0 rfl
    have X3 := S3.blk 1 rfl
    have st := rowT_s1 X3 f2.f8 z3.1 z3.2.2
    have S4 := (S3.pull 1).setK [rowT vs2 v' task tail (σ.add [⟨costK s.kind, -1, 0⟩]).sent.length vl2 F2 (.own vid2 1 0 8 8)]
    have T4 := TrS.mk (σ := { σ.add [⟨costK s.kind, -1, 0⟩] with used := σ.used ++ [readM rd s.n (at_ + σ.used.length)] }) (must := must) ⟨f2.f8, f2.v8, f2.val, f2.fr⟩ (S4.pk (A := [_, _, _, _, _]) [0, 2, 1, 3, 4] rfl)
    have P4 := S4.blk 6 rfl
    have M4 := S4.blk 7 rfl
    have B4 := S4.blk 10 rfl
    have P3 := S3.blk 6 rfl
    have X2' := fun t => heap_app (h' := t) X2
    have P2' := fun t => heap_app (h' := t) P2
    simp (disch := omega) only [go_sem, encStmt, B2, P2, R2, A2, X2, X2', P2', rowT_1, zu.1, zu.2.1, zu.2.2, hap, z3.1, z3.2.1, z3.2.2, P3, X3, st, P4, M4, B4, zr.1, zr.2.1, zr.2.2]
    refine C.go (assign_c s.var (readM rd s.n (at_ + σ.used.length)) T4 (by show (σ.add [⟨costK s.kind, -1, 0⟩]).steps.length ≤ _; omega) (by show σ.logged.length ≤ _; omega) hm (by omega) (readM_value _ _ _)) ?_
    rintro r0 h5 ⟨rfl, T5⟩
    have he : stepT must task tail rd at_ s σ = _ := he1.trans (if_pos h1)
    rw [← he] at T5
    have hh : holdT s σ = true := if_neg (by omega)
    simp (disch := omega) only [go_sem, hh]
    exact fin _ _ T5
  have he2 := he1.trans (if_neg h1)
  simp (disch := omega) only [go_sem, encStmt, B2]
  refine condP_dec (fun h1 => ?_) (fun h1 => ?_)
  · have hx : hasExpr s.kind = true := by simp [hasExpr, h1]
    have hex := stmt_expr hs hx
    simp (disch := omega) only [go_sem, encStmt, B2, P2, M2, X2, r14, zr.1, zr.2.1, zr.2.2]
    refine CP.goS (eval_c σ.vars s.e f.val f.v8 hex) rfl rfl (.cons hvs (.cons (.same _ (by rfl)) (.nil _))) ?_
    simp (disch := omega) only [go_sem, encStmt, B2, P2, M2, X2, r14, zr.1, zr.2.1, zr.2.2]
    refine C.go (send_c (evalE σ.vars s.e) T2' (by omega) (by show σ.sent.length ≤ _; omega) ht) ?_
    rintro r0 h3 ⟨rfl, T3⟩
    have he := he2.trans (if_pos h1)
    rw [← he] at T3
    have hh : holdT s σ = true := if_neg (by omega)
    simp (disch := omega) only [go_sem, hh]
    exact fin _ _ T3
  have he := he2.trans (if_neg h1)
  rw [← he] at T2'
  simp (disch := omega) only [go_sem, encStmt, B2]
  refine condP_dec (fun h1 => ?_) (fun h1 => ?_)
  · have hx : hasExpr s.kind = true := by simp [hasExpr, h1]
    have hex := stmt_expr hs hx
    simp (disch := omega) only [go_sem, encStmt, B2, P2, M2, X2, r14, zr.1, zr.2.1, zr.2.2]
    refine CP.goS (eval_c σ.vars s.e f.val f.v8 hex) rfl rfl (.cons hvs (.cons (.same _ (by rfl)) (.nil _))) ?_
    have hh : holdT s σ = !decide (evalE σ.vars s.e = 0) := if_pos h1
    simp (disch := omega) only [go_sem, encStmt, B2, P2, M2, X2, r14, zr.1, zr.2.1, zr.2.2, hh]
    exact fin _ _ T2'
  · have hh : holdT s σ = true := if_neg h1
    simp (disch := omega) only [go_sem, hh]
    exact fin _ _ T2'
end Go.Av

namespace Go.Av
open Go.Proofs Go.RowKit
set_option linter.unusedVariables false
set_option linter.unusedSimpArgs false
set_option maxRecDepth 100000
set_option maxHeartbeats 4000000
theorem memVars_f (m : List Int) (hm : m.length = 49) : F Tryz.prog 151 [.lst 1 (m.map encI)] (.lst 1 ((m.take 8).map encI)) := by
  refine C.by mixed (cfn_ok Tryz.func151 ok151) rfl ?_
  simp (disch := omega) only [s151, go_sem, hm]
  refine F.go (cloneI_f (m.take 8) (by simp; omega)) (.same (refs_int1 _ _)) fun r h' ids x n g o => ?_
  have z := (Owns.lstR.1 o).vv
  simp (disch := omega) only [go_sem, z.1, z.2.1, z.2.2]
  exact ⟨ids, n, o⟩
def taskAt (ts : List Task) (t : Int) : Task := (ts[t.toNat]?).getD ⟨[], ⟨0, 0, 0⟩⟩
theorem taskAt_eq {ts : List Task} {t : Int} (h : t.toNat < ts.length) : ts[t.toNat] = taskAt ts t := by simp [taskAt, h]
theorem taskAt_some {ts : List Task} {t : Int} (h : t.toNat < ts.length) : ts[t.toNat]? = some (taskAt ts t) := by simp [taskAt, h]
def nextM (ts : List Task) (vars : List Int) (t : Int) : Int := evalE vars (taskAt ts t).next % (ts.length : Int)
theorem prog_facts {ts : List Task} (h : programOk ts = true) : (1 ≤ ts.length ∧ ts.length ≤ 6) ∧ ∀ t ∈ ts, taskOk t = true ∧ t.body.length ≤ 24 := by
  simp only [programOk, within, Bool.and_eq_true, decide_eq_true_eq, List.all_eq_true] at h
  refine ⟨by omega, fun t ht => ⟨h.2 t ht, ?_⟩⟩
  exact (treeOf_ok (task_facts (h.2 t ht)).1).2.2
theorem nextM_bd {ts : List Task} (h : 0 < ts.length) (vars : List Int) (t : Int) : 0 ≤ nextM ts vars t ∧ nextM ts vars t < ts.length := ⟨Int.emod_nonneg _ (by omega), Int.emod_lt_of_pos _ (by omega)⟩
theorem tmod_twice {a n : Int} (hn : 0 < n) : (a.tmod n + n).tmod n = a % n := by
  have h1 : -n < a.tmod n := Int.lt_tmod_of_pos a hn
  rw [mod_nn (by omega), Int.add_emod_right]
  have h2 := Int.tmod_add_mul_tdiv a n
  conv => rhs; rw [← h2]
  rw [Int.add_mul_emod_self_left]
theorem next_c (ts : List Task) (vars : List Int) (t : Int) (hp : programOk ts = true) (hv : ∀ z ∈ vars, isValue z = true) (h8 : vars.length = 8) (ht : 0 ≤ t ∧ t < ts.length) : CP Tryz.prog 148 [.agg [.lst 4 (ts.map encTask)], .lst 1 (vars.map encI), .int .i64 t] (.int .i64 (nextM ts vars t)) [] := by
  have pf := prog_facts hp
  have hmem : taskAt ts t ∈ ts := by rw [← taskAt_eq (by omega)]; exact List.getElem_mem _
  have hte := task_facts (pf.2 _ hmem).1
  have hin : within t 0 ((ts.length : Int) - 1) = true := by simp [within]; omega
  have hvo : varsOkM vars = true := by simp only [varsOkM, h8, Bool.and_eq_true, decide_eq_true_eq, true_and]; exact vals_iff.2 hv
  have hev := evalE_value hv h8 hte.2
  simp only [isValue, within, Bool.and_eq_true, decide_eq_true_eq] at hev
  refine CP.by rfl mixed (cfn_ok Tryz.func148 ok148) rfl ?_
  simp (disch := omega) only [s148, go_sem]
  refine CP.go (hasTask_c ts t (by omega) (fun u hu => by have := (pf.2 u hu).2; omega)) rfl (by simp [V.refsL, V.refs, refsLL_map encTask (refs_task 0) ts]) ?_
  simp (disch := omega) only [go_sem, hp, hin, Bool.true_and]
  refine CP.go (varsOkG_c vars (by omega)) rfl (refs_int1 _ _) ?_
  have hta := taskAt_some (ts := ts) (t := t) (by omega)
  simp (disch := omega) only [go_sem, hvo, hta, List.getElem?_map, encTask, taskAt_eq]
  refine CP.go (eval_c vars (taskAt ts t).next hv h8 hte.2) rfl (by simp [V.refsL, V.refs, refsLL_map encI (fun _ => rfl) vars]) ?_
  have hm1 : -(ts.length : Int) < (evalE vars (taskAt ts t).next).tmod ts.length := Int.lt_tmod_of_pos _ (by omega)
  have hm2 : (evalE vars (taskAt ts t).next).tmod ts.length < ts.length := Int.tmod_lt_of_pos _ (by omega)
  simp (disch := omega) only [go_sem, hvo, hta, List.getElem?_map, encTask, taskAt_eq]
  rw [tmod_twice (by omega)]; rfl
structure MemT (n : Nat) (m : List Int) (t c l : Int) : Prop where
  len : m.length = 49
  val : ∀ z ∈ m.take 8, isValue z = true
  t0 : 0 ≤ t
  t1 : t < n
  l0 : 0 ≤ l
  l1 : l ≤ 24
  ctl : unpackM (gtI m 8) = (t, c, l)
noncomputable def mustOf (tk : Task) : List Int := logT (treeOf tk.body) tk.next
noncomputable def runT (tk : Task) (task tail : Int) (rd : List Int) (at_ : Int) (vars : List Int) : TS := runG (stepT (mustOf tk) task tail rd at_) holdT (treeOf tk.body) ⟨vars, [], [], [], []⟩
noncomputable def traceEnd (ts : List Task) (task tail : Int) (σ : TS) : List Micro := [⟨1, -1, 0⟩, ⟨3, 8, packM (nextM ts σ.vars task) 0 (min 24 (tail + σ.sent.length))⟩]
noncomputable def traceS (ts : List Task) (m rd : List Int) (at_ task tail : Int) : List Micro := (runT (taskAt ts task) task tail rd at_ (m.take 8)).steps ++ traceEnd ts task tail (runT (taskAt ts task) task tail rd at_ (m.take 8))
noncomputable def traceU (ts : List Task) (m rd : List Int) (at_ task tail : Int) : List Int := (runT (taskAt ts task) task tail rd at_ (m.take 8)).used
theorem traceOf_f (ts : List Task) (m rd : List Int) (at_ task c tail : Int) (hp : programOk ts = true) (hm : MemT ts.length m task c tail) (hr : rd.length ≤ 9223372036854775807) (ha : 0 ≤ at_ ∧ at_ ≤ 1000000) :
    F Tryz.prog 92 [.agg [.lst 4 (ts.map encTask)], .lst 1 (m.map encI), .lst 1 (rd.map encI), .int .i64 at_] (.agg [.lst 3 ((traceS ts m rd at_ task tail).map encMicro), .lst 1 ((traceU ts m rd at_ task tail).map encI)]) := by
  have pf := prog_facts hp
  have htl : task.toNat < ts.length := by have := hm.t0; have := hm.t1; omega
  have hta := taskAt_some htl
  have hmem : taskAt ts task ∈ ts := by rw [← taskAt_eq htl]; exact List.getElem_mem _
  have htk := pf.2 _ hmem
  have hte := task_facts htk.1
  have htr := treeOf_ok hte.1
  have hg8 : m[8]? = some (gtI m 8) := gtI_some (by rw [hm.len]; omega)
  have hnn : maxCnt = 282429536481 := rfl
  have hml := hm.len
  refine C.by mixed (cfn_ok Tryz.func92 ok92) rfl ?_
  simp (disch := omega) only [s92, go_sem, hml, hg8, List.getElem?_map, encI, gtI_get]
  refine CP.go (unpack_c _) rfl rfl ?_
  simp (disch := omega) only [go_sem, encU, hm.ctl]
  have S0 : Sep ([[[V.lst 4 (ts.map encTask)]], [[V.lst 1 (rd.map encI)]], [[V.int .i64 at_]], [[V.nils, .nils]]] : Heap) [.k 3 [[V.nils, .nils]], .k 2 [[V.int .i64 at_]], .k 1 [[V.lst 1 (rd.map encI)]], .k 0 [[V.lst 4 (ts.map encTask)]]] := ((((Sep.nil []).newK _).newK _).newK _).newK _
  refine S0.goLst (memVars_f m hm.len) (.same (refs_int1 _ _)) fun v1 h1 x1 S1 o1 n1 c1 => ?_
  have h8 : ((m.take 8).map encI).length = 8 := by simp; omega
  refine Exists.elim (show ∃ q, v1 = .own q 1 0 8 8 ∧ Sep h1 [.k q ((m.take 8).map encI), .k 3 [[V.nils, .nils]], .k 2 [[V.int .i64 at_]], .k 1 [[V.lst 1 (rd.map encI)]], .k 0 [[V.lst 4 (ts.map encTask)]]] from ?_) fun vid z => ?_
  · rcases S1.flat_ (flat_encI _) with ⟨a, b, c⟩ | ⟨q, a, b⟩
    · rw [b] at h8; simp at h8
    · rw [h8] at a; exact ⟨q, a, b⟩
  have z1 := z.1
  have S1' := z.2
  clear z
  subst z1
  have tail0 := hm.l0
  have tail1 := hm.l1
  have task0 := hm.t0
  have S2 := S1'.newK3 [rowT .nils .nils task tail 0 .nils zero8 (.own vid 1 0 8 8)] [[.ptr h1.length 1 0 0]] [encTask (taskAt ts task)]
  have S2b := S1'.newK2 [rowT .nils .nils task tail 0 .nils zero8 (.own vid 1 0 8 8)] [[.ptr h1.length 1 0 0]]
  have P2 := S2b.blk 6 rfl
  have T2 := S2.blk 0 rfl
  simp only [rowT, zero8, List.map_cons, List.map_nil, List.cons_append, List.nil_append, encTask] at T2 P2
  simp (disch := omega) only [go_sem, splice, P2, T2, encTask, List.getElem?_map, hta, taskAt_eq]
  simp only [encTask] at S2
  refine S2.goPt (log_c (treeOf (taskAt ts task).body) (taskAt ts task).body (taskAt ts task).next htr.1 htr.2.1 hte.1 hte.2) (.same (refs_task1 _ (taskAt ts task))) fun r h3 x3 S3 ro rn rc rl => ?_
  have S4 := S3.newK [[r]]
  have T4 := S4.blk 2 rfl
  have hX : mustOf (taskAt ts task) = logT (treeOf (taskAt ts task).body) (taskAt ts task).next := rfl
  have hml8 : (mustOf (taskAt ts task)).length ≤ 8 := by rw [hX]; exact log_len _ _
  have R0 : KeepT (mustOf (taskAt ts task)) task tail rd at_ h1.length (h1.length + 1) h3.length 1 2 r 0 ⟨m.take 8, [], [], [], []⟩ [.k 3 [[V.nils, .nils]], .k 0 [[V.lst 4 (ts.map encTask)]], .k (h1.length + 2) [[.lst 6 ((taskAt ts task).body.map encStmt), .int .i64 (taskAt ts task).next.op, .int .i64 (taskAt ts task).next.a, .int .i64 (taskAt ts task).next.b]]] (h3 ++ [[[r]]]) := by
    refine ⟨by simp, .nils, .nils, .nils, zero8, vid, ⟨rfl, by simp; omega, hm.val, fun k hk _ => ?_⟩, ?_⟩
    · rw [bitB_zero]; simp
    · exact (((S4.nils (sz := 1)).nils (sz := 1)).nils (sz := 3)).pk (A := [_, _, _, _, _, _, _, _, _, _, _, _, _]) (L := []) [7, 0, 1, 2, 8, 4, 6, 3, 11, 10, 9, 12, 5] rfl
  simp (disch := omega) only [go_sem, ro, rn, rc, T4]
  refine C.go (walk_c (keepT_keeps (mustOf (taskAt ts task)) task tail rd at_ h1.length (h1.length + 1) h3.length 1 2 r) (see_c (by omega) ⟨tail0, tail1⟩ hr ha) (treeOf (taskAt ts task).body) (taskAt ts task).body 0 _ _ _ htr.1 htr.2.1 htr.2.2 (by have := cntT_max (t := treeOf (taskAt ts task).body) (by rw [← htr.2.1]; exact htr.2.2); omega) R0) ?_
  intro r5 h5 P
  have hr5 := P.1
  refine Exists.elim P.2 fun n' P => ?_
  have hn' := P.1
  have K5 := P.2
  clear P
  subst hr5
  have hcm := cntT_max (t := treeOf (taskAt ts task).body) (by rw [← htr.2.1]; exact htr.2.2)
  refine Exists.elim (show ∃ σ, σ = runT (taskAt ts task) task tail rd at_ (m.take 8) from ⟨_, rfl⟩) fun σ hσ => ?_
  have hσ' : runG (stepT (mustOf (taskAt ts task)) task tail rd at_) holdT (treeOf (taskAt ts task).body) ⟨m.take 8, [], [], [], []⟩ = σ := hσ.symm
  rw [hσ'] at K5
  have hb5 := K5.1
  have T5 := K5.2
  clear K5
  have P5 := Exists.elim T5 fun _ T => Exists.elim T fun _ T => Exists.elim T fun _ T => Exists.elim T fun _ T => Exists.elim T fun _ T => T.2.blk 6 rfl
  simp (disch := omega) only [go_sem, P5]
  refine C.go (work_c 1 T5 (by omega)) ?_
  rintro r6 h6 ⟨rfl, T6⟩
  have T6' := T6
  refine Exists.elim T6 fun vs6 T => Exists.elim T fun vu6 T => Exists.elim T fun vl6 T => Exists.elim T fun F6 T => Exists.elim T fun vid6 T => ?_
  have f6 := T.1
  have S6 := T.2
  clear T T6
  have X6 := S6.blk 0 rfl
  have P6 := S6.blk 6 rfl
  have G6 := S6.blk 11 rfl
  have r14 := rowT_14 (vs := vs6) (vu := vu6) (task := task) (tail := tail) (sent := (σ.add [⟨1, -1, 0⟩]).sent.length) (vl := vl6) (vv := .own vid6 1 0 8 8) f6.f8
  simp (disch := omega) only [go_sem, X6, P6, G6, r14, rowT_4, refs_task]
  refine CP.goS (next_c ts σ.vars task hp f6.val f6.v8 ⟨task0, hm.t1⟩) rfl rfl (.cons (.same _ (refs_prog 0 ts)) (.cons (Snap.flatN (S6.blk 4 rfl) (by rw [List.length_map]; exact f6.v8) (flat_encI _)) (.cons (.int _ _) (.nil _)))) ?_
  have hs6 : (σ.add [⟨1, -1, 0⟩]).sent = σ.sent := rfl
  have hsl : σ.sent.length ≤ 282429536481 := by omega
  simp (disch := omega) only [go_sem, X6, P6, G6, r14, rowT_4, refs_task, hs6]
  refine CP.go (pack_c _ _ _) rfl rfl ?_
  simp (disch := omega) only [go_sem, X6, P6, G6, r14, rowT_4, refs_task, hs6]
  refine C.go (write_c 8 (packM (nextM ts σ.vars task) 0 (min 24 (tail + σ.sent.length))) T6' (by simp [TS.add]; omega)) ?_
  rintro r7 h7 ⟨rfl, T7⟩
  refine Exists.elim T7 fun vs7 T => Exists.elim T fun vu7 T => Exists.elim T fun vl7 T => Exists.elim T fun F7 T => Exists.elim T fun vid7 T => ?_
  have f7 := T.1
  have S7 := T.2
  clear T T7
  have X7 := S7.blk 0 rfl
  have P7 := S7.blk 6 rfl
  have Z7 := S7.blk 10 rfl
  have zs := S7.vv 1 rfl
  have zu := S7.vv 2 rfl
  have c7 : ∀ d, (h7.set 3 d)[3]? = some d := fun d => heap_set _ Z7
  simp (disch := omega) only [go_sem, X7, P7, Z7, rowT_out, zs.1, zs.2.1, zs.2.2, zu.1, zu.2.1, zu.2.2, storeH, storeB, splice, c7]
  have S8 := ((S7.pull 10).setK [[vs7, vu7]])
  have S9 := S8.pk (A := [_, _, _, _]) [3, 2] rfl
  have e1 : ((σ.add [⟨1, -1, 0⟩]).add [⟨3, 8, packM (nextM ts σ.vars task) 0 (min 24 (tail + σ.sent.length))⟩]).steps = traceS ts m rd at_ task tail := by
    unfold traceS traceEnd; rw [← hσ]; simp [TS.add]
  have e2 : ((σ.add [⟨1, -1, 0⟩]).add [⟨3, 8, packM (nextM ts σ.vars task) 0 (min 24 (tail + σ.sent.length))⟩]).used = traceU ts m rd at_ task tail := by
    unfold traceU; rw [← hσ]; rfl
  rw [e1, e2] at S9
  have A1 := (Sep.cons2 (fun es e => by cases e) (Sep.perm (List.Perm.swap _ _ _) (Sep.l0 S9)))
  exact ((Sep.cons2 (fun es e => by cases e) (Sep.perm (List.Perm.swap _ _ _) A1)).a).ret
end Go.Av

namespace Go.Av
open Go.Proofs Go.RowKit
set_option linter.unusedVariables false
set_option linter.unusedSimpArgs false
set_option maxRecDepth 100000
set_option maxHeartbeats 4000000
def logOk (m : List Int) (i : Nat) : Bool := isVar (gtI m (9 + 2 * i)) && isValue (gtI m (9 + 2 * i + 1))
def memOkM (ts : List Task) (m : List Int) : Bool := programOk ts && decide (m.length = 49) && vals (m.take 8) && (decide (0 ≤ (unpackM (gtI m 8)).1) && decide ((unpackM (gtI m 8)).1 < ts.length)) && vals ((m.take (25 + (unpackM (gtI m 8)).2.2).toNat).drop 25) && (List.range (unpackM (gtI m 8)).2.1.toNat).all (logOk m)
theorem sl_both (m : List Int) {l : Int} (h0 : 0 ≤ l ∧ l ≤ 24) (hm : m.length = 49) : sliceV 1 (.lst 1 (m.map encI)) (some (.int .i64 25)) (some (.int .i64 (25 + l))) = some (.lst 1 (((m.take (25 + l).toNat).drop 25).map encI)) := by
  rw [sliceV_both encI 1 .i64 .i64 m 25 (25 + l) (by omega) (by omega) (by omega)]; rfl
theorem log_all {m : List Int} {c : Nat} (h : ∀ j, j < c → logOk m j = true) : (List.range c).all (logOk m) = true := List.all_eq_true.2 fun j hj => h j (List.mem_range.1 hj)
theorem log_some {m : List Int} {c k : Nat} (hk : k < c) (h : logOk m k = false) : (List.range c).all (logOk m) = false := List.all_eq_false.2 ⟨k, List.mem_range.2 hk, by simp [h]⟩
theorem memOk_c (ts : List Task) (m : List Int) (hl : ts.length ≤ 1048576) (hb : ∀ t ∈ ts, t.body.length ≤ 9223372036854775807) (hml : m.length ≤ 9223372036854775807) : CP Tryz.prog 89 [.agg [.lst 4 (ts.map encTask)], .lst 1 (m.map encI)] (.bool (memOkM ts m)) [] := by
  refine CP.by rfl mixed (cfn_ok Tryz.func89 ok89) rfl ?_
  simp (disch := omega) only [s89, go_sem]
  refine CP.go (programOk_c ts hl hb) rfl (refs_prog1 _ ts) ?_
  simp (disch := omega) only [go_sem]
  refine condP_split (fun hp => ?_) (fun hp => ?_)
  case' refine_2 =>
    simp (disch := omega) only [go_sem, hp]
    simp [memOkM, hp]
  simp (disch := omega) only [go_sem, hp]
  refine condP_dec (fun h49 => ?_) (fun h49 => ?_)
  case' refine_2 =>
    simp (disch := omega) only [go_sem, hp]
    have : ¬ m.length = 49 := by omega
    simp [memOkM, this]
  have hm : m.length = 49 := by omega
  simp (disch := omega) only [go_sem, hp]
  refine CP.go (values_c (m.take 8) (by simp; omega)) rfl (refs_int1 _ _) ?_
  simp (disch := omega) only [go_sem, hp]
  refine condP_split (fun hv => ?_) (fun hv => ?_)
  case' refine_2 =>
    simp (disch := omega) only [go_sem, hp, hv]
    have hv' : vals (m.take (8 : Int).toNat) = false := hv
    have hv2 : vals (m.take 8) = false := hv'
    simp [memOkM, hv2]
  have hg8 : m[8]? = some (gtI m 8) := gtI_some (by omega)
  simp (disch := omega) only [go_sem, hp, hv, hg8, List.getElem?_map, encI, gtI_get]
  refine CP.go (unpack_c _) rfl rfl ?_
  refine Exists.elim (show ∃ a b c, unpackM (gtI m 8) = (a, b, c) from ⟨_, _, _, rfl⟩) fun a q => Exists.elim q fun b q => Exists.elim q fun c hu => ?_
  have ub := unpackM_bd (gtI m 8)
  rw [hu] at ub
  simp only at ub
  simp (disch := omega) only [go_sem, encU, hu]
  refine condP_dec (fun h0 => ?_) (fun h0 => ?_)
  · simp (disch := omega) only [go_sem, encU, hu]
    have : ¬ 0 ≤ a := by omega
    simp [memOkM, hu, this]
  simp (disch := omega) only [go_sem, encU, hu]
  refine condP_dec (fun h1 => ?_) (fun h1 => ?_)
  · simp (disch := omega) only [go_sem, encU, hu]
    have : ¬ a < ts.length := by omega
    simp [memOkM, hu, this]
  have hsl := sl_both m (l := c) (by omega) hm
  simp (disch := omega) only [go_sem, encU, hu, hsl]
  refine CP.go (values_c _ (by simp; omega)) rfl (refs_int1 _ _) ?_
  simp (disch := omega) only [go_sem, encU, hu, hsl]
  refine condP_split (fun hbx => ?_) (fun hbx => ?_)
  case' refine_2 =>
    simp (disch := omega) only [go_sem, hbx]
    simp [memOkM, hu, hbx]
  have ha0 : 0 ≤ a := by omega
  have ha1 : a < ts.length := by omega
  have key : memOkM ts m = (List.range b.toNat).all (logOk m) := by simp [memOkM, hp, hm, show vals (m.take 8) = true from hv, hu, hbx, ha0, ha1]
  simp (disch := omega) only [go_sem, hbx, hv]
  refine loopP_intro (fun n s => ∃ k : Nat, (k : Int) ≤ b ∧ n = b.toNat - k ∧ s.e 1 = .lst 1 (m.map encI) ∧ s.e 48 = .int .i64 b ∧ s.e 49 = .int .i64 k ∧ ∀ j, j < k → logOk m j = true) b.toNat ⟨0, by omega, by omega, by simp (disch := omega) only [go_sem, hbx, hv], by simp (disch := omega) only [go_sem, hbx, hv], by simp (disch := omega) only [go_sem, hbx, hv] <;> rfl, fun j h => absurd h (by omega)⟩ ?_
  intro n e hp P
  refine Exists.elim P fun k P => ?_
  have hk := P.1
  have hn := P.2.1
  have e1 := P.2.2.1
  have ec := P.2.2.2.1
  have ek := P.2.2.2.2.1
  have hall := P.2.2.2.2.2
  clear P
  subst hn
  simp only at e1 ec ek
  simp (disch := omega) only [go_sem, e1, ec, ek]
  refine condP_dec (fun hlt => ?_) (fun hlt => ?_)
  case' refine_2 =>
    simp (disch := omega) only [go_sem, e1, ec, ek]
    rw [key, log_all (fun j hj => hall j (by omega))]
  have i1 : (9 + 2 * (k : Int)).toNat = 9 + 2 * k := by omega
  have i2 : (9 + 2 * (k : Int) + 1).toNat = 9 + 2 * k + 1 := by omega
  have g1 := gtI_some (zs := m) (i := 9 + 2 * k) (by omega)
  have g2 := gtI_some (zs := m) (i := 9 + 2 * k + 1) (by omega)
  simp (disch := omega) only [go_sem, e1, ec, ek, encI, i1, i2, g1, g2, List.getElem?_map, gtI_get]
  refine CP.go (isVar_c (gtI m (9 + 2 * k))) rfl rfl ?_
  simp (disch := omega) only [go_sem, e1, ec, ek]
  refine condP_split (fun hx => ?_) (fun hx => ?_)
  case' refine_2 =>
    simp (disch := omega) only [go_sem, e1, ec, ek, hx]
    rw [key, log_some (k := k) (by omega) (by unfold logOk; rw [hx]; rfl)]
  simp (disch := omega) only [go_sem, e1, ec, ek, hx, encI, i1, i2, g1, g2, List.getElem?_map, gtI_get]
  refine CP.go (isValue_c _) rfl rfl ?_
  simp (disch := omega) only [go_sem, e1, ec, ek, hx]
  refine condP_split (fun hy => ?_) (fun hy => ?_)
  · simp (disch := omega) only [go_sem, e1, ec, ek, hx, hy]
    refine nextP_intro (b.toNat - (k + 1)) (by omega) ⟨k + 1, by omega, rfl, by simp (disch := omega) only [go_sem, e1, ec, ek, hx, hy], by simp (disch := omega) only [go_sem, e1, ec, ek, hx, hy], by simp (disch := omega) only [go_sem, e1, ec, ek, hx, hy] <;> rfl, fun j hj => ?_⟩
    by_cases q : j = k
    · rw [q]; unfold logOk; rw [hx, hy]; rfl
    · exact hall j (by omega)
  · simp (disch := omega) only [go_sem, e1, ec, ek, hx, hy]
    rw [key, log_some (k := k) (by omega) (by unfold logOk; rw [hy, Bool.and_false])]
theorem memOk_s (ts : List Task) (m : List Int) (hl : ts.length ≤ 1048576) (hb : ∀ t ∈ ts, t.body.length ≤ 9223372036854775807) (hml : m.length ≤ 9223372036854775807) : CP Tryz.prog 226 [.agg [.lst 4 (ts.map encTask)], .lst 1 (m.map encI)] (.bool (memOkM ts m)) [] := by
  refine CP.by rfl mixed (cfn_ok Tryz.func226 ok226) rfl ?_
  simp (disch := omega) only [s226, go_sem]
  refine CP.go (programOk_s ts hl hb) rfl (refs_prog1 _ ts) ?_
  simp (disch := omega) only [go_sem]
  refine condP_split (fun hp => ?_) (fun hp => ?_)
  case' refine_2 =>
    simp (disch := omega) only [go_sem, hp]
    simp [memOkM, hp]
  simp (disch := omega) only [go_sem, hp]
  refine condP_dec (fun h49 => ?_) (fun h49 => ?_)
  case' refine_2 =>
    simp (disch := omega) only [go_sem, hp]
    have : ¬ m.length = 49 := by omega
    simp [memOkM, this]
  have hm : m.length = 49 := by omega
  have hg8 : m[8]? = some (gtI m 8) := gtI_some (by omega)
  simp (disch := omega) only [go_sem, hp, hg8, List.getElem?_map, encI, gtI_get]
  refine CP.go (unpack_s _) rfl rfl ?_
  refine Exists.elim (show ∃ a b c, unpackM (gtI m 8) = (a, b, c) from ⟨_, _, _, rfl⟩) fun a q => Exists.elim q fun b q => Exists.elim q fun c hu => ?_
  have ub := unpackM_bd (gtI m 8)
  rw [hu] at ub
  simp only at ub
  simp (disch := omega) only [go_sem, encU, hu]
  refine condP_dec (fun h0 => ?_) (fun h0 => ?_)
  · simp (disch := omega) only [go_sem, encU, hu]
    have : ¬ 0 ≤ a := by omega
    simp [memOkM, hu, this]
  simp (disch := omega) only [go_sem, encU, hu]
  refine condP_dec (fun h1 => ?_) (fun h1 => ?_)
  · simp (disch := omega) only [go_sem, encU, hu]
    have : ¬ a < ts.length := by omega
    simp [memOkM, hu, this]
  have hsl := sl_both m (l := c) (by omega) hm
  simp (disch := omega) only [go_sem, encU, hu, hsl]
  refine CP.go (values_s (m.take 8) (by simp; omega)) rfl (refs_int1 _ _) ?_
  simp (disch := omega) only [go_sem, encU, hu, hsl]
  refine condP_split (fun hv => ?_) (fun hv => ?_)
  case' refine_2 =>
    simp (disch := omega) only [go_sem, hv]
    have hv2 : vals (m.take 8) = false := hv
    simp [memOkM, hv2]
  simp (disch := omega) only [go_sem, encU, hu, hsl, hv]
  refine CP.go (values_s _ (by simp; omega)) rfl (refs_int1 _ _) ?_
  simp (disch := omega) only [go_sem, encU, hu, hsl, hv]
  refine condP_split (fun hbx => ?_) (fun hbx => ?_)
  case' refine_2 =>
    simp (disch := omega) only [go_sem, hbx]
    simp [memOkM, hu, hbx]
  have ha0 : 0 ≤ a := by omega
  have ha1 : a < ts.length := by omega
  have key : memOkM ts m = (List.range b.toNat).all (logOk m) := by simp [memOkM, hp, hm, show vals (m.take 8) = true from hv, hu, hbx, ha0, ha1]
  simp (disch := omega) only [go_sem, hbx, hv]
  refine loopP_intro (fun n s => ∃ k : Nat, (k : Int) ≤ b ∧ n = b.toNat - k ∧ s.e 1 = .lst 1 (m.map encI) ∧ s.e 6 = .int .i64 b ∧ s.e 8 = .int .i64 k ∧ ∀ j, j < k → logOk m j = true) b.toNat ⟨0, by omega, by omega, by simp (disch := omega) only [go_sem, hbx, hv], by simp (disch := omega) only [go_sem, hbx, hv], by simp (disch := omega) only [go_sem, hbx, hv] <;> rfl, fun j h => absurd h (by omega)⟩ ?_
  intro n e hp P
  refine Exists.elim P fun k P => ?_
  have hk := P.1
  have hn := P.2.1
  have e1 := P.2.2.1
  have ec := P.2.2.2.1
  have ek := P.2.2.2.2.1
  have hall := P.2.2.2.2.2
  clear P
  subst hn
  simp only at e1 ec ek
  simp (disch := omega) only [go_sem, e1, ec, ek]
  refine condP_dec (fun hlt => ?_) (fun hlt => ?_)
  case' refine_2 =>
    simp (disch := omega) only [go_sem, e1, ec, ek]
    rw [key, log_all (fun j hj => hall j (by omega))]
  have i1 : (9 + 2 * (k : Int)).toNat = 9 + 2 * k := by omega
  have i2 : (9 + 2 * (k : Int) + 1).toNat = 9 + 2 * k + 1 := by omega
  have g1 := gtI_some (zs := m) (i := 9 + 2 * k) (by omega)
  have g2 := gtI_some (zs := m) (i := 9 + 2 * k + 1) (by omega)
  simp (disch := omega) only [go_sem, e1, ec, ek, encI, i1, i2, g1, g2, List.getElem?_map, gtI_get]
  refine CP.go (l01In_c (gtI m (9 + 2 * k)) 0 7) rfl rfl ?_
  simp (disch := omega) only [go_sem, e1, ec, ek]
  refine condP_split (fun hx => ?_) (fun hx => ?_)
  case' refine_2 =>
    simp (disch := omega) only [go_sem, e1, ec, ek, hx]
    rw [key, log_some (k := k) (by omega) (by unfold logOk; rw [show isVar (gtI m (9 + 2 * k)) = _ from hx]; rfl)]
  simp (disch := omega) only [go_sem, e1, ec, ek, hx, encI, i1, i2, g1, g2, List.getElem?_map, gtI_get]
  refine CP.go (isValue_s _) rfl rfl ?_
  simp (disch := omega) only [go_sem, e1, ec, ek, hx]
  refine condP_split (fun hy => ?_) (fun hy => ?_)
  · simp (disch := omega) only [go_sem, e1, ec, ek, hx, hy]
    refine nextP_intro (b.toNat - (k + 1)) (by omega) ⟨k + 1, by omega, rfl, by simp (disch := omega) only [go_sem, e1, ec, ek, hx, hy], by simp (disch := omega) only [go_sem, e1, ec, ek, hx, hy], by simp (disch := omega) only [go_sem, e1, ec, ek, hx, hy] <;> rfl, fun j hj => ?_⟩
    by_cases q : j = k
    · rw [q]; unfold logOk; rw [show isVar (gtI m (9 + 2 * k)) = _ from hx, hy]; rfl
    · exact hall j (by omega)
  · simp (disch := omega) only [go_sem, e1, ec, ek, hx, hy]
    rw [key, log_some (k := k) (by omega) (by unfold logOk; rw [hy, Bool.and_false])]
end Go.Av

namespace Go.Av
open Go.Proofs Go.RowKit
set_option linter.unusedVariables false
set_option linter.unusedSimpArgs false
set_option maxRecDepth 100000
set_option maxHeartbeats 4000000
theorem nodup_len : ∀ (l m : List Int), l.Nodup → (∀ x ∈ l, x ∈ m) → l.length ≤ m.length
  | [], m, _, _ => Nat.zero_le _
  | x :: l, m, hn, hs => by
    have n' := List.nodup_cons.1 hn
    have ih := nodup_len l (m.erase x) n'.2 fun y hy => (List.mem_erase_of_ne (fun (e : y = x) => n'.1 (by rw [← e]; exact hy))).2 (hs y (by simp [hy]))
    have hx := hs x (by simp)
    have := List.length_erase_of_mem hx
    have := List.length_pos_of_mem hx
    simp only [List.length_cons]
    omega
def sumC (ms : List Micro) : Int := (ms.map Micro.cost).sum
theorem sumC_app (a b : List Micro) : sumC (a ++ b) = sumC a + sumC b := by simp [sumC]
theorem sumC_cons (m : Micro) (b : List Micro) : sumC (m :: b) = m.cost + sumC b := by simp [sumC]
theorem sumC_nil : sumC [] = 0 := rfl
def LogIn (must : List Int) (σ : TS) : Prop := σ.logged.Nodup ∧ ∀ k ∈ σ.logged, k ∈ must
def pot (σ : TS) : Int := sumC σ.steps - 9 * σ.logged.length
theorem assign_pot {must : List Int} {task tail k v : Int} {σ : TS} (h : LogIn must σ) : LogIn must (assignT must task tail k v σ) ∧ pot (assignT must task tail k v σ) = pot σ + 3 := by
  unfold assignT logA
  by_cases q : k ∈ must ∧ k ∉ σ.logged
  · rw [if_pos q]
    refine ⟨⟨?_, fun j hj => ?_⟩, ?_⟩
    · rw [List.nodup_append]
      refine ⟨h.1, by simp, fun a ha b hb e => ?_⟩
      rw [List.mem_singleton.1 hb] at e
      exact q.2 (e ▸ ha)
    · rcases List.mem_append.1 hj with w | w
      · exact h.2 j w
      · rw [List.mem_singleton.1 w]; exact q.1
    · simp only [pot, sumC_app, sumC_cons, sumC_nil, List.length_append, List.length_cons, List.length_nil]
      push_cast
      omega
  · rw [if_neg q]
    refine ⟨h, ?_⟩
    simp only [pot, sumC_app, sumC_cons, sumC_nil]
    omega
theorem add_pot (σ : TS) (ms : List Micro) : pot (σ.add ms) = pot σ + sumC ms := by simp only [pot, TS.add, sumC_app]; omega
theorem step_pot {must : List Int} {task tail : Int} {rd : List Int} {at_ : Int} {s : Stmt} {σ : TS} (h : LogIn must σ) : LogIn must (stepT must task tail rd at_ s σ) ∧ pot (stepT must task tail rd at_ s σ) ≤ pot σ + costK s.kind + (if s.kind = 1 ∨ s.kind = 2 ∨ s.kind = 3 then 3 else 0) := by
  have h0 : LogIn must (σ.add [⟨costK s.kind, -1, 0⟩]) := h
  have p0 : pot (σ.add [⟨costK s.kind, -1, 0⟩]) = pot σ + costK s.kind := by rw [add_pot, sumC_cons, sumC_nil]; simp
  unfold stepT
  split
  · rename_i h1
    have := assign_pot (task := task) (tail := tail) (k := s.var) (v := evalE σ.vars s.e) h0
    rw [if_pos (.inl h1)]
    exact ⟨this.1, by rw [this.2]; omega⟩
  split
  · rename_i h2
    have := assign_pot (must := must) (task := task) (tail := tail) (k := s.var) (v := readM rd s.n (at_ + σ.used.length)) (σ := { σ.add [⟨costK s.kind, -1, 0⟩] with used := σ.used ++ [readM rd s.n (at_ + σ.used.length)] }) h0
    rw [if_pos (.inr (.inl h2))]
    refine ⟨this.1, ?_⟩
    rw [this.2]
    show pot (σ.add [⟨costK s.kind, -1, 0⟩]) + 3 ≤ _
    omega
  split
  · rename_i h3
    rw [if_pos (.inr (.inr h3))]
    unfold sendT
    split
    · refine ⟨h0, ?_⟩
      show pot ((σ.add [⟨costK s.kind, -1, 0⟩]).add _) ≤ _
      rw [add_pot, sumC_cons, sumC_nil, p0]
      simp only
      omega
    · refine ⟨h0, ?_⟩
      show pot (σ.add [⟨costK s.kind, -1, 0⟩]) ≤ _
      omega
  · refine ⟨h0, ?_⟩
    rw [if_neg (by omega)]
    omega
theorem it_pot {must : List Int} {f : TS → TS} {B : Int} (hB : 0 ≤ B) (hf : ∀ σ, LogIn must σ → LogIn must (f σ) ∧ pot (f σ) ≤ pot σ + B) : ∀ (n : Nat) (σ : TS), LogIn must σ → LogIn must (itN f n σ) ∧ pot (itN f n σ) ≤ pot σ + n * B
  | 0, σ, h => ⟨h, by simp [itN]⟩
  | n + 1, σ, h => by
    have h1 := hf σ h
    have h2 := it_pot hB hf n (f σ) h1.1
    refine ⟨h2.1, ?_⟩
    have e : ((n + 1 : Nat) : Int) * B = n * B + B := by push_cast; rw [Int.add_mul, Int.one_mul]
    rw [e]
    show pot (itN f n (f σ)) ≤ _
    omega
theorem run_pot {must : List Int} {task tail : Int} {rd : List Int} {at_ : Int} : ∀ (t : Tr) (σ : TS), t.ok = true → LogIn must σ → LogIn must (runG (stepT must task tail rd at_) holdT t σ) ∧ pot (runG (stepT must task tail rd at_) holdT t σ) ≤ pot σ + boundT t
  | .nil, σ, _, h => ⟨h, by simp [runG, boundT]⟩
  | .one s r, σ, ht, h => by
    obtain ⟨hs, hk, hr⟩ := Tr.one_ok ht
    have h1 := step_pot (task := task) (tail := tail) (rd := rd) (at_ := at_) (s := s) h
    rw [if_pos (by omega)] at h1
    have h2 := run_pot (task := task) (tail := tail) (rd := rd) (at_ := at_) r _ hr h1.1
    simp only [runG, boundT]
    exact ⟨h2.1, by omega⟩
  | .grp s a r, σ, ht, h => by
    obtain ⟨hs, hk, ha, hr⟩ := Tr.grp_ok ht
    have h1 := step_pot (task := task) (tail := tail) (rd := rd) (at_ := at_) (s := s) h
    rw [if_neg (by omega)] at h1
    have hb := (boundT_bd a ha).1
    have h2 := it_pot (must := must) hb (fun σ hσ => run_pot (task := task) (tail := tail) (rd := rd) (at_ := at_) a σ ha hσ) (rounds s (holdT s σ)) _ h1.1
    have h3 := run_pot (task := task) (tail := tail) (rd := rd) (at_ := at_) r _ hr h2.1
    have hrt : ((rounds s (holdT s σ) : Nat) : Int) ≤ timesS s := by
      have q := rounds_le (b := holdT s σ) hs hk
      rcases hk with h4 | h5
      · rw [q.2.2 h4, timesS, if_neg (by omega)]
        unfold bitI; split <;> omega
      · rw [q.2.1 h5, timesS, if_pos h5]; exact Int.le_refl _
    have hmul := Int.mul_le_mul_of_nonneg_right hrt hb
    simp only [runG, boundT]
    exact ⟨h3.1, by show pot (runG (stepT must task tail rd at_) holdT r (itN (runG (stepT must task tail rd at_) holdT a) (rounds s (holdT s σ)) (stepT must task tail rd at_ s σ))) ≤ _; omega⟩
theorem trace_cost {ts : List Task} {m rd : List Int} {at_ task tail : Int} (htk : taskOk (taskAt ts task) = true) : sumC (traceS ts m rd at_ task tail) ≤ taskB (taskAt ts task) := by
  have hte := task_facts htk
  have htr := treeOf_ok hte.1
  have h0 : LogIn (mustOf (taskAt ts task)) ⟨m.take 8, [], [], [], []⟩ := ⟨.nil, by simp⟩
  have h1 := run_pot (task := task) (tail := tail) (rd := rd) (at_ := at_) (treeOf (taskAt ts task).body) _ htr.1 h0
  have h2 := nodup_len _ _ h1.1.1 h1.1.2
  have p0 : pot ⟨m.take 8, [], [], [], []⟩ = 0 := rfl
  rw [p0] at h1
  have hT : taskB (taskAt ts task) = boundT (treeOf (taskAt ts task).body) + 9 * ((mustOf (taskAt ts task)).length : Int) + 1 + 3 := by rw [taskB, if_pos htk]; rfl
  rw [hT, traceS, traceEnd, sumC_app, sumC_cons, sumC_cons, sumC_nil]
  have h3 := h1.2
  simp only [pot] at h3
  simp only
  show sumC (runG (stepT (mustOf (taskAt ts task)) task tail rd at_) holdT (treeOf (taskAt ts task).body) ⟨m.take 8, [], [], [], []⟩).steps + _ ≤ _
  have h4 : ((runG (stepT (mustOf (taskAt ts task)) task tail rd at_) holdT (treeOf (taskAt ts task).body) ⟨m.take 8, [], [], [], []⟩).logged.length : Int) ≤ (mustOf (taskAt ts task)).length := by exact_mod_cast h2
  omega
theorem step_cost {must : List Int} {task tail : Int} {rd : List Int} {at_ : Int} {s : Stmt} {σ : TS} (hk : 1 ≤ costK s.kind) (h : ∀ x ∈ σ.steps, 1 ≤ x.cost) : ∀ x ∈ (stepT must task tail rd at_ s σ).steps, 1 ≤ x.cost := by
  have h0 : ∀ x ∈ (σ.add [⟨costK s.kind, -1, 0⟩]).steps, 1 ≤ x.cost := fun x hx => by
    rcases List.mem_append.1 hx with q | q
    · exact h x q
    · rw [List.mem_singleton.1 q]; exact hk
  have ha : ∀ (k v : Int) (σ : TS), (∀ x ∈ σ.steps, 1 ≤ x.cost) → ∀ x ∈ (assignT must task tail k v σ).steps, 1 ≤ x.cost := fun k v σ h x hx => by
    unfold assignT logA at hx
    split at hx
    · simp only [List.mem_append, List.mem_cons, List.not_mem_nil, or_false] at hx
      rcases hx with (hx | rfl | rfl | rfl) | rfl
      · exact h x hx
      all_goals simp
    · simp only [List.mem_append, List.mem_cons, List.not_mem_nil, or_false] at hx
      rcases hx with hx | rfl
      · exact h x hx
      · simp
  unfold stepT
  split
  · exact ha _ _ _ h0
  split
  · exact ha _ _ _ h0
  split
  · unfold sendT
    split
    · intro x hx
      simp only [TS.add, List.mem_append, List.mem_cons, List.not_mem_nil, or_false] at hx
      rcases hx with (hx | rfl) | rfl
      · exact h x hx
      · exact hk
      · simp
    · exact h0
  · exact h0
theorem it_inv {α : Type} {p : α → Prop} {f : α → α} (hf : ∀ a, p a → p (f a)) : ∀ (n : Nat) (a : α), p a → p (itN f n a)
  | 0, a, h => h
  | n + 1, a, h => it_inv hf n (f a) (hf a h)
theorem run_inv {σ : Type} {p : σ → Prop} {stp : Stmt → σ → σ} {hold : Stmt → σ → Bool} (hs : ∀ s a, stmtOk s = true → s.kind ≠ 6 → p a → p (stp s a)) : ∀ (t : Tr) (a : σ), t.ok = true → p a → p (runG stp hold t a)
  | .nil, a, _, h => h
  | .one s r, a, ht, h => by
    obtain ⟨h1, hk, hr⟩ := Tr.one_ok ht
    exact run_inv hs r _ hr (hs s a h1 (by omega) h)
  | .grp s b r, a, ht, h => by
    obtain ⟨h1, hk, hb, hr⟩ := Tr.grp_ok ht
    exact run_inv hs r _ hr (it_inv (fun a h => run_inv hs b a hb h) _ _ (hs s a h1 (by omega) h))
theorem costK_pos {s : Stmt} (h : stmtOk s = true) (h6 : s.kind ≠ 6) : 1 ≤ costK s.kind := by
  have := stmt_kinds h
  unfold costK
  repeat' split
  all_goals omega
theorem len_le_sum : ∀ (ms : List Micro), (∀ x ∈ ms, 1 ≤ x.cost) → (ms.length : Int) ≤ sumC ms
  | [], _ => Int.le_refl _
  | x :: xs, h => by
    rw [sumC_cons]
    have := h x (by simp)
    have := len_le_sum xs fun y hy => h y (by simp [hy])
    simp only [List.length_cons]
    push_cast
    omega
theorem trace_pos {ts : List Task} {m rd : List Int} {at_ task tail : Int} (htk : taskOk (taskAt ts task) = true) : ∀ x ∈ traceS ts m rd at_ task tail, 1 ≤ x.cost := by
  intro x hx
  rcases List.mem_append.1 hx with q | q
  · exact run_inv (p := fun σ : TS => ∀ x ∈ σ.steps, 1 ≤ x.cost) (fun s a hs h6 h => step_cost (costK_pos hs h6) h) (treeOf (taskAt ts task).body) ⟨m.take 8, [], [], [], []⟩ (treeOf_ok (task_facts htk).1).1 (by simp) x q
  · simp only [traceEnd, List.mem_cons, List.not_mem_nil, or_false] at q
    rcases q with rfl | rfl <;> simp
end Go.Av

namespace Go.Av
open Go.Proofs Go.RowKit
set_option linter.unusedVariables false
set_option linter.unusedSimpArgs false
set_option maxRecDepth 100000
set_option maxHeartbeats 4000000
theorem Sep.open2 {h : Heap} {sa sb : Nat} {ya yb : Blk} {r : V} {L : List It} (S : Sep h (.v (.agg [.lst sa ya, .lst sb yb]) r :: L)) : ∃ va vb, r = .agg [va, vb] ∧ Sep h (.v (.lst sa ya) va :: .v (.lst sb yb) vb :: L) := by
  obtain ⟨_, rfl, S1⟩ := sep_agg.1 S
  obtain ⟨va, _, rfl, S2⟩ := sep_ll.1 S1
  obtain ⟨vb, _, rfl, S3⟩ := sep_ll.1 S2
  obtain ⟨rfl, S4⟩ := sep_l0.1 S3
  exact ⟨va, vb, rfl, Sep.sw ((Sep.rot S4).perm (.cons _ List.perm_append_comm))⟩
theorem memOk_facts {ts : List Task} {m : List Int} (h : memOkM ts m = true) : programOk ts = true ∧ m.length = 49 ∧ vals (m.take 8) = true ∧ (0 ≤ (unpackM (gtI m 8)).1 ∧ (unpackM (gtI m 8)).1 < ts.length) ∧ vals ((m.take (25 + (unpackM (gtI m 8)).2.2).toNat).drop 25) = true ∧ ∀ j, j < (unpackM (gtI m 8)).2.1.toNat → logOk m j = true := by
  simp only [memOkM, Bool.and_eq_true, decide_eq_true_eq] at h
  refine ⟨h.1.1.1.1.1, h.1.1.1.1.2, h.1.1.1.2, h.1.1.2, h.1.2, fun j hj => List.all_eq_true.1 h.2 j (List.mem_range.2 hj)⟩
theorem sumC_nn : ∀ (ms : List Micro), (∀ x ∈ ms, 0 ≤ x.cost) → 0 ≤ sumC ms
  | [], _ => Int.le_refl _
  | x :: xs, h => by
    rw [sumC_cons]
    have := h x (by simp)
    have := sumC_nn xs fun y hy => h y (by simp [hy])
    omega
end Go.Av

namespace Go.Av
open Go.Proofs Go.RowKit
set_option linter.unusedVariables false
set_option linter.unusedSimpArgs false
set_option maxRecDepth 100000
set_option maxHeartbeats 4000000
def encL (us : List Int) : List V := [.lst 1 (us.map encI)]
structure BT where
  mem : List Int
  at_ : Int
  used : List (List Int)
  left : Int
def BS (h : Heap) (B : Nat) (b : BT) (L : List It) : Prop := ∃ (mid : Nat) (vu : V), Sep h (.k B [[.own mid 1 0 49 49, .int .i64 b.at_, vu, .int .i64 b.left]] :: .k mid (b.mem.map encI) :: .v (.lst 1 (b.used.map encL)) vu :: L)
theorem BS.new {h : Heap} {B : Nat} {b : BT} {L : List It} (S : BS h B b L) (c : Blk) : BS (h ++ [c]) B b (.k h.length c :: L) := by
  obtain ⟨mid, vu, S⟩ := S
  exact ⟨mid, vu, (S.newK c).pk (A := [_, _, _, _]) [1, 2, 3, 0] rfl⟩
theorem BS.drop {h : Heap} {B : Nat} {b : BT} {x : It} {L : List It} (S : BS h B b (x :: L)) : BS h B b L := by
  obtain ⟨mid, vu, S⟩ := S
  exact ⟨mid, vu, S.drop 3⟩
def spentB (b : BT) (c : Int) : BT := if b.left < c then b else { b with left := b.left - c }
theorem spend_c {h : Heap} {B : Nat} {b : BT} {L : List It} (c : Int) (hc : 0 ≤ c ∧ c ≤ 1000) (hl : 0 ≤ b.left ∧ b.left ≤ 1000000) (S : BS h B b L) : C Tryz.prog 222 [.ptr B 1 0 0, .int .i64 c] h (fun r h' => r = .bool (decide (¬ b.left < c)) ∧ BS h' B (spentB b c) L) := by
  refine C.by mixed (cfn_ok Tryz.func222 ok222) rfl ?_
  refine Exists.elim S fun mid S => Exists.elim S fun vu S => ?_
  have K := S.blk 0 rfl
  have zu := S.vv 2 rfl
  have ck : ∀ d, (h.set B d)[B]? = some d := fun d => heap_set _ K
  simp (disch := omega) only [s222, go_sem, K, zu.1, zu.2.1, zu.2.2]
  refine condP_dec (fun h0 => ?_) (fun h0 => ?_)
  · simp (disch := omega) only [go_sem, K, zu.1, zu.2.1, zu.2.2]
    refine ⟨by simp [h0], mid, vu, ?_⟩
    rw [spentB, if_pos h0]; exact S
  · simp (disch := omega) only [go_sem, K, zu.1, zu.2.1, zu.2.2, storeH, storeB, splice]
    refine ⟨by simp [h0], mid, vu, ?_⟩
    rw [spentB, if_neg h0]
    exact S.setK _
theorem isSense_c (m : Micro) : CP Tryz.prog 223 [.agg (encMicro m)] (.bool (decide (m.at_ = -1) && decide (m.cost = 5))) [] := by
  refine CP.by rfl mixed (cfn_ok Tryz.func223 ok223) rfl ?_
  simp (disch := omega) only [s223, go_sem, encMicro]
  refine condP_dec (fun h => ?_) (fun h => ?_)
  · simp (disch := omega) only [go_sem, encMicro]
    simp [h]
  · simp (disch := omega) only [go_sem, encMicro]
    simp [h]
structure Wr where
  at_ : Int
  val : Int
def encW (w : Wr) : List V := [.int .i64 w.at_, .int .i64 w.val]
theorem flat_W (xs : List Wr) : flat (xs.map encW) = true := by simp [flat, encW, V.scalar]
theorem push_wr (xs : List Wr) (w : Wr) : (xs ++ [w]).map encW = xs.map encW ++ [encW w] := by simp
def recVars (m : List Int) : Nat → List Wr
  | 0 => []
  | n + 1 => ⟨gtI m (9 + 2 * n), gtI m (9 + 2 * n + 1)⟩ :: recVars m n
theorem recVars_len (m : List Int) : ∀ n, (recVars m n).length = n
  | 0 => rfl
  | n + 1 => by simp [recVars, recVars_len m n]
def recM (m : List Int) : List Wr := if (unpackM (gtI m 8)).2.1 < 1 then [] else recVars m (unpackM (gtI m 8)).2.1.toNat ++ [⟨8, packM (unpackM (gtI m 8)).1 0 (unpackM (gtI m 8)).2.2⟩]
theorem rec_f (ts : List Task) (m : List Int) (hok : memOkM ts m = true) : F Tryz.prog 221 [.lst 1 (m.map encI)] (.lst 2 ((recM m).map encW)) := by
  have f := memOk_facts hok
  have hm := f.2.1
  have hg8 : m[8]? = some (gtI m 8) := gtI_some (by omega)
  have ub := unpackM_bd (gtI m 8)
  have hlog := f.2.2.2.2.2
  have ht0 := f.2.2.2.1.1
  refine Exists.elim (show ∃ a b c, unpackM (gtI m 8) = (a, b, c) from ⟨_, _, _, rfl⟩) fun a q => Exists.elim q fun b q => Exists.elim q fun c hu => ?_
  have hrm : recM m = if b < 1 then [] else recVars m b.toNat ++ [⟨8, packM a 0 c⟩] := by unfold recM; rw [hu]
  rw [hu] at ub hlog ht0
  simp only at ub hlog ht0
  refine C.by mixed (cfn_ok Tryz.func221 ok221) rfl ?_
  simp (disch := omega) only [s221, go_sem, hm, hg8, List.getElem?_map, encI, gtI_get]
  refine CP.go (unpack_c _) rfl rfl ?_
  simp (disch := omega) only [go_sem, encU, hu]
  refine condP_dec (fun hb => ?_) (fun hb => ?_)
  · simp (disch := omega) only [go_sem, encU, hu]
    rw [hrm, if_pos hb]
    exact ((Sep.nil []).nils (sz := 2)).ret
  simp (disch := omega) only [go_sem, encU, hu]
  have S0 : Sep ([[]] : Heap) [.k 0 (([] : List Wr).map encW)] := (Sep.nil []).newK []
  refine loopP_intro (fun n s => ∃ (k : Nat) (ws : List Wr), (k : Int) ≤ b ∧ n = k ∧ ws ++ recVars m k = recVars m b.toNat ∧ s.e 0 = .lst 1 (m.map encI) ∧ s.e 3 = .int .i64 a ∧ s.e 5 = .int .i64 c ∧ s.e 6 = .own 0 2 0 ws.length ws.length ∧ s.e 7 = .int .i64 ((k : Int) - 1) ∧ Sep s.h [.k 0 (ws.map encW)]) b.toNat ⟨b.toNat, [], by omega, rfl, rfl, by simp (disch := omega) only [go_sem, encU, hu], by simp (disch := omega) only [go_sem, encU, hu], by simp (disch := omega) only [go_sem, encU, hu], by simp (disch := omega) only [go_sem, encU, hu] <;> rfl, by simp (disch := omega) only [go_sem, encU, hu] <;> exact congrArg (V.int .i64) (by omega), S0⟩ ?_
  intro n e hp P
  refine Exists.elim P fun k P => Exists.elim P fun ws P => ?_
  have hk := P.1
  have hn := P.2.1
  have hws := P.2.2.1
  have e0 := P.2.2.2.1
  have e3 := P.2.2.2.2.1
  have e5 := P.2.2.2.2.2.1
  have e6 := P.2.2.2.2.2.2.1
  have e7 := P.2.2.2.2.2.2.2.1
  have S1 := P.2.2.2.2.2.2.2.2
  clear P
  subst hn
  simp only at e0 e3 e5 e6 e7 S1
  have hwl : ws.length + n = b.toNat := by
    have := congrArg List.length hws
    simpa [recVars_len] using this
  simp (disch := omega) only [go_sem, e0, e3, e5, e6, e7]
  refine condP_dec (fun hlt => ?_) (fun hlt => ?_)
  · refine Exists.elim (show ∃ j : Nat, n = j + 1 from ⟨n - 1, by omega⟩) fun j hj => ?_
    subst hj
    have lo := hlog j (by omega)
    simp only [logOk, Bool.and_eq_true] at lo
    have i1 : (9 + 2 * (((j + 1 : Nat) : Int) - 1)).toNat = 9 + 2 * j := by omega
    have i2 : (9 + 2 * (((j + 1 : Nat) : Int) - 1) + 1).toNat = 9 + 2 * j + 1 := by omega
    have g1 := gtI_some (zs := m) (i := 9 + 2 * j) (by omega)
    have g2 := gtI_some (zs := m) (i := 9 + 2 * j + 1) (by omega)
    simp (disch := omega) only [go_sem, e0, e3, e5, e6, e7, encI, i1, i2, g1, g2, List.getElem?_map, gtI_get]
    refine CP.go (isVar_c _) rfl rfl ?_
    have hap := append1 (sz := 2) (bytes := 16) (n := ws.length) (c := encW ⟨gtI m (9 + 2 * j), gtI m (9 + 2 * j + 1)⟩) (S1.blk 0 rfl) (by simp) (by omega)
    have S2 := S1.push1 (encW ⟨gtI m (9 + 2 * j), gtI m (9 + 2 * j + 1)⟩)
    rw [← push_wr] at hap S2
    simp only [encW] at hap
    simp (disch := omega) only [go_sem, e0, e3, e5, e6, e7, encI, i1, i2, g1, g2, List.getElem?_map, gtI_get, lo.1, hap, splice]
    refine nextP_intro j (by omega) ⟨j, ws ++ [(⟨gtI m (9 + 2 * j), gtI m (9 + 2 * j + 1)⟩ : Wr)], by omega, rfl, ?_, by simp (disch := omega) only [go_sem, e0, e3, e5, e6, e7, encI, i1, i2, g1, g2, List.getElem?_map, gtI_get, lo.1, hap, splice], by simp (disch := omega) only [go_sem, e0, e3, e5, e6, e7, encI, i1, i2, g1, g2, List.getElem?_map, gtI_get, lo.1, hap, splice], by simp (disch := omega) only [go_sem, e0, e3, e5, e6, e7, encI, i1, i2, g1, g2, List.getElem?_map, gtI_get, lo.1, hap, splice], by simp (disch := omega) only [go_sem, e0, e3, e5, e6, e7, encI, i1, i2, g1, g2, List.getElem?_map, gtI_get, lo.1, hap, splice] <;> simp, by simp (disch := omega) only [go_sem, e0, e3, e5, e6, e7, encI, i1, i2, g1, g2, List.getElem?_map, gtI_get, lo.1, hap, splice] <;> exact congrArg (V.int .i64) (by omega), S2⟩
    rw [← hws]; simp [recVars]
  have hn0 : n = 0 := by omega
  subst hn0
  simp (disch := omega) only [go_sem, e0, e3, e5, e6, e7]
  refine CP.go (pack_c _ _ _) rfl rfl ?_
  have hap := append1 (sz := 2) (bytes := 16) (n := ws.length) (c := encW ⟨8, packM a 0 c⟩) (S1.blk 0 rfl) (by simp) (by omega)
  have S2 := S1.push1 (encW ⟨8, packM a 0 c⟩)
  rw [← push_wr] at hap S2
  simp only [encW] at hap
  simp (disch := omega) only [go_sem, e0, e3, e5, e6, e7, hap, splice]
  rw [hrm, if_neg hb, ← hws]
  have hl2 : ((ws ++ [⟨8, packM a 0 c⟩] : List Wr).map encW).length = ws.length + 1 := by simp
  have S3 := S2.ofFlat (sz := 2) hl2 (flat_W _)
  simpa [recVars, encW] using S3.ret
theorem Sep.ownF {h : Heap} {L : List It} (S : Sep h L) (n : Nat) {sz : Nat} {ys : Blk} {r : V} (hf : flat ys = true) (e : L[n]? = some (.v (.lst sz ys) r)) {k : Nat} (hk : k < ys.length) : ∃ q, r = .own q sz 0 ys.length ys.length ∧ h[q]? = some ys := by
  obtain ⟨i, _, o⟩ := S.nth n e
  rcases (Owns.flat_ hf).1 o with ⟨_, e, _⟩ | ⟨q, e1, e2, _⟩
  · rw [e] at hk; simp at hk
  · exact ⟨q, e1, e2⟩
def recoverM : List Wr → BT → Bool × BT
  | [], b => (true, b)
  | w :: ws, b => if b.left < 3 then (false, b) else recoverM ws { b with left := b.left - 3, mem := b.mem.set w.at_.toNat w.val }
theorem recVars_bd {m : List Int} {c : Nat} (h : ∀ j, j < c → logOk m j = true) : ∀ n, n ≤ c → ∀ w ∈ recVars m n, (0 ≤ w.at_ ∧ w.at_ ≤ 7) ∧ isValue w.val = true
  | 0, _, w, hw => absurd hw List.not_mem_nil
  | n + 1, hn, w, hw => by
    rcases List.mem_cons.1 hw with rfl | hw
    · have := h n (by omega)
      simp only [logOk, isVar, within, Bool.and_eq_true, decide_eq_true_eq] at this
      exact ⟨this.1, this.2⟩
    · exact recVars_bd h n (by omega) w hw
theorem recM_bd {ts : List Task} {m : List Int} (hok : memOkM ts m = true) : (recM m).length ≤ 9 ∧ ∀ w ∈ recM m, 0 ≤ w.at_ ∧ w.at_ ≤ 8 := by
  have f := memOk_facts hok
  have ub := unpackM_bd (gtI m 8)
  unfold recM
  split
  · simp
  · refine ⟨by simp [recVars_len]; omega, fun w hw => ?_⟩
    rcases List.mem_append.1 hw with q | q
    · have := (recVars_bd f.2.2.2.2.2 _ (Nat.le_refl _) w q).1
      omega
    · rw [List.mem_singleton.1 q]; simp
theorem recover_c {h : Heap} {B : Nat} {b : BT} {L : List It} (ts : List Task) (hok : memOkM ts b.mem = true) (hl : 0 ≤ b.left ∧ b.left ≤ 1000000) (S : BS h B b L) : C Tryz.prog 180 [.ptr B 1 0 0] h (fun r h' => r = .bool (recoverM (recM b.mem) b).1 ∧ BS h' B (recoverM (recM b.mem) b).2 L) := by
  have hm := (memOk_facts hok).2.1
  have rb := recM_bd hok
  refine C.by mixed (cfn_ok Tryz.func180 ok180) rfl ?_
  refine Exists.elim S fun mid S => Exists.elim S fun vu S => ?_
  have K := S.blk 0 rfl
  simp (disch := omega) only [s180, go_sem, K]
  refine S.goLst (rec_f ts b.mem hok) (.cons (Snap.flatN (S.blk 1 rfl) (by simpa using hm) (flat_encI _)) (.nil _)) fun r h1 x1 S1 ro rn rc => ?_
  have lenr := fun G => (S1.lst 0 rfl).elim fun i o => o.len_ G
  simp only [List.length_map] at lenr
  have B1 : BS h1 B b (.v (.lst 2 ((recM b.mem).map encW)) r :: L) := ⟨mid, vu, S1.pk (A := [_, _, _, _]) [1, 2, 3, 0] rfl⟩
  simp (disch := omega) only [go_sem, ro, rn, rc, lenr]
  refine loopP_intro (fun n s => ∃ (k : Nat) (b1 : BT), k ≤ (recM b.mem).length ∧ n = (recM b.mem).length - k ∧ recoverM ((recM b.mem).drop k) b1 = recoverM (recM b.mem) b ∧ b1.mem.length = 49 ∧ (0 ≤ b1.left ∧ b1.left ≤ 1000000) ∧ s.e 0 = .ptr B 1 0 0 ∧ s.e 9 = r ∧ s.e 10 = .int .i64 (recM b.mem).length ∧ s.e 11 = .int .i64 k ∧ BS s.h B b1 (.v (.lst 2 ((recM b.mem).map encW)) r :: L)) (recM b.mem).length ⟨0, b, by omega, by omega, rfl, hm, hl, by simp (disch := omega) only [go_sem, ro, rn, rc, lenr], by simp (disch := omega) only [go_sem, ro, rn, rc, lenr], by simp (disch := omega) only [go_sem, ro, rn, rc, lenr], by simp (disch := omega) only [go_sem, ro, rn, rc, lenr] <;> rfl, B1⟩ ?_
  intro n e hp P
  refine Exists.elim P fun k P => Exists.elim P fun b1 P => ?_
  have hk := P.1
  have hn := P.2.1
  have hrec := P.2.2.1
  have hm1 := P.2.2.2.1
  have hl1 := P.2.2.2.2.1
  have e0 := P.2.2.2.2.2.1
  have e9 := P.2.2.2.2.2.2.1
  have e10 := P.2.2.2.2.2.2.2.1
  have e11 := P.2.2.2.2.2.2.2.2.1
  have S2 := P.2.2.2.2.2.2.2.2.2
  clear P
  subst hn
  simp only at e0 e9 e10 e11 S2
  simp (disch := omega) only [go_sem, e0, e9, e10, e11]
  refine condP_dec (fun hlt => ?_) (fun hlt => ?_)
  case' refine_2 =>
    have hke : k = (recM b.mem).length := by omega
    rw [hke, List.drop_length] at hrec
    simp (disch := omega) only [go_sem, e0, e9, e10, e11]
    rw [← hrec]
    exact ⟨rfl, S2.drop⟩
  have hlt' : k < (recM b.mem).length := by omega
  refine Exists.elim (show ∃ w, (recM b.mem)[k]? = some w from ⟨_, List.getElem?_eq_getElem hlt'⟩) fun w hw => ?_
  have hwb := rb.2 w (List.mem_of_getElem? hw)
  have hdk : (recM b.mem).drop k = w :: (recM b.mem).drop (k + 1) := by
    rw [List.drop_eq_getElem_cons hlt']
    have : (recM b.mem)[k] = w := by rw [List.getElem?_eq_getElem hlt'] at hw; exact Option.some.inj hw
    rw [this]
  rw [hdk] at hrec
  refine Exists.elim S2 fun mid2 q => Exists.elim q fun vu2 S3 => ?_
  refine Exists.elim (S3.ownF 3 (flat_W _) rfl (k := k) (by simpa using hlt')) fun wid q => ?_
  have hr := q.1
  have hwk := q.2
  clear q
  rw [List.length_map] at hr
  have S4 := S2.new [encW w]
  have B4 := Exists.elim S4 fun _ q => Exists.elim q fun _ S => S.blk 3 rfl
  simp only [encW] at B4 S4
  simp (disch := omega) only [go_sem, e0, e9, e10, e11, hr, hwk, hw, List.getElem?_map, encW, B4]
  refine C.go (spend_c 3 (by omega) hl1 S4) ?_
  rintro r5 h5 ⟨rfl, S5⟩
  simp (disch := omega) only [go_sem, e0, e9, e10, e11, hr]
  have hun : recoverM (w :: (recM b.mem).drop (k + 1)) b1 = if b1.left < 3 then (false, b1) else recoverM ((recM b.mem).drop (k + 1)) { b1 with left := b1.left - 3, mem := b1.mem.set w.at_.toNat w.val } := rfl
  rw [hun] at hrec
  clear hun
  refine condP_dec (fun h3 => ?_) (fun h3 => ?_)
  · rw [if_neg h3] at hrec
    rw [spentB, if_neg h3] at S5
    refine Exists.elim S5 fun mid5 q => Exists.elim q fun vu5 S6 => ?_
    have K6 := S6.blk 0 rfl
    have W6 := S6.blk 3 rfl
    have z6 := S6.vv 2 rfl
    have st := store_i (z := w.val) (i := w.at_.toNat) (S6.blk 1 rfl) hm1 (by omega)
    have S7 := ((S6.pull 1).setK ((b1.mem.set w.at_.toNat w.val).map encI)).pk (A := [_, _, _, _]) [1, 0, 2] rfl
    simp (disch := omega) only [go_sem, e0, e9, e10, e11, K6, W6, z6.1, z6.2.1, z6.2.2, Nat.zero_add, st]
    exact nextP_intro ((recM b.mem).length - (k + 1)) (by omega) ⟨k + 1, { b1 with left := b1.left - 3, mem := b1.mem.set w.at_.toNat w.val }, by omega, rfl, hrec, by simpa using hm1, ⟨by show 0 ≤ b1.left - 3; omega, by show b1.left - 3 ≤ _; omega⟩, by simp (disch := omega) only [go_sem, e0, e9, e10, e11, K6, W6, z6.1, z6.2.1, z6.2.2, Nat.zero_add, st], by simp (disch := omega) only [go_sem, e0, e9, e10, e11, K6, W6, z6.1, z6.2.1, z6.2.2, Nat.zero_add, st] <;> exact hr.symm, by simp (disch := omega) only [go_sem, e0, e9, e10, e11, K6, W6, z6.1, z6.2.1, z6.2.2, Nat.zero_add, st], by simp (disch := omega) only [go_sem, e0, e9, e10, e11, K6, W6, z6.1, z6.2.1, z6.2.2, Nat.zero_add, st] <;> rfl, ⟨mid5, vu5, S7⟩⟩
  · have h3' : b1.left < 3 := by omega
    rw [if_pos h3'] at hrec
    rw [spentB, if_pos h3'] at S5
    simp (disch := omega) only [go_sem, e0, e9, e10, e11, hr]
    rw [← hrec]
    exact ⟨rfl, S5.drop.drop⟩
def stepB (m : Micro) (b : BT) : BT := { b with left := b.left - m.cost, at_ := if m.at_ = -1 ∧ m.cost = 5 then b.at_ + 1 else b.at_, mem := if m.at_ = -1 then b.mem else b.mem.set m.at_.toNat m.val }
def taskM : List Micro → BT → Bool × BT
  | [], b => (true, b)
  | m :: ms, b => if b.left < m.cost then (false, b) else taskM ms (stepB m b)
def StepIn (m : Micro) : Prop := (1 ≤ m.cost ∧ m.cost ≤ 5) ∧ (m.at_ = -1 ∨ (0 ≤ m.at_ ∧ m.at_ ≤ 48))
theorem push_L (xs : List (List Int)) (x : List Int) : (xs ++ [x]).map encL = xs.map encL ++ [encL x] := by simp
theorem Sep.asRow {h : Heap} {sz : Nat} {ys : Blk} {v : V} {L : List It} (S : Sep h (.v (.lst sz ys) v :: L)) : Sep h (.l [.lst sz ys] [v] :: L) := Sep.cons2 (fun es e => by cases e) ((Sep.l0 S).sw)
theorem task_c {h : Heap} {B : Nat} {b : BT} {L : List It} (ts : List Task) (rd : List Int) (task c tail : Int) (hp : programOk ts = true) (hm : MemT ts.length b.mem task c tail) (hr : rd.length ≤ 9223372036854775807) (ha : 0 ≤ b.at_ ∧ b.at_ + b.left ≤ 1000000) (hl : 0 ≤ b.left ∧ b.left ≤ 1000000) (hu : b.used.length ≤ 1000000) (hst : ∀ x ∈ traceS ts b.mem rd b.at_ task tail, StepIn x) (hsl : (traceS ts b.mem rd b.at_ task tail).length ≤ 9223372036854775807) (S : BS h B b L) :
    C Tryz.prog 181 [.ptr B 1 0 0, .agg [.lst 4 (ts.map encTask)], .lst 1 (rd.map encI)] h (fun r h' => r = .bool (taskM (traceS ts b.mem rd b.at_ task tail) b).1 ∧ BS h' B (if (taskM (traceS ts b.mem rd b.at_ task tail) b).1 = true then { (taskM (traceS ts b.mem rd b.at_ task tail) b).2 with used := b.used ++ [traceU ts b.mem rd b.at_ task tail] } else (taskM (traceS ts b.mem rd b.at_ task tail) b).2) L) := by
  have hm49 := hm.len
  refine C.by mixed (cfn_ok Tryz.func181 ok181) rfl ?_
  have S0 := S.new [[V.lst 4 (ts.map encTask)]]
  refine Exists.elim S0 fun mid q => Exists.elim q fun vu S1 => ?_
  have K1 := S1.blk 0 rfl
  have P1 := S1.blk 3 rfl
  have z1 := S1.vv 2 rfl
  simp (disch := omega) only [s181, go_sem, K1, P1, z1.1, z1.2.1, z1.2.2, refs_task]
  refine S1.go (traceOf_f ts b.mem rd b.at_ task c tail hp hm hr (by omega)) (.cons (.same _ (refs_prog 0 ts)) (.cons (Snap.flatN (S1.blk 1 rfl) (by simpa using hm49) (flat_encI _)) (.cons (.same _ (by simp [V.refs, refsLL_map encI (fun _ => rfl) rd])) (.cons (.int _ _) (.nil _))))) fun r2 h2 x2 S2 => ?_
  refine Exists.elim S2.open2 fun va q => Exists.elim q fun vb q => ?_
  have hr2 := q.1
  have S3 := q.2
  clear q S2
  subst hr2
  have za := S3.vv 0 rfl
  have zb := S3.vv 1 rfl
  have K3 := S3.blk 2 rfl
  have P3 := S3.blk 5 rfl
  have z3 := S3.vv 4 rfl
  simp (disch := omega) only [go_sem, K1, P1, z1.1, z1.2.1, z1.2.2, refs_task, za.1, za.2.1, za.2.2, zb.1, zb.2.1, zb.2.2, K3, P3, z3.1, z3.2.1, z3.2.2]
  have lena := fun G => (S3.lst 0 rfl).elim fun i o => o.len_ G
  simp only [List.length_map] at lena
  refine Exists.elim (show ∃ ss, ss = traceS ts b.mem rd b.at_ task tail from ⟨_, rfl⟩) fun ss hss => ?_
  refine Exists.elim (show ∃ us, us = traceU ts b.mem rd b.at_ task tail from ⟨_, rfl⟩) fun us hus => ?_
  rw [← hss] at S3 hst hsl
  rw [← hus] at S3
  have S4 := S3.newK [[va, vb]]
  have B4 : BS _ B b (.v (.lst 3 (ss.map encMicro)) va :: .v (.lst 1 (us.map encI)) vb :: .k h2.length [[va, vb]] :: .k h.length [[.lst 4 (ts.map encTask)]] :: L) := ⟨mid, vu, S4.pk (A := [_, _, _, _, _, _, _]) [3, 4, 5, 1, 2, 0, 6] rfl⟩
  rw [← hss] at lena
  simp (disch := omega) only [go_sem, lena]
  refine loopP_intro (fun n s => ∃ (k : Nat) (b1 : BT), k ≤ ss.length ∧ n = ss.length - k ∧ taskM (ss.drop k) b1 = taskM ss b ∧ b1.mem.length = 49 ∧ (0 ≤ b1.left ∧ b1.left ≤ 1000000) ∧ (0 ≤ b1.at_ ∧ b1.at_ + b1.left ≤ 1000000) ∧ b1.used = b.used ∧ s.e 0 = .ptr B 1 0 0 ∧ s.e 7 = .ptr h2.length 1 0 0 ∧ s.e 22 = va ∧ s.e 23 = .int .i64 ss.length ∧ s.e 24 = .int .i64 k ∧ BS s.h B b1 (.v (.lst 3 (ss.map encMicro)) va :: .v (.lst 1 (us.map encI)) vb :: .k h2.length [[va, vb]] :: .k h.length [[.lst 4 (ts.map encTask)]] :: L)) ss.length ⟨0, b, by omega, by omega, rfl, hm49, hl, ha, rfl, by simp (disch := omega) only [go_sem, lena], by simp (disch := omega) only [go_sem, lena], by simp (disch := omega) only [go_sem, lena], by simp (disch := omega) only [go_sem, lena], by simp (disch := omega) only [go_sem, lena] <;> rfl, B4⟩ ?_
  intro n e hp' P
  refine Exists.elim P fun k P => Exists.elim P fun b1 P => ?_
  have hk := P.1
  have hn := P.2.1
  have hrec := P.2.2.1
  have hm1 := P.2.2.2.1
  have hl1 := P.2.2.2.2.1
  have ha1 := P.2.2.2.2.2.1
  have hu1 := P.2.2.2.2.2.2.1
  have e0 := P.2.2.2.2.2.2.2.1
  have e7 := P.2.2.2.2.2.2.2.2.1
  have e22 := P.2.2.2.2.2.2.2.2.2.1
  have e23 := P.2.2.2.2.2.2.2.2.2.2.1
  have e24 := P.2.2.2.2.2.2.2.2.2.2.2.1
  have S5 := P.2.2.2.2.2.2.2.2.2.2.2.2
  clear P
  subst hn
  simp only at e0 e7 e22 e23 e24 S5
  simp (disch := omega) only [go_sem, e0, e7, e22, e23, e24]
  refine condP_dec (fun hlt => ?_) (fun hlt => ?_)
  case' refine_2 =>
    have hke : k = ss.length := by omega
    rw [hke, List.drop_length] at hrec
    have hr1 : (taskM ss b).1 = true := by rw [← hrec]; rfl
    have hr2 : (taskM ss b).2 = b1 := by rw [← hrec]; rfl
    refine Exists.elim S5 fun mid5 q => Exists.elim q fun vu5 S6 => ?_
    have K6 := S6.blk 0 rfl
    have T6 := S6.blk 5 rfl
    have z6 := S6.vv 2 rfl
    rw [hu1] at S6
    have S7 := (((S6.newK [[vb]]).pk (A := [_, _, _, _, _, _, _, _]) [5, 3, 1, 2, 4, 6, 7, 0] rfl)).asRow
    have N7 := S7.blk 7 rfl
    have S8 := S7.pk (A := [_, _, _, _, _, _, _, _]) [1, 0, 2, 3, 4, 5, 6] rfl
    have hpu := Sep.push (bytes := 24) (L := .k B [[.own mid5 1 0 49 49, .int .i64 b1.at_, vu5, .int .i64 b1.left]] :: .k mid5 (b1.mem.map encI) :: .v (.lst 3 (ss.map encMicro)) va :: .k h2.length [[va, vb]] :: .k h.length [[.lst 4 (ts.map encTask)]] :: L) S8 N7 (by simp; omega)
    refine Exists.elim hpu fun v' q => Exists.elim q fun h9 q => ?_
    have hap := q.1
    have S9 := q.2
    clear q hpu
    rw [show [[V.lst 1 (us.map encI)]] = [encL us] from rfl, ← push_L] at S9
    have K9 := S9.blk 1 rfl
    have z9 := S9.vv 0 rfl
    have zb6 := S6.vv 4 rfl
    have K6' := fun t => heap_app (h' := t) K6
    have T6' := fun t => heap_app (h' := t) T6
    simp (disch := omega) only [go_sem, e0, e7, e22, e23, e24, K6, T6, K6', T6', z6.1, z6.2.1, z6.2.2, zb6.1, zb6.2.1, zb6.2.2, hap, K9, z9.1, z9.2.1, z9.2.2, storeH, storeB, splice]
    rw [← hss, ← hus, hr1, hr2, if_pos rfl]
    exact ⟨rfl, mid5, v', ((S9.pull 1).setK _).pk (A := [_, _, _, _, _, _]) [0, 2, 1] rfl⟩
  have hlt' : k < ss.length := by omega
  refine Exists.elim (show ∃ m, ss[k]? = some m from ⟨_, List.getElem?_eq_getElem hlt'⟩) fun m hmk => ?_
  have hmb := hst m (List.mem_of_getElem? hmk)
  unfold StepIn at hmb
  have hdk : ss.drop k = m :: ss.drop (k + 1) := by
    rw [List.drop_eq_getElem_cons hlt']
    have : ss[k] = m := by rw [List.getElem?_eq_getElem hlt'] at hmk; exact Option.some.inj hmk
    rw [this]
  rw [hdk] at hrec
  have hun : taskM (m :: ss.drop (k + 1)) b1 = if b1.left < m.cost then (false, b1) else taskM (ss.drop (k + 1)) (stepB m b1) := rfl
  rw [hun] at hrec
  clear hun
  refine Exists.elim S5 fun mid2 q => Exists.elim q fun vu2 S6 => ?_
  refine Exists.elim (S6.ownF 3 (flat_Micro _) rfl (k := k) (by simpa using hlt')) fun wid q => ?_
  have hr := q.1
  have hwk := q.2
  clear q
  rw [List.length_map] at hr
  have S7 := S5.new [encMicro m]
  have B7 := Exists.elim S7 fun _ q => Exists.elim q fun _ S => S.blk 3 rfl
  simp only [encMicro] at B7 S7
  simp (disch := omega) only [go_sem, e0, e7, e22, e23, e24, hr, hwk, hmk, List.getElem?_map, encMicro, B7]
  refine C.go (spend_c m.cost (by omega) hl1 S7) ?_
  rintro r8 h8 ⟨rfl, S8⟩
  simp (disch := omega) only [go_sem, e0, e7, e22, e23, e24, hr]
  refine condP_dec (fun h3 => ?_) (fun h3 => ?_)
  case' refine_2 =>
    have h3' : b1.left < m.cost := by omega
    rw [if_pos h3'] at hrec
    rw [spentB, if_pos h3'] at S8
    have hr1 : (taskM ss b).1 = false := by rw [← hrec]
    have hr2 : (taskM ss b).2 = b1 := by rw [← hrec]
    simp (disch := omega) only [go_sem, e0, e7, e22, e23, e24, hr]
    rw [← hss, ← hus, hr1, hr2, if_neg (by simp)]
    exact ⟨rfl, S8.drop.drop.drop.drop.drop⟩
  rw [if_neg h3] at hrec
  rw [spentB, if_neg h3] at S8
  refine Exists.elim S8 fun mid8 q => Exists.elim q fun vu8 S9 => ?_
  have K9 := S9.blk 0 rfl
  have W9 := S9.blk 3 rfl
  have z9 := S9.vv 2 rfl
  simp (disch := omega) only [go_sem, e0, e7, e22, e23, e24, hr, W9]
  refine CP.go (isSense_c m) rfl rfl ?_
  have fin : ∀ (e' : Nat → V) (hh : Heap), e' 0 = .ptr B 1 0 0 → e' 7 = .ptr h2.length 1 0 0 → e' 22 = va → e' 23 = .int .i64 ss.length → e' 24 = .int .i64 ((k : Int) + 1) → BS hh B (stepB m b1) (.k hp'.length [[.int .i64 m.cost, .int .i64 m.at_, .int .i64 m.val]] :: .v (.lst 3 (ss.map encMicro)) va :: .v (.lst 1 (us.map encI)) vb :: .k h2.length [[va, vb]] :: .k h.length [[.lst 4 (ts.map encTask)]] :: L) → @nextP (ss.length - k) ⟨e', hh⟩ ⟨fun n s => ∃ (k : Nat) (b1 : BT), k ≤ ss.length ∧ n = ss.length - k ∧ taskM (ss.drop k) b1 = taskM ss b ∧ b1.mem.length = 49 ∧ (0 ≤ b1.left ∧ b1.left ≤ 1000000) ∧ (0 ≤ b1.at_ ∧ b1.at_ + b1.left ≤ 1000000) ∧ b1.used = b.used ∧ s.e 0 = .ptr B 1 0 0 ∧ s.e 7 = .ptr h2.length 1 0 0 ∧ s.e 22 = va ∧ s.e 23 = .int .i64 ss.length ∧ s.e 24 = .int .i64 k ∧ BS s.h B b1 (.v (.lst 3 (ss.map encMicro)) va :: .v (.lst 1 (us.map encI)) vb :: .k h2.length [[va, vb]] :: .k h.length [[.lst 4 (ts.map encTask)]] :: L)⟩ := fun e' hh a1 a2 a3 a4 a5 a6 => by
    refine nextP_intro (ss.length - (k + 1)) (by omega) ⟨k + 1, stepB m b1, by omega, rfl, hrec, ?_, ⟨by show 0 ≤ b1.left - m.cost; omega, by show b1.left - m.cost ≤ _; omega⟩, ?_, hu1, a1, a2, a3, a4, a5, a6.drop⟩
    · show (if m.at_ = -1 then b1.mem else b1.mem.set m.at_.toNat m.val).length = 49
      split
      · exact hm1
      · simpa using hm1
    · show 0 ≤ (if m.at_ = -1 ∧ m.cost = 5 then b1.at_ + 1 else b1.at_) ∧ (if m.at_ = -1 ∧ m.cost = 5 then b1.at_ + 1 else b1.at_) + (b1.left - m.cost) ≤ 1000000
      split <;> omega
  simp (disch := omega) only [go_sem, e0, e7, e22, e23, e24, hr, W9]
  refine condP_split (fun hs => ?_) (fun hs => ?_)
  · simp only [Bool.and_eq_true, decide_eq_true_eq] at hs
    have hb : stepB m b1 = { b1 with left := b1.left - m.cost, at_ := b1.at_ + 1 } := by
      unfold stepB; rw [if_pos hs, if_pos hs.1]
    have S10 := S9.setK [[.own mid8 1 0 49 49, .int .i64 (b1.at_ + 1), vu8, .int .i64 (b1.left - m.cost)]]
    have W10 := S10.blk 3 rfl
    have hat := hs.1
    simp (disch := omega) only [go_sem, e0, e7, e22, e23, e24, hr, W9, K9, z9.1, z9.2.1, z9.2.2, storeH, storeB, splice, W10, hat]
    exact fin _ _ (by simp (disch := omega) only [go_sem, e0, e7, e22, e23, e24, hr, W9, K9, z9.1, z9.2.1, z9.2.2, storeH, storeB, splice, W10, hat]) (by simp (disch := omega) only [go_sem, e0, e7, e22, e23, e24, hr, W9, K9, z9.1, z9.2.1, z9.2.2, storeH, storeB, splice, W10, hat]) (by simp (disch := omega) only [go_sem, e0, e7, e22, e23, e24, hr, W9, K9, z9.1, z9.2.1, z9.2.2, storeH, storeB, splice, W10, hat] <;> exact hr.symm) (by simp (disch := omega) only [go_sem, e0, e7, e22, e23, e24, hr, W9, K9, z9.1, z9.2.1, z9.2.2, storeH, storeB, splice, W10, hat]) (by simp (disch := omega) only [go_sem, e0, e7, e22, e23, e24, hr, W9, K9, z9.1, z9.2.1, z9.2.2, storeH, storeB, splice, W10, hat] <;> rfl) (by rw [hb]; exact ⟨mid8, vu8, S10⟩)
  · have hs' : ¬ (m.at_ = -1 ∧ m.cost = 5) := fun q => by simp [q.1, q.2] at hs
    simp (disch := omega) only [go_sem, e0, e7, e22, e23, e24, hr, W9, K9]
    refine condP_dec (fun hat => ?_) (fun hat => ?_)
    · have hb : stepB m b1 = { b1 with left := b1.left - m.cost } := by
        unfold stepB; rw [if_neg hs', if_pos hat]
      simp (disch := omega) only [go_sem, e0, e7, e22, e23, e24, hr]
      exact fin _ _ (by simp (disch := omega) only [go_sem, e0, e7, e22, e23, e24, hr]) (by simp (disch := omega) only [go_sem, e0, e7, e22, e23, e24, hr]) (by simp (disch := omega) only [go_sem, e0, e7, e22, e23, e24, hr] <;> exact hr.symm) (by simp (disch := omega) only [go_sem, e0, e7, e22, e23, e24, hr]) (by simp (disch := omega) only [go_sem, e0, e7, e22, e23, e24, hr] <;> rfl) (by rw [hb]; exact ⟨mid8, vu8, S9⟩)
    · have hb : stepB m b1 = { b1 with left := b1.left - m.cost, mem := b1.mem.set m.at_.toNat m.val } := by
        unfold stepB; rw [if_neg hs', if_neg hat]
      have st := store_i (z := m.val) (i := m.at_.toNat) (S9.blk 1 rfl) hm1 (by omega)
      simp (disch := omega) only [go_sem, e0, e7, e22, e23, e24, hr, W9, K9, z9.1, z9.2.1, z9.2.2, Nat.zero_add, st]
      exact fin _ _ (by simp (disch := omega) only [go_sem, e0, e7, e22, e23, e24, hr, W9, K9, z9.1, z9.2.1, z9.2.2, Nat.zero_add, st]) (by simp (disch := omega) only [go_sem, e0, e7, e22, e23, e24, hr, W9, K9, z9.1, z9.2.1, z9.2.2, Nat.zero_add, st]) (by simp (disch := omega) only [go_sem, e0, e7, e22, e23, e24, hr, W9, K9, z9.1, z9.2.1, z9.2.2, Nat.zero_add, st] <;> exact hr.symm) (by simp (disch := omega) only [go_sem, e0, e7, e22, e23, e24, hr, W9, K9, z9.1, z9.2.1, z9.2.2, Nat.zero_add, st]) (by simp (disch := omega) only [go_sem, e0, e7, e22, e23, e24, hr, W9, K9, z9.1, z9.2.1, z9.2.2, Nat.zero_add, st] <;> rfl) (by rw [hb]; exact ⟨mid8, vu8, ((S9.pull 1).setK ((b1.mem.set m.at_.toNat m.val).map encI)).pk (A := [_, _, _, _]) [1, 0, 2, 3] rfl⟩)
end Go.Av

