/- The pure statement of the law FnExactSaveWrites: what the printed function comes to is true. No condition beyond what every argument of these types meets. -/
import Derived.Test.YtboidohbhoehgaaQFnExactSaveWrites3
import Derived.OpenShut
namespace Go.Proofs.Ytboidohbhoehgaa.Pure
open Go.RowKit Go.Proofs.Ytboidohbhoehgaa.QFnExactSaveWrites Go.Proofs.YtboidohbhoehgaaW.PrintWords Go.Proofs.YtboidohbhoehgaaW.PrintLast Go.Proofs.YtboidohbhoehgaaW.PrintMore
set_option linter.unusedVariables false
set_option linter.unusedSimpArgs false
--BLOCKS
theorem wf_b {z : Int} (h : (Lit.int .i64 z).wf = true) : -9223372036854775808 ≤ z ∧ z ≤ 9223372036854775807 := bounds_i64 h
theorem wrap_id {z : Int} (h1 : -9223372036854775808 ≤ z) (h2 : z ≤ 9223372036854775807) : wrap64 z = z := by unfold wrap64; omega
theorem mn_min (a b : Int) : mn a b = min a b := by unfold mn; omega
theorem mx_max (a b : Int) : mx a b = max a b := by unfold mx; omega
theorem rd_mid (pre : List Int) (a : Int) (suf : List Int) : rd (pre ++ a :: suf) (pre.length : Int) = a := by simp [rd]
theorem len_mid {α : Type} (pre : List α) (a : α) (suf : List α) : (pre ++ a :: suf).length = (pre ++ [a]).length + suf.length := by simp; omega
theorem app_mid {α : Type} (pre : List α) (a : α) (suf : List α) : pre ++ a :: suf = (pre ++ [a]) ++ suf := by simp
theorem wrap_len {α : Type} {pre : List α} {a : α} (h : pre.length < 9223372036854775807) : wrap64 ((pre.length : Int) + 1) = ((pre ++ [a]).length : Int) := by
  rw [wrap_id (by omega) (by omega)]; simp
theorem pred {d k : Nat} (h : d < k) : ∃ j, k = j + 1 := ⟨k - 1, by omega⟩
theorem toInt_loop : ∀ (suf pre rep : List Int) (k : Nat), suf.length < k → rep.length = suf.length → (pre ++ suf).length < 9223372036854775807 → laws_toIntS.l0 k (pre ++ suf) (pre ++ rep) (pre.length : Int) = some (pre ++ suf)
  | [], pre, rep, k, hk, hr, hb => by
    obtain ⟨k, rfl⟩ := pred hk
    obtain rfl : rep = [] := List.length_eq_zero_iff.1 hr
    simp only [laws_toIntS.l0]
    rw [if_neg (by simp)]
  | a :: suf, pre, r :: rep, k, hk, hr, hb => by
    obtain ⟨k, rfl⟩ := pred hk
    have hl : (pre ++ a :: suf).length = pre.length + suf.length + 1 := by simp; omega
    have hl2 : (pre ++ r :: rep).length = pre.length + rep.length + 1 := by simp; omega
    have ih := toInt_loop suf (pre ++ [a]) rep k (by simpa using hk) (by simpa using hr) (by simpa using hb)
    simp only [laws_toIntS.l0]
    rw [if_pos (by omega), if_pos (by omega), if_pos (by omega), rd_mid, wrap_len (a := a) (by omega), Int.toNat_natCast]
    have e : (pre ++ r :: rep).set pre.length a = (pre ++ [a]) ++ rep := by simp
    rw [e]
    simpa using ih
  | _ :: _, _, [], _, _, hr, _ => by simp at hr
theorem toInt_eq (l : List Int) (hl : l.length ≤ 1048576) {k : Nat} (hk : l.length < k) : laws_toIntS.f k l = some l := by
  unfold laws_toIntS.f
  rw [if_pos (by omega), if_pos (by omega), Int.toNat_natCast]
  have := toInt_loop l [] (List.replicate l.length 0) k hk (by simp) (by simp; omega)
  simpa using this
theorem eqInt_loop : ∀ (s1 s2 pre : List Int) (k : Nat), s1.length < k → s2.length = s1.length → (pre ++ s1).length < 9223372036854775807 → laws_eqIntS.l0 k (pre ++ s1) (pre ++ s2) (pre.length : Int) = some (decide (s1 = s2))
  | [], s2, pre, k, hk, hr, hb => by
    obtain ⟨k, rfl⟩ := pred hk
    obtain rfl : s2 = [] := List.length_eq_zero_iff.1 hr
    simp only [laws_eqIntS.l0]
    rw [if_neg (by simp)]; simp
  | a :: s1, b :: s2, pre, k, hk, hr, hb => by
    obtain ⟨k, rfl⟩ := pred hk
    have hl : (pre ++ a :: s1).length = pre.length + s1.length + 1 := by simp; omega
    have hl2 : (pre ++ b :: s2).length = pre.length + s2.length + 1 := by simp; omega
    simp only [laws_eqIntS.l0]
    rw [if_pos (by omega), if_pos (by omega), if_pos (by omega), rd_mid, rd_mid]
    by_cases hab : a = b
    · subst hab
      have ih := eqInt_loop s1 s2 (pre ++ [a]) k (by simpa using hk) (by simpa using hr) (by simpa using hb)
      rw [if_pos rfl, wrap_len (a := a) (by omega), app_mid, app_mid pre a s2, ih]
      simp
    · rw [if_neg hab]; simp [hab]
  | _ :: _, [], _, _, _, hr, _ => by simp at hr
theorem eqInt_eq (l m : List Int) (hl : l.length < 9223372036854775807) {k : Nat} (hk : l.length < k) : laws_eqIntS.f k l m = some (decide (l = m)) := by
  unfold laws_eqIntS.f
  by_cases h : l.length = m.length
  · rw [if_pos (by omega)]
    have := eqInt_loop l m [] k hk h.symm (by simpa using hl)
    simpa using this
  · rw [if_neg (by omega), decide_eq_false (fun e => h (by rw [e]))]
theorem tmod_fix (a : Int) : Int.tmod a 100003 = a % 100003 ∨ Int.tmod a 100003 = a % 100003 - 100003 := by
  have h := Int.tmod_eq_emod (a := a) (b := 100003)
  rw [h]; split <;> omega
theorem tmod_bd (a : Int) : -100003 ≤ Int.tmod a 100003 ∧ Int.tmod a 100003 < 100003 := by
  have := tmod_fix a
  omega
theorem imod_eq (a : Int) : impl_modulo.f a 100003 = some (a % 100003) := by
  unfold impl_modulo.f
  have h := tmod_bd a
  have h2 := tmod_fix a
  rw [if_neg (by omega), wrap_id (by omega) (by omega), Int.tmod_eq_emod_of_nonneg (by omega)]
  congr 1
  omega
/-- One word more of a sum. -/
def sumStep (r w : Int) : Int := (31 * r + w % 100003) % 100003
def sumM (s : Int) (l : List Int) : Int := if l.length = 6 then l.foldl sumStep (s % 100003) else -1
theorem sumStep_bd (r w : Int) : 0 ≤ sumStep r w ∧ sumStep r w < 100003 := by unfold sumStep; omega
theorem sum_tmod {r w : Int} (h : 0 ≤ r ∧ r < 100003) : Int.tmod (wrap64 ((wrap64 (31 * r)) + w % 100003)) 100003 = sumStep r w := by
  rw [wrap_id (z := 31 * r) (by omega) (by omega), wrap_id (by omega) (by omega), Int.tmod_eq_emod_of_nonneg (by omega)]; rfl
theorem iSum_loop : ∀ (suf pre : List Int) (k : Nat) (r : Int), suf.length < k → (pre ++ suf).length < 9223372036854775807 → 0 ≤ r ∧ r < 100003 → impl_SumOf.l0 k r (pre ++ suf) ((pre ++ suf).length : Int) (pre.length : Int) = some (suf.foldl sumStep r)
  | [], pre, k, r, hk, hb, hr => by
    obtain ⟨k, rfl⟩ := pred hk
    simp only [impl_SumOf.l0]
    rw [if_neg (by simp)]; rfl
  | a :: suf, pre, k, r, hk, hb, hr => by
    obtain ⟨k, rfl⟩ := pred hk
    have hl : (pre ++ a :: suf).length = pre.length + suf.length + 1 := by simp; omega
    have ih := iSum_loop suf (pre ++ [a]) k (sumStep r a) (by simpa using hk) (by simpa using hb) (sumStep_bd r a)
    simp only [impl_SumOf.l0]
    rw [if_pos (by omega), if_pos (by omega), if_pos (by omega), rd_mid, imod_eq, Option.bind_some, sum_tmod hr, wrap_len (a := a) (by omega), app_mid, ih]
    rfl
theorem iSum_eq (s : Int) (l : List Int) {k : Nat} (hk : l.length < k) : impl_SumOf.f k s l = some (sumM s l) := by
  unfold impl_SumOf.f sumM
  by_cases h : l.length = 6
  · rw [if_pos (by omega), if_pos h, imod_eq, Option.bind_some]
    have := iSum_loop l [] k (s % 100003) hk (by simp; omega) (by omega)
    simpa using this
  · rw [if_neg (by omega), if_neg h]
theorem smod_eq (a : Int) : spec_l24Mod.f a = some (a % 100003) := by
  unfold spec_l24Mod.f
  have h := tmod_bd a
  have h2 := tmod_fix a
  split
  · rw [wrap_id (by omega) (by omega)]; congr 1; omega
  · congr 1; omega
theorem sSum_loop : ∀ (suf pre : List Int) (k : Nat) (r : Int), suf.length < k → (pre ++ suf).length < 9223372036854775807 → 0 ≤ r ∧ r < 100003 → spec_SumOf.l0 k (pre ++ suf) r (pre.length : Int) = some (suf.foldl sumStep r)
  | [], pre, k, r, hk, hb, hr => by
    obtain ⟨k, rfl⟩ := pred hk
    simp only [spec_SumOf.l0]
    rw [if_neg (by simp)]; rfl
  | a :: suf, pre, k, r, hk, hb, hr => by
    obtain ⟨k, rfl⟩ := pred hk
    have hl : (pre ++ a :: suf).length = pre.length + suf.length + 1 := by simp; omega
    have ih := sSum_loop suf (pre ++ [a]) k (sumStep r a) (by simpa using hk) (by simpa using hb) (sumStep_bd r a)
    simp only [spec_SumOf.l0]
    rw [if_pos (by omega), if_pos (by omega), rd_mid, smod_eq, Option.bind_some, sum_tmod hr, wrap_len (a := a) (by omega), app_mid, ih]
    rfl
theorem sSum_eq (s : Int) (l : List Int) {k : Nat} (hk : l.length < k) : spec_SumOf.f k s l = some (sumM s l) := by
  unfold spec_SumOf.f sumM
  by_cases h : l.length = 6
  · rw [if_pos (by omega), if_pos h, smod_eq, Option.bind_some]
    have := sSum_loop l [] k (s % 100003) hk (by simp; omega) (by omega)
    simpa using this
  · rw [if_neg (by omega), if_neg h]
theorem szInt_ev (l : List Int) (a : Int) (hl : l.length ≤ maxLen) (ha : 0 ≤ a ∧ a ≤ 1048576) : (laws_szIntS.f l a = some (-1)) ∨ ((l.length : Int) ≤ a ∧ laws_szIntS.f l a = some (a - l.length)) := by
  unfold laws_szIntS.f
  unfold maxLen at hl
  rw [wrap_id (by omega) (by omega)]
  by_cases h : a - (l.length : Int) < 0
  · rw [if_pos h]; exact .inl rfl
  · rw [if_neg h]; exact .inr ⟨by omega, rfl⟩
/-- The marks from m on. -/
def mkInt : Int → Nat → List Int
  | _, 0 => []
  | m, i + 1 => m :: mkInt (m + 1) i
theorem mkInt_len : ∀ (d : Nat) (m : Int), (mkInt m d).length = d
  | 0, _ => rfl
  | d + 1, m => by simp [mkInt, mkInt_len d]
theorem markInt_loop : ∀ (suf pre : List Int) (k : Nat) (m : Int), suf.length < k → (pre ++ suf).length ≤ 4611686018427387 → 0 ≤ m → m + suf.length ≤ 4611686018427387904 → laws_markIntS.l0 k (pre ++ suf) m (pre.length : Int) = some (m + suf.length, pre ++ mkInt m suf.length)
  | [], pre, k, m, hk, hb, h0, hm => by
    obtain ⟨k, rfl⟩ := pred hk
    simp only [laws_markIntS.l0]
    rw [if_neg (by simp)]; simp [mkInt]
  | a :: suf, pre, k, m, hk, hb, h0, hm => by
    obtain ⟨k, rfl⟩ := pred hk
    have hl : (pre ++ a :: suf).length = pre.length + suf.length + 1 := by simp; omega
    have hc : ((a :: suf).length : Int) = suf.length + 1 := by simp
    rw [hc] at hm
    have ih := markInt_loop suf (pre ++ [m]) k (m + 1) (by simpa using hk) (by simp at hb ⊢; omega) (by omega) (by omega)
    simp only [laws_markIntS.l0]
    have hset : (pre ++ a :: suf).set pre.length m = pre ++ m :: suf := by rw [List.set_append_right _ _ (by omega)]; simp
    rw [if_pos (by omega), if_pos (by omega), Int.toNat_natCast, hset, wrap_id (z := m + 1) (by omega) (by omega), wrap_len (a := m) (by omega), app_mid, ih]
    simp [mkInt]
    omega
theorem markInt_eq (l : List Int) (m : Int) (h0 : 0 ≤ m) (hm : m + l.length ≤ 4611686018427387) {k : Nat} (hk : l.length < k) : laws_markIntS.f k l m = some (m + l.length, mkInt m l.length) := by
  have := markInt_loop l [] k m hk (by simp; omega) h0 (by omega)
  simpa [laws_markIntS.f] using this
theorem heldInt_loop : ∀ (d : Nat) (pre : List Int) (k : Nat) (m : Int), d < k → (pre ++ mkInt m d).length ≤ 4611686018427387 → 0 ≤ m → m + d ≤ 4611686018427387904 → laws_heldIntS.l0 k (pre ++ mkInt m d) m (pre.length : Int) = some (m + d)
  | 0, pre, k, m, hk, hb, h0, hm => by
    obtain ⟨k, rfl⟩ := pred hk
    rw [show mkInt m 0 = [] from rfl]
    simp only [laws_heldIntS.l0]
    rw [if_neg (by simp)]; simp
  | d + 1, pre, k, m, hk, hb, h0, hm => by
    obtain ⟨k, rfl⟩ := pred hk
    have ih := heldInt_loop d (pre ++ [m]) k (m + 1) (by omega) (by simp [mkInt] at hb ⊢; omega) (by omega) (by omega)
    rw [show mkInt m (d + 1) = m :: mkInt (m + 1) d from rfl] at hb ⊢
    simp only [laws_heldIntS.l0]
    have hl : ∀ (a : Int) (suf : List Int), (pre ++ a :: suf).length = pre.length + suf.length + 1 := fun a suf => by simp; omega
    rw [hl] at hb
    rw [if_pos (by rw [hl]; omega), if_pos (by omega), rd_mid, if_pos rfl, wrap_id (z := m + 1) (by omega) (by omega), wrap_len (a := m) (by omega), app_mid, ih]
    congr 1
    omega
theorem heldInt_eq (d : Nat) (m : Int) (h0 : 0 ≤ m) (hm : m + d ≤ 4611686018427387) {k : Nat} (hk : d < k) : laws_heldIntS.f k (mkInt m d) m = some (m + d) := by
  have := heldInt_loop d [] k m hk (by simp [mkInt_len]; omega) h0 (by omega)
  simpa [laws_heldIntS.f] using this
def slotM (q : Int) (l : List Int) (s : Int) : Bool := decide (1 ≤ q ∧ l.length = 6 ∧ s = sumM q l)
theorem iSlot_eq (q : Int) (l : List Int) (s : Int) {k : Nat} (hk : 7 ≤ k) : impl_SlotOk.f k q l s = some (slotM q l s) := by
  unfold impl_SlotOk.f slotM
  by_cases h1 : q ≥ 1
  · by_cases h2 : l.length = 6
    · rw [if_pos h1, if_pos (by omega), iSum_eq q l (by omega), Option.bind_some]
      congr 1
      rw [Bool.eq_iff_iff]; simp [h2]; omega
    · rw [if_pos h1, if_neg (by omega), decide_eq_false (fun h => h2 h.2.1)]
  · rw [if_neg h1, decide_eq_false (fun h => h1 h.1)]
theorem sSlot_eq (q : Int) (l : List Int) (s : Int) {k : Nat} (hk : 7 ≤ k) : spec_SlotOk.f k q l s = some (slotM q l s) := by
  unfold spec_SlotOk.f slotM
  by_cases h1 : q ≥ 1
  · by_cases h2 : l.length = 6
    · rw [if_pos h1, if_pos (by omega), sSum_eq q l (by omega), Option.bind_some]
      congr 1
      rw [Bool.eq_iff_iff]; simp [h2]; omega
    · rw [if_pos h1, if_neg (by omega), decide_eq_false (fun h => h2 h.2.1)]
  · rw [if_neg h1, decide_eq_false (fun h => h1 h.1)]
theorem szSlot_ev (q : Int) (l : List Int) (s : Int) (a : Int) (hl : l.length ≤ maxLen) (ha : 0 ≤ a ∧ a ≤ 1048576) : (laws_szSlot.f q l s a = some (-1)) ∨ ((l.length : Int) ≤ a ∧ laws_szSlot.f q l s a = some (a - l.length)) := by
  unfold laws_szSlot.f
  rcases szInt_ev l a hl ha with h | ⟨h1, h2⟩
  · rw [h, Option.bind_some, if_pos (by omega)]; exact .inl rfl
  · rw [h2, Option.bind_some, if_neg (by omega)]; exact .inr ⟨h1, rfl⟩
theorem toSlot_eq (q : Int) (l : List Int) (s : Int) (hl : l.length ≤ 1048576) {k : Nat} (hk : l.length < k) : laws_toSlot.f k q l s = some (q, l, s) := by
  unfold laws_toSlot.f
  rw [toInt_eq l hl hk, Option.bind_some]
theorem eqSlot_eq (q : Int) (l : List Int) (s : Int) (hl : l.length < 9223372036854775807) {k : Nat} (hk : l.length < k) : laws_eqSlot.f k q l s q l s = some true := by
  unfold laws_eqSlot.f
  rw [if_pos rfl, eqInt_eq l l hl hk, Option.bind_some, if_pos (decide_eq_true rfl), if_pos rfl]
theorem szPair_ev (q : Int) (l : List Int) (s q2 : Int) (l2 : List Int) (s2 a : Int) (hl : l.length ≤ maxLen) (hl2 : l2.length ≤ maxLen) (ha : 0 ≤ a ∧ a ≤ 1048576) :
    (laws_szPair.f q l s q2 l2 s2 a = some (-1)) ∨ ((l.length : Int) + l2.length ≤ a ∧ laws_szPair.f q l s q2 l2 s2 a = some (a - l.length - l2.length)) := by
  unfold laws_szPair.f
  rcases szSlot_ev q l s a hl ha with h | ⟨h1, h2⟩
  · rw [h, Option.bind_some, if_pos (by omega)]; exact .inl rfl
  · rw [h2, Option.bind_some, if_neg (by omega)]
    rcases szSlot_ev q2 l2 s2 (a - l.length) hl2 (by omega) with g | ⟨g1, g2⟩
    · rw [g, Option.bind_some, if_pos (by omega)]; exact .inl rfl
    · rw [g2, Option.bind_some, if_neg (by omega)]; exact .inr ⟨by omega, rfl⟩
theorem toPair_eq (q : Int) (l : List Int) (s q2 : Int) (l2 : List Int) (s2 : Int) (hl : l.length ≤ 1048576) (hl2 : l2.length ≤ 1048576) {k : Nat} (hk : l.length + l2.length < k) : laws_toPair.f k q l s q2 l2 s2 = some (q, l, s, q2, l2, s2) := by
  unfold laws_toPair.f
  rw [toSlot_eq q l s hl (by omega), Option.bind_some, toSlot_eq q2 l2 s2 hl2 (by omega), Option.bind_some]
theorem eqPair_eq (q : Int) (l : List Int) (s q2 : Int) (l2 : List Int) (s2 : Int) (hl : l.length ≤ 1048576) (hl2 : l2.length ≤ 1048576) {k : Nat} (hk : l.length + l2.length < k) : laws_eqPair.f k q l s q2 l2 s2 q l s q2 l2 s2 = some true := by
  unfold laws_eqPair.f
  rw [eqSlot_eq q l s (by omega) (by omega), Option.bind_some, if_pos rfl, eqSlot_eq q2 l2 s2 (by omega) (by omega), Option.bind_some, if_pos rfl]
theorem markSlot_eq (q : Int) (l : List Int) (s m : Int) (h0 : 0 ≤ m) (hm : m + l.length ≤ 4611686018427387) {k : Nat} (hk : l.length < k) : laws_markSlot.f k q l s m = some (m + l.length, mkInt m l.length) := by
  unfold laws_markSlot.f
  rw [markInt_eq l m h0 hm hk, Option.bind_some]
theorem markPair_eq (q : Int) (l : List Int) (s q2 : Int) (l2 : List Int) (s2 m : Int) (h0 : 0 ≤ m) (hm : m + l.length + l2.length ≤ 4611686018427387) {k : Nat} (hk : l.length + l2.length < k) :
    laws_markPair.f k q l s q2 l2 s2 m = some (m + l.length + l2.length, mkInt m l.length, mkInt (m + l.length) l2.length) := by
  unfold laws_markPair.f
  rw [markSlot_eq q l s m h0 (by omega) (by omega), Option.bind_some, markSlot_eq q2 l2 s2 (m + l.length) (by omega) (by omega) (by omega), Option.bind_some]
theorem clone_eq (l : List Int) (hl : l.length ≤ 1048576) : slices_Clone_int_int.f l = some l := by
  unfold slices_Clone_int_int.f
  rw [Option.bind_some, if_pos (by simp; omega), List.nil_append]
/-- Which slot is the newest valid one: 0, 1 or none (-1). -/
def whichM (q : Int) (l : List Int) (s q2 : Int) (l2 : List Int) (s2 : Int) : Int :=
  if slotM q l s = true ∧ (slotM q2 l2 s2 = false ∨ q ≥ q2) then 0 else if slotM q2 l2 s2 = true then 1 else -1
theorem iWhich_eq (q : Int) (l : List Int) (s q2 : Int) (l2 : List Int) (s2 : Int) {k : Nat} (hk : 8 ≤ k) : impl_newest.f k q l s q2 l2 s2 = some (whichM q l s q2 l2 s2) := by
  obtain ⟨k, rfl⟩ : ∃ j, k = j + 1 := ⟨k - 1, by omega⟩
  unfold impl_newest.f whichM
  rw [iSlot_eq q l s (by omega), Option.bind_some, iSlot_eq q2 l2 s2 (by omega), Option.bind_some]
  cases slotM q l s <;> cases slotM q2 l2 s2 <;> by_cases h : q ≥ q2 <;> simp [impl_newest.j0, h]
theorem sWhich_eq (q : Int) (l : List Int) (s q2 : Int) (l2 : List Int) (s2 : Int) {k : Nat} (hk : 8 ≤ k) : spec_l24Which.f k q l s q2 l2 s2 = some (whichM q l s q2 l2 s2) := by
  obtain ⟨k, rfl⟩ : ∃ j, k = j + 1 := ⟨k - 1, by omega⟩
  unfold spec_l24Which.f whichM
  rw [sSlot_eq q l s (by omega), Option.bind_some, sSlot_eq q2 l2 s2 (by omega), Option.bind_some]
  cases slotM q l s <;> cases slotM q2 l2 s2 <;> by_cases h : q ≥ q2 <;> simp [spec_l24Which.j0, h]
def newM (q : Int) (l : List Int) (s q2 : Int) (l2 : List Int) (s2 : Int) : Int × List Int × Int × Bool :=
  if whichM q l s q2 l2 s2 = 0 then (q, l, s, true) else if whichM q l s q2 l2 s2 = 1 then (q2, l2, s2, true) else (0, [], 0, false)
theorem newM_len (q : Int) (l : List Int) (s q2 : Int) (l2 : List Int) (s2 : Int) : (newM q l s q2 l2 s2).2.1.length ≤ l.length + l2.length := by
  unfold newM; split
  · simp
  · split <;> simp
theorem newM_cases (q : Int) (l : List Int) (s q2 : Int) (l2 : List Int) (s2 : Int) : ((newM q l s q2 l2 s2).2.2.2 = true ∧ 1 ≤ (newM q l s q2 l2 s2).1) ∨ newM q l s q2 l2 s2 = (0, [], 0, false) := by
  unfold newM whichM
  by_cases h : slotM q l s = true ∧ (slotM q2 l2 s2 = false ∨ q ≥ q2)
  · rw [if_pos h, if_pos rfl]
    have := h.1; unfold slotM at this
    simp at this
    exact .inl ⟨rfl, this.1⟩
  · rw [if_neg h]
    by_cases g : slotM q2 l2 s2 = true
    · rw [if_pos g, if_neg (by omega), if_pos rfl]
      have := g; unfold slotM at this
      simp at this
      exact .inl ⟨rfl, this.1⟩
    · rw [if_neg g, if_neg (by omega), if_neg (by omega)]; exact .inr rfl
theorem iNewestP_eq (q : Int) (l : List Int) (s q2 : Int) (l2 : List Int) (s2 : Int) (hl : l.length ≤ 1048576) (hl2 : l2.length ≤ 1048576) {k : Nat} (hk : 8 ≤ k) : impl_Newest.f k q l s q2 l2 s2 = some (newM q l s q2 l2 s2) := by
  unfold impl_Newest.f newM
  rw [iWhich_eq q l s q2 l2 s2 hk, Option.bind_some]
  by_cases h0 : whichM q l s q2 l2 s2 = 0
  · rw [if_pos h0, if_pos h0]
    unfold impl_copySlot.f
    rw [clone_eq l hl]; rfl
  · rw [if_neg h0, if_neg h0]
    by_cases h1 : whichM q l s q2 l2 s2 = 1
    · rw [if_pos h1, if_pos h1]
      unfold impl_copySlot.f
      rw [clone_eq l2 hl2]; rfl
    · rw [if_neg h1, if_neg h1]
theorem sCopy_eq (q : Int) (l : List Int) (s : Int) (hl : l.length ≤ 1048576) : spec_l24Copy.f q l s = some (q, l, s) := by
  unfold spec_l24Copy.f
  rw [Option.bind_some, if_pos (by simp; omega), List.nil_append]
theorem sNewestP_eq (q : Int) (l : List Int) (s q2 : Int) (l2 : List Int) (s2 : Int) (hl : l.length ≤ 1048576) (hl2 : l2.length ≤ 1048576) {k : Nat} (hk : 8 ≤ k) : spec_Newest.f k q l s q2 l2 s2 = some (newM q l s q2 l2 s2) := by
  unfold spec_Newest.f newM
  rw [sWhich_eq q l s q2 l2 s2 hk, Option.bind_some]
  by_cases h0 : whichM q l s q2 l2 s2 = 0
  · rw [if_pos h0, if_pos h0, sCopy_eq q l s hl]; rfl
  · rw [if_neg h0, if_neg h0]
    by_cases h1 : whichM q l s q2 l2 s2 = 1
    · rw [if_pos h1, if_pos h1, sCopy_eq q2 l2 s2 hl2]; rfl
    · rw [if_neg h1, if_neg h1]
def saveM (q : Int) (l : List Int) (s q2 : Int) (l2 : List Int) (s2 : Int) (ws : List Int) : List Int × Int × Bool :=
  if ws.length = 6 ∧ (newM q l s q2 l2 s2).1 < 1000000 then ((([0] ++ ws) ++ [sumM ((newM q l s q2 l2 s2).1 + 1) ws, (newM q l s q2 l2 s2).1 + 1]), (if whichM q l s q2 l2 s2 = 0 then 1 else 0), true) else ([], 0, false)
theorem saveM_len (q : Int) (l : List Int) (s q2 : Int) (l2 : List Int) (s2 : Int) (ws : List Int) : (saveM q l s q2 l2 s2 ws).1.length ≤ 9 := by
  unfold saveM; split
  · rename_i h; simp; omega
  · simp
theorem iSave_eq (q : Int) (l : List Int) (s q2 : Int) (l2 : List Int) (s2 : Int) (ws : List Int) (hl : l.length ≤ 1048576) (hl2 : l2.length ≤ 1048576) {k : Nat} (hk : 9 ≤ k) : impl_SaveWrites.f k q l s q2 l2 s2 ws = some (saveM q l s q2 l2 s2 ws) := by
  obtain ⟨k, rfl⟩ : ∃ j, k = j + 1 := ⟨k - 1, by omega⟩
  have hc := newM_cases q l s q2 l2 s2
  have hw := iWhich_eq q l s q2 l2 s2 (k := k) (by omega)
  have hge : 0 ≤ (newM q l s q2 l2 s2).1 := by rcases hc with h | h; omega; rw [h]; simp
  unfold impl_SaveWrites.f saveM
  rw [iNewestP_eq q l s q2 l2 s2 hl hl2 (by omega), Option.bind_some]
  generalize (newM q l s q2 l2 s2) = N at *
  by_cases h6 : ws.length = 6
  · by_cases hq : N.1 ≥ 1000000
    · rw [if_pos (by omega), if_neg (by omega)]
      simp only [impl_SaveWrites.j0]
      rw [if_pos (decide_eq_true hq)]
    · rw [if_pos (by omega), if_pos ⟨h6, by omega⟩]
      simp only [impl_SaveWrites.j0]
      rw [if_neg (by simpa using hq), Option.bind_some, if_pos (by simp; omega), Option.bind_some, wrap_id (z := N.1 + 1) (by omega) (by omega), iSum_eq _ ws (by omega), Option.bind_some, Option.bind_some, if_pos (by simp; omega), hw, Option.bind_some]
      unfold impl_bit.f
      by_cases h0 : whichM q l s q2 l2 s2 = 0
      · simp [h0]
      · simp [h0]
  · rw [if_neg (by omega), if_neg (fun h => h6 h.1)]
    simp only [impl_SaveWrites.j0]
    rw [if_pos trivial]
theorem sSave_eq (q : Int) (l : List Int) (s q2 : Int) (l2 : List Int) (s2 : Int) (ws : List Int) (hl : l.length ≤ 1048576) (hl2 : l2.length ≤ 1048576) {k : Nat} (hk : 9 ≤ k) : spec_SaveWrites.f k q l s q2 l2 s2 ws = some (saveM q l s q2 l2 s2 ws) := by
  obtain ⟨k, rfl⟩ : ∃ j, k = j + 1 := ⟨k - 1, by omega⟩
  have hc := newM_cases q l s q2 l2 s2
  have hw := sWhich_eq q l s q2 l2 s2 (k := k) (by omega)
  unfold spec_SaveWrites.f saveM
  rw [sNewestP_eq q l s q2 l2 s2 hl hl2 (by omega), Option.bind_some]
  have key : ∀ x : Int, spec_SaveWrites.j0 (k + 1) ws x q l s q2 l2 s2 = some (if ws.length = 6 then ((([0] ++ ws) ++ [sumM x ws, x]), (if whichM q l s q2 l2 s2 = 0 then 1 else 0), true) else ([], 0, false)) := by
    intro x
    simp only [spec_SaveWrites.j0]
    by_cases h6 : ws.length = 6
    · rw [if_pos (by omega), Option.bind_some, if_pos (by simp; omega), Option.bind_some, hw, Option.bind_some, if_pos h6]
      by_cases h0 : whichM q l s q2 l2 s2 = 0
      · rw [if_pos h0, if_pos h0, sSum_eq _ ws (by omega), Option.bind_some, Option.bind_some, if_pos (by simp; omega)]
      · rw [if_neg h0, if_neg h0, sSum_eq _ ws (by omega), Option.bind_some, Option.bind_some, if_pos (by simp; omega)]
    · rw [if_neg (by omega), if_neg h6]
  rcases hc with ⟨h1, h2⟩ | h
  · rw [if_pos h1]
    by_cases hq : (newM q l s q2 l2 s2).1 ≥ 1000000
    · rw [if_pos hq, if_neg (fun h => by omega)]
    · rw [if_neg hq, wrap_id (by omega) (by omega), key]
      by_cases h6 : ws.length = 6
      · rw [if_pos h6, if_pos (c := ws.length = 6 ∧ (newM q l s q2 l2 s2).1 < 1000000) ⟨h6, by omega⟩]
      · rw [if_neg h6, if_neg (fun h => h6 h.1)]
  · rw [h]
    simp only [Bool.false_eq_true, if_false]
    rw [key]
    by_cases h6 : ws.length = 6
    · rw [if_pos h6, if_pos (c := ws.length = 6 ∧ (0 : Int) < 1000000) ⟨h6, by omega⟩]; rfl
    · rw [if_neg h6, if_neg (c := ws.length = 6 ∧ (0 : Int) < 1000000) (fun h => h6 h.1)]

theorem FnExactSaveWrites : ∀ (a0_0 : Int) (l0_1 : List Int) (a0_2 : Int) (a0_3 : Int) (l0_4 : List Int) (a0_5 : Int) (l1 : List Int), ((Lit.int .i64 a0_0).wf = true) → (l0_1.length ≤ maxLen ∧ ∀ x ∈ l0_1, (Lit.int .i64 x).wf = true) → ((Lit.int .i64 a0_2).wf = true) → ((Lit.int .i64 a0_3).wf = true) → (l0_4.length ≤ maxLen ∧ ∀ x ∈ l0_4, (Lit.int .i64 x).wf = true) → ((Lit.int .i64 a0_5).wf = true) → (l1.length ≤ maxLen ∧ ∀ x ∈ l1, (Lit.int .i64 x).wf = true) → ∃ k, laws_FnExactSaveWrites.f k a0_0 l0_1 a0_2 a0_3 l0_4 a0_5 l1 = some true := by
  intro q l s q2 l2 s2 ws _ hl _ _ hl2 _ hws
  refine ⟨l.length + l2.length + ws.length + 22, ?_⟩
  unfold laws_FnExactSaveWrites.f
  by_cases hw : (ws.length : Int) > 1048576
  · rw [if_pos hw]
  rw [if_neg hw]
  rcases szPair_ev q l s q2 l2 s2 1048576 hl.1 hl2.1 (by omega) with h | ⟨h1, h2⟩
  · rw [h, Option.bind_some, if_pos (by omega)]
  have t1 := fun k hk => toPair_eq q l s q2 l2 s2 (by omega) (by omega) (k := k) hk
  have t2 := fun k hk => toInt_eq ws (by omega) (k := k) hk
  have i1 := fun k hk => iSave_eq q l s q2 l2 s2 ws (by omega) (by omega) (k := k) hk
  have hn := saveM_len q l s q2 l2 s2 ws
  rw [h2, Option.bind_some, if_neg (by omega), t1 _ (by omega), Option.bind_some, t2 _ (by omega), Option.bind_some, sSave_eq q l s q2 l2 s2 ws (by omega) (by omega) (by omega), Option.bind_some, Option.bind_some, Option.bind_some, i1 _ (by omega), Option.bind_some]
  generalize saveM q l s q2 l2 s2 ws = N at *
  obtain ⟨b, c, d⟩ := N
  simp only at hn
  have e1 := fun k hk => eqInt_eq b b (by omega) (k := k) hk
  have e2 := fun k hk => eqInt_eq ws ws (by omega) (k := k) hk
  have j2 : laws_FnExactSaveWrites.j2 (l.length + l2.length + ws.length + 20) (mkInt 1 b.length) (1 + b.length) false = some true := by
    simp only [laws_FnExactSaveWrites.j2, Bool.false_eq_true, if_false]
    rw [heldInt_eq b.length 1 (by omega) (by omega) (by omega), Option.bind_some, if_neg (by omega), if_pos rfl]
  have j1 : laws_FnExactSaveWrites.j1 (l.length + l2.length + ws.length + 21) ws b c d b false q l s q2 l2 s2 = some true := by
    simp only [laws_FnExactSaveWrites.j1, Bool.false_eq_true, if_false]
    rw [markInt_eq b 1 (by omega) (by omega) (by omega), Option.bind_some]
    simp only
    rw [heldInt_eq b.length 1 (by omega) (by omega) (by omega), Option.bind_some, if_neg (by omega), if_pos rfl, t1 _ (by omega), Option.bind_some, t2 _ (by omega), Option.bind_some, i1 _ (by omega), Option.bind_some]
    simp only
    rw [e1 _ (by omega), Option.bind_some, if_pos (decide_eq_true rfl), if_pos (by trivial), bne_self_eq_false]
    exact j2
  simp only
  rw [e1 _ (by omega), Option.bind_some, if_pos (decide_eq_true rfl), if_pos (by trivial), bne_self_eq_false]
  simp only [laws_FnExactSaveWrites.j0, Bool.false_eq_true, if_false]
  rw [t1 _ (by omega), Option.bind_some]
  simp only
  rw [eqPair_eq q l s q2 l2 s2 (by omega) (by omega) (by omega), Option.bind_some, if_pos rfl, t2 _ (by omega), Option.bind_some, e2 _ (by omega), Option.bind_some, if_pos (decide_eq_true rfl), markPair_eq q l s q2 l2 s2 1 (by omega) (by omega) (by omega), Option.bind_some]
  simp only
  rw [markInt_eq ws _ (by omega) (by omega) (by omega), Option.bind_some]
  simp only
  rw [if_neg (by omega), e1 _ (by omega), Option.bind_some, if_pos (decide_eq_true rfl), if_pos (by trivial), bne_self_eq_false]
  exact j1

end Go.Proofs.Ytboidohbhoehgaa.Pure
