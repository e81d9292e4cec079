/- The pure statement of the law FnExactPacketsOf: what the printed function comes to is true for every list of bytes. No condition beyond the row's own bounds. -/
import Derived.Test.YtmifaijfogipgaaQFnExactPacketsOf1
import Derived.OpenShut
namespace Go.Proofs.Ytmifaijfogipgaa.Pure
open Go.RowKit Go.Proofs.Ytmifaijfogipgaa.QFnExactPacketsOf Go.Proofs.YtmifaijfogipgaaW.PrintWords Go.Proofs.YtmifaijfogipgaaW.PrintLast Go.Proofs.YtmifaijfogipgaaW.PrintMore
set_option linter.unusedVariables false
set_option linter.unusedSimpArgs false
--BLOCKS
theorem wf_b {z : Int} (h : (Lit.int .i64 z).wf = true) : -9223372036854775808 ≤ z ∧ z ≤ 9223372036854775807 := bounds_i64 h
theorem wrap_id {z : Int} (h1 : -9223372036854775808 ≤ z) (h2 : z ≤ 9223372036854775807) : wrap64 z = z := by unfold wrap64; omega
theorem mn_min (a b : Int) : mn a b = min a b := by unfold mn; omega
theorem mx_max (a b : Int) : mx a b = max a b := by unfold mx; omega
theorem in_eq (x lo hi : Int) : spec_l01In.f x lo hi = some (decide (lo ≤ x ∧ x ≤ hi)) := by
  unfold spec_l01In.f; split <;> simp_all <;> omega
theorem within_eq (x lo hi : Int) : impl_within.f x lo hi = some (decide (lo ≤ x ∧ x ≤ hi)) := by
  unfold impl_within.f; split <;> simp_all <;> omega
theorem rd_mid (pre : List Int) (a : Int) (suf : List Int) : rd (pre ++ a :: suf) (pre.length : Int) = a := by simp [rd]
theorem len_mid {α : Type} (pre : List α) (a : α) (suf : List α) : (pre ++ a :: suf).length = (pre ++ [a]).length + suf.length := by simp; omega
theorem app_mid {α : Type} (pre : List α) (a : α) (suf : List α) : pre ++ a :: suf = (pre ++ [a]) ++ suf := by simp
theorem wrap_len {α : Type} {pre : List α} {a : α} (h : pre.length < 9223372036854775807) : wrap64 ((pre.length : Int) + 1) = ((pre ++ [a]).length : Int) := by
  rw [wrap_id (by omega) (by omega)]; simp
theorem pred {d k : Nat} (h : d < k) : ∃ j, k = j + 1 := ⟨k - 1, by omega⟩
theorem toInt_loop : ∀ (suf pre rep : List Int) (k : Nat), suf.length < k → rep.length = suf.length → (pre ++ suf).length < 9223372036854775807 → laws_toIntS.l0 k (pre ++ suf) (pre ++ rep) (pre.length : Int) = some (pre ++ suf)
  | [], pre, rep, k, hk, hr, hb => by
    obtain ⟨k, rfl⟩ := pred hk
    obtain rfl : rep = [] := List.length_eq_zero_iff.1 hr
    simp only [laws_toIntS.l0]
    rw [if_neg (by simp)]
  | a :: suf, pre, r :: rep, k, hk, hr, hb => by
    obtain ⟨k, rfl⟩ := pred hk
    have hl : (pre ++ a :: suf).length = pre.length + suf.length + 1 := by simp; omega
    have hl2 : (pre ++ r :: rep).length = pre.length + rep.length + 1 := by simp; omega
    have ih := toInt_loop suf (pre ++ [a]) rep k (by simpa using hk) (by simpa using hr) (by simpa using hb)
    simp only [laws_toIntS.l0]
    rw [if_pos (by omega), if_pos (by omega), if_pos (by omega), rd_mid, wrap_len (a := a) (by omega), Int.toNat_natCast]
    have e : (pre ++ r :: rep).set pre.length a = (pre ++ [a]) ++ rep := by simp
    rw [e]
    simpa using ih
  | _ :: _, _, [], _, _, hr, _ => by simp at hr
theorem toInt_eq (l : List Int) (hl : l.length ≤ 1048576) {k : Nat} (hk : l.length < k) : laws_toIntS.f k l = some l := by
  unfold laws_toIntS.f
  rw [if_pos (by omega), if_pos (by omega), Int.toNat_natCast]
  have := toInt_loop l [] (List.replicate l.length 0) k hk (by simp) (by simp; omega)
  simpa using this
theorem eqInt_loop : ∀ (s1 s2 pre : List Int) (k : Nat), s1.length < k → s2.length = s1.length → (pre ++ s1).length < 9223372036854775807 → laws_eqIntS.l0 k (pre ++ s1) (pre ++ s2) (pre.length : Int) = some (decide (s1 = s2))
  | [], s2, pre, k, hk, hr, hb => by
    obtain ⟨k, rfl⟩ := pred hk
    obtain rfl : s2 = [] := List.length_eq_zero_iff.1 hr
    simp only [laws_eqIntS.l0]
    rw [if_neg (by simp)]; simp
  | a :: s1, b :: s2, pre, k, hk, hr, hb => by
    obtain ⟨k, rfl⟩ := pred hk
    have hl : (pre ++ a :: s1).length = pre.length + s1.length + 1 := by simp; omega
    have hl2 : (pre ++ b :: s2).length = pre.length + s2.length + 1 := by simp; omega
    simp only [laws_eqIntS.l0]
    rw [if_pos (by omega), if_pos (by omega), if_pos (by omega), rd_mid, rd_mid]
    by_cases hab : a = b
    · subst hab
      have ih := eqInt_loop s1 s2 (pre ++ [a]) k (by simpa using hk) (by simpa using hr) (by simpa using hb)
      rw [if_pos rfl, wrap_len (a := a) (by omega), app_mid, app_mid pre a s2, ih]
      simp
    · rw [if_neg hab]; simp [hab]
  | _ :: _, [], _, _, _, hr, _ => by simp at hr
theorem eqInt_eq (l m : List Int) (hl : l.length < 9223372036854775807) {k : Nat} (hk : l.length < k) : laws_eqIntS.f k l m = some (decide (l = m)) := by
  unfold laws_eqIntS.f
  by_cases h : l.length = m.length
  · rw [if_pos (by omega)]
    have := eqInt_loop l m [] k hk h.symm (by simpa using hl)
    simpa using this
  · rw [if_neg (by omega), decide_eq_false (fun e => h (by rw [e]))]
/-- The marks from m on. -/
def mkInt : Int → Nat → List Int
  | _, 0 => []
  | m, i + 1 => m :: mkInt (m + 1) i
theorem mkInt_len : ∀ (d : Nat) (m : Int), (mkInt m d).length = d
  | 0, _ => rfl
  | d + 1, m => by simp [mkInt, mkInt_len d]
theorem markInt_loop : ∀ (suf pre : List Int) (k : Nat) (m : Int), suf.length < k → (pre ++ suf).length ≤ 4611686018427387 → 0 ≤ m → m + suf.length ≤ 4611686018427387904 → laws_markIntS.l0 k (pre ++ suf) m (pre.length : Int) = some (m + suf.length, pre ++ mkInt m suf.length)
  | [], pre, k, m, hk, hb, h0, hm => by
    obtain ⟨k, rfl⟩ := pred hk
    simp only [laws_markIntS.l0]
    rw [if_neg (by simp)]; simp [mkInt]
  | a :: suf, pre, k, m, hk, hb, h0, hm => by
    obtain ⟨k, rfl⟩ := pred hk
    have hl : (pre ++ a :: suf).length = pre.length + suf.length + 1 := by simp; omega
    have hc : ((a :: suf).length : Int) = suf.length + 1 := by simp
    rw [hc] at hm
    have ih := markInt_loop suf (pre ++ [m]) k (m + 1) (by simpa using hk) (by simp at hb ⊢; omega) (by omega) (by omega)
    simp only [laws_markIntS.l0]
    have hset : (pre ++ a :: suf).set pre.length m = pre ++ m :: suf := by rw [List.set_append_right _ _ (by omega)]; simp
    rw [if_pos (by omega), if_pos (by omega), Int.toNat_natCast, hset, wrap_id (z := m + 1) (by omega) (by omega), wrap_len (a := m) (by omega), app_mid, ih]
    simp [mkInt]
    omega
theorem markInt_eq (l : List Int) (m : Int) (h0 : 0 ≤ m) (hm : m + l.length ≤ 4611686018427387) {k : Nat} (hk : l.length < k) : laws_markIntS.f k l m = some (m + l.length, mkInt m l.length) := by
  have := markInt_loop l [] k m hk (by simp; omega) h0 (by omega)
  simpa [laws_markIntS.f] using this
theorem rdB_Packet (pre : List S72) (a : S72) (suf : List S72) : rd_T72 (pre ++ a :: suf) (pre.length : Int) = a := by simp [rd_T72]
theorem eqPacket_loop : ∀ (suf pre : List S72) (k : Nat), suf.length < k → (pre ++ suf).length < 9223372036854775807 → laws_eqPacketS.l0 k (pre ++ suf) (pre ++ suf) (pre.length : Int) = some true
  | [], pre, k, hk, hb => by
    obtain ⟨k, rfl⟩ := pred hk
    simp only [laws_eqPacketS.l0]
    rw [if_neg (by simp)]
  | a :: suf, pre, k, hk, hb => by
    obtain ⟨k, rfl⟩ := pred hk
    have hl : (pre ++ a :: suf).length = pre.length + suf.length + 1 := by simp; omega
    have ih := eqPacket_loop suf (pre ++ [a]) k (by simpa using hk) (by simpa using hb)
    simp only [laws_eqPacketS.l0]
    rw [if_pos (by omega), if_pos (by omega), rdB_Packet]
    simp only [laws_eqPacket.f, Option.bind_some, if_true]
    try rw [if_pos (by omega)]
    rw [wrap_len (a := a) (by omega), app_mid]
    exact ih
theorem eqPacketS_eq (l : List S72) (hl : l.length < 9223372036854775807) {k : Nat} (hk : l.length < k) : laws_eqPacketS.f k l l = some true := by
  unfold laws_eqPacketS.f
  rw [if_pos rfl]
  have := eqPacket_loop l [] k hk (by simpa using hl)
  simpa using this
/-- The marks from m on. -/
def mkPacket : Int → Nat → List S72
  | _, 0 => []
  | m, i + 1 => ⟨m, m + 1⟩ :: mkPacket (m + 2) i
theorem rdM_Packet (pre : List S72) (a : S72) (suf : List S72) : rd_T72 (pre ++ a :: suf) (pre.length : Int) = a := by simp [rd_T72]
theorem wrap1_Packet {m : Int} (h0 : 0 ≤ m) (h1 : m < 4611686018427387904) : wrap64 (m + 1) = m + 1 := wrap_id (by omega) (by omega)
theorem markPacket_loop : ∀ (suf pre : List S72) (k : Nat) (m : Int), suf.length < k → (pre ++ suf).length ≤ 4611686018427387 → 0 ≤ m → m + 2 * suf.length ≤ 4611686018427387904 → laws_markPacketS.l0 k (pre ++ suf) m (pre.length : Int) = some (m + 2 * suf.length, pre ++ mkPacket m suf.length)
  | [], pre, k, m, hk, hb, h0, hm => by
    obtain ⟨k, rfl⟩ := pred hk
    simp only [laws_markPacketS.l0]
    rw [if_neg (by simp)]; simp [mkPacket]
  | a :: suf, pre, k, m, hk, hb, h0, hm => by
    obtain ⟨k, rfl⟩ := pred hk
    have hl : (pre ++ a :: suf).length = pre.length + suf.length + 1 := by simp; omega
    have hc : ((a :: suf).length : Int) = suf.length + 1 := by simp
    rw [hc] at hm
    have ih := markPacket_loop suf (pre ++ [⟨m, m + 1⟩]) k (m + 2) (by simpa using hk) (by simp at hb ⊢; omega) (by omega) (by omega)
    simp only [laws_markPacketS.l0]
    rw [if_pos (by omega), if_pos (by omega), rdM_Packet, Int.toNat_natCast]
    have hset : ∀ b c : S72, (pre ++ b :: suf).set pre.length c = pre ++ c :: suf := fun b c => by rw [List.set_append_right _ _ (by omega)]; simp
    simp only [hset, Option.bind_some, rdM_Packet]
    rw [wrap1_Packet (m := m) (by omega) (by omega), wrap1_Packet (m := m + 1) (by omega) (by omega)]
    rw [wrap_len (a := (⟨m, m + 1⟩ : S72)) (by omega), app_mid]
    rw [show m + 1 + 1 = m + 2 from by omega]
    rw [ih]
    simp [mkPacket]
    omega
theorem mkPacket_len : ∀ (d : Nat) (m : Int), (mkPacket m d).length = d
  | 0, _ => rfl
  | d + 1, m => by simp [mkPacket, mkPacket_len d]
theorem markPacket_eq (l : List S72) (m : Int) (h0 : 0 ≤ m) (hm : m + 2 * l.length ≤ 4611686018427387) {k : Nat} (hk : l.length < k) : laws_markPacketS.f k l m = some (m + 2 * l.length, mkPacket m l.length) := by
  have := markPacket_loop l [] k m hk (by simp; omega) h0 (by omega)
  simpa [laws_markPacketS.f] using this
theorem heldPacket_loop : ∀ (d : Nat) (pre : List S72) (k : Nat) (m : Int), d < k → (pre ++ mkPacket m d).length ≤ 4611686018427387 → 0 ≤ m → m + 2 * d ≤ 4611686018427387904 → laws_heldPacketS.l0 k (pre ++ mkPacket m d) m (pre.length : Int) = some (m + 2 * d)
  | 0, pre, k, m, hk, hb, h0, hm => by
    obtain ⟨k, rfl⟩ := pred hk
    rw [show mkPacket m 0 = [] from rfl]
    simp only [laws_heldPacketS.l0]
    rw [if_neg (by simp)]; simp
  | d + 1, pre, k, m, hk, hb, h0, hm => by
    obtain ⟨k, rfl⟩ := pred hk
    have ih := heldPacket_loop d (pre ++ [⟨m, m + 1⟩]) k (m + 2) (by omega) (by simp [mkPacket] at hb ⊢; omega) (by omega) (by omega)
    rw [show mkPacket m (d + 1) = (⟨m, m + 1⟩ : S72) :: mkPacket (m + 2) d from rfl] at hb ⊢
    simp only [laws_heldPacketS.l0]
    have hl : ∀ (a : S72) (suf : List S72), (pre ++ a :: suf).length = pre.length + suf.length + 1 := fun a suf => by simp; omega
    rw [if_pos (by rw [hl]; omega), if_pos (by omega), rdM_Packet]
    rw [hl] at hb
    rw [wrap1_Packet (m := m) (by omega) (by omega), wrap1_Packet (m := m + 1) (by omega) (by omega)]
    rw [show m + 1 + 1 = m + 2 from by omega]
    simp only [if_true]
    rw [wrap_len (a := (⟨m, m + 1⟩ : S72)) (by omega), app_mid, ih]
    congr 1
    omega
theorem heldPacket_eq (d : Nat) (m : Int) (h0 : 0 ≤ m) (hm : m + 2 * d ≤ 4611686018427387) {k : Nat} (hk : d < k) : laws_heldPacketS.f k (mkPacket m d) m = some (m + 2 * d) := by
  have := heldPacket_loop d [] k m hk (by simp [mkPacket_len]; omega) h0 (by omega)
  simpa [laws_heldPacketS.f] using this
theorem clone_eq (l : List Int) (hl : l.length ≤ 1048576) : slices_Clone_int_int.f l = some l := by
  unfold slices_Clone_int_int.f
  rw [Option.bind_some, if_pos (by simp; omega), List.nil_append]
def packM (a b c : Int) : Int := if (0 ≤ a ∧ a ≤ 5) ∧ (0 ≤ b ∧ b ≤ 8) ∧ (0 ≤ c ∧ c ≤ 24) then a + 8 * (b + 16 * c) else -1
def unpackM (x : Int) : Int × Int × Int := if 0 ≤ x ∧ packM (x % 8) (x / 8 % 16) (x / 128) = x then (x % 8, x / 8 % 16, x / 128) else (-1, -1, -1)
theorem unpackM_c (x : Int) : (unpackM x).2.2 = -1 ∨ (0 ≤ (unpackM x).2.2 ∧ (unpackM x).2.2 ≤ 24) := by
  unfold unpackM
  by_cases h : 0 ≤ x ∧ packM (x % 8) (x / 8 % 16) (x / 128) = x
  · rw [if_pos h]
    obtain ⟨h0, h⟩ := h
    unfold packM at h
    split at h
    · exact .inr (by simp only; omega)
    · omega
  · rw [if_neg h]; exact .inl rfl
theorem iPack_eq (a b c : Int) : impl_PackControl.f a b c = some (packM a b c) := by
  unfold impl_PackControl.f packM
  rw [within_eq, Option.bind_some]
  by_cases h1 : 0 ≤ a ∧ a ≤ 5
  · rw [if_pos (decide_eq_true h1), within_eq, Option.bind_some]
    by_cases h2 : 0 ≤ b ∧ b ≤ 8
    · rw [if_pos (decide_eq_true h2), within_eq, Option.bind_some]
      by_cases h3 : 0 ≤ c ∧ c ≤ 24
      · rw [if_pos (decide_eq_true h3), if_pos ⟨h1, h2, h3⟩, wrap_id (z := 16 * c) (by omega) (by omega), wrap_id (z := b + 16 * c) (by omega) (by omega), wrap_id (z := 8 * (b + 16 * c)) (by omega) (by omega), wrap_id (by omega) (by omega)]
      · rw [if_neg (by simpa using h3), if_neg (fun h => h3 h.2.2)]
    · rw [if_neg (by simpa using h2), if_neg (fun h => h2 h.2.1)]
  · rw [if_neg (by simpa using h1), if_neg (fun h => h1 h.1)]
theorem iUnpack_eq (x : Int) (h : x ≤ 9223372036854775807) : impl_UnpackControl.f x = some (unpackM x) := by
  unfold impl_UnpackControl.f unpackM
  by_cases h0 : x < 0
  · rw [if_pos h0, if_neg (fun g => by omega)]
  · rw [if_neg h0, Int.tmod_eq_emod_of_nonneg (by omega), Int.tdiv_eq_ediv_of_nonneg (by omega), Int.tdiv_eq_ediv_of_nonneg (by omega), wrap_id (z := x / 8) (by omega) (by omega), wrap_id (z := x / 128) (by omega) (by omega), Int.tmod_eq_emod_of_nonneg (a := x / 8) (by omega), iPack_eq, Option.bind_some]
    by_cases g : packM (x % 8) (x / 8 % 16) (x / 128) = x
    · rw [if_pos g, if_pos ⟨by omega, g⟩]
    · rw [if_neg g, if_neg (fun f => g f.2)]
theorem sPack_eq (a b c : Int) : spec_PackControl.f a b c = some (packM a b c) := by
  unfold spec_PackControl.f packM
  rw [in_eq, Option.bind_some]
  by_cases h1 : 0 ≤ a ∧ a ≤ 5
  · rw [if_pos (decide_eq_true h1), in_eq, Option.bind_some]
    by_cases h2 : 0 ≤ b ∧ b ≤ 8
    · rw [if_pos (decide_eq_true h2), in_eq, Option.bind_some]
      by_cases h3 : 0 ≤ c ∧ c ≤ 24
      · rw [if_pos (decide_eq_true h3), if_pos ⟨h1, h2, h3⟩, wrap_id (z := 16 * c) (by omega) (by omega), wrap_id (z := b + 16 * c) (by omega) (by omega), wrap_id (z := 8 * (b + 16 * c)) (by omega) (by omega), wrap_id (by omega) (by omega)]
      · rw [if_neg (by simpa using h3), if_neg (fun h => h3 h.2.2)]
    · rw [if_neg (by simpa using h2), if_neg (fun h => h2 h.2.1)]
  · rw [if_neg (by simpa using h1), if_neg (fun h => h1 h.1)]
theorem sUnpack_eq (x : Int) (h : x ≤ 9223372036854775807) {k : Nat} (hk : 1 ≤ k) : spec_UnpackControl.f k x = some (unpackM x) := by
  obtain ⟨k, rfl⟩ : ∃ j, k = j + 1 := ⟨k - 1, by omega⟩
  unfold spec_UnpackControl.f unpackM
  by_cases h0 : x < 0
  · rw [if_pos h0, if_neg (fun g => by omega)]; simp [spec_UnpackControl.j0]
  · rw [if_neg h0]
    simp only [spec_UnpackControl.j0]
    by_cases h1 : x > 100000
    · rw [if_pos (decide_eq_true h1), if_neg]
      rintro ⟨_, g⟩
      unfold packM at g
      split at g <;> omega
    · rw [if_neg (by simpa using h1), Int.tmod_eq_emod_of_nonneg (by omega), Int.tdiv_eq_ediv_of_nonneg (by omega), Int.tdiv_eq_ediv_of_nonneg (by omega), wrap_id (z := x / 8) (by omega) (by omega), wrap_id (z := x / 128) (by omega) (by omega), Int.tmod_eq_emod_of_nonneg (a := x / 8) (by omega), sPack_eq, Option.bind_some]
      by_cases g : packM (x % 8) (x / 8 % 16) (x / 128) = x
      · rw [if_pos g, if_pos ⟨by omega, g⟩]
      · rw [if_neg g, if_neg (fun f => g f.2)]
def sentM (l : List Int) : List Int := if l.length = 49 then (if (unpackM (rd l 8)).2.2 < 0 then [] else (l.take (25 + (unpackM (rd l 8)).2.2).toNat).drop 25) else []
theorem sentM_len (l : List Int) : (sentM l).length ≤ 24 := by
  unfold sentM
  have := unpackM_c (rd l 8)
  split
  · split
    · simp
    · simp; omega
  · simp
theorem iSent_eq (l : List Int) (hx : rd l 8 ≤ 9223372036854775807) : impl_MemSent.f l = some (sentM l) := by
  unfold impl_MemSent.f sentM
  by_cases h : l.length = 49
  · have hc := unpackM_c (rd l 8)
    rw [if_pos (by omega), if_pos (by omega), iUnpack_eq _ hx, Option.bind_some, if_pos h]
    generalize (unpackM (rd l 8)) = u at *
    by_cases h0 : u.2.2 < 0
    · rw [if_pos h0, if_pos h0]
    · rw [if_neg h0, if_neg h0, wrap_id (z := 25 + u.2.2) (by omega) (by omega), if_pos (by omega), if_pos (by omega), clone_eq _ (by simp; omega), Option.bind_some]
  · rw [if_neg (by omega), if_neg h]
theorem sSent_eq (l : List Int) (hx : rd l 8 ≤ 9223372036854775807) {k : Nat} (hk : 1 ≤ k) : spec_MemSent.f k l = some (sentM l) := by
  unfold spec_MemSent.f sentM
  by_cases h : l.length = 49
  · have hc := unpackM_c (rd l 8)
    rw [if_pos (by omega), if_pos (by omega), sUnpack_eq _ hx hk, Option.bind_some, if_pos h]
    generalize (unpackM (rd l 8)) = u at *
    by_cases h0 : u.2.2 < 0
    · rw [if_pos h0, if_pos h0]
    · rw [if_neg h0, if_neg h0, Option.bind_some, wrap_id (z := 25 + u.2.2) (by omega) (by omega), if_pos (by omega), if_pos (by omega), if_pos (by simp; omega), List.nil_append]
  · rw [if_neg (by omega), if_neg h]
theorem pks_same : ∀ (k : Nat) (a : List Int) (b : List S72) (i : Int), spec_PacketsOf.l0 k b a i = impl_PacketsOf.l0 k a b i
  | 0, _, _, _ => rfl
  | k + 1, a, b, i => by
    simp only [spec_PacketsOf.l0, impl_PacketsOf.l0]
    split
    · split
      · split
        · exact pks_same k _ _ _
        · rfl
      · rfl
    · rfl
theorem pks_tot (a : List Int) (ha : a.length ≤ 1000) : ∀ (d i : Nat) (k : Nat) (b : List S72), i + d = a.length → d < k → b.length + d ≤ 1000 → ∃ r, impl_PacketsOf.l0 k a b (i : Int) = some r ∧ r.length ≤ 1000
  | 0, i, k, b, hi, hk, hb => by
    obtain ⟨k, rfl⟩ := pred hk
    simp only [impl_PacketsOf.l0]
    rw [if_neg (by omega)]
    exact ⟨b, rfl, by omega⟩
  | d + 1, i, k, b, hi, hk, hb => by
    obtain ⟨k, rfl⟩ := pred hk
    simp only [impl_PacketsOf.l0]
    rw [if_pos (by omega), if_pos (by omega), if_pos (by omega), wrap_id (z := (i : Int) + 1) (by omega) (by omega)]
    exact pks_tot a ha d (i + 1) k _ (by omega) (by omega) (by simp; omega)
theorem pks_both (l : List Int) (n : Int) (hx : rd l 8 ≤ 9223372036854775807) {k : Nat} (hk : 100 ≤ k) : ∃ r, r.length ≤ 1000 ∧ impl_PacketsOf.f k l n = some r ∧ spec_PacketsOf.f k l n = some r := by
  unfold impl_PacketsOf.f spec_PacketsOf.f
  have hl := sentM_len l
  rw [iSent_eq l hx, Option.bind_some, within_eq, Option.bind_some, Option.bind_some, sSent_eq l hx (by omega), Option.bind_some, in_eq, Option.bind_some]
  generalize sentM l = a at *
  by_cases h : 0 ≤ n ∧ n ≤ (a.length : Int)
  · rw [if_pos (decide_eq_true h), if_pos (decide_eq_true h), pks_same]
    obtain ⟨i, rfl⟩ := Int.eq_ofNat_of_zero_le h.1
    obtain ⟨r, e, hr⟩ := pks_tot a (by omega) (a.length - i) i k [] (by omega) (by omega) (by simp; omega)
    exact ⟨r, hr, e, e⟩
  · rw [if_neg (by simpa using h), if_neg (by simpa using h)]
    exact ⟨[], by simp, rfl, rfl⟩

theorem FnExactPacketsOf : laws_FnExactPacketsOf.Pure := by
  intro l n _ _ hw _
  refine ⟨l.length + 2000, ?_⟩
  unfold laws_FnExactPacketsOf.f
  by_cases h1 : (l.length : Int) > 1048576
  · rw [if_pos h1]
  have hx : rd l 8 ≤ 9223372036854775807 := by
    unfold rd
    by_cases h8 : 8 < l.length
    · rw [List.getD_eq_getElem?_getD, List.getElem?_eq_getElem (show ((8 : Int)).toNat < l.length from h8)]
      exact (wf_b (hw _ (List.getElem_mem _))).2
    · rw [List.getD_eq_getElem?_getD, List.getElem?_eq_none (show l.length ≤ ((8 : Int)).toNat by show l.length ≤ 8; omega)]; simp
  obtain ⟨r, hr, ei, es⟩ := pks_both l n hx (k := l.length + 2000) (by omega)
  obtain ⟨r', hr', ei', _⟩ := pks_both l n hx (k := l.length + 1999) (by omega)
  obtain rfl : r' = r := by
    have := impl_PacketsOf.mono l n (l.length + 1999) _ ei'
    rw [ei] at this
    exact (Option.some.inj this).symm
  have t1 := fun k hk => toInt_eq l (by omega) (k := k) hk
  have e1 := fun k hk => eqPacketS_eq r' (by omega) (k := k) hk
  have j0 : laws_FnExactPacketsOf.j0 (l.length + 2000) l n r' r' false = some true := by
    simp only [laws_FnExactPacketsOf.j0, Bool.false_eq_true, if_false]
    rw [markPacket_eq r' 1 (by omega) (by omega) (by omega), Option.bind_some]
    simp only
    rw [heldPacket_eq r'.length 1 (by omega) (by omega) (by omega), Option.bind_some, if_neg (by omega), if_pos rfl, t1 _ (by omega), Option.bind_some, ei', Option.bind_some, e1 _ (by omega), Option.bind_some, if_pos rfl, Option.bind_some, if_neg (by omega), if_pos rfl]
  rw [if_neg h1, t1 _ (by omega), Option.bind_some, es, Option.bind_some, Option.bind_some, ei, Option.bind_some, e1 _ (by omega), Option.bind_some, if_pos rfl, Option.bind_some, eqInt_eq l l (by omega) (by omega), Option.bind_some, if_pos (decide_eq_true rfl), markInt_eq l 1 (by omega) (by omega) (by omega), Option.bind_some]
  simp only
  rw [if_neg (by omega), Option.bind_some]
  exact j0

end Go.Proofs.Ytmifaijfogipgaa.Pure
