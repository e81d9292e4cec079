/- The pure statement of the law FnExactSendCost: what the printed function comes to is true. No condition beyond what every argument of these types meets. -/
import Derived.Test.YtfbndpgbebbljaaQFnExactSendCost1
import Derived.OpenShut
namespace Go.Proofs.Ytfbndpgbebbljaa.Pure
open Go.RowKit Go.Proofs.Ytfbndpgbebbljaa.QFnExactSendCost Go.Proofs.YtfbndpgbebbljaaW.PrintWords Go.Proofs.YtfbndpgbebbljaaW.PrintLast Go.Proofs.YtfbndpgbebbljaaW.PrintMore
set_option linter.unusedVariables false
set_option linter.unusedSimpArgs false

--BLOCKS
theorem wf_b {z : Int} (h : (Lit.int .i64 z).wf = true) : -9223372036854775808 ≤ z ∧ z ≤ 9223372036854775807 := bounds_i64 h
theorem wrap_id {z : Int} (h1 : -9223372036854775808 ≤ z) (h2 : z ≤ 9223372036854775807) : wrap64 z = z := by unfold wrap64; omega
theorem mn_min (a b : Int) : mn a b = min a b := by unfold mn; omega
theorem mx_max (a b : Int) : mx a b = max a b := by unfold mx; omega
theorem in_eq (x lo hi : Int) : spec_l01In.f x lo hi = some (decide (lo ≤ x ∧ x ≤ hi)) := by
  unfold spec_l01In.f; split <;> simp_all <;> omega
theorem within_eq (x lo hi : Int) : impl_within.f x lo hi = some (decide (lo ≤ x ∧ x ≤ hi)) := by
  unfold impl_within.f; split <;> simp_all <;> omega
theorem rd_mid (pre : List Int) (a : Int) (suf : List Int) : rd (pre ++ a :: suf) (pre.length : Int) = a := by simp [rd]
theorem len_mid {α : Type} (pre : List α) (a : α) (suf : List α) : (pre ++ a :: suf).length = (pre ++ [a]).length + suf.length := by simp; omega
theorem app_mid {α : Type} (pre : List α) (a : α) (suf : List α) : pre ++ a :: suf = (pre ++ [a]) ++ suf := by simp
theorem wrap_len {α : Type} {pre : List α} {a : α} (h : pre.length < 9223372036854775807) : wrap64 ((pre.length : Int) + 1) = ((pre ++ [a]).length : Int) := by
  rw [wrap_id (by omega) (by omega)]; simp
theorem pred {d k : Nat} (h : d < k) : ∃ j, k = j + 1 := ⟨k - 1, by omega⟩
theorem and1 (n : Int) : Go.bits .and .i64 n 1 = n % 2 := by
  have h1 : (BitVec.ofInt 64 1).toNat = 2 ^ 1 - 1 := by decide
  have key : (BitVec.ofInt 64 n &&& BitVec.ofInt 64 1).toNat = (n % ((2 ^ 64 : Nat) : Int)).toNat % 2 ^ 1 := by
    rw [BitVec.toNat_and, BitVec.toNat_ofInt, h1, Nat.and_two_pow_sub_one_eq_mod]
  show IntKind.i64.wrap ((BitVec.ofInt 64 n &&& BitVec.ofInt 64 1).toNat : Nat) = n % 2
  rw [key, IntKind.wrap_i64]
  omega
theorem band255 (n : Int) : Go.bits .and .i64 n 255 = n % 256 := by
  have h255 : (BitVec.ofInt 64 255).toNat = 2 ^ 8 - 1 := by decide
  have key : (BitVec.ofInt 64 n &&& BitVec.ofInt 64 255).toNat = (n % ((2 ^ 64 : Nat) : Int)).toNat % 2 ^ 8 := by
    rw [BitVec.toNat_and, BitVec.toNat_ofInt, h255, Nat.and_two_pow_sub_one_eq_mod]
  show IntKind.i64.wrap ((BitVec.ofInt 64 n &&& BitVec.ofInt 64 255).toNat : Nat) = n % 256
  rw [key, IntKind.wrap_i64]
  omega
theorem wraps62 (n : Int) (h0 : 0 ≤ n) (h1 : n < 2 ^ 62) : IntKind.i64.wrap n = n := by rw [IntKind.wrap_i64]; omega
theorem or24 {x y : Int} (hx : 0 ≤ x ∧ x ≤ 255) (hy : 0 ≤ y ∧ y < 16777216) : Go.bits .or .i64 (x * 16777216) y = x * 16777216 + y :=
  bits_join .i64 62 (by decide) wraps62 24 _ _ (by omega) (by omega) (by omega) (by omega) (by omega) (by omega)
theorem or8 {x y : Int} (hx : 0 ≤ x ∧ x < 4294967296) (hy : 0 ≤ y ∧ y < 256) : Go.bits .or .i64 (x * 256) y = x * 256 + y :=
  bits_join .i64 62 (by decide) wraps62 8 _ _ (by omega) (by omega) (by omega) (by omega) (by omega) (by omega)
/-- The c lowest bits of a number, the most significant first. -/
def bd (x : Int) : Nat → List Int
  | 0 => []
  | c + 1 => x / 2 ^ c % 2 :: bd x c
theorem bd_len (x : Int) : ∀ c, (bd x c).length = c
  | 0 => rfl
  | c + 1 => by simp [bd, bd_len x c]
theorem bd_bit (x : Int) : ∀ c, ∀ b ∈ bd x c, 0 ≤ b ∧ b ≤ 1
  | 0 => by simp [bd]
  | c + 1 => by
    intro b hb
    rcases List.mem_cons.1 hb with hb | hb
    · omega
    · exact bd_bit x c b hb
theorem bd_join (a b : Int) (n : Nat) (hb : 0 ≤ b ∧ b < 2 ^ n) : ∀ m, bd (a * 2 ^ n + b) (m + n) = bd a m ++ bd b n
  | 0 => by
    rw [Nat.zero_add]
    show bd (a * 2 ^ n + b) n = bd b n
    have key : ∀ c, c ≤ n → bd (a * 2 ^ n + b) c = bd b c := by
      intro c
      induction c with
      | zero => exact fun _ => rfl
      | succ c ih =>
        intro hc
        rw [bd, bd, ih (by omega)]
        congr 1
        have e : (2 : Int) ^ n = 2 ^ c * (2 * 2 ^ (n - c - 1)) := by
          rw [← Int.mul_assoc, show (2 : Int) ^ c * 2 = 2 ^ (c + 1) from by rw [Int.pow_succ], ← Int.pow_add]
          congr 1; omega
        have hp : (0 : Int) < 2 ^ c := Int.pow_pos (by omega)
        rw [e, ← Int.mul_assoc, Int.mul_comm a, Int.mul_assoc, Int.add_comm, Int.add_mul_ediv_left _ _ (by omega)]
        rw [show a * (2 * 2 ^ (n - c - 1)) = 2 * (a * 2 ^ (n - c - 1)) from by rw [Int.mul_left_comm]]
        omega
    exact key n (Nat.le_refl _)
  | m + 1 => by
    rw [show m + 1 + n = (m + n) + 1 from by omega, bd, bd_join a b n hb m, bd, List.cons_append]
    congr 1
    have hp : (0 : Int) < 2 ^ n := Int.pow_pos (by omega)
    rw [Nat.add_comm m n, Int.pow_add, ← Int.ediv_ediv_of_nonneg (by omega)]
    rw [show (a * 2 ^ n + b) / 2 ^ n = a from by
      rw [Int.add_comm, Int.add_mul_ediv_right _ _ (by omega), Int.ediv_eq_zero_of_lt hb.1 hb.2]; omega]
theorem shr_i64 (x : Int) {i : Nat} (h : i ≤ 64) : shr .i64 x (i : Int) = x / 2 ^ i := by
  unfold shr
  rw [Int.toNat_natCast, show min i (IntKind.i64.bits) = i from by
    rw [show IntKind.i64.bits = 64 from rfl]; omega]
theorem iBits_loop (x : Int) : ∀ (c k : Nat) (acc : List Int), c < k → acc.length + c ≤ 64 → impl_PacketBits.l0 k x acc ((c : Int) - 1) = some (acc ++ bd x c)
  | 0, k, acc, hk, hb => by
    obtain ⟨k, rfl⟩ := pred hk
    simp only [impl_PacketBits.l0]
    rw [if_neg (by omega)]; simp [bd]
  | c + 1, k, acc, hk, hb => by
    obtain ⟨k, rfl⟩ := pred hk
    have ih := iBits_loop x c k (acc ++ [x / 2 ^ c % 2]) (by omega) (by simp; omega)
    have e : ((c + 1 : Nat) : Int) - 1 = (c : Int) := by omega
    rw [e]
    simp only [impl_PacketBits.l0]
    rw [if_pos (by omega), if_pos (by omega), if_pos (by omega), shr_i64 x (by omega), and1, wrap_id (z := (c : Int) - 1) (by omega) (by omega), ih, bd]
    simp
/-- The bits of a packet. -/
def sumB (q v : Int) : Int := (q + v / 65536 + v / 256 % 256 + v % 256) % 251
def pbM (q v : Int) : List Int := if (0 ≤ q ∧ q ≤ 255) ∧ (-1000000 ≤ v ∧ v ≤ 1000000) then bd q 8 ++ bd (v + 8388608) 24 ++ bd (sumB q (v + 8388608)) 8 else []
theorem pbM_word {q v : Int} (hq : 0 ≤ q ∧ q ≤ 255) (hv : 0 ≤ v ∧ v < 16777216) : bd ((q * 16777216 + v) * 256 + sumB q v) 40 = bd q 8 ++ bd v 24 ++ bd (sumB q v) 8 := by
  have hs : 0 ≤ sumB q v ∧ sumB q v < 251 := by unfold sumB; omega
  have h1 := bd_join (q * 16777216 + v) (sumB q v) 8 (by omega) 32
  have h2 := bd_join q v 24 (by omega) 8
  have e1 : (2 : Int) ^ 8 = 256 := by decide
  have e2 : (2 : Int) ^ 24 = 16777216 := by decide
  rw [e1] at h1
  rw [e2] at h2
  rw [show (40 : Nat) = 32 + 8 from rfl, h1, show (32 : Nat) = 8 + 24 from rfl, h2]
theorem iPB_eq (q v : Int) {k : Nat} (hk : 42 ≤ k) : impl_PacketBits.f k q v = some (pbM q v) := by
  obtain ⟨k, rfl⟩ : ∃ j, k = j + 1 := ⟨k - 1, by omega⟩
  unfold impl_PacketBits.f impl_IsValue.f pbM
  simp only [within_eq, Option.bind_some, impl_PacketBits.j0]
  by_cases h1 : 0 ≤ q ∧ q ≤ 255
  · by_cases h2 : -1000000 ≤ v ∧ v ≤ 1000000
    · simp only [decide_eq_true h1, decide_eq_true h2, Bool.not_true, Bool.false_eq_true, if_true, if_false]
      have hh := And.intro h1 h2
      rw [if_pos hh]
      have hv : 0 ≤ v + 8388608 ∧ v + 8388608 < 16777216 := by omega
      rw [wrap_id (z := q * 16777216) (by omega) (by omega), wrap_id (z := v + 8388608) (by omega) (by omega), or24 h1 hv]
      generalize v + 8388608 = u at *
      rw [band255, band255, band255, show (q * 16777216 + u) / 16777216 = q from by omega, show (q * 16777216 + u) / 65536 % 256 = u / 65536 from by omega, show (q * 16777216 + u) / 256 % 256 = u / 256 % 256 from by omega, show (q * 16777216 + u) % 256 = u % 256 from by omega]
      rw [wrap_id (z := q + u / 65536) (by omega) (by omega), wrap_id (z := q + u / 65536 + u / 256 % 256) (by omega) (by omega), wrap_id (z := q + u / 65536 + u / 256 % 256 + u % 256) (by omega) (by omega), Int.tmod_eq_emod_of_nonneg (by omega)]
      rw [show (q + u / 65536 + u / 256 % 256 + u % 256) % 251 = sumB q u from rfl]
      have hs : 0 ≤ sumB q u ∧ sumB q u < 251 := by unfold sumB; omega
      rw [wrap_id (z := (q * 16777216 + u) * 256) (by omega) (by omega), or8 (by omega) (by omega)]
      have := iBits_loop ((q * 16777216 + u) * 256 + sumB q u) 40 k [] (by omega) (by simp)
      rw [pbM_word h1 hv] at this
      exact this
    · simp only [decide_eq_true h1, decide_eq_false h2, Bool.not_false, if_true]
      rw [if_neg (fun h => h2 h.2)]
  · simp only [decide_eq_false h1, Bool.false_eq_true, if_false, if_true]
    rw [if_neg (fun h => h1 h.1)]
theorem pbM_len (q v : Int) : (pbM q v).length ≤ 40 := by
  unfold pbM; split
  · simp [bd_len]
  · simp
theorem sBits_loop (x : Int) : ∀ (c k : Nat) (acc : List Int), c < k → acc.length + c ≤ 64 → spec_l30Bits.l0 k acc x ((c : Int) - 1) = some (acc ++ bd x c)
  | 0, k, acc, hk, hb => by
    obtain ⟨k, rfl⟩ := pred hk
    simp only [spec_l30Bits.l0]
    rw [if_neg (by omega)]; simp [bd]
  | c + 1, k, acc, hk, hb => by
    obtain ⟨k, rfl⟩ := pred hk
    have ih := sBits_loop x c k (acc ++ [x / 2 ^ c % 2]) (by omega) (by simp; omega)
    have e : ((c + 1 : Nat) : Int) - 1 = (c : Int) := by omega
    rw [e]
    have hw : IntKind.u64.wrap (c : Int) = (c : Int) := by simp [IntKind.wrap, IntKind.bits, IntKind.signed]; omega
    simp only [spec_l30Bits.l0]
    rw [if_pos (by omega), hw, if_pos (by omega), if_pos (by omega), shr_i64 x (by omega), and1, wrap_id (z := (c : Int) - 1) (by omega) (by omega), ih, bd]
    simp
theorem sBits_eq (acc : List Int) (x : Int) (c : Nat) {k : Nat} (hk : c < k) (hb : acc.length + c ≤ 64) : spec_l30Bits.f k acc x (c : Int) = some (acc ++ bd x c) := by
  unfold spec_l30Bits.f
  rw [wrap_id (by omega) (by omega)]
  exact sBits_loop x c k acc hk hb
theorem sPB_eq (q v : Int) {k : Nat} (hk : 42 ≤ k) : spec_PacketBits.f k q v = some (pbM q v) := by
  obtain ⟨k, rfl⟩ : ∃ j, k = j + 1 := ⟨k - 1, by omega⟩
  unfold spec_PacketBits.f spec_IsValue.f pbM
  simp only [in_eq, Option.bind_some, spec_PacketBits.j0]
  by_cases h1 : 0 ≤ q ∧ q ≤ 255
  · by_cases h2 : -1000000 ≤ v ∧ v ≤ 1000000
    · simp only [decide_eq_true h1, decide_eq_true h2, Bool.not_true, Bool.false_eq_true, if_true, if_false]
      have hh := And.intro h1 h2
      rw [if_pos hh]
      have hv : 0 ≤ v + 8388608 ∧ v + 8388608 < 16777216 := by omega
      rw [wrap_id (z := v + 8388608) (by omega) (by omega)]
      generalize v + 8388608 = u at *
      have b1 := sBits_eq [] q 8 (k := k) (by omega) (by simp)
      have b2 := sBits_eq (bd q 8) u 24 (k := k) (by omega) (by simp [bd_len])
      have b3 := sBits_eq (bd q 8 ++ bd u 24) (sumB q u) 8 (k := k) (by omega) (by simp [bd_len])
      have b1 : spec_l30Bits.f k [] q 8 = some (bd q 8) := b1
      have b2 : spec_l30Bits.f k (bd q 8) u 24 = some (bd q 8 ++ bd u 24) := b2
      have b3 : spec_l30Bits.f k (bd q 8 ++ bd u 24) (sumB q u) 8 = some (bd q 8 ++ bd u 24 ++ bd (sumB q u) 8) := b3
      rw [b1, Option.bind_some, b2, Option.bind_some]
      rw [Int.tdiv_eq_ediv_of_nonneg hv.1, Int.tdiv_eq_ediv_of_nonneg hv.1, Int.tmod_eq_emod_of_nonneg (a := u) hv.1, wrap_id (z := u / 65536) (by omega) (by omega), wrap_id (z := u / 256) (by omega) (by omega), Int.tmod_eq_emod_of_nonneg (a := u / 256) (by omega)]
      rw [wrap_id (z := q + u / 65536) (by omega) (by omega), wrap_id (z := q + u / 65536 + u / 256 % 256) (by omega) (by omega), wrap_id (z := q + u / 65536 + u / 256 % 256 + u % 256) (by omega) (by omega), Int.tmod_eq_emod_of_nonneg (by omega)]
      rw [show (q + u / 65536 + u / 256 % 256 + u % 256) % 251 = sumB q u from rfl, b3, Option.bind_some]
    · simp only [decide_eq_true h1, decide_eq_false h2, Bool.not_false, if_true]
      rw [if_neg (fun h => h2 h.2)]
  · simp only [decide_eq_false h1, Bool.false_eq_true, if_false, if_true]
    rw [if_neg (fun h => h1 h.1)]
theorem iSend_loop : ∀ (suf pre : List Int) (k : Nat) (r : Int), suf.length < k → (pre ++ suf).length < 1000 → (∀ b ∈ suf, 0 ≤ b ∧ b ≤ 1) → 0 ≤ r → r + suf.length ≤ 2000 → impl_SendCost.l0 k r (pre ++ suf) ((pre ++ suf).length : Int) (pre.length : Int) = some (r + suf.sum)
  | [], pre, k, r, hk, hb, ha, h0, h1 => by
    obtain ⟨k, rfl⟩ := pred hk
    simp only [impl_SendCost.l0]
    rw [if_neg (by simp)]; simp
  | a :: suf, pre, k, r, hk, hb, ha, h0, h1 => by
    obtain ⟨k, rfl⟩ := pred hk
    have hl : (pre ++ a :: suf).length = pre.length + suf.length + 1 := by simp; omega
    have hab := ha a (by simp)
    have hc : ((a :: suf).length : Int) = suf.length + 1 := by simp
    have ih := iSend_loop suf (pre ++ [a]) k (r + a) (by simpa using hk) (by simpa using hb) (fun b hb' => ha b (by simp [hb'])) (by omega) (by omega)
    simp only [impl_SendCost.l0]
    rw [if_pos (by omega), if_pos (by omega), if_pos (by omega), rd_mid, wrap_id (z := r + a) (by omega) (by omega), wrap_len (a := a) (by omega), app_mid, ih]
    simp; omega
theorem pbM_bit (q v : Int) : ∀ b ∈ pbM q v, 0 ≤ b ∧ b ≤ 1 := by
  unfold pbM; split
  · intro b hb
    simp only [List.mem_append] at hb
    rcases hb with (hb | hb) | hb
    · exact bd_bit _ _ b hb
    · exact bd_bit _ _ b hb
    · exact bd_bit _ _ b hb
  · simp
def sendM (q v : Int) : Int := if pbM q v = [] then 0 else 10 + (pbM q v).sum
theorem iSend_eq (q v : Int) {k : Nat} (hk : 60 ≤ k) : impl_SendCost.f k q v = some (sendM q v) := by
  unfold impl_SendCost.f sendM
  rw [iPB_eq q v (by omega), Option.bind_some]
  have hl := pbM_len q v
  by_cases h : pbM q v = []
  · rw [if_pos (by rw [h]; rfl), if_pos h]
  · rw [if_neg (fun e => h (List.length_eq_zero_iff.1 (by omega))), if_neg h]
    exact iSend_loop (pbM q v) [] k 10 (by omega) (by simp; omega) (pbM_bit q v) (by omega) (by omega)
theorem sSend_loop : ∀ (suf pre : List Int) (k : Nat) (r : Int), suf.length < k → (pre ++ suf).length < 1000 → (∀ b ∈ suf, 0 ≤ b ∧ b ≤ 1) → 0 ≤ r → r + suf.length ≤ 2000 → spec_SendCost.l0 k (pre ++ suf) r (pre.length : Int) = some (r + suf.sum)
  | [], pre, k, r, hk, hb, ha, h0, h1 => by
    obtain ⟨k, rfl⟩ := pred hk
    simp only [spec_SendCost.l0]
    rw [if_neg (by simp)]; simp
  | a :: suf, pre, k, r, hk, hb, ha, h0, h1 => by
    obtain ⟨k, rfl⟩ := pred hk
    have hl : (pre ++ a :: suf).length = pre.length + suf.length + 1 := by simp; omega
    have hab := ha a (by simp)
    have hc : ((a :: suf).length : Int) = suf.length + 1 := by simp
    have ih := sSend_loop suf (pre ++ [a]) k (r + a) (by simpa using hk) (by simpa using hb) (fun b hb' => ha b (by simp [hb'])) (by omega) (by omega)
    simp only [spec_SendCost.l0]
    rw [if_pos (by omega), if_pos (by omega), rd_mid, wrap_id (z := r + a) (by omega) (by omega), wrap_len (a := a) (by omega), app_mid, ih]
    simp; omega
theorem sSend_eq (q v : Int) {k : Nat} (hk : 60 ≤ k) : spec_SendCost.f k q v = some (sendM q v) := by
  unfold spec_SendCost.f sendM
  rw [sPB_eq q v (by omega), Option.bind_some]
  have hl := pbM_len q v
  by_cases h : pbM q v = []
  · rw [if_pos (by rw [h]; rfl), if_pos h]
  · rw [if_neg (fun e => h (List.length_eq_zero_iff.1 (by omega))), if_neg h]
    exact sSend_loop (pbM q v) [] k 10 (by omega) (by simp; omega) (pbM_bit q v) (by omega) (by omega)

theorem FnExactSendCost : ∀ (a0_0 : Int) (a0_1 : Int), ((Lit.int .i64 a0_0).wf = true) → ((Lit.int .i64 a0_1).wf = true) → ∃ k, laws_FnExactSendCost.f k a0_0 a0_1 = some true := by
  intro q v _ _
  refine ⟨60, ?_⟩
  simp [laws_FnExactSendCost.f, laws_toPacket.f, sSend_eq q v (k := 60) (by omega), iSend_eq q v (k := 60) (by omega)]

end Go.Proofs.Ytfbndpgbebbljaa.Pure
