/- The pure statement of the law FnPackets: what the printed function comes to is true for every list of bytes. No condition beyond the row's own bounds. -/
import Derived.Test.YtfbndpgbebbljaaQFnPackets1
import Derived.OpenShut
namespace Go.Proofs.Ytfbndpgbebbljaa.Pure
open Go.RowKit Go.Proofs.Ytfbndpgbebbljaa.QFnPackets Go.Proofs.YtfbndpgbebbljaaW.PrintWords Go.Proofs.YtfbndpgbebbljaaW.PrintLast Go.Proofs.YtfbndpgbebbljaaW.PrintMore
set_option linter.unusedVariables false
set_option linter.unusedSimpArgs false
--BLOCKS
theorem wf_b {z : Int} (h : (Lit.int .i64 z).wf = true) : -9223372036854775808 ≤ z ∧ z ≤ 9223372036854775807 := bounds_i64 h
theorem wrap_id {z : Int} (h1 : -9223372036854775808 ≤ z) (h2 : z ≤ 9223372036854775807) : wrap64 z = z := by unfold wrap64; omega
theorem mn_min (a b : Int) : mn a b = min a b := by unfold mn; omega
theorem mx_max (a b : Int) : mx a b = max a b := by unfold mx; omega
theorem within_eq (x lo hi : Int) : impl_within.f x lo hi = some (decide (lo ≤ x ∧ x ≤ hi)) := by
  unfold impl_within.f; split <;> simp_all <;> omega
theorem and255 (n : Int) : Go.bits .and .i64 n 255 = n % 256 := by
  have h255 : (BitVec.ofInt 64 255).toNat = 2 ^ 8 - 1 := by decide
  have key : (BitVec.ofInt 64 n &&& BitVec.ofInt 64 255).toNat = (n % ((2 ^ 64 : Nat) : Int)).toNat % 2 ^ 8 := by
    rw [BitVec.toNat_and, BitVec.toNat_ofInt, h255, Nat.and_two_pow_sub_one_eq_mod]
  show IntKind.i64.wrap ((BitVec.ofInt 64 n &&& BitVec.ofInt 64 255).toNat : Nat) = n % 256
  rw [key, IntKind.wrap_i64]
  omega
/-- The cursor lies within its bytes. -/
def Cur (s : List Int) (i : Int) : Prop := 0 ≤ i ∧ i ≤ s.length ∧ s.length ≤ 140737488351232
theorem byte_ev (s : List Int) (i h : Int) (hc : Cur s i) : ∃ x i' h', spec_l01Byte.f s i h = some (x, i', h') ∧ (0 ≤ x ∧ x ≤ 255) ∧ Cur s i' := by
  obtain ⟨h0, h1, h2⟩ := hc
  unfold spec_l01Byte.f
  split
  · try rw [if_pos h0]
    rw [and255, wrap_id (z := i + 1) (by omega) (by omega)]
    exact ⟨_, _, _, rfl, by omega, by omega, by omega, h2⟩
  · rw [and255]
    exact ⟨_, _, _, rfl, by omega, h0, h1, h2⟩
theorem below_ev (s : List Int) (i h n : Int) (hc : Cur s i) (hn : 0 < n) : ∃ x i' h', spec_l01Below.f s i h n = some (x, i', h') ∧ (0 ≤ x ∧ x < n) ∧ Cur s i' := by
  unfold spec_l01Below.f
  rw [if_neg (by omega)]
  split
  · obtain ⟨x, i1, h1, e1, hx, hc1⟩ := byte_ev s i h hc
    rw [e1]; simp only [Option.bind_some]
    rw [if_neg (by omega)]
    refine ⟨_, _, _, rfl, ?_, hc1⟩
    have := Int.tmod_eq_emod_of_nonneg hx.1 (b := n)
    rw [this]
    exact ⟨Int.emod_nonneg _ (by omega), Int.emod_lt_of_pos _ hn⟩
  · obtain ⟨x, i1, h1, e1, hx, hc1⟩ := byte_ev s i h hc
    obtain ⟨y, i2, h2, e2, hy, hc2⟩ := byte_ev s i1 h1 hc1
    obtain ⟨z, i3, h3, e3, hz, hc3⟩ := byte_ev s i2 h2 hc2
    obtain ⟨v, i4, h4, e4, hv, hc4⟩ := byte_ev s i3 h3 hc3
    rw [e1]; simp only [Option.bind_some]
    rw [e2]; simp only [Option.bind_some]
    rw [e3]; simp only [Option.bind_some]
    rw [e4]; simp only [Option.bind_some]
    rw [if_neg (by omega)]
    refine ⟨_, _, _, rfl, ?_, hc4⟩
    have hw : wrap64 ((wrap64 ((wrap64 ((wrap64 (x * 16777216)) + (wrap64 (y * 65536)))) + (wrap64 (z * 256)))) + v) = x * 16777216 + y * 65536 + z * 256 + v := by
      rw [wrap_id (z := x * 16777216) (by omega) (by omega), wrap_id (z := y * 65536) (by omega) (by omega), wrap_id (z := z * 256) (by omega) (by omega), wrap_id (z := x * 16777216 + y * 65536) (by omega) (by omega), wrap_id (z := x * 16777216 + y * 65536 + z * 256) (by omega) (by omega), wrap_id (by omega) (by omega)]
    rw [hw, Int.tmod_eq_emod_of_nonneg (by omega)]
    exact ⟨Int.emod_nonneg _ (by omega), Int.emod_lt_of_pos _ hn⟩
theorem new_loop (s : List Int) (hs : s.length ≤ 140737488351232) : ∀ (d k i : Nat) (h : Int), i + d = s.length → d < k → ∃ h', spec_l01New.l0 k s h (i : Int) = some (s, 0, h')
  | 0, k, i, h, hi, hk => by
    obtain ⟨k, rfl⟩ : ∃ j, k = j + 1 := ⟨k - 1, by omega⟩
    simp only [spec_l01New.l0]
    rw [if_neg (by omega)]
    exact ⟨_, rfl⟩
  | d + 1, k, i, h, hi, hk => by
    obtain ⟨k, rfl⟩ : ∃ j, k = j + 1 := ⟨k - 1, by omega⟩
    simp only [spec_l01New.l0]
    rw [if_pos (by omega)]
    split
    · rw [if_pos (by omega), wrap_id (z := (i : Int) + 1) (by omega) (by omega)]
      exact new_loop s hs d k (i + 1) _ (by omega) (by omega)
    · exact ⟨_, rfl⟩
/-- A cursor of the call's own, with enough rounds. -/
theorem new_ev (s : List Int) (hs : s.length ≤ 140737488351232) {k : Nat} (hk : s.length < k) : ∃ h', spec_l01New.f k s = some (s, 0, h') := new_loop s hs s.length k 0 _ (by omega) hk
theorem cur0 {s : List Int} (hs : s.length ≤ 140737488351232) : Cur s 0 := ⟨by omega, by omega, hs⟩
theorem rd_mid (pre : List Int) (a : Int) (suf : List Int) : rd (pre ++ a :: suf) (pre.length : Int) = a := by simp [rd]
theorem len_mid {α : Type} (pre : List α) (a : α) (suf : List α) : (pre ++ a :: suf).length = (pre ++ [a]).length + suf.length := by simp; omega
theorem app_mid {α : Type} (pre : List α) (a : α) (suf : List α) : pre ++ a :: suf = (pre ++ [a]) ++ suf := by simp
theorem wrap_len {α : Type} {pre : List α} {a : α} (h : pre.length < 9223372036854775807) : wrap64 ((pre.length : Int) + 1) = ((pre ++ [a]).length : Int) := by
  rw [wrap_id (by omega) (by omega)]; simp
theorem pred {d k : Nat} (h : d < k) : ∃ j, k = j + 1 := ⟨k - 1, by omega⟩
theorem equal_loop : ∀ (s1 s2 pre : List Int) (k : Nat), s1.length < k → s2.length = s1.length → (pre ++ s1).length < 9223372036854775807 → slices_Equal_int_int.l0 k (pre ++ s1) (pre ++ s2) ((pre ++ s1).length : Int) (pre.length : Int) = some (decide (s1 = s2))
  | [], s2, pre, k, hk, hr, hb => by
    obtain ⟨k, rfl⟩ := pred hk
    obtain rfl : s2 = [] := List.length_eq_zero_iff.1 hr
    simp only [slices_Equal_int_int.l0]
    rw [if_neg (by simp)]; simp
  | a :: s1, b :: s2, pre, k, hk, hr, hb => by
    obtain ⟨k, rfl⟩ := pred hk
    have hl : (pre ++ a :: s1).length = pre.length + s1.length + 1 := by simp; omega
    have hl2 : (pre ++ b :: s2).length = pre.length + s2.length + 1 := by simp; omega
    simp only [slices_Equal_int_int.l0]
    rw [if_pos (by omega), if_pos (by omega), if_pos (by omega), if_pos (by simp at hr; omega), rd_mid, rd_mid]
    by_cases hab : a = b
    · subst hab
      have ih := equal_loop s1 s2 (pre ++ [a]) k (by simpa using hk) (by simpa using hr) (by simpa using hb)
      rw [if_pos rfl, wrap_len (a := a) (by omega), app_mid, app_mid pre a s2, ih]
      simp
    · rw [if_neg hab]; simp [hab]
  | _ :: _, [], _, _, _, hr, _ => by simp at hr
theorem equal_eq (l m : List Int) (hl : l.length < 9223372036854775807) {k : Nat} (hk : l.length < k) : slices_Equal_int_int.f k l m = some (decide (l = m)) := by
  unfold slices_Equal_int_int.f
  by_cases h : l.length = m.length
  · rw [if_pos (by omega)]
    have := equal_loop l m [] k hk h.symm (by simpa using hl)
    simpa using this
  · rw [if_neg (by omega), decide_eq_false (fun e => h (by rw [e]))]
theorem and1 (n : Int) : Go.bits .and .i64 n 1 = n % 2 := by
  have h1 : (BitVec.ofInt 64 1).toNat = 2 ^ 1 - 1 := by decide
  have key : (BitVec.ofInt 64 n &&& BitVec.ofInt 64 1).toNat = (n % ((2 ^ 64 : Nat) : Int)).toNat % 2 ^ 1 := by
    rw [BitVec.toNat_and, BitVec.toNat_ofInt, h1, Nat.and_two_pow_sub_one_eq_mod]
  show IntKind.i64.wrap ((BitVec.ofInt 64 n &&& BitVec.ofInt 64 1).toNat : Nat) = n % 2
  rw [key, IntKind.wrap_i64]
  omega
theorem band255 (n : Int) : Go.bits .and .i64 n 255 = n % 256 := by
  have h255 : (BitVec.ofInt 64 255).toNat = 2 ^ 8 - 1 := by decide
  have key : (BitVec.ofInt 64 n &&& BitVec.ofInt 64 255).toNat = (n % ((2 ^ 64 : Nat) : Int)).toNat % 2 ^ 8 := by
    rw [BitVec.toNat_and, BitVec.toNat_ofInt, h255, Nat.and_two_pow_sub_one_eq_mod]
  show IntKind.i64.wrap ((BitVec.ofInt 64 n &&& BitVec.ofInt 64 255).toNat : Nat) = n % 256
  rw [key, IntKind.wrap_i64]
  omega
theorem wraps62 (n : Int) (h0 : 0 ≤ n) (h1 : n < 2 ^ 62) : IntKind.i64.wrap n = n := by rw [IntKind.wrap_i64]; omega
theorem or24 {x y : Int} (hx : 0 ≤ x ∧ x ≤ 255) (hy : 0 ≤ y ∧ y < 16777216) : Go.bits .or .i64 (x * 16777216) y = x * 16777216 + y :=
  bits_join .i64 62 (by decide) wraps62 24 _ _ (by omega) (by omega) (by omega) (by omega) (by omega) (by omega)
theorem or8 {x y : Int} (hx : 0 ≤ x ∧ x < 4294967296) (hy : 0 ≤ y ∧ y < 256) : Go.bits .or .i64 (x * 256) y = x * 256 + y :=
  bits_join .i64 62 (by decide) wraps62 8 _ _ (by omega) (by omega) (by omega) (by omega) (by omega) (by omega)
/-- The c lowest bits of a number, the most significant first. -/
def bd (x : Int) : Nat → List Int
  | 0 => []
  | c + 1 => x / 2 ^ c % 2 :: bd x c
theorem bd_len (x : Int) : ∀ c, (bd x c).length = c
  | 0 => rfl
  | c + 1 => by simp [bd, bd_len x c]
theorem bd_bit (x : Int) : ∀ c, ∀ b ∈ bd x c, 0 ≤ b ∧ b ≤ 1
  | 0 => by simp [bd]
  | c + 1 => by
    intro b hb
    rcases List.mem_cons.1 hb with hb | hb
    · omega
    · exact bd_bit x c b hb
theorem bd_join (a b : Int) (n : Nat) (hb : 0 ≤ b ∧ b < 2 ^ n) : ∀ m, bd (a * 2 ^ n + b) (m + n) = bd a m ++ bd b n
  | 0 => by
    rw [Nat.zero_add]
    show bd (a * 2 ^ n + b) n = bd b n
    have key : ∀ c, c ≤ n → bd (a * 2 ^ n + b) c = bd b c := by
      intro c
      induction c with
      | zero => exact fun _ => rfl
      | succ c ih =>
        intro hc
        rw [bd, bd, ih (by omega)]
        congr 1
        have e : (2 : Int) ^ n = 2 ^ c * (2 * 2 ^ (n - c - 1)) := by
          rw [← Int.mul_assoc, show (2 : Int) ^ c * 2 = 2 ^ (c + 1) from by rw [Int.pow_succ], ← Int.pow_add]
          congr 1; omega
        have hp : (0 : Int) < 2 ^ c := Int.pow_pos (by omega)
        rw [e, ← Int.mul_assoc, Int.mul_comm a, Int.mul_assoc, Int.add_comm, Int.add_mul_ediv_left _ _ (by omega)]
        rw [show a * (2 * 2 ^ (n - c - 1)) = 2 * (a * 2 ^ (n - c - 1)) from by rw [Int.mul_left_comm]]
        omega
    exact key n (Nat.le_refl _)
  | m + 1 => by
    rw [show m + 1 + n = (m + n) + 1 from by omega, bd, bd_join a b n hb m, bd, List.cons_append]
    congr 1
    have hp : (0 : Int) < 2 ^ n := Int.pow_pos (by omega)
    rw [Nat.add_comm m n, Int.pow_add, ← Int.ediv_ediv_of_nonneg (by omega)]
    rw [show (a * 2 ^ n + b) / 2 ^ n = a from by
      rw [Int.add_comm, Int.add_mul_ediv_right _ _ (by omega), Int.ediv_eq_zero_of_lt hb.1 hb.2]; omega]
theorem shr_i64 (x : Int) {i : Nat} (h : i ≤ 64) : shr .i64 x (i : Int) = x / 2 ^ i := by
  unfold shr
  rw [Int.toNat_natCast, show min i (IntKind.i64.bits) = i from by
    rw [show IntKind.i64.bits = 64 from rfl]; omega]
theorem iBits_loop (x : Int) : ∀ (c k : Nat) (acc : List Int), c < k → acc.length + c ≤ 64 → impl_PacketBits.l0 k x acc ((c : Int) - 1) = some (acc ++ bd x c)
  | 0, k, acc, hk, hb => by
    obtain ⟨k, rfl⟩ := pred hk
    simp only [impl_PacketBits.l0]
    rw [if_neg (by omega)]; simp [bd]
  | c + 1, k, acc, hk, hb => by
    obtain ⟨k, rfl⟩ := pred hk
    have ih := iBits_loop x c k (acc ++ [x / 2 ^ c % 2]) (by omega) (by simp; omega)
    have e : ((c + 1 : Nat) : Int) - 1 = (c : Int) := by omega
    rw [e]
    simp only [impl_PacketBits.l0]
    rw [if_pos (by omega), if_pos (by omega), if_pos (by omega), shr_i64 x (by omega), and1, wrap_id (z := (c : Int) - 1) (by omega) (by omega), ih, bd]
    simp
/-- The bits of a packet. -/
def sumB (q v : Int) : Int := (q + v / 65536 + v / 256 % 256 + v % 256) % 251
def pbM (q v : Int) : List Int := if (0 ≤ q ∧ q ≤ 255) ∧ (-1000000 ≤ v ∧ v ≤ 1000000) then bd q 8 ++ bd (v + 8388608) 24 ++ bd (sumB q (v + 8388608)) 8 else []
theorem pbM_word {q v : Int} (hq : 0 ≤ q ∧ q ≤ 255) (hv : 0 ≤ v ∧ v < 16777216) : bd ((q * 16777216 + v) * 256 + sumB q v) 40 = bd q 8 ++ bd v 24 ++ bd (sumB q v) 8 := by
  have hs : 0 ≤ sumB q v ∧ sumB q v < 251 := by unfold sumB; omega
  have h1 := bd_join (q * 16777216 + v) (sumB q v) 8 (by omega) 32
  have h2 := bd_join q v 24 (by omega) 8
  have e1 : (2 : Int) ^ 8 = 256 := by decide
  have e2 : (2 : Int) ^ 24 = 16777216 := by decide
  rw [e1] at h1
  rw [e2] at h2
  rw [show (40 : Nat) = 32 + 8 from rfl, h1, show (32 : Nat) = 8 + 24 from rfl, h2]
theorem iPB_eq (q v : Int) {k : Nat} (hk : 42 ≤ k) : impl_PacketBits.f k q v = some (pbM q v) := by
  obtain ⟨k, rfl⟩ : ∃ j, k = j + 1 := ⟨k - 1, by omega⟩
  unfold impl_PacketBits.f impl_IsValue.f pbM
  simp only [within_eq, Option.bind_some, impl_PacketBits.j0]
  by_cases h1 : 0 ≤ q ∧ q ≤ 255
  · by_cases h2 : -1000000 ≤ v ∧ v ≤ 1000000
    · simp only [decide_eq_true h1, decide_eq_true h2, Bool.not_true, Bool.false_eq_true, if_true, if_false]
      have hh := And.intro h1 h2
      rw [if_pos hh]
      have hv : 0 ≤ v + 8388608 ∧ v + 8388608 < 16777216 := by omega
      rw [wrap_id (z := q * 16777216) (by omega) (by omega), wrap_id (z := v + 8388608) (by omega) (by omega), or24 h1 hv]
      generalize v + 8388608 = u at *
      rw [band255, band255, band255, show (q * 16777216 + u) / 16777216 = q from by omega, show (q * 16777216 + u) / 65536 % 256 = u / 65536 from by omega, show (q * 16777216 + u) / 256 % 256 = u / 256 % 256 from by omega, show (q * 16777216 + u) % 256 = u % 256 from by omega]
      rw [wrap_id (z := q + u / 65536) (by omega) (by omega), wrap_id (z := q + u / 65536 + u / 256 % 256) (by omega) (by omega), wrap_id (z := q + u / 65536 + u / 256 % 256 + u % 256) (by omega) (by omega), Int.tmod_eq_emod_of_nonneg (by omega)]
      rw [show (q + u / 65536 + u / 256 % 256 + u % 256) % 251 = sumB q u from rfl]
      have hs : 0 ≤ sumB q u ∧ sumB q u < 251 := by unfold sumB; omega
      rw [wrap_id (z := (q * 16777216 + u) * 256) (by omega) (by omega), or8 (by omega) (by omega)]
      have := iBits_loop ((q * 16777216 + u) * 256 + sumB q u) 40 k [] (by omega) (by simp)
      rw [pbM_word h1 hv] at this
      exact this
    · simp only [decide_eq_true h1, decide_eq_false h2, Bool.not_false, if_true]
      rw [if_neg (fun h => h2 h.2)]
  · simp only [decide_eq_false h1, Bool.false_eq_true, if_false, if_true]
    rw [if_neg (fun h => h1 h.1)]
theorem pbM_len (q v : Int) : (pbM q v).length ≤ 40 := by
  unfold pbM; split
  · simp [bd_len]
  · simp
theorem iSend_loop : ∀ (suf pre : List Int) (k : Nat) (r : Int), suf.length < k → (pre ++ suf).length < 1000 → (∀ b ∈ suf, 0 ≤ b ∧ b ≤ 1) → 0 ≤ r → r + suf.length ≤ 2000 → impl_SendCost.l0 k r (pre ++ suf) ((pre ++ suf).length : Int) (pre.length : Int) = some (r + suf.sum)
  | [], pre, k, r, hk, hb, ha, h0, h1 => by
    obtain ⟨k, rfl⟩ := pred hk
    simp only [impl_SendCost.l0]
    rw [if_neg (by simp)]; simp
  | a :: suf, pre, k, r, hk, hb, ha, h0, h1 => by
    obtain ⟨k, rfl⟩ := pred hk
    have hl : (pre ++ a :: suf).length = pre.length + suf.length + 1 := by simp; omega
    have hab := ha a (by simp)
    have hc : ((a :: suf).length : Int) = suf.length + 1 := by simp
    have ih := iSend_loop suf (pre ++ [a]) k (r + a) (by simpa using hk) (by simpa using hb) (fun b hb' => ha b (by simp [hb'])) (by omega) (by omega)
    simp only [impl_SendCost.l0]
    rw [if_pos (by omega), if_pos (by omega), if_pos (by omega), rd_mid, wrap_id (z := r + a) (by omega) (by omega), wrap_len (a := a) (by omega), app_mid, ih]
    simp; omega
theorem pbM_bit (q v : Int) : ∀ b ∈ pbM q v, 0 ≤ b ∧ b ≤ 1 := by
  unfold pbM; split
  · intro b hb
    simp only [List.mem_append] at hb
    rcases hb with (hb | hb) | hb
    · exact bd_bit _ _ b hb
    · exact bd_bit _ _ b hb
    · exact bd_bit _ _ b hb
  · simp
def sendM (q v : Int) : Int := if pbM q v = [] then 0 else 10 + (pbM q v).sum
theorem iSend_eq (q v : Int) {k : Nat} (hk : 60 ≤ k) : impl_SendCost.f k q v = some (sendM q v) := by
  unfold impl_SendCost.f sendM
  rw [iPB_eq q v (by omega), Option.bind_some]
  have hl := pbM_len q v
  by_cases h : pbM q v = []
  · rw [if_pos (by rw [h]; rfl), if_pos h]
  · rw [if_neg (fun e => h (List.length_eq_zero_iff.1 (by omega))), if_neg h]
    exact iSend_loop (pbM q v) [] k 10 (by omega) (by simp; omega) (pbM_bit q v) (by omega) (by omega)
theorem pow40 {n : Nat} (h : n ≤ 40) : (2 : Int) ^ n ≤ 1099511627776 := by
  have : (2 : Nat) ^ n ≤ 2 ^ 40 := Nat.pow_le_pow_right (by omega) h
  have h2 : ((2 ^ n : Nat) : Int) ≤ ((2 ^ 40 : Nat) : Int) := Int.ofNat_le.2 this
  rw [Int.natCast_pow] at h2
  exact h2
/-- The number that bits form, behind a. -/
def num (a : Int) (l : List Int) : Int := l.foldl (fun n b => 2 * n + b) a
theorem num_bd (x : Int) : ∀ (c : Nat) (a : Int), num a (bd x c) = a * 2 ^ c + x % 2 ^ c
  | 0, a => by simp [num, bd]
  | c + 1, a => by
    have ih := num_bd x c (2 * a + x / 2 ^ c % 2)
    have e : num a (bd x (c + 1)) = num (2 * a + x / 2 ^ c % 2) (bd x c) := rfl
    rw [e, ih, Int.pow_succ]
    have hp : (0 : Int) < 2 ^ c := Int.pow_pos (by omega)
    generalize (2 : Int) ^ c = p at *
    have h1 : x % (p * 2) = (x / p % 2) * p + x % p := by
      have hm := Int.emod_nonneg x (show p ≠ 0 by omega)
      have hm2 := Int.emod_lt_of_pos x hp
      have hd : x = x / p * p + x % p := (Int.ediv_mul_add_emod x p).symm
      have hd2 : x / p = x / p / 2 * 2 + x / p % 2 := (Int.ediv_mul_add_emod (x / p) 2).symm
      have hb : 0 ≤ x / p % 2 ∧ x / p % 2 < 2 := by omega
      generalize x / p / 2 = t at *
      generalize x / p % 2 = b at *
      generalize x % p = r at *
      have hx : x = (b * p + r) + p * 2 * t := by
        rw [hd2] at hd
        rw [hd, Int.add_mul, Int.mul_assoc t 2 p, Int.mul_comm t (2 * p), Int.mul_comm 2 p]
        omega
      rw [hx, Int.add_mul_emod_self_left]
      have hbp : 0 ≤ b * p + r ∧ b * p + r < p * 2 := by
        rcases (show b = 0 ∨ b = 1 by omega) with rfl | rfl <;> omega
      exact Int.emod_eq_of_lt hbp.1 hbp.2
    rw [h1, Int.add_mul, Int.mul_comm 2 a, Int.mul_assoc a 2 p, Int.mul_comm 2 p]
    omega
theorem num_app (a : Int) (l m : List Int) : num a (l ++ m) = num (num a l) m := by simp [num, List.foldl_append]
theorem num_lo {l : List Int} : ∀ {a : Int}, (∀ b ∈ l, 0 ≤ b ∧ b ≤ 1) → 0 ≤ a → 0 ≤ num a l := by
  induction l with
  | nil => exact fun _ h => h
  | cons b l ih =>
    intro a hb h
    have := hb b (by simp)
    exact ih (fun c hc => hb c (by simp [hc])) (show 0 ≤ 2 * a + b by omega)
theorem num_bits_lt : ∀ (l : List Int) (a : Int) (n : Nat), (∀ b ∈ l, 0 ≤ b ∧ b ≤ 1) → 0 ≤ a → a < 2 ^ n → num a l < 2 ^ (n + l.length)
  | [], a, n, _, _, h => h
  | b :: l, a, n, hb, h0, h => by
    have h1 := hb b (by simp)
    have := num_bits_lt l (2 * a + b) (n + 1) (fun c hc => hb c (by simp [hc])) (by omega) (by rw [Int.pow_succ]; omega)
    rw [List.length_cons, show n + (l.length + 1) = n + 1 + l.length from by omega]
    exact this
theorem num_shift (l : List Int) : ∀ (a : Int), num a l = a * 2 ^ l.length + num 0 l := by
  induction l with
  | nil => intro a; simp [num]
  | cons b l ih =>
    intro a
    have e1 : num a (b :: l) = num (2 * a + b) l := rfl
    have e2 : num 0 (b :: l) = num (2 * 0 + b) l := rfl
    rw [e1, e2, ih (2 * a + b), ih (2 * 0 + b), List.length_cons, Int.pow_succ, Int.add_mul, Int.mul_comm 2 a, Int.mul_assoc a 2, Int.mul_comm 2]
    simp only [Int.mul_zero, Int.zero_add]
    omega
/-- What PacketOf tells of 40 bits that form the word w. -/
def finM (l : List Int) (w : Int) : Int × Int × Bool :=
  if pbM (w / 4294967296) (w / 256 % 16777216 - 8388608) = l ∧ l.length = 40 then (w / 4294967296, w / 256 % 16777216 - 8388608, true) else (0, 0, false)
theorem and24 (n : Int) : Go.bits .and .i64 n 16777215 = n % 16777216 := by
  have h1 : (BitVec.ofInt 64 16777215).toNat = 2 ^ 24 - 1 := by decide
  have key : (BitVec.ofInt 64 n &&& BitVec.ofInt 64 16777215).toNat = (n % ((2 ^ 64 : Nat) : Int)).toNat % 2 ^ 24 := by
    rw [BitVec.toNat_and, BitVec.toNat_ofInt, h1, Nat.and_two_pow_sub_one_eq_mod]
  show IntKind.i64.wrap ((BitVec.ofInt 64 n &&& BitVec.ofInt 64 16777215).toNat : Nat) = n % 16777216
  rw [key, IntKind.wrap_i64]
  omega
theorem or1 {x b : Int} (hx : 0 ≤ x ∧ x < 1099511627776) : Go.bits .or .i64 (x * 2) (b % 2) = 2 * x + b % 2 := by
  rw [bits_join .i64 62 (by decide) wraps62 1 (x * 2) (b % 2) (by omega) (by omega) (by omega) (by omega) (by omega) (by omega)]
  omega
theorem iPO_loop : ∀ (suf pre : List Int) (k : Nat) (w : Int), suf.length + 60 < k → (pre ++ suf).length = 40 → 0 ≤ w → w < 2 ^ pre.length →
    impl_PacketOf.l0 k (pre ++ suf) w (pre ++ suf) ((pre ++ suf).length : Int) (pre.length : Int) = some (finM (pre ++ suf) (num w (suf.map (· % 2))))
  | [], pre, k, w, hk, hb, h0, h1 => by
    obtain ⟨k, rfl⟩ := pred hk
    have hp : pre.length = 40 := by simpa using hb
    have hw := pow40 (n := pre.length) (by omega)
    simp only [impl_PacketOf.l0]
    rw [if_neg (by simp), and24, wrap_id (z := w / 256 % 16777216 - 8388608) (by omega) (by omega), iPB_eq _ _ (by simp at hk; omega), Option.bind_some]
    unfold finM
    have hn : num w (List.map (· % 2) []) = w := rfl
    rw [hn]
    generalize hG : pbM (w / 4294967296) (w / 256 % 16777216 - 8388608) = G
    have hl : G.length ≤ 40 := by rw [← hG]; exact pbM_len _ _
    by_cases hz : G.length = 0
    · rw [if_pos (by omega), if_neg (fun h => by rw [h.1] at hz; omega)]
    · rw [if_neg (by omega), equal_eq G _ (by omega) (by simp at hk; omega), Option.bind_some]
      by_cases he : G = pre ++ []
      · rw [if_pos (decide_eq_true he), if_pos ⟨he, hb⟩]
      · rw [if_neg (by simpa using he), if_neg (fun h => he h.1)]
  | a :: suf, pre, k, w, hk, hb, h0, h1 => by
    obtain ⟨k, rfl⟩ := pred hk
    have hl : (pre ++ a :: suf).length = pre.length + suf.length + 1 := by simp; omega
    have hw := pow40 (n := pre.length) (by omega)
    have ih := iPO_loop suf (pre ++ [a]) k (2 * w + a % 2) (by simp at hk; omega) (by simpa using hb) (by omega) (by
      rw [List.length_append, List.length_singleton, Int.pow_succ]; omega)
    simp only [impl_PacketOf.l0]
    rw [if_pos (by omega), if_pos (by omega), if_pos (by omega), rd_mid, wrap_id (z := w * 2) (by omega) (by omega), and1, or1 (by omega), wrap_len (a := a) (by omega), app_mid, ih]
    rfl
theorem iPO_eq (l : List Int) {k : Nat} (hk : 101 < k) : impl_PacketOf.f k l = some (finM l (num 0 (l.map (· % 2)))) := by
  unfold impl_PacketOf.f
  by_cases h : l.length = 40
  · rw [if_pos (by omega)]
    exact iPO_loop l [] k 0 (by omega) h (by omega) (by simp)
  · rw [if_neg (by omega)]
    unfold finM
    rw [if_neg (fun g => h g.2)]
theorem bit_mod {l : List Int} (h : ∀ b ∈ l, 0 ≤ b ∧ b ≤ 1) : l.map (· % 2) = l := by
  induction l with
  | nil => rfl
  | cons b l ih =>
    have := h b (by simp)
    rw [List.map_cons, ih (fun c hc => h c (by simp [hc]))]
    congr 1; omega
theorem pbM_bitO (q v : Int) : ∀ b ∈ pbM q v, 0 ≤ b ∧ b ≤ 1 := by
  unfold pbM; split
  · intro b hb
    simp only [List.mem_append] at hb
    rcases hb with (hb | hb) | hb
    · exact bd_bit _ _ b hb
    · exact bd_bit _ _ b hb
    · exact bd_bit _ _ b hb
  · simp
theorem pbM_full {q v : Int} (hq : 0 ≤ q ∧ q ≤ 255) (hv : -1000000 ≤ v ∧ v ≤ 1000000) : (pbM q v).length = 40 := by
  unfold pbM; rw [if_pos ⟨hq, hv⟩]; simp [bd_len]
theorem pbM_valid {q v : Int} {l : List Int} (h : pbM q v = l) (hl : l.length = 40) : (0 ≤ q ∧ q ≤ 255) ∧ (-1000000 ≤ v ∧ v ≤ 1000000) := by
  unfold pbM at h
  split at h
  · assumption
  · rw [← h] at hl; simp at hl
/-- The word that the bits of a packet form. -/
theorem pbM_num {q v : Int} (hq : 0 ≤ q ∧ q ≤ 255) (hv : -1000000 ≤ v ∧ v ≤ 1000000) : num 0 (pbM q v) = (q * 16777216 + (v + 8388608)) * 256 + sumB q (v + 8388608) := by
  have hs : 0 ≤ sumB q (v + 8388608) ∧ sumB q (v + 8388608) < 251 := by unfold sumB; omega
  have hu : 0 ≤ v + 8388608 ∧ v + 8388608 < 16777216 := by omega
  have e : pbM q v = bd q 8 ++ bd (v + 8388608) 24 ++ bd (sumB q (v + 8388608)) 8 := by unfold pbM; rw [if_pos ⟨hq, hv⟩]
  rw [e, ← pbM_word hq hu, num_bd]
  have e2 : (2 : Int) ^ 40 = 1099511627776 := by decide
  rw [e2]
  omega
/-- A packet is told by its bits. -/
theorem fin_self {q v : Int} (hq : 0 ≤ q ∧ q ≤ 255) (hv : -1000000 ≤ v ∧ v ≤ 1000000) : finM (pbM q v) (num 0 (pbM q v)) = (q, v, true) := by
  have hs : 0 ≤ sumB q (v + 8388608) ∧ sumB q (v + 8388608) < 251 := by unfold sumB; omega
  rw [pbM_num hq hv]
  unfold finM
  generalize sumB q (v + 8388608) = s at *
  have h1 : ((q * 16777216 + (v + 8388608)) * 256 + s) / 4294967296 = q := by omega
  have h2 : ((q * 16777216 + (v + 8388608)) * 256 + s) / 256 % 16777216 - 8388608 = v := by omega
  rw [h1, h2, if_pos ⟨rfl, pbM_full hq hv⟩]
theorem packet_ev (s : List Int) (hs : s.length ≤ 140737488351232) {k : Nat} (hk : s.length < k) : ∃ q v, spec_DrawPacket.f k s = some (q, v) ∧ (0 ≤ q ∧ q ≤ 255) ∧ (-1000000 ≤ v ∧ v ≤ 1000000) := by
  obtain ⟨h, e⟩ := new_ev s hs (k := k) hk
  obtain ⟨x, i1, h1, e1, hx, hc1⟩ := below_ev s 0 h 256 (cur0 hs) (by omega)
  obtain ⟨y, i2, h2, e2, hy, hc2⟩ := below_ev s i1 h1 2000001 hc1 (by omega)
  unfold spec_DrawPacket.f
  rw [e]; simp only [Option.bind_some]
  rw [e1]; simp only [Option.bind_some]
  rw [e2]; simp only [Option.bind_some]
  rw [wrap_id (z := y - 1000000) (by omega) (by omega)]
  exact ⟨_, _, rfl, by omega, by omega⟩

theorem FnPackets : laws_FnPackets.Pure := by
  intro l hm h8 hw
  have hs : l.length ≤ 140737488351232 := by omega
  obtain ⟨q, v, e1, hq, hv⟩ := packet_ev l hs (k := l.length + 200) (by omega)
  refine ⟨l.length + 200, ?_⟩
  unfold laws_FnPackets.f laws_big.f
  rw [Option.bind_some]
  by_cases hbig : decide ((l.length : Int) > 1048576) = true
  · rw [if_pos hbig]
  rw [if_neg hbig, e1, Option.bind_some, iPB_eq q v (by omega), Option.bind_some, iPO_eq _ (by omega), Option.bind_some]
  rw [bit_mod (pbM_bitO q v), fin_self hq hv]
  have hlen := pbM_full hq hv
  have loop : ∀ (suf pre : List Int) (k : Nat) (n : Int), suf.length + 70 < k → pre ++ suf = pbM q v → 0 ≤ n → n + suf.length ≤ 2000 → n + suf.sum = (pbM q v).sum → laws_FnPackets.l0 k (pbM q v) true n (pre.length : Int) q v q v = some true := by
    intro suf
    induction suf with
    | nil =>
      intro pre k n hk e h0 h1 h2
      obtain ⟨k, rfl⟩ := pred hk
      have hp : pre.length = 40 := by rw [← hlen, ← e]; simp
      simp only [laws_FnPackets.l0]
      rw [if_neg (by omega), if_pos (by omega), if_pos trivial]
      have hne : pbM q v ≠ [] := fun hh => by rw [hh] at hlen; simp at hlen
      have hsend : sendM q v = 10 + (pbM q v).sum := by unfold sendM; rw [if_neg hne]
      rw [if_pos (by simp), iSend_eq q v (by simp at hk; omega), Option.bind_some, hsend]
      have hn : n = (pbM q v).sum := by simpa using h2
      rw [wrap_id (z := 10 + n) (by omega) (by simp at h1; omega), hn]
      simp
    | cons a suf ih =>
      intro pre k n hk e h0 h1 h2
      obtain ⟨k, rfl⟩ := pred hk
      have hab := pbM_bitO q v a (by rw [← e]; simp)
      have hl : pre.length + suf.length + 1 = 40 := by rw [← hlen, ← e]; simp; omega
      have hc : ((a :: suf).length : Int) = suf.length + 1 := by simp
      have := ih (pre ++ [a]) k (n + a) (by simp at hk; omega) (by rw [← e]; simp) (by omega) (by omega) (by rw [← h2]; simp; omega)
      have hr : rd (pbM q v) (pre.length : Int) = a := by rw [← e, rd_mid]
      simp only [laws_FnPackets.l0]
      rw [if_pos (by omega), if_pos (by omega), hr, wrap_id (z := n + a) (by omega) (by omega), wrap_len (a := a) (by omega)]
      exact this
  exact loop (pbM q v) [] _ 0 (by omega) rfl (by omega) (by omega) (by omega)

end Go.Proofs.Ytfbndpgbebbljaa.Pure
