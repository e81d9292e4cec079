/- The pure statement of the law FnExactPacketOf: what the printed function comes to is true for every list of bytes. No condition beyond the row's own bounds. -/
import Derived.Test.YtfbndpgbebbljaaQFnExactPacketOf2
import Derived.OpenShut
namespace Go.Proofs.Ytfbndpgbebbljaa.Pure
open Go.RowKit Go.Proofs.Ytfbndpgbebbljaa.QFnExactPacketOf Go.Proofs.YtfbndpgbebbljaaW.PrintWords Go.Proofs.YtfbndpgbebbljaaW.PrintLast Go.Proofs.YtfbndpgbebbljaaW.PrintMore
set_option linter.unusedVariables false
set_option linter.unusedSimpArgs false
--BLOCKS
theorem wf_b {z : Int} (h : (Lit.int .i64 z).wf = true) : -9223372036854775808 ≤ z ∧ z ≤ 9223372036854775807 := bounds_i64 h
theorem wrap_id {z : Int} (h1 : -9223372036854775808 ≤ z) (h2 : z ≤ 9223372036854775807) : wrap64 z = z := by unfold wrap64; omega
theorem mn_min (a b : Int) : mn a b = min a b := by unfold mn; omega
theorem mx_max (a b : Int) : mx a b = max a b := by unfold mx; omega
theorem in_eq (x lo hi : Int) : spec_l01In.f x lo hi = some (decide (lo ≤ x ∧ x ≤ hi)) := by
  unfold spec_l01In.f; split <;> simp_all <;> omega
theorem within_eq (x lo hi : Int) : impl_within.f x lo hi = some (decide (lo ≤ x ∧ x ≤ hi)) := by
  unfold impl_within.f; split <;> simp_all <;> omega
theorem rd_mid (pre : List Int) (a : Int) (suf : List Int) : rd (pre ++ a :: suf) (pre.length : Int) = a := by simp [rd]
theorem len_mid {α : Type} (pre : List α) (a : α) (suf : List α) : (pre ++ a :: suf).length = (pre ++ [a]).length + suf.length := by simp; omega
theorem app_mid {α : Type} (pre : List α) (a : α) (suf : List α) : pre ++ a :: suf = (pre ++ [a]) ++ suf := by simp
theorem wrap_len {α : Type} {pre : List α} {a : α} (h : pre.length < 9223372036854775807) : wrap64 ((pre.length : Int) + 1) = ((pre ++ [a]).length : Int) := by
  rw [wrap_id (by omega) (by omega)]; simp
theorem pred {d k : Nat} (h : d < k) : ∃ j, k = j + 1 := ⟨k - 1, by omega⟩
theorem toInt_loop : ∀ (suf pre rep : List Int) (k : Nat), suf.length < k → rep.length = suf.length → (pre ++ suf).length < 9223372036854775807 → laws_toIntS.l0 k (pre ++ suf) (pre ++ rep) (pre.length : Int) = some (pre ++ suf)
  | [], pre, rep, k, hk, hr, hb => by
    obtain ⟨k, rfl⟩ := pred hk
    obtain rfl : rep = [] := List.length_eq_zero_iff.1 hr
    simp only [laws_toIntS.l0]
    rw [if_neg (by simp)]
  | a :: suf, pre, r :: rep, k, hk, hr, hb => by
    obtain ⟨k, rfl⟩ := pred hk
    have hl : (pre ++ a :: suf).length = pre.length + suf.length + 1 := by simp; omega
    have hl2 : (pre ++ r :: rep).length = pre.length + rep.length + 1 := by simp; omega
    have ih := toInt_loop suf (pre ++ [a]) rep k (by simpa using hk) (by simpa using hr) (by simpa using hb)
    simp only [laws_toIntS.l0]
    rw [if_pos (by omega), if_pos (by omega), if_pos (by omega), rd_mid, wrap_len (a := a) (by omega), Int.toNat_natCast]
    have e : (pre ++ r :: rep).set pre.length a = (pre ++ [a]) ++ rep := by simp
    rw [e]
    simpa using ih
  | _ :: _, _, [], _, _, hr, _ => by simp at hr
theorem toInt_eq (l : List Int) (hl : l.length ≤ 1048576) {k : Nat} (hk : l.length < k) : laws_toIntS.f k l = some l := by
  unfold laws_toIntS.f
  rw [if_pos (by omega), if_pos (by omega), Int.toNat_natCast]
  have := toInt_loop l [] (List.replicate l.length 0) k hk (by simp) (by simp; omega)
  simpa using this
theorem eqInt_loop : ∀ (s1 s2 pre : List Int) (k : Nat), s1.length < k → s2.length = s1.length → (pre ++ s1).length < 9223372036854775807 → laws_eqIntS.l0 k (pre ++ s1) (pre ++ s2) (pre.length : Int) = some (decide (s1 = s2))
  | [], s2, pre, k, hk, hr, hb => by
    obtain ⟨k, rfl⟩ := pred hk
    obtain rfl : s2 = [] := List.length_eq_zero_iff.1 hr
    simp only [laws_eqIntS.l0]
    rw [if_neg (by simp)]; simp
  | a :: s1, b :: s2, pre, k, hk, hr, hb => by
    obtain ⟨k, rfl⟩ := pred hk
    have hl : (pre ++ a :: s1).length = pre.length + s1.length + 1 := by simp; omega
    have hl2 : (pre ++ b :: s2).length = pre.length + s2.length + 1 := by simp; omega
    simp only [laws_eqIntS.l0]
    rw [if_pos (by omega), if_pos (by omega), if_pos (by omega), rd_mid, rd_mid]
    by_cases hab : a = b
    · subst hab
      have ih := eqInt_loop s1 s2 (pre ++ [a]) k (by simpa using hk) (by simpa using hr) (by simpa using hb)
      rw [if_pos rfl, wrap_len (a := a) (by omega), app_mid, app_mid pre a s2, ih]
      simp
    · rw [if_neg hab]; simp [hab]
  | _ :: _, [], _, _, _, hr, _ => by simp at hr
theorem eqInt_eq (l m : List Int) (hl : l.length < 9223372036854775807) {k : Nat} (hk : l.length < k) : laws_eqIntS.f k l m = some (decide (l = m)) := by
  unfold laws_eqIntS.f
  by_cases h : l.length = m.length
  · rw [if_pos (by omega)]
    have := eqInt_loop l m [] k hk h.symm (by simpa using hl)
    simpa using this
  · rw [if_neg (by omega), decide_eq_false (fun e => h (by rw [e]))]
theorem equal_loop : ∀ (s1 s2 pre : List Int) (k : Nat), s1.length < k → s2.length = s1.length → (pre ++ s1).length < 9223372036854775807 → slices_Equal_int_int.l0 k (pre ++ s1) (pre ++ s2) ((pre ++ s1).length : Int) (pre.length : Int) = some (decide (s1 = s2))
  | [], s2, pre, k, hk, hr, hb => by
    obtain ⟨k, rfl⟩ := pred hk
    obtain rfl : s2 = [] := List.length_eq_zero_iff.1 hr
    simp only [slices_Equal_int_int.l0]
    rw [if_neg (by simp)]; simp
  | a :: s1, b :: s2, pre, k, hk, hr, hb => by
    obtain ⟨k, rfl⟩ := pred hk
    have hl : (pre ++ a :: s1).length = pre.length + s1.length + 1 := by simp; omega
    have hl2 : (pre ++ b :: s2).length = pre.length + s2.length + 1 := by simp; omega
    simp only [slices_Equal_int_int.l0]
    rw [if_pos (by omega), if_pos (by omega), if_pos (by omega), if_pos (by simp at hr; omega), rd_mid, rd_mid]
    by_cases hab : a = b
    · subst hab
      have ih := equal_loop s1 s2 (pre ++ [a]) k (by simpa using hk) (by simpa using hr) (by simpa using hb)
      rw [if_pos rfl, wrap_len (a := a) (by omega), app_mid, app_mid pre a s2, ih]
      simp
    · rw [if_neg hab]; simp [hab]
  | _ :: _, [], _, _, _, hr, _ => by simp at hr
theorem equal_eq (l m : List Int) (hl : l.length < 9223372036854775807) {k : Nat} (hk : l.length < k) : slices_Equal_int_int.f k l m = some (decide (l = m)) := by
  unfold slices_Equal_int_int.f
  by_cases h : l.length = m.length
  · rw [if_pos (by omega)]
    have := equal_loop l m [] k hk h.symm (by simpa using hl)
    simpa using this
  · rw [if_neg (by omega), decide_eq_false (fun e => h (by rw [e]))]
theorem and1 (n : Int) : Go.bits .and .i64 n 1 = n % 2 := by
  have h1 : (BitVec.ofInt 64 1).toNat = 2 ^ 1 - 1 := by decide
  have key : (BitVec.ofInt 64 n &&& BitVec.ofInt 64 1).toNat = (n % ((2 ^ 64 : Nat) : Int)).toNat % 2 ^ 1 := by
    rw [BitVec.toNat_and, BitVec.toNat_ofInt, h1, Nat.and_two_pow_sub_one_eq_mod]
  show IntKind.i64.wrap ((BitVec.ofInt 64 n &&& BitVec.ofInt 64 1).toNat : Nat) = n % 2
  rw [key, IntKind.wrap_i64]
  omega
theorem band255 (n : Int) : Go.bits .and .i64 n 255 = n % 256 := by
  have h255 : (BitVec.ofInt 64 255).toNat = 2 ^ 8 - 1 := by decide
  have key : (BitVec.ofInt 64 n &&& BitVec.ofInt 64 255).toNat = (n % ((2 ^ 64 : Nat) : Int)).toNat % 2 ^ 8 := by
    rw [BitVec.toNat_and, BitVec.toNat_ofInt, h255, Nat.and_two_pow_sub_one_eq_mod]
  show IntKind.i64.wrap ((BitVec.ofInt 64 n &&& BitVec.ofInt 64 255).toNat : Nat) = n % 256
  rw [key, IntKind.wrap_i64]
  omega
theorem wraps62 (n : Int) (h0 : 0 ≤ n) (h1 : n < 2 ^ 62) : IntKind.i64.wrap n = n := by rw [IntKind.wrap_i64]; omega
theorem or24 {x y : Int} (hx : 0 ≤ x ∧ x ≤ 255) (hy : 0 ≤ y ∧ y < 16777216) : Go.bits .or .i64 (x * 16777216) y = x * 16777216 + y :=
  bits_join .i64 62 (by decide) wraps62 24 _ _ (by omega) (by omega) (by omega) (by omega) (by omega) (by omega)
theorem or8 {x y : Int} (hx : 0 ≤ x ∧ x < 4294967296) (hy : 0 ≤ y ∧ y < 256) : Go.bits .or .i64 (x * 256) y = x * 256 + y :=
  bits_join .i64 62 (by decide) wraps62 8 _ _ (by omega) (by omega) (by omega) (by omega) (by omega) (by omega)
/-- The c lowest bits of a number, the most significant first. -/
def bd (x : Int) : Nat → List Int
  | 0 => []
  | c + 1 => x / 2 ^ c % 2 :: bd x c
theorem bd_len (x : Int) : ∀ c, (bd x c).length = c
  | 0 => rfl
  | c + 1 => by simp [bd, bd_len x c]
theorem bd_bit (x : Int) : ∀ c, ∀ b ∈ bd x c, 0 ≤ b ∧ b ≤ 1
  | 0 => by simp [bd]
  | c + 1 => by
    intro b hb
    rcases List.mem_cons.1 hb with hb | hb
    · omega
    · exact bd_bit x c b hb
theorem bd_join (a b : Int) (n : Nat) (hb : 0 ≤ b ∧ b < 2 ^ n) : ∀ m, bd (a * 2 ^ n + b) (m + n) = bd a m ++ bd b n
  | 0 => by
    rw [Nat.zero_add]
    show bd (a * 2 ^ n + b) n = bd b n
    have key : ∀ c, c ≤ n → bd (a * 2 ^ n + b) c = bd b c := by
      intro c
      induction c with
      | zero => exact fun _ => rfl
      | succ c ih =>
        intro hc
        rw [bd, bd, ih (by omega)]
        congr 1
        have e : (2 : Int) ^ n = 2 ^ c * (2 * 2 ^ (n - c - 1)) := by
          rw [← Int.mul_assoc, show (2 : Int) ^ c * 2 = 2 ^ (c + 1) from by rw [Int.pow_succ], ← Int.pow_add]
          congr 1; omega
        have hp : (0 : Int) < 2 ^ c := Int.pow_pos (by omega)
        rw [e, ← Int.mul_assoc, Int.mul_comm a, Int.mul_assoc, Int.add_comm, Int.add_mul_ediv_left _ _ (by omega)]
        rw [show a * (2 * 2 ^ (n - c - 1)) = 2 * (a * 2 ^ (n - c - 1)) from by rw [Int.mul_left_comm]]
        omega
    exact key n (Nat.le_refl _)
  | m + 1 => by
    rw [show m + 1 + n = (m + n) + 1 from by omega, bd, bd_join a b n hb m, bd, List.cons_append]
    congr 1
    have hp : (0 : Int) < 2 ^ n := Int.pow_pos (by omega)
    rw [Nat.add_comm m n, Int.pow_add, ← Int.ediv_ediv_of_nonneg (by omega)]
    rw [show (a * 2 ^ n + b) / 2 ^ n = a from by
      rw [Int.add_comm, Int.add_mul_ediv_right _ _ (by omega), Int.ediv_eq_zero_of_lt hb.1 hb.2]; omega]
theorem shr_i64 (x : Int) {i : Nat} (h : i ≤ 64) : shr .i64 x (i : Int) = x / 2 ^ i := by
  unfold shr
  rw [Int.toNat_natCast, show min i (IntKind.i64.bits) = i from by
    rw [show IntKind.i64.bits = 64 from rfl]; omega]
theorem iBits_loop (x : Int) : ∀ (c k : Nat) (acc : List Int), c < k → acc.length + c ≤ 64 → impl_PacketBits.l0 k x acc ((c : Int) - 1) = some (acc ++ bd x c)
  | 0, k, acc, hk, hb => by
    obtain ⟨k, rfl⟩ := pred hk
    simp only [impl_PacketBits.l0]
    rw [if_neg (by omega)]; simp [bd]
  | c + 1, k, acc, hk, hb => by
    obtain ⟨k, rfl⟩ := pred hk
    have ih := iBits_loop x c k (acc ++ [x / 2 ^ c % 2]) (by omega) (by simp; omega)
    have e : ((c + 1 : Nat) : Int) - 1 = (c : Int) := by omega
    rw [e]
    simp only [impl_PacketBits.l0]
    rw [if_pos (by omega), if_pos (by omega), if_pos (by omega), shr_i64 x (by omega), and1, wrap_id (z := (c : Int) - 1) (by omega) (by omega), ih, bd]
    simp
/-- The bits of a packet. -/
def sumB (q v : Int) : Int := (q + v / 65536 + v / 256 % 256 + v % 256) % 251
def pbM (q v : Int) : List Int := if (0 ≤ q ∧ q ≤ 255) ∧ (-1000000 ≤ v ∧ v ≤ 1000000) then bd q 8 ++ bd (v + 8388608) 24 ++ bd (sumB q (v + 8388608)) 8 else []
theorem pbM_word {q v : Int} (hq : 0 ≤ q ∧ q ≤ 255) (hv : 0 ≤ v ∧ v < 16777216) : bd ((q * 16777216 + v) * 256 + sumB q v) 40 = bd q 8 ++ bd v 24 ++ bd (sumB q v) 8 := by
  have hs : 0 ≤ sumB q v ∧ sumB q v < 251 := by unfold sumB; omega
  have h1 := bd_join (q * 16777216 + v) (sumB q v) 8 (by omega) 32
  have h2 := bd_join q v 24 (by omega) 8
  have e1 : (2 : Int) ^ 8 = 256 := by decide
  have e2 : (2 : Int) ^ 24 = 16777216 := by decide
  rw [e1] at h1
  rw [e2] at h2
  rw [show (40 : Nat) = 32 + 8 from rfl, h1, show (32 : Nat) = 8 + 24 from rfl, h2]
theorem iPB_eq (q v : Int) {k : Nat} (hk : 42 ≤ k) : impl_PacketBits.f k q v = some (pbM q v) := by
  obtain ⟨k, rfl⟩ : ∃ j, k = j + 1 := ⟨k - 1, by omega⟩
  unfold impl_PacketBits.f impl_IsValue.f pbM
  simp only [within_eq, Option.bind_some, impl_PacketBits.j0]
  by_cases h1 : 0 ≤ q ∧ q ≤ 255
  · by_cases h2 : -1000000 ≤ v ∧ v ≤ 1000000
    · simp only [decide_eq_true h1, decide_eq_true h2, Bool.not_true, Bool.false_eq_true, if_true, if_false]
      have hh := And.intro h1 h2
      rw [if_pos hh]
      have hv : 0 ≤ v + 8388608 ∧ v + 8388608 < 16777216 := by omega
      rw [wrap_id (z := q * 16777216) (by omega) (by omega), wrap_id (z := v + 8388608) (by omega) (by omega), or24 h1 hv]
      generalize v + 8388608 = u at *
      rw [band255, band255, band255, show (q * 16777216 + u) / 16777216 = q from by omega, show (q * 16777216 + u) / 65536 % 256 = u / 65536 from by omega, show (q * 16777216 + u) / 256 % 256 = u / 256 % 256 from by omega, show (q * 16777216 + u) % 256 = u % 256 from by omega]
      rw [wrap_id (z := q + u / 65536) (by omega) (by omega), wrap_id (z := q + u / 65536 + u / 256 % 256) (by omega) (by omega), wrap_id (z := q + u / 65536 + u / 256 % 256 + u % 256) (by omega) (by omega), Int.tmod_eq_emod_of_nonneg (by omega)]
      rw [show (q + u / 65536 + u / 256 % 256 + u % 256) % 251 = sumB q u from rfl]
      have hs : 0 ≤ sumB q u ∧ sumB q u < 251 := by unfold sumB; omega
      rw [wrap_id (z := (q * 16777216 + u) * 256) (by omega) (by omega), or8 (by omega) (by omega)]
      have := iBits_loop ((q * 16777216 + u) * 256 + sumB q u) 40 k [] (by omega) (by simp)
      rw [pbM_word h1 hv] at this
      exact this
    · simp only [decide_eq_true h1, decide_eq_false h2, Bool.not_false, if_true]
      rw [if_neg (fun h => h2 h.2)]
  · simp only [decide_eq_false h1, Bool.false_eq_true, if_false, if_true]
    rw [if_neg (fun h => h1 h.1)]
theorem pbM_len (q v : Int) : (pbM q v).length ≤ 40 := by
  unfold pbM; split
  · simp [bd_len]
  · simp
theorem sBits_loop (x : Int) : ∀ (c k : Nat) (acc : List Int), c < k → acc.length + c ≤ 64 → spec_l30Bits.l0 k acc x ((c : Int) - 1) = some (acc ++ bd x c)
  | 0, k, acc, hk, hb => by
    obtain ⟨k, rfl⟩ := pred hk
    simp only [spec_l30Bits.l0]
    rw [if_neg (by omega)]; simp [bd]
  | c + 1, k, acc, hk, hb => by
    obtain ⟨k, rfl⟩ := pred hk
    have ih := sBits_loop x c k (acc ++ [x / 2 ^ c % 2]) (by omega) (by simp; omega)
    have e : ((c + 1 : Nat) : Int) - 1 = (c : Int) := by omega
    rw [e]
    have hw : IntKind.u64.wrap (c : Int) = (c : Int) := by simp [IntKind.wrap, IntKind.bits, IntKind.signed]; omega
    simp only [spec_l30Bits.l0]
    rw [if_pos (by omega), hw, if_pos (by omega), if_pos (by omega), shr_i64 x (by omega), and1, wrap_id (z := (c : Int) - 1) (by omega) (by omega), ih, bd]
    simp
theorem sBits_eq (acc : List Int) (x : Int) (c : Nat) {k : Nat} (hk : c < k) (hb : acc.length + c ≤ 64) : spec_l30Bits.f k acc x (c : Int) = some (acc ++ bd x c) := by
  unfold spec_l30Bits.f
  rw [wrap_id (by omega) (by omega)]
  exact sBits_loop x c k acc hk hb
theorem sPB_eq (q v : Int) {k : Nat} (hk : 42 ≤ k) : spec_PacketBits.f k q v = some (pbM q v) := by
  obtain ⟨k, rfl⟩ : ∃ j, k = j + 1 := ⟨k - 1, by omega⟩
  unfold spec_PacketBits.f spec_IsValue.f pbM
  simp only [in_eq, Option.bind_some, spec_PacketBits.j0]
  by_cases h1 : 0 ≤ q ∧ q ≤ 255
  · by_cases h2 : -1000000 ≤ v ∧ v ≤ 1000000
    · simp only [decide_eq_true h1, decide_eq_true h2, Bool.not_true, Bool.false_eq_true, if_true, if_false]
      have hh := And.intro h1 h2
      rw [if_pos hh]
      have hv : 0 ≤ v + 8388608 ∧ v + 8388608 < 16777216 := by omega
      rw [wrap_id (z := v + 8388608) (by omega) (by omega)]
      generalize v + 8388608 = u at *
      have b1 := sBits_eq [] q 8 (k := k) (by omega) (by simp)
      have b2 := sBits_eq (bd q 8) u 24 (k := k) (by omega) (by simp [bd_len])
      have b3 := sBits_eq (bd q 8 ++ bd u 24) (sumB q u) 8 (k := k) (by omega) (by simp [bd_len])
      have b1 : spec_l30Bits.f k [] q 8 = some (bd q 8) := b1
      have b2 : spec_l30Bits.f k (bd q 8) u 24 = some (bd q 8 ++ bd u 24) := b2
      have b3 : spec_l30Bits.f k (bd q 8 ++ bd u 24) (sumB q u) 8 = some (bd q 8 ++ bd u 24 ++ bd (sumB q u) 8) := b3
      rw [b1, Option.bind_some, b2, Option.bind_some]
      rw [Int.tdiv_eq_ediv_of_nonneg hv.1, Int.tdiv_eq_ediv_of_nonneg hv.1, Int.tmod_eq_emod_of_nonneg (a := u) hv.1, wrap_id (z := u / 65536) (by omega) (by omega), wrap_id (z := u / 256) (by omega) (by omega), Int.tmod_eq_emod_of_nonneg (a := u / 256) (by omega)]
      rw [wrap_id (z := q + u / 65536) (by omega) (by omega), wrap_id (z := q + u / 65536 + u / 256 % 256) (by omega) (by omega), wrap_id (z := q + u / 65536 + u / 256 % 256 + u % 256) (by omega) (by omega), Int.tmod_eq_emod_of_nonneg (by omega)]
      rw [show (q + u / 65536 + u / 256 % 256 + u % 256) % 251 = sumB q u from rfl, b3, Option.bind_some]
    · simp only [decide_eq_true h1, decide_eq_false h2, Bool.not_false, if_true]
      rw [if_neg (fun h => h2 h.2)]
  · simp only [decide_eq_false h1, Bool.false_eq_true, if_false, if_true]
    rw [if_neg (fun h => h1 h.1)]
theorem pow40 {n : Nat} (h : n ≤ 40) : (2 : Int) ^ n ≤ 1099511627776 := by
  have : (2 : Nat) ^ n ≤ 2 ^ 40 := Nat.pow_le_pow_right (by omega) h
  have h2 : ((2 ^ n : Nat) : Int) ≤ ((2 ^ 40 : Nat) : Int) := Int.ofNat_le.2 this
  rw [Int.natCast_pow] at h2
  exact h2
/-- The number that bits form, behind a. -/
def num (a : Int) (l : List Int) : Int := l.foldl (fun n b => 2 * n + b) a
theorem num_bd (x : Int) : ∀ (c : Nat) (a : Int), num a (bd x c) = a * 2 ^ c + x % 2 ^ c
  | 0, a => by simp [num, bd]
  | c + 1, a => by
    have ih := num_bd x c (2 * a + x / 2 ^ c % 2)
    have e : num a (bd x (c + 1)) = num (2 * a + x / 2 ^ c % 2) (bd x c) := rfl
    rw [e, ih, Int.pow_succ]
    have hp : (0 : Int) < 2 ^ c := Int.pow_pos (by omega)
    generalize (2 : Int) ^ c = p at *
    have h1 : x % (p * 2) = (x / p % 2) * p + x % p := by
      have hm := Int.emod_nonneg x (show p ≠ 0 by omega)
      have hm2 := Int.emod_lt_of_pos x hp
      have hd : x = x / p * p + x % p := (Int.ediv_mul_add_emod x p).symm
      have hd2 : x / p = x / p / 2 * 2 + x / p % 2 := (Int.ediv_mul_add_emod (x / p) 2).symm
      have hb : 0 ≤ x / p % 2 ∧ x / p % 2 < 2 := by omega
      generalize x / p / 2 = t at *
      generalize x / p % 2 = b at *
      generalize x % p = r at *
      have hx : x = (b * p + r) + p * 2 * t := by
        rw [hd2] at hd
        rw [hd, Int.add_mul, Int.mul_assoc t 2 p, Int.mul_comm t (2 * p), Int.mul_comm 2 p]
        omega
      rw [hx, Int.add_mul_emod_self_left]
      have hbp : 0 ≤ b * p + r ∧ b * p + r < p * 2 := by
        rcases (show b = 0 ∨ b = 1 by omega) with rfl | rfl <;> omega
      exact Int.emod_eq_of_lt hbp.1 hbp.2
    rw [h1, Int.add_mul, Int.mul_comm 2 a, Int.mul_assoc a 2 p, Int.mul_comm 2 p]
    omega
theorem num_app (a : Int) (l m : List Int) : num a (l ++ m) = num (num a l) m := by simp [num, List.foldl_append]
theorem num_lo {l : List Int} : ∀ {a : Int}, (∀ b ∈ l, 0 ≤ b ∧ b ≤ 1) → 0 ≤ a → 0 ≤ num a l := by
  induction l with
  | nil => exact fun _ h => h
  | cons b l ih =>
    intro a hb h
    have := hb b (by simp)
    exact ih (fun c hc => hb c (by simp [hc])) (show 0 ≤ 2 * a + b by omega)
theorem num_bits_lt : ∀ (l : List Int) (a : Int) (n : Nat), (∀ b ∈ l, 0 ≤ b ∧ b ≤ 1) → 0 ≤ a → a < 2 ^ n → num a l < 2 ^ (n + l.length)
  | [], a, n, _, _, h => h
  | b :: l, a, n, hb, h0, h => by
    have h1 := hb b (by simp)
    have := num_bits_lt l (2 * a + b) (n + 1) (fun c hc => hb c (by simp [hc])) (by omega) (by rw [Int.pow_succ]; omega)
    rw [List.length_cons, show n + (l.length + 1) = n + 1 + l.length from by omega]
    exact this
theorem num_shift (l : List Int) : ∀ (a : Int), num a l = a * 2 ^ l.length + num 0 l := by
  induction l with
  | nil => intro a; simp [num]
  | cons b l ih =>
    intro a
    have e1 : num a (b :: l) = num (2 * a + b) l := rfl
    have e2 : num 0 (b :: l) = num (2 * 0 + b) l := rfl
    rw [e1, e2, ih (2 * a + b), ih (2 * 0 + b), List.length_cons, Int.pow_succ, Int.add_mul, Int.mul_comm 2 a, Int.mul_assoc a 2, Int.mul_comm 2]
    simp only [Int.mul_zero, Int.zero_add]
    omega
/-- What PacketOf tells of 40 bits that form the word w. -/
def finM (l : List Int) (w : Int) : Int × Int × Bool :=
  if pbM (w / 4294967296) (w / 256 % 16777216 - 8388608) = l ∧ l.length = 40 then (w / 4294967296, w / 256 % 16777216 - 8388608, true) else (0, 0, false)
theorem and24 (n : Int) : Go.bits .and .i64 n 16777215 = n % 16777216 := by
  have h1 : (BitVec.ofInt 64 16777215).toNat = 2 ^ 24 - 1 := by decide
  have key : (BitVec.ofInt 64 n &&& BitVec.ofInt 64 16777215).toNat = (n % ((2 ^ 64 : Nat) : Int)).toNat % 2 ^ 24 := by
    rw [BitVec.toNat_and, BitVec.toNat_ofInt, h1, Nat.and_two_pow_sub_one_eq_mod]
  show IntKind.i64.wrap ((BitVec.ofInt 64 n &&& BitVec.ofInt 64 16777215).toNat : Nat) = n % 16777216
  rw [key, IntKind.wrap_i64]
  omega
theorem or1 {x b : Int} (hx : 0 ≤ x ∧ x < 1099511627776) : Go.bits .or .i64 (x * 2) (b % 2) = 2 * x + b % 2 := by
  rw [bits_join .i64 62 (by decide) wraps62 1 (x * 2) (b % 2) (by omega) (by omega) (by omega) (by omega) (by omega) (by omega)]
  omega
theorem iPO_loop : ∀ (suf pre : List Int) (k : Nat) (w : Int), suf.length + 60 < k → (pre ++ suf).length = 40 → 0 ≤ w → w < 2 ^ pre.length →
    impl_PacketOf.l0 k (pre ++ suf) w (pre ++ suf) ((pre ++ suf).length : Int) (pre.length : Int) = some (finM (pre ++ suf) (num w (suf.map (· % 2))))
  | [], pre, k, w, hk, hb, h0, h1 => by
    obtain ⟨k, rfl⟩ := pred hk
    have hp : pre.length = 40 := by simpa using hb
    have hw := pow40 (n := pre.length) (by omega)
    simp only [impl_PacketOf.l0]
    rw [if_neg (by simp), and24, wrap_id (z := w / 256 % 16777216 - 8388608) (by omega) (by omega), iPB_eq _ _ (by simp at hk; omega), Option.bind_some]
    unfold finM
    have hn : num w (List.map (· % 2) []) = w := rfl
    rw [hn]
    generalize hG : pbM (w / 4294967296) (w / 256 % 16777216 - 8388608) = G
    have hl : G.length ≤ 40 := by rw [← hG]; exact pbM_len _ _
    by_cases hz : G.length = 0
    · rw [if_pos (by omega), if_neg (fun h => by rw [h.1] at hz; omega)]
    · rw [if_neg (by omega), equal_eq G _ (by omega) (by simp at hk; omega), Option.bind_some]
      by_cases he : G = pre ++ []
      · rw [if_pos (decide_eq_true he), if_pos ⟨he, hb⟩]
      · rw [if_neg (by simpa using he), if_neg (fun h => he h.1)]
  | a :: suf, pre, k, w, hk, hb, h0, h1 => by
    obtain ⟨k, rfl⟩ := pred hk
    have hl : (pre ++ a :: suf).length = pre.length + suf.length + 1 := by simp; omega
    have hw := pow40 (n := pre.length) (by omega)
    have ih := iPO_loop suf (pre ++ [a]) k (2 * w + a % 2) (by simp at hk; omega) (by simpa using hb) (by omega) (by
      rw [List.length_append, List.length_singleton, Int.pow_succ]; omega)
    simp only [impl_PacketOf.l0]
    rw [if_pos (by omega), if_pos (by omega), if_pos (by omega), rd_mid, wrap_id (z := w * 2) (by omega) (by omega), and1, or1 (by omega), wrap_len (a := a) (by omega), app_mid, ih]
    rfl
theorem iPO_eq (l : List Int) {k : Nat} (hk : 101 < k) : impl_PacketOf.f k l = some (finM l (num 0 (l.map (· % 2)))) := by
  unfold impl_PacketOf.f
  by_cases h : l.length = 40
  · rw [if_pos (by omega)]
    exact iPO_loop l [] k 0 (by omega) h (by omega) (by simp)
  · rw [if_neg (by omega)]
    unfold finM
    rw [if_neg (fun g => h g.2)]
theorem bit_mod {l : List Int} (h : ∀ b ∈ l, 0 ≤ b ∧ b ≤ 1) : l.map (· % 2) = l := by
  induction l with
  | nil => rfl
  | cons b l ih =>
    have := h b (by simp)
    rw [List.map_cons, ih (fun c hc => h c (by simp [hc]))]
    congr 1; omega
theorem pbM_bitO (q v : Int) : ∀ b ∈ pbM q v, 0 ≤ b ∧ b ≤ 1 := by
  unfold pbM; split
  · intro b hb
    simp only [List.mem_append] at hb
    rcases hb with (hb | hb) | hb
    · exact bd_bit _ _ b hb
    · exact bd_bit _ _ b hb
    · exact bd_bit _ _ b hb
  · simp
theorem pbM_full {q v : Int} (hq : 0 ≤ q ∧ q ≤ 255) (hv : -1000000 ≤ v ∧ v ≤ 1000000) : (pbM q v).length = 40 := by
  unfold pbM; rw [if_pos ⟨hq, hv⟩]; simp [bd_len]
theorem pbM_valid {q v : Int} {l : List Int} (h : pbM q v = l) (hl : l.length = 40) : (0 ≤ q ∧ q ≤ 255) ∧ (-1000000 ≤ v ∧ v ≤ 1000000) := by
  unfold pbM at h
  split at h
  · assumption
  · rw [← h] at hl; simp at hl
/-- The word that the bits of a packet form. -/
theorem pbM_num {q v : Int} (hq : 0 ≤ q ∧ q ≤ 255) (hv : -1000000 ≤ v ∧ v ≤ 1000000) : num 0 (pbM q v) = (q * 16777216 + (v + 8388608)) * 256 + sumB q (v + 8388608) := by
  have hs : 0 ≤ sumB q (v + 8388608) ∧ sumB q (v + 8388608) < 251 := by unfold sumB; omega
  have hu : 0 ≤ v + 8388608 ∧ v + 8388608 < 16777216 := by omega
  have e : pbM q v = bd q 8 ++ bd (v + 8388608) 24 ++ bd (sumB q (v + 8388608)) 8 := by unfold pbM; rw [if_pos ⟨hq, hv⟩]
  rw [e, ← pbM_word hq hu, num_bd]
  have e2 : (2 : Int) ^ 40 = 1099511627776 := by decide
  rw [e2]
  omega
/-- A packet is told by its bits. -/
theorem fin_self {q v : Int} (hq : 0 ≤ q ∧ q ≤ 255) (hv : -1000000 ≤ v ∧ v ≤ 1000000) : finM (pbM q v) (num 0 (pbM q v)) = (q, v, true) := by
  have hs : 0 ≤ sumB q (v + 8388608) ∧ sumB q (v + 8388608) < 251 := by unfold sumB; omega
  rw [pbM_num hq hv]
  unfold finM
  generalize sumB q (v + 8388608) = s at *
  have h1 : ((q * 16777216 + (v + 8388608)) * 256 + s) / 4294967296 = q := by omega
  have h2 : ((q * 16777216 + (v + 8388608)) * 256 + s) / 256 % 16777216 - 8388608 = v := by omega
  rw [h1, h2, if_pos ⟨rfl, pbM_full hq hv⟩]
theorem fd_loop : ∀ (s1 s2 pre : List Int) (k : Nat), 2 * s1.length + 2 < k → (pre ++ s1).length < 1000 → (pre ++ s2).length < 1000 → ∃ r, spec_FirstDiffering.l0 k (pre ++ s1) (pre ++ s2) (pre.length : Int) = some r ∧ (r < 0 ↔ s1 = s2)
  | [], [], pre, k, hk, h1, h2 => by
    obtain ⟨k, rfl⟩ : ∃ j, k = j + 2 := ⟨k - 2, by simp at hk; omega⟩
    refine ⟨-1, ?_, by simp⟩
    simp [spec_FirstDiffering.l0, spec_FirstDiffering.j1]
  | [], b :: s2, pre, k, hk, h1, h2 => by
    obtain ⟨k, rfl⟩ : ∃ j, k = j + 2 := ⟨k - 2, by simp at hk; omega⟩
    refine ⟨pre.length, ?_, by simp⟩
    simp only [spec_FirstDiffering.l0, spec_FirstDiffering.j1]
    rw [if_neg (by simp), decide_eq_true (by simp; omega), if_pos rfl, if_pos (by simp)]
  | a :: s1, [], pre, k, hk, h1, h2 => by
    obtain ⟨k, rfl⟩ : ∃ j, k = j + 2 := ⟨k - 2, by simp at hk; omega⟩
    refine ⟨pre.length, ?_, by simp⟩
    simp only [spec_FirstDiffering.l0, spec_FirstDiffering.j1]
    rw [if_pos (by simp; omega), if_pos trivial, if_neg (by simp; omega), if_pos (by simp)]
  | a :: s1, b :: s2, pre, k, hk, h1, h2 => by
    have hk2 : 2 * s1.length + 4 < k := by simp at hk; omega
    obtain ⟨k, rfl⟩ : ∃ j, k = j + 2 := ⟨k - 2, by omega⟩
    have hl : (pre ++ a :: s1).length = pre.length + s1.length + 1 := by simp; omega
    have hl2 : (pre ++ b :: s2).length = pre.length + s2.length + 1 := by simp; omega
    simp only [spec_FirstDiffering.l0, spec_FirstDiffering.j1]
    rw [if_pos (by omega), if_pos trivial, if_neg (by omega), if_neg (by omega), if_pos (by omega), if_pos (by omega), if_pos (by omega), rd_mid, rd_mid]
    by_cases hab : a = b
    · subst hab
      obtain ⟨r, hr, hiff⟩ := fd_loop s1 s2 (pre ++ [a]) k (by omega) (by simpa using h1) (by simpa using h2)
      rw [if_pos rfl, wrap_len (a := a) (by omega), app_mid, app_mid pre a s2]
      exact ⟨r, hr, by rw [hiff]; simp⟩
    · rw [if_neg hab]
      exact ⟨_, rfl, by simp [hab]⟩
theorem same_eq (l m : List Int) (h1 : l.length < 1000) (h2 : m.length < 1000) {k : Nat} (hk : 2 * l.length + 2 < k) : spec_l13Same.f k l m = some (decide (l = m)) := by
  obtain ⟨r, hr, hiff⟩ := fd_loop l m [] k hk (by simpa using h1) (by simpa using h2)
  have hr : spec_FirstDiffering.f k l m = some r := hr
  unfold spec_l13Same.f
  rw [hr, Option.bind_some]
  congr 1
  rw [Bool.eq_iff_iff]; simp [hiff]
theorem sNum_loop : ∀ (suf pre : List Int) (k : Nat) (w : Int), suf.length < k → (pre ++ suf).length ≤ 40 → (∀ b ∈ suf, 0 ≤ b ∧ b ≤ 1) → 0 ≤ w → w < 2 ^ pre.length → spec_l30Number.l0 k (pre ++ suf) w (pre.length : Int) = some (num w suf)
  | [], pre, k, w, hk, hb, ha, h0, h1 => by
    obtain ⟨k, rfl⟩ := pred hk
    simp only [spec_l30Number.l0]
    rw [if_neg (by simp)]; rfl
  | a :: suf, pre, k, w, hk, hb, ha, h0, h1 => by
    obtain ⟨k, rfl⟩ := pred hk
    have hl : (pre ++ a :: suf).length = pre.length + suf.length + 1 := by simp; omega
    have hw := pow40 (n := pre.length) (by omega)
    have hab := ha a (by simp)
    have ih := sNum_loop suf (pre ++ [a]) k (2 * w + a) (by simpa using hk) (by simpa using hb) (fun b hb' => ha b (by simp [hb'])) (by omega) (by
      rw [List.length_append, List.length_singleton, Int.pow_succ]; omega)
    simp only [spec_l30Number.l0]
    rw [if_pos (by omega), if_pos (by omega), rd_mid, wrap_id (z := 2 * w) (by omega) (by omega), wrap_id (z := 2 * w + a) (by omega) (by omega), wrap_len (a := a) (by omega), app_mid, ih]
    rfl
theorem sNum_eq (l : List Int) (hl : l.length ≤ 40) (ha : ∀ b ∈ l, 0 ≤ b ∧ b ≤ 1) {k : Nat} (hk : 41 < k) : spec_l30Number.f k l = some (num 0 l) :=
  sNum_loop l [] k 0 (by omega) (by simpa using hl) ha (by omega) (by simp)
theorem sPO_loop (l : List Int) (hl : l.length = 40) : ∀ (d i k : Nat), i + d = 40 → d + 200 < k → (∀ j : Nat, j < i → 0 ≤ rd l (j : Int) ∧ rd l (j : Int) ≤ 1) → spec_PacketOf.l0 k l (i : Int) = some (finM l (num 0 (l.map (· % 2))))
  | 0, i, k, hi, hk, ha => by
    obtain ⟨k, rfl⟩ := pred hk
    obtain rfl : i = 40 := by omega
    have hbits : ∀ b ∈ l, 0 ≤ b ∧ b ≤ 1 := by
      intro b hb
      obtain ⟨j, hj, rfl⟩ := List.getElem_of_mem hb
      have := ha j (by omega)
      simpa [rd, List.getD_eq_getElem?_getD, List.getElem?_eq_getElem hj] using this
    rw [bit_mod hbits]
    have hsp : l = l.take 8 ++ ((l.take 32).drop 8 ++ l.drop 32) := by
      have e1 : (l.take 32).drop 8 ++ l.drop 32 = l.drop 8 := by
        have : l = l.take 32 ++ l.drop 32 := (List.take_append_drop 32 l).symm
        conv => rhs; rw [this]
        rw [List.drop_append_of_le_length (by rw [List.length_take]; omega)]
      rw [e1, List.take_append_drop]
    have hA : ∀ b ∈ l.take 8, 0 ≤ b ∧ b ≤ 1 := fun b hb => hbits b (List.mem_of_mem_take hb)
    have hB : ∀ b ∈ (l.take 32).drop 8, 0 ≤ b ∧ b ≤ 1 := fun b hb => hbits b (List.mem_of_mem_take (List.mem_of_mem_drop hb))
    have hC : ∀ b ∈ l.drop 32, 0 ≤ b ∧ b ≤ 1 := fun b hb => hbits b (List.mem_of_mem_drop hb)
    have lA : (l.take 8).length = 8 := by rw [List.length_take]; omega
    have lB : ((l.take 32).drop 8).length = 24 := by rw [List.length_drop, List.length_take]; omega
    have lC : (l.drop 32).length = 8 := by rw [List.length_drop]; omega
    have q0 := num_lo hA (show (0 : Int) ≤ 0 by omega)
    have q1 := num_bits_lt _ 0 0 hA (by omega) (by simp)
    have u0 := num_lo hB (show (0 : Int) ≤ 0 by omega)
    have u1 := num_bits_lt _ 0 0 hB (by omega) (by simp)
    have s0 := num_lo hC (show (0 : Int) ≤ 0 by omega)
    have s1 := num_bits_lt _ 0 0 hC (by omega) (by simp)
    rw [lA] at q1
    rw [lB] at u1
    rw [lC] at s1
    have p8 : (2 : Int) ^ (0 + 8) = 256 := by decide
    have p24 : (2 : Int) ^ (0 + 24) = 16777216 := by decide
    rw [p8] at q1 s1
    rw [p24] at u1
    have hnum : num 0 l = (num 0 (l.take 8) * 16777216 + num 0 ((l.take 32).drop 8)) * 256 + num 0 (l.drop 32) := by
      conv => lhs; rw [hsp]
      rw [num_app, num_app, num_shift (l.drop 32), num_shift ((l.take 32).drop 8), lB, lC]
      have e8 : (2 : Int) ^ 8 = 256 := by decide
      have e24 : (2 : Int) ^ 24 = 16777216 := by decide
      rw [e8, e24]
    simp only [spec_PacketOf.l0]
    rw [if_neg (by omega), if_pos (by omega), sNum_eq _ (by omega) hA (by omega), Option.bind_some, if_pos (by omega), if_pos (by omega), sNum_eq _ (by omega) hB (by omega), Option.bind_some]
    generalize num 0 (l.take 8) = q at *
    generalize num 0 ((l.take 32).drop 8) = u at *
    generalize num 0 (l.drop 32) = s at *
    rw [wrap_id (z := u - 8388608) (by omega) (by omega), sPB_eq _ _ (by omega), Option.bind_some]
    have hpl := pbM_len q (u - 8388608)
    rw [same_eq _ _ (by omega) (by omega) (by omega), Option.bind_some, hnum]
    unfold finM
    have h1 : ((q * 16777216 + u) * 256 + s) / 4294967296 = q := by omega
    have h2 : ((q * 16777216 + u) * 256 + s) / 256 % 16777216 = u := by omega
    rw [h1, h2]
    by_cases he : pbM q (u - 8388608) = l
    · rw [if_pos (decide_eq_true he), if_pos ⟨he, hl⟩]
    · rw [if_neg (by simpa using he), if_neg (fun h => he h.1)]
  | d + 1, i, k, hi, hk, ha => by
    obtain ⟨k, rfl⟩ := pred hk
    simp only [spec_PacketOf.l0]
    rw [if_pos (by omega), if_pos (by omega), if_pos (by omega), in_eq, Option.bind_some]
    by_cases hb : 0 ≤ rd l (i : Int) ∧ rd l (i : Int) ≤ 1
    · rw [if_pos (decide_eq_true hb), wrap_id (z := (i : Int) + 1) (by omega) (by omega)]
      exact sPO_loop l hl d (i + 1) k (by omega) (by omega) (fun j hj => by
        by_cases hji : j = i
        · subst hji; exact hb
        · exact ha j (by omega))
    · rw [if_neg (by simpa using hb)]
      unfold finM
      rw [if_neg]
      intro h
      have hm : rd l (i : Int) ∈ l := by
        unfold rd
        rw [List.getD_eq_getElem?_getD, List.getElem?_eq_getElem (by simp; omega)]
        exact List.getElem_mem _
      rw [← h.1] at hm
      have := pbM_bitO _ _ _ hm
      rw [h.1] at this
      exact hb this
theorem sPO_eq (l : List Int) {k : Nat} (hk : 300 < k) : spec_PacketOf.f k l = some (finM l (num 0 (l.map (· % 2)))) := by
  unfold spec_PacketOf.f
  by_cases h : l.length = 40
  · rw [if_pos (by omega)]
    exact sPO_loop l h 40 0 k (by omega) (by omega) (fun j hj => by omega)
  · rw [if_neg (by omega)]
    unfold finM
    rw [if_neg (fun g => h g.2)]

theorem FnExactPacketOf : laws_FnExactPacketOf.Pure := by
  intro l _ _ _
  refine ⟨l.length + 400, ?_⟩
  unfold laws_FnExactPacketOf.f
  by_cases h1 : (l.length : Int) > 1048576
  · rw [if_pos h1]
  rw [if_neg h1, toInt_eq l (by omega) (by omega), Option.bind_some, sPO_eq l (by omega), Option.bind_some, Option.bind_some, iPO_eq l (by omega), Option.bind_some]
  generalize finM l (num 0 (l.map (· % 2))) = p
  obtain ⟨p1, p2, p3⟩ := p
  have j0 : laws_FnExactPacketOf.j0 (l.length + 400) l l false = some true := by
    simp only [laws_FnExactPacketOf.j0, Bool.false_eq_true, if_false]
    rw [toInt_eq l (by omega) (k := l.length + 399) (by omega), Option.bind_some, eqInt_eq l l (by omega) (k := l.length + 399) (by omega), Option.bind_some, if_pos (decide_eq_true rfl)]
  simp [laws_eqPacket.f, j0]

end Go.Proofs.Ytfbndpgbebbljaa.Pure
