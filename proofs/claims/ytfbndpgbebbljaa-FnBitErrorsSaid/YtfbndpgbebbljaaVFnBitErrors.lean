/- The pure statement of the law FnBitErrors: what the printed function comes to is true for every list of bytes. No condition beyond the row's own bounds. -/
import Derived.Test.YtfbndpgbebbljaaQFnBitErrors1
import Derived.OpenShut
namespace Go.Proofs.Ytfbndpgbebbljaa.Pure
open Go.RowKit Go.Proofs.Ytfbndpgbebbljaa.QFnBitErrors Go.Proofs.YtfbndpgbebbljaaW.PrintWords Go.Proofs.YtfbndpgbebbljaaW.PrintLast Go.Proofs.YtfbndpgbebbljaaW.PrintMore
set_option linter.unusedVariables false
set_option linter.unusedSimpArgs false
--BLOCKS
theorem wf_b {z : Int} (h : (Lit.int .i64 z).wf = true) : -9223372036854775808 ≤ z ∧ z ≤ 9223372036854775807 := bounds_i64 h
theorem wrap_id {z : Int} (h1 : -9223372036854775808 ≤ z) (h2 : z ≤ 9223372036854775807) : wrap64 z = z := by unfold wrap64; omega
theorem mn_min (a b : Int) : mn a b = min a b := by unfold mn; omega
theorem mx_max (a b : Int) : mx a b = max a b := by unfold mx; omega
theorem within_eq (x lo hi : Int) : impl_within.f x lo hi = some (decide (lo ≤ x ∧ x ≤ hi)) := by
  unfold impl_within.f; split <;> simp_all <;> omega
theorem and255 (n : Int) : Go.bits .and .i64 n 255 = n % 256 := by
  have h255 : (BitVec.ofInt 64 255).toNat = 2 ^ 8 - 1 := by decide
  have key : (BitVec.ofInt 64 n &&& BitVec.ofInt 64 255).toNat = (n % ((2 ^ 64 : Nat) : Int)).toNat % 2 ^ 8 := by
    rw [BitVec.toNat_and, BitVec.toNat_ofInt, h255, Nat.and_two_pow_sub_one_eq_mod]
  show IntKind.i64.wrap ((BitVec.ofInt 64 n &&& BitVec.ofInt 64 255).toNat : Nat) = n % 256
  rw [key, IntKind.wrap_i64]
  omega
/-- The cursor lies within its bytes. -/
def Cur (s : List Int) (i : Int) : Prop := 0 ≤ i ∧ i ≤ s.length ∧ s.length ≤ 140737488351232
theorem byte_ev (s : List Int) (i h : Int) (hc : Cur s i) : ∃ x i' h', spec_l01Byte.f s i h = some (x, i', h') ∧ (0 ≤ x ∧ x ≤ 255) ∧ Cur s i' := by
  obtain ⟨h0, h1, h2⟩ := hc
  unfold spec_l01Byte.f
  split
  · try rw [if_pos h0]
    rw [and255, wrap_id (z := i + 1) (by omega) (by omega)]
    exact ⟨_, _, _, rfl, by omega, by omega, by omega, h2⟩
  · rw [and255]
    exact ⟨_, _, _, rfl, by omega, h0, h1, h2⟩
theorem below_ev (s : List Int) (i h n : Int) (hc : Cur s i) (hn : 0 < n) : ∃ x i' h', spec_l01Below.f s i h n = some (x, i', h') ∧ (0 ≤ x ∧ x < n) ∧ Cur s i' := by
  unfold spec_l01Below.f
  rw [if_neg (by omega)]
  split
  · obtain ⟨x, i1, h1, e1, hx, hc1⟩ := byte_ev s i h hc
    rw [e1]; simp only [Option.bind_some]
    rw [if_neg (by omega)]
    refine ⟨_, _, _, rfl, ?_, hc1⟩
    have := Int.tmod_eq_emod_of_nonneg hx.1 (b := n)
    rw [this]
    exact ⟨Int.emod_nonneg _ (by omega), Int.emod_lt_of_pos _ hn⟩
  · obtain ⟨x, i1, h1, e1, hx, hc1⟩ := byte_ev s i h hc
    obtain ⟨y, i2, h2, e2, hy, hc2⟩ := byte_ev s i1 h1 hc1
    obtain ⟨z, i3, h3, e3, hz, hc3⟩ := byte_ev s i2 h2 hc2
    obtain ⟨v, i4, h4, e4, hv, hc4⟩ := byte_ev s i3 h3 hc3
    rw [e1]; simp only [Option.bind_some]
    rw [e2]; simp only [Option.bind_some]
    rw [e3]; simp only [Option.bind_some]
    rw [e4]; simp only [Option.bind_some]
    rw [if_neg (by omega)]
    refine ⟨_, _, _, rfl, ?_, hc4⟩
    have hw : wrap64 ((wrap64 ((wrap64 ((wrap64 (x * 16777216)) + (wrap64 (y * 65536)))) + (wrap64 (z * 256)))) + v) = x * 16777216 + y * 65536 + z * 256 + v := by
      rw [wrap_id (z := x * 16777216) (by omega) (by omega), wrap_id (z := y * 65536) (by omega) (by omega), wrap_id (z := z * 256) (by omega) (by omega), wrap_id (z := x * 16777216 + y * 65536) (by omega) (by omega), wrap_id (z := x * 16777216 + y * 65536 + z * 256) (by omega) (by omega), wrap_id (by omega) (by omega)]
    rw [hw, Int.tmod_eq_emod_of_nonneg (by omega)]
    exact ⟨Int.emod_nonneg _ (by omega), Int.emod_lt_of_pos _ hn⟩
theorem new_loop (s : List Int) (hs : s.length ≤ 140737488351232) : ∀ (d k i : Nat) (h : Int), i + d = s.length → d < k → ∃ h', spec_l01New.l0 k s h (i : Int) = some (s, 0, h')
  | 0, k, i, h, hi, hk => by
    obtain ⟨k, rfl⟩ : ∃ j, k = j + 1 := ⟨k - 1, by omega⟩
    simp only [spec_l01New.l0]
    rw [if_neg (by omega)]
    exact ⟨_, rfl⟩
  | d + 1, k, i, h, hi, hk => by
    obtain ⟨k, rfl⟩ : ∃ j, k = j + 1 := ⟨k - 1, by omega⟩
    simp only [spec_l01New.l0]
    rw [if_pos (by omega)]
    split
    · rw [if_pos (by omega), wrap_id (z := (i : Int) + 1) (by omega) (by omega)]
      exact new_loop s hs d k (i + 1) _ (by omega) (by omega)
    · exact ⟨_, rfl⟩
/-- A cursor of the call's own, with enough rounds. -/
theorem new_ev (s : List Int) (hs : s.length ≤ 140737488351232) {k : Nat} (hk : s.length < k) : ∃ h', spec_l01New.f k s = some (s, 0, h') := new_loop s hs s.length k 0 _ (by omega) hk
theorem cur0 {s : List Int} (hs : s.length ≤ 140737488351232) : Cur s 0 := ⟨by omega, by omega, hs⟩
/-- All of these are drawn numbers from 0 to 9999. -/
def Pl (t : List Int) : Prop := t.length = 12 ∧ ∀ i : Int, 0 ≤ i → i < 12 → 0 ≤ rd t i ∧ rd t i < 10000
theorem places_loop (s : List Int) : ∀ (d k n : Nat) (t : List Int) (i h : Int), n + d = 12 → d < k → t.length = n → (∀ x ∈ t, 0 ≤ x ∧ x < 10000) → Cur s i →
    ∃ t', spec_DrawPlaces.l0 k t (n : Int) s i h = some t' ∧ t'.length = 12 ∧ ∀ x ∈ t', 0 ≤ x ∧ x < 10000
  | 0, k, n, t, i, h, hn, hk, ht, ha, hc => by
    obtain ⟨k, rfl⟩ : ∃ j, k = j + 1 := ⟨k - 1, by omega⟩
    simp only [spec_DrawPlaces.l0]
    rw [if_neg (by omega)]
    exact ⟨t, rfl, by omega, ha⟩
  | d + 1, k, n, t, i, h, hn, hk, ht, ha, hc => by
    obtain ⟨k, rfl⟩ : ∃ j, k = j + 1 := ⟨k - 1, by omega⟩
    obtain ⟨x, i', h', e, hx, hc'⟩ := below_ev s i h 10000 hc (by omega)
    simp only [spec_DrawPlaces.l0]
    rw [if_pos (by omega), e]
    simp only [Option.bind_some]
    rw [if_pos (by omega), wrap_id (z := (n : Int) + 1) (by omega) (by omega)]
    refine places_loop s d k (n + 1) (t ++ [x]) i' h' (by omega) (by omega) (by simp [ht]) ?_ hc'
    intro y hy
    rcases List.mem_append.1 hy with hy | hy
    · exact ha y hy
    · rw [List.mem_singleton.1 hy]; exact hx
theorem rd_mem {t : List Int} {i : Int} (h0 : 0 ≤ i) (h1 : i < t.length) : rd t i ∈ t := by
  unfold rd
  rw [List.getD_eq_getElem?_getD, List.getElem?_eq_getElem (by omega)]
  exact List.getElem_mem _
theorem places_ev (s : List Int) (hs : s.length ≤ 140737488351232) {k : Nat} (hk : s.length + 13 < k) : ∃ t, spec_DrawPlaces.f k s = some t ∧ Pl t := by
  obtain ⟨h, e⟩ := new_ev s hs (k := k) (by omega)
  unfold spec_DrawPlaces.f
  rw [e]; simp only [Option.bind_some]
  obtain ⟨t, e, hl, ha⟩ := places_loop s 12 k 0 [] 0 h (by omega) (by omega) rfl (by simp) (cur0 hs)
  exact ⟨t, e, hl, fun i h0 h1 => ha _ (rd_mem h0 (by omega))⟩
theorem tmod_pos {a b : Int} (ha : 0 ≤ a) : Int.tmod a b = a % b := Int.tmod_eq_emod_of_nonneg ha
theorem rd_mid (pre : List Int) (a : Int) (suf : List Int) : rd (pre ++ a :: suf) (pre.length : Int) = a := by simp [rd]
theorem len_mid {α : Type} (pre : List α) (a : α) (suf : List α) : (pre ++ a :: suf).length = (pre ++ [a]).length + suf.length := by simp; omega
theorem app_mid {α : Type} (pre : List α) (a : α) (suf : List α) : pre ++ a :: suf = (pre ++ [a]) ++ suf := by simp
theorem wrap_len {α : Type} {pre : List α} {a : α} (h : pre.length < 9223372036854775807) : wrap64 ((pre.length : Int) + 1) = ((pre ++ [a]).length : Int) := by
  rw [wrap_id (by omega) (by omega)]; simp
theorem pred {d k : Nat} (h : d < k) : ∃ j, k = j + 1 := ⟨k - 1, by omega⟩
theorem equal_loop : ∀ (s1 s2 pre : List Int) (k : Nat), s1.length < k → s2.length = s1.length → (pre ++ s1).length < 9223372036854775807 → slices_Equal_int_int.l0 k (pre ++ s1) (pre ++ s2) ((pre ++ s1).length : Int) (pre.length : Int) = some (decide (s1 = s2))
  | [], s2, pre, k, hk, hr, hb => by
    obtain ⟨k, rfl⟩ := pred hk
    obtain rfl : s2 = [] := List.length_eq_zero_iff.1 hr
    simp only [slices_Equal_int_int.l0]
    rw [if_neg (by simp)]; simp
  | a :: s1, b :: s2, pre, k, hk, hr, hb => by
    obtain ⟨k, rfl⟩ := pred hk
    have hl : (pre ++ a :: s1).length = pre.length + s1.length + 1 := by simp; omega
    have hl2 : (pre ++ b :: s2).length = pre.length + s2.length + 1 := by simp; omega
    simp only [slices_Equal_int_int.l0]
    rw [if_pos (by omega), if_pos (by omega), if_pos (by omega), if_pos (by simp at hr; omega), rd_mid, rd_mid]
    by_cases hab : a = b
    · subst hab
      have ih := equal_loop s1 s2 (pre ++ [a]) k (by simpa using hk) (by simpa using hr) (by simpa using hb)
      rw [if_pos rfl, wrap_len (a := a) (by omega), app_mid, app_mid pre a s2, ih]
      simp
    · rw [if_neg hab]; simp [hab]
  | _ :: _, [], _, _, _, hr, _ => by simp at hr
theorem equal_eq (l m : List Int) (hl : l.length < 9223372036854775807) {k : Nat} (hk : l.length < k) : slices_Equal_int_int.f k l m = some (decide (l = m)) := by
  unfold slices_Equal_int_int.f
  by_cases h : l.length = m.length
  · rw [if_pos (by omega)]
    have := equal_loop l m [] k hk h.symm (by simpa using hl)
    simpa using this
  · rw [if_neg (by omega), decide_eq_false (fun e => h (by rw [e]))]
theorem and1 (n : Int) : Go.bits .and .i64 n 1 = n % 2 := by
  have h1 : (BitVec.ofInt 64 1).toNat = 2 ^ 1 - 1 := by decide
  have key : (BitVec.ofInt 64 n &&& BitVec.ofInt 64 1).toNat = (n % ((2 ^ 64 : Nat) : Int)).toNat % 2 ^ 1 := by
    rw [BitVec.toNat_and, BitVec.toNat_ofInt, h1, Nat.and_two_pow_sub_one_eq_mod]
  show IntKind.i64.wrap ((BitVec.ofInt 64 n &&& BitVec.ofInt 64 1).toNat : Nat) = n % 2
  rw [key, IntKind.wrap_i64]
  omega
theorem band255 (n : Int) : Go.bits .and .i64 n 255 = n % 256 := by
  have h255 : (BitVec.ofInt 64 255).toNat = 2 ^ 8 - 1 := by decide
  have key : (BitVec.ofInt 64 n &&& BitVec.ofInt 64 255).toNat = (n % ((2 ^ 64 : Nat) : Int)).toNat % 2 ^ 8 := by
    rw [BitVec.toNat_and, BitVec.toNat_ofInt, h255, Nat.and_two_pow_sub_one_eq_mod]
  show IntKind.i64.wrap ((BitVec.ofInt 64 n &&& BitVec.ofInt 64 255).toNat : Nat) = n % 256
  rw [key, IntKind.wrap_i64]
  omega
theorem wraps62 (n : Int) (h0 : 0 ≤ n) (h1 : n < 2 ^ 62) : IntKind.i64.wrap n = n := by rw [IntKind.wrap_i64]; omega
theorem or24 {x y : Int} (hx : 0 ≤ x ∧ x ≤ 255) (hy : 0 ≤ y ∧ y < 16777216) : Go.bits .or .i64 (x * 16777216) y = x * 16777216 + y :=
  bits_join .i64 62 (by decide) wraps62 24 _ _ (by omega) (by omega) (by omega) (by omega) (by omega) (by omega)
theorem or8 {x y : Int} (hx : 0 ≤ x ∧ x < 4294967296) (hy : 0 ≤ y ∧ y < 256) : Go.bits .or .i64 (x * 256) y = x * 256 + y :=
  bits_join .i64 62 (by decide) wraps62 8 _ _ (by omega) (by omega) (by omega) (by omega) (by omega) (by omega)
/-- The c lowest bits of a number, the most significant first. -/
def bd (x : Int) : Nat → List Int
  | 0 => []
  | c + 1 => x / 2 ^ c % 2 :: bd x c
theorem bd_len (x : Int) : ∀ c, (bd x c).length = c
  | 0 => rfl
  | c + 1 => by simp [bd, bd_len x c]
theorem bd_bit (x : Int) : ∀ c, ∀ b ∈ bd x c, 0 ≤ b ∧ b ≤ 1
  | 0 => by simp [bd]
  | c + 1 => by
    intro b hb
    rcases List.mem_cons.1 hb with hb | hb
    · omega
    · exact bd_bit x c b hb
theorem bd_join (a b : Int) (n : Nat) (hb : 0 ≤ b ∧ b < 2 ^ n) : ∀ m, bd (a * 2 ^ n + b) (m + n) = bd a m ++ bd b n
  | 0 => by
    rw [Nat.zero_add]
    show bd (a * 2 ^ n + b) n = bd b n
    have key : ∀ c, c ≤ n → bd (a * 2 ^ n + b) c = bd b c := by
      intro c
      induction c with
      | zero => exact fun _ => rfl
      | succ c ih =>
        intro hc
        rw [bd, bd, ih (by omega)]
        congr 1
        have e : (2 : Int) ^ n = 2 ^ c * (2 * 2 ^ (n - c - 1)) := by
          rw [← Int.mul_assoc, show (2 : Int) ^ c * 2 = 2 ^ (c + 1) from by rw [Int.pow_succ], ← Int.pow_add]
          congr 1; omega
        have hp : (0 : Int) < 2 ^ c := Int.pow_pos (by omega)
        rw [e, ← Int.mul_assoc, Int.mul_comm a, Int.mul_assoc, Int.add_comm, Int.add_mul_ediv_left _ _ (by omega)]
        rw [show a * (2 * 2 ^ (n - c - 1)) = 2 * (a * 2 ^ (n - c - 1)) from by rw [Int.mul_left_comm]]
        omega
    exact key n (Nat.le_refl _)
  | m + 1 => by
    rw [show m + 1 + n = (m + n) + 1 from by omega, bd, bd_join a b n hb m, bd, List.cons_append]
    congr 1
    have hp : (0 : Int) < 2 ^ n := Int.pow_pos (by omega)
    rw [Nat.add_comm m n, Int.pow_add, ← Int.ediv_ediv_of_nonneg (by omega)]
    rw [show (a * 2 ^ n + b) / 2 ^ n = a from by
      rw [Int.add_comm, Int.add_mul_ediv_right _ _ (by omega), Int.ediv_eq_zero_of_lt hb.1 hb.2]; omega]
theorem shr_i64 (x : Int) {i : Nat} (h : i ≤ 64) : shr .i64 x (i : Int) = x / 2 ^ i := by
  unfold shr
  rw [Int.toNat_natCast, show min i (IntKind.i64.bits) = i from by
    rw [show IntKind.i64.bits = 64 from rfl]; omega]
theorem iBits_loop (x : Int) : ∀ (c k : Nat) (acc : List Int), c < k → acc.length + c ≤ 64 → impl_PacketBits.l0 k x acc ((c : Int) - 1) = some (acc ++ bd x c)
  | 0, k, acc, hk, hb => by
    obtain ⟨k, rfl⟩ := pred hk
    simp only [impl_PacketBits.l0]
    rw [if_neg (by omega)]; simp [bd]
  | c + 1, k, acc, hk, hb => by
    obtain ⟨k, rfl⟩ := pred hk
    have ih := iBits_loop x c k (acc ++ [x / 2 ^ c % 2]) (by omega) (by simp; omega)
    have e : ((c + 1 : Nat) : Int) - 1 = (c : Int) := by omega
    rw [e]
    simp only [impl_PacketBits.l0]
    rw [if_pos (by omega), if_pos (by omega), if_pos (by omega), shr_i64 x (by omega), and1, wrap_id (z := (c : Int) - 1) (by omega) (by omega), ih, bd]
    simp
/-- The bits of a packet. -/
def sumB (q v : Int) : Int := (q + v / 65536 + v / 256 % 256 + v % 256) % 251
def pbM (q v : Int) : List Int := if (0 ≤ q ∧ q ≤ 255) ∧ (-1000000 ≤ v ∧ v ≤ 1000000) then bd q 8 ++ bd (v + 8388608) 24 ++ bd (sumB q (v + 8388608)) 8 else []
theorem pbM_word {q v : Int} (hq : 0 ≤ q ∧ q ≤ 255) (hv : 0 ≤ v ∧ v < 16777216) : bd ((q * 16777216 + v) * 256 + sumB q v) 40 = bd q 8 ++ bd v 24 ++ bd (sumB q v) 8 := by
  have hs : 0 ≤ sumB q v ∧ sumB q v < 251 := by unfold sumB; omega
  have h1 := bd_join (q * 16777216 + v) (sumB q v) 8 (by omega) 32
  have h2 := bd_join q v 24 (by omega) 8
  have e1 : (2 : Int) ^ 8 = 256 := by decide
  have e2 : (2 : Int) ^ 24 = 16777216 := by decide
  rw [e1] at h1
  rw [e2] at h2
  rw [show (40 : Nat) = 32 + 8 from rfl, h1, show (32 : Nat) = 8 + 24 from rfl, h2]
theorem iPB_eq (q v : Int) {k : Nat} (hk : 42 ≤ k) : impl_PacketBits.f k q v = some (pbM q v) := by
  obtain ⟨k, rfl⟩ : ∃ j, k = j + 1 := ⟨k - 1, by omega⟩
  unfold impl_PacketBits.f impl_IsValue.f pbM
  simp only [within_eq, Option.bind_some, impl_PacketBits.j0]
  by_cases h1 : 0 ≤ q ∧ q ≤ 255
  · by_cases h2 : -1000000 ≤ v ∧ v ≤ 1000000
    · simp only [decide_eq_true h1, decide_eq_true h2, Bool.not_true, Bool.false_eq_true, if_true, if_false]
      have hh := And.intro h1 h2
      rw [if_pos hh]
      have hv : 0 ≤ v + 8388608 ∧ v + 8388608 < 16777216 := by omega
      rw [wrap_id (z := q * 16777216) (by omega) (by omega), wrap_id (z := v + 8388608) (by omega) (by omega), or24 h1 hv]
      generalize v + 8388608 = u at *
      rw [band255, band255, band255, show (q * 16777216 + u) / 16777216 = q from by omega, show (q * 16777216 + u) / 65536 % 256 = u / 65536 from by omega, show (q * 16777216 + u) / 256 % 256 = u / 256 % 256 from by omega, show (q * 16777216 + u) % 256 = u % 256 from by omega]
      rw [wrap_id (z := q + u / 65536) (by omega) (by omega), wrap_id (z := q + u / 65536 + u / 256 % 256) (by omega) (by omega), wrap_id (z := q + u / 65536 + u / 256 % 256 + u % 256) (by omega) (by omega), Int.tmod_eq_emod_of_nonneg (by omega)]
      rw [show (q + u / 65536 + u / 256 % 256 + u % 256) % 251 = sumB q u from rfl]
      have hs : 0 ≤ sumB q u ∧ sumB q u < 251 := by unfold sumB; omega
      rw [wrap_id (z := (q * 16777216 + u) * 256) (by omega) (by omega), or8 (by omega) (by omega)]
      have := iBits_loop ((q * 16777216 + u) * 256 + sumB q u) 40 k [] (by omega) (by simp)
      rw [pbM_word h1 hv] at this
      exact this
    · simp only [decide_eq_true h1, decide_eq_false h2, Bool.not_false, if_true]
      rw [if_neg (fun h => h2 h.2)]
  · simp only [decide_eq_false h1, Bool.false_eq_true, if_false, if_true]
    rw [if_neg (fun h => h1 h.1)]
theorem pbM_len (q v : Int) : (pbM q v).length ≤ 40 := by
  unfold pbM; split
  · simp [bd_len]
  · simp
theorem pow40 {n : Nat} (h : n ≤ 40) : (2 : Int) ^ n ≤ 1099511627776 := by
  have : (2 : Nat) ^ n ≤ 2 ^ 40 := Nat.pow_le_pow_right (by omega) h
  have h2 : ((2 ^ n : Nat) : Int) ≤ ((2 ^ 40 : Nat) : Int) := Int.ofNat_le.2 this
  rw [Int.natCast_pow] at h2
  exact h2
/-- The number that bits form, behind a. -/
def num (a : Int) (l : List Int) : Int := l.foldl (fun n b => 2 * n + b) a
theorem num_bd (x : Int) : ∀ (c : Nat) (a : Int), num a (bd x c) = a * 2 ^ c + x % 2 ^ c
  | 0, a => by simp [num, bd]
  | c + 1, a => by
    have ih := num_bd x c (2 * a + x / 2 ^ c % 2)
    have e : num a (bd x (c + 1)) = num (2 * a + x / 2 ^ c % 2) (bd x c) := rfl
    rw [e, ih, Int.pow_succ]
    have hp : (0 : Int) < 2 ^ c := Int.pow_pos (by omega)
    generalize (2 : Int) ^ c = p at *
    have h1 : x % (p * 2) = (x / p % 2) * p + x % p := by
      have hm := Int.emod_nonneg x (show p ≠ 0 by omega)
      have hm2 := Int.emod_lt_of_pos x hp
      have hd : x = x / p * p + x % p := (Int.ediv_mul_add_emod x p).symm
      have hd2 : x / p = x / p / 2 * 2 + x / p % 2 := (Int.ediv_mul_add_emod (x / p) 2).symm
      have hb : 0 ≤ x / p % 2 ∧ x / p % 2 < 2 := by omega
      generalize x / p / 2 = t at *
      generalize x / p % 2 = b at *
      generalize x % p = r at *
      have hx : x = (b * p + r) + p * 2 * t := by
        rw [hd2] at hd
        rw [hd, Int.add_mul, Int.mul_assoc t 2 p, Int.mul_comm t (2 * p), Int.mul_comm 2 p]
        omega
      rw [hx, Int.add_mul_emod_self_left]
      have hbp : 0 ≤ b * p + r ∧ b * p + r < p * 2 := by
        rcases (show b = 0 ∨ b = 1 by omega) with rfl | rfl <;> omega
      exact Int.emod_eq_of_lt hbp.1 hbp.2
    rw [h1, Int.add_mul, Int.mul_comm 2 a, Int.mul_assoc a 2 p, Int.mul_comm 2 p]
    omega
theorem num_app (a : Int) (l m : List Int) : num a (l ++ m) = num (num a l) m := by simp [num, List.foldl_append]
theorem num_lo {l : List Int} : ∀ {a : Int}, (∀ b ∈ l, 0 ≤ b ∧ b ≤ 1) → 0 ≤ a → 0 ≤ num a l := by
  induction l with
  | nil => exact fun _ h => h
  | cons b l ih =>
    intro a hb h
    have := hb b (by simp)
    exact ih (fun c hc => hb c (by simp [hc])) (show 0 ≤ 2 * a + b by omega)
theorem num_bits_lt : ∀ (l : List Int) (a : Int) (n : Nat), (∀ b ∈ l, 0 ≤ b ∧ b ≤ 1) → 0 ≤ a → a < 2 ^ n → num a l < 2 ^ (n + l.length)
  | [], a, n, _, _, h => h
  | b :: l, a, n, hb, h0, h => by
    have h1 := hb b (by simp)
    have := num_bits_lt l (2 * a + b) (n + 1) (fun c hc => hb c (by simp [hc])) (by omega) (by rw [Int.pow_succ]; omega)
    rw [List.length_cons, show n + (l.length + 1) = n + 1 + l.length from by omega]
    exact this
theorem num_shift (l : List Int) : ∀ (a : Int), num a l = a * 2 ^ l.length + num 0 l := by
  induction l with
  | nil => intro a; simp [num]
  | cons b l ih =>
    intro a
    have e1 : num a (b :: l) = num (2 * a + b) l := rfl
    have e2 : num 0 (b :: l) = num (2 * 0 + b) l := rfl
    rw [e1, e2, ih (2 * a + b), ih (2 * 0 + b), List.length_cons, Int.pow_succ, Int.add_mul, Int.mul_comm 2 a, Int.mul_assoc a 2, Int.mul_comm 2]
    simp only [Int.mul_zero, Int.zero_add]
    omega
/-- What PacketOf tells of 40 bits that form the word w. -/
def finM (l : List Int) (w : Int) : Int × Int × Bool :=
  if pbM (w / 4294967296) (w / 256 % 16777216 - 8388608) = l ∧ l.length = 40 then (w / 4294967296, w / 256 % 16777216 - 8388608, true) else (0, 0, false)
theorem and24 (n : Int) : Go.bits .and .i64 n 16777215 = n % 16777216 := by
  have h1 : (BitVec.ofInt 64 16777215).toNat = 2 ^ 24 - 1 := by decide
  have key : (BitVec.ofInt 64 n &&& BitVec.ofInt 64 16777215).toNat = (n % ((2 ^ 64 : Nat) : Int)).toNat % 2 ^ 24 := by
    rw [BitVec.toNat_and, BitVec.toNat_ofInt, h1, Nat.and_two_pow_sub_one_eq_mod]
  show IntKind.i64.wrap ((BitVec.ofInt 64 n &&& BitVec.ofInt 64 16777215).toNat : Nat) = n % 16777216
  rw [key, IntKind.wrap_i64]
  omega
theorem or1 {x b : Int} (hx : 0 ≤ x ∧ x < 1099511627776) : Go.bits .or .i64 (x * 2) (b % 2) = 2 * x + b % 2 := by
  rw [bits_join .i64 62 (by decide) wraps62 1 (x * 2) (b % 2) (by omega) (by omega) (by omega) (by omega) (by omega) (by omega)]
  omega
theorem iPO_loop : ∀ (suf pre : List Int) (k : Nat) (w : Int), suf.length + 60 < k → (pre ++ suf).length = 40 → 0 ≤ w → w < 2 ^ pre.length →
    impl_PacketOf.l0 k (pre ++ suf) w (pre ++ suf) ((pre ++ suf).length : Int) (pre.length : Int) = some (finM (pre ++ suf) (num w (suf.map (· % 2))))
  | [], pre, k, w, hk, hb, h0, h1 => by
    obtain ⟨k, rfl⟩ := pred hk
    have hp : pre.length = 40 := by simpa using hb
    have hw := pow40 (n := pre.length) (by omega)
    simp only [impl_PacketOf.l0]
    rw [if_neg (by simp), and24, wrap_id (z := w / 256 % 16777216 - 8388608) (by omega) (by omega), iPB_eq _ _ (by simp at hk; omega), Option.bind_some]
    unfold finM
    have hn : num w (List.map (· % 2) []) = w := rfl
    rw [hn]
    generalize hG : pbM (w / 4294967296) (w / 256 % 16777216 - 8388608) = G
    have hl : G.length ≤ 40 := by rw [← hG]; exact pbM_len _ _
    by_cases hz : G.length = 0
    · rw [if_pos (by omega), if_neg (fun h => by rw [h.1] at hz; omega)]
    · rw [if_neg (by omega), equal_eq G _ (by omega) (by simp at hk; omega), Option.bind_some]
      by_cases he : G = pre ++ []
      · rw [if_pos (decide_eq_true he), if_pos ⟨he, hb⟩]
      · rw [if_neg (by simpa using he), if_neg (fun h => he h.1)]
  | a :: suf, pre, k, w, hk, hb, h0, h1 => by
    obtain ⟨k, rfl⟩ := pred hk
    have hl : (pre ++ a :: suf).length = pre.length + suf.length + 1 := by simp; omega
    have hw := pow40 (n := pre.length) (by omega)
    have ih := iPO_loop suf (pre ++ [a]) k (2 * w + a % 2) (by simp at hk; omega) (by simpa using hb) (by omega) (by
      rw [List.length_append, List.length_singleton, Int.pow_succ]; omega)
    simp only [impl_PacketOf.l0]
    rw [if_pos (by omega), if_pos (by omega), if_pos (by omega), rd_mid, wrap_id (z := w * 2) (by omega) (by omega), and1, or1 (by omega), wrap_len (a := a) (by omega), app_mid, ih]
    rfl
theorem iPO_eq (l : List Int) {k : Nat} (hk : 101 < k) : impl_PacketOf.f k l = some (finM l (num 0 (l.map (· % 2)))) := by
  unfold impl_PacketOf.f
  by_cases h : l.length = 40
  · rw [if_pos (by omega)]
    exact iPO_loop l [] k 0 (by omega) h (by omega) (by simp)
  · rw [if_neg (by omega)]
    unfold finM
    rw [if_neg (fun g => h g.2)]
theorem bit_mod {l : List Int} (h : ∀ b ∈ l, 0 ≤ b ∧ b ≤ 1) : l.map (· % 2) = l := by
  induction l with
  | nil => rfl
  | cons b l ih =>
    have := h b (by simp)
    rw [List.map_cons, ih (fun c hc => h c (by simp [hc]))]
    congr 1; omega
theorem pbM_bitO (q v : Int) : ∀ b ∈ pbM q v, 0 ≤ b ∧ b ≤ 1 := by
  unfold pbM; split
  · intro b hb
    simp only [List.mem_append] at hb
    rcases hb with (hb | hb) | hb
    · exact bd_bit _ _ b hb
    · exact bd_bit _ _ b hb
    · exact bd_bit _ _ b hb
  · simp
theorem pbM_full {q v : Int} (hq : 0 ≤ q ∧ q ≤ 255) (hv : -1000000 ≤ v ∧ v ≤ 1000000) : (pbM q v).length = 40 := by
  unfold pbM; rw [if_pos ⟨hq, hv⟩]; simp [bd_len]
theorem pbM_valid {q v : Int} {l : List Int} (h : pbM q v = l) (hl : l.length = 40) : (0 ≤ q ∧ q ≤ 255) ∧ (-1000000 ≤ v ∧ v ≤ 1000000) := by
  unfold pbM at h
  split at h
  · assumption
  · rw [← h] at hl; simp at hl
/-- The word that the bits of a packet form. -/
theorem pbM_num {q v : Int} (hq : 0 ≤ q ∧ q ≤ 255) (hv : -1000000 ≤ v ∧ v ≤ 1000000) : num 0 (pbM q v) = (q * 16777216 + (v + 8388608)) * 256 + sumB q (v + 8388608) := by
  have hs : 0 ≤ sumB q (v + 8388608) ∧ sumB q (v + 8388608) < 251 := by unfold sumB; omega
  have hu : 0 ≤ v + 8388608 ∧ v + 8388608 < 16777216 := by omega
  have e : pbM q v = bd q 8 ++ bd (v + 8388608) 24 ++ bd (sumB q (v + 8388608)) 8 := by unfold pbM; rw [if_pos ⟨hq, hv⟩]
  rw [e, ← pbM_word hq hu, num_bd]
  have e2 : (2 : Int) ^ 40 = 1099511627776 := by decide
  rw [e2]
  omega
/-- A packet is told by its bits. -/
theorem fin_self {q v : Int} (hq : 0 ≤ q ∧ q ≤ 255) (hv : -1000000 ≤ v ∧ v ≤ 1000000) : finM (pbM q v) (num 0 (pbM q v)) = (q, v, true) := by
  have hs : 0 ≤ sumB q (v + 8388608) ∧ sumB q (v + 8388608) < 251 := by unfold sumB; omega
  rw [pbM_num hq hv]
  unfold finM
  generalize sumB q (v + 8388608) = s at *
  have h1 : ((q * 16777216 + (v + 8388608)) * 256 + s) / 4294967296 = q := by omega
  have h2 : ((q * 16777216 + (v + 8388608)) * 256 + s) / 256 % 16777216 - 8388608 = v := by omega
  rw [h1, h2, if_pos ⟨rfl, pbM_full hq hv⟩]
theorem packet_ev (s : List Int) (hs : s.length ≤ 140737488351232) {k : Nat} (hk : s.length < k) : ∃ q v, spec_DrawPacket.f k s = some (q, v) ∧ (0 ≤ q ∧ q ≤ 255) ∧ (-1000000 ≤ v ∧ v ≤ 1000000) := by
  obtain ⟨h, e⟩ := new_ev s hs (k := k) hk
  obtain ⟨x, i1, h1, e1, hx, hc1⟩ := below_ev s 0 h 256 (cur0 hs) (by omega)
  obtain ⟨y, i2, h2, e2, hy, hc2⟩ := below_ev s i1 h1 2000001 hc1 (by omega)
  unfold spec_DrawPacket.f
  rw [e]; simp only [Option.bind_some]
  rw [e1]; simp only [Option.bind_some]
  rw [e2]; simp only [Option.bind_some]
  rw [wrap_id (z := y - 1000000) (by omega) (by omega)]
  exact ⟨_, _, rfl, by omega, by omega⟩
/-- Byte i of bits. -/
def byt (l : List Int) (i : Nat) : Int := num 0 ((l.drop (8 * i)).take 8)
theorem bd_split (x : Int) (m n : Nat) : bd x (m + n) = bd (x / 2 ^ n) m ++ bd x n := by
  induction m with
  | zero => simp [bd]
  | succ m ih =>
    rw [show m + 1 + n = (m + n) + 1 from by omega, bd, ih, bd, List.cons_append]
    congr 1
    rw [Nat.add_comm m n, Int.pow_add, Int.ediv_ediv_of_nonneg (Int.le_of_lt (Int.pow_pos (by omega)))]
theorem byt_app (pre l : List Int) (i j : Nat) (h : pre.length = 8 * j) (hij : i = j) (suf : List Int) (hl : l.length = 8) : byt (pre ++ (l ++ suf)) i = num 0 l := by
  subst hij
  unfold byt
  rw [← h, List.drop_left, ← hl, List.take_left]
/-- The checksum's byte of a packet's bits. -/
theorem byt_sum {q v : Int} (hq : 0 ≤ q ∧ q ≤ 255) (hv : -1000000 ≤ v ∧ v ≤ 1000000) :
    byt (pbM q v) 4 = (byt (pbM q v) 0 + byt (pbM q v) 1 + byt (pbM q v) 2 + byt (pbM q v) 3) % 251 := by
  have hu : 0 ≤ v + 8388608 ∧ v + 8388608 < 16777216 := by omega
  have e : pbM q v = bd q 8 ++ (bd ((v + 8388608) / 2 ^ 16) 8 ++ (bd ((v + 8388608) / 2 ^ 8) 8 ++ (bd (v + 8388608) 8 ++ (bd (sumB q (v + 8388608)) 8 ++ [])))) := by
    have e2 := bd_split (v + 8388608) 8 16
    have e3 := bd_split (v + 8388608) 8 8
    unfold pbM
    rw [if_pos ⟨hq, hv⟩, show (24 : Nat) = 8 + 16 from rfl, e2, show (16 : Nat) = 8 + 8 from rfl, e3]
    simp only [List.append_assoc, List.append_nil]
  generalize v + 8388608 = u at *
  have p8 : (2 : Int) ^ 8 = 256 := by decide
  have p16 : (2 : Int) ^ 16 = 65536 := by decide
  have l8 : ∀ x, (bd x 8).length = 8 := fun x => bd_len x 8
  have b0 : byt (pbM q v) 0 = q % 256 := by
    rw [e]
    have := byt_app [] (bd q 8) 0 0 (by simp) rfl (bd (u / 2 ^ 16) 8 ++ (bd (u / 2 ^ 8) 8 ++ (bd u 8 ++ (bd (sumB q u) 8 ++ [])))) (l8 _)
    rw [List.nil_append] at this
    rw [this, num_bd, p8]; omega
  have b1 : byt (pbM q v) 1 = u / 65536 % 256 := by
    rw [e, byt_app (bd q 8) (bd (u / 2 ^ 16) 8) 1 1 (by rw [l8]) rfl _ (l8 _), num_bd, p8, p16]; omega
  have b2 : byt (pbM q v) 2 = u / 256 % 256 := by
    rw [e, ← List.append_assoc, byt_app (bd q 8 ++ bd (u / 2 ^ 16) 8) (bd (u / 2 ^ 8) 8) 2 2 (by simp [l8]) rfl _ (l8 _), num_bd, p8]; omega
  have b3 : byt (pbM q v) 3 = u % 256 := by
    rw [e, ← List.append_assoc, ← List.append_assoc, byt_app (bd q 8 ++ bd (u / 2 ^ 16) 8 ++ bd (u / 2 ^ 8) 8) (bd u 8) 3 3 (by simp [l8]) rfl _ (l8 _), num_bd, p8]; omega
  have b4 : byt (pbM q v) 4 = sumB q u % 256 := by
    rw [e, ← List.append_assoc, ← List.append_assoc, ← List.append_assoc, byt_app (bd q 8 ++ bd (u / 2 ^ 16) 8 ++ bd (u / 2 ^ 8) 8 ++ bd u 8) (bd (sumB q u) 8) 4 4 (by simp [l8]) rfl _ (l8 _), num_bd, p8]; omega
  have hs : 0 ≤ sumB q u ∧ sumB q u < 251 := by unfold sumB; omega
  rw [b0, b1, b2, b3, b4, show q % 256 = q from by omega, show u / 65536 % 256 = u / 65536 from by omega, show sumB q u % 256 = sumB q u from by omega]
  rfl
theorem num_set : ∀ (l : List Int) (j : Nat) (b a : Int) (h : j < l.length), num a (l.set j b) = num a l + (b - l[j]) * 2 ^ (l.length - 1 - j)
  | [], j, _, _, h => by simp at h
  | c :: l, 0, b, a, h => by
    have e1 : num a ((c :: l).set 0 b) = num (2 * a + b) l := rfl
    have e2 : num a (c :: l) = num (2 * a + c) l := rfl
    rw [e1, e2, num_shift l (2 * a + b), num_shift l (2 * a + c)]
    simp only [List.length_cons, List.getElem_cons_zero, Nat.add_sub_cancel, Nat.sub_zero]
    rw [Int.sub_mul, Int.add_mul, Int.add_mul]
    omega
  | c :: l, j + 1, b, a, h => by
    have e1 : num a ((c :: l).set (j + 1) b) = num (2 * a + c) (l.set j b) := rfl
    have e2 : num a (c :: l) = num (2 * a + c) l := rfl
    have hj : j < l.length := by simpa using h
    rw [e1, e2, num_set l j b (2 * a + c) hj]
    simp only [List.length_cons, List.getElem_cons_succ]
    rw [show l.length + 1 - 1 - (j + 1) = l.length - 1 - j from by omega]
theorem byt_other (l : List Int) (k i : Nat) (b : Int) (h : k < 8 * i ∨ 8 * i + 8 ≤ k) : byt (l.set k b) i = byt l i := by
  unfold byt
  rcases h with h | h
  · rw [List.drop_set_of_lt h]
  · rw [List.drop_set, if_neg (by omega), List.take_set_of_le (by omega)]
theorem byt_here (l : List Int) (k i : Nat) (b : Int) (h1 : 8 * i ≤ k) (h2 : k < 8 * i + 8) (hl : 8 * i + 8 ≤ l.length) : byt (l.set k b) i = byt l i + (b - l[k]'(by omega)) * 2 ^ (7 - (k - 8 * i)) := by
  unfold byt
  have hlen : ((l.drop (8 * i)).take 8).length = 8 := by rw [List.length_take, List.length_drop]; omega
  have hlt : k - 8 * i < ((l.drop (8 * i)).take 8).length := by rw [hlen]; omega
  have e1 : ((l.drop (8 * i)).take 8).length - 1 - (k - 8 * i) = 7 - (k - 8 * i) := by rw [hlen]
  have e2 : ((l.drop (8 * i)).take 8)[k - 8 * i] = l[k]'(by omega) := by
    rw [List.getElem_take, List.getElem_drop]
    congr 1
    omega
  rw [List.drop_set, if_neg (by omega), List.take_set, num_set _ _ _ _ hlt, e1, e2]
theorem byt_bd (l : List Int) (i : Nat) (h : ∀ b ∈ l, 0 ≤ b ∧ b ≤ 1) : 0 ≤ byt l i ∧ byt l i < 256 := by
  have hb : ∀ b ∈ (l.drop (8 * i)).take 8, 0 ≤ b ∧ b ≤ 1 := fun b hb => h b (List.mem_of_mem_drop (List.mem_of_mem_take hb))
  refine ⟨num_lo hb (by omega), ?_⟩
  have := num_bits_lt _ 0 0 hb (by omega) (by simp)
  have hle : ((l.drop (8 * i)).take 8).length ≤ 8 := by rw [List.length_take]; omega
  have h2 : (2 : Int) ^ (0 + ((l.drop (8 * i)).take 8).length) ≤ 256 := by
    have : (2 : Nat) ^ (0 + ((l.drop (8 * i)).take 8).length) ≤ 2 ^ 8 := Nat.pow_le_pow_right (by omega) (by omega)
    have h2 : ((2 ^ (0 + ((l.drop (8 * i)).take 8).length) : Nat) : Int) ≤ ((2 ^ 8 : Nat) : Int) := Int.ofNat_le.2 this
    rw [Int.natCast_pow] at h2
    exact h2
  unfold byt
  omega
theorem pow_cases (j : Nat) : (2 : Int) ^ (7 - j) = 1 ∨ (2 : Int) ^ (7 - j) = 2 ∨ (2 : Int) ^ (7 - j) = 4 ∨ (2 : Int) ^ (7 - j) = 8 ∨ (2 : Int) ^ (7 - j) = 16 ∨ (2 : Int) ^ (7 - j) = 32 ∨ (2 : Int) ^ (7 - j) = 64 ∨ (2 : Int) ^ (7 - j) = 128 := by
  have h : 7 - j ≤ 7 := by omega
  generalize 7 - j = n at h
  match n, h with
  | 0, _ => decide
  | 1, _ => decide
  | 2, _ => decide
  | 3, _ => decide
  | 4, _ => decide
  | 5, _ => decide
  | 6, _ => decide
  | 7, _ => decide
/-- No packet's bits become another's by one wrong bit. -/
theorem flip_no {q v q' v' : Int} (hq : 0 ≤ q ∧ q ≤ 255) (hv : -1000000 ≤ v ∧ v ≤ 1000000) {k : Nat} (hk : k < 40) (hb : k < (pbM q v).length) (h : pbM q' v' = (pbM q v).set k (1 - (pbM q v)[k])) : False := by
  have hlen := pbM_full hq hv
  have hl' : (pbM q' v').length = 40 := by rw [h]; simpa using hlen
  obtain ⟨hq', hv'⟩ := pbM_valid rfl hl'
  have s1 := byt_sum hq hv
  have s2 := byt_sum hq' hv'
  rw [h] at s2
  have hbits := pbM_bitO q v
  have hd := fun i => byt_bd (pbM q v) i hbits
  have hbk := hbits _ (List.getElem_mem hb)
  have hd0 := hd 0
  have hd1 := hd 1
  have hd2 := hd 2
  have hd3 := hd 3
  have hd4 := hd 4
  generalize hc : (pbM q v)[k] = c at *
  have key : ∀ i, 8 * i ≤ k → k < 8 * i + 8 → i ≤ 4 → byt ((pbM q v).set k (1 - c)) i = byt (pbM q v) i + (1 - c - c) * 2 ^ (7 - (k - 8 * i)) := by
    intro i h1 h2 h3
    rw [byt_here (pbM q v) k i (1 - c) h1 h2 (by omega), hc]
  have oth : ∀ i, (k < 8 * i ∨ 8 * i + 8 ≤ k) → byt ((pbM q v).set k (1 - c)) i = byt (pbM q v) i := fun i hi => byt_other _ _ _ _ hi
  rcases (show (k < 8) ∨ (8 ≤ k ∧ k < 16) ∨ (16 ≤ k ∧ k < 24) ∨ (24 ≤ k ∧ k < 32) ∨ (32 ≤ k ∧ k < 40) by omega) with hk0 | hk0 | hk0 | hk0 | hk0
  · rw [key 0 (by omega) (by omega) (by omega), oth 1 (by omega), oth 2 (by omega), oth 3 (by omega), oth 4 (by omega)] at s2
    rcases (show c = 0 ∨ c = 1 by omega) with rfl | rfl <;> rcases pow_cases (k - 8 * 0) with e | e | e | e | e | e | e | e <;> rw [e] at s2 <;> omega
  · rw [key 1 (by omega) (by omega) (by omega), oth 0 (by omega), oth 2 (by omega), oth 3 (by omega), oth 4 (by omega)] at s2
    rcases (show c = 0 ∨ c = 1 by omega) with rfl | rfl <;> rcases pow_cases (k - 8 * 1) with e | e | e | e | e | e | e | e <;> rw [e] at s2 <;> omega
  · rw [key 2 (by omega) (by omega) (by omega), oth 0 (by omega), oth 1 (by omega), oth 3 (by omega), oth 4 (by omega)] at s2
    rcases (show c = 0 ∨ c = 1 by omega) with rfl | rfl <;> rcases pow_cases (k - 8 * 2) with e | e | e | e | e | e | e | e <;> rw [e] at s2 <;> omega
  · rw [key 3 (by omega) (by omega) (by omega), oth 0 (by omega), oth 1 (by omega), oth 2 (by omega), oth 4 (by omega)] at s2
    rcases (show c = 0 ∨ c = 1 by omega) with rfl | rfl <;> rcases pow_cases (k - 8 * 3) with e | e | e | e | e | e | e | e <;> rw [e] at s2 <;> omega
  · rw [key 4 (by omega) (by omega) (by omega), oth 0 (by omega), oth 1 (by omega), oth 2 (by omega), oth 3 (by omega)] at s2
    rcases (show c = 0 ∨ c = 1 by omega) with rfl | rfl <;> rcases pow_cases (k - 8 * 4) with e | e | e | e | e | e | e | e <;> rw [e] at s2 <;> omega

theorem FnBitErrors : laws_FnBitErrors.Pure := by
  intro l hm h8 hw
  have hs : l.length ≤ 140737488351232 := by omega
  obtain ⟨q, v, e1, hq, hv⟩ := packet_ev l hs (k := l.length + 200) (by omega)
  obtain ⟨t, e2, hl, ht⟩ := places_ev l hs (k := l.length + 200) (by omega)
  refine ⟨l.length + 200, ?_⟩
  unfold laws_FnBitErrors.f laws_big.f
  rw [Option.bind_some]
  by_cases hbig : decide ((l.length : Int) > 1048576) = true
  · rw [if_pos hbig]
  have hlen := pbM_full hq hv
  have h0 := ht 0 (by omega) (by omega)
  rw [if_neg hbig, e1, Option.bind_some, e2, Option.bind_some, iPB_eq q v (by omega), Option.bind_some, tmod_pos h0.1]
  generalize rd t 0 = x0 at *
  have hx : 0 ≤ x0 % 40 ∧ x0 % 40 < 40 := by omega
  generalize x0 % 40 = z at *
  obtain ⟨n, rfl⟩ := Int.eq_ofNat_of_zero_le hx.1
  have hn : n < (pbM q v).length := by omega
  have hr : rd (pbM q v) (n : Int) = (pbM q v)[n] := by
    unfold rd
    rw [Int.toNat_natCast, List.getD_eq_getElem?_getD, List.getElem?_eq_getElem hn]; rfl
  have hbk := pbM_bitO q v _ (List.getElem_mem hn)
  rw [if_pos (by omega), if_pos (by omega), if_pos (by omega), if_pos (by omega), hr, wrap_id (z := 1 - (pbM q v)[n]) (by omega) (by omega), Int.toNat_natCast, iPO_eq _ (by omega), Option.bind_some]
  unfold finM
  rw [if_neg]
  · rfl
  · intro h
    have hbits : ∀ b ∈ (pbM q v).set n (1 - (pbM q v)[n]), 0 ≤ b ∧ b ≤ 1 := by
      intro b hb
      rcases List.mem_or_eq_of_mem_set hb with hb | hb
      · exact pbM_bitO q v b hb
      · omega
    exact flip_no hq hv (by omega) hn h.1

end Go.Proofs.Ytfbndpgbebbljaa.Pure
