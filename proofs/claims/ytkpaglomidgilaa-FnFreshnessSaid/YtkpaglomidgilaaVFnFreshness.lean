/- The pure statement of the law FnFreshness: what the printed function comes to is true for every list of bytes. No condition beyond the row's own bounds. -/
import Derived.Test.YtkpaglomidgilaaQFnFreshness3
import Derived.OpenShut
namespace Go.Proofs.Ytkpaglomidgilaa.Pure
open Go.RowKit Go.Proofs.Ytkpaglomidgilaa.QFnFreshness Go.Proofs.YtkpaglomidgilaaW.PrintWords Go.Proofs.YtkpaglomidgilaaW.PrintLast Go.Proofs.YtkpaglomidgilaaW.PrintMore
set_option linter.unusedVariables false
set_option linter.unusedSimpArgs false
--BLOCKS
theorem wf_b {z : Int} (h : (Lit.int .i64 z).wf = true) : -9223372036854775808 ≤ z ∧ z ≤ 9223372036854775807 := bounds_i64 h
theorem wrap_id {z : Int} (h1 : -9223372036854775808 ≤ z) (h2 : z ≤ 9223372036854775807) : wrap64 z = z := by unfold wrap64; omega
theorem mn_min (a b : Int) : mn a b = min a b := by unfold mn; omega
theorem mx_max (a b : Int) : mx a b = max a b := by unfold mx; omega
theorem within_eq (x lo hi : Int) : impl_within.f x lo hi = some (decide (lo ≤ x ∧ x ≤ hi)) := by
  unfold impl_within.f; split <;> simp_all <;> omega
theorem iSpan_eq (a b : Int) : impl_SpanOk.f a b = some (decide (0 ≤ a ∧ a ≤ b ∧ b ≤ 1000000)) := by
  unfold impl_SpanOk.f; split <;> (try split) <;> simp_all <;> omega
theorem iUnc_eq (a b : Int) : impl_Uncertainty.f a b = some (if 0 ≤ a ∧ a ≤ b ∧ b ≤ 1000000 then b - a else -1) := by
  simp only [impl_Uncertainty.f, iSpan_eq, Option.bind_some]
  split
  · rename_i h
    have h := of_decide_eq_true h
    rw [if_pos h, wrap_id (by omega) (by omega)]
  · rename_i h
    rw [if_neg (by simpa using h)]
theorem iTimes_eq (a b v c d n : Int) : impl_areTimes.f a b v c d n = some (decide ((0 ≤ a ∧ a ≤ b ∧ b ≤ 1000000) ∧ (0 ≤ c ∧ c ≤ d ∧ d ≤ 1000000) ∧ (0 ≤ n ∧ n ≤ 1000000))) := by
  simp only [impl_areTimes.f, impl_isTime.f, within_eq, iSpan_eq, Option.bind_some]
  split <;> (try split) <;> simp_all <;> omega
/-- 1: certainly fresh; 0: certainly not; 2: unknown. -/
def freshM (a b c d n : Int) : Int := if (0 ≤ a ∧ a ≤ b ∧ b ≤ 1000000) ∧ (0 ≤ c ∧ c ≤ d ∧ d ≤ 1000000) ∧ (0 ≤ n ∧ n ≤ 1000000) then (if b - c ≤ n then 1 else if a - d > n then 0 else 2) else 2
theorem iFresh_eq (a b v c d n : Int) : impl_FreshState.f a b v c d n = some (freshM a b c d n) := by
  unfold freshM
  simp only [impl_FreshState.f, iTimes_eq, Option.bind_some]
  by_cases h : (0 ≤ a ∧ a ≤ b ∧ b ≤ 1000000) ∧ (0 ≤ c ∧ c ≤ d ∧ d ≤ 1000000) ∧ (0 ≤ n ∧ n ≤ 1000000)
  · rw [if_pos (decide_eq_true h), if_pos h, wrap_id (z := b - c) (by omega) (by omega), wrap_id (z := a - d) (by omega) (by omega)]
    split
    · rfl
    · split <;> rfl
  · rw [if_neg (by simpa using h), if_neg h]
theorem iUse_eq (a b v c d n o : Int) : impl_UseFresh.f a b v c d n o = some (if freshM a b c d n = 1 then v else o) := by
  simp only [impl_UseFresh.f, iFresh_eq, Option.bind_some]
  split <;> simp_all <;> omega
theorem and255 (n : Int) : Go.bits .and .i64 n 255 = n % 256 := by
  have h255 : (BitVec.ofInt 64 255).toNat = 2 ^ 8 - 1 := by decide
  have key : (BitVec.ofInt 64 n &&& BitVec.ofInt 64 255).toNat = (n % ((2 ^ 64 : Nat) : Int)).toNat % 2 ^ 8 := by
    rw [BitVec.toNat_and, BitVec.toNat_ofInt, h255, Nat.and_two_pow_sub_one_eq_mod]
  show IntKind.i64.wrap ((BitVec.ofInt 64 n &&& BitVec.ofInt 64 255).toNat : Nat) = n % 256
  rw [key, IntKind.wrap_i64]
  omega
/-- The cursor lies within its bytes. -/
def Cur (s : List Int) (i : Int) : Prop := 0 ≤ i ∧ i ≤ s.length ∧ s.length ≤ 140737488351232
theorem byte_ev (s : List Int) (i h : Int) (hc : Cur s i) : ∃ x i' h', spec_l01Byte.f s i h = some (x, i', h') ∧ (0 ≤ x ∧ x ≤ 255) ∧ Cur s i' := by
  obtain ⟨h0, h1, h2⟩ := hc
  unfold spec_l01Byte.f
  split
  · try rw [if_pos h0]
    rw [and255, wrap_id (z := i + 1) (by omega) (by omega)]
    exact ⟨_, _, _, rfl, by omega, by omega, by omega, h2⟩
  · rw [and255]
    exact ⟨_, _, _, rfl, by omega, h0, h1, h2⟩
theorem below_ev (s : List Int) (i h n : Int) (hc : Cur s i) (hn : 0 < n) : ∃ x i' h', spec_l01Below.f s i h n = some (x, i', h') ∧ (0 ≤ x ∧ x < n) ∧ Cur s i' := by
  unfold spec_l01Below.f
  rw [if_neg (by omega)]
  split
  · obtain ⟨x, i1, h1, e1, hx, hc1⟩ := byte_ev s i h hc
    rw [e1]; simp only [Option.bind_some]
    rw [if_neg (by omega)]
    refine ⟨_, _, _, rfl, ?_, hc1⟩
    have := Int.tmod_eq_emod_of_nonneg hx.1 (b := n)
    rw [this]
    exact ⟨Int.emod_nonneg _ (by omega), Int.emod_lt_of_pos _ hn⟩
  · obtain ⟨x, i1, h1, e1, hx, hc1⟩ := byte_ev s i h hc
    obtain ⟨y, i2, h2, e2, hy, hc2⟩ := byte_ev s i1 h1 hc1
    obtain ⟨z, i3, h3, e3, hz, hc3⟩ := byte_ev s i2 h2 hc2
    obtain ⟨v, i4, h4, e4, hv, hc4⟩ := byte_ev s i3 h3 hc3
    rw [e1]; simp only [Option.bind_some]
    rw [e2]; simp only [Option.bind_some]
    rw [e3]; simp only [Option.bind_some]
    rw [e4]; simp only [Option.bind_some]
    rw [if_neg (by omega)]
    refine ⟨_, _, _, rfl, ?_, hc4⟩
    have hw : wrap64 ((wrap64 ((wrap64 ((wrap64 (x * 16777216)) + (wrap64 (y * 65536)))) + (wrap64 (z * 256)))) + v) = x * 16777216 + y * 65536 + z * 256 + v := by
      rw [wrap_id (z := x * 16777216) (by omega) (by omega), wrap_id (z := y * 65536) (by omega) (by omega), wrap_id (z := z * 256) (by omega) (by omega), wrap_id (z := x * 16777216 + y * 65536) (by omega) (by omega), wrap_id (z := x * 16777216 + y * 65536 + z * 256) (by omega) (by omega), wrap_id (by omega) (by omega)]
    rw [hw, Int.tmod_eq_emod_of_nonneg (by omega)]
    exact ⟨Int.emod_nonneg _ (by omega), Int.emod_lt_of_pos _ hn⟩
theorem new_loop (s : List Int) (hs : s.length ≤ 140737488351232) : ∀ (d k i : Nat) (h : Int), i + d = s.length → d < k → ∃ h', spec_l01New.l0 k s h (i : Int) = some (s, 0, h')
  | 0, k, i, h, hi, hk => by
    obtain ⟨k, rfl⟩ : ∃ j, k = j + 1 := ⟨k - 1, by omega⟩
    simp only [spec_l01New.l0]
    rw [if_neg (by omega)]
    exact ⟨_, rfl⟩
  | d + 1, k, i, h, hi, hk => by
    obtain ⟨k, rfl⟩ : ∃ j, k = j + 1 := ⟨k - 1, by omega⟩
    simp only [spec_l01New.l0]
    rw [if_pos (by omega)]
    split
    · rw [if_pos (by omega), wrap_id (z := (i : Int) + 1) (by omega) (by omega)]
      exact new_loop s hs d k (i + 1) _ (by omega) (by omega)
    · exact ⟨_, rfl⟩
/-- A cursor of the call's own, with enough rounds. -/
theorem new_ev (s : List Int) (hs : s.length ≤ 140737488351232) {k : Nat} (hk : s.length < k) : ∃ h', spec_l01New.f k s = some (s, 0, h') := new_loop s hs s.length k 0 _ (by omega) hk
theorem cur0 {s : List Int} (hs : s.length ≤ 140737488351232) : Cur s 0 := ⟨by omega, by omega, hs⟩
theorem rd_mem {t : List Int} {i : Int} (h0 : 0 ≤ i) (h1 : i < t.length) : rd t i ∈ t := by
  unfold rd
  rw [List.getD_eq_getElem?_getD, List.getElem?_eq_getElem (by omega)]
  exact List.getElem_mem _
/-- All of these are drawn numbers from 0 to 9999. -/
def Pl (t : List Int) : Prop := t.length = 12 ∧ ∀ i : Int, 0 ≤ i → i < 12 → 0 ≤ rd t i ∧ rd t i < 10000
theorem places_loop (s : List Int) : ∀ (d k n : Nat) (t : List Int) (i h : Int), n + d = 12 → d < k → t.length = n → (∀ x ∈ t, 0 ≤ x ∧ x < 10000) → Cur s i →
    ∃ t', spec_DrawPlaces.l0 k t (n : Int) s i h = some t' ∧ t'.length = 12 ∧ ∀ x ∈ t', 0 ≤ x ∧ x < 10000
  | 0, k, n, t, i, h, hn, hk, ht, ha, hc => by
    obtain ⟨k, rfl⟩ : ∃ j, k = j + 1 := ⟨k - 1, by omega⟩
    simp only [spec_DrawPlaces.l0]
    rw [if_neg (by omega)]
    exact ⟨t, rfl, by omega, ha⟩
  | d + 1, k, n, t, i, h, hn, hk, ht, ha, hc => by
    obtain ⟨k, rfl⟩ : ∃ j, k = j + 1 := ⟨k - 1, by omega⟩
    obtain ⟨x, i', h', e, hx, hc'⟩ := below_ev s i h 10000 hc (by omega)
    simp only [spec_DrawPlaces.l0]
    rw [if_pos (by omega), e]
    simp only [Option.bind_some]
    rw [if_pos (by omega), wrap_id (z := (n : Int) + 1) (by omega) (by omega)]
    refine places_loop s d k (n + 1) (t ++ [x]) i' h' (by omega) (by omega) (by simp [ht]) ?_ hc'
    intro y hy
    rcases List.mem_append.1 hy with hy | hy
    · exact ha y hy
    · rw [List.mem_singleton.1 hy]; exact hx
theorem places_ev (s : List Int) (hs : s.length ≤ 140737488351232) {k : Nat} (hk : s.length + 13 < k) : ∃ t, spec_DrawPlaces.f k s = some t ∧ Pl t := by
  obtain ⟨h, e⟩ := new_ev s hs (k := k) (by omega)
  unfold spec_DrawPlaces.f
  rw [e]; simp only [Option.bind_some]
  obtain ⟨t, e, hl, ha⟩ := places_loop s 12 k 0 [] 0 h (by omega) (by omega) rfl (by simp) (cur0 hs)
  exact ⟨t, e, hl, fun i h0 h1 => ha _ (rd_mem h0 (by omega))⟩
theorem tmod_pos {a b : Int} (ha : 0 ≤ a) : Int.tmod a b = a % b := Int.tmod_eq_emod_of_nonneg ha
theorem span_ev (s : List Int) (hs : s.length ≤ 140737488351232) {k : Nat} (hk : s.length < k) : ∃ a b, spec_DrawSpan.f k s = some (a, b) ∧ 0 ≤ a ∧ a ≤ b ∧ b < 360 := by
  obtain ⟨h, e⟩ := new_ev s hs (k := k) hk
  obtain ⟨x, i1, h1, e1, hx, hc1⟩ := below_ev s 0 h 300 (cur0 hs) (by omega)
  obtain ⟨y, i2, h2, e2, hy, hc2⟩ := below_ev s i1 h1 60 hc1 (by omega)
  unfold spec_DrawSpan.f spec_l28Span.f
  rw [e]; simp only [Option.bind_some]
  rw [e1]; simp only [Option.bind_some]
  rw [e2]; simp only [Option.bind_some]
  rw [wrap_id (z := x + y) (by omega) (by omega)]
  exact ⟨_, _, rfl, by omega, by omega, by omega⟩
theorem rd_mid (pre : List Int) (a : Int) (suf : List Int) : rd (pre ++ a :: suf) (pre.length : Int) = a := by simp [rd]
theorem len_mid {α : Type} (pre : List α) (a : α) (suf : List α) : (pre ++ a :: suf).length = (pre ++ [a]).length + suf.length := by simp; omega
theorem app_mid {α : Type} (pre : List α) (a : α) (suf : List α) : pre ++ a :: suf = (pre ++ [a]) ++ suf := by simp
theorem wrap_len {α : Type} {pre : List α} {a : α} (h : pre.length < 9223372036854775807) : wrap64 ((pre.length : Int) + 1) = ((pre ++ [a]).length : Int) := by
  rw [wrap_id (by omega) (by omega)]; simp
theorem pred {d k : Nat} (h : d < k) : ∃ j, k = j + 1 := ⟨k - 1, by omega⟩

theorem FnFreshness : laws_FnFreshness.Pure := by
  intro l hm h8 hw
  have hs : l.length ≤ 140737488351232 := by omega
  obtain ⟨a, b, e1, ha, hab, hb⟩ := span_ev l hs (k := l.length + 14) (by omega)
  obtain ⟨t, e2, hl, ht⟩ := places_ev l hs (k := l.length + 14) (by omega)
  refine ⟨l.length + 14, ?_⟩
  unfold laws_FnFreshness.f laws_big.f
  rw [Option.bind_some]
  by_cases hbig : decide ((l.length : Int) > 1048576) = true
  · rw [if_pos hbig]
  rw [if_neg hbig, e1, Option.bind_some, e2, Option.bind_some, hl]
  dsimp only
  have h0 := ht 0 (by omega) (by omega)
  have h1 := ht 1 (by omega) (by omega)
  have h2 := ht 2 (by omega) (by omega)
  have h3 := ht 3 (by omega) (by omega)
  have h4 := ht 4 (by omega) (by omega)
  generalize rd t 0 = x0 at *
  generalize rd t 1 = x1 at *
  generalize rd t 2 = x2 at *
  generalize rd t 3 = x3 at *
  generalize rd t 4 = x4 at *
  rw [tmod_pos h0.1, tmod_pos h1.1, tmod_pos h2.1, tmod_pos h3.1, tmod_pos h4.1]
  have y0 : 0 ≤ x0 % 200 ∧ x0 % 200 < 200 := by omega
  have y1 : 0 ≤ x1 % 40 ∧ x1 % 40 < 40 := by omega
  have y2 : 0 ≤ x2 % 200 ∧ x2 % 200 < 200 := by omega
  generalize x0 % 200 = lo at *
  generalize x1 % 40 = hi at *
  generalize x2 % 200 = lim at *
  rw [wrap_id (z := b - a) (by omega) (by omega), wrap_id (z := b - a + 1) (by omega) (by omega), wrap_id (z := lo + hi) (by omega) (by omega), wrap_id (z := lo + hi - lo) (by omega) (by omega), wrap_id (z := lo + hi - lo + 1) (by omega) (by omega)]
  have m3 := Int.emod_nonneg x3 (show b - a + 1 ≠ 0 by omega)
  have m3' := Int.emod_lt_of_pos x3 (show 0 < b - a + 1 by omega)
  have m4 := Int.emod_nonneg x4 (show lo + hi - lo + 1 ≠ 0 by omega)
  have m4' := Int.emod_lt_of_pos x4 (show 0 < lo + hi - lo + 1 by omega)
  generalize x3 % (b - a + 1) = p at *
  generalize x4 % (lo + hi - lo + 1) = q at *
  rw [wrap_id (z := a + p) (by omega) (by omega), wrap_id (z := lo + q) (by omega) (by omega), wrap_id (z := a + p - (lo + q)) (by omega) (by omega)]
  rw [if_pos (by omega), if_pos (by omega), if_pos (by omega), if_pos (by omega), if_neg (by omega), if_pos (by omega), if_neg (by omega), iFresh_eq, Option.bind_some, iUse_eq, Option.bind_some]
  have hf : freshM a b lo (lo + hi) lim = if b - lo ≤ lim then 1 else if a - (lo + hi) > lim then 0 else 2 := by
    unfold freshM; rw [if_pos (by omega)]
  rw [hf]
  by_cases g1 : b - lo ≤ lim
  · rw [if_pos g1, if_pos rfl, if_pos rfl, if_pos (by omega)]; rfl
  · rw [if_neg g1]
    by_cases g2 : a - (lo + hi) > lim
    · have k1 : a + p - (lo + q) > lim := by omega
      have z1 : ((0 : Int) = 1) = False := by decide
      have z2 : ((0 : Int) = 2) = False := by decide
      rw [if_pos g2]
      simp only [z1, z2, if_false, if_true]
      rw [if_pos k1]
    · have z1 : ((2 : Int) = 1) = False := by decide
      have z2 : ((2 : Int) = 0) = False := by decide
      rw [if_neg g2]
      simp only [z1, z2, if_false, if_true, iUnc_eq, Option.bind_some]
      rw [if_pos (by omega), if_pos (by omega), wrap_id (by omega) (by omega)]
      congr 1
      exact decide_eq_true (by omega)

end Go.Proofs.Ytkpaglomidgilaa.Pure
