/- The pure statement of the law FnOutages: what the printed function comes to is true for every list of bytes. No condition beyond the row's own bounds. -/
import Derived.Test.YtkpaglomidgilaaQFnOutages2
import Derived.OpenShut
namespace Go.Proofs.Ytkpaglomidgilaa.Pure
open Go.RowKit Go.Proofs.Ytkpaglomidgilaa.QFnOutages Go.Proofs.YtkpaglomidgilaaW.PrintWords Go.Proofs.YtkpaglomidgilaaW.PrintLast Go.Proofs.YtkpaglomidgilaaW.PrintMore
set_option linter.unusedVariables false
set_option linter.unusedSimpArgs false
--BLOCKS
theorem wf_b {z : Int} (h : (Lit.int .i64 z).wf = true) : -9223372036854775808 ≤ z ∧ z ≤ 9223372036854775807 := bounds_i64 h
theorem wrap_id {z : Int} (h1 : -9223372036854775808 ≤ z) (h2 : z ≤ 9223372036854775807) : wrap64 z = z := by unfold wrap64; omega
theorem mn_min (a b : Int) : mn a b = min a b := by unfold mn; omega
theorem mx_max (a b : Int) : mx a b = max a b := by unfold mx; omega
theorem within_eq (x lo hi : Int) : impl_within.f x lo hi = some (decide (lo ≤ x ∧ x ≤ hi)) := by
  unfold impl_within.f; split <;> simp_all <;> omega
theorem iDecay_eq (a b c : Int) : impl_DecayOk.f a b c = some (decide ((1 ≤ a ∧ a ≤ 100000) ∧ (0 ≤ b ∧ b ≤ 999) ∧ (0 ≤ c ∧ c ≤ 1000))) := by
  simp only [impl_DecayOk.f, within_eq, Option.bind_some]
  split <;> (try split) <;> simp_all <;> omega
/-- The level after n ticks. -/
def lv (s q : Int) : Nat → Int
  | 0 => s
  | n + 1 => lv s q n * q / 1000
theorem lv_bd {s q : Int} (hs : 0 ≤ s ∧ s ≤ 100000) (hq : 0 ≤ q ∧ q ≤ 999) : ∀ n, 0 ≤ lv s q n ∧ lv s q n ≤ 100000
  | 0 => hs
  | n + 1 => by
    obtain ⟨h1, h2⟩ := lv_bd hs hq n
    have h3 : 0 ≤ lv s q n * q := Int.mul_nonneg h1 hq.1
    have h4 : lv s q n * q ≤ lv s q n * 1000 := Int.mul_le_mul_of_nonneg_left (by omega) h1
    unfold lv
    omega
theorem lv_mul {s q : Int} (hs : 0 ≤ s ∧ s ≤ 100000) (hq : 0 ≤ q ∧ q ≤ 999) (n : Nat) : 0 ≤ lv s q n * q ∧ lv s q n * q ≤ 100000000 := by
  obtain ⟨h1, h2⟩ := lv_bd hs hq n
  have h3 : 0 ≤ lv s q n * q := Int.mul_nonneg h1 hq.1
  have h4 : lv s q n * q ≤ lv s q n * 1000 := Int.mul_le_mul_of_nonneg_left (by omega) h1
  omega
theorem lv_step {s q : Int} (hs : 0 ≤ s ∧ s ≤ 100000) (hq : 0 ≤ q ∧ q ≤ 999) (n : Nat) : wrap64 (Int.tdiv (wrap64 (lv s q n * q)) 1000) = lv s q (n + 1) := by
  have h := lv_mul hs hq n
  rw [wrap_id (z := lv s q n * q) (by omega) (by omega), Int.tdiv_eq_ediv_of_nonneg h.1, wrap_id (by omega) (by omega)]
  rfl
def lvs (s q : Int) (n : Nat) : List Int := (List.range (n + 1)).map (lv s q)
theorem lvs_len (s q : Int) (n : Nat) : (lvs s q n).length = n + 1 := by simp [lvs]
theorem lvs_get (s q : Int) (n i : Nat) (h : i ≤ n) : rd (lvs s q n) (i : Int) = lv s q i := by
  unfold rd lvs
  rw [Int.toNat_natCast, List.getD_eq_getElem?_getD, List.getElem?_map, List.getElem?_range (by omega)]
  rfl
theorem lvs_succ (s q : Int) (n : Nat) : lvs s q (n + 1) = lvs s q n ++ [lv s q (n + 1)] := by
  unfold lvs
  rw [List.range_succ, List.map_append]; rfl
theorem levels_loop {s q : Int} (e : Int) (hs : 0 ≤ s ∧ s ≤ 100000) (hq : 0 ≤ q ∧ q ≤ 999) (m : Nat) (hm : m ≤ 2000) :
    ∀ (d k i : Nat), i + d = m → d < k → impl_Decay_levels.l0 k (lvs s q i) (m : Int) (i : Int) s q e = some (lvs s q m)
  | 0, k, i, hi, hk => by
    obtain ⟨k, rfl⟩ : ∃ j, k = j + 1 := ⟨k - 1, by omega⟩
    obtain rfl : i = m := by omega
    simp only [impl_Decay_levels.l0]
    rw [if_neg (by omega)]
  | d + 1, k, i, hi, hk => by
    obtain ⟨k, rfl⟩ : ∃ j, k = j + 1 := ⟨k - 1, by omega⟩
    have ih := levels_loop e hs hq m hm d k (i + 1) (by omega) (by omega)
    simp only [impl_Decay_levels.l0]
    rw [if_pos (by omega), if_pos (by omega), if_pos (by rw [lvs_len]; omega), if_pos (by rw [lvs_len]; omega), lvs_get s q i i (Nat.le_refl _), lv_step hs hq, ← lvs_succ, wrap_id (by omega) (by omega)]
    exact ih
theorem levels_eq {s q : Int} (e : Int) (hs : 0 ≤ s ∧ s ≤ 100000) (hq : 0 ≤ q ∧ q ≤ 999) {n : Int} (h0 : 0 ≤ n) (h1 : n ≤ 2000) {k : Nat} (hk : 2001 ≤ k) : impl_Decay_levels.f k s q e n = some (lvs s q n.toNat) := by
  obtain ⟨m, rfl⟩ := Int.eq_ofNat_of_zero_le h0
  have := levels_loop e hs hq m (by omega) m k 0 (by omega) (by omega)
  rw [Int.toNat_natCast]
  exact this
/-- Start, Keep and Error are in their ranges. -/
def okD (a b c : Int) : Prop := (1 ≤ a ∧ a ≤ 100000) ∧ (0 ≤ b ∧ b ≤ 999) ∧ (0 ≤ c ∧ c ≤ 1000)
instance (a b c : Int) : Decidable (okD a b c) := by unfold okD; exact inferInstance
def levM (a b c n : Int) : Int := if okD a b c ∧ (0 ≤ n ∧ n ≤ 2000) then lv a b n.toNat else -1
theorem iLev_eq (a b c n : Int) {k : Nat} (hk : 2001 ≤ k) : impl_LevelAfter.f k a b c n = some (levM a b c n) := by
  unfold levM
  simp only [impl_LevelAfter.f, impl_isOff.f, iDecay_eq, within_eq, Option.bind_some]
  by_cases h1 : okD a b c
  · have h1' : decide ((1 ≤ a ∧ a ≤ 100000) ∧ (0 ≤ b ∧ b ≤ 999) ∧ (0 ≤ c ∧ c ≤ 1000)) = true := decide_eq_true h1
    rw [h1', if_pos rfl]
    by_cases h2 : 0 ≤ n ∧ n ≤ 2000
    · have hh := And.intro h1 h2
      rw [if_pos (decide_eq_true h2), levels_eq c ⟨by have := h1.1; omega, h1.1.2⟩ h1.2.1 h2.1 h2.2 hk, if_pos hh]
      simp only [Option.bind_some]
      rw [if_pos h2.1, if_pos (by rw [lvs_len]; omega)]
      congr 1
      have := lvs_get a b n.toNat n.toNat (Nat.le_refl _)
      rwa [Int.toNat_of_nonneg h2.1] at this
    · have hh : ¬ (okD a b c ∧ (0 ≤ n ∧ n ≤ 2000)) := fun h => h2 h.2
      rw [if_neg (by simpa using h2), if_neg hh]
  · have hh : ¬ (okD a b c ∧ (0 ≤ n ∧ n ≤ 2000)) := fun h => h1 h.1
    have h1' : decide ((1 ≤ a ∧ a ≤ 100000) ∧ (0 ≤ b ∧ b ≤ 999) ∧ (0 ≤ c ∧ c ≤ 1000)) = false := decide_eq_false h1
    rw [h1', if_neg hh]; rfl
/-- The least and the greatest tick so far, behind i ticks. -/
def offR (s q e x : Int) : Nat → Int × Int
  | 0 => (-1, -1)
  | i + 1 => if -e ≤ lv s q i - x ∧ lv s q i - x ≤ e then (if (offR s q e x i).1 < 0 then (i : Int) else (offR s q e x i).1, (i : Int)) else offR s q e x i
def okO (a b c x n : Int) : Prop := okD a b c ∧ (0 ≤ n ∧ n ≤ 2000) ∧ (-200000 ≤ x ∧ x ≤ 200000)
instance (a b c x n : Int) : Decidable (okO a b c x n) := by unfold okO; exact inferInstance
def offRM (a b c x n : Int) : Int × Int := if okO a b c x n then offR a b c x (n.toNat + 1) else (-1, -1)
theorem iOff_loop {s q e x : Int} (hs : 0 ≤ s ∧ s ≤ 100000) (hq : 0 ≤ q ∧ q ≤ 999) (he : 0 ≤ e ∧ e ≤ 1000) (hx : -200000 ≤ x ∧ x ≤ 200000) (m : Nat) (hm : m ≤ 2000) :
    ∀ (d k i : Nat), i + d = m + 1 → d < k → impl_OffRange.l0 k x (offR s q e x i).1 (offR s q e x i).2 (lvs s q m) ((lvs s q m).length : Int) (i : Int) s q e = some (offR s q e x (m + 1))
  | 0, k, i, hi, hk => by
    obtain ⟨k, rfl⟩ : ∃ j, k = j + 1 := ⟨k - 1, by omega⟩
    obtain rfl : i = m + 1 := by omega
    simp only [impl_OffRange.l0]
    rw [if_neg (by rw [lvs_len]; omega)]
  | d + 1, k, i, hi, hk => by
    obtain ⟨k, rfl⟩ : ∃ j, k = j + 1 := ⟨k - 1, by omega⟩
    have ih := iOff_loop hs hq he hx m hm d k (i + 1) (by omega) (by omega)
    have hb := lv_bd hs hq i
    simp only [impl_OffRange.l0]
    rw [if_pos (by rw [lvs_len]; omega), if_pos (by omega), if_pos (by rw [lvs_len]; omega), lvs_get s q m i (by omega), wrap_id (z := lv s q i - x) (by omega) (by omega), wrap_id (z := -e) (by omega) (by omega), wrap_id (z := (i : Int) + 1) (by omega) (by omega), within_eq]
    simp only [Option.bind_some]
    have e1 : ((i + 1 : Nat) : Int) = (i : Int) + 1 := by omega
    rw [e1] at ih
    by_cases h : -e ≤ lv s q i - x ∧ lv s q i - x ≤ e
    · rw [if_pos (decide_eq_true h)]
      rw [offR, if_pos h] at ih
      by_cases h0 : (offR s q e x i).1 < 0
      · rw [if_pos h0] at ih ⊢; exact ih
      · rw [if_neg h0] at ih ⊢; exact ih
    · rw [if_neg (by simpa using h)]
      rw [offR, if_neg h] at ih
      exact ih
theorem iOff_eq (a b c x n : Int) {k : Nat} (hk : 2004 ≤ k) : impl_OffRange.f k a b c x n = some (offRM a b c x n) := by
  obtain ⟨k, rfl⟩ : ∃ j, k = j + 1 := ⟨k - 1, by omega⟩
  unfold offRM
  simp only [impl_OffRange.f, impl_OffRange.j0, impl_isOff.f, iDecay_eq, within_eq, Option.bind_some]
  by_cases h1 : okD a b c
  · have h1' : decide ((1 ≤ a ∧ a ≤ 100000) ∧ (0 ≤ b ∧ b ≤ 999) ∧ (0 ≤ c ∧ c ≤ 1000)) = true := decide_eq_true h1
    by_cases h2 : 0 ≤ n ∧ n ≤ 2000
    · by_cases h3 : -200000 ≤ x ∧ x ≤ 200000
      · have hh : okO a b c x n := ⟨h1, h2, h3⟩
        simp only [h1', decide_eq_true h2, decide_eq_true h3, Bool.not_true, Bool.false_eq_true, if_true, if_false]
        have hs : 0 ≤ a ∧ a ≤ 100000 := ⟨by have := h1.1; omega, h1.1.2⟩
        rw [levels_eq c hs h1.2.1 h2.1 h2.2 (by omega), if_pos hh]
        simp only [Option.bind_some]
        exact iOff_loop hs h1.2.1 h1.2.2 h3 n.toNat (by omega) (n.toNat + 1) k 0 (by omega) (by omega)
      · have hh : ¬ okO a b c x n := fun h => h3 h.2.2
        simp only [h1', decide_eq_true h2, decide_eq_false h3, Bool.not_false, Bool.false_eq_true, if_true, if_false]
        rw [if_neg hh]
    · have hh : ¬ okO a b c x n := fun h => h2 h.2.1
      simp only [h1', decide_eq_false h2, Bool.false_eq_true, if_true, if_false]
      rw [if_neg hh]
  · have hh : ¬ okO a b c x n := fun h => h1 h.1
    have h1' : decide ((1 ≤ a ∧ a ≤ 100000) ∧ (0 ≤ b ∧ b ≤ 999) ∧ (0 ≤ c ∧ c ≤ 1000)) = false := decide_eq_false h1
    simp only [h1', Bool.false_eq_true, if_true, if_false]
    rw [if_neg hh]
theorem and255 (n : Int) : Go.bits .and .i64 n 255 = n % 256 := by
  have h255 : (BitVec.ofInt 64 255).toNat = 2 ^ 8 - 1 := by decide
  have key : (BitVec.ofInt 64 n &&& BitVec.ofInt 64 255).toNat = (n % ((2 ^ 64 : Nat) : Int)).toNat % 2 ^ 8 := by
    rw [BitVec.toNat_and, BitVec.toNat_ofInt, h255, Nat.and_two_pow_sub_one_eq_mod]
  show IntKind.i64.wrap ((BitVec.ofInt 64 n &&& BitVec.ofInt 64 255).toNat : Nat) = n % 256
  rw [key, IntKind.wrap_i64]
  omega
/-- The cursor lies within its bytes. -/
def Cur (s : List Int) (i : Int) : Prop := 0 ≤ i ∧ i ≤ s.length ∧ s.length ≤ 140737488351232
theorem byte_ev (s : List Int) (i h : Int) (hc : Cur s i) : ∃ x i' h', spec_l01Byte.f s i h = some (x, i', h') ∧ (0 ≤ x ∧ x ≤ 255) ∧ Cur s i' := by
  obtain ⟨h0, h1, h2⟩ := hc
  unfold spec_l01Byte.f
  split
  · try rw [if_pos h0]
    rw [and255, wrap_id (z := i + 1) (by omega) (by omega)]
    exact ⟨_, _, _, rfl, by omega, by omega, by omega, h2⟩
  · rw [and255]
    exact ⟨_, _, _, rfl, by omega, h0, h1, h2⟩
theorem below_ev (s : List Int) (i h n : Int) (hc : Cur s i) (hn : 0 < n) : ∃ x i' h', spec_l01Below.f s i h n = some (x, i', h') ∧ (0 ≤ x ∧ x < n) ∧ Cur s i' := by
  unfold spec_l01Below.f
  rw [if_neg (by omega)]
  split
  · obtain ⟨x, i1, h1, e1, hx, hc1⟩ := byte_ev s i h hc
    rw [e1]; simp only [Option.bind_some]
    rw [if_neg (by omega)]
    refine ⟨_, _, _, rfl, ?_, hc1⟩
    have := Int.tmod_eq_emod_of_nonneg hx.1 (b := n)
    rw [this]
    exact ⟨Int.emod_nonneg _ (by omega), Int.emod_lt_of_pos _ hn⟩
  · obtain ⟨x, i1, h1, e1, hx, hc1⟩ := byte_ev s i h hc
    obtain ⟨y, i2, h2, e2, hy, hc2⟩ := byte_ev s i1 h1 hc1
    obtain ⟨z, i3, h3, e3, hz, hc3⟩ := byte_ev s i2 h2 hc2
    obtain ⟨v, i4, h4, e4, hv, hc4⟩ := byte_ev s i3 h3 hc3
    rw [e1]; simp only [Option.bind_some]
    rw [e2]; simp only [Option.bind_some]
    rw [e3]; simp only [Option.bind_some]
    rw [e4]; simp only [Option.bind_some]
    rw [if_neg (by omega)]
    refine ⟨_, _, _, rfl, ?_, hc4⟩
    have hw : wrap64 ((wrap64 ((wrap64 ((wrap64 (x * 16777216)) + (wrap64 (y * 65536)))) + (wrap64 (z * 256)))) + v) = x * 16777216 + y * 65536 + z * 256 + v := by
      rw [wrap_id (z := x * 16777216) (by omega) (by omega), wrap_id (z := y * 65536) (by omega) (by omega), wrap_id (z := z * 256) (by omega) (by omega), wrap_id (z := x * 16777216 + y * 65536) (by omega) (by omega), wrap_id (z := x * 16777216 + y * 65536 + z * 256) (by omega) (by omega), wrap_id (by omega) (by omega)]
    rw [hw, Int.tmod_eq_emod_of_nonneg (by omega)]
    exact ⟨Int.emod_nonneg _ (by omega), Int.emod_lt_of_pos _ hn⟩
theorem new_loop (s : List Int) (hs : s.length ≤ 140737488351232) : ∀ (d k i : Nat) (h : Int), i + d = s.length → d < k → ∃ h', spec_l01New.l0 k s h (i : Int) = some (s, 0, h')
  | 0, k, i, h, hi, hk => by
    obtain ⟨k, rfl⟩ : ∃ j, k = j + 1 := ⟨k - 1, by omega⟩
    simp only [spec_l01New.l0]
    rw [if_neg (by omega)]
    exact ⟨_, rfl⟩
  | d + 1, k, i, h, hi, hk => by
    obtain ⟨k, rfl⟩ : ∃ j, k = j + 1 := ⟨k - 1, by omega⟩
    simp only [spec_l01New.l0]
    rw [if_pos (by omega)]
    split
    · rw [if_pos (by omega), wrap_id (z := (i : Int) + 1) (by omega) (by omega)]
      exact new_loop s hs d k (i + 1) _ (by omega) (by omega)
    · exact ⟨_, rfl⟩
/-- A cursor of the call's own, with enough rounds. -/
theorem new_ev (s : List Int) (hs : s.length ≤ 140737488351232) {k : Nat} (hk : s.length < k) : ∃ h', spec_l01New.f k s = some (s, 0, h') := new_loop s hs s.length k 0 _ (by omega) hk
theorem cur0 {s : List Int} (hs : s.length ≤ 140737488351232) : Cur s 0 := ⟨by omega, by omega, hs⟩
/-- All of these are drawn numbers from 0 to 9999. -/
def Pl (t : List Int) : Prop := t.length = 12 ∧ ∀ i : Int, 0 ≤ i → i < 12 → 0 ≤ rd t i ∧ rd t i < 10000
theorem places_loop (s : List Int) : ∀ (d k n : Nat) (t : List Int) (i h : Int), n + d = 12 → d < k → t.length = n → (∀ x ∈ t, 0 ≤ x ∧ x < 10000) → Cur s i →
    ∃ t', spec_DrawPlaces.l0 k t (n : Int) s i h = some t' ∧ t'.length = 12 ∧ ∀ x ∈ t', 0 ≤ x ∧ x < 10000
  | 0, k, n, t, i, h, hn, hk, ht, ha, hc => by
    obtain ⟨k, rfl⟩ : ∃ j, k = j + 1 := ⟨k - 1, by omega⟩
    simp only [spec_DrawPlaces.l0]
    rw [if_neg (by omega)]
    exact ⟨t, rfl, by omega, ha⟩
  | d + 1, k, n, t, i, h, hn, hk, ht, ha, hc => by
    obtain ⟨k, rfl⟩ : ∃ j, k = j + 1 := ⟨k - 1, by omega⟩
    obtain ⟨x, i', h', e, hx, hc'⟩ := below_ev s i h 10000 hc (by omega)
    simp only [spec_DrawPlaces.l0]
    rw [if_pos (by omega), e]
    simp only [Option.bind_some]
    rw [if_pos (by omega), wrap_id (z := (n : Int) + 1) (by omega) (by omega)]
    refine places_loop s d k (n + 1) (t ++ [x]) i' h' (by omega) (by omega) (by simp [ht]) ?_ hc'
    intro y hy
    rcases List.mem_append.1 hy with hy | hy
    · exact ha y hy
    · rw [List.mem_singleton.1 hy]; exact hx
theorem rd_mem {t : List Int} {i : Int} (h0 : 0 ≤ i) (h1 : i < t.length) : rd t i ∈ t := by
  unfold rd
  rw [List.getD_eq_getElem?_getD, List.getElem?_eq_getElem (by omega)]
  exact List.getElem_mem _
theorem places_ev (s : List Int) (hs : s.length ≤ 140737488351232) {k : Nat} (hk : s.length + 13 < k) : ∃ t, spec_DrawPlaces.f k s = some t ∧ Pl t := by
  obtain ⟨h, e⟩ := new_ev s hs (k := k) (by omega)
  unfold spec_DrawPlaces.f
  rw [e]; simp only [Option.bind_some]
  obtain ⟨t, e, hl, ha⟩ := places_loop s 12 k 0 [] 0 h (by omega) (by omega) rfl (by simp) (cur0 hs)
  exact ⟨t, e, hl, fun i h0 h1 => ha _ (rd_mem h0 (by omega))⟩
theorem tmod_pos {a b : Int} (ha : 0 ≤ a) : Int.tmod a b = a % b := Int.tmod_eq_emod_of_nonneg ha
theorem pick_ev (s : List Int) (i h : Int) (l : List Int) (hc : Cur s i) (hl : 0 < l.length) : ∃ x i' h', spec_l01PickInt.f s i h l = some (x, i', h') ∧ x ∈ l ∧ Cur s i' := by
  obtain ⟨x, i', h', e, hx, hc'⟩ := below_ev s i h (l.length : Int) hc (by omega)
  unfold spec_l01PickInt.f
  rw [e]; simp only [Option.bind_some]
  rw [if_pos hx.1, if_pos hx.2]
  exact ⟨_, _, _, rfl, rd_mem hx.1 hx.2, hc'⟩
theorem decay_ev (s : List Int) (hs : s.length ≤ 140737488351232) {k : Nat} (hk : s.length < k) : ∃ a b c, spec_DrawDecay.f k s = some (a, b, c) ∧ (1 ≤ a ∧ a ≤ 9000) ∧ (0 ≤ b ∧ b ≤ 999) ∧ (0 ≤ c ∧ c ≤ 40) := by
  obtain ⟨h, e⟩ := new_ev s hs (k := k) hk
  obtain ⟨x, i1, h1, e1, hx, hc1⟩ := below_ev s 0 h 9000 (cur0 hs) (by omega)
  obtain ⟨y, i2, h2, e2, hy, hc2⟩ := pick_ev s i1 h1 [900, 950, 990, 500, 999, 0] hc1 (by simp)
  obtain ⟨z, i3, h3, e3, hz, hc3⟩ := pick_ev s i2 h2 [0, 1, 5, 40] hc2 (by simp)
  unfold spec_DrawDecay.f spec_l27Decay.f
  rw [e]; simp only [Option.bind_some]
  rw [e1]; simp only [Option.bind_some]
  rw [e2]; simp only [Option.bind_some]
  rw [e3]; simp only [Option.bind_some]
  rw [wrap_id (z := 1 + x) (by omega) (by omega)]
  refine ⟨_, _, _, rfl, by omega, ?_, ?_⟩
  · simp at hy; omega
  · simp at hz; omega
def toldM (a b c t n : Int) : Bool := decide (okD a b c ∧ (0 ≤ t ∧ t ≤ n) ∧ n ≤ 2000 ∧ offRM a b c (levM a b c t) n = (t, t))
theorem iTold_eq (a b c t n : Int) {k : Nat} (hk : 2005 ≤ k) : impl_IsTold.f k a b c t n = some (toldM a b c t n) := by
  obtain ⟨k, rfl⟩ : ∃ j, k = j + 1 := ⟨k - 1, by omega⟩
  unfold toldM
  simp only [impl_IsTold.f, impl_IsTold.j0, iDecay_eq, within_eq, Option.bind_some]
  by_cases h1 : okD a b c
  · have h1' : decide ((1 ≤ a ∧ a ≤ 100000) ∧ (0 ≤ b ∧ b ≤ 999) ∧ (0 ≤ c ∧ c ≤ 1000)) = true := decide_eq_true h1
    by_cases h2 : 0 ≤ t ∧ t ≤ n
    · by_cases h3 : n > 2000
      · simp only [h1', decide_eq_true h2, decide_eq_true h3, if_true]
        rw [decide_eq_false (fun h => by omega)]
      · simp only [h1', decide_eq_true h2, decide_eq_false h3, Bool.false_eq_true, if_true, if_false]
        rw [iLev_eq a b c t (by omega)]; simp only [Option.bind_some]
        rw [iOff_eq a b c _ n (by omega)]; simp only [Option.bind_some]
        have h3' : n ≤ 2000 := by omega
        generalize offRM a b c (levM a b c t) n = p
        obtain ⟨p1, p2⟩ := p
        by_cases h4 : p1 = t
        · simp only [h4, h1, h2, h3', if_true, true_and, and_self]
          congr 1
          rw [Bool.eq_iff_iff]; simp
        · simp [h4]
    · simp only [h1', decide_eq_false h2, Bool.false_eq_true, if_true, if_false]
      rw [decide_eq_false (fun h => h2 h.2.1)]
  · have h1' : decide ((1 ≤ a ∧ a ≤ 100000) ∧ (0 ≤ b ∧ b ≤ 999) ∧ (0 ≤ c ∧ c ≤ 1000)) = false := decide_eq_false h1
    simp only [h1', Bool.false_eq_true, if_true, if_false]
    rw [decide_eq_false (fun h => h1 h.1)]
theorem lv_down {s q : Int} (hs : 0 ≤ s ∧ s ≤ 100000) (hq : 0 ≤ q ∧ q ≤ 999) (n : Nat) : lv s q (n + 1) ≤ lv s q n := by
  have h := (lv_bd hs hq n).1
  have h4 : lv s q n * q ≤ lv s q n * 1000 := Int.mul_le_mul_of_nonneg_left (by omega) h
  have e : lv s q (n + 1) = lv s q n * q / 1000 := rfl
  rw [e]; omega
/-- A level that the measurement may come from. -/
def Hit (s q e x : Int) (j : Nat) : Prop := -e ≤ lv s q j - x ∧ lv s q j - x ≤ e
theorem offR_le (s q e x : Int) : ∀ i : Nat, 0 ≤ (offR s q e x i).1 → (offR s q e x i).1 ≤ (offR s q e x i).2 ∧ (offR s q e x i).2 < i
  | 0 => fun h => absurd h (by simp [offR])
  | i + 1 => by
    have ih := offR_le s q e x i
    by_cases h : -e ≤ lv s q i - x ∧ lv s q i - x ≤ e
    · rw [offR, if_pos h]
      dsimp only
      intro _
      by_cases h0 : (offR s q e x i).1 < 0
      · rw [if_pos h0]; omega
      · rw [if_neg h0]; have := ih (by omega); omega
    · rw [offR, if_neg h]
      intro h0
      have := ih h0
      omega
theorem offR_inv (s q e x : Int) : ∀ i : Nat, ((offR s q e x i).1 = -1 ∧ (offR s q e x i).2 = -1 ∧ ∀ j < i, ¬ Hit s q e x j) ∨
    (0 ≤ (offR s q e x i).1 ∧ (offR s q e x i).2 < i ∧ ∀ j : Nat, j < i → Hit s q e x j → (offR s q e x i).1 ≤ j ∧ (j : Int) ≤ (offR s q e x i).2)
  | 0 => .inl ⟨rfl, rfl, fun j h => by omega⟩
  | i + 1 => by
    have ih := offR_inv s q e x i
    by_cases h : -e ≤ lv s q i - x ∧ lv s q i - x ≤ e
    · right
      rw [offR, if_pos h]
      dsimp only
      rcases ih with ⟨h1, h2, h3⟩ | ⟨h1, h2, h3⟩
      · rw [if_pos (by omega)]
        refine ⟨by omega, by omega, fun j hj hh => ?_⟩
        by_cases hji : j = i
        · subst hji; omega
        · exact absurd hh (h3 j (by omega))
      · rw [if_neg (by omega)]
        refine ⟨h1, by omega, fun j hj hh => ?_⟩
        by_cases hji : j = i
        · subst hji
          refine ⟨?_, by omega⟩
          by_cases h0 : (offR s q e x j).1 ≤ (offR s q e x j).2
          · omega
          · exfalso
            apply h0
            exact (offR_le s q e x j h1).1
        · have := h3 j (by omega) hh
          omega
    · rw [offR, if_neg h]
      rcases ih with ⟨h1, h2, h3⟩ | ⟨h1, h2, h3⟩
      · refine .inl ⟨h1, h2, fun j hj hh => ?_⟩
        by_cases hji : j = i
        · subst hji; exact h hh
        · exact h3 j (by omega) hh
      · refine .inr ⟨h1, by omega, fun j hj hh => ?_⟩
        by_cases hji : j = i
        · subst hji; exact absurd hh h
        · exact h3 j (by omega) hh

theorem FnOutages : laws_FnOutages.Pure := by
  intro l hm h8 hw
  have hs : l.length ≤ 140737488351232 := by omega
  obtain ⟨a, b, c, e1, ha, hb, hc⟩ := decay_ev l hs (k := l.length + 2014) (by omega)
  obtain ⟨t, e2, hl, ht⟩ := places_ev l hs (k := l.length + 2014) (by omega)
  refine ⟨l.length + 2014, ?_⟩
  unfold laws_FnOutages.f laws_big.f
  rw [Option.bind_some]
  by_cases hbig : decide ((l.length : Int) > 1048576) = true
  · rw [if_pos hbig]
  rw [if_neg hbig, e1, Option.bind_some, e2, Option.bind_some, hl]
  dsimp only
  have h0 := ht 0 (by omega) (by omega)
  have h1 := ht 1 (by omega) (by omega)
  generalize rd t 0 = x0 at *
  generalize rd t 1 = x1 at *
  rw [wrap_id (z := 2 * c) (by omega) (by omega), wrap_id (z := 2 * c + 1) (by omega) (by omega), tmod_pos h0.1, tmod_pos h1.1]
  have y1 : 0 ≤ x1 % (2 * c + 1) ∧ x1 % (2 * c + 1) < 2 * c + 1 := ⟨Int.emod_nonneg _ (by omega), Int.emod_lt_of_pos _ (by omega)⟩
  generalize x1 % (2 * c + 1) = z1 at *
  have y0 : 0 ≤ x0 % 60 ∧ x0 % 60 < 60 := by omega
  generalize x0 % 60 = z0 at *
  obtain ⟨n, rfl⟩ := Int.eq_ofNat_of_zero_le y0.1
  have hok : okD a b c := ⟨by omega, by omega, by omega⟩
  have hsa : 0 ≤ a ∧ a ≤ 100000 := by omega
  have L0 : levM a b c (n : Int) = lv a b n := by unfold levM; rw [if_pos ⟨hok, by omega⟩, Int.toNat_natCast]
  have L1 : levM a b c ((n : Int) + 1) = lv a b (n + 1) := by
    unfold levM; rw [if_pos ⟨hok, by omega⟩, show ((n : Int) + 1).toNat = n + 1 from by omega]
  have hb0 := lv_bd hsa hb n
  have hb1 := lv_bd hsa hb (n + 1)
  have hdn := lv_down hsa hb n
  rw [if_pos (by omega), if_pos (by omega), if_neg (by omega), iLev_eq a b c (n : Int) (by omega), L0, Option.bind_some, iOff_eq a b c _ 60 (by omega), Option.bind_some, wrap_id (z := z1 - c) (by omega) (by omega), wrap_id (z := lv a b n + (z1 - c)) (by omega) (by omega), wrap_id (z := (n : Int) + 1) (by omega) (by omega), wrap_id (z := lv a b n - c) (by omega) (by omega)]
  have hR : offRM a b c (lv a b n + (z1 - c)) 60 = offR a b c (lv a b n + (z1 - c)) 61 := by
    unfold offRM; rw [if_pos ⟨hok, by omega, by omega⟩]; rfl
  have hit : Hit a b c (lv a b n + (z1 - c)) n := ⟨by omega, by omega⟩
  rw [hR]
  rcases offR_inv a b c (lv a b n + (z1 - c)) 61 with ⟨g1, g2, g3⟩ | ⟨g1, g2, g3⟩
  · exact absurd hit (g3 n (by omega))
  have g4 := g3 n (by omega) hit
  rw [if_pos (by omega), iLev_eq a b c ((n : Int) + 1) (by omega), L1, Option.bind_some, if_pos (by omega), if_pos (by omega), if_pos (by omega), if_pos (by omega), if_pos (by omega), iTold_eq a b c (n : Int) 60 (by omega), Option.bind_some]
  by_cases ht : toldM a b c (n : Int) 60 = true
  · rw [if_pos ht, Option.bind_some]
    unfold toldM at ht
    have ht := of_decide_eq_true ht
    have h5 := ht.2.2.2
    rw [L0] at h5
    have hR2 : offRM a b c (lv a b n) 60 = offR a b c (lv a b n) 61 := by
      unfold offRM; rw [if_pos ⟨hok, by omega, by omega⟩]; rfl
    rw [hR2] at h5
    refine congrArg some (decide_eq_true ?_)
    rcases offR_inv a b c (lv a b n) 61 with ⟨q1, q2, q3⟩ | ⟨q1, q2, q3⟩
    · exact absurd (show Hit a b c (lv a b n) n from ⟨by omega, by omega⟩) (q3 n (by omega))
    · apply Int.lt_of_not_ge
      intro hge
      have := q3 (n + 1) (by omega) ⟨by omega, by omega⟩
      rw [h5] at this
      have := this.2
      dsimp only at this
      omega
  · rw [if_neg ht]

end Go.Proofs.Ytkpaglomidgilaa.Pure
