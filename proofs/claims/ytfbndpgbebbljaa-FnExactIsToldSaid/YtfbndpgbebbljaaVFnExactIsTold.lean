/- The pure statement of the law FnExactIsTold: what the printed function comes to is true. No condition beyond what every argument of these types meets. -/
import Derived.Test.YtfbndpgbebbljaaQFnExactIsTold1
import Derived.OpenShut
namespace Go.Proofs.Ytfbndpgbebbljaa.Pure
open Go.RowKit Go.Proofs.Ytfbndpgbebbljaa.QFnExactIsTold Go.Proofs.YtfbndpgbebbljaaW.PrintWords Go.Proofs.YtfbndpgbebbljaaW.PrintLast Go.Proofs.YtfbndpgbebbljaaW.PrintMore
set_option linter.unusedVariables false
set_option linter.unusedSimpArgs false

--BLOCKS
theorem wf_b {z : Int} (h : (Lit.int .i64 z).wf = true) : -9223372036854775808 ≤ z ∧ z ≤ 9223372036854775807 := bounds_i64 h
theorem wrap_id {z : Int} (h1 : -9223372036854775808 ≤ z) (h2 : z ≤ 9223372036854775807) : wrap64 z = z := by unfold wrap64; omega
theorem mn_min (a b : Int) : mn a b = min a b := by unfold mn; omega
theorem mx_max (a b : Int) : mx a b = max a b := by unfold mx; omega
theorem in_eq (x lo hi : Int) : spec_l01In.f x lo hi = some (decide (lo ≤ x ∧ x ≤ hi)) := by
  unfold spec_l01In.f; split <;> simp_all <;> omega
theorem within_eq (x lo hi : Int) : impl_within.f x lo hi = some (decide (lo ≤ x ∧ x ≤ hi)) := by
  unfold impl_within.f; split <;> simp_all <;> omega
theorem sDecay_eq (a b c : Int) : spec_DecayOk.f a b c = some (decide ((1 ≤ a ∧ a ≤ 100000) ∧ (0 ≤ b ∧ b ≤ 999) ∧ (0 ≤ c ∧ c ≤ 1000))) := by
  simp only [spec_DecayOk.f, in_eq, Option.bind_some]
  split <;> (try split) <;> simp_all <;> omega
theorem iDecay_eq (a b c : Int) : impl_DecayOk.f a b c = some (decide ((1 ≤ a ∧ a ≤ 100000) ∧ (0 ≤ b ∧ b ≤ 999) ∧ (0 ≤ c ∧ c ≤ 1000))) := by
  simp only [impl_DecayOk.f, within_eq, Option.bind_some]
  split <;> (try split) <;> simp_all <;> omega
theorem toDecay_eq (a b c : Int) : laws_toDecay.f a b c = some (a, b, c) := rfl
/-- The level after n ticks. -/
def lv (s q : Int) : Nat → Int
  | 0 => s
  | n + 1 => lv s q n * q / 1000
theorem lv_bd {s q : Int} (hs : 0 ≤ s ∧ s ≤ 100000) (hq : 0 ≤ q ∧ q ≤ 999) : ∀ n, 0 ≤ lv s q n ∧ lv s q n ≤ 100000
  | 0 => hs
  | n + 1 => by
    obtain ⟨h1, h2⟩ := lv_bd hs hq n
    have h3 : 0 ≤ lv s q n * q := Int.mul_nonneg h1 hq.1
    have h4 : lv s q n * q ≤ lv s q n * 1000 := Int.mul_le_mul_of_nonneg_left (by omega) h1
    unfold lv
    omega
theorem lv_mul {s q : Int} (hs : 0 ≤ s ∧ s ≤ 100000) (hq : 0 ≤ q ∧ q ≤ 999) (n : Nat) : 0 ≤ lv s q n * q ∧ lv s q n * q ≤ 100000000 := by
  obtain ⟨h1, h2⟩ := lv_bd hs hq n
  have h3 : 0 ≤ lv s q n * q := Int.mul_nonneg h1 hq.1
  have h4 : lv s q n * q ≤ lv s q n * 1000 := Int.mul_le_mul_of_nonneg_left (by omega) h1
  omega
theorem lv_step {s q : Int} (hs : 0 ≤ s ∧ s ≤ 100000) (hq : 0 ≤ q ∧ q ≤ 999) (n : Nat) : wrap64 (Int.tdiv (wrap64 (lv s q n * q)) 1000) = lv s q (n + 1) := by
  have h := lv_mul hs hq n
  rw [wrap_id (z := lv s q n * q) (by omega) (by omega), Int.tdiv_eq_ediv_of_nonneg h.1, wrap_id (by omega) (by omega)]
  rfl
def lvs (s q : Int) (n : Nat) : List Int := (List.range (n + 1)).map (lv s q)
theorem lvs_len (s q : Int) (n : Nat) : (lvs s q n).length = n + 1 := by simp [lvs]
theorem lvs_get (s q : Int) (n i : Nat) (h : i ≤ n) : rd (lvs s q n) (i : Int) = lv s q i := by
  unfold rd lvs
  rw [Int.toNat_natCast, List.getD_eq_getElem?_getD, List.getElem?_map, List.getElem?_range (by omega)]
  rfl
theorem lvs_succ (s q : Int) (n : Nat) : lvs s q (n + 1) = lvs s q n ++ [lv s q (n + 1)] := by
  unfold lvs
  rw [List.range_succ, List.map_append]; rfl
theorem levels_loop {s q : Int} (e : Int) (hs : 0 ≤ s ∧ s ≤ 100000) (hq : 0 ≤ q ∧ q ≤ 999) (m : Nat) (hm : m ≤ 2000) :
    ∀ (d k i : Nat), i + d = m → d < k → impl_Decay_levels.l0 k (lvs s q i) (m : Int) (i : Int) s q e = some (lvs s q m)
  | 0, k, i, hi, hk => by
    obtain ⟨k, rfl⟩ : ∃ j, k = j + 1 := ⟨k - 1, by omega⟩
    obtain rfl : i = m := by omega
    simp only [impl_Decay_levels.l0]
    rw [if_neg (by omega)]
  | d + 1, k, i, hi, hk => by
    obtain ⟨k, rfl⟩ : ∃ j, k = j + 1 := ⟨k - 1, by omega⟩
    have ih := levels_loop e hs hq m hm d k (i + 1) (by omega) (by omega)
    simp only [impl_Decay_levels.l0]
    rw [if_pos (by omega), if_pos (by omega), if_pos (by rw [lvs_len]; omega), if_pos (by rw [lvs_len]; omega), lvs_get s q i i (Nat.le_refl _), lv_step hs hq, ← lvs_succ, wrap_id (by omega) (by omega)]
    exact ih
theorem levels_eq {s q : Int} (e : Int) (hs : 0 ≤ s ∧ s ≤ 100000) (hq : 0 ≤ q ∧ q ≤ 999) {n : Int} (h0 : 0 ≤ n) (h1 : n ≤ 2000) {k : Nat} (hk : 2001 ≤ k) : impl_Decay_levels.f k s q e n = some (lvs s q n.toNat) := by
  obtain ⟨m, rfl⟩ := Int.eq_ofNat_of_zero_le h0
  have := levels_loop e hs hq m (by omega) m k 0 (by omega) (by omega)
  rw [Int.toNat_natCast]
  exact this
/-- Start, Keep and Error are in their ranges. -/
def okD (a b c : Int) : Prop := (1 ≤ a ∧ a ≤ 100000) ∧ (0 ≤ b ∧ b ≤ 999) ∧ (0 ≤ c ∧ c ≤ 1000)
instance (a b c : Int) : Decidable (okD a b c) := by unfold okD; exact inferInstance
def levM (a b c n : Int) : Int := if okD a b c ∧ (0 ≤ n ∧ n ≤ 2000) then lv a b n.toNat else -1
theorem iLev_eq (a b c n : Int) {k : Nat} (hk : 2001 ≤ k) : impl_LevelAfter.f k a b c n = some (levM a b c n) := by
  unfold levM
  simp only [impl_LevelAfter.f, impl_isOff.f, iDecay_eq, within_eq, Option.bind_some]
  by_cases h1 : okD a b c
  · have h1' : decide ((1 ≤ a ∧ a ≤ 100000) ∧ (0 ≤ b ∧ b ≤ 999) ∧ (0 ≤ c ∧ c ≤ 1000)) = true := decide_eq_true h1
    rw [h1', if_pos rfl]
    by_cases h2 : 0 ≤ n ∧ n ≤ 2000
    · have hh := And.intro h1 h2
      rw [if_pos (decide_eq_true h2), levels_eq c ⟨by have := h1.1; omega, h1.1.2⟩ h1.2.1 h2.1 h2.2 hk, if_pos hh]
      simp only [Option.bind_some]
      rw [if_pos h2.1, if_pos (by rw [lvs_len]; omega)]
      congr 1
      have := lvs_get a b n.toNat n.toNat (Nat.le_refl _)
      rwa [Int.toNat_of_nonneg h2.1] at this
    · have hh : ¬ (okD a b c ∧ (0 ≤ n ∧ n ≤ 2000)) := fun h => h2 h.2
      rw [if_neg (by simpa using h2), if_neg hh]
  · have hh : ¬ (okD a b c ∧ (0 ≤ n ∧ n ≤ 2000)) := fun h => h1 h.1
    have h1' : decide ((1 ≤ a ∧ a ≤ 100000) ∧ (0 ≤ b ∧ b ≤ 999) ∧ (0 ≤ c ∧ c ≤ 1000)) = false := decide_eq_false h1
    rw [h1', if_neg hh]; rfl
theorem sLev_loop {s q : Int} (e1 e2 e3 : Int) (hs : 0 ≤ s ∧ s ≤ 100000) (hq : 0 ≤ q ∧ q ≤ 999) (m : Nat) (hm : m ≤ 2000) :
    ∀ (d k i : Nat), i + d = m → d < k → spec_LevelAfter.l0 k (m : Int) (lv s q i) (i : Int) e1 q e3 = some (lv s q m)
  | 0, k, i, hi, hk => by
    obtain ⟨k, rfl⟩ : ∃ j, k = j + 1 := ⟨k - 1, by omega⟩
    obtain rfl : i = m := by omega
    simp only [spec_LevelAfter.l0]
    rw [if_neg (by omega)]
  | d + 1, k, i, hi, hk => by
    obtain ⟨k, rfl⟩ : ∃ j, k = j + 1 := ⟨k - 1, by omega⟩
    have ih := sLev_loop e1 e2 e3 hs hq m hm d k (i + 1) (by omega) (by omega)
    simp only [spec_LevelAfter.l0]
    rw [if_pos (by omega), lv_step hs hq, wrap_id (by omega) (by omega)]
    exact ih
theorem sLev_eq (a b c n : Int) {k : Nat} (hk : 2002 ≤ k) : spec_LevelAfter.f k a b c n = some (levM a b c n) := by
  obtain ⟨k, rfl⟩ : ∃ j, k = j + 1 := ⟨k - 1, by omega⟩
  unfold levM
  simp only [spec_LevelAfter.f, spec_LevelAfter.j0, sDecay_eq, in_eq, Option.bind_some]
  by_cases h1 : okD a b c
  · have h1' : decide ((1 ≤ a ∧ a ≤ 100000) ∧ (0 ≤ b ∧ b ≤ 999) ∧ (0 ≤ c ∧ c ≤ 1000)) = true := decide_eq_true h1
    by_cases h2 : 0 ≤ n ∧ n ≤ 2000
    · have hh := And.intro h1 h2
      simp only [h1', decide_eq_true h2, Bool.not_true, Bool.false_eq_true, if_true, if_false]
      rw [if_pos hh]
      obtain ⟨m, rfl⟩ := Int.eq_ofNat_of_zero_le h2.1
      exact sLev_loop a a c ⟨by have := h1.1; omega, h1.1.2⟩ h1.2.1 m (by omega) m k 0 (by omega) (by omega)
    · have hh : ¬ (okD a b c ∧ (0 ≤ n ∧ n ≤ 2000)) := fun h => h2 h.2
      simp only [h1', decide_eq_false h2, Bool.not_false, if_true]
      rw [if_neg hh]
  · have hh : ¬ (okD a b c ∧ (0 ≤ n ∧ n ≤ 2000)) := fun h => h1 h.1
    have h1' : decide ((1 ≤ a ∧ a ≤ 100000) ∧ (0 ≤ b ∧ b ≤ 999) ∧ (0 ≤ c ∧ c ≤ 1000)) = false := decide_eq_false h1
    simp only [h1', Bool.false_eq_true, if_true, if_false]
    rw [if_neg hh]
/-- The least and the greatest tick so far, behind i ticks. -/
def offR (s q e x : Int) : Nat → Int × Int
  | 0 => (-1, -1)
  | i + 1 => if -e ≤ lv s q i - x ∧ lv s q i - x ≤ e then (if (offR s q e x i).1 < 0 then (i : Int) else (offR s q e x i).1, (i : Int)) else offR s q e x i
def okO (a b c x n : Int) : Prop := okD a b c ∧ (0 ≤ n ∧ n ≤ 2000) ∧ (-200000 ≤ x ∧ x ≤ 200000)
instance (a b c x n : Int) : Decidable (okO a b c x n) := by unfold okO; exact inferInstance
def offRM (a b c x n : Int) : Int × Int := if okO a b c x n then offR a b c x (n.toNat + 1) else (-1, -1)
theorem iOff_loop {s q e x : Int} (hs : 0 ≤ s ∧ s ≤ 100000) (hq : 0 ≤ q ∧ q ≤ 999) (he : 0 ≤ e ∧ e ≤ 1000) (hx : -200000 ≤ x ∧ x ≤ 200000) (m : Nat) (hm : m ≤ 2000) :
    ∀ (d k i : Nat), i + d = m + 1 → d < k → impl_OffRange.l0 k x (offR s q e x i).1 (offR s q e x i).2 (lvs s q m) ((lvs s q m).length : Int) (i : Int) s q e = some (offR s q e x (m + 1))
  | 0, k, i, hi, hk => by
    obtain ⟨k, rfl⟩ : ∃ j, k = j + 1 := ⟨k - 1, by omega⟩
    obtain rfl : i = m + 1 := by omega
    simp only [impl_OffRange.l0]
    rw [if_neg (by rw [lvs_len]; omega)]
  | d + 1, k, i, hi, hk => by
    obtain ⟨k, rfl⟩ : ∃ j, k = j + 1 := ⟨k - 1, by omega⟩
    have ih := iOff_loop hs hq he hx m hm d k (i + 1) (by omega) (by omega)
    have hb := lv_bd hs hq i
    simp only [impl_OffRange.l0]
    rw [if_pos (by rw [lvs_len]; omega), if_pos (by omega), if_pos (by rw [lvs_len]; omega), lvs_get s q m i (by omega), wrap_id (z := lv s q i - x) (by omega) (by omega), wrap_id (z := -e) (by omega) (by omega), wrap_id (z := (i : Int) + 1) (by omega) (by omega), within_eq]
    simp only [Option.bind_some]
    have e1 : ((i + 1 : Nat) : Int) = (i : Int) + 1 := by omega
    rw [e1] at ih
    by_cases h : -e ≤ lv s q i - x ∧ lv s q i - x ≤ e
    · rw [if_pos (decide_eq_true h)]
      rw [offR, if_pos h] at ih
      by_cases h0 : (offR s q e x i).1 < 0
      · rw [if_pos h0] at ih ⊢; exact ih
      · rw [if_neg h0] at ih ⊢; exact ih
    · rw [if_neg (by simpa using h)]
      rw [offR, if_neg h] at ih
      exact ih
theorem iOff_eq (a b c x n : Int) {k : Nat} (hk : 2004 ≤ k) : impl_OffRange.f k a b c x n = some (offRM a b c x n) := by
  obtain ⟨k, rfl⟩ : ∃ j, k = j + 1 := ⟨k - 1, by omega⟩
  unfold offRM
  simp only [impl_OffRange.f, impl_OffRange.j0, impl_isOff.f, iDecay_eq, within_eq, Option.bind_some]
  by_cases h1 : okD a b c
  · have h1' : decide ((1 ≤ a ∧ a ≤ 100000) ∧ (0 ≤ b ∧ b ≤ 999) ∧ (0 ≤ c ∧ c ≤ 1000)) = true := decide_eq_true h1
    by_cases h2 : 0 ≤ n ∧ n ≤ 2000
    · by_cases h3 : -200000 ≤ x ∧ x ≤ 200000
      · have hh : okO a b c x n := ⟨h1, h2, h3⟩
        simp only [h1', decide_eq_true h2, decide_eq_true h3, Bool.not_true, Bool.false_eq_true, if_true, if_false]
        have hs : 0 ≤ a ∧ a ≤ 100000 := ⟨by have := h1.1; omega, h1.1.2⟩
        rw [levels_eq c hs h1.2.1 h2.1 h2.2 (by omega), if_pos hh]
        simp only [Option.bind_some]
        exact iOff_loop hs h1.2.1 h1.2.2 h3 n.toNat (by omega) (n.toNat + 1) k 0 (by omega) (by omega)
      · have hh : ¬ okO a b c x n := fun h => h3 h.2.2
        simp only [h1', decide_eq_true h2, decide_eq_false h3, Bool.not_false, Bool.false_eq_true, if_true, if_false]
        rw [if_neg hh]
    · have hh : ¬ okO a b c x n := fun h => h2 h.2.1
      simp only [h1', decide_eq_false h2, Bool.false_eq_true, if_true, if_false]
      rw [if_neg hh]
  · have hh : ¬ okO a b c x n := fun h => h1 h.1
    have h1' : decide ((1 ≤ a ∧ a ≤ 100000) ∧ (0 ≤ b ∧ b ≤ 999) ∧ (0 ≤ c ∧ c ≤ 1000)) = false := decide_eq_false h1
    simp only [h1', Bool.false_eq_true, if_true, if_false]
    rw [if_neg hh]
theorem sOff_loop {s q e x : Int} (e1 : Int) (hs : 0 ≤ s ∧ s ≤ 100000) (hq : 0 ≤ q ∧ q ≤ 999) (he : 0 ≤ e ∧ e ≤ 1000) (hx : -200000 ≤ x ∧ x ≤ 200000) (m : Nat) (hm : m ≤ 2000) :
    ∀ (d k i : Nat), i + d = m + 1 → d < k → spec_OffRange.l0 k x (m : Int) (offR s q e x i).1 (offR s q e x i).2 (lv s q i) (i : Int) e1 q e = some (offR s q e x (m + 1))
  | 0, k, i, hi, hk => by
    obtain ⟨k, rfl⟩ : ∃ j, k = j + 1 := ⟨k - 1, by omega⟩
    obtain rfl : i = m + 1 := by omega
    simp only [spec_OffRange.l0]
    rw [if_neg (by omega)]
  | d + 1, k, i, hi, hk => by
    obtain ⟨k, rfl⟩ : ∃ j, k = j + 1 := ⟨k - 1, by omega⟩
    have ih := sOff_loop e1 hs hq he hx m hm d k (i + 1) (by omega) (by omega)
    have hb := lv_bd hs hq i
    simp only [spec_OffRange.l0]
    rw [if_pos (by omega), lv_step hs hq, wrap_id (z := lv s q i - x) (by omega) (by omega), wrap_id (z := -e) (by omega) (by omega), wrap_id (z := (i : Int) + 1) (by omega) (by omega), in_eq]
    simp only [Option.bind_some]
    have e1 : ((i + 1 : Nat) : Int) = (i : Int) + 1 := by omega
    rw [e1] at ih
    by_cases h : -e ≤ lv s q i - x ∧ lv s q i - x ≤ e
    · rw [if_pos (decide_eq_true h)]
      rw [offR, if_pos h] at ih
      by_cases h0 : (offR s q e x i).1 < 0
      · rw [if_pos h0] at ih ⊢; exact ih
      · rw [if_neg h0] at ih ⊢; exact ih
    · rw [if_neg (by simpa using h)]
      rw [offR, if_neg h] at ih
      exact ih
theorem sOff_eq (a b c x n : Int) {k : Nat} (hk : 2004 ≤ k) : spec_OffRange.f k a b c x n = some (offRM a b c x n) := by
  obtain ⟨k, rfl⟩ : ∃ j, k = j + 1 := ⟨k - 1, by omega⟩
  unfold offRM
  simp only [spec_OffRange.f, spec_OffRange.j0, sDecay_eq, in_eq, Option.bind_some]
  by_cases h1 : okD a b c
  · have h1' : decide ((1 ≤ a ∧ a ≤ 100000) ∧ (0 ≤ b ∧ b ≤ 999) ∧ (0 ≤ c ∧ c ≤ 1000)) = true := decide_eq_true h1
    by_cases h2 : 0 ≤ n ∧ n ≤ 2000
    · by_cases h3 : -200000 ≤ x ∧ x ≤ 200000
      · have hh : okO a b c x n := ⟨h1, h2, h3⟩
        simp only [h1', decide_eq_true h2, decide_eq_true h3, Bool.not_true, Bool.false_eq_true, if_true, if_false]
        have hs : 0 ≤ a ∧ a ≤ 100000 := ⟨by have := h1.1; omega, h1.1.2⟩
        rw [if_pos hh]
        obtain ⟨m, rfl⟩ := Int.eq_ofNat_of_zero_le h2.1
        exact sOff_loop a hs h1.2.1 h1.2.2 h3 m (by omega) (m + 1) k 0 (by omega) (by omega)
      · have hh : ¬ okO a b c x n := fun h => h3 h.2.2
        simp only [h1', decide_eq_true h2, decide_eq_false h3, Bool.not_false, Bool.false_eq_true, if_true, if_false]
        rw [if_neg hh]
    · have hh : ¬ okO a b c x n := fun h => h2 h.2.1
      simp only [h1', decide_eq_false h2, Bool.false_eq_true, if_true, if_false]
      rw [if_neg hh]
  · have hh : ¬ okO a b c x n := fun h => h1 h.1
    have h1' : decide ((1 ≤ a ∧ a ≤ 100000) ∧ (0 ≤ b ∧ b ≤ 999) ∧ (0 ≤ c ∧ c ≤ 1000)) = false := decide_eq_false h1
    simp only [h1', Bool.false_eq_true, if_true, if_false]
    rw [if_neg hh]
def toldM (a b c t n : Int) : Bool := decide (okD a b c ∧ (0 ≤ t ∧ t ≤ n) ∧ n ≤ 2000 ∧ offRM a b c (levM a b c t) n = (t, t))
theorem iTold_eq (a b c t n : Int) {k : Nat} (hk : 2005 ≤ k) : impl_IsTold.f k a b c t n = some (toldM a b c t n) := by
  obtain ⟨k, rfl⟩ : ∃ j, k = j + 1 := ⟨k - 1, by omega⟩
  unfold toldM
  simp only [impl_IsTold.f, impl_IsTold.j0, iDecay_eq, within_eq, Option.bind_some]
  by_cases h1 : okD a b c
  · have h1' : decide ((1 ≤ a ∧ a ≤ 100000) ∧ (0 ≤ b ∧ b ≤ 999) ∧ (0 ≤ c ∧ c ≤ 1000)) = true := decide_eq_true h1
    by_cases h2 : 0 ≤ t ∧ t ≤ n
    · by_cases h3 : n > 2000
      · simp only [h1', decide_eq_true h2, decide_eq_true h3, if_true]
        rw [decide_eq_false (fun h => by omega)]
      · simp only [h1', decide_eq_true h2, decide_eq_false h3, Bool.false_eq_true, if_true, if_false]
        rw [iLev_eq a b c t (by omega)]; simp only [Option.bind_some]
        rw [iOff_eq a b c _ n (by omega)]; simp only [Option.bind_some]
        have h3' : n ≤ 2000 := by omega
        generalize offRM a b c (levM a b c t) n = p
        obtain ⟨p1, p2⟩ := p
        by_cases h4 : p1 = t
        · simp only [h4, h1, h2, h3', if_true, true_and, and_self]
          congr 1
          rw [Bool.eq_iff_iff]; simp
        · simp [h4]
    · simp only [h1', decide_eq_false h2, Bool.false_eq_true, if_true, if_false]
      rw [decide_eq_false (fun h => h2 h.2.1)]
  · have h1' : decide ((1 ≤ a ∧ a ≤ 100000) ∧ (0 ≤ b ∧ b ≤ 999) ∧ (0 ≤ c ∧ c ≤ 1000)) = false := decide_eq_false h1
    simp only [h1', Bool.false_eq_true, if_true, if_false]
    rw [decide_eq_false (fun h => h1 h.1)]
theorem rd_mid (pre : List Int) (a : Int) (suf : List Int) : rd (pre ++ a :: suf) (pre.length : Int) = a := by simp [rd]
theorem len_mid {α : Type} (pre : List α) (a : α) (suf : List α) : (pre ++ a :: suf).length = (pre ++ [a]).length + suf.length := by simp; omega
theorem app_mid {α : Type} (pre : List α) (a : α) (suf : List α) : pre ++ a :: suf = (pre ++ [a]) ++ suf := by simp
theorem wrap_len {α : Type} {pre : List α} {a : α} (h : pre.length < 9223372036854775807) : wrap64 ((pre.length : Int) + 1) = ((pre ++ [a]).length : Int) := by
  rw [wrap_id (by omega) (by omega)]; simp
theorem pred {d k : Nat} (h : d < k) : ∃ j, k = j + 1 := ⟨k - 1, by omega⟩
theorem sTold_eq (a b c t n : Int) {k : Nat} (hk : 2005 ≤ k) : spec_IsTold.f k a b c t n = some (toldM a b c t n) := by
  obtain ⟨k, rfl⟩ : ∃ j, k = j + 1 := ⟨k - 1, by omega⟩
  unfold toldM
  simp only [spec_IsTold.f, spec_IsTold.j0, sDecay_eq, in_eq, Option.bind_some]
  by_cases h1 : okD a b c
  · have h1' : decide ((1 ≤ a ∧ a ≤ 100000) ∧ (0 ≤ b ∧ b ≤ 999) ∧ (0 ≤ c ∧ c ≤ 1000)) = true := decide_eq_true h1
    by_cases h3 : 0 ≤ n ∧ n ≤ 2000
    · by_cases h2 : 0 ≤ t ∧ t ≤ n
      · simp only [h1', decide_eq_true h2, decide_eq_true h3, Bool.not_true, Bool.false_eq_true, if_true, if_false]
        rw [sLev_eq a b c t (by omega)]; simp only [Option.bind_some]
        rw [sOff_eq a b c _ n (by omega)]; simp only [Option.bind_some]
        generalize offRM a b c (levM a b c t) n = p
        obtain ⟨p1, p2⟩ := p
        by_cases h4 : p1 = t
        · simp only [h4, h1, h2, h3.2, if_true, true_and, and_self]
          congr 1
          rw [Bool.eq_iff_iff]; simp
        · simp [h4]
      · simp only [h1', decide_eq_false h2, decide_eq_true h3, Bool.not_false, if_true]
        rw [decide_eq_false (fun h => h2 h.2.1)]
    · simp only [h1', decide_eq_false h3, Bool.false_eq_true, if_true, if_false]
      rw [decide_eq_false (fun h => h3 (by omega))]
  · have h1' : decide ((1 ≤ a ∧ a ≤ 100000) ∧ (0 ≤ b ∧ b ≤ 999) ∧ (0 ≤ c ∧ c ≤ 1000)) = false := decide_eq_false h1
    simp only [h1', Bool.false_eq_true, if_true, if_false]
    rw [decide_eq_false (fun h => h1 h.1)]

theorem FnExactIsTold : ∀ (a0_0 : Int) (a0_1 : Int) (a0_2 : Int) (a1 : Int) (a2 : Int), ((Lit.int .i64 a0_0).wf = true) → ((Lit.int .i64 a0_1).wf = true) → ((Lit.int .i64 a0_2).wf = true) → ((Lit.int .i64 a1).wf = true) → ((Lit.int .i64 a2).wf = true) → ∃ k, laws_FnExactIsTold.f k a0_0 a0_1 a0_2 a1 a2 = some true := by
  intro a b c t n _ _ _ _ _
  refine ⟨2005, ?_⟩
  simp only [laws_FnExactIsTold.f, toDecay_eq, Option.bind_some, sTold_eq a b c t n (k := 2005) (by omega), iTold_eq a b c t n (k := 2005) (by omega)]
  simp

end Go.Proofs.Ytfbndpgbebbljaa.Pure
