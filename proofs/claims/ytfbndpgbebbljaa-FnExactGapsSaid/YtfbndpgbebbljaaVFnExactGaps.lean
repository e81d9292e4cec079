/- The pure statement of the law FnExactGaps: what the printed function comes to is true. No condition beyond what every argument of these types meets. -/
import Derived.Test.YtfbndpgbebbljaaQFnExactGaps1
import Derived.OpenShut
namespace Go.Proofs.Ytfbndpgbebbljaa.Pure
open Go.RowKit Go.Proofs.Ytfbndpgbebbljaa.QFnExactGaps Go.Proofs.YtfbndpgbebbljaaW.PrintWords Go.Proofs.YtfbndpgbebbljaaW.PrintLast Go.Proofs.YtfbndpgbebbljaaW.PrintMore
set_option linter.unusedVariables false
set_option linter.unusedSimpArgs false
--BLOCKS
theorem wf_b {z : Int} (h : (Lit.int .i64 z).wf = true) : -9223372036854775808 ≤ z ∧ z ≤ 9223372036854775807 := bounds_i64 h
theorem wrap_id {z : Int} (h1 : -9223372036854775808 ≤ z) (h2 : z ≤ 9223372036854775807) : wrap64 z = z := by unfold wrap64; omega
theorem mn_min (a b : Int) : mn a b = min a b := by unfold mn; omega
theorem mx_max (a b : Int) : mx a b = max a b := by unfold mx; omega
theorem rd_mid (pre : List Int) (a : Int) (suf : List Int) : rd (pre ++ a :: suf) (pre.length : Int) = a := by simp [rd]
theorem len_mid {α : Type} (pre : List α) (a : α) (suf : List α) : (pre ++ a :: suf).length = (pre ++ [a]).length + suf.length := by simp; omega
theorem app_mid {α : Type} (pre : List α) (a : α) (suf : List α) : pre ++ a :: suf = (pre ++ [a]) ++ suf := by simp
theorem wrap_len {α : Type} {pre : List α} {a : α} (h : pre.length < 9223372036854775807) : wrap64 ((pre.length : Int) + 1) = ((pre ++ [a]).length : Int) := by
  rw [wrap_id (by omega) (by omega)]; simp
theorem pred {d k : Nat} (h : d < k) : ∃ j, k = j + 1 := ⟨k - 1, by omega⟩
theorem eqInt_loop : ∀ (s1 s2 pre : List Int) (k : Nat), s1.length < k → s2.length = s1.length → (pre ++ s1).length < 9223372036854775807 → laws_eqIntS.l0 k (pre ++ s1) (pre ++ s2) (pre.length : Int) = some (decide (s1 = s2))
  | [], s2, pre, k, hk, hr, hb => by
    obtain ⟨k, rfl⟩ := pred hk
    obtain rfl : s2 = [] := List.length_eq_zero_iff.1 hr
    simp only [laws_eqIntS.l0]
    rw [if_neg (by simp)]; simp
  | a :: s1, b :: s2, pre, k, hk, hr, hb => by
    obtain ⟨k, rfl⟩ := pred hk
    have hl : (pre ++ a :: s1).length = pre.length + s1.length + 1 := by simp; omega
    have hl2 : (pre ++ b :: s2).length = pre.length + s2.length + 1 := by simp; omega
    simp only [laws_eqIntS.l0]
    rw [if_pos (by omega), if_pos (by omega), if_pos (by omega), rd_mid, rd_mid]
    by_cases hab : a = b
    · subst hab
      have ih := eqInt_loop s1 s2 (pre ++ [a]) k (by simpa using hk) (by simpa using hr) (by simpa using hb)
      rw [if_pos rfl, wrap_len (a := a) (by omega), app_mid, app_mid pre a s2, ih]
      simp
    · rw [if_neg hab]; simp [hab]
  | _ :: _, [], _, _, _, hr, _ => by simp at hr
theorem eqInt_eq (l m : List Int) (hl : l.length < 9223372036854775807) {k : Nat} (hk : l.length < k) : laws_eqIntS.f k l m = some (decide (l = m)) := by
  unfold laws_eqIntS.f
  by_cases h : l.length = m.length
  · rw [if_pos (by omega)]
    have := eqInt_loop l m [] k hk h.symm (by simpa using hl)
    simpa using this
  · rw [if_neg (by omega), decide_eq_false (fun e => h (by rw [e]))]
/-- The marks from m on. -/
def mkInt : Int → Nat → List Int
  | _, 0 => []
  | m, i + 1 => m :: mkInt (m + 1) i
theorem mkInt_len : ∀ (d : Nat) (m : Int), (mkInt m d).length = d
  | 0, _ => rfl
  | d + 1, m => by simp [mkInt, mkInt_len d]
theorem markInt_loop : ∀ (suf pre : List Int) (k : Nat) (m : Int), suf.length < k → (pre ++ suf).length ≤ 4611686018427387 → 0 ≤ m → m + suf.length ≤ 4611686018427387904 → laws_markIntS.l0 k (pre ++ suf) m (pre.length : Int) = some (m + suf.length, pre ++ mkInt m suf.length)
  | [], pre, k, m, hk, hb, h0, hm => by
    obtain ⟨k, rfl⟩ := pred hk
    simp only [laws_markIntS.l0]
    rw [if_neg (by simp)]; simp [mkInt]
  | a :: suf, pre, k, m, hk, hb, h0, hm => by
    obtain ⟨k, rfl⟩ := pred hk
    have hl : (pre ++ a :: suf).length = pre.length + suf.length + 1 := by simp; omega
    have hc : ((a :: suf).length : Int) = suf.length + 1 := by simp
    rw [hc] at hm
    have ih := markInt_loop suf (pre ++ [m]) k (m + 1) (by simpa using hk) (by simp at hb ⊢; omega) (by omega) (by omega)
    simp only [laws_markIntS.l0]
    have hset : (pre ++ a :: suf).set pre.length m = pre ++ m :: suf := by rw [List.set_append_right _ _ (by omega)]; simp
    rw [if_pos (by omega), if_pos (by omega), Int.toNat_natCast, hset, wrap_id (z := m + 1) (by omega) (by omega), wrap_len (a := m) (by omega), app_mid, ih]
    simp [mkInt]
    omega
theorem heldInt_loop : ∀ (d : Nat) (pre : List Int) (k : Nat) (m : Int), d < k → (pre ++ mkInt m d).length ≤ 4611686018427387 → 0 ≤ m → m + d ≤ 4611686018427387904 → laws_heldIntS.l0 k (pre ++ mkInt m d) m (pre.length : Int) = some (m + d)
  | 0, pre, k, m, hk, hb, h0, hm => by
    obtain ⟨k, rfl⟩ := pred hk
    rw [show mkInt m 0 = [] from rfl]
    simp only [laws_heldIntS.l0]
    rw [if_neg (by simp)]; simp
  | d + 1, pre, k, m, hk, hb, h0, hm => by
    obtain ⟨k, rfl⟩ := pred hk
    have ih := heldInt_loop d (pre ++ [m]) k (m + 1) (by omega) (by simp [mkInt] at hb ⊢; omega) (by omega) (by omega)
    rw [show mkInt m (d + 1) = m :: mkInt (m + 1) d from rfl] at hb ⊢
    simp only [laws_heldIntS.l0]
    have hl : ∀ (a : Int) (suf : List Int), (pre ++ a :: suf).length = pre.length + suf.length + 1 := fun a suf => by simp; omega
    rw [hl] at hb
    rw [if_pos (by rw [hl]; omega), if_pos (by omega), rd_mid, if_pos rfl, wrap_id (z := m + 1) (by omega) (by omega), wrap_len (a := m) (by omega), app_mid, ih]
    congr 1
    omega
theorem markInt_eq (l : List Int) (m : Int) (h0 : 0 ≤ m) (hm : m + l.length ≤ 4611686018427387) {k : Nat} (hk : l.length < k) : laws_markIntS.f k l m = some (m + l.length, mkInt m l.length) := by
  have := markInt_loop l [] k m hk (by simp; omega) h0 (by omega)
  simpa [laws_markIntS.f] using this
theorem heldInt_eq (d : Nat) (m : Int) (h0 : 0 ≤ m) (hm : m + d ≤ 4611686018427387) {k : Nat} (hk : d < k) : laws_heldIntS.f k (mkInt m d) m = some (m + d) := by
  have := heldInt_loop d [] k m hk (by simp [mkInt_len]; omega) h0 (by omega)
  simpa [laws_heldIntS.f] using this
def cvPacket (x : S28) : S30 := ⟨x.f0, x.f1⟩
theorem rdA_Packet (pre : List S28) (a : S28) (suf : List S28) : rd_T28 (pre ++ a :: suf) (pre.length : Int) = a := by simp [rd_T28]
theorem toPacket_loop : ∀ (suf pre : List S28) (rep : List S30) (k : Nat), suf.length < k → rep.length = suf.length → (pre ++ suf).length < 9223372036854775807 → laws_toPacketS.l0 k (pre ++ suf) (pre.map cvPacket ++ rep) (pre.length : Int) = some ((pre ++ suf).map cvPacket)
  | [], pre, rep, k, hk, hr, hb => by
    obtain ⟨k, rfl⟩ := pred hk
    obtain rfl : rep = [] := List.length_eq_zero_iff.1 hr
    simp only [laws_toPacketS.l0]
    rw [if_neg (by simp)]; simp
  | a :: suf, pre, r :: rep, k, hk, hr, hb => by
    obtain ⟨k, rfl⟩ := pred hk
    have hl : (pre ++ a :: suf).length = pre.length + suf.length + 1 := by simp; omega
    have hl2 : (pre.map cvPacket ++ r :: rep).length = pre.length + rep.length + 1 := by simp; omega
    have ih := toPacket_loop suf (pre ++ [a]) rep k (by simpa using hk) (by simpa using hr) (by simpa using hb)
    simp only [laws_toPacketS.l0]
    rw [if_pos (by omega), if_pos (by omega), rdA_Packet]
    simp only [laws_toPacket.f, Option.bind_some]
    rw [if_pos (by omega), wrap_len (a := a) (by omega), Int.toNat_natCast]
    have e : (pre.map cvPacket ++ r :: rep).set pre.length (cvPacket a) = (pre ++ [a]).map cvPacket ++ rep := by
      rw [List.set_append_right _ _ (by simp)]; simp
    have e2 : (pre.map cvPacket ++ r :: rep).set pre.length (⟨a.f0, a.f1⟩ : S30) = (pre ++ [a]).map cvPacket ++ rep := e
    rw [e2]
    simpa using ih
  | _ :: _, _, [], _, _, hr, _ => by simp at hr
theorem toPacketS_eq (l : List S28) (hl : l.length ≤ 1048576) {k : Nat} (hk : l.length < k) : laws_toPacketS.f k l = some (l.map cvPacket) := by
  unfold laws_toPacketS.f
  rw [if_pos (by omega), if_pos (by omega), Int.toNat_natCast]
  have := toPacket_loop l [] (List.replicate l.length z30) k hk (by simp) (by simp; omega)
  simpa using this
theorem szPacketS_ev (l : List S28) (a : Int) (hl : l.length ≤ maxLen) (ha : 0 ≤ a ∧ a ≤ 1048576) : (laws_szPacketS.f l a = some (-1)) ∨ ((l.length : Int) ≤ a ∧ laws_szPacketS.f l a = some (a - l.length)) := by
  unfold laws_szPacketS.f
  unfold maxLen at hl
  rw [wrap_id (by omega) (by omega)]
  by_cases h : a - (l.length : Int) < 0
  · rw [if_pos h]; exact .inl rfl
  · rw [if_neg h]; exact .inr ⟨by omega, rfl⟩
theorem rdB_Packet (pre : List S30) (a : S30) (suf : List S30) : rd_T30 (pre ++ a :: suf) (pre.length : Int) = a := by simp [rd_T30]
theorem eqPacket_loop : ∀ (suf pre : List S30) (k : Nat), suf.length < k → (pre ++ suf).length < 9223372036854775807 → laws_eqPacketS.l0 k (pre ++ suf) (pre ++ suf) (pre.length : Int) = some true
  | [], pre, k, hk, hb => by
    obtain ⟨k, rfl⟩ := pred hk
    simp only [laws_eqPacketS.l0]
    rw [if_neg (by simp)]
  | a :: suf, pre, k, hk, hb => by
    obtain ⟨k, rfl⟩ := pred hk
    have hl : (pre ++ a :: suf).length = pre.length + suf.length + 1 := by simp; omega
    have ih := eqPacket_loop suf (pre ++ [a]) k (by simpa using hk) (by simpa using hb)
    simp only [laws_eqPacketS.l0]
    rw [if_pos (by omega), if_pos (by omega), rdB_Packet]
    simp only [laws_eqPacket.f, Option.bind_some, if_true]
    try rw [if_pos (by omega)]
    rw [wrap_len (a := a) (by omega), app_mid]
    exact ih
theorem eqPacketS_eq (l : List S30) (hl : l.length < 9223372036854775807) {k : Nat} (hk : l.length < k) : laws_eqPacketS.f k l l = some true := by
  unfold laws_eqPacketS.f
  rw [if_pos rfl]
  have := eqPacket_loop l [] k hk (by simpa using hl)
  simpa using this
/-- The marks from m on. -/
def mkPacket : Int → Nat → List S30
  | _, 0 => []
  | m, i + 1 => ⟨m, m + 1⟩ :: mkPacket (m + 2) i
theorem rdM_Packet (pre : List S30) (a : S30) (suf : List S30) : rd_T30 (pre ++ a :: suf) (pre.length : Int) = a := by simp [rd_T30]
theorem wrap1_Packet {m : Int} (h0 : 0 ≤ m) (h1 : m < 4611686018427387904) : wrap64 (m + 1) = m + 1 := wrap_id (by omega) (by omega)
theorem markPacket_loop : ∀ (suf pre : List S30) (k : Nat) (m : Int), suf.length < k → (pre ++ suf).length ≤ 4611686018427387 → 0 ≤ m → m + 2 * suf.length ≤ 4611686018427387904 → laws_markPacketS.l0 k (pre ++ suf) m (pre.length : Int) = some (m + 2 * suf.length, pre ++ mkPacket m suf.length)
  | [], pre, k, m, hk, hb, h0, hm => by
    obtain ⟨k, rfl⟩ := pred hk
    simp only [laws_markPacketS.l0]
    rw [if_neg (by simp)]; simp [mkPacket]
  | a :: suf, pre, k, m, hk, hb, h0, hm => by
    obtain ⟨k, rfl⟩ := pred hk
    have hl : (pre ++ a :: suf).length = pre.length + suf.length + 1 := by simp; omega
    have hc : ((a :: suf).length : Int) = suf.length + 1 := by simp
    rw [hc] at hm
    have ih := markPacket_loop suf (pre ++ [⟨m, m + 1⟩]) k (m + 2) (by simpa using hk) (by simp at hb ⊢; omega) (by omega) (by omega)
    simp only [laws_markPacketS.l0]
    rw [if_pos (by omega), if_pos (by omega), rdM_Packet, Int.toNat_natCast]
    have hset : ∀ b c : S30, (pre ++ b :: suf).set pre.length c = pre ++ c :: suf := fun b c => by rw [List.set_append_right _ _ (by omega)]; simp
    simp only [hset, Option.bind_some, rdM_Packet]
    rw [wrap1_Packet (m := m) (by omega) (by omega), wrap1_Packet (m := m + 1) (by omega) (by omega)]
    rw [wrap_len (a := (⟨m, m + 1⟩ : S30)) (by omega), app_mid]
    rw [show m + 1 + 1 = m + 2 from by omega]
    rw [ih]
    simp [mkPacket]
    omega
theorem mkPacket_len : ∀ (d : Nat) (m : Int), (mkPacket m d).length = d
  | 0, _ => rfl
  | d + 1, m => by simp [mkPacket, mkPacket_len d]
theorem markPacket_eq (l : List S30) (m : Int) (h0 : 0 ≤ m) (hm : m + 2 * l.length ≤ 4611686018427387) {k : Nat} (hk : l.length < k) : laws_markPacketS.f k l m = some (m + 2 * l.length, mkPacket m l.length) := by
  have := markPacket_loop l [] k m hk (by simp; omega) h0 (by omega)
  simpa [laws_markPacketS.f] using this
/-- The packets before which others are missing, from index i on, the greatest so far being g. -/
def gapsM : Int → Int → List S30 → List Int
  | _, _, [] => []
  | i, g, p :: s => if p.f0 > g ∧ p.f0 ≠ wrap64 (g + 1) then i :: gapsM (i + 1) (mx g p.f0) s else gapsM (i + 1) (mx g p.f0) s
theorem gapsM_len : ∀ (s : List S30) (i g : Int), (gapsM i g s).length ≤ s.length
  | [], _, _ => Nat.le_refl _
  | p :: s, i, g => by
    have := gapsM_len s (i + 1) (mx g p.f0)
    unfold gapsM; split <;> simp <;> omega
theorem rdG_mid (pre : List S30) (a : S30) (suf : List S30) : rd_T30 (pre ++ a :: suf) (pre.length : Int) = a := by simp [rd_T30]
theorem iGaps_loop : ∀ (suf pre : List S30) (k : Nat) (acc : List Int) (g : Int), suf.length < k → (pre ++ suf).length ≤ 1048576 → acc.length ≤ pre.length → impl_Gaps.l0 k acc g (pre ++ suf) ((pre ++ suf).length : Int) (pre.length : Int) = some (acc ++ gapsM pre.length g suf)
  | [], pre, k, acc, g, hk, hb, ha => by
    obtain ⟨k, rfl⟩ := pred hk
    simp only [impl_Gaps.l0]
    rw [if_neg (by simp)]; simp [gapsM]
  | a :: suf, pre, k, acc, g, hk, hb, ha => by
    obtain ⟨k, rfl⟩ := pred hk
    have hl : (pre ++ a :: suf).length = pre.length + suf.length + 1 := by simp; omega
    have ih := fun acc' h => iGaps_loop suf (pre ++ [a]) k acc' (mx g a.f0) (by simpa using hk) (by simpa using hb) h
    rw [← app_mid] at ih
    have hp : ((pre ++ [a]).length : Int) = pre.length + 1 := by simp
    simp only [impl_Gaps.l0]
    rw [if_pos (by omega), if_pos (by omega), if_pos (by omega), rdG_mid, wrap_len (a := a) (by omega)]
    unfold gapsM
    by_cases h1 : a.f0 > g
    · by_cases h2 : a.f0 = wrap64 (g + 1)
      · rw [if_pos h1, if_pos h2, if_neg (fun h => h.2 h2), ih acc (by simp; omega), hp]
      · rw [if_pos h1, if_neg h2, if_pos (by omega), if_pos ⟨h1, h2⟩, ih (acc ++ [(pre.length : Int)]) (by simp; omega), hp]; simp
    · rw [if_neg h1, if_neg (fun h => h1 h.1), ih acc (by simp; omega), hp]
theorem iGaps_eq (l : List S30) (hl : l.length ≤ 1048576) {k : Nat} (hk : l.length < k) : impl_Gaps.f k l = some (gapsM 0 (-1) l) := by
  have := iGaps_loop l [] k [] (-1) hk (by simpa using hl) (by simp)
  simpa [impl_Gaps.f] using this
theorem sGaps_loop : ∀ (suf pre : List S30) (k : Nat) (acc : List Int) (g : Int), suf.length < k → (pre ++ suf).length ≤ 1048576 → acc.length ≤ pre.length → spec_Gaps.l0 k (pre ++ suf) acc g (pre.length : Int) = some (acc ++ gapsM pre.length g suf)
  | [], pre, k, acc, g, hk, hb, ha => by
    obtain ⟨k, rfl⟩ := pred hk
    simp only [spec_Gaps.l0]
    rw [if_neg (by simp)]; simp [gapsM]
  | a :: suf, pre, k, acc, g, hk, hb, ha => by
    obtain ⟨k, rfl⟩ := pred hk
    have hl : (pre ++ a :: suf).length = pre.length + suf.length + 1 := by simp; omega
    have ih := fun acc' h => sGaps_loop suf (pre ++ [a]) k acc' (mx g a.f0) (by simpa using hk) (by simpa using hb) h
    rw [← app_mid] at ih
    have hp : ((pre ++ [a]).length : Int) = pre.length + 1 := by simp
    simp only [spec_Gaps.l0]
    rw [if_pos (by omega), if_pos (by omega), rdG_mid, wrap_len (a := a) (by omega)]
    unfold gapsM
    by_cases h1 : a.f0 > g
    · by_cases h2 : a.f0 = wrap64 (g + 1)
      · rw [if_pos h1, if_pos h2, if_neg (fun h => h.2 h2), ih acc (by simp; omega), hp]
      · rw [if_pos h1, if_neg h2, if_pos (by omega), if_pos ⟨h1, h2⟩, ih (acc ++ [(pre.length : Int)]) (by simp; omega), hp]; simp
    · rw [if_neg h1, if_neg (fun h => h1 h.1), ih acc (by simp; omega), hp]
theorem sGaps_eq (l : List S30) (hl : l.length ≤ 1048576) {k : Nat} (hk : l.length < k) : spec_Gaps.f k l = some (gapsM 0 (-1) l) := by
  have := sGaps_loop l [] k [] (-1) hk (by simpa using hl) (by simp)
  simpa [spec_Gaps.f] using this

theorem FnExactGaps : ∀ (l0 : List S28), (l0.length ≤ maxLen ∧ ∀ x ∈ l0, ((Lit.int .i64 x.f0).wf = true) ∧ ((Lit.int .i64 x.f1).wf = true)) → ∃ k, laws_FnExactGaps.f k l0 = some true := by
  intro l hl
  refine ⟨l.length + 2, ?_⟩
  unfold laws_FnExactGaps.f
  rcases szPacketS_ev l 1048576 hl.1 (by omega) with h | ⟨h1, h2⟩
  · rw [h, Option.bind_some, if_pos (by omega)]
  have hm : (l.map cvPacket).length = l.length := by simp
  have hg := gapsM_len (l.map cvPacket) 0 (-1)
  generalize hG : gapsM 0 (-1) (l.map cvPacket) = G at hg
  have e1 := toPacketS_eq l (show l.length ≤ 1048576 by omega) (k := l.length + 1) (by omega)
  have e2 := iGaps_eq (l.map cvPacket) (show (l.map cvPacket).length ≤ 1048576 by omega) (k := l.length + 1) (by omega)
  have e3 := eqInt_eq G G (by omega) (k := l.length + 1) (by omega)
  have e4 := markInt_eq G 1 (by omega) (by omega) (k := l.length + 1) (by omega)
  have e5 := heldInt_eq G.length 1 (by omega) (by omega) (k := l.length + 1) (by omega)
  rw [hG] at e2
  have j0 : laws_FnExactGaps.j0 (l.length + 2) l G G false = some true := by
    simp only [laws_FnExactGaps.j0, Bool.false_eq_true, if_false, e4, e5, Option.bind_some]
    rw [if_neg (by omega), if_pos trivial, e1, Option.bind_some, e2, Option.bind_some, e3, Option.bind_some, if_pos (decide_eq_true rfl), if_neg (by omega), if_pos trivial]
  rw [h2, Option.bind_some, if_neg (by omega), toPacketS_eq l (by omega) (by omega), Option.bind_some, sGaps_eq _ (by omega) (by omega), hG, Option.bind_some, Option.bind_some, iGaps_eq _ (by omega) (by omega), hG, Option.bind_some, eqInt_eq G G (by omega) (by omega), Option.bind_some, if_pos (decide_eq_true rfl), Option.bind_some,
    eqPacketS_eq _ (by omega) (by omega), Option.bind_some, if_pos rfl, markPacket_eq _ 1 (by omega) (by omega) (by omega), Option.bind_some, if_neg (by omega), Option.bind_some, decide_eq_true rfl]
  exact j0

end Go.Proofs.Ytfbndpgbebbljaa.Pure
