/- Devices: what is valid, copies. Both sides. No condition. -/
import Derived.Test.YtdlanjhcabcagaaD7Lib
import Derived.Test.YtdlanjhcabcagaaInsAv
namespace Go.Av
open Go.Proofs Go.RowKit
set_option linter.unusedVariables false
set_option linter.unusedSimpArgs false
set_option maxRecDepth 100000
set_option maxHeartbeats 4000000
structure Setting where
  reg : Int
  val : Int
def encSetting (s : Setting) : List V := [.int .i64 s.reg, .int .i64 s.val]
structure Device where
  regs : List Int
  list : List Setting
def encDevice (d : Device) : List V := [.lst 1 (d.regs.map encI), .lst 2 (d.list.map encSetting)]
theorem flat_G (xs : List Setting) : flat (xs.map encSetting) = true := by simp [flat, encSetting, V.scalar]
theorem refs_G (n : Nat) (x : Setting) : V.refsL n (encSetting x) = true := rfl
theorem refs_GS (n : Nat) (xs : List Setting) : V.refs n (.lst 2 (xs.map encSetting)) = true := by simp [V.refs, refsLL_map encSetting (refs_G n) xs]
theorem refs_D (n : Nat) (d : Device) : V.refs n (.agg (encDevice d)) = true := by simp only [encDevice, V.refs, V.refsL, refsLL_map encI (fun _ => rfl), refsLL_map encSetting (refs_G n), Bool.and_true, Bool.true_and]
def isStg (s : Setting) : Bool := within s.reg 0 3 && isValue s.val
def listOk : Int → List Setting → Bool
  | _, [] => true
  | last, s :: r => within s.reg (last + 1) 3 && isValue s.val && listOk s.reg r
def devOk (d : Device) : Bool := decide ((d.regs.length : Int) = 4) && vals d.regs && listOk (-1) d.list
theorem isStg_c (s : Setting) : CP Try.prog 24 [.agg (encSetting s)] (.bool (isStg s)) [] := by
  refine CP.by rfl mixed (cfn_ok Try.func24 ok24) rfl ?_
  simp (disch := omega) only [s24, go_sem, encSetting]
  refine CP.go (within_c _ _ _) rfl rfl ?_
  simp (disch := omega) only [go_sem, encSetting]
  refine condP_split (fun h => ?_) (fun h => ?_)
  · simp (disch := omega) only [go_sem, h]
    refine CP.go (isValue_c _) rfl rfl ?_
    simp (disch := omega) only [go_sem, h]
    simp [isStg, h]
  · simp (disch := omega) only [go_sem, h]
    simp [isStg, h]
theorem devOk_s (d : Device) (hr : d.regs.length ≤ 9223372036854775807) (hl : d.list.length ≤ 9223372036854775807) : CP Try.prog 30 [.agg (encDevice d)] (.bool (devOk d)) [] := by
  refine CP.by rfl mixed (cfn_ok Try.func30 ok30) rfl ?_
  simp (disch := omega) only [s30, go_sem, encDevice]
  refine condP_dec (fun h4 => ?_) (fun h4 => ?_)
  case' refine_2 =>
    simp (disch := omega) only [go_sem, encDevice]
    rw [show devOk d = false by simp only [devOk, decide_eq_false h4, Bool.false_and]]
  simp (disch := omega) only [go_sem, encDevice]
  refine CP.go (values_s d.regs hr) rfl (refs_int1 _ _) ?_
  simp (disch := omega) only [go_sem, encDevice]
  refine condP_split (fun hv => ?_) (fun hv => ?_)
  case' refine_2 =>
    simp (disch := omega) only [go_sem, encDevice, hv]
    rw [show devOk d = false by simp [devOk, hv]]
  have hd : devOk d = listOk (-1) d.list := by simp [devOk, hv, h4]
  rw [hd]
  simp (disch := omega) only [go_sem, encDevice, hv]
  refine loopP_intro (fun m s => ∃ (k : Nat) (last : Int), k ≤ d.list.length ∧ m = d.list.length - k ∧ (-1 ≤ last ∧ last ≤ 3) ∧ listOk last (d.list.drop k) = listOk (-1) d.list ∧ s.e 1 = .ptr 0 1 0 0 ∧ s.e 3 = .int .i64 last ∧ s.e 4 = .int .i64 k ∧ s.h[0]? = some [[.lst 1 (d.regs.map encI), .lst 2 (d.list.map encSetting)]]) d.list.length ⟨0, -1, by omega, by omega, by omega, rfl, by simp (disch := omega) only [go_sem, encDevice, hv], by simp (disch := omega) only [go_sem, encDevice, hv], by simp (disch := omega) only [go_sem, encDevice, hv] <;> rfl, by simp (disch := omega) only [go_sem, encDevice, hv]⟩ ?_
  rintro m e hp ⟨k, last, hk, rfl, hlast, hrec, e1, e3, e4, h0⟩
  simp only at e1 e3 e4 h0
  simp (disch := omega) only [go_sem, e1, e3, e4, h0]
  refine condP_dec (fun hlt => ?_) (fun hlt => ?_)
  · have hlt' : k < d.list.length := by omega
    rw [List.drop_eq_getElem_cons hlt'] at hrec
    simp only [listOk] at hrec
    have h0' := fun t => heap_app (h' := t) h0
    simp (disch := omega) only [go_sem, e1, e3, e4, h0, h0', encSetting, List.getElem?_map, splice]
    refine CP.go (l01In_c d.list[k].reg (last + 1) 3) rfl rfl ?_
    simp (disch := omega) only [go_sem, e1, e3, e4, h0, h0', encSetting, List.getElem?_map, splice]
    refine condP_split (fun hi => ?_) (fun hi => ?_)
    case' refine_2 =>
      simp (disch := omega) only [go_sem, e1, e3, e4, hi]
      rw [← hrec, hi, Bool.false_and, Bool.false_and]
    simp (disch := omega) only [go_sem, e1, e3, e4, hi]
    refine CP.go (isValue_s d.list[k].val) rfl rfl ?_
    simp (disch := omega) only [go_sem, e1, e3, e4, hi]
    refine condP_split (fun hv => ?_) (fun hv => ?_)
    case' refine_2 =>
      simp (disch := omega) only [go_sem, e1, e3, e4, hv]
      rw [← hrec, hv, Bool.and_false, Bool.false_and]
    simp (disch := omega) only [go_sem, e1, e3, e4, hv]
    rw [hi, hv, Bool.true_and, Bool.true_and] at hrec
    have hin : last + 1 ≤ d.list[k].reg ∧ d.list[k].reg ≤ 3 := by simpa [within] using hi
    exact nextP_intro (d.list.length - (k + 1)) (by omega) ⟨k + 1, d.list[k].reg, by omega, rfl, by omega, hrec, by simp (disch := omega) only [go_sem, e1, e3, e4, hv], by simp (disch := omega) only [go_sem, e1, e3, e4, hv], by simp (disch := omega) only [go_sem, e1, e3, e4, hv] <;> rfl, h0' _⟩
  · simp (disch := omega) only [go_sem, e1, e3, e4]
    rw [List.drop_eq_nil_of_le (by omega)] at hrec
    rw [← hrec]; rfl
theorem devOk_c (d : Device) (hr : d.regs.length ≤ 9223372036854775807) (hl : d.list.length ≤ 9223372036854775807) : CP Try.prog 23 [.agg (encDevice d)] (.bool (devOk d)) [] := by
  refine CP.by rfl mixed (cfn_ok Try.func23 ok23) rfl ?_
  simp (disch := omega) only [s23, go_sem, encDevice]
  refine loopP_intro (fun m s => ∃ (k : Nat) (last : Int), k ≤ d.list.length ∧ m = d.list.length - k ∧ (-1 ≤ last ∧ last ≤ 3) ∧ (k = 0 → last = -1) ∧ (∀ h : k - 1 < d.list.length, 0 < k → last = d.list[k - 1].reg ∧ 0 ≤ last) ∧ listOk last (d.list.drop k) = listOk (-1) d.list ∧ s.e 1 = .ptr 0 1 0 0 ∧ s.e 6 = .lst 2 (d.list.map encSetting) ∧ s.e 7 = .int .i64 d.list.length ∧ s.e 8 = .int .i64 k ∧ s.h[0]? = some [[.lst 1 (d.regs.map encI), .lst 2 (d.list.map encSetting)]]) d.list.length ⟨0, -1, by omega, by omega, by omega, fun _ => rfl, fun _ h => absurd h (by omega), rfl, by simp (disch := omega) only [go_sem, encDevice], by simp (disch := omega) only [go_sem, encDevice], by simp (disch := omega) only [go_sem, encDevice], by simp (disch := omega) only [go_sem, encDevice] <;> rfl, by simp (disch := omega) only [go_sem, encDevice]⟩ ?_
  rintro m e hp ⟨k, last, hk, rfl, hlast, hz, hpos, hrec, e1, e6, e7, e8, h0⟩
  simp only at e1 e6 e7 e8 h0
  simp (disch := omega) only [go_sem, e1, e6, e7, e8, h0]
  refine condP_dec (fun hlt => ?_) (fun hlt => ?_)
  · have hlt' : k < d.list.length := by omega
    rw [List.drop_eq_getElem_cons hlt'] at hrec
    simp only [listOk] at hrec
    have h0' := fun t => heap_app (h' := t) h0
    have bad : (within d.list[k].reg (last + 1) 3 && isValue d.list[k].val) = false → listOk (-1) d.list = false := fun q => by rw [← hrec, q, Bool.false_and]
    simp (disch := omega) only [go_sem, e1, e6, e7, e8, h0, h0', encSetting, List.getElem?_map, splice]
    refine CP.go (isStg_c d.list[k]) rfl rfl ?_
    simp (disch := omega) only [go_sem, e1, e6, e7, e8, h0, h0', encSetting, List.getElem?_map, splice]
    refine condP_split (fun hi => ?_) (fun hi => ?_)
    case' refine_2 =>
      simp (disch := omega) only [go_sem, e1, e6, e7, e8, hi]
      have hf : listOk (-1) d.list = false := bad (by
        rw [Bool.eq_false_iff]; intro q
        simp only [Bool.and_eq_true, within, decide_eq_true_eq] at q
        have : isStg d.list[k] = true := by simp only [isStg, Bool.and_eq_true, within, decide_eq_true_eq]; exact ⟨⟨by omega, by omega⟩, q.2⟩
        rw [hi] at this; cases this)
      rw [show devOk d = false by simp [devOk, hf]]
    have hs2 : (0 ≤ d.list[k].reg ∧ d.list[k].reg ≤ 3) ∧ isValue d.list[k].val = true := by simpa [isStg, within] using hi
    have nxt : ∀ (e' : Nat → V) (hh : Heap), last < d.list[k].reg → e' 1 = .ptr 0 1 0 0 → e' 6 = .lst 2 (d.list.map encSetting) → e' 7 = .int .i64 d.list.length → e' 8 = .int .i64 ((k : Int) + 1) → hh[0]? = some [[.lst 1 (d.regs.map encI), .lst 2 (d.list.map encSetting)]] → @nextP (d.list.length - k) ⟨e', hh⟩ ⟨fun m s => ∃ (k : Nat) (last : Int), k ≤ d.list.length ∧ m = d.list.length - k ∧ (-1 ≤ last ∧ last ≤ 3) ∧ (k = 0 → last = -1) ∧ (∀ h : k - 1 < d.list.length, 0 < k → last = d.list[k - 1].reg ∧ 0 ≤ last) ∧ listOk last (d.list.drop k) = listOk (-1) d.list ∧ s.e 1 = .ptr 0 1 0 0 ∧ s.e 6 = .lst 2 (d.list.map encSetting) ∧ s.e 7 = .int .i64 d.list.length ∧ s.e 8 = .int .i64 k ∧ s.h[0]? = some [[.lst 1 (d.regs.map encI), .lst 2 (d.list.map encSetting)]]⟩ := fun e' hh a0 a1 a2 a3 a4 a5 => by
      have hw : within d.list[k].reg (last + 1) 3 = true := by simp [within]; omega
      rw [hw, hs2.2, Bool.true_and, Bool.true_and] at hrec
      exact nextP_intro (d.list.length - (k + 1)) (by omega) ⟨k + 1, d.list[k].reg, by omega, rfl, by omega, fun q => absurd q (by omega), fun _ _ => ⟨rfl, hs2.1.1⟩, hrec, a1, a2, a3, a4, a5⟩
    simp (disch := omega) only [go_sem, e1, e6, e7, e8, hi]
    refine condP_dec (fun hk0 => ?_) (fun hk0 => ?_)
    · have hp1 := hpos (by omega) (by omega)
      have hk1 : ((k : Int) - 1).toNat = k - 1 := by omega
      simp (disch := omega) only [go_sem, hi, e1, e6, e7, e8, h0, h0', encSetting, List.getElem?_map, splice, hk1, hp1.1.symm]
      refine condP_dec (fun hle => ?_) (fun hle => ?_)
      · simp (disch := omega) only [go_sem, hi, e1, e6, e7, e8]
        have hw : within d.list[k].reg (last + 1) 3 = false := by simp [within]; omega
        have hf : listOk (-1) d.list = false := bad (by rw [hw, Bool.false_and])
        rw [show devOk d = false by simp [devOk, hf]]
      · simp (disch := omega) only [go_sem, hi, e1, e6, e7, e8]
        exact nxt _ _ (by omega) (by simp (disch := omega) only [go_sem, hi, e1, e6, e7, e8]) (by simp (disch := omega) only [go_sem, hi, e1, e6, e7, e8]) (by simp (disch := omega) only [go_sem, hi, e1, e6, e7, e8]) (by simp (disch := omega) only [go_sem, hi, e1, e6, e7, e8] <;> rfl) (h0' _)
    · have hl := hz (by omega)
      simp (disch := omega) only [go_sem, hi, e1, e6, e7, e8]
      exact nxt _ _ (by omega) (by simp (disch := omega) only [go_sem, hi, e1, e6, e7, e8]) (by simp (disch := omega) only [go_sem, hi, e1, e6, e7, e8]) (by simp (disch := omega) only [go_sem, hi, e1, e6, e7, e8]) (by simp (disch := omega) only [go_sem, hi, e1, e6, e7, e8] <;> rfl) (h0' _)
  · rw [List.drop_eq_nil_of_le (by omega)] at hrec
    have hl1 : listOk (-1) d.list = true := by rw [← hrec]; rfl
    simp (disch := omega) only [go_sem, e1, e6, e7, e8, h0]
    refine condP_dec (fun h4 => ?_) (fun h4 => ?_)
    · simp (disch := omega) only [go_sem, e1, e6, e7, e8, h0]
      refine CP.go (values_c d.regs hr) rfl (refs_int1 _ _) ?_
      simp (disch := omega) only [go_sem, e1, e6, e7, e8, h0]
      simp [devOk, h4, hl1]
    · simp (disch := omega) only [go_sem, e1, e6, e7, e8, h0]
      simp only [devOk, decide_eq_false h4, Bool.false_and]
theorem cloneG_f (xs : List Setting) (hx : xs.length ≤ 1048576) : F Try.prog 47 [.lst 2 (xs.map encSetting)] (.lst 2 (xs.map encSetting)) := by
  refine C.by mixed (cfn_ok Try.func47 ok47) rfl ?_
  simp (disch := omega) only [s47, go_sem]
  have ha : appendH [[]] 2 16 (.own 0 2 0 0 0) (.lst 2 (xs.map encSetting)) = some (.own 0 2 0 (0 + xs.length) (0 + xs.length), ([[]] : Heap).set 0 ([] ++ xs.map encSetting)) := appendH_n (n := 0) (m := xs.length) (b := []) rfl rfl (by simp [elemsOf]) (by simp) (by omega)
  have hfin : ∃ ids : List Nat, ids.Nodup ∧ OwnsR [xs.map encSetting] (.lst 2 (xs.map encSetting)) (.own 0 2 0 xs.length xs.length) ids := ⟨[0], by simp, Owns.own_flat rfl (by simp) (flat_G _)⟩
  cases xs with
  | nil =>
    simp only [isnilP, List.map_nil, List.isEmpty_nil, if_true]
    intro b
    cases b
    · simp (disch := omega) only [go_sem, ha]
      exact hfin
    · simp (disch := omega) only [go_sem]
      exact ⟨[], by simp, Owns.nils_⟩
  | cons x xs =>
    simp only [isnilP, List.map_cons, List.isEmpty_cons, Bool.false_eq_true, if_false]
    simp only [List.map_cons] at ha
    simp (disch := omega) only [go_sem, ha]
    exact hfin
theorem Sep.retD {h : Heap} {d : Device} {vr vl : V} {L : List It} (S : Sep h (.v (.lst 1 (d.regs.map encI)) vr :: .v (.lst 2 (d.list.map encSetting)) vl :: L)) : ∃ ids : List Nat, ids.Nodup ∧ OwnsR h (.agg (encDevice d)) (.agg [vr, vl]) ids := by
  have A1 := Sep.cons2 (fun es e => by cases e) (Sep.sw (Sep.l0 (S.sw)))
  exact (Sep.cons2 (fun es e => by cases e) (Sep.sw A1)).a.ret
theorem Sep.openD {h : Heap} {d : Device} {r : V} {L : List It} (S : Sep h (.v (.agg (encDevice d)) r :: L)) : ∃ vr vl, r = .agg [vr, vl] ∧ Sep h (.v (.lst 1 (d.regs.map encI)) vr :: .v (.lst 2 (d.list.map encSetting)) vl :: L) := by
  obtain ⟨_, rfl, S1⟩ := sep_agg.1 S
  obtain ⟨vr, _, rfl, S2⟩ := sep_ll.1 S1
  obtain ⟨vl, _, rfl, S4⟩ := sep_ll.1 S2
  obtain ⟨rfl, S6⟩ := sep_l0.1 S4
  refine ⟨vr, vl, rfl, S6.perm ?_⟩
  simp only [List.append_assoc, List.cons_append, List.nil_append]
  exact List.perm_append_comm
end Go.Av
