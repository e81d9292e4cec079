/- Every operation of the machine that is told as an abstract one comes to what that one tells. No condition. -/
import Derived.Test.YtjfmbdigfnablaaGreatDoorAv10
namespace Go.Av
open Go.RowKit
set_option linter.unusedVariables false
set_option linter.unusedSimpArgs false

section
variable {P : Program} {S : Nat → Prop} {ρ : Rho} {h : Heap} {w : World}

theorem slice_run {t e : TypeId} {sz : Nat} {c : Value} {x v : V} {lo hi : Option Value} {alo ahi : Option V} (ht : P.underlying t = some (.slice e)) (hsz : szT P e = some sz) (hr : Rep S ρ w c x)
    (hlo : ∀ a, alo = some a → ∃ b, lo = some b ∧ Rep S ρ w b a) (hlo0 : alo = none → lo = none) (hhi : ∀ a, ahi = some a → ∃ b, hi = some b ∧ Rep S ρ w b a) (hhi0 : ahi = none → hi = none)
    (hv : sliceV sz x alo ahi = some v) : ∃ u, (Instr.sliceAt t c lo hi none).run P w = .ok u w ∧ Rep S ρ w u v := by
  unfold sliceV at hv
  have bounds : ∀ (n cap : Nat) (f : Nat → Nat → V), n ≤ cap → cutV alo ahi n f = some v → ∃ l u : Nat, l ≤ u ∧ u ≤ n ∧ v = f l u ∧ (Instr.sliceBounds true n cap lo hi none).run P w = .ok (l, u, cap) w := by
    intro n cap f hnc hb
    unfold cutV at hb
    cases alo with
    | none =>
      have := hlo0 rfl; subst this
      cases ahi with
      | none =>
        have := hhi0 rfl; subst this
        simp only [Option.getD_none, Int.le_refl, true_and, Int.natCast_nonneg, and_true, if_true] at hb
        cases hb
        exact ⟨0, n, by omega, by omega, rfl, by simp [Instr.sliceBounds]⟩
      | some b =>
        obtain ⟨cb, rfl, hrb⟩ := hhi b rfl
        simp only [Option.getD_none, Option.getD_some] at hb
        cases b <;> simp only [reduceCtorEq] at hb
        rename_i k u
        cases hrb
        split at hb
        · rename_i hc
          cases hb
          refine ⟨0, u.toNat, by omega, by omega, rfl, ?_⟩
          have h1 : u ≤ (cap : Int) := by omega
          have h0 : 0 ≤ u := by omega
          simp [Instr.sliceBounds, Instr.sliceBound, asIntOf, h0, h1]
        · cases hb
    | some a =>
      obtain ⟨ca, rfl, hra⟩ := hlo a rfl
      cases ahi with
      | none =>
        have := hhi0 rfl; subst this
        simp only [Option.getD_none, Option.getD_some] at hb
        cases a <;> simp only [reduceCtorEq] at hb
        rename_i k l
        cases hra
        split at hb
        · rename_i hc
          cases hb
          refine ⟨l.toNat, n, by omega, by omega, by simp, ?_⟩
          have h1 : l ≤ (n : Int) := by omega
          simp [Instr.sliceBounds, Instr.sliceBound, asIntOf, hc.1, h1]
        · cases hb
      | some b =>
        obtain ⟨cb, rfl, hrb⟩ := hhi b rfl
        simp only [Option.getD_none, Option.getD_some] at hb
        cases a <;> first | (cases b <;> simp only [reduceCtorEq] at hb; done) | skip
        rename_i k l
        cases b <;> simp only [reduceCtorEq] at hb
        rename_i k' u
        cases hra; cases hrb
        split at hb
        · rename_i hc
          cases hb
          refine ⟨l.toNat, u.toNat, by omega, by omega, rfl, ?_⟩
          have h1 : u ≤ (cap : Int) := by omega
          have h0 : 0 ≤ u := by omega
          have h2 : l ≤ ((u.toNat : Nat) : Int) := by omega
          simp [Instr.sliceBounds, Instr.sliceBound, asIntOf, h0, h1, h2, hc.1]
          omega
        · cases hb
  have out : ∀ (a : Option Addr) (n cap l u : Nat), (Instr.sliceBounds true n cap lo hi none).run P w = .ok (l, u, cap) w → (Instr.sliceAt t (.slice a n cap) lo hi none).run P w = .ok (.slice (if cap = l then a else a.map (·.add (l * sz))) (u - l) (cap - l)) w := by
    intro a n cap l u hb
    simp [Instr.sliceAt, run_underlying ht, Instr.slice, hb, run_sizeOf hsz]
  cases x <;> simp only [reduceCtorEq] at hv
  case lst s xs =>
    split at hv
    · rename_i hs
      subst hs
      cases hr with
      | @lst a n cap _ _ cf hn hc hb hs ha h1 h2 =>
        subst hn
        obtain ⟨l, u, e1, e2, rfl, e4⟩ := bounds _ cap _ hc hv
        refine ⟨_, out a _ cap l u e4, ?_⟩
        have hlen : ((xs.take u).drop l).length = u - l := by simp; omega
        refine .lst (fun i j => cf (l + i) j) (by omega) (by omega) (by omega) (fun e he => hs e (List.mem_of_mem_take (List.mem_of_mem_drop he))) (fun h0 => ?_) (fun ad i e j v ea hi hj => ?_) (fun i e j v hi hj => ?_)
        · obtain ⟨ad, rfl, hS⟩ := ha (by omega)
          rw [if_neg (by omega)]
          exact ⟨_, rfl, by rw [add_block]; exact hS⟩
        · have hil : i < u - l := by have := (List.getElem?_eq_some_iff.1 hi).1; omega
          rw [List.getElem?_drop, List.getElem?_take, if_pos (by omega)] at hi
          obtain ⟨ad0, rfl, _⟩ := ha (by omega)
          rw [if_neg (by omega)] at ea
          cases ea
          rw [add_add', ← Nat.add_assoc, ← Nat.add_mul]
          exact h1 ad0 _ e j v rfl hi hj
        · have hil : i < u - l := by have := (List.getElem?_eq_some_iff.1 hi).1; omega
          rw [List.getElem?_drop, List.getElem?_take, if_pos (by omega)] at hi
          exact h2 _ e j v hi hj
    · cases hv
  case own id s off ln tot =>
    split at hv
    · rename_i hs
      subst hs
      cases hr with
      | @own a _ cc _ _ _ _ l' hρ hsl ht2 hl2 hc2 h1 h2 =>
        obtain ⟨l, u, e1, e2, rfl, e4⟩ := bounds _ cc _ hc2 hv
        refine ⟨_, out a _ cc l u e4, .own l' hρ hsl ht2 (by omega) (by omega) (fun h0 => ?_) (fun h3 h4 => ?_)⟩
        · obtain ⟨g, hg, rfl⟩ := h1 (by omega)
          refine ⟨g, hg, ?_⟩
          rw [if_neg (by omega)]
          show some (Addr.add _ _) = _
          rw [add_lit, Nat.add_mul]
        · obtain ⟨h5, h6⟩ := h2 (by omega) (by omega)
          have hl0 : l = 0 := by omega
          subst hl0
          refine ⟨by omega, fun g hg => ?_⟩
          rw [h6 g hg]
          split
          · rfl
          · show some (Addr.add _ _) = _
            rw [Nat.zero_mul]; rfl
      | @ownS a _ cc _ _ _ _ l' hρ ht2 hc2 ha =>
        obtain ⟨l, u, e1, e2, rfl, e4⟩ := bounds _ cc _ hc2 hv
        refine ⟨_, out a _ cc l u e4, .ownS l' hρ ht2 (by omega) (fun h0 => ?_)⟩
        have := ha (by omega)
        split
        · exact this
        · cases a <;> simp at this ⊢
    · cases hv
  case nils =>
    cases hr
    obtain ⟨l, u, e1, e2, rfl, e4⟩ := bounds 0 0 _ (Nat.le_refl _) hv
    have hl0 : l = 0 := by omega
    have hu0 : u = 0 := by omega
    subst hl0 hu0
    exact ⟨_, out none 0 0 0 0 e4, .nils⟩
end

theorem opd_rep {S : Nat → Prop} {ρ : Rho} {w : World} {a : Act} {s : St} (ht : ∀ t, Rep S ρ w (a.tmps.getD t undef) (s.e t)) {x : Operand} {y : Opd} (h : copd x = some y) : Rep S ρ w (a.eval x) (s.ev y) := by
  cases x with
  | tmp t => simp only [copd, Option.some.injEq] at h; subst h; exact ht t
  | const v =>
    simp only [copd, Option.map_eq_some_iff] at h
    obtain ⟨u, hu, rfl⟩ := h
    exact (cvV_rep hu S ρ w).1
  | func f => simp only [copd, Option.some.injEq] at h; subst h; exact .fn rfl (fun j c v hc => by simp at hc)
  | global g => simp [copd] at h
end Go.Av
