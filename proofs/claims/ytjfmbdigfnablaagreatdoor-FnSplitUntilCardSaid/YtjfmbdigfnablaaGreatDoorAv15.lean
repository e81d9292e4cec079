/- Code told by computation: what a function's code is told as, and that it is so. No condition. -/
import Derived.Test.YtjfmbdigfnablaaGreatDoorAv14
import Derived.KernelRfl
namespace Go.Av
open Go.RowKit
set_option linter.unusedVariables false
set_option linter.unusedSimpArgs false

def cguard (ops : Array Oper) : Option (Nat × Bool) → Option (Option (Nat × Bool))
  | none => some none
  | some (j, want) => ((ops[j]?).bind (·.dst)).map fun g => some (g, want)
def dstOk (n : Nat) : Option Nat → Bool
  | none => true
  | some d => decide (d < n)
/-- The slots whose variable is made and stored whole in this region. -/
def storedTo (d : Nat) : Oper → Bool
  | { dst := none, op := .store _ (.tmp t) _, guard := none, .. } => t == d
  | _ => false
def cplain (P : Program) (n : Nat) (ops : Array Oper) (o : Oper) : Option SOper :=
  (cop P o.op).bind fun so => (cguard ops o.guard).bind fun g => if so.isHole = false ∧ dstOk n o.dst = true then some { dst := o.dst, op := so, guard := g } else none
def choleA (P : Program) (n : Nat) (ops : Array Oper) (o : Oper) : Option SOper :=
  match o.op, o.dst, o.guard with
  | .alloc t, some d, none => if ops.any (storedTo d) && decide (d < n) then (zeroT P t).map fun zs => { dst := some d, op := .hole zs.length } else none
  | _, _, _ => none
def cbirth (P : Program) (n : Nat) (holes : List Nat) (o : Oper) : Option SOper :=
  match o.op, o.dst, o.guard with
  | .store t (.tmp d) x, none, none => if holes.contains d && decide (d < n) then (szT P t).bind fun sz => (copd x).map fun x' => { dst := some d, op := .birth sz (.tmp d) x' } else none
  | _, _, _ => none
def holesOf (ops : Array Oper) : List Nat := ops.toList.filterMap fun o => match o.op, o.dst, o.guard with
  | .alloc _, some d, none => if ops.any (storedTo d) then some d else none
  | _, _, _ => none
def coper (P : Program) (n : Nat) (ops : Array Oper) (holes : List Nat) (o : Oper) : Option SOper :=
  match choleA P n ops o with
  | some so => some so
  | none => match cbirth P n holes o with
    | some so => some so
    | none => cplain P n ops o

theorem cplain_ok {P : Program} {n i : Nat} {ops : Array Oper} {o : Oper} {so : SOper} (hi : ops[i]? = some o) (h : cplain P n ops o = some so) : OkAt P ops n i so := by
  simp only [cplain, Option.bind_eq_some_iff] at h
  obtain ⟨sop, h1, g, h2, h3⟩ := h
  split at h3
  · rename_i hc
    cases h3
    refine ⟨o, hi, ?_, .inl ⟨rfl, fun d hd => ?_, h1, hc.1⟩⟩
    · cases hg : o.guard with
      | none => rw [hg] at h2; simp [cguard] at h2; exact h2.symm
      | some gw =>
        obtain ⟨j, want⟩ := gw
        rw [hg] at h2
        simp only [cguard, Option.map_eq_some_iff] at h2
        obtain ⟨g', hg', rfl⟩ := h2
        exact ⟨g', hg', rfl⟩
    · have := hc.2
      simp only at hd
      rw [hd] at this
      simpa [dstOk] using this
  · cases h3
theorem choleA_ok {P : Program} {n i : Nat} {ops : Array Oper} {o : Oper} {so : SOper} (hi : ops[i]? = some o) (h : choleA P n ops o = some so) : OkAt P ops n i so := by
  unfold choleA at h
  split at h
  · rename_i t d h1 h2 h3
    split at h
    · rename_i hc
      obtain ⟨zs, hz, rfl⟩ := Option.map_eq_some_iff.1 h
      simp only [Bool.and_eq_true, decide_eq_true_eq] at hc
      exact ⟨o, hi, by rw [h3], .inr (.inl ⟨t, d, zs, h1, h2, rfl, hc.2, hz, rfl, rfl⟩)⟩
    · cases h
  · cases h
theorem cbirth_ok {P : Program} {n i : Nat} {ops : Array Oper} {holes : List Nat} {o : Oper} {so : SOper} (hi : ops[i]? = some o) (h : cbirth P n holes o = some so) : OkAt P ops n i so := by
  unfold cbirth at h
  split at h
  · rename_i t d x h1 h2 h3
    split at h
    · rename_i hc
      simp only [Option.bind_eq_some_iff, Option.map_eq_some_iff] at h
      obtain ⟨sz, hsz, x', hx, rfl⟩ := h
      simp only [Bool.and_eq_true, decide_eq_true_eq] at hc
      exact ⟨o, hi, by rw [h3], .inr (.inr ⟨t, d, x, x', sz, h1, h2, rfl, hc.2, hsz, hx, rfl, rfl⟩)⟩
    · cases h
  · cases h
theorem coper_ok {P : Program} {n i : Nat} {ops : Array Oper} {holes : List Nat} {o : Oper} {so : SOper} (hi : ops[i]? = some o) (h : coper P n ops holes o = some so) : OkAt P ops n i so := by
  unfold coper at h
  split at h
  · rename_i so' h1; cases h; exact choleA_ok hi h1
  · split at h
    · rename_i so' h1; cases h; exact cbirth_ok hi h1
    · exact cplain_ok hi h

def creg (P : Program) (n : Nat) (ops : Array Oper) : Option (List SOper) := ops.toList.mapM (coper P n ops (holesOf ops))
theorem creg_ok {P : Program} {n : Nat} {ops : Array Oper} {os : List SOper} (h : creg P n ops = some os) : RegOk P n ops false (.reg os) := by
  obtain ⟨h1, h2⟩ := mapM_get h
  refine .text (by rw [← h1]; simp) fun i so hi => ?_
  have hlt : i < ops.size := by have := (List.getElem?_eq_some_iff.1 hi).1; rw [← h1] at this; simpa using this
  have hg : ops[i]? = some ops[i] := Array.getElem?_eq_getElem hlt
  exact coper_ok hg (h2 i _ so (by rw [Array.getElem?_toList]; exact hg) hi)
end Go.Av
