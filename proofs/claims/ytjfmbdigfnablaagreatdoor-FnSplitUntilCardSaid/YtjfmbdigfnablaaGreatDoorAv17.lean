/- A whole function told by computation. No condition. -/
import Derived.Test.YtjfmbdigfnablaaGreatDoorAv16
namespace Go.Av
open Go.RowKit
set_option linter.unusedVariables false
set_option linter.unusedSimpArgs false

def ccode (P : Program) (n : Nat) : Code → Option SCode
  | .skip => some .skip
  | .region _ ops false => (creg P n ops).map .reg
  | .region _ ops true => (cdraw P n ops).map .regD
  | .seq a b => (ccode P n a).bind fun a' => (ccode P n b).map (.seq a')
  | .cond c a b => (copd c).bind fun c' => (ccode P n a).bind fun a' => (ccode P n b).map (.cond c' a')
  | .block id a => (ccode P n a).map (.block id)
  | .loop a => (ccode P n a).map .loop
  | .exit id => some (.exit id)
  | .ret => some .ret
  | _ => none
theorem ccode_ok {P : Program} {n : Nat} : ∀ {c : Code} {sc : SCode}, ccode P n c = some sc → CodeOk P n c sc
  | .skip, sc, h => by cases h; exact .skip
  | .region id ops false, sc, h => by
    obtain ⟨os, h1, rfl⟩ := Option.map_eq_some_iff.1 h
    exact .region (creg_ok h1)
  | .region id ops true, sc, h => by
    obtain ⟨os, h1, rfl⟩ := Option.map_eq_some_iff.1 h
    exact .region (cdraw_ok h1)
  | .seq a b, sc, h => by
    simp only [ccode, Option.bind_eq_some_iff, Option.map_eq_some_iff] at h
    obtain ⟨a', h1, b', h2, rfl⟩ := h
    exact .seq (ccode_ok h1) (ccode_ok h2)
  | .cond c a b, sc, h => by
    simp only [ccode, Option.bind_eq_some_iff, Option.map_eq_some_iff] at h
    obtain ⟨c', h0, a', h1, b', h2, rfl⟩ := h
    exact .cond h0 (ccode_ok h1) (ccode_ok h2)
  | .block id a, sc, h => by
    obtain ⟨a', h1, rfl⟩ := Option.map_eq_some_iff.1 h
    exact .block (ccode_ok h1)
  | .loop a, sc, h => by
    obtain ⟨a', h1, rfl⟩ := Option.map_eq_some_iff.1 h
    exact .loop (ccode_ok h1)
  | .exit id, sc, h => by cases h; exact .exit
  | .ret, sc, h => by cases h; exact .ret
  | .rangeFunc .., sc, h => by cases h
  | .scope _, sc, h => by cases h
  | .label _, sc, h => by cases h
  | .goto _, sc, h => by cases h
  | .refuse _, sc, h => by cases h

def cres (P : Program) : ResultVar → Option SRes
  | .tmp t => some (.tmp t)
  | .cell t ty => (agT P ty).bind fun ag => (szT P ty).map (.cell t ag)
theorem cres_ok {P : Program} {x : ResultVar} {y : SRes} (h : cres P x = some y) : ResOk P x y := by
  cases x with
  | tmp t => cases h; exact .tmp
  | cell t ty =>
    simp only [cres, Option.bind_eq_some_iff, Option.map_eq_some_iff] at h
    obtain ⟨ag, h1, sz, h2, rfl⟩ := h
    exact .cell h1 h2
def cfn (P : Program) (fn : Func) (nargs : Nat) : Option (SCode × List SRes) :=
  if (fn.name == "runtime.NumGoroutine") = false ∧ nargs ≤ fn.ntmps then
    fn.body.bind fun c => (ccode P fn.ntmps c).bind fun sc => (fn.results.toList.mapM (cres P)).map fun rs => (sc, rs)
  else none
theorem cfn_ok {P : Program} {f : FuncId} {fn : Func} {nargs : Nat} {sc : SCode} {rs : List SRes} (hf : P.funcs[f]? = some fn) (h : cfn P fn nargs = some (sc, rs)) : FnOk P f nargs sc rs := by
  unfold cfn at h
  split at h
  · rename_i hc
    simp only [Option.bind_eq_some_iff, Option.map_eq_some_iff, Prod.mk.injEq] at h
    obtain ⟨c, h1, sc', h2, rs', h3, rfl, rfl⟩ := h
    obtain ⟨m1, m2⟩ := mapM_get h3
    exact ⟨fn, c, hf, h1, hc.1, hc.2, ccode_ok h2, m1, fun k x y hx hy => cres_ok (m2 k x y hx hy)⟩
  · cases h
end Go.Av
