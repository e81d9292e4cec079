/- The row of the law FnExactIsRestored, out of its pure statement and the walk: for every input the law returns true and each argument reads behind the call as it read before. No condition. -/
import Derived.Test.YtmifaijfogipgaaRows
import Derived.Test.YtmifaijfogipgaaQFnExactIsRestored3
import Derived.Test.YtmifaijfogipgaaOpen
import Derived.Test.YtmifaijfogipgaaVFnExactIsRestored
import Derived.WalkKit
import Derived.ProofKit
import Derived.OpenShut
import Derived.ShutString
import Derived.ChangeOld
import Derived.Below
import Derived.SizedLaws
import Derived.KernelRfl
import Derived.Carry
namespace Go.Proofs.Ytmifaijfogipgaa.fnExactIsRestored
open Go.ChangeShapes Go.WideShapes Go.ChangeAt Go.RowKit Go.Proofs.YtmifaijfogipgaaW.PrintWords
set_option linter.unusedVariables false
set_option linter.unusedSimpArgs false
theorem own : ownKnob Try.prog.godebug = none := by kernel_rfl
theorem laidOut : laidOutB Try.prog = true := by kernel_rfl
set_option maxRecDepth 100000 in
theorem lifted (os : Os) (started : os.Started) (H : Type) (enc : TypeId × Value → H) :
    ReturnsInHanded {} Try.checked os 7 .any (Rows.fnExactIsRestoredSpec.pre6 enc Try.prog Try.f7 Rows.fnExactIsRestoredRow.domain false) (Rows.fnExactIsRestoredSpec.post enc Try.prog Try.f7 false true false false) := by
  refine returnsInHanded_of_change_sized (C := Try.checked) own started (by kernel_rfl) Try.func7
    (ChangeSpec.witness6 (enc := enc) (C := Try.checked) false ⟨#[], #[.agg #[.slice none 0 0, .slice none 0 0]], []⟩ 12 (by kernel_rfl) (by kernel_rfl) (by kernel_rfl) (by kernel_rfl)) ?_
  intro W base args ds gs before hval0 hW hcnd hsz0 _
  have hval : ∀ (j : Nat) t v, Try.f7.params[j]? = some t → args[j]? = some v → Value.okWide Try.prog W .any base t v := hval0
  have hW' := hW
  obtain ⟨p, q, hA0, hV, rfl, hfz, hnd⟩ := hW
  have hA : DataW.TrodAll enc Try.prog W 0 (fun _ => true) true Try.f7.params.toList args.toList ds p := hA0
  rw [Try.params7] at hA hval
  obtain ⟨v0, vs0, d0, ds0, p0, q0, hargs, rfl, rfl, h0, r0⟩ := trodAll_cons hA
  obtain ⟨rfl, rfl, rfl⟩ := trodAll_nil r0
  obtain rfl : args = #[v0] := by cases args; simp_all
  obtain ⟨rfl, rfl⟩ := trodVars_none hV
  clear hA0 hval0 hsz0
  have k0 := h0
  have lt0 : ∀ x ∈ p0, x.block < W.heap.size := by obtain ⟨m, hm⟩ := k0; exact DataW.trod_lt m _ _ _ hm
  obtain ⟨cs0, ⟨l0_0, l0_1⟩, rfl, ⟨_, _, rfl, ⟨A0_0, c0_0, rfl, hc0_0, hr0_0⟩, ⟨A0_1, c0_1, rfl, hc0_1, hr0_1⟩⟩, ⟨g_l0_0, g_l0_1⟩⟩ := Open.agg_arg Try.underlying33 (enc := enc) (Open.Opens.struct (tot := 2) Try.underlying33 (by kernel_rfl) (Open.OpensF.cons (mid := 1) rfl (by kernel_rfl) (Open.Opens.slice (E := 3) Try.underlying24 (by kernel_rfl) (Open.Opens.int Try.underlying3)) (Open.OpensF.last rfl (by kernel_rfl) (Open.Opens.slice (E := 59) Try.underlying31 (by kernel_rfl) (Open.Opens.iso (f := fun x : QFnExactIsRestored.S59 => (x.f0, x.f1)) (fun x => (⟨x.1, x.2⟩ : QFnExactIsRestored.S59)) (fun _ => rfl) (Open.Opens.struct (tot := 2) Try.underlying59 (by kernel_rfl) (Open.OpensF.cons (mid := 1) rfl (by kernel_rfl) (Open.Opens.int Try.underlying3) (Open.OpensF.last rfl (by kernel_rfl) (Open.Opens.int Try.underlying3))))))))) (hval 0 33 v0 rfl rfl) h0
  obtain ⟨k, hk⟩ := Pure.FnExactIsRestored l0_0 l0_1 g_l0_0 g_l0_1
  refine (QFnExactIsRestored.laws_FnExactIsRestored.calls k A0_0 c0_0 l0_0 A0_1 c0_1 l0_1 true W hr0_0 hc0_0 hr0_1 hc0_1 ⟨rfl⟩ hk).mono fun e W' ⟨he, bel⟩ => ?_
  subst he
  exact ⟨_, rfl, _, _, _, [], _, [], hW', trodAll_mk1 (shut_bool Try.underlying4 _), (trodAll_cons_mk (Below.trod laidOut (by kernel_rfl) (of_decide_eq_true (by kernel_rfl)) k0 bel lt0) trodAll_mk0), rfl, bel.frame _, fun h => by cases h⟩
theorem over : Rows.fnExactIsRestoredRow.holds Try.pinned (OpenSpec.ofChange Rows.fnExactIsRestoredSpec) :=
  OpenClaim.holds_of_wide 7 Try.f7 rfl rfl rfl rfl rfl rfl rfl ⟨rfl, rfl, rfl, rfl, rfl⟩ rfl rfl rfl rfl rfl (by kernel_rfl) Try.func7 (by kernel_rfl)
    (of_decide_eq_true (by kernel_rfl)) (by unfold Func.isWrapper; first | (rw [if_pos (by decide +kernel)]; kernel_rfl) | (rw [if_neg (by decide +kernel)]; exact ⟨rfl, rfl⟩))
    (fun os started H enc _ => lifted os started H enc)
theorem proved : Rows.FnExactIsRestoredSaid := over
#print axioms proved
end Go.Proofs.Ytmifaijfogipgaa.fnExactIsRestored
namespace Go.Proofs.Ytmifaijfogipgaa
/-- The row, under a short name, for the claim. -/
theorem fnExactIsRestored_holds : Rows.FnExactIsRestoredSaid := fnExactIsRestored.proved
end Go.Proofs.Ytmifaijfogipgaa
