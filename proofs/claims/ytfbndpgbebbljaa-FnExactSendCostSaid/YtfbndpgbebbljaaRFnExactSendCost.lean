/- The row of the law FnExactSendCost, out of its pure statement and the walk: for every input the law returns true and each argument reads behind the call as it read before. No condition. -/
import Derived.Test.YtfbndpgbebbljaaRows
import Derived.Test.YtfbndpgbebbljaaQFnExactSendCost1
import Derived.Test.YtfbndpgbebbljaaOpen
import Derived.Test.YtfbndpgbebbljaaVFnExactSendCost
import Derived.WalkKit
import Derived.ProofKit
import Derived.OpenShut
import Derived.ShutString
import Derived.ChangeOld
import Derived.Below
import Derived.SizedLaws
import Derived.KernelRfl
import Derived.Carry
namespace Go.Proofs.Ytfbndpgbebbljaa.fnExactSendCost
open Go.ChangeShapes Go.WideShapes Go.ChangeAt Go.RowKit Go.Proofs.YtfbndpgbebbljaaW.PrintWords
set_option linter.unusedVariables false
set_option linter.unusedSimpArgs false
theorem own : ownKnob Try.prog.godebug = none := by kernel_rfl
theorem laidOut : laidOutB Try.prog = true := by kernel_rfl
set_option maxRecDepth 100000 in
theorem lifted (os : Os) (started : os.Started) (H : Type) (enc : TypeId × Value → H) :
    ReturnsInHanded {} Try.checked os 5 .any (Rows.fnExactSendCostSpec.pre6 enc Try.prog Try.f5 Rows.fnExactSendCostRow.domain false) (Rows.fnExactSendCostSpec.post enc Try.prog Try.f5 false true false false) := by
  refine returnsInHanded_of_change_sized (C := Try.checked) own started (by kernel_rfl) Try.func5
    (ChangeSpec.witness6 (enc := enc) (C := Try.checked) false ⟨#[], #[.agg #[.int .i64 0, .int .i64 0]], []⟩ 12 (by kernel_rfl) (by kernel_rfl) (by kernel_rfl) (by kernel_rfl)) ?_
  intro W base args ds gs before hval0 hW hcnd hsz0 _
  have hval : ∀ (j : Nat) t v, Try.f5.params[j]? = some t → args[j]? = some v → Value.okWide Try.prog W .any base t v := hval0
  have hW' := hW
  obtain ⟨p, q, hA0, hV, rfl, hfz, hnd⟩ := hW
  have hA : DataW.TrodAll enc Try.prog W 0 (fun _ => true) true Try.f5.params.toList args.toList ds p := hA0
  rw [Try.params5] at hA hval
  obtain ⟨v0, vs0, d0, ds0, p0, q0, hargs, rfl, rfl, h0, r0⟩ := trodAll_cons hA
  obtain ⟨rfl, rfl, rfl⟩ := trodAll_nil r0
  obtain rfl : args = #[v0] := by cases args; simp_all
  obtain ⟨rfl, rfl⟩ := trodVars_none hV
  clear hA0 hval0 hsz0
  have k0 := h0
  have lt0 : ∀ x ∈ p0, x.block < W.heap.size := by obtain ⟨m, hm⟩ := k0; exact DataW.trod_lt m _ _ _ hm
  obtain ⟨cs0, ⟨a0_0, a0_1⟩, rfl, ⟨_, _, rfl, rfl, rfl⟩, ⟨g_a0_0, g_a0_1⟩⟩ := Open.agg_arg Try.underlying28 (enc := enc) (Open.Opens.struct (tot := 2) Try.underlying28 (by kernel_rfl) (Open.OpensF.cons (mid := 1) rfl (by kernel_rfl) (Open.Opens.int Try.underlying3) (Open.OpensF.last rfl (by kernel_rfl) (Open.Opens.int Try.underlying3)))) (hval 0 28 v0 rfl rfl) h0
  obtain ⟨k, hk⟩ := Pure.FnExactSendCost a0_0 a0_1 g_a0_0 g_a0_1
  refine (QFnExactSendCost.laws_FnExactSendCost.calls k a0_0 a0_1 true W  ⟨rfl⟩ hk).mono fun e W' ⟨he, bel⟩ => ?_
  subst he
  exact ⟨_, rfl, _, _, _, [], _, [], hW', trodAll_mk1 (shut_bool Try.underlying4 _), (trodAll_cons_mk (Below.trod laidOut (by kernel_rfl) (of_decide_eq_true (by kernel_rfl)) k0 bel lt0) trodAll_mk0), rfl, bel.frame _, fun h => by cases h⟩
theorem over : Rows.fnExactSendCostRow.holds Try.pinned (OpenSpec.ofChange Rows.fnExactSendCostSpec) :=
  OpenClaim.holds_of_wide 5 Try.f5 rfl rfl rfl rfl rfl rfl rfl ⟨rfl, rfl, rfl, rfl, rfl⟩ rfl rfl rfl rfl rfl (by kernel_rfl) Try.func5 (by kernel_rfl)
    (of_decide_eq_true (by kernel_rfl)) (by unfold Func.isWrapper; first | (rw [if_pos (by decide +kernel)]; kernel_rfl) | (rw [if_neg (by decide +kernel)]; exact ⟨rfl, rfl⟩))
    (fun os started H enc _ => lifted os started H enc)
theorem proved : Rows.FnExactSendCostSaid := over
#print axioms proved
end Go.Proofs.Ytfbndpgbebbljaa.fnExactSendCost
namespace Go.Proofs.Ytfbndpgbebbljaa
/-- The row, under a short name, for the claim. -/
theorem fnExactSendCost_holds : Rows.FnExactSendCostSaid := fnExactSendCost.proved
end Go.Proofs.Ytfbndpgbebbljaa
