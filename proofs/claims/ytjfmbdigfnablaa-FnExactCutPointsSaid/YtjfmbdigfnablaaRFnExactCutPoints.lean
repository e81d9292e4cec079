/- The row of the law FnExactCutPoints, out of its pure statement and the walk: for every input the law returns true and each argument reads behind the call as it read before. No condition. -/
import Derived.Test.YtjfmbdigfnablaaRows
import Derived.Test.YtjfmbdigfnablaaQFnExactCutPoints3
import Derived.Test.YtjfmbdigfnablaaOpen
import Derived.Test.YtjfmbdigfnablaaVFnExactCutPoints
import Derived.WalkKit
import Derived.ProofKit
import Derived.OpenShut
import Derived.ShutString
import Derived.ChangeOld
import Derived.Below
import Derived.SizedLaws
import Derived.KernelRfl
import Derived.Carry
namespace Go.Proofs.Ytjfmbdigfnablaa.fnExactCutPoints
open Go.ChangeShapes Go.WideShapes Go.ChangeAt Go.RowKit Go.Proofs.YtjfmbdigfnablaaW.PrintWords
set_option linter.unusedVariables false
set_option linter.unusedSimpArgs false
theorem own : ownKnob Try.prog.godebug = none := by kernel_rfl
theorem laidOut : laidOutB Try.prog = true := by kernel_rfl
set_option maxRecDepth 100000 in
theorem lifted (os : Os) (started : os.Started) (H : Type) (enc : TypeId × Value → H) :
    ReturnsInHanded {} Try.checked os 3 .any (Rows.fnExactCutPointsSpec.pre6 enc Try.prog Try.f3 Rows.fnExactCutPointsRow.domain false) (Rows.fnExactCutPointsSpec.post enc Try.prog Try.f3 false true false false) := by
  refine returnsInHanded_of_change_sized (C := Try.checked) own started (by kernel_rfl) Try.func3
    (ChangeSpec.witness6 (enc := enc) (C := Try.checked) false ⟨#[], #[.slice none 0 0], []⟩ 12 (by kernel_rfl) (by kernel_rfl) (by kernel_rfl) (by kernel_rfl)) ?_
  intro W base args ds gs before hval0 hW hcnd hsz0 _
  have hval : ∀ (j : Nat) t v, Try.f3.params[j]? = some t → args[j]? = some v → Value.okWide Try.prog W .any base t v := hval0
  have hW' := hW
  obtain ⟨p, q, hA0, hV, rfl, hfz, hnd⟩ := hW
  have hA : DataW.TrodAll enc Try.prog W 0 (fun _ => true) true Try.f3.params.toList args.toList ds p := hA0
  rw [Try.params3] at hA hval
  obtain ⟨v0, vs0, d0, ds0, p0, q0, hargs, rfl, rfl, h0, r0⟩ := trodAll_cons hA
  obtain ⟨rfl, rfl, rfl⟩ := trodAll_nil r0
  obtain rfl : args = #[v0] := by cases args; simp_all
  obtain ⟨rfl, rfl⟩ := trodVars_none hV
  clear hA0 hval0 hsz0
  have k0 := h0
  have lt0 : ∀ x ∈ p0, x.block < W.heap.size := by obtain ⟨m, hm⟩ := k0; exact DataW.trod_lt m _ _ _ hm
  obtain ⟨A0, c0, l0, rfl, hc0, hr0, g_l0⟩ := Open.slice_arg (E := 52) Try.underlying22 (enc := enc) (Open.Opens.slice (E := 52) Try.underlying22 (by kernel_rfl) (Open.Opens.iso (f := fun x : QFnExactCutPoints.S52 => (x.f0, x.f1, x.f2, x.f3)) (fun x => (⟨x.1, x.2.1, x.2.2.1, x.2.2.2⟩ : QFnExactCutPoints.S52)) (fun _ => rfl) (Open.Opens.struct (tot := 6) Try.underlying52 (by kernel_rfl) (Open.OpensF.cons (mid := 1) rfl (by kernel_rfl) (Open.Opens.int Try.underlying3) (Open.OpensF.cons (mid := 2) rfl (by kernel_rfl) (Open.Opens.int Try.underlying3) (Open.OpensF.cons (mid := 3) rfl (by kernel_rfl) (Open.Opens.int Try.underlying3) (Open.OpensF.last rfl (by kernel_rfl) (Open.Opens.iso (f := fun x : QFnExactCutPoints.S50 => (x.f0, x.f1, x.f2)) (fun x => (⟨x.1, x.2.1, x.2.2⟩ : QFnExactCutPoints.S50)) (fun _ => rfl) (Open.Opens.struct (tot := 3) Try.underlying50 (by kernel_rfl) (Open.OpensF.cons (mid := 1) rfl (by kernel_rfl) (Open.Opens.int Try.underlying3) (Open.OpensF.cons (mid := 2) rfl (by kernel_rfl) (Open.Opens.int Try.underlying3) (Open.OpensF.last rfl (by kernel_rfl) (Open.Opens.int Try.underlying3))))))))))))) (hval 0 22 v0 rfl rfl) h0
  obtain ⟨k, hk⟩ := Pure.FnExactCutPoints l0 g_l0
  refine (QFnExactCutPoints.laws_FnExactCutPoints.calls k A0 c0 l0 true W hr0 hc0 ⟨rfl⟩ hk).mono fun e W' ⟨he, bel⟩ => ?_
  subst he
  exact ⟨_, rfl, _, _, _, [], _, [], hW', trodAll_mk1 (shut_bool Try.underlying4 _), (trodAll_cons_mk (Below.trod laidOut (by kernel_rfl) (of_decide_eq_true (by kernel_rfl)) k0 bel lt0) trodAll_mk0), rfl, bel.frame _, fun h => by cases h⟩
theorem over : Rows.fnExactCutPointsRow.holds Try.pinned (OpenSpec.ofChange Rows.fnExactCutPointsSpec) :=
  OpenClaim.holds_of_wide 3 Try.f3 rfl rfl rfl rfl rfl rfl rfl ⟨rfl, rfl, rfl, rfl, rfl⟩ rfl rfl rfl rfl rfl (by kernel_rfl) Try.func3 (by kernel_rfl)
    (of_decide_eq_true (by kernel_rfl)) (by unfold Func.isWrapper; first | (rw [if_pos (by decide +kernel)]; kernel_rfl) | (rw [if_neg (by decide +kernel)]; exact ⟨rfl, rfl⟩))
    (fun os started H enc _ => lifted os started H enc)
theorem proved : Rows.FnExactCutPointsSaid := over
#print axioms proved
end Go.Proofs.Ytjfmbdigfnablaa.fnExactCutPoints
namespace Go.Proofs.Ytjfmbdigfnablaa
/-- The row, under a short name, for the claim. -/
theorem fnExactCutPoints_holds : Rows.FnExactCutPointsSaid := fnExactCutPoints.proved
end Go.Proofs.Ytjfmbdigfnablaa
