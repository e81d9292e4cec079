/- The row of the law FnExactStateAfter, out of its pure statement and the walk: for every input the law returns true and each argument reads behind the call as it read before. No condition. -/
import Derived.Test.YtboidohbhoehgaaRows
import Derived.Test.YtboidohbhoehgaaQFnExactStateAfter4
import Derived.Test.YtboidohbhoehgaaOpen
import Derived.Test.YtboidohbhoehgaaVFnExactStateAfter
import Derived.WalkKit
import Derived.ProofKit
import Derived.OpenShut
import Derived.ShutString
import Derived.ChangeOld
import Derived.Below
import Derived.SizedLaws
import Derived.KernelRfl
import Derived.Carry
namespace Go.Proofs.Ytboidohbhoehgaa.fnExactStateAfter
open Go.ChangeShapes Go.WideShapes Go.ChangeAt Go.RowKit Go.Proofs.YtboidohbhoehgaaW.PrintWords
set_option linter.unusedVariables false
set_option linter.unusedSimpArgs false
theorem own : ownKnob Try.prog.godebug = none := by kernel_rfl
theorem laidOut : laidOutB Try.prog = true := by kernel_rfl
set_option maxRecDepth 100000 in
theorem lifted (os : Os) (started : os.Started) (H : Type) (enc : TypeId × Value → H) :
    ReturnsInHanded {} Try.checked os 7 .any (Rows.fnExactStateAfterSpec.pre6 enc Try.prog Try.f7 Rows.fnExactStateAfterRow.domain false) (Rows.fnExactStateAfterSpec.post enc Try.prog Try.f7 false true false false) := by
  refine returnsInHanded_of_change_sized (C := Try.checked) own started (by kernel_rfl) Try.func7
    (ChangeSpec.witness6 (enc := enc) (C := Try.checked) false ⟨#[], #[.slice none 0 0, .int .i64 0], []⟩ 12 (by kernel_rfl) (by kernel_rfl) (by kernel_rfl) (by kernel_rfl)) ?_
  intro W base args ds gs before hval0 hW hcnd hsz0 _
  have hval : ∀ (j : Nat) t v, Try.f7.params[j]? = some t → args[j]? = some v → Value.okWide Try.prog W .any base t v := hval0
  have hW' := hW
  obtain ⟨p, q, hA0, hV, rfl, hfz, hnd⟩ := hW
  have hA : DataW.TrodAll enc Try.prog W 0 (fun _ => true) true Try.f7.params.toList args.toList ds p := hA0
  rw [Try.params7] at hA hval
  obtain ⟨v0, vs0, d0, ds0, p0, q0, hargs, rfl, rfl, h0, r0⟩ := trodAll_cons hA
  obtain ⟨v1, vs1, d1, ds1, p1, q1, rfl, rfl, rfl, h1, r1⟩ := trodAll_cons r0
  obtain ⟨rfl, rfl, rfl⟩ := trodAll_nil r1
  obtain rfl : args = #[v0, v1] := by cases args; simp_all
  obtain ⟨rfl, rfl⟩ := trodVars_none hV
  clear hA0 hval0 hsz0
  have k0 := h0
  have lt0 : ∀ x ∈ p0, x.block < W.heap.size := by obtain ⟨m, hm⟩ := k0; exact DataW.trod_lt m _ _ _ hm
  obtain ⟨A0, c0, l0, rfl, hc0, hr0, g_l0⟩ := Open.slice_arg (E := 96) Try.underlying52 (enc := enc) (Open.Opens.slice (E := 96) Try.underlying52 (by kernel_rfl) (Open.Opens.iso (f := fun x : QFnExactStateAfter.S96 => (x.f0, x.f1, x.f2)) (fun x => (⟨x.1, x.2.1, x.2.2⟩ : QFnExactStateAfter.S96)) (fun _ => rfl) (Open.Opens.struct (tot := 3) Try.underlying96 (by kernel_rfl) (Open.OpensF.cons (mid := 1) rfl (by kernel_rfl) (Open.Opens.int Try.underlying3) (Open.OpensF.cons (mid := 2) rfl (by kernel_rfl) (Open.Opens.int Try.underlying3) (Open.OpensF.last rfl (by kernel_rfl) (Open.Opens.int Try.underlying3))))))) (hval 0 52 v0 rfl rfl) h0
  have k1 := h1
  have lt1 : ∀ x ∈ p1, x.block < W.heap.size := by obtain ⟨m, hm⟩ := k1; exact DataW.trod_lt m _ _ _ hm
  obtain ⟨a1, rfl, rfl, rfl, g_a1⟩ := open_int Try.underlying3 (hval 1 3 v1 rfl rfl) h1
  obtain ⟨k, hk⟩ := Pure.FnExactStateAfter l0 a1 g_l0 g_a1
  refine (QFnExactStateAfter.laws_FnExactStateAfter.calls k A0 c0 l0 a1 true W hr0 hc0 ⟨rfl⟩ hk).mono fun e W' ⟨he, bel⟩ => ?_
  subst he
  exact ⟨_, rfl, _, _, _, [], _, [], hW', trodAll_mk1 (shut_bool Try.underlying4 _), (trodAll_cons_mk (Below.trod laidOut (by kernel_rfl) (of_decide_eq_true (by kernel_rfl)) k0 bel lt0) (trodAll_cons_mk (shut_int Try.underlying3 g_a1) trodAll_mk0)), rfl, bel.frame _, fun h => by cases h⟩
theorem over : Rows.fnExactStateAfterRow.holds Try.pinned (OpenSpec.ofChange Rows.fnExactStateAfterSpec) :=
  OpenClaim.holds_of_wide 7 Try.f7 rfl rfl rfl rfl rfl rfl rfl ⟨rfl, rfl, rfl, rfl, rfl⟩ rfl rfl rfl rfl rfl (by kernel_rfl) Try.func7 (by kernel_rfl)
    (of_decide_eq_true (by kernel_rfl)) (by unfold Func.isWrapper; first | (rw [if_pos (by decide +kernel)]; kernel_rfl) | (rw [if_neg (by decide +kernel)]; exact ⟨rfl, rfl⟩))
    (fun os started H enc _ => lifted os started H enc)
theorem proved : Rows.FnExactStateAfterSaid := over
#print axioms proved
end Go.Proofs.Ytboidohbhoehgaa.fnExactStateAfter
namespace Go.Proofs.Ytboidohbhoehgaa
/-- The row, under a short name, for the claim. -/
theorem fnExactStateAfter_holds : Rows.FnExactStateAfterSaid := fnExactStateAfter.proved
end Go.Proofs.Ytboidohbhoehgaa
