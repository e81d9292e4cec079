/- The row of the law FnJitWhole: for every input the law returns true and each argument reads behind the call as it read before. No condition. -/
import Derived.Test.YtpjcclgpkicadaaRows
import Derived.Test.YtpjcclgpkicadaaJ6JitW
import Derived.Test.YtpjcclgpkicadaaAv24
import Derived.WalkKit
import Derived.ProofKit
import Derived.OpenShut
import Derived.ShutString
import Derived.ChangeOld
import Derived.Below
import Derived.SizedLaws
import Derived.KernelRfl
import Derived.Carry
namespace Go.Proofs.Ytpjcclgpkicadaa.fnJitWhole
open Go.ChangeShapes Go.WideShapes Go.ChangeAt Go.RowKit Go.Av
set_option linter.unusedVariables false
set_option linter.unusedSimpArgs false
theorem own : ownKnob Try.prog.godebug = none := by kernel_rfl
theorem laidOut : laidOutB Try.prog = true := by kernel_rfl
set_option maxRecDepth 100000 in
theorem lifted (os : Os) (started : os.Started) (H : Type) (enc : TypeId × Value → H) :
    ReturnsInHanded {} Try.checked os 6 .any (Rows.fnJitWholeSpec.pre6 enc Try.prog Try.f6 Rows.fnJitWholeRow.domain false) (Rows.fnJitWholeSpec.post enc Try.prog Try.f6 false true false false) := by
  refine returnsInHanded_of_change_sized (C := Try.checked) own started (by kernel_rfl) Try.func6
    (ChangeSpec.witness6 (enc := enc) (C := Try.checked) false ⟨#[], #[.slice none 0 0], []⟩ 12 (by kernel_rfl) (by kernel_rfl) (by kernel_rfl) (by kernel_rfl)) ?_
  intro W base args ds gs before hval0 hW hcnd hsz0 _
  have hval : ∀ (j : Nat) t v, Try.f6.params[j]? = some t → args[j]? = some v → Value.okWide Try.prog W .any base t v := hval0
  have hW' := hW
  obtain ⟨p, q, hA0, hV, rfl, hfz, hnd⟩ := hW
  have hA : DataW.TrodAll enc Try.prog W 0 (fun _ => true) true Try.f6.params.toList args.toList ds p := hA0
  rw [Try.params6] at hA hval
  obtain ⟨v0, vs0, d0, ds0, p0, q0, hargs, rfl, rfl, h0, r0⟩ := trodAll_cons hA
  obtain ⟨rfl, rfl, rfl⟩ := trodAll_nil r0
  obtain rfl : args = #[v0] := by cases args; simp_all
  obtain ⟨rfl, rfl⟩ := trodVars_none hV
  clear hA0 hval0 hsz0
  have k0 := h0
  have lt0 : ∀ x ∈ p0, x.block < W.heap.size := by obtain ⟨m, hm⟩ := k0; exact DataW.trod_lt m _ _ _ hm
  obtain ⟨a0, hr0⟩ := sliceV_arg (e := fun xs : List Int => V.lst 1 (xs.map encB)) Try.underlying22 (OpensV.slice (el := 5) (sz := 1) (e := encB) Try.underlying22 (by kernel_rfl) (by decide) (fun _ => rfl) (OpensV.int Try.underlying5)) (hval 0 22 v0 rfl rfl) h0
  refine (CP.run (cargs := [v0]) (wholeLaw_c a0 (by have := lst_bound hr0; simpa using this)) rfl (fun j c v hc hv => ?_)).mono fun e W' ⟨he, bel⟩ => ?_
  · cases j with
    | zero => simp at hc hv; subst hc hv; exact hr0
    | succ j =>
      simp at hc
  subst he
  exact ⟨_, rfl, _, _, _, [], _, [], hW', trodAll_mk1 (shut_bool Try.underlying4 _), (trodAll_cons_mk (Below.trod laidOut (by kernel_rfl) (of_decide_eq_true (by kernel_rfl)) k0 bel lt0) trodAll_mk0), rfl, bel.frame _, fun h => by cases h⟩
theorem over : Rows.fnJitWholeRow.holds Try.pinned (OpenSpec.ofChange Rows.fnJitWholeSpec) :=
  OpenClaim.holds_of_wide 6 Try.f6 rfl rfl rfl rfl rfl rfl rfl ⟨rfl, rfl, rfl, rfl, rfl⟩ rfl rfl rfl rfl rfl (by kernel_rfl) Try.func6 (by kernel_rfl)
    (of_decide_eq_true (by kernel_rfl)) (by unfold Func.isWrapper; first | (rw [if_pos (by decide +kernel)]; kernel_rfl) | (rw [if_neg (by decide +kernel)]; exact ⟨rfl, rfl⟩))
    (fun os started H enc _ => lifted os started H enc)
theorem proved : Rows.FnJitWholeSaid := over
#print axioms proved
end Go.Proofs.Ytpjcclgpkicadaa.fnJitWhole
namespace Go.Proofs.Ytpjcclgpkicadaa
/-- The row, under a short name, for the claim. -/
theorem fnJitWhole_holds : Rows.FnJitWholeSaid := fnJitWhole.proved
end Go.Proofs.Ytpjcclgpkicadaa
