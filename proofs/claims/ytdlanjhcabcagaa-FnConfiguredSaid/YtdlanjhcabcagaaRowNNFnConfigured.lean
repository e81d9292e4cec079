/- The row of the law FnConfigured: for every input the law returns true and each argument reads behind the call as it read before. No condition. -/
import Derived.Test.YtdlanjhcabcagaaRows
import Derived.Test.YtdlanjhcabcagaaD7CfdLaw
import Derived.Test.YtdlanjhcabcagaaAv24
import Derived.WalkKit
import Derived.ProofKit
import Derived.OpenShut
import Derived.ShutString
import Derived.ChangeOld
import Derived.Below
import Derived.SizedLaws
import Derived.KernelRfl
import Derived.Carry
namespace Go.Proofs.Ytdlanjhcabcagaa.fnConfigured
open Go.ChangeShapes Go.WideShapes Go.ChangeAt Go.RowKit Go.Av
set_option linter.unusedVariables false
set_option linter.unusedSimpArgs false
theorem own : ownKnob Try.prog.godebug = none := by kernel_rfl
theorem laidOut : laidOutB Try.prog = true := by kernel_rfl
set_option maxRecDepth 100000 in
theorem lifted (os : Os) (started : os.Started) (H : Type) (enc : TypeId × Value → H) :
    ReturnsInHanded {} Try.checked os 3 .any (Rows.fnConfiguredSpec.pre6 enc Try.prog Try.f3 Rows.fnConfiguredRow.domain false) (Rows.fnConfiguredSpec.post enc Try.prog Try.f3 false true false false) := by
  refine returnsInHanded_of_change_sized (C := Try.checked) own started (by kernel_rfl) Try.func3
    (ChangeSpec.witness6 (enc := enc) (C := Try.checked) false ⟨#[], #[.slice none 0 0], []⟩ 12 (by kernel_rfl) (by kernel_rfl) (by kernel_rfl) (by kernel_rfl)) ?_
  intro W base args ds gs before hval0 hW hcnd hsz0 _
  have hval : ∀ (j : Nat) t v, Try.f3.params[j]? = some t → args[j]? = some v → Value.okWide Try.prog W .any base t v := hval0
  have hW' := hW
  obtain ⟨p, q, hA0, hV, rfl, hfz, hnd⟩ := hW
  have hA : DataW.TrodAll enc Try.prog W 0 (fun _ => true) true Try.f3.params.toList args.toList ds p := hA0
  rw [Try.params3] at hA hval
  obtain ⟨v0, vs0, d0, ds0, p0, q0, hargs, rfl, rfl, h0, r0⟩ := trodAll_cons hA
  obtain ⟨rfl, rfl, rfl⟩ := trodAll_nil r0
  obtain rfl : args = #[v0] := by cases args; simp_all
  obtain ⟨rfl, rfl⟩ := trodVars_none hV
  clear hA0 hval0 hsz0
  have k0 := h0
  have lt0 : ∀ x ∈ p0, x.block < W.heap.size := by obtain ⟨m, hm⟩ := k0; exact DataW.trod_lt m _ _ _ hm
  obtain ⟨a0, hr0⟩ := sliceV_arg (e := fun xs : List Int => V.lst 1 (xs.map Go.Av.encB)) Try.underlying22 (OpensV.slice (el := 5) (sz := 1) (e := Go.Av.encB) Try.underlying22 (by kernel_rfl) (by decide) (fun _ => rfl) (OpensV.int Try.underlying5)) (hval 0 22 v0 rfl rfl) h0
  refine (CP.run (cargs := [v0]) (cfd_law a0 (by have := lst_bound hr0; simpa using this)) rfl (fun j c v hc hv => ?_)).mono fun e W' ⟨he, bel⟩ => ?_
  · cases j with
    | zero => simp at hc hv; subst hc hv; exact hr0
    | succ j =>
      simp at hc
  subst he
  exact ⟨_, rfl, _, _, _, [], _, [], hW', trodAll_mk1 (shut_bool Try.underlying4 _), (trodAll_cons_mk (Below.trod laidOut (by kernel_rfl) (of_decide_eq_true (by kernel_rfl)) k0 bel lt0) trodAll_mk0), rfl, bel.frame _, fun h => by cases h⟩
theorem c1 : Rows.fnConfiguredRow.wf (OpenSpec.ofChange Rows.fnConfiguredSpec) = true := by kernel_rfl
theorem c2 : (Rows.fnConfiguredRow.inPlace == Try.prog.inPlace 3) = true := by kernel_rfl
theorem c3 : (Rows.fnConfiguredRow.unfollowed == Try.prog.unfollowed 3) = true := by kernel_rfl
theorem c4 : (Rows.fnConfiguredRow.recurses == Try.prog.recurses 3) = true := by kernel_rfl
theorem c5 : (Rows.fnConfiguredRow.named == Try.prog.varsNamed 3) = true := by kernel_rfl
theorem closed : joinedFacts Try.prog 3 Try.f3 Rows.fnConfiguredSpec Rows.fnConfiguredRow = true := by
  unfold joinedFacts
  rw [c1, c2, c3, c4, c5]
  kernel_rfl
theorem over : Rows.fnConfiguredRow.holds Try.pinned (OpenSpec.ofChange Rows.fnConfiguredSpec) :=
  OpenClaim.holds_of_wide 3 Try.f3 rfl rfl rfl rfl rfl rfl rfl ⟨rfl, rfl, rfl, rfl, rfl⟩ rfl rfl rfl rfl rfl (by kernel_rfl) Try.func3 closed
    (of_decide_eq_true (by kernel_rfl)) (by unfold Func.isWrapper; first | (rw [if_pos (by decide +kernel)]; kernel_rfl) | (rw [if_neg (by decide +kernel)]; exact ⟨rfl, rfl⟩))
    (fun os started H enc _ => lifted os started H enc)
theorem proved : Rows.FnConfiguredSaid := over
#print axioms proved
end Go.Proofs.Ytdlanjhcabcagaa.fnConfigured
namespace Go.Proofs.Ytdlanjhcabcagaa
/-- The row, under a short name, for the claim. -/
theorem fnConfigured_holds : Rows.FnConfiguredSaid := fnConfigured.proved
end Go.Proofs.Ytdlanjhcabcagaa
