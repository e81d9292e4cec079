/- The row of the law FnExactJitRun: for every input the law returns true and each argument reads behind the call as it read before. No condition. -/
import Derived.Test.YtpjcclgpkicadaaRows
import Derived.Test.YtpjcclgpkicadaaJ6JitLaw
import Derived.Test.YtpjcclgpkicadaaAv24
import Derived.WalkKit
import Derived.ProofKit
import Derived.OpenShut
import Derived.ShutString
import Derived.ChangeOld
import Derived.Below
import Derived.SizedLaws
import Derived.KernelRfl
import Derived.Carry
namespace Go.Proofs.Ytpjcclgpkicadaa.fnExactJitRun
open Go.ChangeShapes Go.WideShapes Go.ChangeAt Go.RowKit Go.Av
set_option linter.unusedVariables false
set_option linter.unusedSimpArgs false
theorem own : ownKnob Try.prog.godebug = none := by kernel_rfl
theorem laidOut : laidOutB Try.prog = true := by kernel_rfl
set_option maxRecDepth 100000 in
theorem lifted (os : Os) (started : os.Started) (H : Type) (enc : TypeId × Value → H) :
    ReturnsInHanded {} Try.checked os 11 .any (Rows.fnExactJitRunSpec.pre6 enc Try.prog Try.f11 Rows.fnExactJitRunRow.domain false) (Rows.fnExactJitRunSpec.post enc Try.prog Try.f11 false true false false) := by
  refine returnsInHanded_of_change_sized (C := Try.checked) own started (by kernel_rfl) Try.func11
    (ChangeSpec.witness6 (enc := enc) (C := Try.checked) false ⟨#[], #[.slice none 0 0, .slice none 0 0], []⟩ 12 (by kernel_rfl) (by kernel_rfl) (by kernel_rfl) (by kernel_rfl)) ?_
  intro W base args ds gs before hval0 hW hcnd hsz0 _
  have hval : ∀ (j : Nat) t v, Try.f11.params[j]? = some t → args[j]? = some v → Value.okWide Try.prog W .any base t v := hval0
  have hW' := hW
  obtain ⟨p, q, hA0, hV, rfl, hfz, hnd⟩ := hW
  have hA : DataW.TrodAll enc Try.prog W 0 (fun _ => true) true Try.f11.params.toList args.toList ds p := hA0
  rw [Try.params11] at hA hval
  obtain ⟨v0, vs0, d0, ds0, p0, q0, hargs, rfl, rfl, h0, r0⟩ := trodAll_cons hA
  obtain ⟨v1, vs1, d1, ds1, p1, q1, rfl, rfl, rfl, h1, r1⟩ := trodAll_cons r0
  obtain ⟨rfl, rfl, rfl⟩ := trodAll_nil r1
  obtain rfl : args = #[v0, v1] := by cases args; simp_all
  obtain ⟨rfl, rfl⟩ := trodVars_none hV
  clear hA0 hval0 hsz0
  have k0 := h0
  have lt0 : ∀ x ∈ p0, x.block < W.heap.size := by obtain ⟨m, hm⟩ := k0; exact DataW.trod_lt m _ _ _ hm
  obtain ⟨a0, hr0⟩ := sliceV_arg (e := fun xs : List Av.Instr => V.lst 3 (xs.map encInstr)) Try.underlying85 (OpensV.slice (el := 135) (sz := 3) (e := encInstr) Try.underlying85 (by kernel_rfl) (by decide) (fun _ => rfl) (OpensV.iso (e' := encInstr) (OpensV.struct (tot := 3) Try.underlying135 (by kernel_rfl) (OpensVF.cons (mid := 1) rfl (by kernel_rfl) (OpensV.int Try.underlying3) (OpensVF.cons (mid := 2) rfl (by kernel_rfl) (OpensV.int Try.underlying3) (OpensVF.last rfl (by kernel_rfl) (OpensV.int Try.underlying3))))) (fun p : Int × Int × Int => (⟨p.1, p.2.1, p.2.2⟩ : Av.Instr)) (fun _ => rfl))) (hval 0 85 v0 rfl rfl) h0
  have k1 := h1
  have lt1 : ∀ x ∈ p1, x.block < W.heap.size := by obtain ⟨m, hm⟩ := k1; exact DataW.trod_lt m _ _ _ hm
  obtain ⟨a1, hr1⟩ := sliceV_arg (e := fun xs : List Av.Shot => V.lst 2 (xs.map encShot)) Try.underlying86 (OpensV.slice (el := 137) (sz := 2) (e := encShot) Try.underlying86 (by kernel_rfl) (by decide) (fun _ => rfl) (OpensV.iso (e' := encShot) (OpensV.struct (tot := 2) Try.underlying137 (by kernel_rfl) (OpensVF.cons (mid := 1) rfl (by kernel_rfl) (OpensV.int Try.underlying3) (OpensVF.last rfl (by kernel_rfl) (OpensV.int Try.underlying3)))) (fun p : Int × Int => (⟨p.1, p.2⟩ : Av.Shot)) (fun _ => rfl))) (hval 1 86 v1 rfl rfl) h1
  refine (CP.run (cargs := [v0, v1]) (law_c a0 a1 (by have := lst_bound hr0; simpa using this) (by have := lst_bound hr1; simpa using this)) rfl (fun j c v hc hv => ?_)).mono fun e W' ⟨he, bel⟩ => ?_
  · cases j with
    | zero => simp at hc hv; subst hc hv; exact hr0
    | succ j =>
      cases j with
      | zero => simp at hc hv; subst hc hv; exact hr1
      | succ j =>
        simp at hc
  subst he
  exact ⟨_, rfl, _, _, _, [], _, [], hW', trodAll_mk1 (shut_bool Try.underlying4 _), (trodAll_cons_mk (Below.trod laidOut (by kernel_rfl) (of_decide_eq_true (by kernel_rfl)) k0 bel lt0) (trodAll_cons_mk (Below.trod laidOut (by kernel_rfl) (of_decide_eq_true (by kernel_rfl)) k1 bel lt1) trodAll_mk0)), rfl, bel.frame _, fun h => by cases h⟩
theorem over : Rows.fnExactJitRunRow.holds Try.pinned (OpenSpec.ofChange Rows.fnExactJitRunSpec) :=
  OpenClaim.holds_of_wide 11 Try.f11 rfl rfl rfl rfl rfl rfl rfl ⟨rfl, rfl, rfl, rfl, rfl⟩ rfl rfl rfl rfl rfl (by kernel_rfl) Try.func11 (by kernel_rfl)
    (of_decide_eq_true (by kernel_rfl)) (by unfold Func.isWrapper; first | (rw [if_pos (by decide +kernel)]; kernel_rfl) | (rw [if_neg (by decide +kernel)]; exact ⟨rfl, rfl⟩))
    (fun os started H enc _ => lifted os started H enc)
theorem proved : Rows.FnExactJitRunSaid := over
#print axioms proved
end Go.Proofs.Ytpjcclgpkicadaa.fnExactJitRun
namespace Go.Proofs.Ytpjcclgpkicadaa
/-- The row, under a short name, for the claim. -/
theorem fnExactJitRun_holds : Rows.FnExactJitRunSaid := fnExactJitRun.proved
end Go.Proofs.Ytpjcclgpkicadaa
