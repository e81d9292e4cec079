/- The row of the law FnExactSaveSome: for every input the law returns true and each argument reads behind the call as it read before. No condition. -/
import Derived.Test.YtpjcclgpkicadaaRows
import Derived.Test.YtpjcclgpkicadaaJ6SaveLaw
import Derived.Test.YtpjcclgpkicadaaAv24
import Derived.WalkKit
import Derived.ProofKit
import Derived.OpenShut
import Derived.ShutString
import Derived.ChangeOld
import Derived.Below
import Derived.SizedLaws
import Derived.KernelRfl
import Derived.Carry
namespace Go.Proofs.Ytpjcclgpkicadaa.fnExactSaveSome
open Go.ChangeShapes Go.WideShapes Go.ChangeAt Go.RowKit Go.Av
set_option linter.unusedVariables false
set_option linter.unusedSimpArgs false
theorem own : ownKnob Try.prog.godebug = none := by kernel_rfl
theorem laidOut : laidOutB Try.prog = true := by kernel_rfl
set_option maxRecDepth 100000 in
theorem lifted (os : Os) (started : os.Started) (H : Type) (enc : TypeId × Value → H) :
    ReturnsInHanded {} Try.checked os 9 .any (Rows.fnExactSaveSomeSpec.pre6 enc Try.prog Try.f9 Rows.fnExactSaveSomeRow.domain false) (Rows.fnExactSaveSomeSpec.post enc Try.prog Try.f9 false true false false) := by
  refine returnsInHanded_of_change_sized (C := Try.checked) own started (by kernel_rfl) Try.func9
    (ChangeSpec.witness6 (enc := enc) (C := Try.checked) false ⟨#[], #[.agg #[.int .i64 0, .slice none 0 0, .int .i64 0, .int .i64 0, .slice none 0 0, .int .i64 0], .slice none 0 0, .int .i64 0], []⟩ 12 (by kernel_rfl) (by kernel_rfl) (by kernel_rfl) (by kernel_rfl)) ?_
  intro W base args ds gs before hval0 hW hcnd hsz0 _
  have hval : ∀ (j : Nat) t v, Try.f9.params[j]? = some t → args[j]? = some v → Value.okWide Try.prog W .any base t v := hval0
  have hW' := hW
  obtain ⟨p, q, hA0, hV, rfl, hfz, hnd⟩ := hW
  have hA : DataW.TrodAll enc Try.prog W 0 (fun _ => true) true Try.f9.params.toList args.toList ds p := hA0
  rw [Try.params9] at hA hval
  obtain ⟨v0, vs0, d0, ds0, p0, q0, hargs, rfl, rfl, h0, r0⟩ := trodAll_cons hA
  obtain ⟨v1, vs1, d1, ds1, p1, q1, rfl, rfl, rfl, h1, r1⟩ := trodAll_cons r0
  obtain ⟨v2, vs2, d2, ds2, p2, q2, rfl, rfl, rfl, h2, r2⟩ := trodAll_cons r1
  obtain ⟨rfl, rfl, rfl⟩ := trodAll_nil r2
  obtain rfl : args = #[v0, v1, v2] := by cases args; simp_all
  obtain ⟨rfl, rfl⟩ := trodVars_none hV
  clear hA0 hval0 hsz0
  have k0 := h0
  have lt0 : ∀ x ∈ p0, x.block < W.heap.size := by obtain ⟨m, hm⟩ := k0; exact DataW.trod_lt m _ _ _ hm
  obtain ⟨a0, hr0⟩ := structV_arg (e := encPair) Try.underlying68 (OpensV.iso (e' := encPair) (OpensV.struct (tot := 6) Try.underlying68 (by kernel_rfl) (OpensVF.cons (mid := 3) rfl (by kernel_rfl) (OpensV.iso (e' := encSlot) (OpensV.struct (tot := 3) Try.underlying66 (by kernel_rfl) (OpensVF.cons (mid := 1) rfl (by kernel_rfl) (OpensV.int Try.underlying3) (OpensVF.cons (mid := 2) rfl (by kernel_rfl) (OpensV.slice (el := 3) (sz := 1) (e := encI) Try.underlying24 (by kernel_rfl) (by decide) (fun _ => rfl) (OpensV.int Try.underlying3)) (OpensVF.last rfl (by kernel_rfl) (OpensV.int Try.underlying3))))) (fun p : Int × (List Int) × Int => (⟨p.1, p.2.1, p.2.2⟩ : Av.Slot)) (fun _ => rfl)) (OpensVF.last rfl (by kernel_rfl) (OpensV.iso (e' := encSlot) (OpensV.struct (tot := 3) Try.underlying66 (by kernel_rfl) (OpensVF.cons (mid := 1) rfl (by kernel_rfl) (OpensV.int Try.underlying3) (OpensVF.cons (mid := 2) rfl (by kernel_rfl) (OpensV.slice (el := 3) (sz := 1) (e := encI) Try.underlying24 (by kernel_rfl) (by decide) (fun _ => rfl) (OpensV.int Try.underlying3)) (OpensVF.last rfl (by kernel_rfl) (OpensV.int Try.underlying3))))) (fun p : Int × (List Int) × Int => (⟨p.1, p.2.1, p.2.2⟩ : Av.Slot)) (fun _ => rfl))))) (fun p : Av.Slot × Av.Slot => (⟨p.1, p.2⟩ : Av.Pair)) (fun _ => rfl)) (hval 0 68 v0 rfl rfl) h0
  have k1 := h1
  have lt1 : ∀ x ∈ p1, x.block < W.heap.size := by obtain ⟨m, hm⟩ := k1; exact DataW.trod_lt m _ _ _ hm
  obtain ⟨a1, hr1⟩ := sliceV_arg (e := fun xs : List Int => V.lst 1 (xs.map encI)) Try.underlying24 (OpensV.slice (el := 3) (sz := 1) (e := encI) Try.underlying24 (by kernel_rfl) (by decide) (fun _ => rfl) (OpensV.int Try.underlying3)) (hval 1 24 v1 rfl rfl) h1
  have k2 := h2
  have lt2 : ∀ x ∈ p2, x.block < W.heap.size := by obtain ⟨m, hm⟩ := k2; exact DataW.trod_lt m _ _ _ hm
  obtain ⟨a2, hr2⟩ := intV_arg Try.underlying3 (hval 2 3 v2 rfl rfl) h2
  refine (CP.run (cargs := [v0, v1, v2]) (law_c a0 a1 a2 (by obtain ⟨c, hc⟩ := Rep.field (j := 1) hr0 rfl; have := lst_bound hc; simpa using this) (by obtain ⟨c, hc⟩ := Rep.field (j := 4) hr0 rfl; have := lst_bound hc; simpa using this) (by have := lst_bound hr1; simpa using this)) rfl (fun j c v hc hv => ?_)).mono fun e W' ⟨he, bel⟩ => ?_
  · cases j with
    | zero => simp at hc hv; subst hc hv; exact hr0
    | succ j =>
      cases j with
      | zero => simp at hc hv; subst hc hv; exact hr1
      | succ j =>
        cases j with
        | zero => simp at hc hv; subst hc hv; exact hr2
        | succ j =>
          simp at hc
  subst he
  exact ⟨_, rfl, _, _, _, [], _, [], hW', trodAll_mk1 (shut_bool Try.underlying4 _), (trodAll_cons_mk (Below.trod laidOut (by kernel_rfl) (of_decide_eq_true (by kernel_rfl)) k0 bel lt0) (trodAll_cons_mk (Below.trod laidOut (by kernel_rfl) (of_decide_eq_true (by kernel_rfl)) k1 bel lt1) (trodAll_cons_mk (Below.trod laidOut (by kernel_rfl) (of_decide_eq_true (by kernel_rfl)) k2 bel lt2) trodAll_mk0))), rfl, bel.frame _, fun h => by cases h⟩
theorem over : Rows.fnExactSaveSomeRow.holds Try.pinned (OpenSpec.ofChange Rows.fnExactSaveSomeSpec) :=
  OpenClaim.holds_of_wide 9 Try.f9 rfl rfl rfl rfl rfl rfl rfl ⟨rfl, rfl, rfl, rfl, rfl⟩ rfl rfl rfl rfl rfl (by kernel_rfl) Try.func9 (by kernel_rfl)
    (of_decide_eq_true (by kernel_rfl)) (by unfold Func.isWrapper; first | (rw [if_pos (by decide +kernel)]; kernel_rfl) | (rw [if_neg (by decide +kernel)]; exact ⟨rfl, rfl⟩))
    (fun os started H enc _ => lifted os started H enc)
theorem proved : Rows.FnExactSaveSomeSaid := over
#print axioms proved
end Go.Proofs.Ytpjcclgpkicadaa.fnExactSaveSome
namespace Go.Proofs.Ytpjcclgpkicadaa
/-- The row, under a short name, for the claim. -/
theorem fnExactSaveSome_holds : Rows.FnExactSaveSomeSaid := fnExactSaveSome.proved
end Go.Proofs.Ytpjcclgpkicadaa
