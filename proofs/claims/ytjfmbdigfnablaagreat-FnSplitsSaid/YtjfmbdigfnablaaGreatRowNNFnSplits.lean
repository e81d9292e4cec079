/- The row of the law FnSplits: for every input the law returns true and each argument reads behind the call as it read before. No condition. -/
import Derived.Test.YtjfmbdigfnablaaGreatRows
import Derived.Test.YtjfmbdigfnablaaGreatZZDDFnSplits
import Derived.Test.YtjfmbdigfnablaaGreatAv24
import Derived.WalkKit
import Derived.ProofKit
import Derived.OpenShut
import Derived.ShutString
import Derived.ChangeOld
import Derived.Below
import Derived.SizedLaws
import Derived.KernelRfl
import Derived.Carry
namespace Go.Proofs.YtjfmbdigfnablaaGreat.fnSplits
open Go.ChangeShapes Go.WideShapes Go.ChangeAt Go.RowKit Go.Av
set_option linter.unusedVariables false
set_option linter.unusedSimpArgs false
theorem own : ownKnob Tryz.prog.godebug = none := by kernel_rfl
theorem laidOut : laidOutB Tryz.prog = true := by kernel_rfl
set_option maxRecDepth 100000 in
theorem lifted (os : Os) (started : os.Started) (H : Type) (enc : TypeId × Value → H) :
    ReturnsInHanded {} Tryz.checked os 4 .any (Rows.fnSplitsSpec.pre6 enc Tryz.prog Tryz.f4 Rows.fnSplitsRow.domain false) (Rows.fnSplitsSpec.post enc Tryz.prog Tryz.f4 false true false false) := by
  refine returnsInHanded_of_change_sized (C := Tryz.checked) own started (by kernel_rfl) Tryz.func4
    (ChangeSpec.witness6 (enc := enc) (C := Tryz.checked) false ⟨#[], #[.slice none 0 0], []⟩ 12 (by kernel_rfl) (by kernel_rfl) (by kernel_rfl) (by kernel_rfl)) ?_
  intro W base args ds gs before hval0 hW hcnd hsz0 _
  have hval : ∀ (j : Nat) t v, Tryz.f4.params[j]? = some t → args[j]? = some v → Value.okWide Tryz.prog W .any base t v := hval0
  have hW' := hW
  obtain ⟨p, q, hA0, hV, rfl, hfz, hnd⟩ := hW
  have hA : DataW.TrodAll enc Tryz.prog W 0 (fun _ => true) true Tryz.f4.params.toList args.toList ds p := hA0
  rw [Tryz.params4] at hA hval
  obtain ⟨v0, vs0, d0, ds0, p0, q0, hargs, rfl, rfl, h0, r0⟩ := trodAll_cons hA
  obtain ⟨rfl, rfl, rfl⟩ := trodAll_nil r0
  obtain rfl : args = #[v0] := by cases args; simp_all
  obtain ⟨rfl, rfl⟩ := trodVars_none hV
  clear hA0 hval0 hsz0
  have k0 := h0
  have lt0 : ∀ x ∈ p0, x.block < W.heap.size := by obtain ⟨m, hm⟩ := k0; exact DataW.trod_lt m _ _ _ hm
  obtain ⟨a0, hr0⟩ := sliceV_arg (e := fun xs : List Int => V.lst 1 (xs.map encB)) Tryz.underlying22 (OpensV.slice (el := 5) (sz := 1) (e := encB) Tryz.underlying22 (by kernel_rfl) (by decide) (fun _ => rfl) (OpensV.int Tryz.underlying5)) (hval 0 22 v0 rfl rfl) h0
  refine (CP.run (cargs := [v0]) (splits_law a0 (by have := lst_bound hr0; simpa using this)) rfl (fun j c v hc hv => ?_)).mono fun e W' ⟨he, bel⟩ => ?_
  · cases j with
    | zero => simp at hc hv; subst hc hv; exact hr0
    | succ j =>
      simp at hc
  subst he
  exact ⟨_, rfl, _, _, _, [], _, [], hW', trodAll_mk1 (shut_bool Tryz.underlying4 _), (trodAll_cons_mk (Below.trod laidOut (by kernel_rfl) (of_decide_eq_true (by kernel_rfl)) k0 bel lt0) trodAll_mk0), rfl, bel.frame _, fun h => by cases h⟩
theorem c1 : Rows.fnSplitsRow.wf (OpenSpec.ofChange Rows.fnSplitsSpec) = true := by kernel_rfl
theorem c2 : (Rows.fnSplitsRow.inPlace == Tryz.prog.inPlace 4) = true := by kernel_rfl
theorem c3 : (Rows.fnSplitsRow.unfollowed == Tryz.prog.unfollowed 4) = true := by kernel_rfl
theorem c4 : (Rows.fnSplitsRow.recurses == Tryz.prog.recurses 4) = true := by kernel_rfl
theorem c5 : (Rows.fnSplitsRow.named == Tryz.prog.varsNamed 4) = true := by kernel_rfl
theorem closed : joinedFacts Tryz.prog 4 Tryz.f4 Rows.fnSplitsSpec Rows.fnSplitsRow = true := by
  unfold joinedFacts
  rw [c1, c2, c3, c4, c5]
  kernel_rfl
theorem over : Rows.fnSplitsRow.holds Tryz.pinned (OpenSpec.ofChange Rows.fnSplitsSpec) :=
  OpenClaim.holds_of_wide 4 Tryz.f4 rfl rfl rfl rfl rfl rfl rfl ⟨rfl, rfl, rfl, rfl, rfl⟩ rfl rfl rfl rfl rfl (by kernel_rfl) Tryz.func4 closed
    (of_decide_eq_true (by kernel_rfl)) (by unfold Func.isWrapper; first | (rw [if_pos (by decide +kernel)]; kernel_rfl) | (rw [if_neg (by decide +kernel)]; exact ⟨rfl, rfl⟩))
    (fun os started H enc _ => lifted os started H enc)
theorem proved : Rows.FnSplitsSaid := over
#print axioms proved
end Go.Proofs.YtjfmbdigfnablaaGreat.fnSplits
namespace Go.Proofs.YtjfmbdigfnablaaGreat
/-- The row, under a short name, for the claim. -/
theorem fnSplits_holds : Rows.FnSplitsSaid := fnSplits.proved
end Go.Proofs.YtjfmbdigfnablaaGreat
