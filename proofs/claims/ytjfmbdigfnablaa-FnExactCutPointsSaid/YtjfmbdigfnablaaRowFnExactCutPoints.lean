/- The row of the law FnExactCutPoints: for every input the law returns true and each argument reads behind the call as it read before. No condition. -/
import Derived.Test.YtjfmbdigfnablaaRows
import Derived.Test.YtjfmbdigfnablaaCpTop
import Derived.Test.YtjfmbdigfnablaaAv20
import Derived.WalkKit
import Derived.ProofKit
import Derived.OpenShut
import Derived.ShutString
import Derived.ChangeOld
import Derived.Below
import Derived.SizedLaws
import Derived.KernelRfl
import Derived.Carry
namespace Go.Proofs.Ytjfmbdigfnablaa.fnExactCutPoints
open Go.ChangeShapes Go.WideShapes Go.ChangeAt Go.RowKit Go.Av
set_option linter.unusedVariables false
set_option linter.unusedSimpArgs false
theorem own : ownKnob Try.prog.godebug = none := by kernel_rfl
theorem laidOut : laidOutB Try.prog = true := by kernel_rfl
theorem opensExpr {H : Type} {enc : TypeId × Value → H} {W : World} : OpensV enc Try.prog W 50 encExpr :=
  OpensV.iso (e' := encExpr) (OpensV.struct (tot := 3) Try.underlying50 (by kernel_rfl) (OpensVF.cons (mid := 1) rfl (by kernel_rfl) (OpensV.int Try.underlying3) (OpensVF.cons (mid := 2) rfl (by kernel_rfl) (OpensV.int Try.underlying3) (OpensVF.last rfl (by kernel_rfl) (OpensV.int Try.underlying3))))) (fun p : Int × Int × Int => ⟨p.1, p.2.1, p.2.2⟩) (fun _ => rfl)
theorem opensStmt {H : Type} {enc : TypeId × Value → H} {W : World} : OpensV enc Try.prog W 52 encStmt :=
  OpensV.iso (e' := encStmt) (OpensV.struct (tot := 6) Try.underlying52 (by kernel_rfl) (OpensVF.cons (mid := 1) rfl (by kernel_rfl) (OpensV.int Try.underlying3) (OpensVF.cons (mid := 2) rfl (by kernel_rfl) (OpensV.int Try.underlying3) (OpensVF.cons (mid := 3) rfl (by kernel_rfl) (OpensV.int Try.underlying3)
    (OpensVF.last rfl (by kernel_rfl) opensExpr))))) (fun p : Int × Int × Int × Av.Expr => ⟨p.1, p.2.1, p.2.2.1, p.2.2.2⟩) (fun _ => rfl)
set_option maxRecDepth 100000 in
theorem lifted (os : Os) (started : os.Started) (H : Type) (enc : TypeId × Value → H) :
    ReturnsInHanded {} Try.checked os 3 .any (Rows.fnExactCutPointsSpec.pre6 enc Try.prog Try.f3 Rows.fnExactCutPointsRow.domain false) (Rows.fnExactCutPointsSpec.post enc Try.prog Try.f3 false true false false) := by
  refine returnsInHanded_of_change_sized (C := Try.checked) own started (by kernel_rfl) Try.func3
    (ChangeSpec.witness6 (enc := enc) (C := Try.checked) false ⟨#[], #[.slice none 0 0], []⟩ 12 (by kernel_rfl) (by kernel_rfl) (by kernel_rfl) (by kernel_rfl)) ?_
  intro W base args ds gs before hval0 hW hcnd hsz0 _
  have hval : ∀ (j : Nat) t v, Try.f3.params[j]? = some t → args[j]? = some v → Value.okWide Try.prog W .any base t v := hval0
  have hW' := hW
  obtain ⟨p, q, hA0, hV, rfl, hfz, hnd⟩ := hW
  have hA : DataW.TrodAll enc Try.prog W 0 (fun _ => true) true Try.f3.params.toList args.toList ds p := hA0
  rw [Try.params3] at hA hval
  obtain ⟨v0, vs0, d0, ds0, p0, q0, hargs, rfl, rfl, h0, r0⟩ := trodAll_cons hA
  obtain ⟨rfl, rfl, rfl⟩ := trodAll_nil r0
  obtain rfl : args = #[v0] := by cases args; simp_all
  obtain ⟨rfl, rfl⟩ := trodVars_none hV
  clear hA0 hval0 hsz0
  have k0 := h0
  have lt0 : ∀ x ∈ p0, x.block < W.heap.size := by obtain ⟨m, hm⟩ := k0; exact DataW.trod_lt m _ _ _ hm
  obtain ⟨l0, hr0⟩ := sliceV_arg (e := fun xs : List Av.Stmt => V.lst 6 (xs.map encStmt)) Try.underlying22 (OpensV.slice (el := 52) (sz := 6) Try.underlying22 (by kernel_rfl) (by decide) (fun _ => rfl) opensStmt) (hval 0 22 v0 rfl rfl) h0
  refine (CP.run (cargs := [v0]) (law_c l0 (by have := lst_bound hr0; simpa using this)) rfl (fun j c v hc hv => ?_)).mono fun e W' ⟨he, bel⟩ => ?_
  · cases j with
    | zero => simp at hc hv; subst hc hv; exact hr0
    | succ j => simp at hc
  subst he
  exact ⟨_, rfl, _, _, _, [], _, [], hW', trodAll_mk1 (shut_bool Try.underlying4 _), (trodAll_cons_mk (Below.trod laidOut (by kernel_rfl) (of_decide_eq_true (by kernel_rfl)) k0 bel lt0) trodAll_mk0), rfl, bel.frame _, fun h => by cases h⟩
theorem over : Rows.fnExactCutPointsRow.holds Try.pinned (OpenSpec.ofChange Rows.fnExactCutPointsSpec) :=
  OpenClaim.holds_of_wide 3 Try.f3 rfl rfl rfl rfl rfl rfl rfl ⟨rfl, rfl, rfl, rfl, rfl⟩ rfl rfl rfl rfl rfl (by kernel_rfl) Try.func3 (by kernel_rfl)
    (of_decide_eq_true (by kernel_rfl)) (by unfold Func.isWrapper; first | (rw [if_pos (by decide +kernel)]; kernel_rfl) | (rw [if_neg (by decide +kernel)]; exact ⟨rfl, rfl⟩))
    (fun os started H enc _ => lifted os started H enc)
theorem proved : Rows.FnExactCutPointsSaid := over
#print axioms proved
end Go.Proofs.Ytjfmbdigfnablaa.fnExactCutPoints
namespace Go.Proofs.Ytjfmbdigfnablaa
/-- The row, under a short name, for the claim. -/
theorem fnExactCutPoints_holds : Rows.FnExactCutPointsSaid := fnExactCutPoints.proved
end Go.Proofs.Ytjfmbdigfnablaa
