/- The row of the law FnExactIsRigid: for every input the law returns true and each argument reads behind the call as it read before. No condition. -/
import Derived.Test.YtjfmbdigfnablaaRows
import Derived.Test.YtjfmbdigfnablaaZZCIFnExactIsRigid
import Derived.Test.YtjfmbdigfnablaaAv24
import Derived.WalkKit
import Derived.ProofKit
import Derived.OpenShut
import Derived.ShutString
import Derived.ChangeOld
import Derived.Below
import Derived.SizedLaws
import Derived.KernelRfl
import Derived.Carry
namespace Go.Proofs.Ytjfmbdigfnablaa.fnExactIsRigid
open Go.ChangeShapes Go.WideShapes Go.ChangeAt Go.RowKit Go.Av
set_option linter.unusedVariables false
set_option linter.unusedSimpArgs false
theorem own : ownKnob Try.prog.godebug = none := by kernel_rfl
theorem laidOut : laidOutB Try.prog = true := by kernel_rfl
set_option maxRecDepth 100000 in
theorem lifted (os : Os) (started : os.Started) (H : Type) (enc : TypeId × Value → H) :
    ReturnsInHanded {} Try.checked os 4 .any (Rows.fnExactIsRigidSpec.pre6 enc Try.prog Try.f4 Rows.fnExactIsRigidRow.domain false) (Rows.fnExactIsRigidSpec.post enc Try.prog Try.f4 false true false false) := by
  refine returnsInHanded_of_change_sized (C := Try.checked) own started (by kernel_rfl) Try.func4
    (ChangeSpec.witness6 (enc := enc) (C := Try.checked) false ⟨#[], #[.agg #[.slice none 0 0]], []⟩ 12 (by kernel_rfl) (by kernel_rfl) (by kernel_rfl) (by kernel_rfl)) ?_
  intro W base args ds gs before hval0 hW hcnd hsz0 _
  have hval : ∀ (j : Nat) t v, Try.f4.params[j]? = some t → args[j]? = some v → Value.okWide Try.prog W .any base t v := hval0
  have hW' := hW
  obtain ⟨p, q, hA0, hV, rfl, hfz, hnd⟩ := hW
  have hA : DataW.TrodAll enc Try.prog W 0 (fun _ => true) true Try.f4.params.toList args.toList ds p := hA0
  rw [Try.params4] at hA hval
  obtain ⟨v0, vs0, d0, ds0, p0, q0, hargs, rfl, rfl, h0, r0⟩ := trodAll_cons hA
  obtain ⟨rfl, rfl, rfl⟩ := trodAll_nil r0
  obtain rfl : args = #[v0] := by cases args; simp_all
  obtain ⟨rfl, rfl⟩ := trodVars_none hV
  clear hA0 hval0 hsz0
  have k0 := h0
  have lt0 : ∀ x ∈ p0, x.block < W.heap.size := by obtain ⟨m, hm⟩ := k0; exact DataW.trod_lt m _ _ _ hm
  obtain ⟨a0, hr0⟩ := structV_arg (e := encPrg) Try.underlying35 (OpensV.iso (e' := encPrg) (OpensV.struct (tot := 1) Try.underlying35 (by kernel_rfl) (OpensVF.last rfl (by kernel_rfl) (OpensV.slice (el := 70) (sz := 4) (e := encTask) Try.underlying33 (by kernel_rfl) (by decide) (fun _ => rfl) (OpensV.iso (e' := encTask) (OpensV.struct (tot := 4) Try.underlying70 (by kernel_rfl) (OpensVF.cons (mid := 1) rfl (by kernel_rfl) (OpensV.slice (el := 52) (sz := 6) (e := encStmt) Try.underlying22 (by kernel_rfl) (by decide) (fun _ => rfl) (OpensV.iso (e' := encStmt) (OpensV.struct (tot := 6) Try.underlying52 (by kernel_rfl) (OpensVF.cons (mid := 1) rfl (by kernel_rfl) (OpensV.int Try.underlying3) (OpensVF.cons (mid := 2) rfl (by kernel_rfl) (OpensV.int Try.underlying3) (OpensVF.cons (mid := 3) rfl (by kernel_rfl) (OpensV.int Try.underlying3) (OpensVF.last rfl (by kernel_rfl) (OpensV.iso (e' := encExpr) (OpensV.struct (tot := 3) Try.underlying50 (by kernel_rfl) (OpensVF.cons (mid := 1) rfl (by kernel_rfl) (OpensV.int Try.underlying3) (OpensVF.cons (mid := 2) rfl (by kernel_rfl) (OpensV.int Try.underlying3) (OpensVF.last rfl (by kernel_rfl) (OpensV.int Try.underlying3))))) (fun p : Int × Int × Int => (⟨p.1, p.2.1, p.2.2⟩ : Av.Expr)) (fun _ => rfl))))))) (fun p : Int × Int × Int × Av.Expr => (⟨p.1, p.2.1, p.2.2.1, p.2.2.2⟩ : Av.Stmt)) (fun _ => rfl))) (OpensVF.last rfl (by kernel_rfl) (OpensV.iso (e' := encExpr) (OpensV.struct (tot := 3) Try.underlying50 (by kernel_rfl) (OpensVF.cons (mid := 1) rfl (by kernel_rfl) (OpensV.int Try.underlying3) (OpensVF.cons (mid := 2) rfl (by kernel_rfl) (OpensV.int Try.underlying3) (OpensVF.last rfl (by kernel_rfl) (OpensV.int Try.underlying3))))) (fun p : Int × Int × Int => (⟨p.1, p.2.1, p.2.2⟩ : Av.Expr)) (fun _ => rfl))))) (fun p : (List Av.Stmt) × Av.Expr => (⟨p.1, p.2⟩ : Av.Task)) (fun _ => rfl))))) (fun p : (List Av.Task) => (⟨p⟩ : Av.Prg)) (fun _ => rfl)) (hval 0 35 v0 rfl rfl) h0
  refine (CP.run (cargs := [v0]) (rigid_law a0.tasks (prg_bounds hr0).1 (prg_bounds hr0).2) rfl (fun j c v hc hv => ?_)).mono fun e W' ⟨he, bel⟩ => ?_
  · cases j with
    | zero => simp at hc hv; subst hc hv; exact hr0
    | succ j =>
      simp at hc
  subst he
  exact ⟨_, rfl, _, _, _, [], _, [], hW', trodAll_mk1 (shut_bool Try.underlying4 _), (trodAll_cons_mk (Below.trod laidOut (by kernel_rfl) (of_decide_eq_true (by kernel_rfl)) k0 bel lt0) trodAll_mk0), rfl, bel.frame _, fun h => by cases h⟩
theorem c1 : Rows.fnExactIsRigidRow.wf (OpenSpec.ofChange Rows.fnExactIsRigidSpec) = true := by kernel_rfl
theorem c2 : (Rows.fnExactIsRigidRow.inPlace == Try.prog.inPlace 4) = true := by kernel_rfl
theorem c3 : (Rows.fnExactIsRigidRow.unfollowed == Try.prog.unfollowed 4) = true := by kernel_rfl
theorem c4 : (Rows.fnExactIsRigidRow.recurses == Try.prog.recurses 4) = true := by kernel_rfl
theorem c5 : (Rows.fnExactIsRigidRow.named == Try.prog.varsNamed 4) = true := by kernel_rfl
theorem closed : joinedFacts Try.prog 4 Try.f4 Rows.fnExactIsRigidSpec Rows.fnExactIsRigidRow = true := by
  unfold joinedFacts
  rw [c1, c2, c3, c4, c5]
  kernel_rfl
theorem over : Rows.fnExactIsRigidRow.holds Try.pinned (OpenSpec.ofChange Rows.fnExactIsRigidSpec) :=
  OpenClaim.holds_of_wide 4 Try.f4 rfl rfl rfl rfl rfl rfl rfl ⟨rfl, rfl, rfl, rfl, rfl⟩ rfl rfl rfl rfl rfl (by kernel_rfl) Try.func4 closed
    (of_decide_eq_true (by kernel_rfl)) (by unfold Func.isWrapper; first | (rw [if_pos (by decide +kernel)]; kernel_rfl) | (rw [if_neg (by decide +kernel)]; exact ⟨rfl, rfl⟩))
    (fun os started H enc _ => lifted os started H enc)
theorem proved : Rows.FnExactIsRigidSaid := over
#print axioms proved
end Go.Proofs.Ytjfmbdigfnablaa.fnExactIsRigid
namespace Go.Proofs.Ytjfmbdigfnablaa
/-- The row, under a short name, for the claim. -/
theorem fnExactIsRigid_holds : Rows.FnExactIsRigidSaid := fnExactIsRigid.proved
end Go.Proofs.Ytjfmbdigfnablaa
