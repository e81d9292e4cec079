/- The row of the law FnExactConfigure: for every input the law returns true and each argument reads behind the call as it read before. No condition. -/
import Derived.Test.YtdlanjhcabcagaaRows
import Derived.Test.YtdlanjhcabcagaaD7CfgLaw
import Derived.Test.YtdlanjhcabcagaaAv24
import Derived.WalkKit
import Derived.ProofKit
import Derived.OpenShut
import Derived.ShutString
import Derived.ChangeOld
import Derived.Below
import Derived.SizedLaws
import Derived.KernelRfl
import Derived.Carry
namespace Go.Proofs.Ytdlanjhcabcagaa.fnExactConfigure
open Go.ChangeShapes Go.WideShapes Go.ChangeAt Go.RowKit Go.Av
set_option linter.unusedVariables false
set_option linter.unusedSimpArgs false
theorem own : ownKnob Try.prog.godebug = none := by kernel_rfl
theorem laidOut : laidOutB Try.prog = true := by kernel_rfl
set_option maxRecDepth 100000 in
theorem lifted (os : Os) (started : os.Started) (H : Type) (enc : TypeId × Value → H) :
    ReturnsInHanded {} Try.checked os 4 .any (Rows.fnExactConfigureSpec.pre6 enc Try.prog Try.f4 Rows.fnExactConfigureRow.domain false) (Rows.fnExactConfigureSpec.post enc Try.prog Try.f4 false true false false) := by
  refine returnsInHanded_of_change_sized (C := Try.checked) own started (by kernel_rfl) Try.func4
    (ChangeSpec.witness6 (enc := enc) (C := Try.checked) false ⟨#[], #[.agg #[.slice none 0 0, .slice none 0 0], .agg #[.int .i64 0, .int .i64 0], .int .i64 0], []⟩ 12 (by kernel_rfl) (by kernel_rfl) (by kernel_rfl) (by kernel_rfl)) ?_
  intro W base args ds gs before hval0 hW hcnd hsz0 _
  have hval : ∀ (j : Nat) t v, Try.f4.params[j]? = some t → args[j]? = some v → Value.okWide Try.prog W .any base t v := hval0
  have hW' := hW
  obtain ⟨p, q, hA0, hV, rfl, hfz, hnd⟩ := hW
  have hA : DataW.TrodAll enc Try.prog W 0 (fun _ => true) true Try.f4.params.toList args.toList ds p := hA0
  rw [Try.params4] at hA hval
  obtain ⟨v0, vs0, d0, ds0, p0, q0, hargs, rfl, rfl, h0, r0⟩ := trodAll_cons hA
  obtain ⟨v1, vs1, d1, ds1, p1, q1, rfl, rfl, rfl, h1, r1⟩ := trodAll_cons r0
  obtain ⟨v2, vs2, d2, ds2, p2, q2, rfl, rfl, rfl, h2, r2⟩ := trodAll_cons r1
  obtain ⟨rfl, rfl, rfl⟩ := trodAll_nil r2
  obtain rfl : args = #[v0, v1, v2] := by cases args; simp_all
  obtain ⟨rfl, rfl⟩ := trodVars_none hV
  clear hA0 hval0 hsz0
  have k0 := h0
  have lt0 : ∀ x ∈ p0, x.block < W.heap.size := by obtain ⟨m, hm⟩ := k0; exact DataW.trod_lt m _ _ _ hm
  obtain ⟨a0, hr0⟩ := structV_arg (e := encDevice) Try.underlying38 (OpensV.iso (e' := encDevice) (OpensV.struct (tot := 2) Try.underlying38 (by kernel_rfl) (OpensVF.cons (mid := 1) rfl (by kernel_rfl) (OpensV.slice (el := 3) (sz := 1) (e := Go.Av.encI) Try.underlying24 (by kernel_rfl) (by decide) (fun _ => rfl) (OpensV.int Try.underlying3)) (OpensVF.last rfl (by kernel_rfl) (OpensV.slice (el := 39) (sz := 2) (e := encSetting) Try.underlying36 (by kernel_rfl) (by decide) (fun _ => rfl) (OpensV.iso (e' := encSetting) (OpensV.struct (tot := 2) Try.underlying39 (by kernel_rfl) (OpensVF.cons (mid := 1) rfl (by kernel_rfl) (OpensV.int Try.underlying3) (OpensVF.last rfl (by kernel_rfl) (OpensV.int Try.underlying3)))) (fun p : Int × Int => (⟨p.1, p.2⟩ : Av.Setting)) (fun _ => rfl)))))) (fun p : (List Int) × (List Av.Setting) => (⟨p.1, p.2⟩ : Av.Device)) (fun _ => rfl)) (hval 0 38 v0 rfl rfl) h0
  have k1 := h1
  have lt1 : ∀ x ∈ p1, x.block < W.heap.size := by obtain ⟨m, hm⟩ := k1; exact DataW.trod_lt m _ _ _ hm
  obtain ⟨a1, hr1⟩ := structV_arg (e := encSetting) Try.underlying39 (OpensV.iso (e' := encSetting) (OpensV.struct (tot := 2) Try.underlying39 (by kernel_rfl) (OpensVF.cons (mid := 1) rfl (by kernel_rfl) (OpensV.int Try.underlying3) (OpensVF.last rfl (by kernel_rfl) (OpensV.int Try.underlying3)))) (fun p : Int × Int => (⟨p.1, p.2⟩ : Av.Setting)) (fun _ => rfl)) (hval 1 39 v1 rfl rfl) h1
  have k2 := h2
  have lt2 : ∀ x ∈ p2, x.block < W.heap.size := by obtain ⟨m, hm⟩ := k2; exact DataW.trod_lt m _ _ _ hm
  obtain ⟨a2, hr2⟩ := intV_arg Try.underlying3 (hval 2 3 v2 rfl rfl) h2
  refine (CP.run (cargs := [v0, v1, v2]) (cfg_law a0 a1 a2 (dev_bounds hr0).1 (dev_bounds hr0).2) rfl (fun j c v hc hv => ?_)).mono fun e W' ⟨he, bel⟩ => ?_
  · cases j with
    | zero => simp at hc hv; subst hc hv; exact hr0
    | succ j =>
      cases j with
      | zero => simp at hc hv; subst hc hv; exact hr1
      | succ j =>
        cases j with
        | zero => simp at hc hv; subst hc hv; exact hr2
        | succ j =>
          simp at hc
  subst he
  exact ⟨_, rfl, _, _, _, [], _, [], hW', trodAll_mk1 (shut_bool Try.underlying4 _), (trodAll_cons_mk (Below.trod laidOut (by kernel_rfl) (of_decide_eq_true (by kernel_rfl)) k0 bel lt0) (trodAll_cons_mk (Below.trod laidOut (by kernel_rfl) (of_decide_eq_true (by kernel_rfl)) k1 bel lt1) (trodAll_cons_mk (Below.trod laidOut (by kernel_rfl) (of_decide_eq_true (by kernel_rfl)) k2 bel lt2) trodAll_mk0))), rfl, bel.frame _, fun h => by cases h⟩
theorem c1 : Rows.fnExactConfigureRow.wf (OpenSpec.ofChange Rows.fnExactConfigureSpec) = true := by kernel_rfl
theorem c2 : (Rows.fnExactConfigureRow.inPlace == Try.prog.inPlace 4) = true := by kernel_rfl
theorem c3 : (Rows.fnExactConfigureRow.unfollowed == Try.prog.unfollowed 4) = true := by kernel_rfl
theorem c4 : (Rows.fnExactConfigureRow.recurses == Try.prog.recurses 4) = true := by kernel_rfl
theorem c5 : (Rows.fnExactConfigureRow.named == Try.prog.varsNamed 4) = true := by kernel_rfl
theorem closed : joinedFacts Try.prog 4 Try.f4 Rows.fnExactConfigureSpec Rows.fnExactConfigureRow = true := by
  unfold joinedFacts
  rw [c1, c2, c3, c4, c5]
  kernel_rfl
theorem over : Rows.fnExactConfigureRow.holds Try.pinned (OpenSpec.ofChange Rows.fnExactConfigureSpec) :=
  OpenClaim.holds_of_wide 4 Try.f4 rfl rfl rfl rfl rfl rfl rfl ⟨rfl, rfl, rfl, rfl, rfl⟩ rfl rfl rfl rfl rfl (by kernel_rfl) Try.func4 closed
    (of_decide_eq_true (by kernel_rfl)) (by unfold Func.isWrapper; first | (rw [if_pos (by decide +kernel)]; kernel_rfl) | (rw [if_neg (by decide +kernel)]; exact ⟨rfl, rfl⟩))
    (fun os started H enc _ => lifted os started H enc)
theorem proved : Rows.FnExactConfigureSaid := over
#print axioms proved
end Go.Proofs.Ytdlanjhcabcagaa.fnExactConfigure
namespace Go.Proofs.Ytdlanjhcabcagaa
/-- The row, under a short name, for the claim. -/
theorem fnExactConfigure_holds : Rows.FnExactConfigureSaid := fnExactConfigure.proved
end Go.Proofs.Ytdlanjhcabcagaa
