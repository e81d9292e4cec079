/- The row of the law FnExactSaveWrites, out of its pure statement and the walk: for every input the law returns true and each argument reads behind the call as it read before. No condition. -/
import Derived.Test.YtboidohbhoehgaaRows
import Derived.Test.YtboidohbhoehgaaQFnExactSaveWrites3
import Derived.Test.YtboidohbhoehgaaOpen
import Derived.Test.YtboidohbhoehgaaVFnExactSaveWrites
import Derived.WalkKit
import Derived.ProofKit
import Derived.OpenShut
import Derived.ShutString
import Derived.ChangeOld
import Derived.Below
import Derived.SizedLaws
import Derived.KernelRfl
import Derived.Carry
namespace Go.Proofs.Ytboidohbhoehgaa.fnExactSaveWrites
open Go.ChangeShapes Go.WideShapes Go.ChangeAt Go.RowKit Go.Proofs.YtboidohbhoehgaaW.PrintWords
set_option linter.unusedVariables false
set_option linter.unusedSimpArgs false
theorem own : ownKnob Try.prog.godebug = none := by kernel_rfl
theorem laidOut : laidOutB Try.prog = true := by kernel_rfl
set_option maxRecDepth 100000 in
theorem lifted (os : Os) (started : os.Started) (H : Type) (enc : TypeId × Value → H) :
    ReturnsInHanded {} Try.checked os 5 .any (Rows.fnExactSaveWritesSpec.pre6 enc Try.prog Try.f5 Rows.fnExactSaveWritesRow.domain false) (Rows.fnExactSaveWritesSpec.post enc Try.prog Try.f5 false true false false) := by
  refine returnsInHanded_of_change_sized (C := Try.checked) own started (by kernel_rfl) Try.func5
    (ChangeSpec.witness6 (enc := enc) (C := Try.checked) false ⟨#[], #[.agg #[.int .i64 0, .slice none 0 0, .int .i64 0, .int .i64 0, .slice none 0 0, .int .i64 0], .slice none 0 0], []⟩ 12 (by kernel_rfl) (by kernel_rfl) (by kernel_rfl) (by kernel_rfl)) ?_
  intro W base args ds gs before hval0 hW hcnd hsz0 _
  have hval : ∀ (j : Nat) t v, Try.f5.params[j]? = some t → args[j]? = some v → Value.okWide Try.prog W .any base t v := hval0
  have hW' := hW
  obtain ⟨p, q, hA0, hV, rfl, hfz, hnd⟩ := hW
  have hA : DataW.TrodAll enc Try.prog W 0 (fun _ => true) true Try.f5.params.toList args.toList ds p := hA0
  rw [Try.params5] at hA hval
  obtain ⟨v0, vs0, d0, ds0, p0, q0, hargs, rfl, rfl, h0, r0⟩ := trodAll_cons hA
  obtain ⟨v1, vs1, d1, ds1, p1, q1, rfl, rfl, rfl, h1, r1⟩ := trodAll_cons r0
  obtain ⟨rfl, rfl, rfl⟩ := trodAll_nil r1
  obtain rfl : args = #[v0, v1] := by cases args; simp_all
  obtain ⟨rfl, rfl⟩ := trodVars_none hV
  clear hA0 hval0 hsz0
  have k0 := h0
  have lt0 : ∀ x ∈ p0, x.block < W.heap.size := by obtain ⟨m, hm⟩ := k0; exact DataW.trod_lt m _ _ _ hm
  obtain ⟨cs0, ⟨⟨a0_0, ⟨l0_1, a0_2⟩⟩, ⟨a0_3, ⟨l0_4, a0_5⟩⟩⟩, rfl, ⟨_, _, rfl, ⟨_, _, rfl, rfl, ⟨_, _, rfl, ⟨A0_1, c0_1, rfl, hc0_1, hr0_1⟩, rfl⟩⟩, ⟨_, _, rfl, rfl, ⟨_, _, rfl, ⟨A0_4, c0_4, rfl, hc0_4, hr0_4⟩, rfl⟩⟩⟩, ⟨⟨g_a0_0, ⟨g_l0_1, g_a0_2⟩⟩, ⟨g_a0_3, ⟨g_l0_4, g_a0_5⟩⟩⟩⟩ := Open.agg_arg Try.underlying41 (enc := enc) (Open.Opens.struct (tot := 6) Try.underlying41 (by kernel_rfl) (Open.OpensF.cons (mid := 3) rfl (by kernel_rfl) (Open.Opens.struct (tot := 3) Try.underlying39 (by kernel_rfl) (Open.OpensF.cons (mid := 1) rfl (by kernel_rfl) (Open.Opens.int Try.underlying3) (Open.OpensF.cons (mid := 2) rfl (by kernel_rfl) (Open.Opens.slice (E := 3) Try.underlying24 (by kernel_rfl) (Open.Opens.int Try.underlying3)) (Open.OpensF.last rfl (by kernel_rfl) (Open.Opens.int Try.underlying3))))) (Open.OpensF.last rfl (by kernel_rfl) (Open.Opens.struct (tot := 3) Try.underlying39 (by kernel_rfl) (Open.OpensF.cons (mid := 1) rfl (by kernel_rfl) (Open.Opens.int Try.underlying3) (Open.OpensF.cons (mid := 2) rfl (by kernel_rfl) (Open.Opens.slice (E := 3) Try.underlying24 (by kernel_rfl) (Open.Opens.int Try.underlying3)) (Open.OpensF.last rfl (by kernel_rfl) (Open.Opens.int Try.underlying3)))))))) (hval 0 41 v0 rfl rfl) h0
  have k1 := h1
  have lt1 : ∀ x ∈ p1, x.block < W.heap.size := by obtain ⟨m, hm⟩ := k1; exact DataW.trod_lt m _ _ _ hm
  obtain ⟨A1, c1, l1, rfl, hc1, hr1, g_l1⟩ := Open.slice_arg (E := 3) Try.underlying24 (enc := enc) (Open.Opens.slice (E := 3) Try.underlying24 (by kernel_rfl) (Open.Opens.int Try.underlying3)) (hval 1 24 v1 rfl rfl) h1
  obtain ⟨k, hk⟩ := Pure.FnExactSaveWrites a0_0 l0_1 a0_2 a0_3 l0_4 a0_5 l1 g_a0_0 g_l0_1 g_a0_2 g_a0_3 g_l0_4 g_a0_5 g_l1
  refine (QFnExactSaveWrites.laws_FnExactSaveWrites.calls k a0_0 A0_1 c0_1 l0_1 a0_2 a0_3 A0_4 c0_4 l0_4 a0_5 A1 c1 l1 true W hr0_1 hc0_1 hr0_4 hc0_4 hr1 hc1 ⟨rfl⟩ hk).mono fun e W' ⟨he, bel⟩ => ?_
  subst he
  exact ⟨_, rfl, _, _, _, [], _, [], hW', trodAll_mk1 (shut_bool Try.underlying4 _), (trodAll_cons_mk (Below.trod laidOut (by kernel_rfl) (of_decide_eq_true (by kernel_rfl)) k0 bel lt0) (trodAll_cons_mk (Below.trod laidOut (by kernel_rfl) (of_decide_eq_true (by kernel_rfl)) k1 bel lt1) trodAll_mk0)), rfl, bel.frame _, fun h => by cases h⟩
theorem over : Rows.fnExactSaveWritesRow.holds Try.pinned (OpenSpec.ofChange Rows.fnExactSaveWritesSpec) :=
  OpenClaim.holds_of_wide 5 Try.f5 rfl rfl rfl rfl rfl rfl rfl ⟨rfl, rfl, rfl, rfl, rfl⟩ rfl rfl rfl rfl rfl (by kernel_rfl) Try.func5 (by kernel_rfl)
    (of_decide_eq_true (by kernel_rfl)) (by unfold Func.isWrapper; first | (rw [if_pos (by decide +kernel)]; kernel_rfl) | (rw [if_neg (by decide +kernel)]; exact ⟨rfl, rfl⟩))
    (fun os started H enc _ => lifted os started H enc)
theorem proved : Rows.FnExactSaveWritesSaid := over
#print axioms proved
end Go.Proofs.Ytboidohbhoehgaa.fnExactSaveWrites
namespace Go.Proofs.Ytboidohbhoehgaa
/-- The row, under a short name, for the claim. -/
theorem fnExactSaveWrites_holds : Rows.FnExactSaveWritesSaid := fnExactSaveWrites.proved
end Go.Proofs.Ytboidohbhoehgaa
