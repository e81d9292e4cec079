/- The row of the law FnExactCertifiedRun: for every input the law returns true and each argument reads behind the call as it read before. No condition. -/
import Derived.Test.YtjfmbdigfnablaaGreatRows
import Derived.Test.YtjfmbdigfnablaaGreatZZDFFnExactCertifiedRun
import Derived.Test.YtjfmbdigfnablaaGreatAv24
import Derived.WalkKit
import Derived.ProofKit
import Derived.OpenShut
import Derived.ShutString
import Derived.ChangeOld
import Derived.Below
import Derived.SizedLaws
import Derived.KernelRfl
import Derived.Carry
namespace Go.Proofs.YtjfmbdigfnablaaGreat.fnExactCertifiedRun
open Go.ChangeShapes Go.WideShapes Go.ChangeAt Go.RowKit Go.Av
set_option linter.unusedVariables false
set_option linter.unusedSimpArgs false
theorem own : ownKnob Tryz.prog.godebug = none := by kernel_rfl
theorem laidOut : laidOutB Tryz.prog = true := by kernel_rfl
set_option maxRecDepth 100000 in
theorem lifted (os : Os) (started : os.Started) (H : Type) (enc : TypeId × Value → H) :
    ReturnsInHanded {} Tryz.checked os 12 .any (Rows.fnExactCertifiedRunSpec.pre6 enc Tryz.prog Tryz.f12 Rows.fnExactCertifiedRunRow.domain false) (Rows.fnExactCertifiedRunSpec.post enc Tryz.prog Tryz.f12 false true false false) := by
  refine returnsInHanded_of_change_sized (C := Tryz.checked) own started (by kernel_rfl) Tryz.func12
    (ChangeSpec.witness6 (enc := enc) (C := Tryz.checked) false ⟨#[], #[.agg #[.slice none 0 0], .slice none 0 0, .slice none 0 0, .agg #[.int .i64 0, .int .i64 0, .int .i64 0, .int .i64 0], .slice none 0 0], []⟩ 12 (by kernel_rfl) (by kernel_rfl) (by kernel_rfl) (by kernel_rfl)) ?_
  intro W base args ds gs before hval0 hW hcnd hsz0 _
  have hval : ∀ (j : Nat) t v, Tryz.f12.params[j]? = some t → args[j]? = some v → Value.okWide Tryz.prog W .any base t v := hval0
  have hW' := hW
  obtain ⟨p, q, hA0, hV, rfl, hfz, hnd⟩ := hW
  have hA : DataW.TrodAll enc Tryz.prog W 0 (fun _ => true) true Tryz.f12.params.toList args.toList ds p := hA0
  rw [Tryz.params12] at hA hval
  obtain ⟨v0, vs0, d0, ds0, p0, q0, hargs, rfl, rfl, h0, r0⟩ := trodAll_cons hA
  obtain ⟨v1, vs1, d1, ds1, p1, q1, rfl, rfl, rfl, h1, r1⟩ := trodAll_cons r0
  obtain ⟨v2, vs2, d2, ds2, p2, q2, rfl, rfl, rfl, h2, r2⟩ := trodAll_cons r1
  obtain ⟨v3, vs3, d3, ds3, p3, q3, rfl, rfl, rfl, h3, r3⟩ := trodAll_cons r2
  obtain ⟨v4, vs4, d4, ds4, p4, q4, rfl, rfl, rfl, h4, r4⟩ := trodAll_cons r3
  obtain ⟨rfl, rfl, rfl⟩ := trodAll_nil r4
  obtain rfl : args = #[v0, v1, v2, v3, v4] := by cases args; simp_all
  obtain ⟨rfl, rfl⟩ := trodVars_none hV
  clear hA0 hval0 hsz0
  have k0 := h0
  have lt0 : ∀ x ∈ p0, x.block < W.heap.size := by obtain ⟨m, hm⟩ := k0; exact DataW.trod_lt m _ _ _ hm
  obtain ⟨a0, hr0⟩ := structV_arg (e := encPrg) Tryz.underlying69 (OpensV.iso (e' := encPrg) (OpensV.struct (tot := 1) Tryz.underlying69 (by kernel_rfl) (OpensVF.last rfl (by kernel_rfl) (OpensV.slice (el := 167) (sz := 4) (e := encTask) Tryz.underlying67 (by kernel_rfl) (by decide) (fun _ => rfl) (OpensV.iso (e' := encTask) (OpensV.struct (tot := 4) Tryz.underlying167 (by kernel_rfl) (OpensVF.cons (mid := 1) rfl (by kernel_rfl) (OpensV.slice (el := 205) (sz := 6) (e := encStmt) Tryz.underlying164 (by kernel_rfl) (by decide) (fun _ => rfl) (OpensV.iso (e' := encStmt) (OpensV.struct (tot := 6) Tryz.underlying205 (by kernel_rfl) (OpensVF.cons (mid := 1) rfl (by kernel_rfl) (OpensV.int Tryz.underlying3) (OpensVF.cons (mid := 2) rfl (by kernel_rfl) (OpensV.int Tryz.underlying3) (OpensVF.cons (mid := 3) rfl (by kernel_rfl) (OpensV.int Tryz.underlying3) (OpensVF.last rfl (by kernel_rfl) (OpensV.iso (e' := encExpr) (OpensV.struct (tot := 3) Tryz.underlying165 (by kernel_rfl) (OpensVF.cons (mid := 1) rfl (by kernel_rfl) (OpensV.int Tryz.underlying3) (OpensVF.cons (mid := 2) rfl (by kernel_rfl) (OpensV.int Tryz.underlying3) (OpensVF.last rfl (by kernel_rfl) (OpensV.int Tryz.underlying3))))) (fun p : Int × Int × Int => (⟨p.1, p.2.1, p.2.2⟩ : Av.Expr)) (fun _ => rfl))))))) (fun p : Int × Int × Int × Av.Expr => (⟨p.1, p.2.1, p.2.2.1, p.2.2.2⟩ : Av.Stmt)) (fun _ => rfl))) (OpensVF.last rfl (by kernel_rfl) (OpensV.iso (e' := encExpr) (OpensV.struct (tot := 3) Tryz.underlying165 (by kernel_rfl) (OpensVF.cons (mid := 1) rfl (by kernel_rfl) (OpensV.int Tryz.underlying3) (OpensVF.cons (mid := 2) rfl (by kernel_rfl) (OpensV.int Tryz.underlying3) (OpensVF.last rfl (by kernel_rfl) (OpensV.int Tryz.underlying3))))) (fun p : Int × Int × Int => (⟨p.1, p.2.1, p.2.2⟩ : Av.Expr)) (fun _ => rfl))))) (fun p : (List Av.Stmt) × Av.Expr => (⟨p.1, p.2⟩ : Av.Task)) (fun _ => rfl))))) (fun p : (List Av.Task) => (⟨p⟩ : Av.Prg)) (fun _ => rfl)) (hval 0 69 v0 rfl rfl) h0
  have k1 := h1
  have lt1 : ∀ x ∈ p1, x.block < W.heap.size := by obtain ⟨m, hm⟩ := k1; exact DataW.trod_lt m _ _ _ hm
  obtain ⟨a1, hr1⟩ := sliceV_arg (e := fun xs : List Int => V.lst 1 (xs.map Go.Av.encI)) Tryz.underlying27 (OpensV.slice (el := 3) (sz := 1) (e := Go.Av.encI) Tryz.underlying27 (by kernel_rfl) (by decide) (fun _ => rfl) (OpensV.int Tryz.underlying3)) (hval 1 27 v1 rfl rfl) h1
  have k2 := h2
  have lt2 : ∀ x ∈ p2, x.block < W.heap.size := by obtain ⟨m, hm⟩ := k2; exact DataW.trod_lt m _ _ _ hm
  obtain ⟨a2, hr2⟩ := sliceV_arg (e := fun xs : List Int => V.lst 1 (xs.map Go.Av.encI)) Tryz.underlying27 (OpensV.slice (el := 3) (sz := 1) (e := Go.Av.encI) Tryz.underlying27 (by kernel_rfl) (by decide) (fun _ => rfl) (OpensV.int Tryz.underlying3)) (hval 2 27 v2 rfl rfl) h2
  have k3 := h3
  have lt3 : ∀ x ∈ p3, x.block < W.heap.size := by obtain ⟨m, hm⟩ := k3; exact DataW.trod_lt m _ _ _ hm
  obtain ⟨a3, hr3⟩ := structV_arg (e := encStore) Tryz.underlying75 (OpensV.iso (e' := encStore) (OpensV.struct (tot := 4) Tryz.underlying75 (by kernel_rfl) (OpensVF.cons (mid := 1) rfl (by kernel_rfl) (OpensV.int Tryz.underlying3) (OpensVF.cons (mid := 2) rfl (by kernel_rfl) (OpensV.int Tryz.underlying3) (OpensVF.cons (mid := 3) rfl (by kernel_rfl) (OpensV.int Tryz.underlying3) (OpensVF.last rfl (by kernel_rfl) (OpensV.int Tryz.underlying3)))))) (fun p : Int × Int × Int × Int => (⟨p.1, p.2.1, p.2.2.1, p.2.2.2⟩ : Av.Store)) (fun _ => rfl)) (hval 3 75 v3 rfl rfl) h3
  have k4 := h4
  have lt4 : ∀ x ∈ p4, x.block < W.heap.size := by obtain ⟨m, hm⟩ := k4; exact DataW.trod_lt m _ _ _ hm
  obtain ⟨a4, hr4⟩ := sliceV_arg (e := fun xs : List Int => V.lst 1 (xs.map Go.Av.encI)) Tryz.underlying27 (OpensV.slice (el := 3) (sz := 1) (e := Go.Av.encI) Tryz.underlying27 (by kernel_rfl) (by decide) (fun _ => rfl) (OpensV.int Tryz.underlying3)) (hval 4 27 v4 rfl rfl) h4
  refine (CP.run (cargs := [v0, v1, v2, v3, v4]) (certRun_law a0.tasks a1 a2 a3 a4 (prg_bounds hr0).1 (prg_bounds hr0).2 (by have := lst_bound hr1; simpa using this) (by have := lst_bound hr2; simpa using this) (by have := lst_bound hr4; simpa using this)) rfl (fun j c v hc hv => ?_)).mono fun e W' ⟨he, bel⟩ => ?_
  · cases j with
    | zero => simp at hc hv; subst hc hv; exact hr0
    | succ j =>
      cases j with
      | zero => simp at hc hv; subst hc hv; exact hr1
      | succ j =>
        cases j with
        | zero => simp at hc hv; subst hc hv; exact hr2
        | succ j =>
          cases j with
          | zero => simp at hc hv; subst hc hv; exact hr3
          | succ j =>
            cases j with
            | zero => simp at hc hv; subst hc hv; exact hr4
            | succ j =>
              simp at hc
  subst he
  exact ⟨_, rfl, _, _, _, [], _, [], hW', trodAll_mk1 (shut_bool Tryz.underlying4 _), (trodAll_cons_mk (Below.trod laidOut (by kernel_rfl) (of_decide_eq_true (by kernel_rfl)) k0 bel lt0) (trodAll_cons_mk (Below.trod laidOut (by kernel_rfl) (of_decide_eq_true (by kernel_rfl)) k1 bel lt1) (trodAll_cons_mk (Below.trod laidOut (by kernel_rfl) (of_decide_eq_true (by kernel_rfl)) k2 bel lt2) (trodAll_cons_mk (Below.trod laidOut (by kernel_rfl) (of_decide_eq_true (by kernel_rfl)) k3 bel lt3) (trodAll_cons_mk (Below.trod laidOut (by kernel_rfl) (of_decide_eq_true (by kernel_rfl)) k4 bel lt4) trodAll_mk0))))), rfl, bel.frame _, fun h => by cases h⟩
theorem c1 : Rows.fnExactCertifiedRunRow.wf (OpenSpec.ofChange Rows.fnExactCertifiedRunSpec) = true := by kernel_rfl
theorem c2 : (Rows.fnExactCertifiedRunRow.inPlace == Tryz.prog.inPlace 12) = true := by kernel_rfl
theorem c3 : (Rows.fnExactCertifiedRunRow.unfollowed == Tryz.prog.unfollowed 12) = true := by kernel_rfl
theorem c4 : (Rows.fnExactCertifiedRunRow.recurses == Tryz.prog.recurses 12) = true := by kernel_rfl
theorem c5 : (Rows.fnExactCertifiedRunRow.named == Tryz.prog.varsNamed 12) = true := by kernel_rfl
theorem closed : joinedFacts Tryz.prog 12 Tryz.f12 Rows.fnExactCertifiedRunSpec Rows.fnExactCertifiedRunRow = true := by
  unfold joinedFacts
  rw [c1, c2, c3, c4, c5]
  kernel_rfl
theorem over : Rows.fnExactCertifiedRunRow.holds Tryz.pinned (OpenSpec.ofChange Rows.fnExactCertifiedRunSpec) :=
  OpenClaim.holds_of_wide 12 Tryz.f12 rfl rfl rfl rfl rfl rfl rfl ⟨rfl, rfl, rfl, rfl, rfl⟩ rfl rfl rfl rfl rfl (by kernel_rfl) Tryz.func12 closed
    (of_decide_eq_true (by kernel_rfl)) (by unfold Func.isWrapper; first | (rw [if_pos (by decide +kernel)]; kernel_rfl) | (rw [if_neg (by decide +kernel)]; exact ⟨rfl, rfl⟩))
    (fun os started H enc _ => lifted os started H enc)
theorem proved : Rows.FnExactCertifiedRunSaid := over
#print axioms proved
end Go.Proofs.YtjfmbdigfnablaaGreat.fnExactCertifiedRun
namespace Go.Proofs.YtjfmbdigfnablaaGreat
/-- The row, under a short name, for the claim. -/
theorem fnExactCertifiedRun_holds : Rows.FnExactCertifiedRunSaid := fnExactCertifiedRun.proved
end Go.Proofs.YtjfmbdigfnablaaGreat
