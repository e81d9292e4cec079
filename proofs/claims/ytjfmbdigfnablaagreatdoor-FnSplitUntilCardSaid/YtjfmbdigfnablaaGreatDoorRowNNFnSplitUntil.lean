/- The tied card of the law FnSplitUntil: for every input the law returns true and each argument reads behind the call as it read before. Condition: three tables of the library (two of math/bits, one of internal/strconv) hold when the call begins what the program's text lays in them; the card ties that. -/
import Derived.Test.YtjfmbdigfnablaaGreatDoorRows
import Derived.Test.YtjfmbdigfnablaaGreatDoorZZDDFnSplitUntil
import Derived.Test.YtjfmbdigfnablaaGreatDoorAv24
import Derived.WalkKit
import Derived.ProofKit
import Derived.OpenShut
import Derived.ShutString
import Derived.ChangeOld
import Derived.Below
import Derived.SizedLaws
import Derived.KernelRfl
import Derived.Carry
import Derived.ChangeSame
import Derived.LaidMore
import Derived.Lib.LaidTab
import Derived.Stop.Joined
import Derived.Stop.LaidErr
import Derived.SevenTiedAt
import Derived.Test.YtjfmbdigfnablaaGreatDoorTie
import Derived.Test.YtjfmbdigfnablaaGreatDoorCards
namespace Go.Proofs.YtjfmbdigfnablaaGreatDoor.fnSplitUntil
open Go.ChangeShapes Go.WideShapes Go.ChangeAt Go.RowKit Go.Av
set_option linter.unusedVariables false
set_option linter.unusedSimpArgs false
theorem own : ownKnob Tryz.prog.godebug = none := by kernel_rfl
theorem laidOut : laidOutB Tryz.prog = true := by kernel_rfl
theorem door_met (os : Os) (args : Array Value) : laidMetH Tryz.prog Rows.fnSplitUntilRow.laid ((World.doorLaid Tryz.prog 24 os).forCall (fun _ _ => 0) ⟨#[], args, []⟩).memory :=
  laidMetH_of_parts3 (fuel := 8) (laidMet_of_run' 8 (by kernel_rfl) (by kernel_rfl)) (by kernel_rfl) (by kernel_rfl)
theorem tab_of_laid {W : World} (h : laidMetH Tryz.prog Rows.fnSplitUntilRow.laid W) : TabOk (held W) W := by
  rw [MakeChecks.laidMetH_plain _ _ _ (by kernel_rfl)] at h
  have e : (Rows.laid_internal_strconv_uint64pow10 : DataW Unit) = Lib.tabData .u64 Lib.pow10Tab := by kernel_rfl
  have h2 : laidMet Tryz.prog [("internal/strconv.uint64pow10", Lib.tabData .u64 Lib.pow10Tab)] W := by
    have h3 := laidMet.tail (laidMet.tail h)
    rw [e] at h3
    exact h3
  have hg : Tryz.prog.globalNamed "internal/strconv.uint64pow10" = some 0 := by kernel_rfl
  have ht := Lib.tabIs_of_head (g := 0) (t := 141) (e := 121) (n := 20) hg (by kernel_rfl) Tryz.underlying141 Tryz.underlying121 (by kernel_rfl) (by kernel_rfl) h2
  unfold Lib.TabIs World.var? at ht
  rw [hg] at ht
  simp only [Option.bind_some] at ht
  have h0 : ∃ ty fz, W.heap[0]? = some (.cells (Lib.pow10Tab.map fun z => Value.int .u64 z).toArray ty fz) := by
    split at ht
    · rename_i cs ty fz he
      cases ht
      exact ⟨ty, fz, he⟩
    · cases ht
  refine ⟨?_, h0⟩
  obtain ⟨ty, fz, he⟩ := h0
  exact (Array.getElem?_eq_some_iff.1 he).1
set_option maxRecDepth 100000 in
theorem lifted (os : Os) (started : os.Started) (H : Type) (enc : TypeId × Value → H) :
    ReturnsInHanded {} Tryz.checked os 3 .any (fun w args => (Rows.fnSplitUntilSpec.pre enc Tryz.prog Tryz.f3 [] false w args ∧ laidMetH Tryz.prog Rows.fnSplitUntilRow.laid w) ∧ sizedMet enc Tryz.prog Tryz.f3 (OpenSpec.ofChange Rows.fnSplitUntilSpec) false w args)
      (Rows.fnSplitUntilSpec.post enc Tryz.prog Tryz.f3 false true false false) := by
  refine returnsInHanded_of_change_and (C := Tryz.checked) (X := fun w _ => laidMetH Tryz.prog Rows.fnSplitUntilRow.laid w) (fun _ _ _ hh h => h.of_heap hh) own started (by kernel_rfl) Tryz.func3
    (ChangeSpec.witness_shaped (enc := enc) (C := Tryz.checked) (os := os) (X := fun w _ => laidMetH Tryz.prog Rows.fnSplitUntilRow.laid w) false (World.doorLaid Tryz.prog 24 os) #[.slice none 0 0] 8 rfl (World.shaped_of_RefB (by kernel_rfl) (by kernel_rfl)) (by kernel_rfl) (by kernel_rfl) (by kernel_rfl) (door_met os _)) ?_
  intro W base args ds gs before hval0 hW hcnd hsz0 hL _
  have hval : ∀ (j : Nat) t v, Tryz.f3.params[j]? = some t → args[j]? = some v → Value.okWide Tryz.prog W .any base t v := hval0
  have hW' := hW
  obtain ⟨p, q, hA0, hV, rfl, hfz, hnd⟩ := hW
  have hA : DataW.TrodAll enc Tryz.prog W 0 (fun _ => true) true Tryz.f3.params.toList args.toList ds p := hA0
  rw [Tryz.params3] at hA hval
  obtain ⟨v0, vs0, d0, ds0, p0, q0, hargs, rfl, rfl, h0, r0⟩ := trodAll_cons hA
  obtain ⟨rfl, rfl, rfl⟩ := trodAll_nil r0
  obtain rfl : args = #[v0] := by cases args; simp_all
  obtain ⟨rfl, rfl⟩ := trodVars_none hV
  clear hA0 hval0 hsz0
  have k0 := h0
  have lt0 : ∀ x ∈ p0, x.block < W.heap.size := by obtain ⟨m, hm⟩ := k0; exact DataW.trod_lt m _ _ _ hm
  obtain ⟨a0, hr0⟩ := sliceV_arg (e := fun xs : List Int => V.lst 1 (xs.map Go.Av.encB)) Tryz.underlying22 (OpensV.slice (el := 5) (sz := 1) (e := Go.Av.encB) Tryz.underlying22 (by kernel_rfl) (by decide) (fun _ => rfl) (OpensV.int Tryz.underlying5)) (hval 0 22 v0 rfl rfl) h0
  refine (CP.run (cargs := [v0]) (su_law a0 (by have := lst_bound hr0; simpa using this)) (tab_of_laid hL) rfl (fun j c v hc hv => ?_)).mono fun e W' ⟨he, bel⟩ => ?_
  · cases j with
    | zero => simp at hc hv; subst hc hv; exact hr0
    | succ j =>
      simp at hc
  subst he
  exact ⟨_, rfl, _, _, _, [], _, [], hW', trodAll_mk1 (shut_bool Tryz.underlying4 _), (trodAll_cons_mk (Below.trod laidOut (by kernel_rfl) (of_decide_eq_true (by kernel_rfl)) k0 bel lt0) trodAll_mk0), rfl, bel.frame _, fun h => by cases h⟩
theorem c1 : Rows.fnSplitUntilRow.wf (OpenSpec.ofChange Rows.fnSplitUntilSpec) = true := by kernel_rfl
theorem c2 : (Rows.fnSplitUntilRow.inPlace == Tryz.prog.inPlace 3) = true := by kernel_rfl
theorem c3 : (Rows.fnSplitUntilRow.unfollowed == Tryz.prog.unfollowed 3) = true := by kernel_rfl
theorem c4 : (Rows.fnSplitUntilRow.recurses == Tryz.prog.recurses 3) = true := by kernel_rfl
theorem c5 : (Rows.fnSplitUntilRow.named == Tryz.prog.varsNamed 3) = true := by kernel_rfl
theorem closed : joinedFacts Tryz.prog 3 Tryz.f3 Rows.fnSplitUntilSpec Rows.fnSplitUntilRow = true := by
  unfold joinedFacts
  rw [c1, c2, c3, c4, c5]
  kernel_rfl
theorem over : Rows.fnSplitUntilRow.holds Tryz.pinned (OpenSpec.ofChange Rows.fnSplitUntilSpec) :=
  OpenClaim.holds_of_wide 3 Tryz.f3 rfl rfl rfl rfl rfl rfl rfl ⟨rfl, rfl, rfl, rfl, rfl⟩ rfl rfl rfl rfl rfl (by kernel_rfl) Tryz.func3 closed
    (of_decide_eq_true (by kernel_rfl)) (by unfold Func.isWrapper; first | (rw [if_pos (by decide +kernel)]; kernel_rfl) | (rw [if_neg (by decide +kernel)]; exact ⟨rfl, rfl⟩))
    (fun os started H enc _ => lifted os started H enc)
theorem rowSaid : Rows.FnSplitUntilSaid := over
theorem proved : Rows.FnSplitUntilCardSaid :=
  Claim7.holds_tied_plain_at .later [] [.data, .data, .data] true (true, "09532293ad93ae334f7dca4813b4040878e7c72f06d7c45939dbf14fda03eed5") false
    rowSaid (fun _ h => by cases h) (by kernel_rfl) (fun _ h => by cases h) fnSplitUntil_row_tie rfl ⟨rfl, rfl⟩ (by kernel_rfl) rfl
    (fun f fn hf hfn => by
      obtain rfl : f = 3 := Option.some.inj ((show Tryz.prog.funcNamed "loop.example/g00983/laws.FnSplitUntil" = some 3 by kernel_rfl).symm.trans hf) |>.symm
      obtain rfl : fn = Tryz.f3 := (Option.some.inj (Tryz.func3.symm.trans hfn)).symm
      exact ⟨by kernel_rfl, fun j t ht => by
        rw [Tryz.params3] at ht
        have hm : t ∈ [22] := by simpa using Array.mem_of_getElem? ht
        have hall : ([22].all fun u => !Tryz.prog.wantsStandIn u) = true := by kernel_rfl
        exact (show Tryz.prog.wantsStandIn t = false by simpa using List.all_eq_true.1 hall t hm)⟩)
    (by kernel_rfl)
#print axioms proved
end Go.Proofs.YtjfmbdigfnablaaGreatDoor.fnSplitUntil
namespace Go.Proofs.YtjfmbdigfnablaaGreatDoor
/-- The tied card, under a short name, for the claim. -/
theorem fnSplitUntil_holds : Rows.FnSplitUntilCardSaid := fnSplitUntil.proved
end Go.Proofs.YtjfmbdigfnablaaGreatDoor
