import Derived.Test.YtpjcclgpkicadaaJ6Code
namespace Go.Av
open Go.Proofs Go.RowKit
set_option linter.unusedVariables false
set_option linter.unusedSimpArgs false
set_option maxRecDepth 100000
set_option maxHeartbeats 4000000
theorem mixed : Try.prog.follows .mixedOrders = true := by kernel_rfl
theorem new_c (bs : List Int) (h : Heap) (hb : bs.length ≤ 1048576) : C Try.prog 56 [.lst 1 (bs.map encB)] h (fun r h' => r = .ptr h.length 1 0 0 ∧ Ext h h' ∧ Cur h' h.length) := by
  refine C.by mixed (cfn_ok Try.func56 ok56) rfl ?_
  simp (disch := omega) only [s56, go_sem, Nat.reduceEqDiff, Nat.reduceAdd, Nat.reduceSub, Nat.reduceLeDiff, Nat.reduceLT, Nat.reduceMul, Nat.reduceBEq, Int.reduceEq, Int.reduceLT, Int.reduceLE, Int.reduceNeg, Int.reduceToNat, Int.reduceSub, Int.reduceAdd, reduceIte]
  refine loopP_intro (fun m s => ∃ (k : Nat), k ≤ bs.length ∧ m = bs.length - k ∧ s.e 0 = .lst 1 (bs.map encB) ∧ s.e 4 = .int .i64 k ∧ s.h = h ∧ ∃ x, s.e 3 = .int .i64 x) bs.length ⟨0, by omega, by omega, rfl, rfl, rfl, _, by simp (disch := omega) only [go_sem, Nat.reduceEqDiff, Nat.reduceAdd, Nat.reduceSub, Nat.reduceLeDiff, Nat.reduceLT, Nat.reduceMul, Nat.reduceBEq, Int.reduceEq, Int.reduceLT, Int.reduceLE, Int.reduceNeg, Int.reduceToNat, Int.reduceSub, Int.reduceAdd, reduceIte]; rfl⟩ ?_
  rintro m e hp ⟨k, hk, rfl, e0, e4, hh, x, e3⟩
  simp only at e0 e4 e3 hh
  subst hh
  simp (disch := omega) only [go_sem, Nat.reduceEqDiff, Nat.reduceAdd, Nat.reduceSub, Nat.reduceLeDiff, Nat.reduceLT, Nat.reduceMul, Nat.reduceBEq, Int.reduceEq, Int.reduceLT, Int.reduceLE, Int.reduceNeg, Int.reduceToNat, Int.reduceSub, Int.reduceAdd, reduceIte, e0, e4, e3, encB, splice]
  have hend : Ext hp (hp ++ [[[V.lst 1 (bs.map encB), .int .i64 0, .int .i64 x]]]) ∧ Cur (hp ++ [[[V.lst 1 (bs.map encB), .int .i64 0, .int .i64 x]]]) hp.length := ⟨Ext.app _ _, bs, 0, x, by simp, by omega, by omega, hb⟩
  refine condP_dec (fun hlt => ?_) (fun hlt => ?_)
  · have hlt' : k < bs.length := by omega
    simp (disch := omega) only [go_sem, Nat.reduceEqDiff, Nat.reduceAdd, Nat.reduceSub, Nat.reduceLeDiff, Nat.reduceLT, Nat.reduceMul, Nat.reduceBEq, Int.reduceEq, Int.reduceLT, Int.reduceLE, Int.reduceNeg, Int.reduceToNat, Int.reduceSub, Int.reduceAdd, reduceIte, e0, e4, e3, encB, splice]
    refine condP_dec (fun h4 => ?_) (fun h4 => ?_)
    · simp (disch := omega) only [go_sem, Nat.reduceEqDiff, Nat.reduceAdd, Nat.reduceSub, Nat.reduceLeDiff, Nat.reduceLT, Nat.reduceMul, Nat.reduceBEq, Int.reduceEq, Int.reduceLT, Int.reduceLE, Int.reduceNeg, Int.reduceToNat, Int.reduceSub, Int.reduceAdd, reduceIte, e0, e4, e3, encB, splice]
      refine nextP_intro (bs.length - (k + 1)) (by omega) ⟨k + 1, by omega, rfl, ?_, ?_, rfl, ?_⟩
      · simp (disch := omega) only [go_sem, Nat.reduceEqDiff, Nat.reduceAdd, Nat.reduceSub, Nat.reduceLeDiff, Nat.reduceLT, Nat.reduceMul, Nat.reduceBEq, Int.reduceEq, Int.reduceLT, Int.reduceLE, Int.reduceNeg, Int.reduceToNat, Int.reduceSub, Int.reduceAdd, reduceIte, e0, e4, e3, encB, splice]
      · simp (disch := omega) only [go_sem, Nat.reduceEqDiff, Nat.reduceAdd, Nat.reduceSub, Nat.reduceLeDiff, Nat.reduceLT, Nat.reduceMul, Nat.reduceBEq, Int.reduceEq, Int.reduceLT, Int.reduceLE, Int.reduceNeg, Int.reduceToNat, Int.reduceSub, Int.reduceAdd, reduceIte, e0, e4, e3, encB, splice]; rfl
      · exact ⟨_, by simp (disch := omega) only [go_sem, Nat.reduceEqDiff, Nat.reduceAdd, Nat.reduceSub, Nat.reduceLeDiff, Nat.reduceLT, Nat.reduceMul, Nat.reduceBEq, Int.reduceEq, Int.reduceLT, Int.reduceLE, Int.reduceNeg, Int.reduceToNat, Int.reduceSub, Int.reduceAdd, reduceIte, e0, e4, e3, encB, splice]; rfl⟩
    · simp (disch := omega) only [go_sem, Nat.reduceEqDiff, Nat.reduceAdd, Nat.reduceSub, Nat.reduceLeDiff, Nat.reduceLT, Nat.reduceMul, Nat.reduceBEq, Int.reduceEq, Int.reduceLT, Int.reduceLE, Int.reduceNeg, Int.reduceToNat, Int.reduceSub, Int.reduceAdd, reduceIte, e0, e4, e3, encB, splice]
      exact hend
  · simp (disch := omega) only [go_sem, Nat.reduceEqDiff, Nat.reduceAdd, Nat.reduceSub, Nat.reduceLeDiff, Nat.reduceLT, Nat.reduceMul, Nat.reduceBEq, Int.reduceEq, Int.reduceLT, Int.reduceLE, Int.reduceNeg, Int.reduceToNat, Int.reduceSub, Int.reduceAdd, reduceIte, e0, e4, e3, encB, splice]
    exact hend
theorem byte_c (h : Heap) (id : Nat) (hc : Cur h id) : DI Try.prog 109 [.ptr id 1 0 0] h id 0 256 := by
  obtain ⟨bs, i, hh, e1, hi0, hi1, hb⟩ := hc
  refine C.by mixed (cfn_ok Try.func109 ok109) rfl ?_
  have hs : ∀ c, (h.set id c)[id]? = some c := fun c => heap_set c e1
  simp (disch := omega) only [s109, go_sem, Nat.reduceEqDiff, Nat.reduceAdd, Nat.reduceSub, Nat.reduceLeDiff, Nat.reduceLT, Nat.reduceMul, Nat.reduceBEq, Int.reduceEq, Int.reduceLT, Int.reduceLE, Int.reduceNeg, Int.reduceToNat, Int.reduceSub, Int.reduceAdd, reduceIte, e1, encB, storeH, storeB, splice, hs, List.set_set]
  refine condP_dec (fun hlt => ?_) (fun hlt => ?_)
  · simp (disch := omega) only [go_sem, Nat.reduceEqDiff, Nat.reduceAdd, Nat.reduceSub, Nat.reduceLeDiff, Nat.reduceLT, Nat.reduceMul, Nat.reduceBEq, Int.reduceEq, Int.reduceLT, Int.reduceLE, Int.reduceNeg, Int.reduceToNat, Int.reduceSub, Int.reduceAdd, reduceIte, e1, encB, storeH, storeB, splice, hs, List.set_set]
    exact ⟨_, rfl, (and_255 _).1, and_255_lt _, ⟨bs, i + 1, _, hs _, by omega, by omega, hb⟩, ExtX.set _ _ _⟩
  · simp (disch := omega) only [go_sem, Nat.reduceEqDiff, Nat.reduceAdd, Nat.reduceSub, Nat.reduceLeDiff, Nat.reduceLT, Nat.reduceMul, Nat.reduceBEq, Int.reduceEq, Int.reduceLT, Int.reduceLE, Int.reduceNeg, Int.reduceToNat, Int.reduceSub, Int.reduceAdd, reduceIte, e1, encB, storeH, storeB, splice, hs, List.set_set]
    exact ⟨_, rfl, (and_255 _).1, and_255_lt _, ⟨bs, i, _, hs _, by omega, by omega, hb⟩, ExtX.set _ _ _⟩
theorem below_c (h : Heap) (id : Nat) (n : Int) (hc : Cur h id) (hn : n ≤ 4294967296) : DI Try.prog 59 [.ptr id 1 0 0, .int .i64 n] h id 0 (max 1 n) := by
  refine C.by mixed (cfn_ok Try.func59 ok59) rfl ?_
  simp (disch := omega) only [s59, go_sem, Nat.reduceEqDiff, Nat.reduceAdd, Nat.reduceSub, Nat.reduceLeDiff, Nat.reduceLT, Nat.reduceMul, Nat.reduceBEq, Int.reduceEq, Int.reduceLT, Int.reduceLE, Int.reduceNeg, Int.reduceToNat, Int.reduceSub, Int.reduceAdd, reduceIte]
  refine condP_dec (fun h0 => ?_) (fun h0 => ?_)
  · simp (disch := omega) only [go_sem, Nat.reduceEqDiff, Nat.reduceAdd, Nat.reduceSub, Nat.reduceLeDiff, Nat.reduceLT, Nat.reduceMul, Nat.reduceBEq, Int.reduceEq, Int.reduceLT, Int.reduceLE, Int.reduceNeg, Int.reduceToNat, Int.reduceSub, Int.reduceAdd, reduceIte]
    exact ⟨0, rfl, by omega, by omega, hc, ExtX.refl _ _⟩
  · simp (disch := omega) only [go_sem, Nat.reduceEqDiff, Nat.reduceAdd, Nat.reduceSub, Nat.reduceLeDiff, Nat.reduceLT, Nat.reduceMul, Nat.reduceBEq, Int.reduceEq, Int.reduceLT, Int.reduceLE, Int.reduceNeg, Int.reduceToNat, Int.reduceSub, Int.reduceAdd, reduceIte]
    refine condP_dec (fun h1 => ?_) (fun h1 => ?_)
    · simp (disch := omega) only [go_sem, Nat.reduceEqDiff, Nat.reduceAdd, Nat.reduceSub, Nat.reduceLeDiff, Nat.reduceLT, Nat.reduceMul, Nat.reduceBEq, Int.reduceEq, Int.reduceLT, Int.reduceLE, Int.reduceNeg, Int.reduceToNat, Int.reduceSub, Int.reduceAdd, reduceIte]
      refine DI.go (byte_c _ _ hc) fun z h1 z0 z1 c1 x1 => ?_
      simp (disch := omega) only [go_sem, Nat.reduceEqDiff, Nat.reduceAdd, Nat.reduceSub, Nat.reduceLeDiff, Nat.reduceLT, Nat.reduceMul, Nat.reduceBEq, Int.reduceEq, Int.reduceLT, Int.reduceLE, Int.reduceNeg, Int.reduceToNat, Int.reduceSub, Int.reduceAdd, reduceIte]
      have := tmod_bd (n := n) z0 (by omega)
      exact ⟨_, rfl, this.1, by omega, c1, x1⟩
    · simp (disch := omega) only [go_sem, Nat.reduceEqDiff, Nat.reduceAdd, Nat.reduceSub, Nat.reduceLeDiff, Nat.reduceLT, Nat.reduceMul, Nat.reduceBEq, Int.reduceEq, Int.reduceLT, Int.reduceLE, Int.reduceNeg, Int.reduceToNat, Int.reduceSub, Int.reduceAdd, reduceIte]
      refine DI.go (byte_c _ _ hc) fun a h1 a0 a1 c1 x1 => ?_
      simp (disch := omega) only [go_sem, Nat.reduceEqDiff, Nat.reduceAdd, Nat.reduceSub, Nat.reduceLeDiff, Nat.reduceLT, Nat.reduceMul, Nat.reduceBEq, Int.reduceEq, Int.reduceLT, Int.reduceLE, Int.reduceNeg, Int.reduceToNat, Int.reduceSub, Int.reduceAdd, reduceIte]
      refine DI.go (byte_c _ _ c1) fun b h2 b0 b1 c2 x2 => ?_
      simp (disch := omega) only [go_sem, Nat.reduceEqDiff, Nat.reduceAdd, Nat.reduceSub, Nat.reduceLeDiff, Nat.reduceLT, Nat.reduceMul, Nat.reduceBEq, Int.reduceEq, Int.reduceLT, Int.reduceLE, Int.reduceNeg, Int.reduceToNat, Int.reduceSub, Int.reduceAdd, reduceIte]
      refine DI.go (byte_c _ _ c2) fun c h3 c0 c1' c3 x3 => ?_
      simp (disch := omega) only [go_sem, Nat.reduceEqDiff, Nat.reduceAdd, Nat.reduceSub, Nat.reduceLeDiff, Nat.reduceLT, Nat.reduceMul, Nat.reduceBEq, Int.reduceEq, Int.reduceLT, Int.reduceLE, Int.reduceNeg, Int.reduceToNat, Int.reduceSub, Int.reduceAdd, reduceIte]
      refine DI.go (byte_c _ _ c3) fun d h4 d0 d1 c4 x4 => ?_
      simp (disch := omega) only [go_sem, Nat.reduceEqDiff, Nat.reduceAdd, Nat.reduceSub, Nat.reduceLeDiff, Nat.reduceLT, Nat.reduceMul, Nat.reduceBEq, Int.reduceEq, Int.reduceLT, Int.reduceLE, Int.reduceNeg, Int.reduceToNat, Int.reduceSub, Int.reduceAdd, reduceIte]
      have := tmod_bd (a := a * 16777216 + b * 65536 + c * 256 + d) (n := n) (by omega) (by omega)
      exact ⟨_, rfl, this.1, by omega, c4, ((x1.trans c1 x2).trans c2 x3).trans c3 x4⟩
def DB (P : Program) (f : FuncId) (args : List V) (h : Heap) (id : Nat) : Prop := C P f args h (fun r h' => ∃ b, r = .bool b ∧ Cur h' id ∧ ExtX id h h')
theorem DB.go {P : Program} {f : FuncId} {args : List V} {h : Heap} {id : Nat} {K : V → Heap → Prop} (hc : DB P f args h id) (hk : ∀ b h', Cur h' id → ExtX id h h' → K (.bool b) h') : @callP P f args h ⟨K⟩ :=
  C.go hc fun r h' ⟨z, e, c, d⟩ => by subst e; exact hk z h' c d
theorem once_c (h : Heap) (id : Nat) (n : Int) (hc : Cur h id) (hn : n ≤ 4294967296) : DB Try.prog 107 [.ptr id 1 0 0, .int .i64 n] h id := by
  refine C.by mixed (cfn_ok Try.func107 ok107) rfl ?_
  simp (disch := omega) only [s107, go_sem, Nat.reduceEqDiff, Nat.reduceAdd, Nat.reduceSub, Nat.reduceLeDiff, Nat.reduceLT, Nat.reduceMul, Nat.reduceBEq, Int.reduceEq, Int.reduceLT, Int.reduceLE, Int.reduceNeg, Int.reduceToNat, Int.reduceSub, Int.reduceAdd, reduceIte]
  refine DI.go (below_c _ _ _ hc hn) fun z h1 z0 z1 c1 x1 => ?_
  simp (disch := omega) only [go_sem, Nat.reduceEqDiff, Nat.reduceAdd, Nat.reduceSub, Nat.reduceLeDiff, Nat.reduceLT, Nat.reduceMul, Nat.reduceBEq, Int.reduceEq, Int.reduceLT, Int.reduceLE, Int.reduceNeg, Int.reduceToNat, Int.reduceSub, Int.reduceAdd, reduceIte]
  exact ⟨_, rfl, c1, x1⟩
theorem pick_c (h : Heap) (id lid : Nat) (zs : List Int) (n : Nat) (hc : Cur h id) (hl : h[lid]? = some (zs.map encI)) (hne : lid ≠ id) (hz : zs.length = n) (h0 : 0 < n) (hn : n ≤ 4294967296) : C Try.prog 114 [.ptr id 1 0 0, .own lid 1 0 n n] h (fun r h' => ∃ z, r = .int .i64 z ∧ z ∈ zs ∧ Cur h' id ∧ ExtX id h h') := by
  refine C.by mixed (cfn_ok Try.func114 ok114) rfl ?_
  simp (disch := omega) only [s114, go_sem, Nat.reduceEqDiff, Nat.reduceAdd, Nat.reduceSub, Nat.reduceLeDiff, Nat.reduceLT, Nat.reduceMul, Nat.reduceBEq, Int.reduceEq, Int.reduceLT, Int.reduceLE, Int.reduceNeg, Int.reduceToNat, Int.reduceSub, Int.reduceAdd, reduceIte]
  refine DI.go (below_c _ _ _ hc (by omega)) fun z h1 z0 z1 c1 x1 => ?_
  have hl1 := x1.get hl hne
  have hlt : z.toNat < zs.length := by omega
  have hg : zs[z.toNat]? = some zs[z.toNat] := List.getElem?_eq_getElem hlt
  simp (disch := omega) only [go_sem, Nat.reduceEqDiff, Nat.reduceAdd, Nat.reduceSub, Nat.reduceLeDiff, Nat.reduceLT, Nat.reduceMul, Nat.reduceBEq, Int.reduceEq, Int.reduceLT, Int.reduceLE, Int.reduceNeg, Int.reduceToNat, Int.reduceSub, Int.reduceAdd, reduceIte, hl1, hz, hg, List.getElem?_map, encI]
  exact ⟨_, rfl, List.getElem_mem hlt, c1, x1⟩
end Go.Av
