import Derived.Test.YtpjcclgpkicadaaJ6SaveS
namespace Go.Av
open Go.Proofs Go.RowKit
set_option linter.unusedVariables false
set_option linter.unusedSimpArgs false
set_option maxRecDepth 100000
set_option maxHeartbeats 4000000
theorem saveSome_g (p : Pair) (ws : List Int) (count : Int) (hp : PairIn p) (hw : ws.length ≤ 1048576) : F Try.prog 33 [.agg (encPair p), .lst 1 (ws.map encI), .int .i64 count] (savedR p ws count) := by
  refine C.by mixed (cfn_ok Try.func33 ok33) rfl ?_
  simp (disch := omega) only [s33, go_sem, Nat.reduceEqDiff, Nat.reduceAdd, Nat.reduceSub, Nat.reduceLeDiff, Nat.reduceLT, Nat.reduceMul, Nat.reduceBEq, Int.reduceEq, Int.reduceLT, Int.reduceLE, Int.reduceNeg, Int.reduceToNat, Int.reduceSub, Int.reduceAdd, reduceIte, encPair]
  refine F.go (copySlot_s p.a hp.a) (.same (refs_slot1 _ p.a)) fun r ha idsa xa na ga o1 => ?_
  obtain ⟨cs, rfl, p1⟩ := Owns.aggR.1 o1
  obtain ⟨va, rfl, oa1⟩ := p1.slot
  obtain ⟨ao, an, ac⟩ := oa1.vv
  have b0 := xa.get (i := 0) rfl
  have b1 := xa.get (i := 1) rfl
  simp (disch := omega) only [go_sem, Nat.reduceEqDiff, Nat.reduceAdd, Nat.reduceSub, Nat.reduceLeDiff, Nat.reduceLT, Nat.reduceMul, Nat.reduceBEq, Int.reduceEq, Int.reduceLT, Int.reduceLE, Int.reduceNeg, Int.reduceToNat, Int.reduceSub, Int.reduceAdd, reduceIte, ao, an, ac, b0]
  refine F.go (copySlot_s p.b hp.b) (.same (refs_slot1 _ p.b)) fun r h1 idsb xb nb gb o2 => ?_
  obtain ⟨cs, rfl, p2⟩ := Owns.aggR.1 o2
  obtain ⟨vb, rfl, ob⟩ := p2.slot
  obtain ⟨bo, bn, bc⟩ := ob.vv
  have b0 := xb.get b0
  have b1 := xb.get b1
  have b0' := fun t => heap_app (h' := t) b0
  have lta := oa1.lt
  have oa := oa1.up xb
  have ltb := ob.lt
  have lta1 := oa.lt
  have n1 : (idsa ++ idsb).Nodup := by
    rw [List.nodup_append]
    exact ⟨na, nb, fun x hx y hy e => by subst e; have := lta x hx; have := gb x hy; omega⟩
  have g1 : ∀ i ∈ idsa ++ idsb, 2 ≤ i := fun i hi => by
    rcases List.mem_append.1 hi with q | q
    · have := ga i q; simpa using this
    · have := gb i q; have := xa.len; simp at this; omega
  have lt1 : ∀ i ∈ idsa ++ idsb, i < h1.length := fun i hi => by
    rcases List.mem_append.1 hi with q | q
    · exact lta1 i q
    · exact ltb i q
  have st1 : PSt (h1 ++ [[[.int .i64 p.a.seq, va, .int .i64 p.a.sum, .int .i64 p.b.seq, vb, .int .i64 p.b.sum]]]) h1.length p va vb idsa idsb := ⟨at_app0 _ _, oa.up (Ext.app _ _), ob.up (Ext.app _ _), n1, fun hm => by have := lt1 _ hm; omega⟩
  simp (disch := omega) only [go_sem, Nat.reduceEqDiff, Nat.reduceAdd, Nat.reduceSub, Nat.reduceLeDiff, Nat.reduceLT, Nat.reduceMul, Nat.reduceBEq, Int.reduceEq, Int.reduceLT, Int.reduceLE, Int.reduceNeg, Int.reduceToNat, Int.reduceSub, Int.reduceAdd, reduceIte, ao, an, ac, bo, bn, bc, b0', splice]
  refine F.go (saveWrites_s p ws hp hw) (.same (refs_save _ p ws)) fun r h2 ids2 x2 n2 g2 o2 => ?_
  obtain ⟨vl, rfl, ol⟩ := OwnsR.lstIB o2
  obtain ⟨lo, ln, lc⟩ := ol.vv
  have st2 := st1.up x2
  have bb := st2.box
  have b1' := x2.get (heap_app (h' := [[[.int .i64 p.a.seq, va, .int .i64 p.a.sum, .int .i64 p.b.seq, vb, .int .i64 p.b.sum]]]) b1)
  have q1 : ∀ c, (h2.set 1 c)[1]? = some c := fun c => heap_set _ b1'
  have n1i : 1 ∉ idsa ++ idsb := nin_ge g1 (by omega)
  have hno : saveOk p ws = false ∨ count < 0 → ∃ ids : List Nat, ids.Nodup ∧ OwnsR (h2.set 1 [[.int .i64 p.a.seq, va, .int .i64 p.a.sum, .int .i64 p.b.seq, vb, .int .i64 p.b.sum]]) (savedR p ws count) (.tup [.agg [.int .i64 p.a.seq, va, .int .i64 p.a.sum, .int .i64 p.b.seq, vb, .int .i64 p.b.sum], .bool false]) ids := fun c => by
    rw [saved_no c]; exact st2.res _ _ _ n1i
  simp (disch := omega) only [go_sem, Nat.reduceEqDiff, Nat.reduceAdd, Nat.reduceSub, Nat.reduceLeDiff, Nat.reduceLT, Nat.reduceMul, Nat.reduceBEq, Int.reduceEq, Int.reduceLT, Int.reduceLE, Int.reduceNeg, Int.reduceToNat, Int.reduceSub, Int.reduceAdd, reduceIte, ao, an, ac, bo, bn, bc, lo, ln, lc, bb, b1', q1, storeH, storeB, splice]
  refine condP_split (fun hk => ?_) (fun hk => ?_)
  · simp (disch := omega) only [go_sem, Nat.reduceEqDiff, Nat.reduceAdd, Nat.reduceSub, Nat.reduceLeDiff, Nat.reduceLT, Nat.reduceMul, Nat.reduceBEq, Int.reduceEq, Int.reduceLT, Int.reduceLE, Int.reduceNeg, Int.reduceToNat, Int.reduceSub, Int.reduceAdd, reduceIte, hk, ao, an, ac, bo, bn, bc, lo, ln, lc, bb, b1', q1, storeH, storeB, splice]
    refine condP_dec (fun hc => ?_) (fun hc => ?_)
    · simp (disch := omega) only [go_sem, Nat.reduceEqDiff, Nat.reduceAdd, Nat.reduceSub, Nat.reduceLeDiff, Nat.reduceLT, Nat.reduceMul, Nat.reduceBEq, Int.reduceEq, Int.reduceLT, Int.reduceLE, Int.reduceNeg, Int.reduceToNat, Int.reduceSub, Int.reduceAdd, reduceIte, hk, ao, an, ac, bo, bn, bc, lo, ln, lc, bb, b1', q1, storeH, storeB, splice]
      exact hno (.inr hc)
    · have h9 := saveList_len hk
      refine Exists.elim (flat_own ol h9 (by decide)) fun l z => ?_
      have hl := z.2.1
      have z1 := z.1
      have z3 := z.2.2
      clear z
      subst z1
      subst z3
      have hl1 : h1.length + 1 ≤ l := by have := g2 l (by simp); simpa using this
      have l1 := xa.len
      have l2 := xb.len
      simp only [List.length_cons, List.length_nil] at l1
      simp (disch := omega) only [go_sem, Nat.reduceEqDiff, Nat.reduceAdd, Nat.reduceSub, Nat.reduceLeDiff, Nat.reduceLT, Nat.reduceMul, Nat.reduceBEq, Int.reduceEq, Int.reduceLT, Int.reduceLE, Int.reduceNeg, Int.reduceToNat, Int.reduceSub, Int.reduceAdd, reduceIte, hk, ao, an, ac, bo, bn, bc, lo, ln, lc, bb, b1', q1, storeH, storeB, splice]
      have nia : h1.length ∉ idsa := fun hm => st2.ni (by simp [hm])
      have nib : h1.length ∉ idsb := fun hm => st2.ni (by simp [hm])
      have nda := (List.nodup_append.1 n1)
      have lni : l ∉ idsa ++ idsb := fun hm => by have := lt1 l hm; omega
      have lt2 := heap_lt bb
      refine condP_dec (fun h0 => ?_) (fun h0 => ?_)
      · simp (disch := omega) only [go_sem, Nat.reduceEqDiff, Nat.reduceAdd, Nat.reduceSub, Nat.reduceLeDiff, Nat.reduceLT, Nat.reduceMul, Nat.reduceBEq, Int.reduceEq, Int.reduceLT, Int.reduceLE, Int.reduceNeg, Int.reduceToNat, Int.reduceSub, Int.reduceAdd, reduceIte, hk, ao, an, ac, bo, bn, bc, lo, ln, lc, bb, b1', q1, storeH, storeB, splice]
        refine C.go (write_s h2 l 9 (saveList p ws) p.a va idsa count st2.oa nda.1 hl h9 rfl (fun hm => lni (by simp [hm])) (by omega)) ?_
        rintro r h3 ⟨v, ids3, rfl, so, sn, snew, sfr, sle⟩
        have vo := Owns.one so
        have vn := Owns.nohole so
        have vc := Owns.cells so
        have c1 : h3[1]? = h2[1]? := sfr 1 (by omega) (fun hm => n1i (by simp [hm]))
        rw [b1'] at c1
        have c2 : h3[h1.length]? = h2[h1.length]? := sfr _ (by omega) nia
        rw [bb] at c2
        have si : h1.length ∉ ids3 := fun hm => by
          rcases snew _ hm with q | q
          · exact nia q
          · omega
        have e1 : ∀ c, (h3.set h1.length c)[h1.length]? = some c := fun c => heap_set _ c2
        have e2 : ∀ c, (h3.set h1.length c)[1]? = some [[.int .i64 0, .nils, .int .i64 0, .int .i64 0, .nils, .int .i64 0]] := fun c => heap_set_ne _ (by omega) c1
        have e3 : ∀ c d, ((h3.set h1.length c).set 1 d)[1]? = some d := fun c d => heap_set _ (e2 c)
        have st3 : PSt (h3.set h1.length [[.int .i64 (runI 0 p.a ((saveList p ws).take count.toNat)).seq, v, .int .i64 (runI 0 p.a ((saveList p ws).take count.toNat)).sum, .int .i64 p.b.seq, vb, .int .i64 p.b.sum]]) h1.length ⟨runI 0 p.a ((saveList p ws).take count.toNat), p.b⟩ v vb ids3 idsb := ⟨e1 _, so.set _ si, (st2.ob.keep fun i hi => sfr i (by have := lt1 i (by simp [hi]); omega) (fun hm => nda.2.2 i hm i hi rfl)).set _ nib, by
          rw [List.nodup_append]
          exact ⟨sn, nda.2.1, fun x hx y hy e => by
            subst e
            rcases snew x hx with q | q
            · exact nda.2.2 x q x hy rfl
            · have := lt1 x (by simp [hy]); omega⟩, fun hm => by
          rcases List.mem_append.1 hm with q | q
          · exact si q
          · exact nib q⟩
        have hr : savedR p ws count = .tup [.agg (encPair ⟨runI 0 p.a ((saveList p ws).take count.toNat), p.b⟩), .bool true] := by
          unfold savedR savedP savedK
          rw [if_pos ⟨hk, by omega⟩, if_pos h0, hk]
          have : 0 ≤ count := by omega
          simp [this]
        simp (disch := omega) only [go_sem, Nat.reduceEqDiff, Nat.reduceAdd, Nat.reduceSub, Nat.reduceLeDiff, Nat.reduceLT, Nat.reduceMul, Nat.reduceBEq, Int.reduceEq, Int.reduceLT, Int.reduceLE, Int.reduceNeg, Int.reduceToNat, Int.reduceSub, Int.reduceAdd, reduceIte, vo, vn, vc, bo, bn, bc, c2, e1, e2, e3, storeH, storeB, splice]
        rw [hr]
        exact st3.res _ _ _ (fun hm => by
          rcases List.mem_append.1 hm with q | q
          · rcases snew 1 q with z | z
            · exact n1i (by simp [z])
            · omega
          · exact n1i (by simp [q]))
      · simp (disch := omega) only [go_sem, Nat.reduceEqDiff, Nat.reduceAdd, Nat.reduceSub, Nat.reduceLeDiff, Nat.reduceLT, Nat.reduceMul, Nat.reduceBEq, Int.reduceEq, Int.reduceLT, Int.reduceLE, Int.reduceNeg, Int.reduceToNat, Int.reduceSub, Int.reduceAdd, reduceIte, hk, ao, an, ac, bo, bn, bc, lo, ln, lc, bb, b1', q1, storeH, storeB, splice]
        refine C.go (write_s h2 l 9 (saveList p ws) p.b vb idsb count st2.ob nda.2.1 hl h9 rfl (fun hm => lni (by simp [hm])) (by omega)) ?_
        rintro r h3 ⟨v, ids3, rfl, so, sn, snew, sfr, sle⟩
        have vo := Owns.one so
        have vn := Owns.nohole so
        have vc := Owns.cells so
        have c1 : h3[1]? = h2[1]? := sfr 1 (by omega) (fun hm => n1i (by simp [hm]))
        rw [b1'] at c1
        have c2 : h3[h1.length]? = h2[h1.length]? := sfr _ (by omega) nib
        rw [bb] at c2
        have si : h1.length ∉ ids3 := fun hm => by
          rcases snew _ hm with q | q
          · exact nib q
          · omega
        have e1 : ∀ c, (h3.set h1.length c)[h1.length]? = some c := fun c => heap_set _ c2
        have e2 : ∀ c, (h3.set h1.length c)[1]? = some [[.int .i64 0, .nils, .int .i64 0, .int .i64 0, .nils, .int .i64 0]] := fun c => heap_set_ne _ (by omega) c1
        have e3 : ∀ c d, ((h3.set h1.length c).set 1 d)[1]? = some d := fun c d => heap_set _ (e2 c)
        have st3 : PSt (h3.set h1.length [[.int .i64 p.a.seq, va, .int .i64 p.a.sum, .int .i64 (runI 0 p.b ((saveList p ws).take count.toNat)).seq, v, .int .i64 (runI 0 p.b ((saveList p ws).take count.toNat)).sum]]) h1.length ⟨p.a, runI 0 p.b ((saveList p ws).take count.toNat)⟩ va v idsa ids3 := ⟨e1 _, (st2.oa.keep fun i hi => sfr i (by have := lt1 i (by simp [hi]); omega) (fun hm => nda.2.2 i hi i hm rfl)).set _ nia, so.set _ si, by
          rw [List.nodup_append]
          exact ⟨nda.1, sn, fun x hx y hy e => by
            subst e
            rcases snew x hy with q | q
            · exact nda.2.2 x hx x q rfl
            · have := lt1 x (by simp [hx]); omega⟩, fun hm => by
          rcases List.mem_append.1 hm with q | q
          · exact nia q
          · exact si q⟩
        have hr : savedR p ws count = .tup [.agg (encPair ⟨p.a, runI 0 p.b ((saveList p ws).take count.toNat)⟩), .bool true] := by
          unfold savedR savedP savedK
          rw [if_pos ⟨hk, by omega⟩, if_neg h0, hk]
          have : 0 ≤ count := by omega
          simp [this]
        simp (disch := omega) only [go_sem, Nat.reduceEqDiff, Nat.reduceAdd, Nat.reduceSub, Nat.reduceLeDiff, Nat.reduceLT, Nat.reduceMul, Nat.reduceBEq, Int.reduceEq, Int.reduceLT, Int.reduceLE, Int.reduceNeg, Int.reduceToNat, Int.reduceSub, Int.reduceAdd, reduceIte, vo, vn, vc, ao, an, ac, c2, e1, e2, e3, storeH, storeB, splice]
        rw [hr]
        exact st3.res _ _ _ (fun hm => by
          rcases List.mem_append.1 hm with q | q
          · exact n1i (by simp [q])
          · rcases snew 1 q with z | z
            · exact n1i (by simp [z])
            · omega)
  · simp (disch := omega) only [go_sem, Nat.reduceEqDiff, Nat.reduceAdd, Nat.reduceSub, Nat.reduceLeDiff, Nat.reduceLT, Nat.reduceMul, Nat.reduceBEq, Int.reduceEq, Int.reduceLT, Int.reduceLE, Int.reduceNeg, Int.reduceToNat, Int.reduceSub, Int.reduceAdd, reduceIte, hk, ao, an, ac, bo, bn, bc, lo, ln, lc, bb, b1', q1, storeH, storeB, splice]
    exact hno (.inl hk)
end Go.Av
