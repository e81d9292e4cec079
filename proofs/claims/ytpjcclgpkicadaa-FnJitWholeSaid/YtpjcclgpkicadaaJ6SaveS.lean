import Derived.Test.YtpjcclgpkicadaaJ6Write
namespace Go.Av
open Go.Proofs Go.RowKit
set_option linter.unusedVariables false
set_option linter.unusedSimpArgs false
set_option maxRecDepth 100000
set_option maxHeartbeats 4000000
/-- What a pair is behind the first writes of a saving. -/
def savedP (p : Pair) (ws : List Int) (count : Int) : Pair :=
  if saveOk p ws = true ∧ 0 ≤ count then
    (if saveSlot p ws = 0 then ⟨runI 0 p.a ((saveList p ws).take count.toNat), p.b⟩ else ⟨p.a, runI 0 p.b ((saveList p ws).take count.toNat)⟩)
  else p
def savedK (p : Pair) (ws : List Int) (count : Int) : Bool := saveOk p ws && decide (0 ≤ count)
def savedR (p : Pair) (ws : List Int) (count : Int) : V := .tup [.agg (encPair (savedP p ws count)), .bool (savedK p ws count)]
theorem saveList_len {p : Pair} {ws : List Int} (h : saveOk p ws = true) : (saveList p ws).length = 9 := by
  have h6 : ws.length = 6 := by simp [saveOk] at h; exact h.1
  simp [saveList, h, h6]
theorem refs_save3 (n : Nat) (p : Pair) (ws : List Int) (c : Int) : V.refsL n [.agg (encPair p), .lst 1 (ws.map encI), .int .i64 c] = true := by simp [V.refsL, V.refs, refs_pair, refsLL_map encI (fun _ => rfl) ws]
/-- A pair in a box, owning its words. -/
structure PSt (h : Heap) (id : Nat) (p : Pair) (va vb : V) (ia ib : List Nat) : Prop where
  box : h[id]? = some [[.int .i64 p.a.seq, va, .int .i64 p.a.sum, .int .i64 p.b.seq, vb, .int .i64 p.b.sum]]
  oa : Owns h (.lst 1 (p.a.words.map encI)) va ia
  ob : Owns h (.lst 1 (p.b.words.map encI)) vb ib
  nd : (ia ++ ib).Nodup
  ni : id ∉ ia ++ ib
theorem PSt.up {h h' : Heap} {id : Nat} {p : Pair} {va vb : V} {ia ib : List Nat} (w : PSt h id p va vb ia ib) (e : Ext h h') : PSt h' id p va vb ia ib := ⟨e.get w.box, w.oa.up e, w.ob.up e, w.nd, w.ni⟩
theorem PSt.res {h : Heap} {id : Nat} {p : Pair} {va vb : V} {ia ib : List Nat} (w : PSt h id p va vb ia ib) (c : Blk) (k : Bool) (j : Nat) (hj : j ∉ ia ++ ib) : ∃ ids : List Nat, ids.Nodup ∧ OwnsR (h.set j c) (.tup [.agg (encPair p), .bool k]) (.tup [.agg [.int .i64 p.a.seq, va, .int .i64 p.a.sum, .int .i64 p.b.seq, vb, .int .i64 p.b.sum], .bool k]) ids := by
  have ha : j ∉ ia := fun hm => hj (by simp [hm])
  have hb : j ∉ ib := fun hm => hj (by simp [hm])
  exact ⟨(ia ++ ib) ++ [], by simpa using w.nd, OwnsR.tup.2 ⟨_, rfl, .o (.a (OwnsL.mkPair (w.oa.set _ ha) (w.ob.set _ hb))) (.b .e)⟩⟩
theorem saved_no {p : Pair} {ws : List Int} {c : Int} (h : saveOk p ws = false ∨ c < 0) : savedR p ws c = .tup [.agg (encPair p), .bool false] := by
  unfold savedR savedP savedK
  rw [if_neg (fun q => by rcases h with h | h <;> first | (rw [h] at q; exact Bool.noConfusion q.1) | omega)]
  congr 3
  rcases h with h | h
  · rw [h]; rfl
  · have : ¬ 0 ≤ c := by omega
    simp [this]
theorem saveSome_f (p : Pair) (ws : List Int) (count : Int) (hp : PairIn p) (hw : ws.length ≤ 1048576) : F Try.prog 22 [.agg (encPair p), .lst 1 (ws.map encI), .int .i64 count] (savedR p ws count) := by
  refine C.by mixed (cfn_ok Try.func22 ok22) rfl ?_
  simp (disch := omega) only [s22, go_sem, Nat.reduceEqDiff, Nat.reduceAdd, Nat.reduceSub, Nat.reduceLeDiff, Nat.reduceLT, Nat.reduceMul, Nat.reduceBEq, Int.reduceEq, Int.reduceLT, Int.reduceLE, Int.reduceNeg, Int.reduceToNat, Int.reduceSub, Int.reduceAdd, reduceIte, encPair]
  refine F.go (copyPair_c p hp) (.same (refs_pair1 _ p)) fun r h1 ids x1 n1 g1 o1 => ?_
  obtain ⟨cs, rfl, p1⟩ := Owns.aggR.1 o1
  obtain ⟨va, vb, ia, ib, rfl, rfl, oa, ob⟩ := p1.pair
  obtain ⟨ao, an, ac⟩ := oa.vv
  obtain ⟨bo, bn, bc⟩ := ob.vv
  have b0 := x1.get (i := 0) rfl
  have b1 := x1.get (i := 1) rfl
  have b0' := fun t => heap_app (h' := t) b0
  have lt1 := p1.lt
  have st1 : PSt (h1 ++ [[[.int .i64 p.a.seq, va, .int .i64 p.a.sum, .int .i64 p.b.seq, vb, .int .i64 p.b.sum]]]) h1.length p va vb ia ib := ⟨at_app0 _ _, oa.up (Ext.app _ _), ob.up (Ext.app _ _), n1, fun hm => by have := lt1 _ hm; omega⟩
  simp (disch := omega) only [go_sem, Nat.reduceEqDiff, Nat.reduceAdd, Nat.reduceSub, Nat.reduceLeDiff, Nat.reduceLT, Nat.reduceMul, Nat.reduceBEq, Int.reduceEq, Int.reduceLT, Int.reduceLE, Int.reduceNeg, Int.reduceToNat, Int.reduceSub, Int.reduceAdd, reduceIte, ao, an, ac, bo, bn, bc, b0']
  refine F.go (saveWrites_c p ws hp hw) (.same (refs_save _ p ws)) fun r h2 ids2 x2 n2 g2 o2 => ?_
  obtain ⟨vl, rfl, ol⟩ := OwnsR.lstIB o2
  obtain ⟨lo, ln, lc⟩ := ol.vv
  have st2 := st1.up x2
  have bb := st2.box
  have b1' := x2.get (heap_app (h' := [[[.int .i64 p.a.seq, va, .int .i64 p.a.sum, .int .i64 p.b.seq, vb, .int .i64 p.b.sum]]]) b1)
  have q1 : ∀ c, (h2.set 1 c)[1]? = some c := fun c => heap_set _ b1'
  have n1i : 1 ∉ ia ++ ib := nin_ge g1 (by simp)
  have hno : saveOk p ws = false ∨ count < 0 → ∃ ids : List Nat, ids.Nodup ∧ OwnsR (h2.set 1 [[.int .i64 p.a.seq, va, .int .i64 p.a.sum, .int .i64 p.b.seq, vb, .int .i64 p.b.sum]]) (savedR p ws count) (.tup [.agg [.int .i64 p.a.seq, va, .int .i64 p.a.sum, .int .i64 p.b.seq, vb, .int .i64 p.b.sum], .bool false]) ids := fun c => by
    rw [saved_no c]; exact st2.res _ _ _ n1i
  simp (disch := omega) only [go_sem, Nat.reduceEqDiff, Nat.reduceAdd, Nat.reduceSub, Nat.reduceLeDiff, Nat.reduceLT, Nat.reduceMul, Nat.reduceBEq, Int.reduceEq, Int.reduceLT, Int.reduceLE, Int.reduceNeg, Int.reduceToNat, Int.reduceSub, Int.reduceAdd, reduceIte, ao, an, ac, bo, bn, bc, lo, ln, lc, bb, b1', q1, storeH, storeB, splice]
  refine condP_split (fun hk => ?_) (fun hk => ?_)
  · simp (disch := omega) only [go_sem, Nat.reduceEqDiff, Nat.reduceAdd, Nat.reduceSub, Nat.reduceLeDiff, Nat.reduceLT, Nat.reduceMul, Nat.reduceBEq, Int.reduceEq, Int.reduceLT, Int.reduceLE, Int.reduceNeg, Int.reduceToNat, Int.reduceSub, Int.reduceAdd, reduceIte, hk, ao, an, ac, bo, bn, bc, lo, ln, lc, bb, b1', q1, storeH, storeB, splice]
    refine condP_dec (fun hc => ?_) (fun hc => ?_)
    · simp (disch := omega) only [go_sem, Nat.reduceEqDiff, Nat.reduceAdd, Nat.reduceSub, Nat.reduceLeDiff, Nat.reduceLT, Nat.reduceMul, Nat.reduceBEq, Int.reduceEq, Int.reduceLT, Int.reduceLE, Int.reduceNeg, Int.reduceToNat, Int.reduceSub, Int.reduceAdd, reduceIte, hk, ao, an, ac, bo, bn, bc, lo, ln, lc, bb, b1', q1, storeH, storeB, splice]
      exact hno (.inr hc)
    · have h9 := saveList_len hk
      obtain ⟨l, rfl, hl, rfl⟩ := flat_own ol h9 (by omega)
      have hl1 : h1.length + 1 ≤ l := by have := g2 l (by simp); simpa using this
      have l1 := x1.len
      simp only [List.length_cons, List.length_nil] at l1
      simp (disch := omega) only [go_sem, Nat.reduceEqDiff, Nat.reduceAdd, Nat.reduceSub, Nat.reduceLeDiff, Nat.reduceLT, Nat.reduceMul, Nat.reduceBEq, Int.reduceEq, Int.reduceLT, Int.reduceLE, Int.reduceNeg, Int.reduceToNat, Int.reduceSub, Int.reduceAdd, reduceIte, hk, ao, an, ac, bo, bn, bc, lo, ln, lc, bb, b1', q1, storeH, storeB, splice]
      have htk : (saveList p ws).take (min count 9).toNat = (saveList p ws).take count.toNat := by
        rcases Int.lt_or_le count 9 with c | c
        · congr 1; omega
        · rw [List.take_of_length_le (by omega), List.take_of_length_le (by omega)]
      have nia : h1.length ∉ ia := fun hm => st2.ni (by simp [hm])
      have nib : h1.length ∉ ib := fun hm => st2.ni (by simp [hm])
      have nda := (List.nodup_append.1 n1)
      have lni : l ∉ ia ++ ib := fun hm => by have := lt1 l hm; omega
      have lt2 := heap_lt bb
      refine condP_dec (fun h0 => ?_) (fun h0 => ?_)
      · simp (disch := omega) only [go_sem, Nat.reduceEqDiff, Nat.reduceAdd, Nat.reduceSub, Nat.reduceLeDiff, Nat.reduceLT, Nat.reduceMul, Nat.reduceBEq, Int.reduceEq, Int.reduceLT, Int.reduceLE, Int.reduceNeg, Int.reduceToNat, Int.reduceSub, Int.reduceAdd, reduceIte, hk, ao, an, ac, bo, bn, bc, lo, ln, lc, bb, b1', q1, storeH, storeB, splice]
        refine C.go (saveSome0_c h2 h1.length l (min count 9).toNat 9 (saveList p ws) p.a va (.int .i64 p.b.seq) vb (.int .i64 p.b.sum) ia ⟨st2.box, st2.oa, nda.1, nia⟩ hl h9 (by omega) (by omega) (by omega) (fun hm => lni (by simp [hm]))) ?_
        rintro r h3 ⟨rfl, v, ids3, ⟨sb, so, sn, si⟩, snew, sfr, sle⟩
        rw [htk] at sb so
        rw [if_pos rfl] at sb
        have vo := Owns.one so
        have vn := Owns.nohole so
        have vc := Owns.cells so
        have c1 : h3[1]? = h2[1]? := sfr 1 (by omega) (by omega) (fun hm => n1i (by simp [hm]))
        rw [b1'] at c1
        have d1 : ∀ c, (h3.set 1 c)[1]? = some c := fun c => heap_set _ c1
        have st3 : PSt h3 h1.length ⟨runI 0 p.a ((saveList p ws).take count.toNat), p.b⟩ v vb ids3 ib := ⟨sb, so, st2.ob.keep fun i hi => sfr i (by have := lt1 i (by simp [hi]); omega) (fun e => nib (e ▸ hi)) (fun hm => nda.2.2 i hm i hi rfl), by
          rw [List.nodup_append]
          exact ⟨sn, nda.2.1, fun x hx y hy e => by
            subst e
            rcases snew x hx with q | q
            · exact nda.2.2 x q x hy rfl
            · have := lt1 x (by simp [hy]); omega⟩, fun hm => by
          rcases List.mem_append.1 hm with q | q
          · exact si q
          · exact nib q⟩
        have hr : savedR p ws count = .tup [.agg (encPair ⟨runI 0 p.a ((saveList p ws).take count.toNat), p.b⟩), .bool true] := by
          unfold savedR savedP savedK
          rw [if_pos ⟨hk, by omega⟩, if_pos h0, hk]
          have : 0 ≤ count := by omega
          simp [this]
        simp (disch := omega) only [go_sem, Nat.reduceEqDiff, Nat.reduceAdd, Nat.reduceSub, Nat.reduceLeDiff, Nat.reduceLT, Nat.reduceMul, Nat.reduceBEq, Int.reduceEq, Int.reduceLT, Int.reduceLE, Int.reduceNeg, Int.reduceToNat, Int.reduceSub, Int.reduceAdd, reduceIte, vo, vn, vc, bo, bn, bc, sb, c1, d1, storeH, storeB, splice]
        rw [hr]
        exact st3.res _ _ _ (fun hm => by
          rcases List.mem_append.1 hm with q | q
          · rcases snew 1 q with z | z
            · exact n1i (by simp [z])
            · omega
          · exact n1i (by simp [q]))
      · simp (disch := omega) only [go_sem, Nat.reduceEqDiff, Nat.reduceAdd, Nat.reduceSub, Nat.reduceLeDiff, Nat.reduceLT, Nat.reduceMul, Nat.reduceBEq, Int.reduceEq, Int.reduceLT, Int.reduceLE, Int.reduceNeg, Int.reduceToNat, Int.reduceSub, Int.reduceAdd, reduceIte, hk, ao, an, ac, bo, bn, bc, lo, ln, lc, bb, b1', q1, storeH, storeB, splice]
        refine C.go (saveSome3_c h2 h1.length l (min count 9).toNat 9 (saveList p ws) p.b vb (.int .i64 p.a.seq) va (.int .i64 p.a.sum) ib ⟨st2.box, st2.ob, nda.2.1, nib⟩ hl h9 (by omega) (by omega) (by omega) (fun hm => lni (by simp [hm]))) ?_
        rintro r h3 ⟨rfl, v, ids3, ⟨sb, so, sn, si⟩, snew, sfr, sle⟩
        rw [htk] at sb so
        rw [if_neg (by decide)] at sb
        have vo := Owns.one so
        have vn := Owns.nohole so
        have vc := Owns.cells so
        have c1 : h3[1]? = h2[1]? := sfr 1 (by omega) (by omega) (fun hm => n1i (by simp [hm]))
        rw [b1'] at c1
        have d1 : ∀ c, (h3.set 1 c)[1]? = some c := fun c => heap_set _ c1
        have st3 : PSt h3 h1.length ⟨p.a, runI 0 p.b ((saveList p ws).take count.toNat)⟩ va v ia ids3 := ⟨sb, st2.oa.keep fun i hi => sfr i (by have := lt1 i (by simp [hi]); omega) (fun e => nia (e ▸ hi)) (fun hm => nda.2.2 i hi i hm rfl), so, by
          rw [List.nodup_append]
          exact ⟨nda.1, sn, fun x hx y hy e => by
            subst e
            rcases snew x hy with q | q
            · exact nda.2.2 x hx x q rfl
            · have := lt1 x (by simp [hx]); omega⟩, fun hm => by
          rcases List.mem_append.1 hm with q | q
          · exact nia q
          · exact si q⟩
        have hr : savedR p ws count = .tup [.agg (encPair ⟨p.a, runI 0 p.b ((saveList p ws).take count.toNat)⟩), .bool true] := by
          unfold savedR savedP savedK
          rw [if_pos ⟨hk, by omega⟩, if_neg h0, hk]
          have : 0 ≤ count := by omega
          simp [this]
        simp (disch := omega) only [go_sem, Nat.reduceEqDiff, Nat.reduceAdd, Nat.reduceSub, Nat.reduceLeDiff, Nat.reduceLT, Nat.reduceMul, Nat.reduceBEq, Int.reduceEq, Int.reduceLT, Int.reduceLE, Int.reduceNeg, Int.reduceToNat, Int.reduceSub, Int.reduceAdd, reduceIte, vo, vn, vc, ao, an, ac, sb, c1, d1, storeH, storeB, splice]
        rw [hr]
        exact st3.res _ _ _ (fun hm => by
          rcases List.mem_append.1 hm with q | q
          · exact n1i (by simp [q])
          · rcases snew 1 q with z | z
            · exact n1i (by simp [z])
            · omega)
  · simp (disch := omega) only [go_sem, Nat.reduceEqDiff, Nat.reduceAdd, Nat.reduceSub, Nat.reduceLeDiff, Nat.reduceLT, Nat.reduceMul, Nat.reduceBEq, Int.reduceEq, Int.reduceLT, Int.reduceLE, Int.reduceNeg, Int.reduceToNat, Int.reduceSub, Int.reduceAdd, reduceIte, hk, ao, an, ac, bo, bn, bc, lo, ln, lc, bb, b1', q1, storeH, storeB, splice]
    exact hno (.inl hk)
end Go.Av
