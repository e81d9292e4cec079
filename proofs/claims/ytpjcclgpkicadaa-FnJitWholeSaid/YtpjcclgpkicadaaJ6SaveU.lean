import Derived.Test.YtpjcclgpkicadaaJ6SaveT
import Derived.Test.YtpjcclgpkicadaaJ6TyPair
namespace Go.Av
open Go.Proofs Go.RowKit
set_option linter.unusedVariables false
set_option linter.unusedSimpArgs false
set_option maxRecDepth 100000
set_option maxHeartbeats 4000000
theorem run_len (s : Slot) (l : List Int) (h : s.words.length ≤ 1048576) : (runI 0 s l).words.length ≤ 1048576 := by
  rw [runs_same]
  have := runW_len l (if 2 ≤ l.length then fixW s else s) l.length (Nat.le_refl _)
  rw [List.take_length] at this
  rw [this]
  split
  · rw [fixW_len]; omega
  · exact h
theorem saved_in {p : Pair} (hp : PairIn p) (ws : List Int) (c : Int) : PairIn (savedP p ws c) := by
  unfold savedP
  split
  · split
    · exact ⟨run_len _ _ hp.a, hp.b⟩
    · exact ⟨hp.a, run_len _ _ hp.b⟩
  · exact hp
theorem PSt.snap {h : Heap} {id : Nat} {p : Pair} {va vb : V} {ia ib : List Nat} (w : PSt h id p va vb ia ib) : Snap h (.agg [.int .i64 p.a.seq, va, .int .i64 p.a.sum, .int .i64 p.b.seq, vb, .int .i64 p.b.sum]) (.agg (encPair p)) := .ofSnaps (OwnsL.snap (OwnsL.mkPair w.oa w.ob))
theorem PSt.lt {h : Heap} {id : Nat} {p : Pair} {va vb : V} {ia ib : List Nat} (w : PSt h id p va vb ia ib) : ∀ i ∈ ia ++ ib, i < h.length := fun i hi => by
  rcases List.mem_append.1 hi with q | q
  · exact w.oa.lt i q
  · exact w.ob.lt i q
theorem PSt.keep {h h' : Heap} {id : Nat} {p : Pair} {va vb : V} {ia ib js : List Nat} (w : PSt h id p va vb ia ib) (f : ∀ j, j < h.length → j ∉ js → h'[j]? = h[j]?) (hid : id ∉ js) (hd : ∀ i ∈ ia ++ ib, i ∉ js) : PSt h' id p va vb ia ib :=
  ⟨by rw [f id (heap_lt w.box) hid]; exact w.box, w.oa.keep fun i hi => f i (w.oa.lt i hi) (hd i (by simp [hi])), w.ob.keep fun i hi => f i (w.ob.lt i hi) (hd i (by simp [hi])), w.nd, w.ni⟩
/-- A pair just made, laid into a box. -/
theorem PSt.mk' {h : Heap} {p : Pair} {va vb : V} {ia ib : List Nat} (oa : Owns h (.lst 1 (p.a.words.map encI)) va ia) (ob : Owns h (.lst 1 (p.b.words.map encI)) vb ib) (nd : (ia ++ ib).Nodup) : PSt (h ++ [[[.int .i64 p.a.seq, va, .int .i64 p.a.sum, .int .i64 p.b.seq, vb, .int .i64 p.b.sum]]]) h.length p va vb ia ib :=
  ⟨at_app0 _ _, oa.up (Ext.app _ _), ob.up (Ext.app _ _), nd, fun hm => by
    rcases List.mem_append.1 hm with q | q
    · have := oa.lt _ q; omega
    · have := ob.lt _ q; omega⟩
theorem F.goPair {P : Program} {f : FuncId} {args args' : List V} {p : Pair} {h : Heap} {K : V → Heap → Prop} (hf : F P f args' (.agg (encPair p))) (hs : Snaps h args args')
    (hk : ∀ va vb ia ib h', Ext h h' → (ia ++ ib).Nodup → (∀ i ∈ ia ++ ib, h.length ≤ i) → (∀ i ∈ ia ++ ib, i < h'.length) → Owns h' (.lst 1 (p.a.words.map encI)) va ia → Owns h' (.lst 1 (p.b.words.map encI)) vb ib → V.one va = true → V.nohole va = va → V.cells va = [va] → V.one vb = true → V.nohole vb = vb → V.cells vb = [vb] → K (.agg [.int .i64 p.a.seq, va, .int .i64 p.a.sum, .int .i64 p.b.seq, vb, .int .i64 p.b.sum]) h') : @callP P f args h ⟨K⟩ :=
  F.go hf hs fun r h' ids x n g o => by
    obtain ⟨cs, rfl, p1⟩ := Owns.aggR.1 o
    have lt := p1.lt
    obtain ⟨va, vb, ia, ib, rfl, rfl, oa, ob⟩ := p1.pair
    exact hk va vb ia ib h' x n g lt oa ob oa.one oa.nohole oa.cells ob.one ob.nohole ob.cells
theorem F.goPairB {P : Program} {f : FuncId} {args args' : List V} {p : Pair} {b : Bool} {h : Heap} {K : V → Heap → Prop} (hf : F P f args' (.tup [.agg (encPair p), .bool b])) (hs : Snaps h args args')
    (hk : ∀ va vb ia ib h', Ext h h' → (ia ++ ib).Nodup → (∀ i ∈ ia ++ ib, h.length ≤ i) → (∀ i ∈ ia ++ ib, i < h'.length) → Owns h' (.lst 1 (p.a.words.map encI)) va ia → Owns h' (.lst 1 (p.b.words.map encI)) vb ib → V.one va = true → V.nohole va = va → V.cells va = [va] → V.one vb = true → V.nohole vb = vb → V.cells vb = [vb] → K (.tup [.agg [.int .i64 p.a.seq, va, .int .i64 p.a.sum, .int .i64 p.b.seq, vb, .int .i64 p.b.sum], .bool b]) h') : @callP P f args h ⟨K⟩ :=
  F.go hf hs fun r h' ids x n g o => by
    obtain ⟨cs, rfl, p1⟩ := OwnsR.aggB o
    have lt := p1.lt
    obtain ⟨va, vb, ia, ib, rfl, rfl, oa, ob⟩ := p1.pair
    exact hk va vb ia ib h' x n g lt oa ob oa.one oa.nohole oa.cells ob.one ob.nohole ob.cells
theorem F.goInts {P : Program} {f : FuncId} {args args' : List V} {xs : List Int} {h : Heap} {K : V → Heap → Prop} (hf : F P f args' (.lst 1 (xs.map encI))) (hs : Snaps h args args')
    (hk : ∀ v ids h', Ext h h' → ids.Nodup → (∀ i ∈ ids, h.length ≤ i) → (∀ i ∈ ids, i < h'.length) → Owns h' (.lst 1 (xs.map encI)) v ids → V.one v = true → V.nohole v = v → V.cells v = [v] → K v h') : @callP P f args h ⟨K⟩ :=
  F.go hf hs fun r h' ids x n g o => hk r ids h' x n g (Owns.lt (Owns.lstR.1 o)) (Owns.lstR.1 o) (Owns.one (Owns.lstR.1 o)) (Owns.nohole (Owns.lstR.1 o)) (Owns.cells (Owns.lstR.1 o))
theorem dis_lt {A B : List Nat} {a : Nat} (h1 : ∀ i ∈ A, i < a) (h2 : ∀ i ∈ B, a ≤ i) : ∀ i ∈ A, i ∉ B := fun i hi hm => by have := h1 i hi; have := h2 i hm; omega
theorem dis_ge {A B : List Nat} {a : Nat} (h1 : ∀ i ∈ A, a ≤ i) (h2 : ∀ i ∈ B, i < a) : ∀ i ∈ A, i ∉ B := fun i hi hm => by have := h1 i hi; have := h2 i hm; omega
theorem app1_len (h : Heap) (b : Blk) : (h ++ [b]).length = h.length + 1 := by simp
end Go.Av
