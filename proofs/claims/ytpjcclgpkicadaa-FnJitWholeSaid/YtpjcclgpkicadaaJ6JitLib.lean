/- Steps of the laws over runs of the machine. No condition. -/
import Derived.Test.YtpjcclgpkicadaaJ6Jit
namespace Go.Av
open Go.Proofs Go.RowKit
set_option linter.unusedVariables false
set_option linter.unusedSimpArgs false
set_option maxRecDepth 100000
set_option maxHeartbeats 4000000
/-- What becomes of the heap when a part of it is written over. -/
theorem Sep.dropOff {h : Heap} {y v : V} {L : List It} (S : Sep h (.v y v :: L)) (hy : ∀ ds, y ≠ .tup ds) : ∃ i, Owns h y v i ∧ ∀ h', (∀ j, j < h.length → j ∉ i → h'[j]? = h[j]?) → Sep h' L ∧ ∀ y', (∀ ds, y' ≠ .tup ds) → Owns h' y' v i → Sep h' (.v y' v :: L) := by
  obtain ⟨ids, n, i, j, rfl, o, s⟩ := S
  have n' := List.nodup_append.1 n
  refine ⟨i, OwnsR.owns hy o, fun h' k => ⟨⟨j, n'.2.1, s.keep fun a ha => k a (s.lt a ha) (fun hm => n'.2.2 a hm a ha rfl)⟩, fun y' hy' o' => ⟨_, n, i, j, rfl, ?_, s.keep fun a ha => k a (s.lt a ha) (fun hm => n'.2.2 a hm a ha rfl)⟩⟩⟩
  show OwnsR h' y' v i
  unfold OwnsR
  split
  · exact absurd rfl (hy' _)
  · exact o'
theorem Sep.markI {P : Program} {f : FuncId} {xs ys : List Int} {v z : V} {k : Int} {h : Heap} {L : List It} {K : V → Heap → Prop} (S : Sep h (.v (.lst 1 (xs.map encI)) v :: L))
    (hc : ∀ ids, Owns h (.lst 1 (xs.map encI)) v ids → C P f [v, .int .i64 k] h (fun r h' => r = z ∧ Off ids h h' ∧ Owns h' (.lst 1 (ys.map encI)) v ids ∧ h'.length = h.length)) (hk : ∀ h', Sep h' (.v (.lst 1 (ys.map encI)) v :: L) → K z h') : @callP P f [v, .int .i64 k] h ⟨K⟩ := by
  obtain ⟨i, o, W⟩ := S.dropOff (fun ds => V.noConfusion)
  exact C.go (hc i o) fun r h' ⟨e, off, o', _⟩ => by subst e; exact hk h' ((W h' (fun j _ hj => off j hj)).2 _ (fun ds => V.noConfusion) o')
theorem Sep.markD {P : Program} {f : FuncId} {sz : Nat} {ys : Blk} {v z : V} {k : Int} {h : Heap} {L : List It} {K : V → Heap → Prop} (S : Sep h (.v (.lst sz ys) v :: L))
    (hc : ∀ ids, Owns h (.lst sz ys) v ids → C P f [v, .int .i64 k] h (fun r h' => r = z ∧ Off ids h h' ∧ h'.length = h.length)) (hk : ∀ h', Sep h' L → K z h') : @callP P f [v, .int .i64 k] h ⟨K⟩ := by
  obtain ⟨i, o, W⟩ := S.dropOff (fun ds => V.noConfusion)
  exact C.go (hc i o) fun r h' ⟨e, off, _⟩ => by subst e; exact hk h' (W h' (fun j _ hj => off j hj)).1
theorem Sep.markP {p : Pair} {va vb : V} {k : Int} {h : Heap} {L : List It} {K : V → Heap → Prop} (S : Sep h (.v (.lst 1 (p.a.words.map encI)) va :: .v (.lst 1 (p.b.words.map encI)) vb :: L)) (hp : PairIn p) (hk : 0 ≤ k ∧ k ≤ 10000000)
    (hK : ∀ h', Sep h' (.v (.lst 1 ((markP p k).a.words.map encI)) va :: .v (.lst 1 ((markP p k).b.words.map encI)) vb :: L) → K (.int .i64 (k + p.a.words.length + p.b.words.length)) h') : @callP Try.prog 36 [.agg [.int .i64 p.a.seq, va, .int .i64 p.a.sum, .int .i64 p.b.seq, vb, .int .i64 p.b.sum], .int .i64 k] h ⟨K⟩ := by
  obtain ⟨ids, n, ia, jj, e1, oa, ib, j, e2, ob, s⟩ := S
  subst e1 e2
  rw [← List.append_assoc] at n
  have n' := List.nodup_append.1 n
  refine C.go (markPair_c h p va vb ia ib k oa ob n'.1 hp hk) fun r h' z => ?_
  have z1 := z.1
  subst z1
  exact hK h' ⟨_, by rw [List.append_assoc] at n; exact n, ia, ib ++ j, rfl, z.2.2.1, ib, j, rfl, z.2.2.2.1, s.keep fun a ha => z.2.1 a (s.lt a ha) (fun hm => n'.2.2 a hm a ha rfl)⟩
theorem Sep.pairSnap {p : Pair} {va vb : V} {h : Heap} {L : List It} (S : Sep h L) (i j : Nat) (hi : L[i]? = some (.v (.lst 1 (p.a.words.map encI)) va)) (hj : L[j]? = some (.v (.lst 1 (p.b.words.map encI)) vb)) : Snap h (.agg [.int .i64 p.a.seq, va, .int .i64 p.a.sum, .int .i64 p.b.seq, vb, .int .i64 p.b.sum]) (.agg (encPair p)) :=
  .ofSnaps (.cons (.int _ _) (.cons (S.snap i hi) (.cons (.int _ _) (.cons (.int _ _) (.cons (S.snap j hj) (.cons (.int _ _) (.nil _)))))))
theorem Sep.goJit {P : Program} {f : FuncId} {args args' : List V} {p : Pair} {ws : List Int} {b : Bool} {h : Heap} {L : List It} {K : V → Heap → Prop} (S : Sep h L) (hf : F P f args' (.tup [.agg (encPair p), .lst 1 (ws.map encI), .bool b])) (hs : Snaps h args args')
    (hk : ∀ va vb w h', Ext h h' → Sep h' (.v (.lst 1 (p.a.words.map encI)) va :: .v (.lst 1 (p.b.words.map encI)) vb :: .v (.lst 1 (ws.map encI)) w :: L) → (V.one va = true ∧ V.nohole va = va ∧ V.cells va = [va]) → (V.one vb = true ∧ V.nohole vb = vb ∧ V.cells vb = [vb]) → (V.one w = true ∧ V.nohole w = w ∧ V.cells w = [w]) → K (.tup [.agg [.int .i64 p.a.seq, va, .int .i64 p.a.sum, .int .i64 p.b.seq, vb, .int .i64 p.b.sum], w, .bool b]) h') : @callP P f args h ⟨K⟩ :=
  S.go hf hs fun r h' x S => by
    obtain ⟨_, rfl, S1⟩ := sep_tup.1 S
    obtain ⟨_, _, rfl, S2⟩ := sep_la.1 S1
    obtain ⟨va, vb, rfl, S3⟩ := S2.ofPair
    obtain ⟨w, _, rfl, S4⟩ := sep_ll.1 (S3.pull 2)
    obtain ⟨_, rfl, S5⟩ := sep_lb.1 S4
    obtain ⟨rfl, S6⟩ := sep_l0.1 S5
    have S7 := S6.rot.perm ((List.Perm.swap _ _ _).trans (.cons _ (.swap _ _ _)))
    exact hk va vb w h' x S7 (S7.vv 0 rfl) (S7.vv 1 rfl) (S7.vv 2 rfl)
theorem jitW_in {xs : List Instr} {ss : List Shot} : (jitW xs ss).length ≤ 1048576 := by
  unfold jitW; split
  · have : ∀ (l : List Shot) (p : Pair), PairIn p → PairIn (l.foldl (shotM xs) p) := fun l => by
      induction l with
      | nil => exact fun p h => h
      | cons s l ih => exact fun p h => ih _ (shot_in h)
    exact words_in (this ss _ pair0_in)
  · exact Nat.zero_le _
theorem jitM_in {xs : List Instr} {ss : List Shot} : PairIn (jitM xs ss) := by
  unfold jitM; split
  · have : ∀ (l : List Shot) (p : Pair), PairIn p → PairIn (l.foldl (shotM xs) p) := fun l => by
      induction l with
      | nil => exact fun p h => h
      | cons s l ih => exact fun p h => ih _ (shot_in h)
    exact this ss _ pair0_in
  · exact pair0_in
theorem refs_codeI (n : Nat) (xs : List Instr) (k : Int) : V.refsL n [.lst 3 (xs.map encInstr), .int .i64 k] = true := by simp only [V.refsL, refs_code]; rfl
theorem refs_shotsI (n : Nat) (xs : List Shot) (k : Int) : V.refsL n [.lst 2 (xs.map encShot), .int .i64 k] = true := by simp only [V.refsL, refs_shots]; rfl
theorem refs_shots1 (n : Nat) (xs : List Shot) : V.refsL n [.lst 2 (xs.map encShot)] = true := by simp only [V.refsL, refs_shots]; rfl
abbrev cellsP (p : Pair) (va vb : V) : List V := [.int .i64 p.a.seq, va, .int .i64 p.a.sum, .int .i64 p.b.seq, vb, .int .i64 p.b.sum]
end Go.Av
