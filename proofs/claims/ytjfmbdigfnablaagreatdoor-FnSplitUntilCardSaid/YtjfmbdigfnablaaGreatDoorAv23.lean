/- Heaps that grow at their end; whole numbers, bits; cursors over drawn bytes. No condition. -/
import Derived.Test.YtjfmbdigfnablaaGreatDoorAv22
namespace Go.Av
open Go.RowKit
set_option linter.unusedVariables false
set_option linter.unusedSimpArgs false
theorem at_app (h l : Heap) (k : Nat) : (h ++ l)[h.length + k]? = l[k]? := by rw [List.getElem?_append_right (by omega)]; congr 1; omega
theorem at_app0 (h l : Heap) : (h ++ l)[h.length]? = l[0]? := at_app h l 0
theorem set_app (h l : Heap) (k : Nat) (c : Blk) : (h ++ l).set (h.length + k) c = h ++ l.set k c := by rw [List.set_append_right _ _ (by omega)]; congr 2; omega
theorem set_app0 (h l : Heap) (c : Blk) : (h ++ l).set h.length c = h ++ l.set 0 c := set_app h l 0 c
theorem set_appL {h : Heap} (l : Heap) (i : Nat) (c : Blk) (hi : i < h.length) : (h ++ l).set i c = h.set i c ++ l := List.set_append_left _ _ hi
def andI (a b : Int) : Int := IntKind.wrap .i64 (BitVec.ofInt (IntKind.bits .i64) a &&& BitVec.ofInt (IntKind.bits .i64) b).toNat
def xorI (a b : Int) : Int := IntKind.wrap .i64 (BitVec.ofInt (IntKind.bits .i64) a ^^^ BitVec.ofInt (IntKind.bits .i64) b).toNat
theorem and_i (a b : Int) : binV .and (.int .i64 a) (.int .i64 b) = some (.int .i64 (andI a b)) := (rfl)
theorem xor_i (a b : Int) : binV .xor (.int .i64 a) (.int .i64 b) = some (.int .i64 (xorI a b)) := (rfl)
theorem and_255 (a : Int) : 0 ≤ andI a 255 ∧ andI a 255 ≤ 255 := by
  have h : (BitVec.ofInt (IntKind.bits .i64) a &&& BitVec.ofInt (IntKind.bits .i64) 255).toNat ≤ 255 := by
    rw [BitVec.toNat_and]
    exact Nat.le_trans Nat.and_le_right (by decide)
  unfold andI
  rw [wrap64 (by omega) (by omega)]
  omega
theorem and_255_lt (a : Int) : andI a 255 < 256 := by have := (and_255 a).2; omega
def encB (i : Int) : List V := [.int .u8 i]
/-- A cursor over drawn bytes. -/
def Cur (h : Heap) (id : Nat) : Prop := ∃ (bs : List Int) (i hh : Int), h[id]? = some [[.lst 1 (bs.map encB), .int .i64 i, .int .i64 hh]] ∧ 0 ≤ i ∧ i ≤ bs.length ∧ bs.length ≤ 1048576
theorem Cur.lt {h : Heap} {id : Nat} (c : Cur h id) : id < h.length := by
  obtain ⟨bs, i, hh, e, _⟩ := c
  exact heap_lt e
/-- All but one block lies as it lay. -/
def ExtX (id : Nat) (h h' : Heap) : Prop := ∀ j, j < h.length → j ≠ id → h'[j]? = h[j]?
theorem ExtX.refl (id : Nat) (h : Heap) : ExtX id h h := fun _ _ _ => rfl
theorem ExtX.set (id : Nat) (h : Heap) (c : Blk) : ExtX id h (h.set id c) := fun j hj hne => List.getElem?_set_ne (Ne.symm hne)
theorem Cur.up {h h' : Heap} {id : Nat} (c : Cur h id) (e : Ext h h') : Cur h' id := by
  obtain ⟨bs, i, hh, e1, r⟩ := c
  exact ⟨bs, i, hh, e.get e1, r⟩
theorem Cur.app {h : Heap} {id : Nat} (c : Cur h id) (l : Heap) : Cur (h ++ l) id := c.up (Ext.app h l)
theorem Cur.set {h : Heap} {id j : Nat} (c : Cur h id) (b : Blk) (hne : j ≠ id) : Cur (h.set j b) id := by
  obtain ⟨bs, i, hh, e1, r⟩ := c
  exact ⟨bs, i, hh, by rw [List.getElem?_set_ne hne]; exact e1, r⟩
theorem Ext.x {h h' : Heap} (e : Ext h h') (id : Nat) : ExtX id h h' := fun j hj _ => e j hj
theorem ExtX.len {id : Nat} {h h' : Heap} (e : ExtX id h h') (c : Cur h' id) : h.length ≤ h'.length := by
  rcases Nat.lt_or_ge h'.length h.length with hl | hl
  · have := e h'.length hl (by have := c.lt; omega)
    rw [List.getElem?_eq_none (Nat.le_refl _), List.getElem?_eq_getElem hl] at this
    cases this
  · exact hl
theorem ExtX.trans {id : Nat} {a b c : Heap} (e : ExtX id a b) (hc : Cur b id) (e' : ExtX id b c) : ExtX id a c := fun i hi hne => by rw [e' i (Nat.lt_of_lt_of_le hi (e.len hc)) hne, e i hi hne]
theorem ExtX.get {id : Nat} {h h' : Heap} (e : ExtX id h h') {i : Nat} {b : Blk} (hb : h[i]? = some b) (hne : i ≠ id) : h'[i]? = some b := by rw [e i (heap_lt hb) hne]; exact hb
theorem ExtX.ofApp {id : Nat} {h l h' : Heap} (e : ExtX id (h ++ l) h') : ExtX id h h' := fun j hj hne => by rw [e j (by rw [List.length_append]; omega) hne, List.getElem?_append_left hj]
/-- The blocks behind the caller's, where only the cursor's turns. -/
theorem ExtX.at {id k : Nat} {h l h' : Heap} (e : ExtX id (h ++ l) h') (hid : id < h.length) (hk : k < l.length) : h'[h.length + k]? = l[k]? := by
  rw [e _ (by rw [List.length_append]; omega) (by omega), at_app]
theorem Owns.upX {id : Nat} {h h' : Heap} {y v : V} {ids : List Nat} (o : Owns h y v ids) (e : ExtX id h h') (hn : ∀ i ∈ ids, i ≠ id) : Owns h' y v ids := o.keep fun i hi => e i (o.lt i hi) (hn i hi)
theorem ExtX.setNew {id l : Nat} {h h' : Heap} (e : ExtX id h h') (b : Blk) (hl : h.length ≤ l) : ExtX id h (h'.set l b) := fun j hj hne => by rw [List.getElem?_set_ne (by omega)]; exact e j hj hne
theorem ExtX.app {id : Nat} {h h' : Heap} (e : ExtX id h h') (c : Cur h' id) (t : Heap) : ExtX id h (h' ++ t) := fun j hj hne => by rw [List.getElem?_append_left (Nat.lt_of_lt_of_le hj (e.len c))]; exact e j hj hne
theorem Ext.setNew {l : Nat} {h h' : Heap} (e : Ext h h') (b : Blk) (hl : h.length ≤ l) : Ext h (h'.set l b) := fun j hj => by rw [List.getElem?_set_ne (by omega)]; exact e j hj
theorem Ext.appT {h h' : Heap} (e : Ext h h') (t : Heap) : Ext h (h' ++ t) := e.trans (Ext.app _ _)
theorem Owns.aggR {h : Heap} {ds : List V} {v : V} {ids : List Nat} : OwnsR h (.agg ds) v ids ↔ ∃ cs, v = .agg cs ∧ OwnsL h ds cs ids := Owns.agg_
theorem Owns.lstR {h : Heap} {sz : Nat} {ys : Blk} {v : V} {ids : List Nat} : OwnsR h (.lst sz ys) v ids ↔ Owns h (.lst sz ys) v ids := Iff.rfl
theorem OwnsR.tup {h : Heap} {ds : List V} {v : V} {ids : List Nat} : OwnsR h (.tup ds) v ids ↔ ∃ cs, v = .tup cs ∧ OwnsL h ds cs ids := Iff.rfl
def DI (P : Program) (f : FuncId) (args : List V) (h : Heap) (id : Nat) (lo hi : Int) : Prop := C P f args h (fun r h' => ∃ z, r = .int .i64 z ∧ lo ≤ z ∧ z < hi ∧ Cur h' id ∧ ExtX id h h')
theorem DI.go {P : Program} {f : FuncId} {args : List V} {h : Heap} {id : Nat} {lo hi : Int} {K : V → Heap → Prop} (hc : DI P f args h id lo hi) (hk : ∀ z h', lo ≤ z → z < hi → Cur h' id → ExtX id h h' → K (.int .i64 z) h') : @callP P f args h ⟨K⟩ :=
  C.go hc fun r h' ⟨z, e, a, b, c, d⟩ => by subst e; exact hk z h' a b c d
theorem Owns.one {h : Heap} {sz : Nat} {ys : Blk} {v : V} {ids : List Nat} (o : Owns h (.lst sz ys) v ids) : V.one v = true := by
  rcases Owns.lst_.1 o with ⟨rfl, rfl, rfl⟩ | ⟨id, b, js, rfl, e2, rfl, o⟩ <;> rfl
theorem Owns.cells {h : Heap} {sz : Nat} {ys : Blk} {v : V} {ids : List Nat} (o : Owns h (.lst sz ys) v ids) : V.cells v = [v] := by
  rcases Owns.lst_.1 o with ⟨rfl, rfl, rfl⟩ | ⟨id, b, js, rfl, e2, rfl, o⟩ <;> rfl
theorem Owns.nohole {h : Heap} {sz : Nat} {ys : Blk} {v : V} {ids : List Nat} (o : Owns h (.lst sz ys) v ids) : V.nohole v = v := by
  rcases Owns.lst_.1 o with ⟨rfl, rfl, rfl⟩ | ⟨id, b, js, rfl, e2, rfl, o⟩ <;> rfl
theorem Owns.vv {h : Heap} {sz : Nat} {ys : Blk} {v : V} {ids : List Nat} (o : Owns h (.lst sz ys) v ids) : V.one v = true ∧ V.nohole v = v ∧ V.cells v = [v] := ⟨o.one, o.nohole, o.cells⟩
theorem OwnsL.i {h : Heap} {k : IntKind} {n : Int} {ds cs : List V} {ids : List Nat} (o : OwnsL h ds cs ids) : OwnsL h (.int k n :: ds) (.int k n :: cs) ids := OwnsL.cons_.2 ⟨_, _, [], ids, rfl, rfl, Owns.int_.2 ⟨rfl, rfl⟩, o⟩
theorem OwnsL.b {h : Heap} {b : Bool} {ds cs : List V} {ids : List Nat} (o : OwnsL h ds cs ids) : OwnsL h (.bool b :: ds) (.bool b :: cs) ids := OwnsL.cons_.2 ⟨_, _, [], ids, rfl, rfl, Owns.bool_.2 ⟨rfl, rfl⟩, o⟩
theorem OwnsL.e {h : Heap} : OwnsL h [] [] [] := OwnsL.nil_.2 ⟨rfl, rfl⟩
theorem OwnsL.o {h : Heap} {d c : V} {ds cs : List V} {i j : List Nat} (o1 : Owns h d c i) (o2 : OwnsL h ds cs j) : OwnsL h (d :: ds) (c :: cs) (i ++ j) := OwnsL.cons_.2 ⟨_, _, _, _, rfl, rfl, o1, o2⟩
theorem Owns.a {h : Heap} {ds cs : List V} {ids : List Nat} (o : OwnsL h ds cs ids) : Owns h (.agg ds) (.agg cs) ids := Owns.agg_.2 ⟨_, rfl, o⟩
theorem Owns.set {h : Heap} {y v : V} {ids : List Nat} (o : Owns h y v ids) {j : Nat} (b : Blk) (hj : j ∉ ids) : Owns (h.set j b) y v ids := o.keep fun i hi => List.getElem?_set_ne (by rintro rfl; exact hj hi)
theorem tmod_bd {a n : Int} (h0 : 0 ≤ a) (hn : 0 < n) : 0 ≤ a.tmod n ∧ a.tmod n < n := ⟨Int.tmod_nonneg n h0, Int.tmod_lt_of_pos a hn⟩
theorem val_tmp (s : St) (t : Nat) : (SRes.tmp t).val s = some (s.e t) := (rfl)
theorem val_cell (s : St) (t : Nat) (ag : Bool) (sz : Nat) : (SRes.cell t ag sz).val s = loadV s.h ag sz (s.e t) := (rfl)
theorem resV_two (s : St) (a b : SRes) : resV s [a, b] = (a.val s).bind fun u => (b.val s).map fun v => .tup [u, v] := by
  show ((a.val s).bind fun v => ((b.val s).bind fun v => some [v]).map (v :: ·)).map _ = _
  cases a.val s <;> cases b.val s <;> rfl
theorem resV_three (s : St) (a b c : SRes) : resV s [a, b, c] = (a.val s).bind fun u => (b.val s).bind fun v => (c.val s).map fun x => .tup [u, v, x] := by
  show ((a.val s).bind fun v => ((b.val s).bind fun v => ((c.val s).bind fun v => some [v]).map (v :: ·)).map (v :: ·)).map _ = _
  cases a.val s <;> cases b.val s <;> cases c.val s <;> rfl
theorem resV_nil (s : St) : resV s [] = some (.tup []) := (rfl)
theorem sliceV_ownhi (id sz off ln tot : Nat) (k : IntKind) (u : Int) (h0 : 0 ≤ u) (h1 : u ≤ (ln : Int)) : sliceV sz (.own id sz off ln tot) none (some (.int k u)) = some (.own id sz off u.toNat tot) := by
  simp [sliceV, cutV, h0, h1]
theorem sliceV_ownlo (id sz off ln tot : Nat) (k : IntKind) (l : Int) (h0 : 0 ≤ l) (h1 : l ≤ (ln : Int)) : sliceV sz (.own id sz off ln tot) (some (.int k l)) none = some (.own id sz (off + l.toNat) (ln - l.toNat) tot) := by
  simp [sliceV, cutV, h0, h1]
theorem sliceV_ownboth (id sz off ln tot : Nat) (k k' : IntKind) (l u : Int) (h0 : 0 ≤ l) (h1 : l ≤ u) (h2 : u ≤ (ln : Int)) : sliceV sz (.own id sz off ln tot) (some (.int k l)) (some (.int k' u)) = some (.own id sz (off + l.toNat) (u.toNat - l.toNat) tot) := by
  simp [sliceV, cutV, h0, h1, h2]
attribute [go_sem] sliceV_ownhi sliceV_ownlo sliceV_ownboth resV_nil resV_two resV_three val_tmp val_cell Option.bind_some and_i xor_i List.append_assoc List.length_append at_app at_app0 set_app set_app0
attribute [go_sem_proc] Nat.reduceEqDiff Nat.reduceAdd Nat.reduceSub Nat.reduceLeDiff Nat.reduceLT Nat.reduceMul Nat.reduceBEq Int.reduceEq Int.reduceLT Int.reduceLE Int.reduceNeg Int.reduceToNat Int.reduceSub Int.reduceAdd reduceIte
end Go.Av
