/- Arguments of a law: structs and numbers, and how long the slices inside are. Conditions: a type's shape is handed over. -/
import Derived.Test.YtjfmbdigfnablaaGreatDoorAv23
namespace Go.Av
open Go.RowKit Go.ChangeShapes Go.WideShapes Go.Deep
set_option linter.unusedVariables false
set_option linter.unusedSimpArgs false
section
variable {H : Type} {enc : TypeId × Value → H} {P : Program} {W : World}
theorem structV_arg {t : TypeId} {fs : Array Field} {r : Reach} {b0 : Nat} {v : Value} {α : Type} {e : α → List V} {x : DataW H} {p : List MemPlace} (ht : P.underlying t = some (.struct fs)) (h : OpensV enc P W t e)
    (hv : Value.okWide P W r b0 t v) (hd : DataW.Trod enc P W 0 (fun _ => true) true t v x p) : ∃ a : α, Rep (held W) (fun _ => none) W v (.agg (e a)) := by
  obtain ⟨cs, rfl, _⟩ := okWide_struct ht hv
  obtain ⟨fuel, hf⟩ := hd
  obtain ⟨a, ha⟩ := h hf
  simp only [Value.cells] at ha
  refine ⟨a, .agg (by simpa using ha.1) fun j c v hc hv => (ha.2 j c v (by simpa using hc) hv).2⟩
theorem intV_arg {t : TypeId} {k : IntKind} {r : Reach} {b0 : Nat} {v : Value} {x : DataW H} {p : List MemPlace} (ht : P.underlying t = some (.int k)) (hv : Value.okWide P W r b0 t v) (hd : DataW.Trod enc P W 0 (fun _ => true) true t v x p) : ∃ z : Int, Rep (held W) (fun _ => none) W v (.int k z) := by
  obtain ⟨z, rfl, _⟩ := open_int ht hv hd
  exact ⟨z, .int _ _⟩
end
theorem Rep.row {S : Nat → Prop} {ρ : Rho} {w : World} {c : Value} {sz : Nat} {ys : List (List V)} (r : Rep S ρ w c (.lst sz ys)) {i j : Nat} {e : List V} {v : V} (h1 : ys[i]? = some e) (h2 : e[j]? = some v) : ∃ c', Rep S ρ w c' v := by
  cases r with
  | lst cf hn hc hb hs ha g1 g2 => exact ⟨_, g2 i e j v h1 h2⟩
theorem Rep.field {S : Nat → Prop} {ρ : Rho} {w : World} {c : Value} {vs : List V} (r : Rep S ρ w c (.agg vs)) {j : Nat} {v : V} (h : vs[j]? = some v) : ∃ c', Rep S ρ w c' v := by
  cases r with
  | @agg cs _ hl g =>
    have hj : j < cs.size := by rw [hl]; exact (List.getElem?_eq_some_iff.1 h).1
    exact ⟨_, g j _ v (Array.getElem?_eq_getElem hj) h⟩
theorem OwnsR.aggB {h : Heap} {ds : List V} {b : Bool} {r : V} {ids : List Nat} (o : OwnsR h (.tup [.agg ds, .bool b]) r ids) : ∃ cs, r = .tup [.agg cs, .bool b] ∧ OwnsL h ds cs ids := by
  obtain ⟨cs, rfl, p1⟩ := OwnsR.tup.1 o
  obtain ⟨c0, cs', i0, j0, rfl, rfl, q0, p2⟩ := OwnsL.cons_.1 p1
  obtain ⟨c1, cs'', i1, j1, rfl, rfl, q1, p3⟩ := OwnsL.cons_.1 p2
  obtain ⟨rfl, rfl⟩ := OwnsL.nil_.1 p3
  obtain ⟨rfl, rfl⟩ := Owns.bool_.1 q1
  obtain ⟨cs, rfl, q2⟩ := Owns.agg_.1 q0
  exact ⟨cs, rfl, by simpa using q2⟩
theorem OwnsR.lstB {h : Heap} {sz : Nat} {ys : Blk} {b : Bool} {r : V} {ids : List Nat} (o : OwnsR h (.tup [.lst sz ys, .bool b]) r ids) : ∃ v, r = .tup [v, .bool b] ∧ Owns h (.lst sz ys) v ids := by
  obtain ⟨cs, rfl, p1⟩ := OwnsR.tup.1 o
  obtain ⟨c0, cs', i0, j0, rfl, rfl, q0, p2⟩ := OwnsL.cons_.1 p1
  obtain ⟨c1, cs'', i1, j1, rfl, rfl, q1, p3⟩ := OwnsL.cons_.1 p2
  obtain ⟨rfl, rfl⟩ := OwnsL.nil_.1 p3
  obtain ⟨rfl, rfl⟩ := Owns.bool_.1 q1
  exact ⟨c0, rfl, by simpa using q0⟩
theorem OwnsR.lstIB {h : Heap} {sz : Nat} {ys : Blk} {k : IntKind} {n : Int} {b : Bool} {r : V} {ids : List Nat} (o : OwnsR h (.tup [.lst sz ys, .int k n, .bool b]) r ids) : ∃ v, r = .tup [v, .int k n, .bool b] ∧ Owns h (.lst sz ys) v ids := by
  obtain ⟨cs, rfl, p1⟩ := OwnsR.tup.1 o
  obtain ⟨c0, cs', i0, j0, rfl, rfl, q0, p2⟩ := OwnsL.cons_.1 p1
  obtain ⟨c1, cs'', i1, j1, rfl, rfl, q1, p3⟩ := OwnsL.cons_.1 p2
  obtain ⟨c2, cs3, i2, j2, rfl, rfl, q2, p4⟩ := OwnsL.cons_.1 p3
  obtain ⟨rfl, rfl⟩ := OwnsL.nil_.1 p4
  obtain ⟨rfl, rfl⟩ := Owns.int_.1 q1
  obtain ⟨rfl, rfl⟩ := Owns.bool_.1 q2
  exact ⟨c0, rfl, by simpa using q0⟩
end Go.Av
