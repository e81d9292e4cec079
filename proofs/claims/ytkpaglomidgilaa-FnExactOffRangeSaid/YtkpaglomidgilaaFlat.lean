/- An argument that is a struct of int64 numbers, however its fields are nested, is opened to the list of its numbers. Conditions: the type's shape is checked by computation ('flat'). -/
import Derived.ChangeArms
import Derived.ChangeSame
import Derived.WideShapes
import Derived.OpenShut
namespace Go.Proofs.Ytkpaglomidgilaa.Flat
open Go.ChangeShapes Go.WideShapes Go.RowKit

/-- The fields lie one behind the other from cell 'off' to cell 'tot'. -/
def tile (P : Program) : List Field → Nat → Nat → Bool
  | [], off, tot => off == tot
  | f :: l, off, tot => f.offset == off && tile P l (off + P.cellsOf f.type) tot
/-- The type is int64, or a struct of such types. -/
def flat (P : Program) : Nat → TypeId → Bool
  | 0, _ => false
  | n + 1, t => match P.underlying t with
    | some (.int .i64) => true
    | some (.struct fs) => tile P fs.toList 0 (P.cellsOf t) && fs.toList.all fun f => flat P n f.type
    | _ => false

section
variable {H : Type} {enc : TypeId × Value → H} {P : Program} {w : World} {base : Nat} {spare : Nat → Bool} {held : Bool}

theorem open_flat : ∀ (n : Nat) {t : TypeId} {fuel : Nat} {cs : List Value} {x : DataW H × List MemPlace}, flat P n t = true → DataW.trod enc P w base spare held fuel t cs = some x →
    ∃ zs : List Int, cs = zs.map (Value.int .i64) ∧ ∀ z ∈ zs, (Lit.int .i64 z).wf = true
  | 0, _, _, _, _, h, _ => by simp [flat] at h
  | n + 1, t, fuel, cs, x, h, hx => by
    unfold flat at h
    split at h
    · rename_i hu
      obtain ⟨z, hc, _, hw⟩ := DataW.trod_int hu hx
      exact ⟨[z], by simpa using hc, by simpa using hw⟩
    · rename_i fs hu
      rw [Bool.and_eq_true] at h
      obtain ⟨htile, hall⟩ := h
      obtain ⟨xs, m, _, _, hl, hlen, hf⟩ := DataW.trod_struct hu hx
      have key : ∀ (l : List Field) (pre : List Field) (off : Nat), fs.toList = pre ++ l → tile P l off (P.cellsOf t) = true →
          ∃ zs : List Int, cs.drop off = zs.map (Value.int .i64) ∧ ∀ z ∈ zs, (Lit.int .i64 z).wf = true := by
        intro l
        induction l with
        | nil =>
          intro pre off _ ht
          have e : off = P.cellsOf t := by simpa [tile] using ht
          exact ⟨[], by rw [e, ← hl]; simp, by simp⟩
        | cons f l ih =>
          intro pre off hp ht
          rw [tile, Bool.and_eq_true] at ht
          obtain ⟨ho, ht⟩ := ht
          have ho' : f.offset = off := by simpa using ho
          obtain ⟨z2, h2, w2⟩ := ih (pre ++ [f]) _ (by simp [hp]) ht
          have hget : fs[pre.length]? = some f := by
            rw [← Array.getElem?_toList, hp]; simp
          have hlt : pre.length < xs.length := by
            rw [hlen, ← Array.length_toList, hp]; simp
          have h1 := hf pre.length f hget
          rw [List.getElem?_eq_getElem hlt, ho'] at h1
          have hfl : flat P n f.type = true := by
            have := List.all_eq_true.1 hall f (by rw [hp]; simp)
            exact this
          obtain ⟨z1, h1, w1⟩ := open_flat n hfl h1
          refine ⟨z1 ++ z2, ?_, ?_⟩
          · rw [List.map_append, ← h1, ← h2, ← List.drop_drop, List.take_append_drop]
          · intro z hz
            rcases List.mem_append.1 hz with hz | hz
            · exact w1 z hz
            · exact w2 z hz
      simpa using key fs.toList [] 0 rfl htile
    · simp at h

/-- A struct by value: its numbers, as many as it has cells. -/
theorem open_agg {r : Reach} {b0 : Nat} {t : TypeId} {fs : Array Field} {v : Value} {d : DataW H} {p : List MemPlace} {m : Nat} (hs : P.underlying t = some (.struct fs)) (hfl : flat P 9 t = true) (hC : P.cellsOf t = m)
    (hv : Value.okWide P w r b0 t v) (h : DataW.Trod enc P w base spare held t v d p) :
    ∃ zs : List Int, v = .agg (zs.map (Value.int .i64)).toArray ∧ zs.length = m ∧ ∀ z ∈ zs, (Lit.int .i64 z).wf = true := by
  obtain ⟨cs, rfl, hsz⟩ := okWide_struct hs hv
  obtain ⟨fuel, hf⟩ := h
  obtain ⟨zs, hc, hw⟩ := open_flat 9 hfl hf
  have e : cs = (zs.map (Value.int .i64)).toArray := by
    have h1 : cs.toList = zs.map (Value.int .i64) := by simpa [Value.cells] using hc
    rw [← h1]
  refine ⟨zs, by rw [e], ?_, hw⟩
  have : zs.length = cs.size := by rw [e]; simp
  rw [this, hsz, hC]
theorem list_cons {m : Nat} {zs : List Int} (h : zs.length = m + 1) : ∃ z l, zs = z :: l ∧ l.length = m := by
  cases zs with
  | nil => simp at h
  | cons z l => exact ⟨z, l, rfl, by simpa using h⟩
theorem list_nil {zs : List Int} (h : zs.length = 0) : zs = [] := List.length_eq_zero_iff.1 h
theorem list0 {zs : List Int} (h : zs.length = 0) : zs = [] := list_nil h
theorem list1 {zs : List Int} (h : zs.length = 1) : ∃ a0, zs = [a0] := by
  obtain ⟨z, l, rfl, hl⟩ := list_cons h
  obtain rfl := list_nil hl
  exact ⟨z, rfl⟩
theorem list2 {zs : List Int} (h : zs.length = 2) : ∃ a0 a1, zs = [a0, a1] := by
  obtain ⟨z, l, rfl, hl⟩ := list_cons h
  obtain ⟨b0, rfl⟩ := list1 hl
  exact ⟨z, b0, rfl⟩
theorem list3 {zs : List Int} (h : zs.length = 3) : ∃ a0 a1 a2, zs = [a0, a1, a2] := by
  obtain ⟨z, l, rfl, hl⟩ := list_cons h
  obtain ⟨b0, b1, rfl⟩ := list2 hl
  exact ⟨z, b0, b1, rfl⟩
theorem list4 {zs : List Int} (h : zs.length = 4) : ∃ a0 a1 a2 a3, zs = [a0, a1, a2, a3] := by
  obtain ⟨z, l, rfl, hl⟩ := list_cons h
  obtain ⟨b0, b1, b2, rfl⟩ := list3 hl
  exact ⟨z, b0, b1, b2, rfl⟩
theorem list5 {zs : List Int} (h : zs.length = 5) : ∃ a0 a1 a2 a3 a4, zs = [a0, a1, a2, a3, a4] := by
  obtain ⟨z, l, rfl, hl⟩ := list_cons h
  obtain ⟨b0, b1, b2, b3, rfl⟩ := list4 hl
  exact ⟨z, b0, b1, b2, b3, rfl⟩
theorem list6 {zs : List Int} (h : zs.length = 6) : ∃ a0 a1 a2 a3 a4 a5, zs = [a0, a1, a2, a3, a4, a5] := by
  obtain ⟨z, l, rfl, hl⟩ := list_cons h
  obtain ⟨b0, b1, b2, b3, b4, rfl⟩ := list5 hl
  exact ⟨z, b0, b1, b2, b3, b4, rfl⟩
theorem list7 {zs : List Int} (h : zs.length = 7) : ∃ a0 a1 a2 a3 a4 a5 a6, zs = [a0, a1, a2, a3, a4, a5, a6] := by
  obtain ⟨z, l, rfl, hl⟩ := list_cons h
  obtain ⟨b0, b1, b2, b3, b4, b5, rfl⟩ := list6 hl
  exact ⟨z, b0, b1, b2, b3, b4, b5, rfl⟩
theorem list8 {zs : List Int} (h : zs.length = 8) : ∃ a0 a1 a2 a3 a4 a5 a6 a7, zs = [a0, a1, a2, a3, a4, a5, a6, a7] := by
  obtain ⟨z, l, rfl, hl⟩ := list_cons h
  obtain ⟨b0, b1, b2, b3, b4, b5, b6, rfl⟩ := list7 hl
  exact ⟨z, b0, b1, b2, b3, b4, b5, b6, rfl⟩
theorem list9 {zs : List Int} (h : zs.length = 9) : ∃ a0 a1 a2 a3 a4 a5 a6 a7 a8, zs = [a0, a1, a2, a3, a4, a5, a6, a7, a8] := by
  obtain ⟨z, l, rfl, hl⟩ := list_cons h
  obtain ⟨b0, b1, b2, b3, b4, b5, b6, b7, rfl⟩ := list8 hl
  exact ⟨z, b0, b1, b2, b3, b4, b5, b6, b7, rfl⟩
end
end Go.Proofs.Ytkpaglomidgilaa.Flat
