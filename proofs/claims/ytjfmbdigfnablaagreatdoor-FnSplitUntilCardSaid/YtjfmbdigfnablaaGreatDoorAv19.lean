/- Own slices of scalars: read through, handed back, written. No condition. -/
import Derived.Test.YtjfmbdigfnablaaGreatDoorAv18
namespace Go.Av
open Go.RowKit
set_option linter.unusedVariables false
set_option linter.unusedSimpArgs false

def V.scalar : V → Bool
  | .int _ _ => true
  | .bool _ => true
  | .str _ => true
  | _ => false
/-- Rows of scalars. -/
def flat (b : Blk) : Bool := b.all fun e => e.all V.scalar
theorem Snap.of_scalar (h : Heap) {v : V} (hv : v.scalar = true) : Snap h v v := by
  cases v <;> first | exact .int _ _ | exact .bool _ | exact .str _ | cases hv
theorem scalar_refs {v : V} (n : Nat) (hv : v.scalar = true) : V.refs n v = true := by
  cases v <;> first | rfl | cases hv
theorem scalar_fresh {v : V} (hv : v.scalar = true) : V.fresh v = true := by
  cases v <;> first | rfl | cases hv
theorem scalars_refs (n : Nat) : ∀ {l : List V}, l.all V.scalar = true → V.refsL n l = true
  | [], _ => rfl
  | x :: xs, h => by
    simp only [List.all_cons, Bool.and_eq_true] at h
    simp only [V.refsL, scalar_refs n h.1, scalars_refs n h.2, Bool.and_self]
theorem scalars_fresh : ∀ {l : List V}, l.all V.scalar = true → V.freshL l = true
  | [], _ => rfl
  | x :: xs, h => by
    simp only [List.all_cons, Bool.and_eq_true] at h
    simp only [V.freshL, scalar_fresh h.1, scalars_fresh h.2, Bool.and_self]
theorem flat_refs (n : Nat) : ∀ {b : Blk}, flat b = true → V.refsLL n b = true
  | [], _ => rfl
  | x :: xs, h => by
    simp only [flat, List.all_cons, Bool.and_eq_true] at h
    simp only [V.refsLL, scalars_refs n h.1, flat_refs n (b := xs) h.2, Bool.and_self]
theorem flat_get {b : Blk} (h : flat b = true) {i j : Nat} {e : List V} {c : V} (hi : b[i]? = some e) (hj : e[j]? = some c) : c.scalar = true :=
  List.all_eq_true.1 (List.all_eq_true.1 h e (List.mem_of_getElem? hi)) c (List.mem_of_getElem? hj)
theorem Snap.flat {h : Heap} {id sz : Nat} {b : Blk} (hb : h[id]? = some b) (hf : flat b = true) : Snap h (.own id sz 0 b.length b.length) (.lst sz b) := by
  refine .own hb rfl (by omega) rfl (fun i e d h1 h2 => ?_) (fun i e d j c x h1 h2 h3 h4 => ?_)
  · rw [Nat.zero_add, h2] at h1; cases h1; rfl
  · rw [Nat.zero_add, h2] at h1; cases h1
    rw [h3] at h4; cases h4
    exact Snap.of_scalar h (flat_get hf h2 h3)
theorem Snap.sameL {h : Heap} {sz : Nat} {xs : List (List V)} (hr : V.refs 0 (.lst sz xs) = true) : Snap h (.lst sz xs) (.lst sz xs) := .lst sz xs hr
theorem Snap.aggS {h : Heap} {cs : List V} (hc : cs.all V.scalar = true) : Snap h (.agg cs) (.agg cs) := by
  refine .agg rfl fun j c d h1 h2 => ?_
  rw [h1] at h2; cases h2
  exact Snap.of_scalar h (List.all_eq_true.1 hc c (List.mem_of_getElem? h1))
theorem Snaps.nil (h : Heap) : Snaps h [] [] := ⟨rfl, fun j c d h => by simp at h⟩
theorem Snaps.cons {h : Heap} {x y : V} {xs ys : List V} (h1 : Snap h x y) (h2 : Snaps h xs ys) : Snaps h (x :: xs) (y :: ys) := by
  refine ⟨by simp [h2.1], fun j c d hc hd => ?_⟩
  cases j with
  | zero => simp at hc hd; subst hc hd; exact h1
  | succ j => exact h2.2 j c d (by simpa using hc) (by simpa using hd)
/-- A function that hands back a slice of its own. -/
theorem C.cpOwn {P : Program} {f : FuncId} {args : List V} {sz n : Nat} {b : Blk} (hf : flat b = true) (h : C P f args [] (fun r h' => ∃ id, r = .own id sz 0 n n ∧ h'[id]? = some b)) : CP P f args (.own 0 sz 0 n n) [b] := by
  refine h.mono fun r h' ⟨id, hr, hb⟩ => ⟨rfl, fun c hc => ?_, fun _ => id, fun i j hi hj _ => ?_, hr, fun k c hc => ?_⟩
  · simp at hc; subst hc
    exact flat_refs _ hf
  · simp at hi hj; omega
  · cases k with
    | zero => simp at hc; subst hc; rw [mapLL_refs0 (flat_refs 0 hf)]; exact hb
    | succ k => simp at hc
theorem CP.goOwn {P : Program} {f : FuncId} {args : List V} {sz n : Nat} {b : Blk} {h : Heap} {K : V → Heap → Prop} (hc : CP P f args (.own 0 sz 0 n n) [b]) (hf : flat b = true) (ha : V.refsL 0 args = true) (hk : K (.own h.length sz 0 n n) (h ++ [b])) : @callP P f args h ⟨K⟩ := by
  refine .inr ⟨args, _, [b], hc, .inl ⟨rfl, ha⟩, ?_⟩
  simp only [V.mapId, Nat.zero_add, List.map_cons, List.map_nil, mapLL_refs0 (flat_refs 0 hf)]
  exact hk
theorem CP.goOwnS {P : Program} {f : FuncId} {args args' : List V} {sz n : Nat} {b : Blk} {h : Heap} {K : V → Heap → Prop} (hc : CP P f args' (.own 0 sz 0 n n) [b]) (hf : flat b = true) (ha : Snaps h args args') (hk : K (.own h.length sz 0 n n) (h ++ [b])) : @callP P f args h ⟨K⟩ := by
  refine .inr ⟨args', _, [b], hc, .inr ⟨ha, rfl, fun c hc e he => ?_⟩, ?_⟩
  · simp at hc; subst hc
    exact scalars_fresh (List.all_eq_true.1 hf e he)
  · simp only [V.mapId, Nat.zero_add, List.map_cons, List.map_nil, mapLL_refs0 (flat_refs 0 hf)]
    exact hk
theorem heap_lt {h : Heap} {id : Nat} {b : Blk} (hb : h[id]? = some b) : id < h.length := (List.getElem?_eq_some_iff.1 hb).1
theorem heap_app {h h' : Heap} {id : Nat} {b : Blk} (hb : h[id]? = some b) : (h ++ h')[id]? = some b := by rw [List.getElem?_append_left (heap_lt hb)]; exact hb
theorem heap_set {h : Heap} {id : Nat} {b : Blk} (c : Blk) (hb : h[id]? = some b) : (h.set id c)[id]? = some c := by simp [heap_lt hb]
theorem heap_set_ne {h : Heap} {id id' : Nat} {b : Blk} (c : Blk) (hne : id ≠ id') (hb : h[id]? = some b) : (h.set id' c)[id]? = some b := by rw [List.getElem?_set_ne (Ne.symm hne)]; exact hb
theorem appendH_n {h : Heap} {sz bytes id n m : Nat} {b xs : List (List V)} {x : V} (hb : h[id]? = some b) (hn : b.length = n) (hx : elemsOf h sz x = some xs) (hm : xs.length = m) (hl : (n + m) * bytes ≤ 140737488355328) : appendH h sz bytes (.own id sz 0 n n) x = some (.own id sz 0 (n + m) (n + m), h.set id (b ++ xs)) := by
  subst hn hm; exact appendH_own hb hx hl
theorem elemsOf_n {h : Heap} {sz id n : Nat} {b : List (List V)} (hb : h[id]? = some b) (hn : b.length = n) : elemsOf h sz (.own id sz 0 n n) = some b := by
  subst hn; exact elemsOf_own hb
theorem Snap.flatN {h : Heap} {id sz n : Nat} {b : Blk} (hb : h[id]? = some b) (hn : b.length = n) (hf : Av.flat b = true) : Snap h (.own id sz 0 n n) (.lst sz b) := by
  subst hn; exact Snap.flat hb hf
/-- One row more. -/
theorem append1 {h : Heap} {sz bytes id n : Nat} {b : List (List V)} {c : List V} (hb : h[id]? = some b) (hn : b.length = n) (hl : (n + 1) * bytes ≤ 140737488355328) : appendH (h ++ [[c]]) sz bytes (.own id sz 0 n n) (.own h.length sz 0 1 1) = some (.own id sz 0 (n + 1) (n + 1), (h ++ [[c]]).set id (b ++ [c])) :=
  appendH_n (heap_app hb) hn (elemsOf_n (b := [c]) (by simp) rfl) rfl hl
/-- Whole numbers as rows. -/
def encI (i : Int) : List V := [.int .i64 i]
theorem flat_encI (xs : List Int) : flat (xs.map encI) = true := by simp [flat, encI, V.scalar]
theorem dec_false : decide False = false := (rfl)
theorem dec_true : decide True = true := (rfl)
attribute [go_sem] List.replicate_succ dec_false dec_true
end Go.Av
