/- A heap told as separate parts: what each owned value reads as, boxes, plain blocks; calls keep the parts that they are not handed. No condition. -/
import Derived.Test.YtjfmbdigfnablaaGreatDoorAv24
namespace Go.Av
open Go.RowKit
set_option linter.unusedVariables false
set_option linter.unusedSimpArgs false

/-- A part of a heap: a value that owns what it tells; the cells of one; a box (one row) that owns; a block of which only the cells are told; a cursor over drawn bytes. -/
inductive It where
  | v (y v : V)
  | l (ys cs : List V)
  | b (id : Nat) (ys cs : List V)
  | k (id : Nat) (b : Blk)
  | c (id : Nat)
  | p (zs : List Int) (r : V)
/-- Rows of one scalar each. -/
def rows1 (b : Blk) : Bool := b.all fun e => decide (e.length = 1) && e.all V.scalar
theorem rows1_flat {b : Blk} (h : rows1 b = true) : flat b = true := by
  simp only [rows1, flat, List.all_eq_true, Bool.and_eq_true] at *
  exact fun e he => (h e he).2
theorem rows1_len {b : Blk} (h : rows1 b = true) : ∀ e ∈ b, e.length = 1 := fun e he => by
  simp only [rows1, List.all_eq_true, Bool.and_eq_true, decide_eq_true_eq] at h
  exact (h e he).1
theorem rows1_ints (zs : List Int) : rows1 (zs.map encI) = true := by simp [rows1, encI, V.scalar]
/-- A slice of whole numbers, the head of its block. -/
def PtR (h : Heap) (zs : List Int) (r : V) (i : List Nat) : Prop := (r = .nils ∧ zs = [] ∧ i = []) ∨ ∃ id n b, r = .own id 1 0 zs.length n ∧ h[id]? = some b ∧ b.length = n ∧ zs.length ≤ n ∧ b.take zs.length = zs.map encI ∧ rows1 b = true ∧ i = [id]
def It.own (h : Heap) : It → List Nat → Prop
  | .v y x, i => OwnsR h y x i
  | .l ys cs, i => OwnsL h ys cs i
  | .b id ys cs, i => ∃ js, i = id :: js ∧ h[id]? = some [cs] ∧ OwnsL h ys cs js
  | .k id bb, i => i = [id] ∧ h[id]? = some bb
  | .c id, i => i = [id] ∧ Cur h id
  | .p zs x, i => PtR h zs x i
def SepI (h : Heap) : List It → List Nat → Prop
  | [], ids => ids = []
  | x :: L, ids => ∃ i j, ids = i ++ j ∧ x.own h i ∧ SepI h L j
def Sep (h : Heap) (L : List It) : Prop := ∃ ids, ids.Nodup ∧ SepI h L ids

theorem OwnsR.keep {h h' : Heap} {y v : V} {ids : List Nat} (k : ∀ i ∈ ids, h'[i]? = h[i]?) (o : OwnsR h y v ids) : OwnsR h' y v ids := by
  unfold OwnsR at *
  split at o
  · obtain ⟨cs, rfl, o⟩ := o
    exact ⟨_, rfl, o.keep k⟩
  · exact o.keep k
theorem It.own_keep {h h' : Heap} {x : It} {ids : List Nat} (k : ∀ i ∈ ids, h'[i]? = h[i]?) (o : x.own h ids) : x.own h' ids := by
  cases x with
  | v y x => exact OwnsR.keep k o
  | l ys cs => exact OwnsL.keep k o
  | b id ys cs =>
    obtain ⟨js, rfl, e, o⟩ := o
    exact ⟨js, rfl, by rw [k id (by simp)]; exact e, o.keep fun i hi => k i (by simp [hi])⟩
  | k id b =>
    obtain ⟨rfl, e⟩ := o
    exact ⟨rfl, by rw [k id (by simp)]; exact e⟩
  | c id =>
    obtain ⟨rfl, bs, i, hh, e, r⟩ := o
    exact ⟨rfl, bs, i, hh, by rw [k id (by simp)]; exact e, r⟩
  | p zs r =>
    rcases o with o | ⟨id, n, b, e1, e2, e3, e4, e5, e6, rfl⟩
    · exact .inl o
    · exact .inr ⟨id, n, b, e1, by rw [k id (by simp)]; exact e2, e3, e4, e5, e6, rfl⟩
theorem It.own_lt {h : Heap} {x : It} {ids : List Nat} (o : x.own h ids) : ∀ i ∈ ids, i < h.length := by
  cases x with
  | v y x => exact OwnsR.lt o
  | l ys cs => exact OwnsL.lt o
  | b id ys cs =>
    obtain ⟨js, rfl, e, o⟩ := o
    intro i hi
    rcases List.mem_cons.1 hi with rfl | hi
    · exact heap_lt e
    · exact o.lt i hi
  | k id b =>
    obtain ⟨rfl, e⟩ := o
    intro i hi
    simp at hi; subst hi
    exact heap_lt e
  | c id =>
    obtain ⟨rfl, e⟩ := o
    intro i hi
    simp at hi; subst hi
    exact e.lt
  | p zs r =>
    rcases o with ⟨_, _, rfl⟩ | ⟨id, n, b, e1, e2, e3, e4, e5, e6, rfl⟩
    · simp
    · intro i hi
      simp at hi; subst hi
      exact heap_lt e2
theorem SepI.keep {h h' : Heap} : ∀ {L : List It} {ids : List Nat}, (∀ i ∈ ids, h'[i]? = h[i]?) → SepI h L ids → SepI h' L ids
  | [], ids, k, o => o
  | x :: L, ids, k, ⟨i, j, e, o1, o2⟩ => by
    subst e
    exact ⟨i, j, rfl, It.own_keep (fun x hx => k x (by simp [hx])) o1, SepI.keep (fun x hx => k x (by simp [hx])) o2⟩
theorem SepI.lt {h : Heap} : ∀ {L : List It} {ids : List Nat}, SepI h L ids → ∀ i ∈ ids, i < h.length
  | [], ids, o => by subst o; simp
  | x :: L, ids, ⟨i, j, e, o1, o2⟩ => by
    subst e
    intro k hk
    rcases List.mem_append.1 hk with hk | hk
    · exact It.own_lt o1 k hk
    · exact SepI.lt o2 k hk
theorem SepI.split {h : Heap} : ∀ {L : List It} {ids : List Nat}, SepI h L ids → ∃ idss : List (List Nat), ids = idss.flatten ∧ idss.length = L.length ∧ ∀ (k : Nat) (x : It) (i : List Nat), L[k]? = some x → idss[k]? = some i → x.own h i
  | [], ids, s => ⟨[], s, rfl, fun k x i e => by simp at e⟩
  | x :: L, ids, ⟨i, j, e, o, s⟩ => by
    subst e
    obtain ⟨idss, e, hl, ho⟩ := SepI.split s
    subst e
    refine ⟨i :: idss, rfl, by simp [hl], fun k y a hy ha => ?_⟩
    cases k with
    | zero => simp at hy ha; subst hy ha; exact o
    | succ k => exact ho k y a (by simpa using hy) (by simpa using ha)
theorem SepI.join {h : Heap} {L : List It} {idss : List (List Nat)} (hl : idss.length = L.length) (ho : ∀ (k : Nat) (x : It) (i : List Nat), L[k]? = some x → idss[k]? = some i → x.own h i) : ∀ (is : List Nat), SepI h (is.filterMap (L[·]?)) (is.filterMap (idss[·]?)).flatten
  | [] => rfl
  | k :: is => by
    have ih := SepI.join hl ho is
    cases e : L[k]? with
    | none =>
      have e' : idss[k]? = none := by rw [List.getElem?_eq_none_iff] at *; omega
      rw [List.filterMap_cons_none e, List.filterMap_cons_none e']; exact ih
    | some x =>
      have hk : k < idss.length := by rw [hl]; exact (List.getElem?_eq_some_iff.1 e).1
      have e' : idss[k]? = some idss[k] := List.getElem?_eq_getElem hk
      rw [List.filterMap_cons_some e, List.filterMap_cons_some e', List.flatten_cons]
      exact ⟨_, _, rfl, ho k x _ e e', ih⟩
/-- Some of the parts, in a new order. -/
theorem Sep.pick {h : Heap} {L : List It} (is : List Nat) (S : Sep h L) (hn : is.Nodup) : Sep h (is.filterMap (L[·]?)) := by
  obtain ⟨ids, nd, s⟩ := S
  obtain ⟨idss, e, hl, ho⟩ := s.split
  subst e
  refine ⟨_, ?_, SepI.join hl ho is⟩
  have p := List.pairwise_flatten.1 nd
  refine List.pairwise_flatten.2 ⟨fun l hm => ?_, ?_⟩
  · obtain ⟨k, _, hk⟩ := List.mem_filterMap.1 hm
    exact p.1 l (List.mem_of_getElem? hk)
  · refine List.Pairwise.filterMap (R := (· ≠ ·)) _ (fun a a' hne b hb b' hb' => ?_) hn
    have q := List.pairwise_iff_getElem.1 p.2
    obtain ⟨ha, rfl⟩ := List.getElem?_eq_some_iff.1 hb
    obtain ⟨ha', rfl⟩ := List.getElem?_eq_some_iff.1 hb'
    rcases Nat.lt_or_ge a a' with h1 | h1
    · exact q a a' ha ha' h1
    · have := q a' a ha' ha (by omega)
      exact fun x hx y hy e => this y hy x hx e.symm
theorem Sep.nil (h : Heap) : Sep h [] := ⟨[], .nil, rfl⟩
theorem Sep.up {h h' : Heap} {L : List It} (S : Sep h L) (e : Ext h h') : Sep h' L := by
  obtain ⟨ids, n, s⟩ := S
  exact ⟨ids, n, s.keep fun i hi => e i (s.lt i hi)⟩
theorem Sep.app {h : Heap} {L : List It} (S : Sep h L) (t : Heap) : Sep (h ++ t) L := S.up (Ext.app _ _)
theorem SepI.append {h : Heap} : ∀ {L M : List It} {ids : List Nat}, SepI h (L ++ M) ids ↔ ∃ i j, ids = i ++ j ∧ SepI h L i ∧ SepI h M j
  | [], M, ids => by
    simp only [List.nil_append, SepI]
    exact ⟨fun h => ⟨[], ids, rfl, rfl, h⟩, fun ⟨i, j, e, e1, h⟩ => by subst e1 e; exact h⟩
  | x :: L, M, ids => by
    simp only [List.cons_append, SepI, SepI.append (L := L)]
    constructor
    · rintro ⟨i, j, rfl, o, a, b, rfl, s1, s2⟩
      exact ⟨i ++ a, b, by simp, ⟨i, a, rfl, o, s1⟩, s2⟩
    · rintro ⟨i, j, rfl, ⟨a, b, rfl, o, s1⟩, s2⟩
      exact ⟨a, b ++ j, by simp, o, b, j, rfl, s1, s2⟩
theorem nodup_perm {a b : List Nat} (p : a.Perm b) (n : a.Nodup) : b.Nodup := p.nodup_iff.1 n
theorem SepI.perm {h : Heap} {L M : List It} (p : L.Perm M) : ∀ {ids : List Nat}, SepI h L ids → ∃ ids', ids.Perm ids' ∧ SepI h M ids' := by
  induction p with
  | nil => exact fun {ids} s => ⟨ids, .refl _, s⟩
  | cons x p ih =>
    rintro ids ⟨i, j, rfl, o, s⟩
    obtain ⟨j', q, s'⟩ := ih s
    exact ⟨i ++ j', q.append_left i, i, j', rfl, o, s'⟩
  | swap x y l =>
    rintro ids ⟨i, j, rfl, o, a, b, rfl, o2, s⟩
    refine ⟨a ++ (i ++ b), ?_, a, i ++ b, rfl, o2, i, b, rfl, o, s⟩
    rw [← List.append_assoc, ← List.append_assoc]
    exact List.perm_append_comm.append_right b
  | trans p q ih1 ih2 =>
    intro ids s
    obtain ⟨i, q1, s1⟩ := ih1 s
    obtain ⟨j, q2, s2⟩ := ih2 s1
    exact ⟨j, q1.trans q2, s2⟩
theorem Sep.perm {h : Heap} {L M : List It} (p : L.Perm M) (S : Sep h L) : Sep h M := by
  obtain ⟨ids, n, s⟩ := S
  obtain ⟨ids', q, s'⟩ := s.perm p
  exact ⟨ids', nodup_perm q n, s'⟩
theorem perm_pull {x : It} (A B : List It) : (A ++ x :: B).Perm (x :: (A ++ B)) := List.perm_middle
/-- The n-th part is brought to the front. -/
def pull (n : Nat) (L : List It) : List It := match L[n]? with
  | some x => x :: L.eraseIdx n
  | none => L
theorem pull_perm : ∀ (n : Nat) (L : List It), L.Perm (pull n L)
  | _, [] => by simp [pull]
  | 0, x :: L => by simp [pull]
  | n + 1, x :: L => by
    have ih := pull_perm n L
    unfold pull at ih ⊢
    simp only [List.getElem?_cons_succ, List.eraseIdx_cons_succ]
    cases e : L[n]? with
    | none => exact .refl _
    | some y =>
      rw [e] at ih
      exact (ih.cons x).trans (.swap y x _)
theorem Sep.pull {h : Heap} {L : List It} (n : Nat) (S : Sep h L) : Sep h (Av.pull n L) := S.perm (pull_perm n L)
theorem pull_zero (x : It) (L : List It) : pull 0 (x :: L) = x :: L := by simp [pull]
/-- The first part goes to the n-th place. -/
theorem Sep.drop1 {h : Heap} {x : It} {L : List It} (S : Sep h (x :: L)) : Sep h L := by
  obtain ⟨ids, n, i, j, rfl, o, s⟩ := S
  exact ⟨j, (List.nodup_append.1 n).2.1, s⟩
theorem Sep.drop {h : Heap} {L : List It} (n : Nat) (S : Sep h L) : Sep h (L.eraseIdx n) := by
  have S' := S.pull n
  unfold Av.pull at S'
  cases e : L[n]? with
  | none =>
    rw [e] at S'
    rw [List.eraseIdx_of_length_le (by simpa using e)]; exact S'
  | some x => rw [e] at S'; exact S'.drop1
theorem Sep.nth {h : Heap} {L : List It} (n : Nat) (S : Sep h L) {x : It} (e : L[n]? = some x) : ∃ i, i.Nodup ∧ x.own h i := by
  have S' := S.pull n
  unfold Av.pull at S'
  rw [e] at S'
  obtain ⟨ids, nd, i, j, rfl, o, s⟩ := S'
  exact ⟨i, (List.nodup_append.1 nd).1, o⟩
theorem OwnsR.owns {h : Heap} {y v : V} {ids : List Nat} (hy : ∀ ds, y ≠ .tup ds) (o : OwnsR h y v ids) : Owns h y v ids := by
  unfold OwnsR at o
  split at o
  · exact absurd rfl (hy _)
  · exact o
theorem OwnsR.snap {h : Heap} {y v : V} {ids : List Nat} (hy : ∀ ds, y ≠ .tup ds) (o : OwnsR h y v ids) : Snap h v y := by
  unfold OwnsR at o
  split at o
  · exact absurd rfl (hy _)
  · exact Owns.snap o
theorem Sep.lst {h : Heap} {L : List It} (n : Nat) (S : Sep h L) {sz : Nat} {ys : Blk} {v : V} (e : L[n]? = some (.v (.lst sz ys) v)) : ∃ i, Owns h (.lst sz ys) v i := by
  obtain ⟨i, _, o⟩ := S.nth n e
  exact ⟨i, o⟩
theorem Sep.snap {h : Heap} {L : List It} (S : Sep h L) (n : Nat) {sz : Nat} {ys : Blk} {v : V} (e : L[n]? = some (.v (.lst sz ys) v)) : Snap h v (.lst sz ys) := by
  obtain ⟨i, o⟩ := S.lst n e
  exact o.snap
theorem Sep.vv {h : Heap} {L : List It} (S : Sep h L) (n : Nat) {sz : Nat} {ys : Blk} {v : V} (e : L[n]? = some (.v (.lst sz ys) v)) : V.one v = true ∧ V.nohole v = v ∧ V.cells v = [v] := by
  obtain ⟨i, o⟩ := S.lst n e
  exact o.vv
theorem Sep.box {h : Heap} {L : List It} (S : Sep h L) (n : Nat) {id : Nat} {ys cs : List V} (e : L[n]? = some (.b id ys cs)) : h[id]? = some [cs] := by
  obtain ⟨i, _, js, _, e, _⟩ := S.nth n e
  exact e
theorem Sep.blk {h : Heap} {L : List It} (S : Sep h L) (n : Nat) {id : Nat} {b : Blk} (e : L[n]? = some (.k id b)) : h[id]? = some b := by
  obtain ⟨i, _, _, e⟩ := S.nth n e
  exact e
/-- What the cells of a box read as. -/
theorem Sep.boxSnaps {h : Heap} {L : List It} (S : Sep h L) (n : Nat) {id : Nat} {ys cs : List V} (e : L[n]? = some (.b id ys cs)) : Snaps h cs ys := by
  obtain ⟨i, _, js, _, e, o⟩ := S.nth n e
  exact o.snap
theorem Sep.lSnaps {h : Heap} {L : List It} (S : Sep h L) (n : Nat) {ys cs : List V} (e : L[n]? = some (.l ys cs)) : Snaps h cs ys := by
  obtain ⟨i, _, o⟩ := S.nth n e
  exact OwnsL.snap o
/-- The first part turns into another one. -/
theorem Sep.turn {h h' : Heap} {x : It} {L : List It} (S : Sep h (x :: L)) : ∃ i, i.Nodup ∧ x.own h i ∧ (∀ j ∈ i, j < h.length) ∧
    ∀ (h' : Heap) (x' : It) (i' : List Nat), (∀ j, j < h.length → j ∉ i → h'[j]? = h[j]?) → x'.own h' i' → i'.Nodup → (∀ j ∈ i', j ∈ i ∨ h.length ≤ j) → Sep h' (x' :: L) := by
  obtain ⟨ids, n, i, j, rfl, o, s⟩ := S
  have n' := List.nodup_append.1 n
  refine ⟨i, n'.1, o, It.own_lt o, fun h' x' i' k o' nd' hi' => ⟨i' ++ j, ?_, i', j, rfl, o', s.keep fun a ha => k a (s.lt a ha) (fun hm => n'.2.2 a hm a ha rfl)⟩⟩
  rw [List.nodup_append]
  exact ⟨nd', n'.2.1, fun a ha b hb e => by
    subst e
    rcases hi' a ha with q | q
    · exact n'.2.2 a q a hb rfl
    · have := s.lt a hb; omega⟩
/-- A new part. -/
theorem Sep.add {h h' : Heap} {L : List It} (S : Sep h L) (x : It) (i : List Nat) (e : Ext h h') (n : i.Nodup) (hi : ∀ j ∈ i, h.length ≤ j) (o : x.own h' i) : Sep h' (x :: L) := by
  obtain ⟨ids, nd, s⟩ := S
  refine ⟨i ++ ids, ?_, i, ids, rfl, o, s.keep fun a ha => e a (s.lt a ha)⟩
  rw [List.nodup_append]
  exact ⟨n, nd, fun a ha b hb e => by subst e; have := hi a ha; have := s.lt a hb; omega⟩
/-- A call of a function of values whose result is the caller's own. -/
theorem Sep.go {P : Program} {f : FuncId} {args args' : List V} {y : V} {h : Heap} {L : List It} {K : V → Heap → Prop} (S : Sep h L) (hf : F P f args' y) (hs : Snaps h args args')
    (hk : ∀ r h', Ext h h' → Sep h' (.v y r :: L) → K r h') : @callP P f args h ⟨K⟩ :=
  F.go hf hs fun r h' ids x n g o => hk r h' x (S.add (.v y r) ids x n g o)
/-- Parts of parts. -/
theorem sep_tup {h : Heap} {ds : List V} {r : V} {L : List It} : Sep h (.v (.tup ds) r :: L) ↔ ∃ cs, r = .tup cs ∧ Sep h (.l ds cs :: L) := by
  constructor
  · rintro ⟨ids, n, i, j, rfl, ⟨cs, rfl, o⟩, s⟩
    exact ⟨cs, rfl, _, n, i, j, rfl, o, s⟩
  · rintro ⟨cs, rfl, ids, n, i, j, rfl, o, s⟩
    exact ⟨_, n, i, j, rfl, ⟨cs, rfl, o⟩, s⟩
theorem sep_agg {h : Heap} {ds : List V} {r : V} {L : List It} : Sep h (.v (.agg ds) r :: L) ↔ ∃ cs, r = .agg cs ∧ Sep h (.l ds cs :: L) := by
  constructor
  · rintro ⟨ids, n, i, j, rfl, o, s⟩
    obtain ⟨cs, rfl, o'⟩ := Owns.aggR.1 o
    exact ⟨cs, rfl, _, n, i, j, rfl, o', s⟩
  · rintro ⟨cs, rfl, ids, n, i, j, rfl, o, s⟩
    exact ⟨_, n, i, j, rfl, Owns.aggR.2 ⟨cs, rfl, o⟩, s⟩
theorem sep_l0 {h : Heap} {cs : List V} {L : List It} : Sep h (.l [] cs :: L) ↔ cs = [] ∧ Sep h L := by
  constructor
  · rintro ⟨ids, n, i, j, rfl, o, s⟩
    obtain ⟨rfl, rfl⟩ := (OwnsL.nil_ (h := h)).1 o
    exact ⟨rfl, j, by simpa using n, s⟩
  · rintro ⟨rfl, ids, n, s⟩
    exact ⟨ids, n, [], ids, rfl, (OwnsL.e : OwnsL h [] [] []), s⟩
theorem sep_li {h : Heap} {k : IntKind} {z : Int} {ds cs : List V} {L : List It} : Sep h (.l (.int k z :: ds) cs :: L) ↔ ∃ cs', cs = .int k z :: cs' ∧ Sep h (.l ds cs' :: L) := by
  constructor
  · rintro ⟨ids, n, i, j, rfl, o, s⟩
    obtain ⟨c, cs', i1, j1, rfl, rfl, o1, o2⟩ := OwnsL.cons_.1 o
    obtain ⟨rfl, rfl⟩ := Owns.int_.1 o1
    exact ⟨cs', rfl, _, n, j1, j, rfl, o2, s⟩
  · rintro ⟨cs', rfl, ids, n, i, j, rfl, o, s⟩
    exact ⟨_, n, i, j, rfl, OwnsL.i o, s⟩
theorem sep_lb {h : Heap} {z : Bool} {ds cs : List V} {L : List It} : Sep h (.l (.bool z :: ds) cs :: L) ↔ ∃ cs', cs = .bool z :: cs' ∧ Sep h (.l ds cs' :: L) := by
  constructor
  · rintro ⟨ids, n, i, j, rfl, o, s⟩
    obtain ⟨c, cs', i1, j1, rfl, rfl, o1, o2⟩ := OwnsL.cons_.1 o
    obtain ⟨rfl, rfl⟩ := Owns.bool_.1 o1
    exact ⟨cs', rfl, _, n, j1, j, rfl, o2, s⟩
  · rintro ⟨cs', rfl, ids, n, i, j, rfl, o, s⟩
    exact ⟨_, n, i, j, rfl, OwnsL.b o, s⟩
/-- The first cell of a list of cells, as a part of its own. -/
theorem sep_cons {h : Heap} {d : V} {ds cs : List V} {L : List It} : Sep h (.l (d :: ds) cs :: L) ↔ ∃ c cs' i j k, cs = c :: cs' ∧ (i ++ j ++ k).Nodup ∧ Owns h d c i ∧ OwnsL h ds cs' j ∧ SepI h L k := by
  constructor
  · rintro ⟨ids, n, i, j, rfl, o, s⟩
    obtain ⟨c, cs', i1, j1, rfl, rfl, o1, o2⟩ := OwnsL.cons_.1 o
    exact ⟨c, cs', i1, j1, j, rfl, n, o1, o2, s⟩
  · rintro ⟨c, cs', i, j, k, rfl, n, o1, o2, s⟩
    exact ⟨_, n, i ++ j, k, rfl, OwnsL.o o1 o2, s⟩
theorem perm_rot (i j k : List Nat) : (i ++ j ++ k).Perm (j ++ (k ++ i)) := by
  rw [List.append_assoc, ← List.append_assoc j]
  exact List.perm_append_comm
theorem sep_ll {h : Heap} {sz : Nat} {ys : Blk} {ds cs : List V} {L : List It} : Sep h (.l (.lst sz ys :: ds) cs :: L) ↔ ∃ c cs', cs = c :: cs' ∧ Sep h (.l ds cs' :: (L ++ [.v (.lst sz ys) c])) := by
  rw [sep_cons]
  constructor
  · rintro ⟨c, cs', i, j, k, rfl, n, o1, o2, s⟩
    exact ⟨c, cs', rfl, _, nodup_perm (perm_rot i j k) n, j, k ++ i, rfl, o2, SepI.append.2 ⟨k, i, rfl, s, i, [], by simp, o1, rfl⟩⟩
  · rintro ⟨c, cs', rfl, ids, n, j, ki, rfl, o2, s⟩
    obtain ⟨k, i, rfl, s, i', e, e1, o1, s0⟩ := SepI.append.1 s
    have : e = [] := s0
    subst this
    rw [List.append_nil] at e1
    subst e1
    exact ⟨c, cs', _, j, k, rfl, nodup_perm (perm_rot i j k).symm n, o1, o2, s⟩
theorem sep_la {h : Heap} {es ds cs : List V} {L : List It} : Sep h (.l (.agg es :: ds) cs :: L) ↔ ∃ c cs', cs = .agg c :: cs' ∧ Sep h (.l es c :: .l ds cs' :: L) := by
  rw [sep_cons]
  constructor
  · rintro ⟨c, cs', i, j, k, rfl, n, o1, o2, s⟩
    obtain ⟨es', rfl, o3⟩ := Owns.agg_.1 o1
    exact ⟨es', cs', rfl, _, n, i, j ++ k, by simp, o3, j, k, rfl, o2, s⟩
  · rintro ⟨c, cs', rfl, ids, n, i, jk, rfl, o1, j, k, rfl, o2, s⟩
    exact ⟨_, cs', i, j, k, rfl, by simpa using n, Owns.a o1, o2, s⟩
/-- The cells of the first part go into a new box. -/
theorem Sep.toBox {h : Heap} {ds cs : List V} {L : List It} (S : Sep h (.l ds cs :: L)) : Sep (h ++ [[cs]]) (.b h.length ds cs :: L) := by
  obtain ⟨ids, n, i, j, rfl, o, s⟩ := S
  refine ⟨h.length :: i ++ j, ?_, h.length :: i, j, rfl, ⟨i, rfl, at_app0 _ _, o.up (Ext.app _ _)⟩, s.keep fun a ha => List.getElem?_append_left (s.lt a ha)⟩
  rw [List.cons_append, List.nodup_cons]
  refine ⟨fun hm => ?_, n⟩
  rcases List.mem_append.1 hm with q | q
  · have := OwnsL.lt o _ q; omega
  · have := s.lt _ q; omega
/-- A box's cells, replaced by those of the second part. -/
theorem Sep.reBox {h : Heap} {id : Nat} {ys ys' cs cs' : List V} {L : List It} (S : Sep h (.b id ys cs :: .l ys' cs' :: L)) : Sep (h.set id [cs']) (.b id ys' cs' :: L) := by
  obtain ⟨ids, n, i, j, rfl, ⟨js, rfl, e, o⟩, a, b, rfl, o2, s⟩ := S
  have n' := List.nodup_append.1 n
  have hid : ∀ x ∈ a ++ b, x ≠ id := fun x hx e => n'.2.2 id (by simp) x hx e.symm
  refine ⟨id :: a ++ b, ?_, id :: a, b, rfl, ⟨a, rfl, heap_set _ e, o2.keep fun x hx => List.getElem?_set_ne (Ne.symm (hid x (by simp [hx])))⟩, s.keep fun x hx => List.getElem?_set_ne (Ne.symm (hid x (by simp [hx])))⟩
  rw [List.cons_append, List.nodup_cons]
  exact ⟨fun hm => hid id hm rfl, n'.2.1⟩
/-- A box opened: its cells, and the box as a plain block. -/
theorem sep_box {h : Heap} {id : Nat} {ys cs : List V} {L : List It} : Sep h (.b id ys cs :: L) ↔ Sep h (.k id [cs] :: .l ys cs :: L) := by
  constructor
  · rintro ⟨ids, n, i, j, rfl, ⟨js, rfl, e, o⟩, s⟩
    exact ⟨_, n, [id], js ++ j, by simp, ⟨rfl, e⟩, js, j, rfl, o, s⟩
  · rintro ⟨ids, n, i, j, rfl, ⟨rfl, e⟩, a, b, rfl, o, s⟩
    exact ⟨_, n, id :: a, b, by simp, ⟨a, rfl, e, o⟩, s⟩
/-- A plain block is replaced. -/
theorem Sep.setK {h : Heap} {id : Nat} {b : Blk} {L : List It} (S : Sep h (.k id b :: L)) (c : Blk) : Sep (h.set id c) (.k id c :: L) := by
  obtain ⟨i, n, o, lt, W⟩ := S.turn (h' := h)
  obtain ⟨rfl, e⟩ := o
  exact W _ (.k id c) [id] (fun j _ hj => List.getElem?_set_ne (by rintro rfl; exact hj (by simp))) ⟨rfl, heap_set _ e⟩ (by simp) (fun j hj => .inl hj)
theorem Sep.newK {h : Heap} {L : List It} (S : Sep h L) (c : Blk) : Sep (h ++ [c]) (.k h.length c :: L) :=
  S.add (.k h.length c) [h.length] (Ext.app _ _) (by simp) (by simp) ⟨rfl, at_app0 _ _⟩
/-- A slice of scalars is a block. -/
theorem Sep.ofFlat {h : Heap} {id sz n : Nat} {b : Blk} {L : List It} (S : Sep h (.k id b :: L)) (hn : b.length = n) (hf : flat b = true) : Sep h (.v (.lst sz b) (.own id sz 0 n n) :: L) := by
  obtain ⟨ids, nd, i, j, rfl, ⟨rfl, e⟩, s⟩ := S
  exact ⟨_, nd, [id], j, rfl, Owns.own_flat e hn hf, s⟩
theorem Sep.nils {h : Heap} {sz : Nat} {L : List It} (S : Sep h L) : Sep h (.v (.lst sz []) .nils :: L) := by
  obtain ⟨ids, nd, s⟩ := S
  exact ⟨ids, nd, [], ids, rfl, Owns.nils_, s⟩
theorem Sep.flat_ {h : Heap} {sz : Nat} {b : Blk} {v : V} {L : List It} (S : Sep h (.v (.lst sz b) v :: L)) (hf : flat b = true) : (v = .nils ∧ b = [] ∧ Sep h L) ∨ ∃ id, v = .own id sz 0 b.length b.length ∧ Sep h (.k id b :: L) := by
  obtain ⟨ids, nd, i, j, rfl, o, s⟩ := S
  rcases (Owns.flat_ hf).1 o with ⟨rfl, rfl, rfl⟩ | ⟨id, rfl, e, rfl⟩
  · exact .inl ⟨rfl, rfl, j, by simpa using nd, s⟩
  · exact .inr ⟨id, rfl, _, nd, [id], j, rfl, ⟨rfl, e⟩, s⟩
/-- A function's result, handed back with all that it owns. -/
theorem Sep.ret {h : Heap} {y v : V} {L : List It} (S : Sep h (.v y v :: L)) : ∃ ids : List Nat, ids.Nodup ∧ OwnsR h y v ids := S.nth 0 rfl
theorem Sep.cons2 {h : Heap} {d c : V} {ds cs : List V} {L : List It} (hd : ∀ es, d ≠ .tup es) (S : Sep h (.v d c :: .l ds cs :: L)) : Sep h (.l (d :: ds) (c :: cs) :: L) := by
  obtain ⟨ids, n, i, j, rfl, o, a, b, rfl, o2, s⟩ := S
  exact ⟨_, n, i ++ a, b, by simp, OwnsL.o (OwnsR.owns hd o) o2, s⟩
theorem Sep.l0 {h : Heap} {L : List It} (S : Sep h L) : Sep h (.l [] [] :: L) := sep_l0.2 ⟨rfl, S⟩
theorem Sep.li {h : Heap} {k : IntKind} {z : Int} {ds cs : List V} {L : List It} (S : Sep h (.l ds cs :: L)) : Sep h (.l (.int k z :: ds) (.int k z :: cs) :: L) := sep_li.2 ⟨_, rfl, S⟩
theorem Sep.lb {h : Heap} {z : Bool} {ds cs : List V} {L : List It} (S : Sep h (.l ds cs :: L)) : Sep h (.l (.bool z :: ds) (.bool z :: cs) :: L) := sep_lb.2 ⟨_, rfl, S⟩
theorem Sep.a {h : Heap} {ds cs : List V} {L : List It} (S : Sep h (.l ds cs :: L)) : Sep h (.v (.agg ds) (.agg cs) :: L) := sep_agg.2 ⟨_, rfl, S⟩
theorem Sep.t {h : Heap} {ds cs : List V} {L : List It} (S : Sep h (.l ds cs :: L)) : Sep h (.v (.tup ds) (.tup cs) :: L) := sep_tup.2 ⟨_, rfl, S⟩
theorem Sep.rot {h : Heap} {x : It} {L : List It} (S : Sep h (L ++ [x])) : Sep h (x :: L) := S.perm List.perm_append_comm
theorem Sep.goLst {P : Program} {f : FuncId} {args args' : List V} {sz : Nat} {ys : Blk} {h : Heap} {L : List It} {K : V → Heap → Prop} (S : Sep h L) (hf : F P f args' (.lst sz ys)) (hs : Snaps h args args')
    (hk : ∀ r h', Ext h h' → Sep h' (.v (.lst sz ys) r :: L) → V.one r = true → V.nohole r = r → V.cells r = [r] → K r h') : @callP P f args h ⟨K⟩ :=
  S.go hf hs fun r h' x S => by
    have z := S.vv 0 rfl
    exact hk r h' x S z.1 z.2.1 z.2.2
theorem Sep.goLstB {P : Program} {f : FuncId} {args args' : List V} {sz : Nat} {ys : Blk} {b : Bool} {h : Heap} {L : List It} {K : V → Heap → Prop} (S : Sep h L) (hf : F P f args' (.tup [.lst sz ys, .bool b])) (hs : Snaps h args args')
    (hk : ∀ r h', Ext h h' → Sep h' (.v (.lst sz ys) r :: L) → V.one r = true → V.nohole r = r → V.cells r = [r] → K (.tup [r, .bool b]) h') : @callP P f args h ⟨K⟩ :=
  S.go hf hs fun r h' x S => by
    obtain ⟨_, rfl, S1⟩ := sep_tup.1 S
    obtain ⟨c, _, rfl, S2⟩ := sep_ll.1 S1
    obtain ⟨_, rfl, S3⟩ := sep_lb.1 S2
    obtain ⟨rfl, S4⟩ := sep_l0.1 S3
    have S5 := S4.rot
    have z := S5.vv 0 rfl
    exact hk c h' x S5 z.1 z.2.1 z.2.2
/-- A call by a contract of values, with what the caller owns read. -/
theorem Snap.lstR {h : Heap} {sz : Nat} {xs : Blk} (hr : V.refs 0 (.lst sz xs) = true) : Snap h (.lst sz xs) (.lst sz xs) := .same _ hr
theorem Sep.cur {h : Heap} {id : Nat} {L : List It} (S : Sep h (.c id :: L)) : Cur h id := by
  obtain ⟨i, _, _, c⟩ := S.nth 0 rfl
  exact c
theorem Sep.curX {h h' : Heap} {id : Nat} {L : List It} (S : Sep h (.c id :: L)) (c : Cur h' id) (x : ExtX id h h') : Sep h' (.c id :: L) := by
  obtain ⟨i, n, o, lt, W⟩ := S.turn (h' := h)
  obtain ⟨rfl, _⟩ := o
  exact W h' (.c id) [id] (fun j hj hne => x j hj (by simpa using hne)) ⟨rfl, c⟩ (by simp) (fun j hj => .inl hj)
theorem Sep.goDI {P : Program} {f : FuncId} {args : List V} {h : Heap} {id : Nat} {lo hi : Int} {L : List It} {K : V → Heap → Prop} (S : Sep h (.c id :: L)) (hc : DI P f args h id lo hi) (hk : ∀ z h', lo ≤ z → z < hi → Sep h' (.c id :: L) → K (.int .i64 z) h') : @callP P f args h ⟨K⟩ :=
  hc.go fun z h' a b c x => hk z h' a b (S.curX c x)
theorem Sep.curNew {h h' : Heap} {L : List It} (S : Sep h L) (e : Ext h h') (c : Cur h' h.length) : Sep h' (.c h.length :: L) :=
  S.add (.c h.length) [h.length] e (by simp) (by simp) ⟨rfl, c⟩
theorem flat_take {b : Blk} (n : Nat) (hf : flat b = true) : flat (b.take n) = true := by
  simp only [flat, List.all_eq_true] at *
  exact fun e he => hf e (List.mem_of_mem_take he)
theorem Snap.head {h : Heap} {id sz n : Nat} {b : Blk} (u : Nat) (hb : h[id]? = some b) (hn : b.length = n) (hu : u ≤ n) (hf : Av.flat b = true) : Snap h (.own id sz 0 u n) (.lst sz (b.take u)) := by
  subst hn
  refine .own hb rfl (by omega) (by simp; omega) (fun i e d h1 h2 => ?_) (fun i e d j c x h1 h2 h3 h4 => ?_)
  · rw [Nat.zero_add] at h1
    have hi : i < u := by have := (List.getElem?_eq_some_iff.1 h2).1; simp at this; omega
    rw [List.getElem?_take_of_lt hi, h1] at h2; cases h2; rfl
  · rw [Nat.zero_add] at h1
    have hi : i < u := by have := (List.getElem?_eq_some_iff.1 h2).1; simp at this; omega
    rw [List.getElem?_take_of_lt hi, h1] at h2; cases h2
    rw [h3] at h4; cases h4
    exact Snap.of_scalar h (flat_get hf h1 h3)
theorem PtR.snap {h : Heap} {zs : List Int} {r : V} {i : List Nat} (o : PtR h zs r i) : Snap h r (.lst 1 (zs.map encI)) := by
  rcases o with ⟨rfl, rfl, _⟩ | ⟨id, n, b, rfl, e2, e3, e4, e5, e6, _⟩
  · exact .nils 1
  · rw [← e5]; exact Snap.head _ e2 e3 e4 (rows1_flat e6)
theorem PtR.vv {h : Heap} {zs : List Int} {r : V} {i : List Nat} (o : PtR h zs r i) : V.one r = true ∧ V.nohole r = r ∧ V.cells r = [r] := by
  rcases o with ⟨rfl, rfl, _⟩ | ⟨id, n, b, rfl, _⟩
  · exact ⟨rfl, rfl, rfl⟩
  · exact ⟨rfl, rfl, rfl⟩
theorem PtR.len_ {h : Heap} {zs : List Int} {r : V} {i : List Nat} (o : PtR h zs r i) (G : Int → Prop) : @onLen r ⟨G⟩ = G zs.length := by
  rcases o with ⟨rfl, rfl, _⟩ | ⟨id, n, b, rfl, _⟩ <;> rfl
theorem Sep.psnap {h : Heap} {L : List It} (S : Sep h L) (n : Nat) {zs : List Int} {r : V} (e : L[n]? = some (.p zs r)) : Snap h r (.lst 1 (zs.map encI)) := by
  obtain ⟨i, _, o⟩ := S.nth n e
  exact PtR.snap o
theorem Sep.pvv {h : Heap} {L : List It} (S : Sep h L) (n : Nat) {zs : List Int} {r : V} (e : L[n]? = some (.p zs r)) : (V.one r = true ∧ V.nohole r = r ∧ V.cells r = [r]) ∧ ∀ G : Int → Prop, @onLen r ⟨G⟩ = G zs.length := by
  obtain ⟨i, _, o⟩ := S.nth n e
  exact ⟨PtR.vv o, fun G => PtR.len_ o G⟩
mutual
theorem wipe_scalar : ∀ v : V, v.scalar = true → V.wipe v = v
  | .int _ _, _ => rfl
  | .bool _, _ => rfl
  | .str _, _ => rfl
  | .agg _, h => by cases h
  | .lst _ _, h => by cases h
  | .nils, h => by cases h
  | .own .., h => by cases h
  | .ptr .., h => by cases h
  | .rptr _, h => by cases h
  | .nilp, h => by cases h
  | .fn .., h => by cases h
  | .nilf, h => by cases h
  | .tup _, h => by cases h
  | .hole _, h => by cases h
  | .dead, h => by cases h
theorem wipeL_scalars : ∀ l : List V, l.all V.scalar = true → V.wipeL l = l
  | [], _ => rfl
  | x :: xs, h => by
    simp only [List.all_cons, Bool.and_eq_true] at h
    simp only [V.wipeL, wipe_scalar x h.1, wipeL_scalars xs h.2]
end
theorem landB_flat (n : Nat) {b : Blk} (hf : flat b = true) : landB n b = b := by
  have e : wipeB b = b := by
    unfold wipeB
    rw [List.map_congr_left (g := fun x => x)]
    · simp
    · intro x hx
      exact wipeL_scalars x (List.all_eq_true.1 hf x hx)
  unfold landB
  rw [e, mapLL_refs0 (flat_refs 0 hf)]
/-- The contract of a function of values that hands back the head of a block of its own. -/
def Pt (P : Program) (f : FuncId) (args : List V) (zs : List Int) : Prop := C P f args [] (fun r h' => ∃ i, PtR h' zs r i)
theorem Sep.goPt {P : Program} {f : FuncId} {args args' : List V} {zs : List Int} {h : Heap} {L : List It} {K : V → Heap → Prop} (S : Sep h L) (hf : Pt P f args' zs) (hs : Snaps h args args')
    (hk : ∀ r h', Ext h h' → Sep h' (.p zs r :: L) → V.one r = true → V.nohole r = r → V.cells r = [r] → (∀ G : Int → Prop, @onLen r ⟨G⟩ = G zs.length) → K r h') : @callP P f args h ⟨K⟩ :=
  C.go (C.snap hf hs) fun r h' ⟨r0, h0, ⟨i, o⟩, e1, e2⟩ => by
    subst e1 e2
    rcases o with ⟨rfl, rfl, _⟩ | ⟨id, n, b, rfl, e2, e3, e4, e5, e6, _⟩
    · exact hk _ _ (Ext.app _ _) (S.add (.p [] .nils) [] (Ext.app _ _) (by simp) (by simp) (.inl ⟨rfl, rfl, rfl⟩)) rfl rfl rfl (fun _ => rfl)
    · refine hk _ _ (Ext.app _ _) (S.add (.p zs (.own (id + h.length) 1 0 zs.length n)) [id + h.length] (Ext.app _ _) (by simp) (by simp) (.inr ⟨_, n, b, rfl, ?_, e3, e4, e5, e6, rfl⟩)) rfl rfl rfl (fun _ => rfl)
      rw [List.getElem?_append_right (by omega), List.getElem?_map, Nat.add_sub_cancel, e2, Option.map_some, landB_flat _ (rows1_flat e6)]
theorem Sep.toP {h : Heap} {id n : Nat} {b : Blk} {zs : List Int} {L : List It} (S : Sep h (.k id b :: L)) (hn : b.length = n) (hz : zs.length ≤ n) (ht : b.take zs.length = zs.map encI) (hf : rows1 b = true) : Sep h (.p zs (.own id 1 0 zs.length n) :: L) := by
  obtain ⟨ids, nd, i, j, rfl, ⟨rfl, e⟩, s⟩ := S
  exact ⟨_, nd, [id], j, rfl, .inr ⟨id, n, b, rfl, e, hn, hz, ht, hf, rfl⟩, s⟩
theorem Sep.pret {h : Heap} {zs : List Int} {r : V} {L : List It} (S : Sep h (.p zs r :: L)) : ∃ i, PtR h zs r i := by
  obtain ⟨i, _, o⟩ := S.nth 0 rfl
  exact ⟨i, o⟩
theorem F.pt {P : Program} {f : FuncId} {args : List V} {zs : List Int} (hf : F P f args (.lst 1 (zs.map encI))) : Pt P f args zs :=
  C.mono hf fun r h' ⟨ids, n, o⟩ => by
    rcases (Owns.flat_ (flat_encI zs)).1 o with ⟨rfl, e, rfl⟩ | ⟨id, rfl, hb, rfl⟩
    · exact ⟨[], .inl ⟨rfl, by simpa using e, rfl⟩⟩
    · refine ⟨[id], .inr ⟨id, _, _, by rw [List.length_map], hb, rfl, by simp, ?_, rows1_ints _, rfl⟩⟩
      rw [List.take_of_length_le (by simp)]
/-- A store into a whole box. -/
theorem storeBoxAt {h : Heap} {id sz : Nat} {z : List V} {x : V} (hb : h[id]? = some [z]) (hz : z.length = sz) (hf : fit sz x.cells = true) : storeH h sz (.ptr id 1 0 0) x = some (h.set id [x.cells]) := by
  simp only [fit, Bool.and_eq_true, decide_eq_true_eq] at hf
  have h3 : splice z 0 x.cells = x.cells := by
    have : z.drop x.cells.length = [] := List.drop_eq_nil_of_le (by omega)
    simp [splice, this]
  simp [storeH, storeB, hb, hf.1, hz, h3]
  simpa using hf.2
theorem storeBox {h : Heap} {sz : Nat} {z : List V} {x : V} (hz : z.length = sz) (hf : fit sz x.cells = true) : storeH (h ++ [[z]]) sz (.ptr h.length 1 0 0) x = some (h ++ [[x.cells]]) := by
  rw [storeBoxAt (at_app0 _ _) hz hf, set_app0]; rfl
end Go.Av
