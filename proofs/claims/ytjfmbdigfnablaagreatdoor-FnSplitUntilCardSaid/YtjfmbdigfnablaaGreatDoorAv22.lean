/- What a callee hands back as its own, whole: contracts that tell what it reads as. No condition. -/
import Derived.Test.YtjfmbdigfnablaaGreatDoorAv21
namespace Go.Av
open Go.RowKit
set_option linter.unusedVariables false
set_option linter.unusedSimpArgs false

mutual
/-- A value without what lies in memory of somebody else. -/
def V.wipe : V → V
  | .agg cs => .agg (V.wipeL cs)
  | .lst sz xs => if xs.isEmpty then .lst sz [] else .dead
  | .rptr _ => .dead
  | .fn g cs => .fn g (V.wipeL cs)
  | .tup vs => .tup (V.wipeL vs)
  | .own id sz off len tot => .own id sz off len tot
  | .ptr id tot i j => .ptr id tot i j
  | .int k n => .int k n
  | .bool b => .bool b
  | .str s => .str s
  | .nils => .nils
  | .nilp => .nilp
  | .nilf => .nilf
  | .hole sz => .hole sz
  | .dead => .dead
def V.wipeL : List V → List V
  | [] => []
  | x :: xs => V.wipe x :: V.wipeL xs
end
theorem V.wipeL_eq : ∀ l : List V, V.wipeL l = l.map V.wipe
  | [] => rfl
  | x :: xs => by simp only [V.wipeL, List.map_cons, V.wipeL_eq xs]
def wipeB (b : Blk) : Blk := b.map V.wipeL
mutual
theorem wipe_fresh : ∀ v : V, V.fresh (V.wipe v) = true
  | .agg cs => by simp only [V.wipe, V.fresh, wipeL_fresh cs]
  | .lst sz xs => by cases xs <;> rfl
  | .rptr _ => rfl
  | .fn g cs => by simp only [V.wipe, V.fresh, wipeL_fresh cs]
  | .tup cs => by simp only [V.wipe, V.fresh, wipeL_fresh cs]
  | .own _ _ _ _ _ => rfl
  | .ptr _ _ _ _ => rfl
  | .int _ _ => rfl
  | .bool _ => rfl
  | .str _ => rfl
  | .nils => rfl
  | .nilp => rfl
  | .nilf => rfl
  | .hole _ => rfl
  | .dead => rfl
theorem wipeL_fresh : ∀ l : List V, V.freshL (V.wipeL l) = true
  | [] => rfl
  | x :: xs => by simp only [V.wipeL, V.freshL, wipe_fresh x, wipeL_fresh xs, Bool.and_self]
end
theorem wipeB_fresh {b : Blk} : ∀ e ∈ wipeB b, V.freshL e = true := fun e he => by
  obtain ⟨x, _, rfl⟩ := List.mem_map.1 he
  exact wipeL_fresh x
theorem wipeL_len (l : List V) : (V.wipeL l).length = l.length := by rw [V.wipeL_eq]; simp
theorem wipeL_get (l : List V) (j : Nat) : (V.wipeL l)[j]? = (l[j]?).map V.wipe := by rw [V.wipeL_eq]; simp
theorem wipeB_get (b : Blk) (j : Nat) : (wipeB b)[j]? = (b[j]?).map V.wipeL := by simp [wipeB]

theorem Rep.wipe {S : Nat → Prop} {ρ : Rho} {w : World} {v : Value} {x : V} (h : Rep S ρ w v x) : Rep S ρ w v (V.wipe x) := by
  induction h with
  | int k n => exact .int k n
  | bool b => exact .bool b
  | str s => exact .str s
  | agg hl h ih =>
    refine .agg (by rw [wipeL_len]; exact hl) fun j c v hc hv => ?_
    rw [wipeL_get] at hv
    obtain ⟨u, hu, rfl⟩ := Option.map_eq_some_iff.1 hv
    exact ih j c u hc hu
  | @lst a n cap xs sz cf hn hc hb hs ha h1 h2 ih =>
    cases xs with
    | nil => exact .lst cf hn hc hb hs ha h1 h2
    | cons x xs => exact .dead _
  | nils => exact .nils
  | own l hl hs ht hle hc h1 h2 => exact .own l hl hs ht hle hc h1 h2
  | ownS l hl ht hc ha => exact .ownS l hl ht hc ha
  | ptr l g hl hb ht hi => exact .ptr l g hl hb ht hi
  | ptrS l hl ht => exact .ptrS l hl ht
  | rptr cf s h1 h2 ih => exact .dead _
  | nilp => exact .nilp
  | fn hl h ih =>
    refine .fn (by rw [wipeL_len]; exact hl) fun j c v hc hv => ?_
    rw [wipeL_get] at hv
    obtain ⟨u, hu, rfl⟩ := Option.map_eq_some_iff.1 hv
    exact ih j c u hc hu
  | nilf => exact .nilf
  | tup hl h ih =>
    refine .tup (by rw [wipeL_len]; exact hl) fun j c v hc hv => ?_
    rw [wipeL_get] at hv
    obtain ⟨u, hu, rfl⟩ := Option.map_eq_some_iff.1 hv
    exact ih j c u hc hu
  | hole v sz => exact .hole v sz
  | dead v => exact .dead v
theorem refsL_all {n : Nat} : ∀ {l : List V}, (∀ (j : Nat) (v : V), l[j]? = some v → V.refs n v = true) → V.refsL n l = true
  | [], _ => rfl
  | x :: xs, h => by
    simp only [V.refsL, h 0 x rfl, Bool.true_and]
    exact refsL_all fun j v e => h (j + 1) v (by simpa using e)
theorem refsLL_all {n : Nat} : ∀ {l : List (List V)}, (∀ e ∈ l, V.refsL n e = true) → V.refsLL n l = true
  | [], _ => rfl
  | x :: xs, h => by
    simp only [V.refsLL, h x (by simp), Bool.true_and]
    exact refsLL_all fun e he => h e (by simp [he])
theorem Rep.refs {S : Nat → Prop} {ρ : Rho} {w : World} {v : Value} {x : V} {h : Heap} (H : HInv S ρ h w) (r : Rep S ρ w v x) : V.refs h.length (V.wipe x) = true := by
  have key : ∀ {id : Nat} {l : Loc}, ρ id = some l → id < h.length := fun e => by
    obtain ⟨b, hb, _⟩ := H.some_ e
    exact (List.getElem?_eq_some_iff.1 hb).1
  induction r with
  | int k n => rfl
  | bool b => rfl
  | str s => rfl
  | @agg cs vs hl h ih =>
    simp only [V.wipe, V.refs]
    refine refsL_all fun j v e => ?_
    rw [wipeL_get] at e
    obtain ⟨u, hu, rfl⟩ := Option.map_eq_some_iff.1 e
    have hj : j < cs.size := by rw [hl]; exact (List.getElem?_eq_some_iff.1 hu).1
    exact ih j _ u (Array.getElem?_eq_getElem hj) hu
  | @lst a n cap xs sz cf hn hc hb hs ha h1 h2 ih => cases xs <;> rfl
  | nils => rfl
  | own l hl hs ht hle hc h1 h2 => simpa [V.wipe, V.refs] using key hl
  | ownS l hl ht hc ha => simpa [V.wipe, V.refs] using key hl
  | ptr l g hl hb ht hi => simpa [V.wipe, V.refs] using key hl
  | ptrS l hl ht => simpa [V.wipe, V.refs] using key hl
  | rptr cf s h1 h2 ih => rfl
  | nilp => rfl
  | @fn f cs vs hl h ih =>
    simp only [V.wipe, V.refs]
    refine refsL_all fun j v e => ?_
    rw [wipeL_get] at e
    obtain ⟨u, hu, rfl⟩ := Option.map_eq_some_iff.1 e
    have hj : j < cs.size := by rw [hl]; exact (List.getElem?_eq_some_iff.1 hu).1
    exact ih j _ u (Array.getElem?_eq_getElem hj) hu
  | nilf => rfl
  | @tup cs vs hl h ih =>
    simp only [V.wipe, V.refs]
    refine refsL_all fun j v e => ?_
    rw [wipeL_get] at e
    obtain ⟨u, hu, rfl⟩ := Option.map_eq_some_iff.1 e
    have hj : j < cs.size := by rw [hl]; exact (List.getElem?_eq_some_iff.1 hu).1
    exact ih j _ u (Array.getElem?_eq_getElem hj) hu
  | hole v sz => rfl
  | dead v => rfl
theorem HInv.wipe {S : Nat → Prop} {ρ : Rho} {w : World} {h : Heap} (H : HInv S ρ h w) : HInv S ρ (h.map wipeB) w := by
  refine ⟨fun id b hb => ?_, fun id hid => H.none_ id (by simpa using hid), H.inj, H.stab, H.tab⟩
  rw [List.getElem?_map] at hb
  obtain ⟨b0, hb0, rfl⟩ := Option.map_eq_some_iff.1 hb
  obtain ⟨l, hl, B⟩ := H.blk id b0 hb0
  refine ⟨l, hl, by simpa [wipeB] using B.tot, by simpa [wipeB] using B.cap, B.capm, fun e he => ?_, fun g hg => ?_, B.nomem, fun e => B.emp (by simpa [wipeB] using e)⟩
  · obtain ⟨x, hx, rfl⟩ := List.mem_map.1 he
    rw [wipeL_len]; exact B.sz x hx
  · obtain ⟨m1, cs, ty, m2, m3, m4⟩ := B.mem g hg
    refine ⟨m1, cs, ty, m2, m3, fun i e j v hi hj => ?_⟩
    rw [wipeB_get] at hi
    obtain ⟨x, hx, rfl⟩ := Option.map_eq_some_iff.1 hi
    rw [wipeL_get] at hj
    obtain ⟨u, hu, rfl⟩ := Option.map_eq_some_iff.1 hj
    obtain ⟨c, c1, c2, c3⟩ := m4 i x j u hx hu
    exact ⟨c, c1, c2, c3.wipe⟩
theorem HInv.refsB {S : Nat → Prop} {ρ : Rho} {w : World} {h : Heap} (H : HInv S ρ h w) {b : Blk} (hb : b ∈ h) : V.refsLL h.length (wipeB b) = true := by
  obtain ⟨id, hid⟩ := List.mem_iff_getElem?.1 hb
  obtain ⟨l, hl, B⟩ := H.blk id b hid
  refine refsLL_all fun e he => ?_
  obtain ⟨x, hx, rfl⟩ := List.mem_map.1 he
  obtain ⟨i, hi⟩ := List.mem_iff_getElem?.1 hx
  refine refsL_all fun j v e => ?_
  rw [wipeL_get] at e
  obtain ⟨u, hu, rfl⟩ := Option.map_eq_some_iff.1 e
  cases hlb : l.blk with
  | none =>
    have := B.nomem hlb
    have := B.cap
    have := (List.getElem?_eq_some_iff.1 hi).1
    omega
  | some g =>
    obtain ⟨m1, cs, ty, m2, m3, m4⟩ := B.mem g hlb
    obtain ⟨c, c1, c2, c3⟩ := m4 i x j u hi hu
    exact c3.refs H
/-- How a callee's heap lies behind the caller's. -/
def landV (n : Nat) (v : V) : V := (V.wipe v).mapId (· + n)
def landB (n : Nat) (b : Blk) : Blk := V.mapLL (· + n) (wipeB b)
/-- A contract over values, used where the caller owns what it hands in. -/
theorem C.snap {P : Program} {f : FuncId} {args args' : List V} {h : Heap} {Q : V → Heap → Prop} (hC : C P f args' [] Q) (hs : Snaps h args args') : C P f args h (fun r h' => ∃ r0 h0, Q r0 h0 ∧ r = landV h.length r0 ∧ h' = h ++ h0.map (landB h.length)) := by
  refine ⟨hC.1, fun w S ρ cargs H hl ha => ?_⟩
  obtain ⟨sl, sn⟩ := hs
  have H0 : ∀ S1 : Nat → Prop, (∀ b, S1 b → b < w.heap.size) → TabOk S1 w → HInv S1 noRho [] w := fun S1 hs ht => ⟨fun id b hb => by simp at hb, fun _ _ => rfl, fun id id' l l' g hl => by (cases hl), hs, ht⟩
  refine (hC.2 w (withOwn S ρ) noRho cargs (H0 _ (fun b hb => ?_) ⟨.inl H.tab.1, H.tab.2⟩) (by omega) fun j c v hc hv => ?_).mono fun e w' ⟨v, r', h', S', ρ', he, hQ, hH', hRv, hF⟩ => ?_
  · rcases hb with hb | ⟨id, l, h1, h2⟩
    · exact H.stab b hb
    · exact H.lt h1 h2
  · have hj : j < args.length := by rw [sl]; exact (List.getElem?_eq_some_iff.1 hv).1
    exact snap_rep H (sn j _ v (List.getElem?_eq_getElem hj) hv) (ha j c _ hc (List.getElem?_eq_getElem hj))
  · have hlen : (h'.map wipeB).length = h'.length := by simp
    have L : Land (V.wipe r') (h'.map wipeB) (V.wipe r') (h'.map wipeB) := by
      refine ⟨by rw [hlen]; exact hRv.refs hH', fun b hb => ?_, fun i => i, fun i j _ _ e => e, (V.mapId_id _).symm, fun k b hb => by rw [V.mapLL_id]; exact hb⟩
      rw [hlen]
      obtain ⟨b0, hb0, rfl⟩ := List.mem_map.1 hb
      exact hH'.refsB hb0
    obtain ⟨S2, ρ2, g1, g2, g3⟩ := land H hF hH'.wipe hRv.wipe L (fun _ h => .inl h) (.inr ⟨wipe_fresh _, fun b hb => by
      obtain ⟨b0, _, rfl⟩ := List.mem_map.1 hb
      exact wipeB_fresh⟩)
    refine ⟨v, _, _, S2, ρ2, he, ⟨r', h', hQ, rfl, rfl⟩, ?_, g2, g3⟩
    rw [List.map_map] at g1
    exact g1

mutual
/-- A value that owns all that it tells: it reads as the first one, and the blocks' numbers are those told. -/
def Owns (h : Heap) : V → V → List Nat → Prop
  | .agg ds, v, ids => ∃ cs, v = .agg cs ∧ OwnsL h ds cs ids
  | .lst sz ys, v, ids => (v = .nils ∧ ys = [] ∧ ids = []) ∨ ∃ id b js, v = .own id sz 0 ys.length ys.length ∧ h[id]? = some b ∧ ids = id :: js ∧ OwnsLL h ys b js
  | .int k n, v, ids => v = .int k n ∧ ids = []
  | .bool b, v, ids => v = .bool b ∧ ids = []
  | .str s, v, ids => v = .str s ∧ ids = []
  | _, _, _ => False
def OwnsL (h : Heap) : List V → List V → List Nat → Prop
  | [], cs, ids => cs = [] ∧ ids = []
  | d :: ds, cs, ids => ∃ c cs' i j, cs = c :: cs' ∧ ids = i ++ j ∧ Owns h d c i ∧ OwnsL h ds cs' j
def OwnsLL (h : Heap) : List (List V) → List (List V) → List Nat → Prop
  | [], b, ids => b = [] ∧ ids = []
  | y :: ys, b, ids => ∃ r b' i j, b = r :: b' ∧ ids = i ++ j ∧ OwnsL h y r i ∧ OwnsLL h ys b' j
end
theorem Owns.int_ {h : Heap} {k : IntKind} {n : Int} {v : V} {ids : List Nat} : Owns h (.int k n) v ids ↔ v = .int k n ∧ ids = [] := by simp only [Owns]
theorem Owns.bool_ {h : Heap} {b : Bool} {v : V} {ids : List Nat} : Owns h (.bool b) v ids ↔ v = .bool b ∧ ids = [] := by simp only [Owns]
theorem Owns.str_ {h : Heap} {b : ByteArray} {v : V} {ids : List Nat} : Owns h (.str b) v ids ↔ v = .str b ∧ ids = [] := by simp only [Owns]
theorem Owns.agg_ {h : Heap} {ds : List V} {v : V} {ids : List Nat} : Owns h (.agg ds) v ids ↔ ∃ cs, v = .agg cs ∧ OwnsL h ds cs ids := by simp only [Owns]
theorem Owns.lst_ {h : Heap} {sz : Nat} {ys : List (List V)} {v : V} {ids : List Nat} : Owns h (.lst sz ys) v ids ↔ (v = .nils ∧ ys = [] ∧ ids = []) ∨ ∃ id b js, v = .own id sz 0 ys.length ys.length ∧ h[id]? = some b ∧ ids = id :: js ∧ OwnsLL h ys b js := by simp only [Owns]
theorem OwnsL.nil_ {h : Heap} {cs : List V} {ids : List Nat} : OwnsL h [] cs ids ↔ cs = [] ∧ ids = [] := by simp only [OwnsL]
theorem OwnsL.cons_ {h : Heap} {d : V} {ds cs : List V} {ids : List Nat} : OwnsL h (d :: ds) cs ids ↔ ∃ c cs' i j, cs = c :: cs' ∧ ids = i ++ j ∧ Owns h d c i ∧ OwnsL h ds cs' j := by simp only [OwnsL]
theorem OwnsLL.nil_ {h : Heap} {b : Blk} {ids : List Nat} : OwnsLL h [] b ids ↔ b = [] ∧ ids = [] := by simp only [OwnsLL]
theorem OwnsLL.cons_ {h : Heap} {y : List V} {ys b : Blk} {ids : List Nat} : OwnsLL h (y :: ys) b ids ↔ ∃ r b' i j, b = r :: b' ∧ ids = i ++ j ∧ OwnsL h y r i ∧ OwnsLL h ys b' j := by simp only [OwnsLL]
mutual
theorem Owns.keep {h h' : Heap} : ∀ {y v : V} {ids : List Nat}, (∀ i ∈ ids, h'[i]? = h[i]?) → Owns h y v ids → Owns h' y v ids
  | .agg ds, v, ids, k, o => by
    obtain ⟨cs, e, o⟩ := Owns.agg_.1 o
    exact Owns.agg_.2 ⟨cs, e, OwnsL.keep k o⟩
  | .tup ds, v, ids, k, o => by simp only [Owns] at o
  | .lst sz ys, v, ids, k, o => by
    rcases Owns.lst_.1 o with o1 | ⟨id, b, js, e1, e2, e3, o1⟩
    · exact Owns.lst_.2 (.inl o1)
    · subst e3
      exact Owns.lst_.2 (.inr ⟨id, b, js, e1, by rw [k id (by simp)]; exact e2, rfl, OwnsLL.keep (fun i hi => k i (by simp [hi])) o1⟩)
  | .int k' n, v, ids, k, o => Owns.int_.2 (Owns.int_.1 o)
  | .bool b, v, ids, k, o => Owns.bool_.2 (Owns.bool_.1 o)
  | .str s, v, ids, k, o => Owns.str_.2 (Owns.str_.1 o)
  | .nils, v, ids, k, o => by simp only [Owns] at o
  | .own .., v, ids, k, o => by simp only [Owns] at o
  | .ptr .., v, ids, k, o => by simp only [Owns] at o
  | .rptr .., v, ids, k, o => by simp only [Owns] at o
  | .nilp, v, ids, k, o => by simp only [Owns] at o
  | .fn .., v, ids, k, o => by simp only [Owns] at o
  | .nilf, v, ids, k, o => by simp only [Owns] at o
  | .hole .., v, ids, k, o => by simp only [Owns] at o
  | .dead, v, ids, k, o => by simp only [Owns] at o
theorem OwnsL.keep {h h' : Heap} : ∀ {ds cs : List V} {ids : List Nat}, (∀ i ∈ ids, h'[i]? = h[i]?) → OwnsL h ds cs ids → OwnsL h' ds cs ids
  | [], cs, ids, k, o => OwnsL.nil_.2 (OwnsL.nil_.1 o)
  | d :: ds, cs, ids, k, o => by
    obtain ⟨c, cs', i, j, e1, e2, o1, o2⟩ := OwnsL.cons_.1 o
    subst e2
    exact OwnsL.cons_.2 ⟨c, cs', i, j, e1, rfl, Owns.keep (fun x hx => k x (by simp [hx])) o1, OwnsL.keep (fun x hx => k x (by simp [hx])) o2⟩
theorem OwnsLL.keep {h h' : Heap} : ∀ {ys b : List (List V)} {ids : List Nat}, (∀ i ∈ ids, h'[i]? = h[i]?) → OwnsLL h ys b ids → OwnsLL h' ys b ids
  | [], b, ids, k, o => OwnsLL.nil_.2 (OwnsLL.nil_.1 o)
  | y :: ys, b, ids, k, o => by
    obtain ⟨r, b', i, j, e1, e2, o1, o2⟩ := OwnsLL.cons_.1 o
    subst e2
    exact OwnsLL.cons_.2 ⟨r, b', i, j, e1, rfl, OwnsL.keep (fun x hx => k x (by simp [hx])) o1, OwnsLL.keep (fun x hx => k x (by simp [hx])) o2⟩
end
mutual
theorem Owns.lt {h : Heap} : ∀ {y v : V} {ids : List Nat}, Owns h y v ids → ∀ i ∈ ids, i < h.length
  | .agg ds, v, ids, o => by
    obtain ⟨cs, e, o⟩ := Owns.agg_.1 o
    exact OwnsL.lt o
  | .tup ds, v, ids, o => by simp only [Owns] at o
  | .lst sz ys, v, ids, o => by
    rcases Owns.lst_.1 o with ⟨_, _, rfl⟩ | ⟨id, b, js, e1, e2, rfl, o1⟩
    · simp
    · intro i hi
      rcases List.mem_cons.1 hi with rfl | hi
      · exact (List.getElem?_eq_some_iff.1 e2).1
      · exact OwnsLL.lt o1 i hi
  | .int k' n, v, ids, o => by rw [(Owns.int_.1 o).2]; simp
  | .bool b, v, ids, o => by rw [(Owns.bool_.1 o).2]; simp
  | .str s, v, ids, o => by rw [(Owns.str_.1 o).2]; simp
  | .nils, v, ids, o => by simp only [Owns] at o
  | .own .., v, ids, o => by simp only [Owns] at o
  | .ptr .., v, ids, o => by simp only [Owns] at o
  | .rptr .., v, ids, o => by simp only [Owns] at o
  | .nilp, v, ids, o => by simp only [Owns] at o
  | .fn .., v, ids, o => by simp only [Owns] at o
  | .nilf, v, ids, o => by simp only [Owns] at o
  | .hole .., v, ids, o => by simp only [Owns] at o
  | .dead, v, ids, o => by simp only [Owns] at o
theorem OwnsL.lt {h : Heap} : ∀ {ds cs : List V} {ids : List Nat}, OwnsL h ds cs ids → ∀ i ∈ ids, i < h.length
  | [], cs, ids, o => by rw [(OwnsL.nil_.1 o).2]; simp
  | d :: ds, cs, ids, o => by
    obtain ⟨c, cs', i, j, e1, rfl, o1, o2⟩ := OwnsL.cons_.1 o
    intro x hx
    rcases List.mem_append.1 hx with hx | hx
    · exact Owns.lt o1 x hx
    · exact OwnsL.lt o2 x hx
theorem OwnsLL.lt {h : Heap} : ∀ {ys b : List (List V)} {ids : List Nat}, OwnsLL h ys b ids → ∀ i ∈ ids, i < h.length
  | [], b, ids, o => by rw [(OwnsLL.nil_.1 o).2]; simp
  | y :: ys, b, ids, o => by
    obtain ⟨r, b', i, j, e1, rfl, o1, o2⟩ := OwnsLL.cons_.1 o
    intro x hx
    rcases List.mem_append.1 hx with hx | hx
    · exact OwnsL.lt o1 x hx
    · exact OwnsLL.lt o2 x hx
end
mutual
theorem Owns.landed {h0 : Heap} (h : Heap) : ∀ {y v : V} {ids : List Nat}, Owns h0 y v ids → Owns (h ++ h0.map (landB h.length)) y (landV h.length v) (ids.map (· + h.length))
  | .agg ds, v, ids, o => by
    obtain ⟨cs, rfl, o1⟩ := Owns.agg_.1 o
    exact Owns.agg_.2 ⟨_, rfl, OwnsL.landed h o1⟩
  | .tup ds, v, ids, o => by simp only [Owns] at o
  | .lst sz ys, v, ids, o => by
    rcases Owns.lst_.1 o with ⟨rfl, rfl, rfl⟩ | ⟨id, b, js, rfl, e2, rfl, o1⟩
    · exact Owns.lst_.2 (.inl ⟨rfl, rfl, rfl⟩)
    · refine Owns.lst_.2 (.inr ⟨id + h.length, landB h.length b, js.map (· + h.length), rfl, ?_, rfl, OwnsLL.landed h o1⟩)
      rw [List.getElem?_append_right (by omega), List.getElem?_map, Nat.add_sub_cancel, e2]; rfl
  | .int k' n, v, ids, o => by
    obtain ⟨rfl, rfl⟩ := Owns.int_.1 o
    exact Owns.int_.2 ⟨rfl, rfl⟩
  | .bool b, v, ids, o => by
    obtain ⟨rfl, rfl⟩ := Owns.bool_.1 o
    exact Owns.bool_.2 ⟨rfl, rfl⟩
  | .str s, v, ids, o => by
    obtain ⟨rfl, rfl⟩ := Owns.str_.1 o
    exact Owns.str_.2 ⟨rfl, rfl⟩
  | .nils, v, ids, o => by simp only [Owns] at o
  | .own .., v, ids, o => by simp only [Owns] at o
  | .ptr .., v, ids, o => by simp only [Owns] at o
  | .rptr .., v, ids, o => by simp only [Owns] at o
  | .nilp, v, ids, o => by simp only [Owns] at o
  | .fn .., v, ids, o => by simp only [Owns] at o
  | .nilf, v, ids, o => by simp only [Owns] at o
  | .hole .., v, ids, o => by simp only [Owns] at o
  | .dead, v, ids, o => by simp only [Owns] at o
theorem OwnsL.landed {h0 : Heap} (h : Heap) : ∀ {ds cs : List V} {ids : List Nat}, OwnsL h0 ds cs ids → OwnsL (h ++ h0.map (landB h.length)) ds (V.mapL (· + h.length) (V.wipeL cs)) (ids.map (· + h.length))
  | [], cs, ids, o => by
    obtain ⟨rfl, rfl⟩ := OwnsL.nil_.1 o
    exact OwnsL.nil_.2 ⟨rfl, rfl⟩
  | d :: ds, cs, ids, o => by
    obtain ⟨c, cs', i, j, rfl, rfl, o1, o2⟩ := OwnsL.cons_.1 o
    exact OwnsL.cons_.2 ⟨_, _, _, _, rfl, List.map_append, Owns.landed h o1, OwnsL.landed h o2⟩
theorem OwnsLL.landed {h0 : Heap} (h : Heap) : ∀ {ys b : List (List V)} {ids : List Nat}, OwnsLL h0 ys b ids → OwnsLL (h ++ h0.map (landB h.length)) ys (landB h.length b) (ids.map (· + h.length))
  | [], b, ids, o => by
    obtain ⟨rfl, rfl⟩ := OwnsLL.nil_.1 o
    exact OwnsLL.nil_.2 ⟨rfl, rfl⟩
  | y :: ys, b, ids, o => by
    obtain ⟨r, b', i, j, rfl, rfl, o1, o2⟩ := OwnsLL.cons_.1 o
    exact OwnsLL.cons_.2 ⟨_, _, _, _, rfl, List.map_append, OwnsL.landed h o1, OwnsLL.landed h o2⟩
end
theorem OwnsL.len {h : Heap} : ∀ {ds cs : List V} {ids : List Nat}, OwnsL h ds cs ids → cs.length = ds.length
  | [], cs, ids, o => by rw [(OwnsL.nil_.1 o).1]
  | d :: ds, cs, ids, o => by
    obtain ⟨c, cs', i, j, rfl, rfl, o1, o2⟩ := OwnsL.cons_.1 o
    simp [OwnsL.len o2]
theorem OwnsLL.len {h : Heap} : ∀ {ds cs : List (List V)} {ids : List Nat}, OwnsLL h ds cs ids → cs.length = ds.length
  | [], cs, ids, o => by rw [(OwnsLL.nil_.1 o).1]
  | d :: ds, cs, ids, o => by
    obtain ⟨c, cs', i, j, rfl, rfl, o1, o2⟩ := OwnsLL.cons_.1 o
    simp [OwnsLL.len o2]
theorem OwnsL.at {h : Heap} : ∀ {ds cs : List V} {ids : List Nat} {k : Nat} {c d : V}, OwnsL h ds cs ids → cs[k]? = some c → ds[k]? = some d → ∃ i, Owns h d c i
  | [], cs, ids, k, c, d, o, _, e => by simp at e
  | d0 :: ds, cs, ids, k, c, d, o, e1, e2 => by
    obtain ⟨c0, cs', i, j, rfl, rfl, o1, o2⟩ := OwnsL.cons_.1 o
    cases k with
    | zero => simp at e1 e2; subst e1 e2; exact ⟨i, o1⟩
    | succ k => exact OwnsL.at o2 (by simpa using e1) (by simpa using e2)
theorem OwnsLL.at {h : Heap} : ∀ {ds cs : List (List V)} {ids : List Nat} {k : Nat} {c d : List V}, OwnsLL h ds cs ids → cs[k]? = some c → ds[k]? = some d → ∃ i, OwnsL h d c i
  | [], cs, ids, k, c, d, o, _, e => by simp at e
  | d0 :: ds, cs, ids, k, c, d, o, e1, e2 => by
    obtain ⟨c0, cs', i, j, rfl, rfl, o1, o2⟩ := OwnsLL.cons_.1 o
    cases k with
    | zero => simp at e1 e2; subst e1 e2; exact ⟨i, o1⟩
    | succ k => exact OwnsLL.at o2 (by simpa using e1) (by simpa using e2)
mutual
theorem Owns.snap {h : Heap} : ∀ {y v : V} {ids : List Nat}, Owns h y v ids → Snap h v y
  | .agg ds, v, ids, o => by
    obtain ⟨cs, rfl, o1⟩ := Owns.agg_.1 o
    exact .ofSnaps (OwnsL.snap o1)
  | .tup ds, v, ids, o => by simp only [Owns] at o
  | .lst sz ys, v, ids, o => by
    rcases Owns.lst_.1 o with ⟨rfl, rfl, rfl⟩ | ⟨id, b, js, rfl, e2, rfl, o1⟩
    · exact .nils sz
    · exact Snap.rows e2 (OwnsLL.len o1) rfl (OwnsLL.snap o1)
  | .int k' n, v, ids, o => by
    obtain ⟨rfl, rfl⟩ := Owns.int_.1 o
    exact .int _ _
  | .bool b, v, ids, o => by
    obtain ⟨rfl, rfl⟩ := Owns.bool_.1 o
    exact .bool _
  | .str s, v, ids, o => by
    obtain ⟨rfl, rfl⟩ := Owns.str_.1 o
    exact .str _
  | .nils, v, ids, o => by simp only [Owns] at o
  | .own .., v, ids, o => by simp only [Owns] at o
  | .ptr .., v, ids, o => by simp only [Owns] at o
  | .rptr .., v, ids, o => by simp only [Owns] at o
  | .nilp, v, ids, o => by simp only [Owns] at o
  | .fn .., v, ids, o => by simp only [Owns] at o
  | .nilf, v, ids, o => by simp only [Owns] at o
  | .hole .., v, ids, o => by simp only [Owns] at o
  | .dead, v, ids, o => by simp only [Owns] at o
theorem OwnsL.snap {h : Heap} : ∀ {ds cs : List V} {ids : List Nat}, OwnsL h ds cs ids → Snaps h cs ds
  | [], cs, ids, o => by
    obtain ⟨rfl, rfl⟩ := OwnsL.nil_.1 o
    exact .nil h
  | d :: ds, cs, ids, o => by
    obtain ⟨c, cs', i, j, rfl, rfl, o1, o2⟩ := OwnsL.cons_.1 o
    exact .cons (Owns.snap o1) (OwnsL.snap o2)
theorem OwnsLL.snap {h : Heap} : ∀ {ys b : List (List V)} {ids : List Nat}, OwnsLL h ys b ids → ∀ (i : Nat) (e d : List V), b[i]? = some e → ys[i]? = some d → Snaps h e d
  | [], b, ids, o, i, e, d, h1, h2 => by simp at h2
  | y :: ys, b, ids, o, i, e, d, h1, h2 => by
    obtain ⟨r, b', i', j, rfl, rfl, o1, o2⟩ := OwnsLL.cons_.1 o
    cases i with
    | zero => simp at h1 h2; subst h1 h2; exact OwnsL.snap o1
    | succ i => exact OwnsLL.snap o2 i e d (by simpa using h1) (by simpa using h2)
end
/-- What a function hands back: one value, or several. -/
def OwnsR (h : Heap) (y v : V) (ids : List Nat) : Prop := match y with
  | .tup ds => ∃ cs, v = .tup cs ∧ OwnsL h ds cs ids
  | y => Owns h y v ids
theorem OwnsR.landed {h0 : Heap} (h : Heap) {y v : V} {ids : List Nat} (o : OwnsR h0 y v ids) : OwnsR (h ++ h0.map (landB h.length)) y (landV h.length v) (ids.map (· + h.length)) := by
  unfold OwnsR at *
  split at o
  · obtain ⟨cs, rfl, o⟩ := o
    exact ⟨_, rfl, OwnsL.landed h o⟩
  · exact Owns.landed h o
theorem OwnsR.lt {h : Heap} {y v : V} {ids : List Nat} (o : OwnsR h y v ids) : ∀ i ∈ ids, i < h.length := by
  unfold OwnsR at *
  split at o
  · obtain ⟨cs, rfl, o⟩ := o
    exact OwnsL.lt o
  · exact Owns.lt o
/-- What lay, lies. -/
def Ext (h h' : Heap) : Prop := ∀ i, i < h.length → h'[i]? = h[i]?
theorem Ext.refl (h : Heap) : Ext h h := fun _ _ => rfl
theorem Ext.len {h h' : Heap} (e : Ext h h') : h.length ≤ h'.length := by
  rcases Nat.lt_or_ge h'.length h.length with hl | hl
  · have := e h'.length hl
    rw [List.getElem?_eq_none (Nat.le_refl _), List.getElem?_eq_getElem hl] at this
    cases this
  · exact hl
theorem Ext.trans {a b c : Heap} (e : Ext a b) (e' : Ext b c) : Ext a c := fun i hi => by rw [e' i (Nat.lt_of_lt_of_le hi e.len), e i hi]
theorem Ext.app (h t : Heap) : Ext h (h ++ t) := fun i hi => List.getElem?_append_left hi
theorem Ext.get {h h' : Heap} (e : Ext h h') {i : Nat} {b : Blk} (hb : h[i]? = some b) : h'[i]? = some b := by rw [e i (heap_lt hb)]; exact hb
theorem Owns.up {h h' : Heap} {y v : V} {ids : List Nat} (o : Owns h y v ids) (e : Ext h h') : Owns h' y v ids := o.keep fun i hi => e i (o.lt i hi)
theorem OwnsL.up {h h' : Heap} {ds cs : List V} {ids : List Nat} (o : OwnsL h ds cs ids) (e : Ext h h') : OwnsL h' ds cs ids := o.keep fun i hi => e i (o.lt i hi)
theorem OwnsLL.up {h h' : Heap} {ds cs : Blk} {ids : List Nat} (o : OwnsLL h ds cs ids) (e : Ext h h') : OwnsLL h' ds cs ids := o.keep fun i hi => e i (o.lt i hi)
theorem Snap.up {h h' : Heap} (e : Ext h h') {v x : V} (H : Snap h v x) : Snap h' v x := by
  induction H with
  | int k n => exact .int k n
  | bool b => exact .bool b
  | str s => exact .str s
  | agg hl hc ih => exact .agg hl ih
  | lst sz xs hr => exact .lst sz xs hr
  | nils sz => exact .nils sz
  | same v hr => exact .same v hr
  | own hb ht hl hy he hc ih => exact .own (e.get hb) ht hl hy he ih
theorem Snaps.up {h h' : Heap} (e : Ext h h') {vs xs : List V} (H : Snaps h vs xs) : Snaps h' vs xs := ⟨H.1, fun j c d hc hd => (H.2 j c d hc hd).up e⟩
theorem Snap.int_ {h : Heap} (k : IntKind) (n : Int) : Snap h (.int k n) (.int k n) := .int k n
theorem Snaps.same {h : Heap} {vs : List V} (hr : V.refsL 0 vs = true) : Snaps h vs vs := ⟨rfl, fun j c d hc hd => by
  rw [hc] at hd; cases hd
  exact .same c (V.refsL_get hr hc)⟩
/-- The contract of a function of values whose result is the caller's own, whole. -/
def F (P : Program) (f : FuncId) (args : List V) (y : V) : Prop := C P f args [] (fun r h' => ∃ ids, ids.Nodup ∧ OwnsR h' y r ids)
theorem nodup_add (n : Nat) : ∀ {l : List Nat}, l.Nodup → (l.map (· + n)).Nodup
  | [], _ => .nil
  | x :: xs, h => by
    rw [List.nodup_cons] at h
    rw [List.map_cons, List.nodup_cons]
    refine ⟨fun hm => ?_, nodup_add n h.2⟩
    obtain ⟨y, hy, e⟩ := List.mem_map.1 hm
    have : y = x := by simpa using e
    exact h.1 (this ▸ hy)
theorem F.c {P : Program} {f : FuncId} {args args' : List V} {y : V} {h : Heap} (hf : F P f args' y) (hs : Snaps h args args') : C P f args h (fun r h' => ∃ ids, Ext h h' ∧ ids.Nodup ∧ (∀ i ∈ ids, h.length ≤ i) ∧ OwnsR h' y r ids) :=
  (C.snap hf hs).mono fun r h' ⟨r0, h0, ⟨ids, hn, ho⟩, e1, e2⟩ => by
    subst e1 e2
    refine ⟨ids.map (· + h.length), Ext.app _ _, ?_, fun i hi => ?_, ho.landed h⟩
    · exact nodup_add _ hn
    · obtain ⟨j, _, rfl⟩ := List.mem_map.1 hi; omega
theorem F.go {P : Program} {f : FuncId} {args args' : List V} {y : V} {h : Heap} {K : V → Heap → Prop} (hf : F P f args' y) (hs : Snaps h args args') (hk : ∀ r h' ids, Ext h h' → ids.Nodup → (∀ i ∈ ids, h.length ≤ i) → OwnsR h' y r ids → K r h') : @callP P f args h ⟨K⟩ :=
  C.go (hf.c hs) fun r h' ⟨ids, a, b, c, d⟩ => hk r h' ids a b c d
/-- A slice of scalars. -/
theorem OwnsL.scalars {h : Heap} : ∀ {ds cs : List V} {ids : List Nat}, ds.all V.scalar = true → (OwnsL h ds cs ids ↔ cs = ds ∧ ids = [])
  | [], cs, ids, _ => OwnsL.nil_
  | d :: ds, cs, ids, hd => by
    simp only [List.all_cons, Bool.and_eq_true] at hd
    rw [OwnsL.cons_]
    constructor
    · rintro ⟨c, cs', i, j, rfl, rfl, o1, o2⟩
      obtain ⟨rfl, rfl⟩ := (OwnsL.scalars hd.2).1 o2
      have : c = d ∧ i = [] := by
        cases d <;> simp only [V.scalar, Bool.false_eq_true, false_and] at hd
        · exact Owns.int_.1 o1
        · exact Owns.bool_.1 o1
        · exact Owns.str_.1 o1
      rw [this.1, this.2]; exact ⟨rfl, rfl⟩
    · rintro ⟨rfl, rfl⟩
      refine ⟨d, ds, [], [], rfl, rfl, ?_, (OwnsL.scalars hd.2).2 ⟨rfl, rfl⟩⟩
      cases d <;> simp only [V.scalar, Bool.false_eq_true, false_and] at hd
      · exact Owns.int_.2 ⟨rfl, rfl⟩
      · exact Owns.bool_.2 ⟨rfl, rfl⟩
      · exact Owns.str_.2 ⟨rfl, rfl⟩
theorem OwnsLL.flat {h : Heap} : ∀ {ys b : Blk} {ids : List Nat}, flat ys = true → (OwnsLL h ys b ids ↔ b = ys ∧ ids = [])
  | [], b, ids, _ => OwnsLL.nil_
  | y :: ys, b, ids, hd => by
    have hd' : y.all V.scalar = true ∧ Av.flat ys = true := by simpa [Av.flat] using hd
    rw [OwnsLL.cons_]
    constructor
    · rintro ⟨c, cs', i, j, rfl, rfl, o1, o2⟩
      obtain ⟨rfl, rfl⟩ := (OwnsLL.flat hd'.2).1 o2
      obtain ⟨rfl, rfl⟩ := (OwnsL.scalars hd'.1).1 o1
      exact ⟨rfl, rfl⟩
    · rintro ⟨rfl, rfl⟩
      exact ⟨y, ys, [], [], rfl, rfl, (OwnsL.scalars hd'.1).2 ⟨rfl, rfl⟩, (OwnsLL.flat hd'.2).2 ⟨rfl, rfl⟩⟩
/-- An own slice of scalars: nil, or one block. -/
theorem Owns.flat_ {h : Heap} {sz : Nat} {ys : Blk} {v : V} {ids : List Nat} (hf : flat ys = true) : Owns h (.lst sz ys) v ids ↔ (v = .nils ∧ ys = [] ∧ ids = []) ∨ ∃ id, v = .own id sz 0 ys.length ys.length ∧ h[id]? = some ys ∧ ids = [id] := by
  rw [Owns.lst_]
  refine or_congr Iff.rfl ⟨?_, ?_⟩
  · rintro ⟨id, b, js, rfl, hb, rfl, o⟩
    obtain ⟨rfl, rfl⟩ := (OwnsLL.flat hf).1 o
    exact ⟨id, rfl, hb, rfl⟩
  · rintro ⟨id, rfl, hb, rfl⟩
    exact ⟨id, ys, [], rfl, hb, rfl, (OwnsLL.flat hf).2 ⟨rfl, rfl⟩⟩
theorem Owns.own_flat {h : Heap} {sz id n : Nat} {ys : Blk} (hb : h[id]? = some ys) (hn : ys.length = n) (hf : flat ys = true) : Owns h (.lst sz ys) (.own id sz 0 n n) [id] := by
  subst hn; exact (Owns.flat_ hf).2 (.inr ⟨id, rfl, hb, rfl⟩)
theorem Owns.nils_ {h : Heap} {sz : Nat} : Owns h (.lst sz []) .nils [] := Owns.lst_.2 (.inl ⟨rfl, rfl, rfl⟩)
theorem Owns.len_ {h : Heap} {sz : Nat} {ys : Blk} {v : V} {ids : List Nat} (o : Owns h (.lst sz ys) v ids) (G : Int → Prop) : @onLen v ⟨G⟩ = G ys.length := by
  rcases Owns.lst_.1 o with ⟨rfl, rfl, rfl⟩ | ⟨id, b, js, rfl, e2, rfl, o1⟩ <;> rfl
end Go.Av
