/- What the machine does at append, literals, make and clear, as the abstract values have it. No condition. -/
import Derived.Test.YtjfmbdigfnablaaGreatDoorAv5
namespace Go.Av
open Go.RowKit
set_option linter.unusedVariables false
set_option linter.unusedSimpArgs false

section
variable {S : Nat → Prop} {ρ : Rho} {h : Heap} {w : World} {P : Program}

theorem drew_inv (H : HInv S ρ h w) : HInv S ρ h w.drew :=
  ⟨fun id b hb => by
    obtain ⟨l, e, hB⟩ := H.blk id b hb
    exact ⟨l, e, hB.tot, hB.cap, hB.capm, hB.sz, fun g eg => by
      obtain ⟨n, cs, ty, a, b', c⟩ := hB.mem g eg
      exact ⟨n, cs, ty, a, b', fun i e j v hi hj => by
        obtain ⟨cc, x, y, z⟩ := c i e j v hi hj
        exact ⟨cc, x, y, z.mono (fun _ _ => rfl) (fun _ h => h) (Le.refl ρ)⟩⟩, hB.nomem, hB.emp⟩, H.none_, H.inj, H.stab, H.tab⟩
theorem drew_fr (w : World) (S : Nat → Prop) (ρ : Rho) : Fr w S ρ S ρ w.drew :=
  ⟨rfl, rfl, rfl, Nat.le_refl _, fun _ _ _ => rfl, fun id l g h hb => .inr ⟨id, l, h, hb⟩, fun _ h => .inl h, fun _ h => h, Le.refl ρ⟩
theorem drewN_fr (w : World) (S : Nat → Prop) (ρ : Rho) (n : Nat) : Fr w S ρ S ρ { w with drawn := n } :=
  ⟨rfl, rfl, rfl, Nat.le_refl _, fun _ _ _ => rfl, fun id l g h hb => .inr ⟨id, l, h, hb⟩, fun _ h => .inl h, fun _ h => h, Le.refl ρ⟩
theorem Rep.drew_ {c : Value} {v : V} (r : Rep S ρ w c v) : Rep S ρ w.drew c v := r.mono (fun _ _ => rfl) (fun _ h => h) (Le.refl ρ)

/-- A block that replaces another one (or is the first one under its number), in a place of its own. -/
theorem moved_block (H : HInv S ρ h w) (id : Nat) (n sz : Nat) (b : Blk) (h' : Heap) (cs : Array Value) (ty : TypeId) (hle : Le ρ (upd ρ id ⟨some w.heap.size, sz, b.length, n⟩)) (hn : b.length ≤ n) (hne : b ≠ []) (hm : n ≤ maxLen) (hcs : cs.size = n * sz) (hsz : ∀ e ∈ b, e.length = sz)
    (hc : ∀ (i : Nat) (e : List V) (j : Nat) (v : V), b[i]? = some e → e[j]? = some v → ∃ c, cs[i * sz + j]? = some c ∧ c.oneCell' = true ∧ Rep S ρ w c v)
    (h1 : ∀ i, i ≠ id → h'[i]? = h[i]?) (h2 : h'[id]? = some b) :
    HInv S (upd ρ id ⟨some w.heap.size, sz, b.length, n⟩) h' (w.alloc (.cells cs ty)) ∧ Fr w S ρ S (upd ρ id ⟨some w.heap.size, sz, b.length, n⟩) (w.alloc (.cells cs ty)) := by
  have hw : ∀ k, k < w.heap.size → (∀ l0, ρ id = some l0 → l0.blk ≠ some k) → (w.alloc (.cells cs ty)).heap[k]? = w.heap[k]? := fun k hk _ => Below.heap_alloc w _ k hk
  have hg : ∀ g, (⟨some w.heap.size, sz, b.length, n⟩ : Loc).blk = some g → w.heap.size ≤ g ∨ ∃ l0, ρ id = some l0 ∧ l0.blk = some g := fun g e => by cases e; exact .inl (Nat.le_refl _)
  refine ⟨H.put (w' := w.alloc (.cells cs ty)) id ⟨some w.heap.size, sz, b.length, n⟩ b h' (by simp) hle hw ⟨rfl, hn, hm, hsz, fun g e => ?_, (fun e => by cases e), (fun e => absurd e hne)⟩ hg h1 h2, (Fr.refl w S ρ).put H _ _ (by simp) rfl rfl rfl hle hw hg⟩
  cases e
  refine ⟨fun hS => by have := H.stab _ hS; omega, cs, ty, heap_alloc_new w _, hcs, fun i e j v hi hj => ?_⟩
  obtain ⟨c, e1, e2, e3⟩ := hc i e j v hi hj
  exact ⟨c, e1, e2, e3.mono (fun k hk => Below.heap_alloc w _ k (H.stab k hk)) (fun _ h => h) hle⟩

theorem news_list {xs : List (List V)} {sz : Nat} {ad : Addr} {f : Nat → Value} (hf : ∀ k, k < xs.length * sz → w.cell? (ad.add k) = some (f k) ∧ (f k).oneCell' = true) :
    (((List.range (xs.length * sz)).map f).length = xs.length * sz) ∧ (∀ (j : Nat) (u : Value), ((List.range (xs.length * sz)).map f)[j]? = some u → w.cell? (ad.add j) = some u) ∧ ∀ u ∈ (List.range (xs.length * sz)).map f, u.oneCell' = true := by
  refine ⟨by simp, fun j u hu => ?_, fun u hu => ?_⟩
  · have hj : j < xs.length * sz := by have := (List.getElem?_eq_some_iff.1 hu).1; simpa using this
    simp [hj] at hu
    rw [← hu]; exact (hf j hj).1
  · obtain ⟨k, hk, rfl⟩ := List.mem_map.1 hu
    exact (hf k (by simpa using hk)).2
theorem in_row {n i j sz : Nat} (hi : i < n) (hj : j < sz) : i * sz + j < n * sz := by
  have : (i + 1) * sz ≤ n * sz := Nat.mul_le_mul_right _ hi
  rw [Nat.add_mul] at this; omega

/-- Appending the elements xs behind b, into a place of its own: what the new row holds. -/
theorem grown_cells {b xs : List (List V)} {sz : Nat} (cap : Nat) (olds news : List Value) (z : Array Value) (hob : olds.length = b.length * sz) (hnb : news.length = xs.length * sz) (hb : ∀ e ∈ b, e.length = sz) (hx : ∀ e ∈ xs, e.length = sz)
    (ho : ∀ (i : Nat) (e : List V) (j : Nat) (v : V), b[i]? = some e → e[j]? = some v → ∃ c, olds[i * sz + j]? = some c ∧ c.oneCell' = true ∧ Rep S ρ w c v)
    (hn : ∀ (i : Nat) (e : List V) (j : Nat) (v : V), xs[i]? = some e → e[j]? = some v → ∃ c, news[i * sz + j]? = some c ∧ c.oneCell' = true ∧ Rep S ρ w c v) :
    ∀ (i : Nat) (e : List V) (j : Nat) (v : V), (b ++ xs)[i]? = some e → e[j]? = some v → ∃ c, (olds.toArray ++ news.toArray ++ Builtin.zeroCells z cap)[i * sz + j]? = some c ∧ c.oneCell' = true ∧ Rep S ρ w c v := by
  intro i e j v hi hj
  have hget : ∀ k, k < olds.length + news.length → (olds.toArray ++ news.toArray ++ Builtin.zeroCells z cap)[k]? = (olds ++ news)[k]? := by
    intro k hk
    rw [Array.getElem?_append_left (by simpa using hk)]
    simp
  rcases Nat.lt_or_ge i b.length with h1 | h1
  · rw [List.getElem?_append_left h1] at hi
    have hj' : j < sz := by rw [← hb e (List.mem_of_getElem? hi)]; exact (List.getElem?_eq_some_iff.1 hj).1
    have hlt := in_row h1 hj'
    obtain ⟨c, e1, e2, e3⟩ := ho i e j v hi hj
    exact ⟨c, by rw [hget _ (by omega), List.getElem?_append_left (by omega)]; exact e1, e2, e3⟩
  · rw [List.getElem?_append_right h1] at hi
    have hi' : i - b.length < xs.length := (List.getElem?_eq_some_iff.1 hi).1
    have hj' : j < sz := by rw [← hx e (List.mem_of_getElem? hi)]; exact (List.getElem?_eq_some_iff.1 hj).1
    have hlt := in_row hi' hj'
    have hsplit : i * sz + j = olds.length + ((i - b.length) * sz + j) := by
      rw [hob, ← Nat.add_assoc, ← Nat.add_mul]; congr 2; omega
    obtain ⟨c, e1, e2, e3⟩ := hn _ e j v hi hj
    refine ⟨c, ?_, e2, e3⟩
    rw [hget _ (by omega), List.getElem?_append_right (by omega), hsplit, Nat.add_sub_cancel_left]; exact e1

theorem set_self {α : Type} {l : List α} {i : Nat} {x : α} (h : l[i]? = some x) : l.set i x = l := by
  apply List.ext_getElem?
  intro j
  by_cases e : i = j
  · subst e; rw [List.getElem?_set_self (List.getElem?_eq_some_iff.1 h).1, h]
  · rw [List.getElem?_set_ne e]
theorem append_new (H : HInv S ρ h w) {t ty e : TypeId} {i : TypeInfo} {zs : List V} {sz bytes : Nat} (ht : P.underlying t = some (.slice e)) (hi : P.info? e = some i) (hz : zeroT P e = some zs) (hzl : zs.length = sz) (hsz : i.size = sz) (hby : i.bytes = bytes)
    {cs cx : Value} {x : V} {xs : List (List V)} (hs : Rep S ρ w cs .nils) (hx : Rep S ρ w cx x) (he : elemsOf h sz x = some xs) (hb : xs.length * bytes ≤ 140737488355328) (hm : xs.length ≤ maxLen) :
    ∃ c w', (Builtin.append_ #[t, t] ty #[cs, cx]).run P w = .ok c w' ∧ Made S ρ w c w' (.own h.length sz 0 xs.length xs.length) (h ++ [xs]) := by
  obtain ⟨hxs, a, c, rfl, hlc, hcells⟩ := elems_cells H hx he
  cases hs
  rcases Nat.eq_zero_or_pos xs.length with h0 | h0
  · have hx0 : xs = [] := List.eq_nil_of_length_eq_zero h0
    subst hx0
    refine ⟨_, w, append_none (P := P) (w := w) t ty e i ht hi none a 0 0 c (Nat.le_refl _), upd ρ h.length ⟨none, sz, 0, 0⟩, ?_, ?_, ?_⟩
    · exact H.put h.length ⟨none, sz, 0, 0⟩ [] (h ++ [[]]) (Nat.le_refl _) (Le.upd_new (H.none_ _ (Nat.le_refl _))) (fun _ _ _ => rfl) ⟨rfl, Nat.le_refl _, by simp, by simp, (fun g e => by cases e), fun _ => rfl, fun _ => rfl⟩ (fun g e => by cases e)
        (fun k hk => by
          rcases Nat.lt_or_ge k h.length with h1 | h1
          · rw [List.getElem?_append_left h1]
          · rw [List.getElem?_eq_none (by simp; omega), List.getElem?_eq_none h1]) (by simp)
    · exact .own ⟨none, sz, 0, 0⟩ (upd_same _ _ _) rfl rfl (by simp) (Nat.le_refl _) (fun h => by simp at h) (fun _ _ => ⟨rfl, fun g e => by cases e⟩)
    · exact (Fr.refl w S ρ).put H h.length ⟨none, sz, 0, 0⟩ (Nat.le_refl _) rfl rfl rfl (Le.upd_new (H.none_ _ (Nat.le_refl _))) (fun _ _ _ => rfl) (fun g e => by cases e)
  · obtain ⟨ad, f, rfl, hf, hfr⟩ := hcells h0
    obtain ⟨i', z, hi', hzz, hzs, _⟩ := zeroT_spec hz S ρ w
    rw [hi] at hi'; cases hi'
    obtain ⟨n1, n2, n3⟩ := news_list (w := w) hf
    have hm' : (xs.length : Int) ≤ 9223372036854775807 := by simp only [maxLen] at hm; omega
    subst hsz
    have hrun := run_append_nil (P := P) w t ty e i z ht hi hzz ad xs.length c _ n1 n2 h0 hm' (by subst hby; omega)
    have hge := grownCap_ge w xs.length 0 e
    have hcm := grownCap_le_maxLen w xs.length 0 e hm
    have hnew : ∀ (k : Nat) (e : List V) (j : Nat) (v : V), xs[k]? = some e → e[j]? = some v → ∃ c, ((List.range (xs.length * i.size)).map f)[k * i.size + j]? = some c ∧ c.oneCell' = true ∧ Rep S ρ w c v := fun k e j v hk hj => by
      have hj' : j < i.size := by rw [← hxs e (List.mem_of_getElem? hk)]; exact (List.getElem?_eq_some_iff.1 hj).1
      have hlt := in_row (List.getElem?_eq_some_iff.1 hk).1 hj'
      exact ⟨f (k * i.size + j), by simp [hlt], (hf _ hlt).2, hfr k e j v hk hj⟩
    have hcell := grown_cells (b := []) (xs := xs) (grownCap w xs.length 0 e - xs.length) [] _ z.cells (by simp) n1 (by simp) hxs (fun k e j v hk => by simp at hk) hnew
    simp only [List.nil_append, Array.empty_append] at hcell
    have HD := drew_inv H
    obtain ⟨g1, g2⟩ := moved_block HD h.length (grownCap w xs.length 0 e) i.size xs (h ++ [xs]) (((List.range (xs.length * i.size)).map f).toArray ++ Builtin.zeroCells z.cells (grownCap w xs.length 0 e - xs.length)) e
      (Le.upd_new (H.none_ _ (Nat.le_refl _))) hge (List.length_pos_iff.1 h0) hcm (by rw [Array.size_append, size_zeroCells, hzs, hzl, List.size_toArray, n1, ← Nat.add_mul]; congr 1; omega) hxs (fun k e j v hk hj => by
        obtain ⟨c, e1, e2, e3⟩ := hcell k e j v hk hj
        exact ⟨c, e1, e2, e3.drew_⟩) (fun k hk => by
          rcases Nat.lt_or_ge k h.length with h1 | h1
          · rw [List.getElem?_append_left h1]
          · rw [List.getElem?_eq_none (by simp; omega), List.getElem?_eq_none h1]) (by simp)
    refine ⟨_, _, hrun, _, g1, ?_, (drew_fr w S ρ).trans g2⟩
    exact .own _ (upd_same _ _ _) rfl rfl (by simp) hge (fun _ => ⟨_, rfl, by simp⟩) (fun _ _ => ⟨rfl, fun g e => by cases e; rfl⟩)

theorem append_own (H : HInv S ρ h w) {t ty e : TypeId} {i : TypeInfo} {zs : List V} {sz bytes : Nat} (ht : P.underlying t = some (.slice e)) (hi : P.info? e = some i) (hz : zeroT P e = some zs) (hzl : zs.length = sz) (hsz : i.size = sz) (hby : i.bytes = bytes)
    {cs cx : Value} {x : V} {xs : List (List V)} {id : Nat} {b : Blk} (hs : Rep S ρ w cs (.own id sz 0 b.length b.length)) (hbk : h[id]? = some b) (hx : Rep S ρ w cx x) (he : elemsOf h sz x = some xs)
    (hb : (b.length + xs.length) * bytes ≤ 140737488355328) (hm : b.length + xs.length ≤ maxLen) :
    ∃ c w', (Builtin.append_ #[t, t] ty #[cs, cx]).run P w = .ok c w' ∧ Made S ρ w c w' (.own id sz 0 (b.length + xs.length) (b.length + xs.length)) (h.set id (b ++ xs)) := by
  obtain ⟨hxs, a, c, rfl, hlc, hcells⟩ := elems_cells H hx he
  obtain ⟨l, hl, hB⟩ := H.blk id b hbk
  cases hs with
  | @ownS _ _ _ _ _ _ _ l' hρ ht2 hc2 ha => rw [hl] at hρ; cases hρ; have := hB.tot; omega
  | @own a0 _ c0 _ _ _ _ l' hρ hslz ht2 hl2 hc2 h1 h2 =>
  rw [hl] at hρ; cases hρ
  have hbs : ∀ e ∈ b, e.length = sz := fun e he => by rw [hslz]; exact hB.sz e he
  obtain ⟨hcap, hadr⟩ := h2 rfl rfl
  subst hcap
  have hid : id < h.length := (List.getElem?_eq_some_iff.1 hbk).1
  rcases Nat.eq_zero_or_pos xs.length with h0 | h0
  · have hx0 : xs = [] := List.eq_nil_of_length_eq_zero h0
    subst hx0
    refine ⟨_, w, append_none (P := P) (w := w) t ty e i ht hi a0 a b.length l.cap c hc2, ρ, ?_, ?_, Fr.refl w S ρ⟩
    · rw [List.append_nil, set_self hbk]; exact H
    · exact .own l hl hslz ht2 (by simp) hc2 h1 h2
  · obtain ⟨ad, f, rfl, hf, hfr⟩ := hcells h0
    obtain ⟨i', z, hi', hzz, hzs, _⟩ := zeroT_spec hz S ρ w
    rw [hi] at hi'; cases hi'
    obtain ⟨n1, n2, n3⟩ := news_list (w := w) hf
    have hm' : ((b.length + xs.length : Nat) : Int) ≤ 9223372036854775807 := by simp only [maxLen] at hm; omega
    have hnew : ∀ (k : Nat) (e : List V) (j : Nat) (v : V), xs[k]? = some e → e[j]? = some v → ∃ c, ((List.range (xs.length * sz)).map f)[k * sz + j]? = some c ∧ c.oneCell' = true ∧ Rep S ρ w c v := fun k e j v hk hj => by
      have hj' : j < sz := by rw [← hxs e (List.mem_of_getElem? hk)]; exact (List.getElem?_eq_some_iff.1 hj).1
      have hlt := in_row (List.getElem?_eq_some_iff.1 hk).1 hj'
      exact ⟨f (k * sz + j), by simp [hlt], (hf _ hlt).2, hfr k e j v hk hj⟩
    by_cases hroom : b.length + xs.length ≤ l.cap
    · have hcp : 0 < l.cap := by omega
      cases hblk : l.blk with
      | none => have := hB.nomem hblk; omega
      | some g =>
      have ea := hadr g hblk
      subst ea
      obtain ⟨hnS, cur, ty', hg, hcs, hmem⟩ := hB.mem g hblk
      have hbne : b ≠ [] := fun e0 => by have := hB.emp e0; omega
      have h0' : 0 < b.length := List.length_pos_iff.2 hbne
      subst hslz
      have hrow : b.length * l.sz + xs.length * l.sz ≤ l.cap * l.sz := by rw [← Nat.add_mul]; exact Nat.mul_le_mul_right _ hroom
      have hfit : b.length * i.size + ((List.range (xs.length * l.sz)).map f).length ≤ cur.size := by rw [n1, hsz, hcs]; exact hrow
      have hrun := fits_room (P := P) (w := w) t ty e i ht hi ty' g b.length l.cap cur hg ad xs.length c _ (by rw [n1, hsz]) n2 n3 hroom hfit
      rw [hsz] at hrun
      have hfit2 : b.length * l.sz + ((List.range (xs.length * l.sz)).map f).length ≤ cur.toList.length := by rw [Array.length_toList]; rw [hsz] at hfit; exact hfit
      have hat := setRow_heap w g cur (cur.toList.take (b.length * l.sz) ++ (List.range (xs.length * l.sz)).map f ++ cur.toList.drop (b.length * l.sz + ((List.range (xs.length * l.sz)).map f).length)).toArray ty' (0, 0) hg
      have hall : ∀ k, k ≠ g → (w.setRow g (cur.toList.take (b.length * l.sz) ++ (List.range (xs.length * l.sz)).map f ++ cur.toList.drop (b.length * l.sz + ((List.range (xs.length * l.sz)).map f).length)).toArray).heap[k]? = w.heap[k]? := fun k hk => setRow_other w g k _ (fun e => hk (by first | exact e | exact e.symm))
      have hszw : (w.setRow g (cur.toList.take (b.length * l.sz) ++ (List.range (xs.length * l.sz)).map f ++ cur.toList.drop (b.length * l.sz + ((List.range (xs.length * l.sz)).map f).length)).toArray).heap.size = w.heap.size := by simp [World.setRow]
      have hos : (w.setRow g (cur.toList.take (b.length * l.sz) ++ (List.range (xs.length * l.sz)).map f ++ cur.toList.drop (b.length * l.sz + ((List.range (xs.length * l.sz)).map f).length)).toArray).os = w.os ∧ (w.setRow g (cur.toList.take (b.length * l.sz) ++ (List.range (xs.length * l.sz)).map f ++ cur.toList.drop (b.length * l.sz + ((List.range (xs.length * l.sz)).map f).length)).toArray).tape = w.tape ∧ (w.setRow g (cur.toList.take (b.length * l.sz) ++ (List.range (xs.length * l.sz)).map f ++ cur.toList.drop (b.length * l.sz + ((List.range (xs.length * l.sz)).map f).length)).toArray).output = w.output := ⟨rfl, rfl, rfl⟩
      have hseg := seg_get cur.toList ((List.range (xs.length * l.sz)).map f) (b.length * l.sz) hfit2
      generalize w.setRow g (cur.toList.take (b.length * l.sz) ++ (List.range (xs.length * l.sz)).map f ++ cur.toList.drop (b.length * l.sz + ((List.range (xs.length * l.sz)).map f).length)).toArray = w' at hrun hat hall hszw hos
      have hlen : (cur.toList.take (b.length * l.sz) ++ (List.range (xs.length * l.sz)).map f ++ cur.toList.drop (b.length * l.sz + ((List.range (xs.length * l.sz)).map f).length)).length = cur.size := by
        simp only [List.length_append, List.length_take, List.length_drop, Array.length_toList] at hfit2 ⊢; omega
      generalize cur.toList.take (b.length * l.sz) ++ (List.range (xs.length * l.sz)).map f ++ cur.toList.drop (b.length * l.sz + ((List.range (xs.length * l.sz)).map f).length) = row at hat hseg hlen
      have hle : Le ρ (upd ρ id ⟨some g, l.sz, b.length + xs.length, l.cap⟩) := Le.upd_old hl (.inr (by have := hB.tot; show l.tot < b.length + xs.length; omega))
      have hwS : ∀ k, k < w.heap.size → (∀ l0, ρ id = some l0 → l0.blk ≠ some k) → w'.heap[k]? = w.heap[k]? := fun k _ hk => hall k (fun e => hk l hl (by rw [hblk, e]))
      have hSw : ∀ k, S k → w'.heap[k]? = w.heap[k]? := fun k hk => hall k (fun e => hnS (e ▸ hk))
      have hgg : ∀ g', (⟨some g, l.sz, b.length + xs.length, l.cap⟩ : Loc).blk = some g' → w.heap.size ≤ g' ∨ ∃ l0, ρ id = some l0 ∧ l0.blk = some g' := fun g' e => by cases e; exact .inr ⟨l, hl, hblk⟩
      refine ⟨_, w', hrun, upd ρ id ⟨some g, l.sz, b.length + xs.length, l.cap⟩, ?_, ?_, (Fr.refl w S ρ).put H id _ (by omega) hos.1 hos.2.1 hos.2.2 hle hwS hgg⟩
      · refine H.put id ⟨some g, l.sz, b.length + xs.length, l.cap⟩ (b ++ xs) (h.set id (b ++ xs)) (by omega) hle hwS ⟨by simp, by simpa using hroom, hB.capm, fun e' he' => ?_, fun g' eg => ?_, (fun e => by cases e), (fun e => by simp at e; exact absurd e.1 hbne)⟩ hgg (fun k hk => by rw [List.getElem?_set_ne (Ne.symm hk)]) (by rw [List.getElem?_set_self hid])
        · rcases List.mem_append.1 he' with h3 | h3
          · exact hbs e' h3
          · exact hxs e' h3
        · cases eg
          refine ⟨hnS, row.toArray, ty', hat, by simp [hlen, hcs], fun k e' q v hk hq => ?_⟩
          show ∃ c, row.toArray[k * l.sz + q]? = some c ∧ c.oneCell' = true ∧ Rep S (upd ρ id ⟨some g, l.sz, b.length + xs.length, l.cap⟩) w' c v
          rw [List.getElem?_toArray, hseg]
          have hr : ∀ {c v}, Rep S ρ w c v → Rep S (upd ρ id ⟨some g, l.sz, b.length + xs.length, l.cap⟩) w' c v := fun r => r.mono hSw (fun _ h => h) hle
          rcases Nat.lt_or_ge k b.length with h3 | h3
          · rw [List.getElem?_append_left h3] at hk
            have hq' : q < l.sz := by rw [← hbs e' (List.mem_of_getElem? hk)]; exact (List.getElem?_eq_some_iff.1 hq).1
            have hlt := in_row h3 hq'
            rw [if_neg (by have := hlt; omega)]
            obtain ⟨cc, e1, e2, e3⟩ := hmem k e' q v hk hq
            exact ⟨cc, by rw [Array.getElem?_toList]; exact e1, e2, hr e3⟩
          · rw [List.getElem?_append_right h3] at hk
            have hk' : k - b.length < xs.length := (List.getElem?_eq_some_iff.1 hk).1
            have hq' : q < l.sz := by rw [← hxs e' (List.mem_of_getElem? hk)]; exact (List.getElem?_eq_some_iff.1 hq).1
            have hlt := in_row hk' hq'
            have hsp : k * l.sz + q = b.length * l.sz + ((k - b.length) * l.sz + q) := by rw [← Nat.add_assoc, ← Nat.add_mul]; congr 2; omega
            obtain ⟨cc, e1, e2, e3⟩ := hnew _ e' q v hk hq
            rw [if_pos (by rw [n1]; omega), hsp, Nat.add_sub_cancel_left]
            exact ⟨cc, e1, e2, hr e3⟩
      · exact .own _ (upd_same _ _ _) rfl rfl (by simp) hroom (fun _ => ⟨g, rfl, by simp⟩) (fun _ _ => ⟨rfl, fun g' e => by cases e; rfl⟩)
    · have hD := drew_inv H
      have hge := grownCap_ge w (b.length + xs.length) l.cap e
      have hcm := grownCap_le_maxLen w (b.length + xs.length) l.cap e hm
      -- the elder cells
      have hold : ∃ ob : Option Addr, a0 = ob ∧ ∃ fo : Nat → Value, (∀ k, k < b.length * sz → ∃ ad0, ob = some ad0 ∧ w.cell? (ad0.add k) = some (fo k)) ∧
          ∀ (k : Nat) (e : List V) (j : Nat) (v : V), b[k]? = some e → e[j]? = some v → (fo (k * sz + j)).oneCell' = true ∧ Rep S ρ w (fo (k * sz + j)) v := by
        refine ⟨a0, rfl, ?_⟩
        rcases Nat.eq_zero_or_pos b.length with hb0 | hb0
        · have : b = [] := List.eq_nil_of_length_eq_zero hb0
          subst this
          exact ⟨fun _ => undef, fun k hk => by simp at hk, fun k e j v hk => by simp at hk⟩
        · have hr : Rep S ρ w (.slice a0 b.length l.cap) (.own id sz 0 b.length b.length) := .own l hl hslz ht2 hl2 hc2 h1 (fun _ _ => ⟨rfl, hadr⟩)
          obtain ⟨_, a1, c1, e1, _, hc1⟩ := elems_cells (xs := b) (sz := sz) H hr (by simp [elemsOf, hbk])
          cases e1
          obtain ⟨ad0, fo, ea, hf1, hf2⟩ := hc1 hb0
          refine ⟨fo, fun k hk => ⟨ad0, ea, (hf1 k hk).1⟩, fun k e j v hk hj => ⟨?_, hf2 k e j v hk hj⟩⟩
          have hj' : j < sz := by rw [← hbs e (List.mem_of_getElem? hk)]; exact (List.getElem?_eq_some_iff.1 hj).1
          exact (hf1 _ (in_row (List.getElem?_eq_some_iff.1 hk).1 hj')).2
      obtain ⟨_, rfl, fo, ho1, ho2⟩ := hold
      have o1 : ((List.range (b.length * sz)).map fo).length = b.length * sz := by simp
      have holdc : ∀ (k : Nat) (e : List V) (j : Nat) (v : V), b[k]? = some e → e[j]? = some v → ∃ c, ((List.range (b.length * sz)).map fo)[k * sz + j]? = some c ∧ c.oneCell' = true ∧ Rep S ρ w c v := fun k e j v hk hj => by
        have hj' : j < sz := by rw [← hbs e (List.mem_of_getElem? hk)]; exact (List.getElem?_eq_some_iff.1 hj).1
        have hlt := in_row (List.getElem?_eq_some_iff.1 hk).1 hj'
        obtain ⟨e1, e2⟩ := ho2 k e j v hk hj
        exact ⟨fo (k * sz + j), by simp [hlt], e1, e2⟩
      have hrun : (Builtin.append_ #[t, t] ty #[.slice a0 b.length l.cap, .slice (some ad) xs.length c]).run P w =
          .ok (.slice (some ⟨w.heap.size, 0, none⟩) (b.length + xs.length) (grownCap w (b.length + xs.length) l.cap e))
            (w.drew.alloc (.cells (((List.range (b.length * sz)).map fo).toArray ++ ((List.range (xs.length * sz)).map f).toArray ++ Builtin.zeroCells z.cells (grownCap w (b.length + xs.length) l.cap e - (b.length + xs.length))) e)) := by
        subst hsz
        cases a0 with
        | some ad0 =>
          refine run_append_grow (P := P) w t ty e i z ht hi hzz ad0 b.length l.cap _ o1 (fun j v hv => ?_) ad xs.length c _ n1 n2 (by omega) hm' (growslice_fits (by omega) (by rw [hby]; omega))
          have hj : j < b.length * i.size := by have := (List.getElem?_eq_some_iff.1 hv).1; simpa using this
          obtain ⟨ad1, e1, e2⟩ := ho1 j hj
          cases e1
          simp [hj] at hv
          rw [← hv]; exact e2
        | none =>
          have hb0 : b.length = 0 := by
            rcases Nat.eq_zero_or_pos b.length with h3 | h3
            · exact h3
            · obtain ⟨g, _, e2⟩ := h1 h3; cases e2
          have hbn : b = [] := List.eq_nil_of_length_eq_zero hb0
          have hcap0 := hB.emp hbn
          subst hbn
          rw [hcap0]
          simp only [List.length_nil, Nat.zero_add, Nat.zero_mul, List.range_zero, List.map_nil, Array.empty_append]
          have := run_append_nil (P := P) w t ty e i z ht hi hzz ad xs.length c _ n1 n2 h0 (by simpa using hm') (by subst hby; simp at hb; omega)
          rw [this]
      have hcell := grown_cells (b := b) (xs := xs) (grownCap w (b.length + xs.length) l.cap e - (b.length + xs.length)) _ _ z.cells o1 n1 hbs hxs holdc hnew
      obtain ⟨g1, g2⟩ := moved_block hD id (grownCap w (b.length + xs.length) l.cap e) sz (b ++ xs) (h.set id (b ++ xs)) (((List.range (b.length * sz)).map fo).toArray ++ ((List.range (xs.length * sz)).map f).toArray ++ Builtin.zeroCells z.cells (grownCap w (b.length + xs.length) l.cap e - (b.length + xs.length))) e
        (Le.upd_old hl (.inr (by have := hB.tot; show l.tot < (b ++ xs).length; rw [List.length_append]; omega))) (by rw [List.length_append]; exact hge) (fun e0 => by simp at e0; rw [e0.2] at h0; simp at h0) hcm
        (by rw [Array.size_append, Array.size_append, size_zeroCells, hzs, hzl, List.size_toArray, List.size_toArray, n1, o1, ← Nat.add_mul, ← Nat.add_mul]; congr 1; omega)
        (fun e' he' => by
          rcases List.mem_append.1 he' with h3 | h3
          · exact hbs e' h3
          · exact hxs e' h3) (fun k e' j v hk hj => by
          obtain ⟨cc, e1, e2, e3⟩ := hcell k e' j v hk hj
          exact ⟨cc, e1, e2, e3.drew_⟩) (fun k hk => by rw [List.getElem?_set_ne (Ne.symm hk)]) (by rw [List.getElem?_set_self hid])
      refine ⟨_, _, hrun, _, g1, ?_, (drew_fr w S ρ).trans g2⟩
      exact .own _ (upd_same _ _ _) rfl (by simp) (by simp) hge (fun _ => ⟨_, rfl, by simp⟩) (fun _ _ => ⟨rfl, fun g e => by cases e; rfl⟩)
end
end Go.Av
