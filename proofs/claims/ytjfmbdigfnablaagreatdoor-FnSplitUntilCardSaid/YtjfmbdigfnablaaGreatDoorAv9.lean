/- Where a function is called by its contract: what it owns comes to the caller under new numbers. No condition. -/
import Derived.Test.YtjfmbdigfnablaaGreatDoorAv8
namespace Go.Av
open Go.RowKit
set_option linter.unusedVariables false
set_option linter.unusedSimpArgs false

mutual
theorem V.mapId_id : ∀ r : V, V.mapId (fun i => i) r = r
  | .agg cs => by simp only [V.mapId, V.mapL_id cs]
  | .lst _ xs => by simp only [V.mapId, V.mapLL_id xs]
  | .own _ _ _ _ _ => rfl
  | .ptr _ _ _ _ => rfl
  | .rptr cs => by simp only [V.mapId, V.mapL_id cs]
  | .fn _ cs => by simp only [V.mapId, V.mapL_id cs]
  | .tup cs => by simp only [V.mapId, V.mapL_id cs]
  | .int _ _ => rfl
  | .bool _ => rfl
  | .str _ => rfl
  | .nils => rfl
  | .nilp => rfl
  | .nilf => rfl
  | .hole _ => rfl
  | .dead => rfl
theorem V.mapL_id : ∀ l : List V, V.mapL (fun i => i) l = l
  | [] => rfl
  | x :: xs => by simp only [V.mapL, V.mapId_id x, V.mapL_id xs]
theorem V.mapLL_id : ∀ l : List (List V), V.mapLL (fun i => i) l = l
  | [] => rfl
  | x :: xs => by simp only [V.mapLL, V.mapL_id x, V.mapLL_id xs]
end
theorem mapL_get (f : Nat → Nat) (l : List V) (j : Nat) : (V.mapL f l)[j]? = (l[j]?).map (V.mapId f) := by rw [V.mapL_eq]; simp
theorem mapLL_get (f : Nat → Nat) (l : List (List V)) (j : Nat) : (V.mapLL f l)[j]? = (l[j]?).map (V.mapL f) := by rw [V.mapLL_eq]; simp
theorem mapL_len (f : Nat → Nat) (l : List V) : (V.mapL f l).length = l.length := by rw [V.mapL_eq]; simp
theorem mapLL_len (f : Nat → Nat) (l : List (List V)) : (V.mapLL f l).length = l.length := by rw [V.mapLL_eq]; simp

theorem Rep.rename {S S2 : Nat → Prop} {ρ ρ2 : Rho} {w : World} {n : Nat} {f g : Nat → Nat} (hρ : ∀ k, k < n → ρ2 (g k) = ρ (f k)) {v : Value} {y : V} (h : Rep S ρ w v y) :
    ∀ r : V, y = V.mapId f r → V.refs n r = true → ((∀ b, S b → S2 b) ∨ V.fresh r = true) → Rep S2 ρ2 w v (V.mapId g r) := by
  induction h with
  | int k n => intro r e hr hs; cases r <;> simp only [V.mapId, reduceCtorEq] at e; cases e; exact .int _ _
  | bool b => intro r e hr hs; cases r <;> simp only [V.mapId, reduceCtorEq] at e; cases e; exact .bool _
  | str s => intro r e hr hs; cases r <;> simp only [V.mapId, reduceCtorEq] at e; cases e; exact .str _
  | nils => intro r e hr hs; cases r <;> simp only [V.mapId, reduceCtorEq] at e; exact .nils
  | nilp => intro r e hr hs; cases r <;> simp only [V.mapId, reduceCtorEq] at e; exact .nilp
  | nilf => intro r e hr hs; cases r <;> simp only [V.mapId, reduceCtorEq] at e; exact .nilf
  | hole v sz => intro r e hr hs; cases r <;> simp only [V.mapId, reduceCtorEq] at e; exact .hole _ _
  | dead v => intro r e hr hs; cases r <;> simp only [V.mapId, reduceCtorEq] at e; exact .dead _
  | @agg cs vs hl h ih =>
    intro r e hr hs
    cases r <;> simp only [V.mapId, reduceCtorEq] at e
    rename_i us
    cases e
    simp only [V.refs] at hr
    refine .agg (by rw [mapL_len]; rw [mapL_len] at hl; exact hl) fun j c x hc hx => ?_
    rw [mapL_get] at hx
    obtain ⟨u, hu, rfl⟩ := Option.map_eq_some_iff.1 hx
    exact ih j c (V.mapId f u) hc (by rw [mapL_get, hu]; rfl) u rfl (V.refsL_get hr hu) (hs.imp id fun h => V.freshL_get (by simpa [V.fresh] using h) hu)
  | @tup cs vs hl h ih =>
    intro r e hr hs
    cases r <;> simp only [V.mapId, reduceCtorEq] at e
    rename_i us
    cases e
    simp only [V.refs] at hr
    refine .tup (by rw [mapL_len]; rw [mapL_len] at hl; exact hl) fun j c x hc hx => ?_
    rw [mapL_get] at hx
    obtain ⟨u, hu, rfl⟩ := Option.map_eq_some_iff.1 hx
    exact ih j c (V.mapId f u) hc (by rw [mapL_get, hu]; rfl) u rfl (V.refsL_get hr hu) (hs.imp id fun h => V.freshL_get (by simpa [V.fresh] using h) hu)
  | @fn fi cs vs hl h ih =>
    intro r e hr hs
    cases r <;> simp only [V.mapId, reduceCtorEq] at e
    rename_i us
    cases e
    simp only [V.refs] at hr
    refine .fn (by rw [mapL_len]; rw [mapL_len] at hl; exact hl) fun j c x hc hx => ?_
    rw [mapL_get] at hx
    obtain ⟨u, hu, rfl⟩ := Option.map_eq_some_iff.1 hx
    exact ih j c (V.mapId f u) hc (by rw [mapL_get, hu]; rfl) u rfl (V.refsL_get hr hu) (hs.imp id fun h => V.freshL_get (by simpa [V.fresh] using h) hu)
  | @lst a m cap xs sz cf hn hc hb hsz ha h1 h2 ih =>
    intro r e hr hs
    cases r <;> simp only [V.mapId, reduceCtorEq] at e
    rename_i sz0 us
    cases e
    simp only [V.refs] at hr
    have row : ∀ (i : Nat) (e : List V), (V.mapLL g us)[i]? = some e → ∃ u, us[i]? = some u ∧ e = V.mapL g u ∧ (V.mapLL f us)[i]? = some (V.mapL f u) := fun i e hi => by
      rw [mapLL_get] at hi
      obtain ⟨u, hu, rfl⟩ := Option.map_eq_some_iff.1 hi
      exact ⟨u, hu, rfl, by rw [mapLL_get, hu]; rfl⟩
    refine .lst cf (by rw [mapLL_len] at hn ⊢; exact hn) hc hb (fun e he => ?_) (fun h0 => ?_) (fun ad i e j v ea hi hj => ?_) (fun i e j v hi hj => ?_)
    · obtain ⟨i, hi⟩ := List.mem_iff_getElem?.1 he
      obtain ⟨u, hu, rfl, hf⟩ := row i e hi
      rw [mapL_len, ← mapL_len f]
      exact hsz _ (List.mem_of_getElem? hf)
    · obtain ⟨ad, ea, hS⟩ := ha h0
      refine ⟨ad, ea, ?_⟩
      rcases hs with hs | hs
      · exact hs _ hS
      · simp only [V.fresh, List.isEmpty_iff] at hs
        subst hs
        simp [V.mapLL] at hn; omega
    · obtain ⟨u, hu, rfl, hf⟩ := row i e hi
      rw [mapL_get] at hj
      obtain ⟨x, hx, rfl⟩ := Option.map_eq_some_iff.1 hj
      exact h1 ad i _ j (V.mapId f x) ea hf (by rw [mapL_get, hx]; rfl)
    · obtain ⟨u, hu, rfl, hf⟩ := row i e hi
      rw [mapL_get] at hj
      obtain ⟨x, hx, rfl⟩ := Option.map_eq_some_iff.1 hj
      refine ih i _ j (V.mapId f x) hf (by rw [mapL_get, hx]; rfl) x rfl (V.refsL_get (V.refsLL_get hr hu) hx) ?_
      rcases hs with hs | hs
      · exact .inl hs
      · simp only [V.fresh, List.isEmpty_iff] at hs
        subst hs; simp at hu
  | @own a len c id sz off tot l hl hsl ht hle hc h1 h2 =>
    intro r e hr hs
    cases r <;> simp only [V.mapId, reduceCtorEq] at e
    cases e
    simp only [V.refs, decide_eq_true_eq] at hr
    exact .own l (by rw [hρ _ hr]; exact hl) hsl ht hle hc h1 h2
  | @ownS a len c id sz off tot l hl ht hc ha =>
    intro r e hr hs
    cases r <;> simp only [V.mapId, reduceCtorEq] at e
    cases e
    simp only [V.refs, decide_eq_true_eq] at hr
    exact .ownS l (by rw [hρ _ hr]; exact hl) ht hc ha
  | @ptr id tot i j l g' hl hb ht hi =>
    intro r e hr hs
    cases r <;> simp only [V.mapId, reduceCtorEq] at e
    cases e
    simp only [V.refs, decide_eq_true_eq] at hr
    exact .ptr l g' (by rw [hρ _ hr]; exact hl) hb ht hi
  | @ptrS a id tot i j l hl ht =>
    intro r e hr hs
    cases r <;> simp only [V.mapId, reduceCtorEq] at e
    cases e
    simp only [V.refs, decide_eq_true_eq] at hr
    exact .ptrS l (by rw [hρ _ hr]; exact hl) ht
  | @rptr ad cs cf hS h1 h2 ih =>
    intro r e hr hs
    cases r <;> simp only [V.mapId, reduceCtorEq] at e
    rename_i us
    cases e
    simp only [V.refs] at hr
    rcases hs with hs | hs
    · refine .rptr cf (hs _ hS) (fun j v hj => ?_) (fun j v hj => ?_)
      · rw [mapL_get] at hj
        obtain ⟨x, hx, rfl⟩ := Option.map_eq_some_iff.1 hj
        exact h1 j (V.mapId f x) (by rw [mapL_get, hx]; rfl)
      · rw [mapL_get] at hj
        obtain ⟨x, hx, rfl⟩ := Option.map_eq_some_iff.1 hj
        exact ih j (V.mapId f x) (by rw [mapL_get, hx]; rfl) x rfl (V.refsL_get hr hx) (.inl hs)
    · simp [V.fresh] at hs

def noRho : Rho := fun _ => none

theorem Rep.closed {S S2 : Nat → Prop} {ρ ρ2 : Rho} {w : World} {v : Value} {x : V} (h : Rep S ρ w v x) (hx : V.refs 0 x = true) (hS : ∀ b, S b → S2 b) : Rep S2 ρ2 w v x := by
  have := h.rename (S2 := S2) (ρ2 := ρ2) (n := 0) (f := fun i => i) (g := fun i => i) (fun k hk => absurd hk (Nat.not_lt_zero _)) x (V.mapId_id x).symm hx (.inl hS)
  rwa [V.mapId_id] at this

def withOwn (S : Nat → Prop) (ρ : Rho) : Nat → Prop := fun b => S b ∨ ∃ id l, ρ id = some l ∧ l.blk = some b

theorem snap_rep {S : Nat → Prop} {ρ : Rho} {h : Heap} {w : World} (H : HInv S ρ h w) {x y : V} (s : Snap h x y) : ∀ {c : Value}, Rep S ρ w c x → Rep (withOwn S ρ) noRho w c y := by
  induction s with
  | int k n => intro c r; cases r; exact .int _ _
  | bool b => intro c r; cases r; exact .bool _
  | str b => intro c r; cases r; exact .str _
  | @agg cs ds hl hc ih =>
    intro c r
    cases r with
    | agg hl2 hc2 =>
      refine .agg (by omega) fun j c y hcj hy => ?_
      have hj : j < cs.length := by rw [hl]; exact (List.getElem?_eq_some_iff.1 hy).1
      exact ih j _ y (List.getElem?_eq_getElem hj) hy (hc2 j c _ hcj (List.getElem?_eq_getElem hj))
  | lst sz xs hr => intro c r; exact r.closed hr (fun b hb => .inl hb)
  | same v hr => intro c r; exact r.closed hr (fun b hb => .inl hb)
  | nils sz =>
    intro c r; cases r
    exact .lst (fun _ _ => undef) rfl (Nat.le_refl _) (Nat.zero_le _) (by simp) (by simp) (by simp) (by simp)
  | @own id sz off len tot b ys hb ht hl hy he hc ih =>
    intro c r
    obtain ⟨l', hl', hB⟩ := H.blk id b hb
    cases r with
    | @ownS a _ c _ _ _ _ l hρ ht2 hc2 ha => rw [hρ] at hl'; cases hl'; have := hB.tot; omega
    | @own a _ c _ _ _ _ l hρ hsl ht2 hl2 hc2 h1 h2 =>
      rw [hρ] at hl'; cases hl'
      have hbd : len ≤ maxLen := by have := hB.cap; have := hB.capm; omega
      rcases Nat.eq_zero_or_pos len with h0 | h0
      · subst h0
        have : ys = [] := List.eq_nil_of_length_eq_zero hy
        subst this
        exact .lst (fun _ _ => undef) rfl hc2 hbd (by simp) (by simp) (by simp) (by simp)
      · obtain ⟨g, hg, rfl⟩ := h1 h0
        obtain ⟨_, cs, ty, hgg, hcs, hmem⟩ := hB.mem g hg
        rw [← hsl] at hmem
        have brow : ∀ (i : Nat) (d : List V), ys[i]? = some d → ∃ e, b[off + i]? = some e ∧ e.length = d.length := fun i d hi => by
          have hil : i < len := by rw [← hy]; exact (List.getElem?_eq_some_iff.1 hi).1
          have hb' : off + i < b.length := by omega
          exact ⟨b[off + i], List.getElem?_eq_getElem hb', he i _ d (List.getElem?_eq_getElem hb') hi⟩
        have cell : ∀ (i : Nat) (d : List V) (j : Nat) (x : V), ys[i]? = some d → d[j]? = some x → ∃ e c0 u, b[off + i]? = some e ∧ e[j]? = some c0 ∧ cs[(off + i) * sz + j]? = some u ∧ u.oneCell' = true ∧ Rep S ρ w u c0 := fun i d j x hi hj => by
          obtain ⟨e, hbe, hel⟩ := brow i d hi
          have hje : j < e.length := by rw [hel]; exact (List.getElem?_eq_some_iff.1 hj).1
          obtain ⟨u, u1, u2, u3⟩ := hmem (off + i) e j _ hbe (List.getElem?_eq_getElem hje)
          exact ⟨e, _, u, hbe, List.getElem?_eq_getElem hje, u1, u2, u3⟩
        have addr : ∀ i j : Nat, w.cell? ((⟨g, off * sz, none⟩ : Addr).add (i * sz + j)) = cs[(off + i) * sz + j]? := fun i j => by
          rw [add_lit, cell_of_row w g _ cs ty (0, 0) hgg, Nat.add_mul, Nat.add_assoc]
        refine .lst (fun i j => (w.cell? ((⟨g, off * sz, none⟩ : Addr).add (i * sz + j))).getD undef) hy.symm hc2 hbd (fun d hd => ?_) (fun _ => ⟨_, rfl, .inr ⟨id, l', hρ, hg⟩⟩) (fun ad i d j x ea hi hj => ?_) (fun i d j x hi hj => ?_)
        · obtain ⟨i, hi⟩ := List.mem_iff_getElem?.1 hd
          obtain ⟨e, hbe, hel⟩ := brow i d hi
          rw [← hel, hsl]; exact hB.sz e (List.mem_of_getElem? hbe)
        · cases ea
          obtain ⟨e, c0, u, q1, q2, q3, q4, q5⟩ := cell i d j x hi hj
          rw [addr, q3]; exact ⟨rfl, q4⟩
        · obtain ⟨e, c0, u, q1, q2, q3, q4, q5⟩ := cell i d j x hi hj
          rw [addr, q3]
          exact ih i e d j c0 x q1 hi q2 hj q5

theorem land {S S1 S' : Nat → Prop} {ρ ρ' : Rho} {h h' hr : Heap} {w w' : World} {v : Value} {r r' : V} (H : HInv S ρ h w) (F : Fr w S1 noRho S' ρ' w') (H' : HInv S' ρ' h' w') (Rv : Rep S' ρ' w' v r') (L : Land r hr r' h')
    (hS1 : ∀ b, S b → S1 b) (hA : (∀ b, S1 b → S b) ∨ (V.fresh r = true ∧ ∀ b ∈ hr, ∀ e ∈ b, V.freshL e = true)) :
    ∃ S2 ρ2, HInv S2 ρ2 (h ++ hr.map (V.mapLL (· + h.length))) w' ∧ Rep S2 ρ2 w' v (V.mapId (· + h.length) r) ∧ Fr w S ρ S2 ρ2 w' := by
  obtain ⟨hr0, hrB, f, finj, rfl, hf⟩ := L
  have hsame : ∀ b, b < w.heap.size → w'.heap[b]? = w.heap[b]? := fun b hb => F.frame b hb (fun id l hl => by cases hl)
  have hown : ∀ id l g, ρ' id = some l → l.blk = some g → w.heap.size ≤ g := fun id l g hl hg => by
    rcases F.ownD id l g hl hg with h1 | ⟨_, _, h2, _⟩
    · exact h1
    · cases h2
  -- the blocks that stay
  obtain ⟨S2, hS2, hS2', hS2n, hS2s, hS2f⟩ : ∃ S2 : Nat → Prop, (∀ b, S b → S2 b) ∧ (∀ b, S2 b → S b ∨ w.heap.size ≤ b) ∧ (∀ id l g, ρ' id = some l → l.blk = some g → ¬ S2 g) ∧ (∀ b, S2 b → b < w'.heap.size) ∧ ((∀ b, S' b → S2 b) ∨ (V.fresh r = true ∧ ∀ b ∈ hr, ∀ e ∈ b, V.freshL e = true)) := by
    rcases hA with hA | hA
    · refine ⟨S', fun b hb => F.Sold b (hS1 b hb), fun b hb => ?_, fun id l g hl hg => ?_, H'.stab, .inl fun _ h => h⟩
      · rcases F.Snew b hb with h1 | h1
        · exact .inl (hA b h1)
        · exact .inr h1
      · obtain ⟨c, _, hB⟩ := H'.some_ hl
        exact (hB.mem g hg).1
    · refine ⟨S, fun _ h => h, fun _ h => .inl h, fun id l g hl hg hs => ?_, fun b hb => Nat.lt_of_lt_of_le (H.stab b hb) F.size, .inr hA⟩
      have := H.stab g hs; have := hown id l g hl hg; omega
  have hρ2 : ∃ ρ2 : Rho, (∀ id, id < h.length → ρ2 id = ρ id) ∧ (∀ k, k < hr.length → ρ2 (k + h.length) = ρ' (f k)) ∧ (∀ id, h.length + hr.length ≤ id → ρ2 id = none) := by
    refine ⟨fun id => if id < h.length then ρ id else if id < h.length + hr.length then ρ' (f (id - h.length)) else none, fun id hid => by simp [hid], fun k hk => ?_, fun id hid => ?_⟩
    · dsimp only; rw [if_neg (by omega), if_pos (by omega), Nat.add_sub_cancel]
    · dsimp only; rw [if_neg (by omega), if_neg (by omega)]
  obtain ⟨ρ2, r1, r2, r3⟩ := hρ2
  have idc : ∀ id l, ρ2 id = some l → (id < h.length ∧ ρ id = some l) ∨ ∃ k, k < hr.length ∧ id = k + h.length ∧ ρ' (f k) = some l := fun id l hl => by
    by_cases h1 : id < h.length
    · exact .inl ⟨h1, by rw [← r1 id h1]; exact hl⟩
    · by_cases h2 : id < h.length + hr.length
      · refine .inr ⟨id - h.length, by omega, by omega, ?_⟩
        rw [← r2 _ (by omega)]
        rw [show id - h.length + h.length = id from by omega]; exact hl
      · rw [r3 id (by omega)] at hl; cases hl
  have hle : Le ρ ρ2 := fun id l hl => by
    obtain ⟨b, hb, _⟩ := H.some_ hl
    exact ⟨l, by rw [r1 id (List.getElem?_eq_some_iff.1 hb).1]; exact hl, .inl rfl⟩
  have hrep : ∀ (x : V) (c : Value), Rep S' ρ' w' c (V.mapId f x) → V.refs hr.length x = true → ((∀ b, S' b → S2 b) ∨ V.fresh x = true) → Rep S2 ρ2 w' c (V.mapId (· + h.length) x) := fun x c hx hrefs hfr => hx.rename (n := hr.length) (fun k hk => r2 k hk) x rfl hrefs hfr
  refine ⟨S2, ρ2, ⟨fun id b hb => ?_, fun id hid => ?_, fun id id' l l' g hl hl' hg hg' => ?_, hS2s, ⟨hS2 _ H.tab.1, by rw [hsame _ (H.stab _ H.tab.1)]; exact H.tab.2⟩⟩, hrep r v Rv hr0 (hS2f.imp (fun h => h) And.left), ⟨F.os, F.tape, F.output, F.size, fun b hb _ => hsame b hb, fun id l g hl hg => ?_, hS2', hS2, hle⟩⟩
  · rcases Nat.lt_or_ge id h.length with h1 | h1
    · rw [List.getElem?_append_left h1] at hb
      obtain ⟨l, hl, hB⟩ := H.blk id b hb
      refine ⟨l, by rw [r1 id h1]; exact hl, hB.tot, hB.cap, hB.capm, hB.sz, fun g hg => ?_, hB.nomem, hB.emp⟩
      obtain ⟨n1, cs, ty, n2, n3, n4⟩ := hB.mem g hg
      have hgs : g < w.heap.size := (Array.getElem?_eq_some_iff.1 n2).1
      refine ⟨fun hs => ?_, cs, ty, by rw [hsame g hgs]; exact n2, n3, fun i e j x hi hj => ?_⟩
      · rcases hS2' g hs with h3 | h3
        · exact n1 h3
        · omega
      · obtain ⟨c, c1, c2, c3⟩ := n4 i e j x hi hj
        exact ⟨c, c1, c2, c3.mono (fun b hb => hsame b (H.stab b hb)) hS2 hle⟩
    · rw [List.getElem?_append_right h1, List.getElem?_map] at hb
      obtain ⟨b0, hb0, rfl⟩ := Option.map_eq_some_iff.1 hb
      have hk : id - h.length < hr.length := (List.getElem?_eq_some_iff.1 hb0).1
      obtain ⟨l, hl, hB⟩ := H'.blk _ _ (hf _ _ hb0)
      have hrb := hrB b0 (List.mem_of_getElem? hb0)
      have row : ∀ (i : Nat) (e : List V), (V.mapLL (· + h.length) b0)[i]? = some e → ∃ u, b0[i]? = some u ∧ e = V.mapL (· + h.length) u ∧ (V.mapLL f b0)[i]? = some (V.mapL f u) := fun i e hi => by
        rw [mapLL_get] at hi
        obtain ⟨u, hu, rfl⟩ := Option.map_eq_some_iff.1 hi
        exact ⟨u, hu, rfl, by rw [mapLL_get, hu]; rfl⟩
      refine ⟨l, ?_, by rw [mapLL_len]; have := hB.tot; rw [mapLL_len] at this; exact this, by rw [mapLL_len]; have := hB.cap; rw [mapLL_len] at this; exact this, hB.capm, fun e he => ?_, fun g hg => ?_, hB.nomem, fun e => hB.emp ?_⟩
      · have := r2 _ hk
        rw [show id - h.length + h.length = id from by omega] at this
        rw [this]; exact hl
      · obtain ⟨i, hi⟩ := List.mem_iff_getElem?.1 he
        obtain ⟨u, _, rfl, hu⟩ := row i e hi
        rw [mapL_len, ← mapL_len f]; exact hB.sz _ (List.mem_of_getElem? hu)
      · obtain ⟨n1, cs, ty, n2, n3, n4⟩ := hB.mem g hg
        refine ⟨hS2n _ l g hl hg, cs, ty, n2, n3, fun i e j x hi hj => ?_⟩
        obtain ⟨u, hu0, rfl, hu⟩ := row i e hi
        rw [mapL_get] at hj
        obtain ⟨y, hy, rfl⟩ := Option.map_eq_some_iff.1 hj
        obtain ⟨c, c1, c2, c3⟩ := n4 i _ j (V.mapId f y) hu (by rw [mapL_get, hy]; rfl)
        refine ⟨c, c1, c2, hrep y c c3 (V.refsL_get (V.refsLL_get hrb hu0) hy) (hS2f.imp (fun h => h) fun hh => ?_)⟩
        exact V.freshL_get (hh.2 b0 (List.mem_of_getElem? hb0) u (List.mem_of_getElem? hu0)) hy
      · have : (V.mapLL (· + h.length) b0).length = 0 := by rw [e]; rfl
        rw [mapLL_len] at this
        have h0 : b0 = [] := List.eq_nil_of_length_eq_zero this
        subst h0; rfl
  · simp only [List.length_append, List.length_map] at hid
    exact r3 id hid
  · rcases idc id l hl with ⟨a1, a2⟩ | ⟨k, a1, a2, a3⟩ <;> rcases idc id' l' hl' with ⟨b1, b2⟩ | ⟨k', b1, b2, b3⟩
    · exact H.inj id id' l l' g a2 b2 hg hg'
    · have := H.lt a2 hg; have := hown _ _ _ b3 hg'; omega
    · have := H.lt b2 hg'; have := hown _ _ _ a3 hg; omega
    · have := finj k k' a1 b1 (H'.inj _ _ l l' g a3 b3 hg hg')
      omega
  · rcases idc id l hl with ⟨a1, a2⟩ | ⟨k, a1, a2, a3⟩
    · exact .inr ⟨id, l, a2, hg⟩
    · exact .inl (hown _ _ _ a3 hg)

theorem call_sound {P : Program} {S : Nat → Prop} {ρ : Rho} {h : Heap} {w : World} {f : Nat} {args : List V} {K : V → Heap → Prop} (hE : CallE P f args h K) (H : HInv S ρ h w) {cargs : List Value} (hl : cargs.length = args.length)
    (ha : ∀ (j : Nat) (c : Value) (v : V), cargs[j]? = some c → args[j]? = some v → Rep S ρ w c v) :
    (∀ args w, (callFunc f args).run P w = .ok (.enter f args) w) ∧ Calls P f cargs.toArray w fun e w' => ∃ v r h' S' ρ', e = .returned v ∧ K r h' ∧ HInv S' ρ' h' w' ∧ Rep S' ρ' w' v r ∧ Fr w S ρ S' ρ' w' := by
  rcases hE with ⟨Q, hC, hK⟩ | ⟨args', r, hr, hC, hcase, hK⟩
  · refine ⟨hC.1, ?_⟩
    exact (hC.2 w S ρ cargs H hl ha).mono fun e w' ⟨v, r, h', S', ρ', he, hQ, rest⟩ => ⟨v, r, h', S', ρ', he, hK _ _ hQ, rest⟩
  · refine ⟨hC.1, ?_⟩
    have H0 : ∀ S1 : Nat → Prop, (∀ b, S1 b → b < w.heap.size) → TabOk S1 w → HInv S1 noRho [] w := fun S1 hs ht => ⟨fun id b hb => by simp at hb, fun _ _ => rfl, fun id id' l l' g hl => by (cases hl), hs, ht⟩
    rcases hcase with ⟨rfl, hrefs⟩ | ⟨⟨sl, sn⟩, fr1, fr2⟩
    · refine (hC.2 w S noRho cargs (H0 S H.stab H.tab) hl fun j c v hc hv => (ha j c v hc hv).closed (V.refsL_get hrefs hv) fun _ h => h).mono fun e w' ⟨v, r', h', S', ρ', he, hQ, hH', hRv, hF⟩ => ?_
      obtain ⟨S2, ρ2, g1, g2, g3⟩ := land H hF hH' hRv hQ (fun _ h => h) (.inl fun _ h => h)
      exact ⟨v, _, _, S2, ρ2, he, hK, g1, g2, g3⟩
    · refine (hC.2 w (withOwn S ρ) noRho cargs (H0 _ (fun b hb => ?_) ⟨.inl H.tab.1, H.tab.2⟩) (by omega) fun j c v hc hv => ?_).mono fun e w' ⟨v, r', h', S', ρ', he, hQ, hH', hRv, hF⟩ => ?_
      · rcases hb with hb | ⟨id, l, h1, h2⟩
        · exact H.stab b hb
        · exact H.lt h1 h2
      · have hj : j < args.length := by rw [sl]; exact (List.getElem?_eq_some_iff.1 hv).1
        exact snap_rep H (sn j _ v (List.getElem?_eq_getElem hj) hv) (ha j c _ hc (List.getElem?_eq_getElem hj))
      · obtain ⟨S2, ρ2, g1, g2, g3⟩ := land H hF hH' hRv hQ (fun _ h => .inl h) (.inr ⟨fr1, fr2⟩)
        exact ⟨v, _, _, S2, ρ2, he, hK, g1, g2, g3⟩
end Go.Av
