/- What the machine does at boxes, literals, make and append, as the abstract values have it. No condition. -/
import Derived.Test.YtjfmbdigfnablaaGreatDoorAv4
namespace Go.Av
open Go.RowKit
set_option linter.unusedVariables false
set_option linter.unusedSimpArgs false

/-- A constant's abstract value. -/
def cvV : Value → Option V
  | .int k n => some (.int k n)
  | .bool b => some (.bool b)
  | .string s => some (.str s)
  | .slice none 0 0 => some .nils
  | .pointer none => some .nilp
  | .nilFunc => some .nilf
  | _ => none
theorem cvV_rep {c : Value} {v : V} (h : cvV c = some v) (S : Nat → Prop) (ρ : Rho) (w : World) : Rep S ρ w c v ∧ c.oneCell' = true := by
  unfold cvV at h
  split at h <;> cases h <;> first | exact ⟨.int _ _, rfl⟩ | exact ⟨.bool _, rfl⟩ | exact ⟨.str _, rfl⟩ | exact ⟨.nils, rfl⟩ | exact ⟨.nilp, rfl⟩ | exact ⟨.nilf, rfl⟩
/-- A type's zero value, cell by cell. -/
def zeroT (P : Program) (t : TypeId) : Option (List V) := ((P.info? t).bind (·.zero)).bind fun z => z.cells.toList.mapM cvV
theorem mapM_get {α β : Type} {f : α → Option β} : ∀ {l : List α} {r : List β}, l.mapM f = some r → l.length = r.length ∧ ∀ (j : Nat) (x : α) (y : β), l[j]? = some x → r[j]? = some y → f x = some y
  | [], r, h => by simp at h; subst h; exact ⟨rfl, fun j x y hx => by simp at hx⟩
  | a :: l, r, h => by
    simp only [List.mapM_cons, Option.pure_def, Option.bind_eq_bind, Option.bind_eq_some_iff] at h
    obtain ⟨b, hb, r', hr', e⟩ := h
    cases e
    obtain ⟨h1, h2⟩ := mapM_get hr'
    refine ⟨by simp [h1], fun j x y hx hy => ?_⟩
    cases j with
    | zero => simp at hx hy; subst hx hy; exact hb
    | succ j => exact h2 j x y (by simpa using hx) (by simpa using hy)
theorem zeroT_spec {P : Program} {t : TypeId} {zs : List V} (h : zeroT P t = some zs) (S : Nat → Prop) (ρ : Rho) (w : World) :
    ∃ i z, P.info? t = some i ∧ i.zero = some z ∧ z.cells.size = zs.length ∧ ∀ (j : Nat) (c : Value) (v : V), z.cells[j]? = some c → zs[j]? = some v → c.oneCell' = true ∧ Rep S ρ w c v := by
  unfold zeroT at h
  cases hi : P.info? t with
  | none => rw [hi] at h; cases h
  | some i =>
    rw [hi] at h; simp only [Option.bind_some] at h
    cases hz : i.zero with
    | none => rw [hz] at h; cases h
    | some z =>
      rw [hz] at h; simp only [Option.bind_some] at h
      obtain ⟨h1, h2⟩ := mapM_get h
      refine ⟨i, z, rfl, hz, by simpa using h1, fun j c v hc hv => ?_⟩
      have := cvV_rep (h2 j c v (by simpa using hc) hv) S ρ w
      exact ⟨this.2, this.1⟩

section
variable {S : Nat → Prop} {ρ : Rho} {h : Heap} {w : World} {P : Program}

/-- What an operation that makes leaves: a value, a world in which the new heap lies. -/
def Made (S : Nat → Prop) (ρ : Rho) (w : World) (c : Value) (w' : World) (v : V) (h' : Heap) : Prop := ∃ ρ', HInv S ρ' h' w' ∧ Rep S ρ' w' c v ∧ Fr w S ρ S ρ' w'

theorem box_cells (H : HInv S ρ h w) (t : TypeId) (cs : Array Value) (b : List V) (hl : cs.size = b.length) (hc : ∀ (j : Nat) (c : Value) (v : V), cs[j]? = some c → b[j]? = some v → c.oneCell' = true ∧ Rep S ρ w c v) :
    Made S ρ w (.pointer (some ⟨w.heap.size, 0, none⟩)) (w.alloc (.cells cs t)) (.ptr h.length 1 0 0) (h ++ [[b]]) := by
  obtain ⟨h1, h2⟩ := new_block H b.length [b] cs t (by simp [maxLen]) (by simp [hl]) (fun e he => by simp at he; subst he; rfl) (fun i e j v hi hj => by
    have hi0 : i = 0 := by have := (List.getElem?_eq_some_iff.1 hi).1; simp at this; exact this
    subst hi0
    simp at hi; subst hi
    have hlt : j < cs.size := by have := (List.getElem?_eq_some_iff.1 hj).1; omega
    have hg : cs[j]? = some cs[j] := Array.getElem?_eq_getElem hlt
    obtain ⟨e1, e2⟩ := hc j _ v hg hj
    exact ⟨_, by simp only [Nat.zero_mul, Nat.zero_add]; exact hg, e1, e2⟩)
  refine ⟨_, h1, ?_, h2⟩
  have := Rep.ptr (S := S) (w := w.alloc (.cells cs t)) (id := h.length) (tot := 1) (i := 0) (j := 0) (ρ := upd ρ h.length ⟨some w.heap.size, b.length, [b].length, 1⟩) ⟨some w.heap.size, b.length, [b].length, 1⟩ w.heap.size (upd_same _ _ _) rfl rfl (by omega)
  simp at this; exact this
theorem box_run (H : HInv S ρ h w) (t : TypeId) {cx : Value} {x : V} (hr : Rep S ρ w cx x) (h1 : x.cells.all V.one = true) :
    ∃ c w', (Instr.box t cx).run P w = .ok c w' ∧ Made S ρ w c w' (.ptr h.length 1 0 0) (h ++ [[x.cells]]) := by
  obtain ⟨hl, hc⟩ := hr.cells h1
  exact ⟨_, _, by simp [Instr.box, newVar, newRow], box_cells H t cx.cells x.cells hl hc⟩
theorem zero_run (H : HInv S ρ h w) {t : TypeId} {zs : List V} (hz : zeroT P t = some zs) :
    ∃ c w', (Instr.alloc t true (.tuple #[])).run P w = .ok c w' ∧ Made S ρ w c w' (.ptr h.length 1 0 0) (h ++ [[zs]]) := by
  obtain ⟨i, z, hi, hzz, hl, hc⟩ := zeroT_spec hz S ρ w
  exact ⟨_, _, by simp [Instr.alloc, zeroValue, typeInfo, hi, hzz, newVar, newRow], box_cells H t z.cells zs hl hc⟩

/-- The cells of a slice's elements. -/
theorem elems_cells (H : HInv S ρ h w) {cx : Value} {x : V} {xs : List (List V)} {sz : Nat} (hr : Rep S ρ w cx x) (he : elemsOf h sz x = some xs) :
    (∀ e ∈ xs, e.length = sz) ∧ ∃ a c, cx = .slice a xs.length c ∧ xs.length ≤ c ∧ (0 < xs.length → ∃ (ad : Addr) (f : Nat → Value), a = some ad ∧ (∀ k, k < xs.length * sz → w.cell? (ad.add k) = some (f k) ∧ (f k).oneCell' = true) ∧
      ∀ (i : Nat) (e : List V) (j : Nat) (v : V), xs[i]? = some e → e[j]? = some v → Rep S ρ w (f (i * sz + j)) v) := by
  have fin : ∀ (hsz : ∀ e ∈ xs, e.length = sz) (ad : Addr) (cf : Nat → Nat → Value), (∀ (i : Nat) (e : List V) (j : Nat) (v : V), xs[i]? = some e → e[j]? = some v → w.cell? (ad.add (i * sz + j)) = some (cf i j) ∧ (cf i j).oneCell' = true ∧ Rep S ρ w (cf i j) v) →
      ∃ f : Nat → Value, (∀ k, k < xs.length * sz → w.cell? (ad.add k) = some (f k) ∧ (f k).oneCell' = true) ∧ ∀ (i : Nat) (e : List V) (j : Nat) (v : V), xs[i]? = some e → e[j]? = some v → Rep S ρ w (f (i * sz + j)) v := by
    intro hsz ad cf hcf
    refine ⟨fun k => cf (k / sz) (k % sz), fun k hk => ?_, fun i e j v hi hj => ?_⟩
    · have hs0 : 0 < sz := by rcases Nat.eq_zero_or_pos sz with h0 | h0; · subst h0; simp at hk
                              · exact h0
      have hi : k / sz < xs.length := Nat.div_lt_of_lt_mul (by rw [Nat.mul_comm]; exact hk)
      have hj : k % sz < (xs[k / sz]).length := by rw [hsz _ (List.getElem_mem hi)]; exact Nat.mod_lt _ hs0
      obtain ⟨e1, e2, _⟩ := hcf (k / sz) _ (k % sz) _ (List.getElem?_eq_getElem hi) (List.getElem?_eq_getElem hj)
      have hk' : k / sz * sz + k % sz = k := Nat.div_add_mod' k sz
      rw [hk'] at e1
      exact ⟨e1, e2⟩
    · have hj' : j < sz := by rw [← hsz e (List.mem_of_getElem? hi)]; exact (List.getElem?_eq_some_iff.1 hj).1
      have h1 : (i * sz + j) / sz = i := by rw [Nat.mul_comm, Nat.mul_add_div (by omega), Nat.div_eq_of_lt hj']; omega
      have h2 : (i * sz + j) % sz = j := by rw [Nat.mul_comm, Nat.mul_add_mod, Nat.mod_eq_of_lt hj']
      show Rep S ρ w (cf ((i * sz + j) / sz) ((i * sz + j) % sz)) v
      rw [h1, h2]
      exact (hcf i e j v hi hj).2.2
  cases x <;> simp only [elemsOf, reduceCtorEq, Option.some.injEq] at he
  case lst sz0 ys =>
    split at he
    · rename_i hss
      subst hss
      cases he
      cases hr with
      | @lst a n cap _ _ cf hn hc hb hs ha h1 h2 =>
        subst hn
        refine ⟨hs, a, cap, rfl, hc, fun h0 => ?_⟩
        obtain ⟨ad, ea, _⟩ := ha h0
        obtain ⟨f, hf1, hf2⟩ := fin hs ad cf (fun i e j v hi hj => by
          obtain ⟨e1, e2⟩ := h1 ad i e j v ea hi hj
          exact ⟨e1, e2, h2 i e j v hi hj⟩)
        exact ⟨ad, f, ea, hf1, hf2⟩
    · cases he
  case nils =>
    subst he
    cases hr
    exact ⟨by simp, none, 0, rfl, Nat.le_refl _, fun h0 => by simp at h0⟩
  case own id sz0 off len tot =>
    split at he
    · rename_i b hb
      split at he
      · rename_i hc
        obtain ⟨ht, hle, hss⟩ := hc
        subst hss
        cases he
        have hlen : ((b.drop off).take len).length = len := by simp; omega
        obtain ⟨l', hl', hB⟩ := H.blk id b hb
        cases hr with
        | @own a _ c _ _ _ _ l hρ hsl ht2 hl2 hc2 h1 h2 =>
          rw [hρ] at hl'; cases hl'
          have hsz : ∀ e ∈ (b.drop off).take len, e.length = sz0 := fun e he => by rw [hsl]; exact hB.sz _ (List.mem_of_mem_drop (List.mem_of_mem_take he))
          refine ⟨hsz, a, c, by rw [hlen], by omega, fun h0 => ?_⟩
          obtain ⟨g, hg, ea⟩ := h1 (by omega)
          obtain ⟨_, cs, ty, hgg, hcs, hmem⟩ := hB.mem g hg
          obtain ⟨f, hf1, hf2⟩ := fin hsz ⟨g, off * sz0, none⟩ (fun i j => (w.cell? ((⟨g, off * sz0, none⟩ : Addr).add (i * sz0 + j))).getD undef) (fun i e j v hi hj => by
            rw [List.getElem?_take] at hi
            split at hi
            · rw [List.getElem?_drop] at hi
              obtain ⟨cc, e1, e2, e3⟩ := hmem (off + i) e j v hi hj
              have e4 : w.cell? ((⟨g, off * sz0, none⟩ : Addr).add (i * sz0 + j)) = some cc := by
                rw [add_lit, cell_of_row w g _ cs ty (0, 0) hgg]
                rw [← hsl, Nat.add_mul, Nat.add_assoc] at e1
                exact e1
              rw [e4]; exact ⟨rfl, e2, e3⟩
            · cases hi)
          exact ⟨_, f, ea, hf1, hf2⟩
        | @ownS a _ c _ _ _ _ l hρ ht2 hc2 ha =>
          rw [hρ] at hl'; cases hl'
          have := hB.tot; omega
      · cases he
    · cases he

theorem fits_room (t ty e : TypeId) (i : TypeInfo) (ht : P.underlying t = some (.slice e)) (hi : P.info? e = some i) (e' : TypeId)
    (g sLen sCap : Nat) (cur : Array Value) (hg : w.heap[g]? = some (.cells cur e' (0, 0)))
    (a : Addr) (m c : Nat) (news : List Value) (hl : news.length = m * i.size) (hnews : ∀ j u, news[j]? = some u → w.cell? (a.add j) = some u) (h1 : ∀ u ∈ news, u.oneCell' = true)
    (hroom : sLen + m ≤ sCap) (hfit : sLen * i.size + news.length ≤ cur.size) :
    (Builtin.append_ #[t, t] ty #[.slice (some ⟨g, 0, none⟩) sLen sCap, .slice (some a) m c]).run P w =
      .ok (.slice (some ⟨g, 0, none⟩) (sLen + m) sCap) (w.setRow g (cur.toList.take (sLen * i.size) ++ news ++ cur.toList.drop (sLen * i.size + news.length)).toArray) := by
  have hf := run_firstCells_some (P := P) w i.size m a m c news hl hnews
  have hst := run_storeCells_at P g (sLen * i.size) e' news 0 cur w hg (by simpa using hfit) h1
  simp only [Nat.add_zero] at hst
  simp [Builtin.append_, run_underlying ht, sizeOf, typeInfo, hi, Builtin.lenOf, hroom, hf, Addr.add_lit, hst]
theorem append_none (t ty e : TypeId) (i : TypeInfo) (ht : P.underlying t = some (.slice e)) (hi : P.info? e = some i) (b a : Option Addr) (n cap c : Nat) (hn : n ≤ cap) :
    (Builtin.append_ #[t, t] ty #[.slice b n cap, .slice a 0 c]).run P w = .ok (.slice b n cap) w := by
  cases a <;> cases b <;> simp [Builtin.append_, run_underlying ht, sizeOf, typeInfo, hi, Builtin.lenOf, hn, Builtin.firstCells, loadCells, loadCellsFrom, storeCells]
end
end Go.Av
