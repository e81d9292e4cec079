/- An append of zeros (gc's append of a make) on the machine. No condition. -/
import Derived.Test.YtjfmbdigfnablaaGreatDoorAv6
import Derived.Lib.AppendZerosOnto
namespace Go.Av
open Go.RowKit
set_option linter.unusedVariables false
set_option linter.unusedSimpArgs false
section
variable {P : Program} {S : Nat → Prop} {ρ : Rho} {w : World} {h : Heap}
theorem fits_room_zeros (t tn ty e : TypeId) (i : TypeInfo) (z : Value) (kq kn : IntKind) (ht : P.underlying t = some (.slice e)) (htn : P.underlying tn = some (.int kn)) (hi : P.info? e = some i) (hz : i.zero = some z) (e' : TypeId)
    (g sLen sCap : Nat) (cur : Array Value) (hg : w.heap[g]? = some (.cells cur e' (0, 0)))
    (k : Nat) (h0 : 0 < k) (hs : 0 < i.size) (news : List Value) (hzc : (Builtin.zeroCells z.cells k).toList = news) (hl : news.length = k * i.size) (h1 : ∀ u ∈ news, u.oneCell' = true)
    (hroom : sLen + k ≤ sCap) (hfit : sLen * i.size + news.length ≤ cur.size) (h48 : k * i.bytes ≤ 281474976710656) (hk63 : (k : Int) ≤ 9223372036854775807) :
    (Builtin.append_ #[t, tn] ty #[.slice (some ⟨g, 0, none⟩) sLen sCap, .int kq k]).run P w =
      .ok (.slice (some ⟨g, 0, none⟩) (sLen + k) sCap) (w.setRow g (cur.toList.take (sLen * i.size) ++ news ++ cur.toList.drop (sLen * i.size + news.length)).toArray) := by
  have hk : k ≠ 0 := by omega
  have hw : IntKind.i64.wrap (k : Int) = k := by rw [IntKind.wrap_i64]; omega
  have hneg : ¬ ((k : Int) < 0) := by omega
  have h48i : ¬ (281474976710656 < (k : Int) * (i.bytes : Int)) := by
    rw [← Int.natCast_mul]
    omega
  have hns : ¬ (k * i.size = 0) := Nat.mul_ne_zero hk (by omega)
  have hst := run_storeCells_at P g (sLen * i.size) e' news 0 cur w hg (by simpa using hfit) h1
  simp only [Nat.add_zero] at hst
  subst hzc
  simp [Builtin.append_, run_underlying ht, run_underlying htn, sizeOf, typeInfo, zeroValue, hi, hz, asInt, asIntOf, hw, hneg, h48i, hns, hroom, Addr.add_lit, hst]
theorem append_own_zeros (H : HInv S ρ h w) {t tn ty e : TypeId} {i : TypeInfo} {zs : List V} {sz bytes : Nat} (kq kn : IntKind) (ht : P.underlying t = some (.slice e)) (htn : P.underlying tn = some (.int kn)) (hi : P.info? e = some i) (hz : zeroT P e = some zs) (hzl : zs.length = sz) (hs0 : 0 < sz) (hsz : i.size = sz) (hby : i.bytes = bytes)
    {cs : Value} {id : Nat} {b : Blk} (xs : List (List V)) {k0 : Nat} (h0 : 0 < xs.length) (hxe : xs = List.replicate k0 zs) (hs : Rep S ρ w cs (.own id sz 0 b.length b.length)) (hbk : h[id]? = some b)
    (hb : (b.length + xs.length) * bytes ≤ 140737488355328) (hm : b.length + xs.length ≤ maxLen) :
    ∃ c w', (Builtin.append_ #[t, tn] ty #[cs, .int kq (xs.length : Int)]).run P w = .ok c w' ∧ Made S ρ w c w' (.own id sz 0 (b.length + xs.length) (b.length + xs.length)) (h.set id (b ++ xs)) := by
  have hxs : ∀ e ∈ xs, e.length = sz := fun e he => by rw [hxe] at he; rw [(List.mem_replicate.1 he).2, hzl]
  obtain ⟨l, hl, hB⟩ := H.blk id b hbk
  cases hs with
  | @ownS _ _ _ _ _ _ _ l' hρ ht2 hc2 ha => rw [hl] at hρ; cases hρ; have := hB.tot; omega
  | @own a0 _ c0 _ _ _ _ l' hρ hslz ht2 hl2 hc2 h1 h2 =>
  rw [hl] at hρ; cases hρ
  have hbs : ∀ e ∈ b, e.length = sz := fun e he => by rw [hslz]; exact hB.sz e he
  obtain ⟨hcap, hadr⟩ := h2 rfl rfl
  subst hcap
  have hid : id < h.length := (List.getElem?_eq_some_iff.1 hbk).1
  obtain ⟨i', z, hi', hzz, hzs, _⟩ := zeroT_spec hz S ρ w
  rw [hi] at hi'; cases hi'
  obtain ⟨_, z', hi', hzz', hzs, hzr⟩ := zeroT_spec hz S ρ w
  rw [hi] at hi'; cases hi'
  rw [hzz] at hzz'; cases hzz'
  refine Exists.elim (show ∃ f : Nat → Value, f = fun q => z.cells[q % sz]! from ⟨_, rfl⟩) fun f hf => ?_
  have hzc : (Builtin.zeroCells z.cells xs.length).toList = (List.range (xs.length * sz)).map f := by
    rw [hf, Builtin.zeroCells]; simp [hzs, hzl]
  have hfz : ∀ (q : Nat) (v : V), zs[q % sz]? = some v → (f q).oneCell' = true ∧ Rep S ρ w (f q) v := fun q v hv => by
    have hq : q % sz < z.cells.size := by rw [hzs, hzl]; exact Nat.mod_lt _ hs0
    have e1 : z.cells[q % sz]? = some (f q) := by rw [hf]; simp [hq]
    exact hzr _ _ _ e1 hv
  have hf2 : ∀ q, q < xs.length * sz → (f q).oneCell' = true := fun q _ => by
    have hq : q % sz < zs.length := by rw [hzl]; exact Nat.mod_lt _ hs0
    exact (hfz q _ (List.getElem?_eq_getElem hq)).1
  have hfr : ∀ (k : Nat) (e : List V) (j : Nat) (v : V), xs[k]? = some e → e[j]? = some v → Rep S ρ w (f (k * sz + j)) v := fun k e j v hk hj => by
    have he : e = zs := by rw [hxe] at hk; exact (List.mem_replicate.1 (List.mem_of_getElem? hk)).2
    subst he
    have hj' : j < sz := by rw [← hzl]; exact (List.getElem?_eq_some_iff.1 hj).1
    have hmod : (k * sz + j) % sz = j := by rw [Nat.add_comm, Nat.add_mul_mod_self_right, Nat.mod_eq_of_lt hj']
    exact (hfz _ _ (by rw [hmod]; exact hj)).2
  have n1 : ((List.range (xs.length * sz)).map f).length = xs.length * sz := by simp
  have n3 : ∀ u ∈ (List.range (xs.length * sz)).map f, u.oneCell' = true := fun u hu => by
    obtain ⟨q, hq, rfl⟩ := List.mem_map.1 hu
    exact hf2 q (List.mem_range.1 hq)
  have h48 : xs.length * bytes ≤ 281474976710656 := by
    have : xs.length * bytes ≤ (b.length + xs.length) * bytes := Nat.mul_le_mul_right _ (by omega)
    omega
  have hm' : ((b.length + xs.length : Nat) : Int) ≤ 9223372036854775807 := by simp only [maxLen] at hm; omega
  have hnew : ∀ (k : Nat) (e : List V) (j : Nat) (v : V), xs[k]? = some e → e[j]? = some v → ∃ c, ((List.range (xs.length * sz)).map f)[k * sz + j]? = some c ∧ c.oneCell' = true ∧ Rep S ρ w c v := fun k e j v hk hj => by
    have hj' : j < sz := by rw [← hxs e (List.mem_of_getElem? hk)]; exact (List.getElem?_eq_some_iff.1 hj).1
    have hlt := in_row (List.getElem?_eq_some_iff.1 hk).1 hj'
    exact ⟨f (k * sz + j), by simp [hlt], hf2 _ hlt, hfr k e j v hk hj⟩
  by_cases hroom : b.length + xs.length ≤ l.cap
  · have hcp : 0 < l.cap := by omega
    cases hblk : l.blk with
    | none => have := hB.nomem hblk; omega
    | some g =>
    have ea := hadr g hblk
    subst ea
    obtain ⟨hnS, cur, ty', hg, hcs, hmem⟩ := hB.mem g hblk
    have hbne : b ≠ [] := fun e0 => by have := hB.emp e0; omega
    have h0' : 0 < b.length := List.length_pos_iff.2 hbne
    subst hslz
    have hrow : b.length * l.sz + xs.length * l.sz ≤ l.cap * l.sz := by rw [← Nat.add_mul]; exact Nat.mul_le_mul_right _ hroom
    have hfit : b.length * i.size + ((List.range (xs.length * l.sz)).map f).length ≤ cur.size := by rw [n1, hsz, hcs]; exact hrow
    have hrun := fits_room_zeros (P := P) (w := w) t tn ty e i z kq kn ht htn hi hzz ty' g b.length l.cap cur hg xs.length h0 (by rw [hsz]; exact hs0) _ hzc (by rw [n1, hsz]) n3 hroom hfit (by rw [hby]; exact h48) (by omega)
    rw [hsz] at hrun
    have hfit2 : b.length * l.sz + ((List.range (xs.length * l.sz)).map f).length ≤ cur.toList.length := by rw [Array.length_toList]; rw [hsz] at hfit; exact hfit
    have hat := setRow_heap w g cur (cur.toList.take (b.length * l.sz) ++ (List.range (xs.length * l.sz)).map f ++ cur.toList.drop (b.length * l.sz + ((List.range (xs.length * l.sz)).map f).length)).toArray ty' (0, 0) hg
    have hall : ∀ k, k ≠ g → (w.setRow g (cur.toList.take (b.length * l.sz) ++ (List.range (xs.length * l.sz)).map f ++ cur.toList.drop (b.length * l.sz + ((List.range (xs.length * l.sz)).map f).length)).toArray).heap[k]? = w.heap[k]? := fun k hk => setRow_other w g k _ (fun e => hk (by first | exact e | exact e.symm))
    have hszw : (w.setRow g (cur.toList.take (b.length * l.sz) ++ (List.range (xs.length * l.sz)).map f ++ cur.toList.drop (b.length * l.sz + ((List.range (xs.length * l.sz)).map f).length)).toArray).heap.size = w.heap.size := by simp [World.setRow]
    have hos : (w.setRow g (cur.toList.take (b.length * l.sz) ++ (List.range (xs.length * l.sz)).map f ++ cur.toList.drop (b.length * l.sz + ((List.range (xs.length * l.sz)).map f).length)).toArray).os = w.os ∧ (w.setRow g (cur.toList.take (b.length * l.sz) ++ (List.range (xs.length * l.sz)).map f ++ cur.toList.drop (b.length * l.sz + ((List.range (xs.length * l.sz)).map f).length)).toArray).tape = w.tape ∧ (w.setRow g (cur.toList.take (b.length * l.sz) ++ (List.range (xs.length * l.sz)).map f ++ cur.toList.drop (b.length * l.sz + ((List.range (xs.length * l.sz)).map f).length)).toArray).output = w.output := ⟨rfl, rfl, rfl⟩
    have hseg := seg_get cur.toList ((List.range (xs.length * l.sz)).map f) (b.length * l.sz) hfit2
    generalize w.setRow g (cur.toList.take (b.length * l.sz) ++ (List.range (xs.length * l.sz)).map f ++ cur.toList.drop (b.length * l.sz + ((List.range (xs.length * l.sz)).map f).length)).toArray = w' at hrun hat hall hszw hos
    have hlen : (cur.toList.take (b.length * l.sz) ++ (List.range (xs.length * l.sz)).map f ++ cur.toList.drop (b.length * l.sz + ((List.range (xs.length * l.sz)).map f).length)).length = cur.size := by
      simp only [List.length_append, List.length_take, List.length_drop, Array.length_toList] at hfit2 ⊢; omega
    generalize cur.toList.take (b.length * l.sz) ++ (List.range (xs.length * l.sz)).map f ++ cur.toList.drop (b.length * l.sz + ((List.range (xs.length * l.sz)).map f).length) = row at hat hseg hlen
    have hle : Le ρ (upd ρ id ⟨some g, l.sz, b.length + xs.length, l.cap⟩) := Le.upd_old hl (.inr (by have := hB.tot; show l.tot < b.length + xs.length; omega))
    have hwS : ∀ k, k < w.heap.size → (∀ l0, ρ id = some l0 → l0.blk ≠ some k) → w'.heap[k]? = w.heap[k]? := fun k _ hk => hall k (fun e => hk l hl (by rw [hblk, e]))
    have hSw : ∀ k, S k → w'.heap[k]? = w.heap[k]? := fun k hk => hall k (fun e => hnS (e ▸ hk))
    have hgg : ∀ g', (⟨some g, l.sz, b.length + xs.length, l.cap⟩ : Loc).blk = some g' → w.heap.size ≤ g' ∨ ∃ l0, ρ id = some l0 ∧ l0.blk = some g' := fun g' e => by cases e; exact .inr ⟨l, hl, hblk⟩
    refine ⟨_, w', hrun, upd ρ id ⟨some g, l.sz, b.length + xs.length, l.cap⟩, ?_, ?_, (Fr.refl w S ρ).put H id _ (by omega) hos.1 hos.2.1 hos.2.2 hle hwS hgg⟩
    · refine H.put id ⟨some g, l.sz, b.length + xs.length, l.cap⟩ (b ++ xs) (h.set id (b ++ xs)) (by omega) hle hwS ⟨by simp, by simpa using hroom, hB.capm, fun e' he' => ?_, fun g' eg => ?_, (fun e => by cases e), (fun e => by simp at e; exact absurd e.1 hbne)⟩ hgg (fun k hk => by rw [List.getElem?_set_ne (Ne.symm hk)]) (by rw [List.getElem?_set_self hid])
      · rcases List.mem_append.1 he' with h3 | h3
        · exact hbs e' h3
        · exact hxs e' h3
      · cases eg
        refine ⟨hnS, row.toArray, ty', hat, by simp [hlen, hcs], fun k e' q v hk hq => ?_⟩
        show ∃ c, row.toArray[k * l.sz + q]? = some c ∧ c.oneCell' = true ∧ Rep S (upd ρ id ⟨some g, l.sz, b.length + xs.length, l.cap⟩) w' c v
        rw [List.getElem?_toArray, hseg]
        have hr : ∀ {c v}, Rep S ρ w c v → Rep S (upd ρ id ⟨some g, l.sz, b.length + xs.length, l.cap⟩) w' c v := fun r => r.mono hSw (fun _ h => h) hle
        rcases Nat.lt_or_ge k b.length with h3 | h3
        · rw [List.getElem?_append_left h3] at hk
          have hq' : q < l.sz := by rw [← hbs e' (List.mem_of_getElem? hk)]; exact (List.getElem?_eq_some_iff.1 hq).1
          have hlt := in_row h3 hq'
          rw [if_neg (by have := hlt; omega)]
          obtain ⟨cc, e1, e2, e3⟩ := hmem k e' q v hk hq
          exact ⟨cc, by rw [Array.getElem?_toList]; exact e1, e2, hr e3⟩
        · rw [List.getElem?_append_right h3] at hk
          have hk' : k - b.length < xs.length := (List.getElem?_eq_some_iff.1 hk).1
          have hq' : q < l.sz := by rw [← hxs e' (List.mem_of_getElem? hk)]; exact (List.getElem?_eq_some_iff.1 hq).1
          have hlt := in_row hk' hq'
          have hsp : k * l.sz + q = b.length * l.sz + ((k - b.length) * l.sz + q) := by rw [← Nat.add_assoc, ← Nat.add_mul]; congr 2; omega
          obtain ⟨cc, e1, e2, e3⟩ := hnew _ e' q v hk hq
          rw [if_pos (by rw [n1]; omega), hsp, Nat.add_sub_cancel_left]
          exact ⟨cc, e1, e2, hr e3⟩
    · exact .own _ (upd_same _ _ _) rfl rfl (by simp) hroom (fun _ => ⟨g, rfl, by simp⟩) (fun _ _ => ⟨rfl, fun g' e => by cases e; rfl⟩)
  · have hD := drew_inv H
    have hge := grownCap_ge w (b.length + xs.length) l.cap e
    have hcm := grownCap_le_maxLen w (b.length + xs.length) l.cap e hm
    -- the elder cells
    have hold : ∃ ob : Option Addr, a0 = ob ∧ ∃ fo : Nat → Value, (∀ k, k < b.length * sz → ∃ ad0, ob = some ad0 ∧ w.cell? (ad0.add k) = some (fo k)) ∧
        ∀ (k : Nat) (e : List V) (j : Nat) (v : V), b[k]? = some e → e[j]? = some v → (fo (k * sz + j)).oneCell' = true ∧ Rep S ρ w (fo (k * sz + j)) v := by
      refine ⟨a0, rfl, ?_⟩
      rcases Nat.eq_zero_or_pos b.length with hb0 | hb0
      · have : b = [] := List.eq_nil_of_length_eq_zero hb0
        subst this
        exact ⟨fun _ => undef, fun k hk => by simp at hk, fun k e j v hk => by simp at hk⟩
      · have hr : Rep S ρ w (.slice a0 b.length l.cap) (.own id sz 0 b.length b.length) := .own l hl hslz ht2 hl2 hc2 h1 (fun _ _ => ⟨rfl, hadr⟩)
        obtain ⟨_, a1, c1, e1, _, hc1⟩ := elems_cells (xs := b) (sz := sz) H hr (by simp [elemsOf, hbk])
        cases e1
        obtain ⟨ad0, fo, ea, hf1, hf2⟩ := hc1 hb0
        refine ⟨fo, fun k hk => ⟨ad0, ea, (hf1 k hk).1⟩, fun k e j v hk hj => ⟨?_, hf2 k e j v hk hj⟩⟩
        have hj' : j < sz := by rw [← hbs e (List.mem_of_getElem? hk)]; exact (List.getElem?_eq_some_iff.1 hj).1
        exact (hf1 _ (in_row (List.getElem?_eq_some_iff.1 hk).1 hj')).2
    obtain ⟨_, rfl, fo, ho1, ho2⟩ := hold
    have o1 : ((List.range (b.length * sz)).map fo).length = b.length * sz := by simp
    have holdc : ∀ (k : Nat) (e : List V) (j : Nat) (v : V), b[k]? = some e → e[j]? = some v → ∃ c, ((List.range (b.length * sz)).map fo)[k * sz + j]? = some c ∧ c.oneCell' = true ∧ Rep S ρ w c v := fun k e j v hk hj => by
      have hj' : j < sz := by rw [← hbs e (List.mem_of_getElem? hk)]; exact (List.getElem?_eq_some_iff.1 hj).1
      have hlt := in_row (List.getElem?_eq_some_iff.1 hk).1 hj'
      obtain ⟨e1, e2⟩ := ho2 k e j v hk hj
      exact ⟨fo (k * sz + j), by simp [hlt], e1, e2⟩
    have hrun : (Builtin.append_ #[t, tn] ty #[.slice a0 b.length l.cap, .int kq (xs.length : Int)]).run P w =
        .ok (.slice (some ⟨w.heap.size, 0, none⟩) (b.length + xs.length) (grownCap w (b.length + xs.length) l.cap e))
          (w.drew.alloc (.cells (((List.range (b.length * sz)).map fo).toArray ++ ((List.range (xs.length * sz)).map f).toArray ++ Builtin.zeroCells z.cells (grownCap w (b.length + xs.length) l.cap e - (b.length + xs.length))) e)) := by
      have hza : ((List.range (xs.length * sz)).map f).toArray = Builtin.zeroCells z.cells xs.length := by rw [← hzc]
      rw [hza]
      subst hsz
      refine Go.Lib.run_append_grow_zeros w t tn ty e i z kq kn ht htn hi hzz a0 b.length l.cap _ ?_ xs.length h0 hs0 (by omega) hm' (by rw [hby]; exact h48) (growslice_fits (by omega) (by rw [hby]; omega))
      cases a0 with
      | some ad0 =>
        refine run_firstCells_some (P := P) w.drew i.size b.length ad0 b.length l.cap _ o1 fun j v hv => ?_
        have hj : j < b.length * i.size := by have := (List.getElem?_eq_some_iff.1 hv).1; simpa using this
        obtain ⟨ad1, e1, e2⟩ := ho1 j hj
        cases e1
        simp [hj] at hv
        rw [← hv]; exact e2
      | none =>
        have hb0 : b.length = 0 := by
          rcases Nat.eq_zero_or_pos b.length with h3 | h3
          · exact h3
          · obtain ⟨g, _, e2⟩ := h1 h3; cases e2
        rw [hb0]
        simp [Builtin.firstCells]
    have hcell := grown_cells (b := b) (xs := xs) (grownCap w (b.length + xs.length) l.cap e - (b.length + xs.length)) _ _ z.cells o1 n1 hbs hxs holdc hnew
    obtain ⟨g1, g2⟩ := moved_block hD id (grownCap w (b.length + xs.length) l.cap e) sz (b ++ xs) (h.set id (b ++ xs)) (((List.range (b.length * sz)).map fo).toArray ++ ((List.range (xs.length * sz)).map f).toArray ++ Builtin.zeroCells z.cells (grownCap w (b.length + xs.length) l.cap e - (b.length + xs.length))) e
      (Le.upd_old hl (.inr (by have := hB.tot; show l.tot < (b ++ xs).length; rw [List.length_append]; omega))) (by rw [List.length_append]; exact hge) (fun e0 => by simp at e0; rw [e0.2] at h0; simp at h0) hcm
      (by rw [Array.size_append, Array.size_append, size_zeroCells, hzs, hzl, List.size_toArray, List.size_toArray, n1, o1, ← Nat.add_mul, ← Nat.add_mul]; congr 1; omega)
      (fun e' he' => by
        rcases List.mem_append.1 he' with h3 | h3
        · exact hbs e' h3
        · exact hxs e' h3) (fun k e' j v hk hj => by
        obtain ⟨cc, e1, e2, e3⟩ := hcell k e' j v hk hj
        exact ⟨cc, e1, e2, e3.drew_⟩) (fun k hk => by rw [List.getElem?_set_ne (Ne.symm hk)]) (by rw [List.getElem?_set_self hid])
    refine ⟨_, _, hrun, _, g1, ?_, (drew_fr w S ρ).trans g2⟩
    exact .own _ (upd_same _ _ _) rfl (by simp) (by simp) hge (fun _ => ⟨_, rfl, by simp⟩) (fun _ _ => ⟨rfl, fun g e => by cases e; rfl⟩)
theorem append_new_zeros (H : HInv S ρ h w) {t tn ty e : TypeId} {i : TypeInfo} {zs : List V} {sz bytes : Nat} (kq kn : IntKind) (ht : P.underlying t = some (.slice e)) (htn : P.underlying tn = some (.int kn)) (hi : P.info? e = some i) (hz : zeroT P e = some zs) (hzl : zs.length = sz) (hs0 : 0 < sz) (hsz : i.size = sz) (hby : i.bytes = bytes)
    {cs : Value} (xs : List (List V)) {k0 : Nat} (h0 : 0 < xs.length) (hxe : xs = List.replicate k0 zs) (hs : Rep S ρ w cs .nils) (hb : xs.length * bytes ≤ 140737488355328) (hm : xs.length ≤ maxLen) :
    ∃ c w', (Builtin.append_ #[t, tn] ty #[cs, .int kq (xs.length : Int)]).run P w = .ok c w' ∧ Made S ρ w c w' (.own h.length sz 0 xs.length xs.length) (h ++ [xs]) := by
  have hxs : ∀ e ∈ xs, e.length = sz := fun e he => by rw [hxe] at he; rw [(List.mem_replicate.1 he).2, hzl]
  cases hs
  obtain ⟨i', z, hi', hzz, hzs, _⟩ := zeroT_spec hz S ρ w
  rw [hi] at hi'; cases hi'
  obtain ⟨_, z', hi', hzz', hzs, hzr⟩ := zeroT_spec hz S ρ w
  rw [hi] at hi'; cases hi'
  rw [hzz] at hzz'; cases hzz'
  refine Exists.elim (show ∃ f : Nat → Value, f = fun q => z.cells[q % sz]! from ⟨_, rfl⟩) fun f hf => ?_
  have hzc : (Builtin.zeroCells z.cells xs.length).toList = (List.range (xs.length * sz)).map f := by
    rw [hf, Builtin.zeroCells]; simp [hzs, hzl]
  have hfz : ∀ (q : Nat) (v : V), zs[q % sz]? = some v → (f q).oneCell' = true ∧ Rep S ρ w (f q) v := fun q v hv => by
    have hq : q % sz < z.cells.size := by rw [hzs, hzl]; exact Nat.mod_lt _ hs0
    have e1 : z.cells[q % sz]? = some (f q) := by rw [hf]; simp [hq]
    exact hzr _ _ _ e1 hv
  have hf2 : ∀ q, q < xs.length * sz → (f q).oneCell' = true := fun q _ => by
    have hq : q % sz < zs.length := by rw [hzl]; exact Nat.mod_lt _ hs0
    exact (hfz q _ (List.getElem?_eq_getElem hq)).1
  have hfr : ∀ (k : Nat) (e : List V) (j : Nat) (v : V), xs[k]? = some e → e[j]? = some v → Rep S ρ w (f (k * sz + j)) v := fun k e j v hk hj => by
    have he : e = zs := by rw [hxe] at hk; exact (List.mem_replicate.1 (List.mem_of_getElem? hk)).2
    subst he
    have hj' : j < sz := by rw [← hzl]; exact (List.getElem?_eq_some_iff.1 hj).1
    have hmod : (k * sz + j) % sz = j := by rw [Nat.add_comm, Nat.add_mul_mod_self_right, Nat.mod_eq_of_lt hj']
    exact (hfz _ _ (by rw [hmod]; exact hj)).2
  have n1 : ((List.range (xs.length * sz)).map f).length = xs.length * sz := by simp
  have n3 : ∀ u ∈ (List.range (xs.length * sz)).map f, u.oneCell' = true := fun u hu => by
    obtain ⟨q, hq, rfl⟩ := List.mem_map.1 hu
    exact hf2 q (List.mem_range.1 hq)
  have hm' : (xs.length : Int) ≤ 9223372036854775807 := by simp only [maxLen] at hm; omega
  subst hsz
  have hza : ((List.range (xs.length * i.size)).map f).toArray = Builtin.zeroCells z.cells xs.length := by rw [← hzc]
  have hrun := Go.Lib.run_append_nil_zeros (P := P) w t tn ty e i z kq kn ht htn hi hzz xs.length h0 hs0 hm' (by subst hby; omega)
  rw [← hza] at hrun
  have hge := grownCap_ge w xs.length 0 e
  have hcm := grownCap_le_maxLen w xs.length 0 e hm
  have hnew : ∀ (k : Nat) (e : List V) (j : Nat) (v : V), xs[k]? = some e → e[j]? = some v → ∃ c, ((List.range (xs.length * i.size)).map f)[k * i.size + j]? = some c ∧ c.oneCell' = true ∧ Rep S ρ w c v := fun k e j v hk hj => by
    have hj' : j < i.size := by rw [← hxs e (List.mem_of_getElem? hk)]; exact (List.getElem?_eq_some_iff.1 hj).1
    have hlt := in_row (List.getElem?_eq_some_iff.1 hk).1 hj'
    exact ⟨f (k * i.size + j), by simp [hlt], hf2 _ hlt, hfr k e j v hk hj⟩
  have hcell := grown_cells (b := []) (xs := xs) (grownCap w xs.length 0 e - xs.length) [] _ z.cells (by simp) n1 (by simp) hxs (fun k e j v hk => by simp at hk) hnew
  simp only [List.nil_append, Array.empty_append] at hcell
  have HD := drew_inv H
  obtain ⟨g1, g2⟩ := moved_block HD h.length (grownCap w xs.length 0 e) i.size xs (h ++ [xs]) (((List.range (xs.length * i.size)).map f).toArray ++ Builtin.zeroCells z.cells (grownCap w xs.length 0 e - xs.length)) e
    (Le.upd_new (H.none_ _ (Nat.le_refl _))) hge (List.length_pos_iff.1 h0) hcm (by rw [Array.size_append, size_zeroCells, hzs, hzl, List.size_toArray, n1, ← Nat.add_mul]; congr 1; omega) hxs (fun k e j v hk hj => by
      obtain ⟨c, e1, e2, e3⟩ := hcell k e j v hk hj
      exact ⟨c, e1, e2, e3.drew_⟩) (fun k hk => by
        rcases Nat.lt_or_ge k h.length with h1 | h1
        · rw [List.getElem?_append_left h1]
        · rw [List.getElem?_eq_none (by simp; omega), List.getElem?_eq_none h1]) (by simp)
  refine ⟨_, _, hrun, _, g1, ?_, (drew_fr w S ρ).trans g2⟩
  exact .own _ (upd_same _ _ _) rfl rfl (by simp) hge (fun _ => ⟨_, rfl, by simp⟩) (fun _ _ => ⟨rfl, fun g e => by cases e; rfl⟩)
end
end Go.Av
