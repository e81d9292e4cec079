/- What the machine does at literals, make, clear and struct values, as the abstract values have it. No condition. -/
import Derived.Test.YtjfmbdigfnablaaGreatDoorAv6
namespace Go.Av
open Go.RowKit
set_option linter.unusedVariables false
set_option linter.unusedSimpArgs false

theorem fold_set (off : Nat) : ∀ (l : List Value) (n : Nat) (cells : Array Value),
    ((l.zipIdx n).foldl (fun cs p => cs.setIfInBounds (off + p.2) p.1) cells).size = cells.size ∧
    ∀ k, ((l.zipIdx n).foldl (fun cs p => cs.setIfInBounds (off + p.2) p.1) cells)[k]? = if off + n ≤ k ∧ k < off + n + l.length ∧ k < cells.size then l[k - (off + n)]? else cells[k]?
  | [], n, cells => ⟨rfl, fun k => by rw [if_neg (by simp; omega)]; rfl⟩
  | x :: l, n, cells => by
    obtain ⟨h1, h2⟩ := fold_set off l (n + 1) (cells.setIfInBounds (off + n) x)
    simp only [List.zipIdx_cons, List.foldl_cons]
    refine ⟨by rw [h1]; simp, fun k => ?_⟩
    rw [h2]
    simp only [Array.size_setIfInBounds, List.length_cons]
    by_cases e : k = off + n
    · subst e
      rw [if_neg (by omega)]
      by_cases hk : off + n < cells.size
      · rw [if_pos (by omega)]; simp [hk]
      · rw [if_neg (by omega), Array.getElem?_eq_none (by simp; omega), Array.getElem?_eq_none (by omega)]
    · by_cases hc : off + (n + 1) ≤ k ∧ k < off + (n + 1) + l.length ∧ k < cells.size
      · rw [if_pos hc, if_pos (by omega)]
        rw [show k - (off + n) = (k - (off + (n + 1))) + 1 from by omega, List.getElem?_cons_succ]
      · rw [if_neg hc, if_neg (by omega), Array.getElem?_setIfInBounds_ne (by omega)]

section
variable {S : Nat → Prop} {ρ : Rho} {h : Heap} {w : World} {P : Program}

theorem fill_struct (place : Nat → Option (Nat × Nat)) (ev : Opd → V) : ∀ (ps : List (Nat × Value)) (qs : List (Nat × Nat × Opd)) (cells : Array Value) (cs r : List V), ps.length = qs.length →
    (∀ (k : Nat) (p : Nat × Value) (q : Nat × Nat × Opd), ps[k]? = some p → qs[k]? = some q → place p.1 = some (q.1, q.2.1) ∧ Rep S ρ w p.2 (ev q.2.2)) →
    cells.size = cs.length → (∀ (j : Nat) (c : Value) (v : V), cells[j]? = some c → cs[j]? = some v → Rep S ρ w c v) → fillV ev cs qs = some r →
    ∃ out, Instr.fill place cells ps = some out ∧ out.size = r.length ∧ ∀ (j : Nat) (c : Value) (v : V), out[j]? = some c → r[j]? = some v → Rep S ρ w c v
  | [], [], cells, cs, r, _, _, hs, hc, hr => by
    simp [fillV] at hr; subst hr
    exact ⟨cells, rfl, hs, hc⟩
  | [], _ :: _, _, _, _, hl, _, _, _, _ => by simp at hl
  | _ :: _, [], _, _, _, hl, _, _, _, _ => by simp at hl
  | (i, v) :: ps, (off, sz, x) :: qs, cells, cs, r, hl, hp, hs, hc, hr => by
    simp only [fillV] at hr
    split at hr
    · rename_i hcond
      obtain ⟨c1, c2, c3⟩ := hcond
      obtain ⟨p1, p2⟩ := hp 0 _ _ rfl rfl
      obtain ⟨v1, v2⟩ := p2.cells c2
      simp only at p1
      have hvs : v.cells.size = sz := by rw [v1, c1]
      obtain ⟨f1, f2⟩ := fold_set off v.cells.toList 0 cells
      have hfold : v.cells.zipIdx.foldl (fun cs (c, j) => cs.setIfInBounds (off + j) c) cells = (v.cells.toList.zipIdx 0).foldl (fun cs p => cs.setIfInBounds (off + p.2) p.1) cells := by
        rw [← Array.foldl_toList]; simp
      have hfit : off + (ev x).cells.length ≤ cs.length := by omega
      obtain ⟨out, o1, o2, o3⟩ := fill_struct place ev ps qs _ (splice cs off (ev x).cells) r (by simpa using hl) (fun k p q hk hq => hp (k + 1) p q (by simpa using hk) (by simpa using hq))
        (by rw [f1, splice_length _ _ _ hfit, hs]) (fun j c y hj hy => by
          rw [f2] at hj
          rw [splice_get _ _ _ hfit] at hy
          have hlen : v.cells.toList.length = (ev x).cells.length := by simpa using v1
          by_cases hcc : off ≤ j ∧ j < off + (ev x).cells.length
          · rw [if_pos hcc] at hy
            rw [if_pos (by omega)] at hj
            exact (v2 (j - off) c y (by simpa using hj) hy).2
          · rw [if_neg hcc] at hy
            rw [if_neg (by omega)] at hj
            exact hc j c y hj hy) hr
      refine ⟨out, ?_, o2, o3⟩
      simp only [Instr.fill, p1]
      rw [if_neg (by simp [hvs]; omega), hfold]
      exact o1
    · cases hr

theorem fill_rows (ev : Opd → V) (sz : Nat) : ∀ (ps : List (Nat × Value)) (qs : List (Nat × Opd)) (cells : Array Value) (es r : List (List V)), ps.length = qs.length →
    (∀ (k : Nat) (p : Nat × Value) (q : Nat × Opd), ps[k]? = some p → qs[k]? = some q → p.1 = q.1 ∧ Rep S ρ w p.2 (ev q.2)) →
    cells.size = es.length * sz → (∀ e ∈ es, e.length = sz) → (∀ (i : Nat) (e : List V) (j : Nat) (v : V), es[i]? = some e → e[j]? = some v → ∃ c, cells[i * sz + j]? = some c ∧ c.oneCell' = true ∧ Rep S ρ w c v) → fillE ev sz es qs = some r →
    ∃ out, Instr.fill (fun i => some (i * sz, sz)) cells ps = some out ∧ out.size = r.length * sz ∧ r.length = es.length ∧ (∀ e ∈ r, e.length = sz) ∧ ∀ (i : Nat) (e : List V) (j : Nat) (v : V), r[i]? = some e → e[j]? = some v → ∃ c, out[i * sz + j]? = some c ∧ c.oneCell' = true ∧ Rep S ρ w c v
  | [], [], cells, es, r, _, _, hs, he, hc, hr => by
    simp [fillE] at hr; subst hr
    exact ⟨cells, rfl, hs, rfl, he, hc⟩
  | [], _ :: _, _, _, _, hl, _, _, _, _, _ => by simp at hl
  | _ :: _, [], _, _, _, hl, _, _, _, _, _ => by simp at hl
  | (i, v) :: ps, (i', x) :: qs, cells, es, r, hl, hp, hs, he, hc, hr => by
    simp only [fillE] at hr
    split at hr
    · rename_i hcond
      obtain ⟨c1, c2, c3⟩ := hcond
      obtain ⟨p1, p2⟩ := hp 0 _ _ rfl rfl
      simp only at p1
      subst p1
      obtain ⟨v1, v2⟩ := p2.cells c2
      have hvs : v.cells.size = sz := by rw [v1, c1]
      obtain ⟨f1, f2⟩ := fold_set (i * sz) v.cells.toList 0 cells
      have hfold : v.cells.zipIdx.foldl (fun cs (c, j) => cs.setIfInBounds (i * sz + j) c) cells = (v.cells.toList.zipIdx 0).foldl (fun cs p => cs.setIfInBounds (i * sz + p.2) p.1) cells := by
        rw [← Array.foldl_toList]; simp
      have hrow : i * sz + sz ≤ cells.size := by
        have : (i + 1) * sz ≤ es.length * sz := Nat.mul_le_mul_right _ c3
        rw [Nat.add_mul] at this; omega
      have hlen : v.cells.toList.length = sz := by simpa using hvs
      obtain ⟨out, o1, o2, o3, o4, o5⟩ := fill_rows ev sz ps qs _ (es.set i (ev x).cells) r (by simpa using hl) (fun k p q hk hq => hp (k + 1) p q (by simpa using hk) (by simpa using hq))
        (by rw [f1, List.length_set, hs]) (fun e' he' => by
          rcases List.mem_or_eq_of_mem_set he' with h2 | h2
          · exact he e' h2
          · rw [h2, c1]) (fun k e' j y hk hj => by
          rw [f2]
          by_cases hki : k = i
          · subst hki
            rw [List.getElem?_set_self c3] at hk
            cases hk
            have hj' : j < (ev x).cells.length := (List.getElem?_eq_some_iff.1 hj).1
            rw [if_pos (by omega)]
            have hk2 : j < v.cells.size := by omega
            have hgx : v.cells[j]? = some (v.cells[j]) := Array.getElem?_eq_getElem hk2
            obtain ⟨d1, d2⟩ := v2 j _ _ hgx hj
            refine ⟨_, ?_, d1, d2⟩
            rw [show k * sz + j - (k * sz + 0) = j from by omega, Array.getElem?_toList]; exact hgx
          · rw [List.getElem?_set_ne (Ne.symm hki)] at hk
            have hj' : j < sz := by rw [← he e' (List.mem_of_getElem? hk)]; exact (List.getElem?_eq_some_iff.1 hj).1
            rw [if_neg (fun hcc => by
              have h3 : k * sz + j = i * sz + (k * sz + j - i * sz) := by omega
              have h4 : k * sz + j - i * sz < sz := by omega
              exact hki (row_inj hj' h4 h3).1)]
            exact hc k e' j y hk hj) hr
      refine ⟨out, ?_, o2, by rw [o3, List.length_set], o4, o5⟩
      simp only [Instr.fill]
      rw [if_neg (by simp [hvs]; omega), hfold]
      exact o1
    · cases hr

theorem zero_rows {e : TypeId} {i : TypeInfo} {z : Value} {zs : List V} {sz : Nat} (hzs : z.cells.size = zs.length) (hzl : zs.length = sz) (hc : ∀ (j : Nat) (c : Value) (v : V), z.cells[j]? = some c → zs[j]? = some v → c.oneCell' = true ∧ Rep S ρ w c v)
    (n : Nat) (cells : Array Value) (hcells : cells.size = n * sz) (hget : ∀ k, k < n * sz → cells[k]? = z.cells[k % sz]?) :
    ∀ (i : Nat) (e : List V) (j : Nat) (v : V), (List.replicate n zs)[i]? = some e → e[j]? = some v → ∃ c, cells[i * sz + j]? = some c ∧ c.oneCell' = true ∧ Rep S ρ w c v := by
  intro i e j v hi hj
  have hin : i < n := by have := (List.getElem?_eq_some_iff.1 hi).1; simpa using this
  rw [List.getElem?_replicate, if_pos hin] at hi
  cases hi
  have hjs : j < sz := by rw [← hzl]; exact (List.getElem?_eq_some_iff.1 hj).1
  have h1 : j < z.cells.size := by omega
  have h2 : z.cells[j]? = some z.cells[j] := Array.getElem?_eq_getElem h1
  obtain ⟨e1, e2⟩ := hc j _ v h2 hj
  refine ⟨_, ?_, e1, e2⟩
  rw [hget _ (in_row hin hjs), Nat.mul_comm, Nat.mul_add_mod, Nat.mod_eq_of_lt hjs]; exact h2

theorem row_made (H : HInv S ρ h w) (sz n : Nat) (b : Blk) (cs : Array Value) (ty : TypeId) (hb : b.length = n) (hm : n ≤ maxLen) (hcs : cs.size = n * sz) (hsz : ∀ e ∈ b, e.length = sz)
    (hc : ∀ (i : Nat) (e : List V) (j : Nat) (v : V), b[i]? = some e → e[j]? = some v → ∃ c, cs[i * sz + j]? = some c ∧ c.oneCell' = true ∧ Rep S ρ w c v) :
    Made S ρ w (.slice (some ⟨w.heap.size, 0, none⟩) n n) (w.alloc (.cells cs ty)) (.own h.length sz 0 n n) (h ++ [b]) := by
  subst hb
  obtain ⟨h1, h2⟩ := new_block H sz b cs ty hm hcs hsz hc
  exact ⟨_, h1, .own _ (upd_same _ _ _) rfl rfl (by simp) (Nat.le_refl _) (fun _ => ⟨_, rfl, by simp⟩) (fun _ _ => ⟨rfl, fun g e => by cases e; rfl⟩), h2⟩

theorem lit_run (H : HInv S ρ h w) {t e : TypeId} {zs : List V} {n sz : Nat} {ev : Opd → V} {ps : Array (Nat × Value)} {qs : List (Nat × Opd)} {es : List (List V)} (ht : P.underlying t = some (.slice e)) (hsz : szT P e = some sz) (hz : zeroT P e = some zs) (hzl : zs.length = sz) (hsmall : n * sz ≤ 2 ^ 24)
    (hl : ps.toList.length = qs.length) (hp : ∀ (k : Nat) (p : Nat × Value) (q : Nat × Opd), ps.toList[k]? = some p → qs[k]? = some q → p.1 = q.1 ∧ Rep S ρ w p.2 (ev q.2)) (hes : fillE ev sz (List.replicate n zs) qs = some es) (hnm : n ≤ maxLen) :
    ∃ c w', (Instr.buildSlice t n ps).run P w = .ok c w' ∧ Made S ρ w c w' (.own h.length sz 0 n n) (h ++ [es]) := by
  obtain ⟨i, z, hi, hzz, hzs, hzc⟩ := zeroT_spec hz S ρ w
  have key : ∀ zc : Array Value, (n * sz = 0 → zc = #[]) → (n * sz ≠ 0 → zc = z.cells) → ∃ out, Instr.fill (fun i => some (i * sz, sz)) ((Array.range (n * sz)).map (zc[· % zc.size]!)) ps.toList = some out ∧ out.size = es.length * sz ∧ es.length = (List.replicate n zs).length ∧ (∀ e ∈ es, e.length = sz) ∧
      ∀ (i : Nat) (e : List V) (j : Nat) (v : V), es[i]? = some e → e[j]? = some v → ∃ c, out[i * sz + j]? = some c ∧ c.oneCell' = true ∧ Rep S ρ w c v := by
    intro zc h0 h1
    refine fill_rows ev sz ps.toList qs _ (List.replicate n zs) es hl hp (by simp) (fun e he => by rw [(List.mem_replicate.1 he).2, hzl]) (zero_rows (e := e) (i := i) (z := z) hzs hzl hzc n _ (by simp) fun k hk => ?_) hes
    have hne : n * sz ≠ 0 := by omega
    rw [h1 hne]
    have hszz : z.cells.size = sz := by rw [hzs, hzl]
    have hpos : 0 < sz := Nat.pos_of_ne_zero fun e0 => hne (by rw [e0, Nat.mul_zero])
    have hlt : k % sz < z.cells.size := by rw [hszz]; exact Nat.mod_lt _ hpos
    simp [hk, hszz, Array.getElem?_eq_getElem hlt, getElem!_pos z.cells (k % sz) hlt]
  have hsm : ¬ (n * sz > 2 ^ 24) := by omega
  by_cases hn0 : n * sz = 0
  · obtain ⟨out, o1, o2, o3, o4, o5⟩ := key #[] (fun _ => rfl) (fun hne => absurd hn0 hne)
    refine ⟨_, _, ?_, row_made H sz n es out e (by rw [o3]; simp) hnm (by rw [o2, o3]; simp) o4 o5⟩
    have e0 : (Array.range (n * sz)).map ((#[] : Array Value)[· % (#[] : Array Value).size]!) = #[] := by rw [hn0, Array.range_zero']; simp
    rw [e0] at o1
    simp [Instr.buildSlice, run_underlying ht, run_sizeOf hsz, hn0, Array.range_zero', o1, newRow]
  · obtain ⟨out, o1, o2, o3, o4, o5⟩ := key z.cells (fun h => absurd h hn0) (fun _ => rfl)
    refine ⟨_, _, ?_, row_made H sz n es out e (by rw [o3]; simp) hnm (by rw [o2, o3]; simp) o4 o5⟩
    simp [Instr.buildSlice, run_underlying ht, run_sizeOf hsz, hsm, hn0, zeroValue, typeInfo, hi, hzz, o1, newRow]
end
end Go.Av
