/- What the machine does at make, clear, and where a function is called: the result's blocks are numbered anew. No condition. -/
import Derived.Test.YtjfmbdigfnablaaGreatDoorAv7
namespace Go.Av
open Go.RowKit
set_option linter.unusedVariables false
set_option linter.unusedSimpArgs false

section
variable {S : Nat → Prop} {ρ : Rho} {h : Heap} {w : World} {P : Program}

theorem made_get (z : Array Value) (n k : Nat) (hk : k < n) (hz : 0 < z.size) : (madeCells z n)[k]? = z[k % z.size]? := by
  have hlt : k % z.size < z.size := Nat.mod_lt _ hz
  simp [madeCells, hk, getElem!_pos z (k % z.size) hlt, Array.getElem?_eq_getElem hlt]

theorem make_run (H : HInv S ρ h w) {t e : TypeId} {i : TypeInfo} {zs : List V} {sz bytes : Nat} (ht : P.underlying t = some (.slice e)) (hi : P.info? e = some i) (hsz : i.size = sz) (hby : i.bytes = bytes) (hz : zeroT P e = some zs) (hzl : zs.length = sz)
    {k : IntKind} {q : Int} {cn cc : Value} (hn : Rep S ρ w cn (.int k q)) (hcc : cc = cn) (h0 : 0 ≤ q) (hb : q * bytes ≤ 140737488355328) (hm : q ≤ 9223372036854775807) :
    ∃ c w', (Instr.makeSlice t cn cc).run P w = .ok c w' ∧ Made S ρ w c w' (.own h.length sz 0 q.toNat q.toNat) (h ++ [List.replicate q.toNat zs]) := by
  subst hcc
  cases hn
  obtain ⟨i', z, hi', hzz, hzs, hzc⟩ := zeroT_spec hz S ρ w
  rw [hi] at hi'; cases hi'
  subst hsz hby
  have hb' : (i.bytes : Int) * q ≤ 281474976710656 := by rw [Int.mul_comm]; omega
  have hr := run_make (P := P) w t e i z ht hi hzz k k q q h0 (Int.le_refl _) hb' hm
  refine ⟨_, _, hr, row_made H i.size q.toNat (List.replicate q.toNat zs) (madeCells z.cells (q.toNat * i.size)) e (by simp) (by simp only [maxLen]; omega) (by rw [size_madeCells]) (fun e he => by rw [(List.mem_replicate.1 he).2, hzl])
    (zero_rows (e := e) (i := i) (z := z) hzs hzl hzc q.toNat _ (by rw [size_madeCells]) fun k hk => ?_)⟩
  have hpos : 0 < z.cells.size := by
    rcases Nat.eq_zero_or_pos z.cells.size with h1 | h1
    · have : i.size = 0 := by omega
      rw [this, Nat.mul_zero] at hk; omega
    · exact h1
  rw [made_get _ _ _ hk hpos, hzs, hzl]

theorem zeroCells_get (z : Array Value) (n k : Nat) (hk : k < n * z.size) : (Builtin.zeroCells z n)[k]? = z[k % z.size]? := by
  have hz : 0 < z.size := Nat.pos_of_ne_zero fun e => by rw [e, Nat.mul_zero] at hk; omega
  have hlt : k % z.size < z.size := Nat.mod_lt _ hz
  simp [Builtin.zeroCells, hk, getElem!_pos z (k % z.size) hlt, Array.getElem?_eq_getElem hlt]

theorem clear_eq {t ty e : TypeId} {i : TypeInfo} {z : Value} (ht : P.underlying t = some (.slice e)) (hi : P.info? e = some i) (hz : i.zero = some z) (a : Addr) (c : Nat) (w' : World) : ∀ n : Nat, 0 < n →
    (storeCells a (Builtin.zeroCells z.cells n).toList).run P w = .ok () w' → (Builtin.clear_ #[t] ty #[.slice (some a) n c]).run P w = .ok (.tuple #[]) w'
  | 0, h, _ => by omega
  | n + 1, _, hst => by simp [Builtin.clear_, run_underlying ht, zeroValue, typeInfo, hi, hz, hst]
theorem clear_run (H : HInv S ρ h w) {t ty e : TypeId} {i : TypeInfo} {zs : List V} {sz : Nat} (ht : P.underlying t = some (.slice e)) (hi : P.info? e = some i) (hsz : i.size = sz) (hz : zeroT P e = some zs) (hzl : zs.length = sz)
    {cx : Value} {id off ln tot : Nat} {b : Blk} (hx : Rep S ρ w cx (.own id sz off ln tot)) (hb : h[id]? = some b) (htot : tot = b.length) (hle : off + ln ≤ tot) :
    ∃ w', (Builtin.clear_ #[t] ty #[cx]).run P w = .ok (.tuple #[]) w' ∧ HInv S ρ (h.set id (b.take off ++ List.replicate ln zs ++ b.drop (off + ln))) w' ∧ Fr w S ρ S ρ w' := by
  obtain ⟨l, hl, hB⟩ := H.blk id b hb
  obtain ⟨i', z, hi', hzz, hzs, hzc⟩ := zeroT_spec hz S ρ w
  rw [hi] at hi'; cases hi'
  have hid : id < h.length := (List.getElem?_eq_some_iff.1 hb).1
  cases hx with
  | @ownS _ _ _ _ _ _ _ l' hρ ht2 hc2 ha => rw [hl] at hρ; cases hρ; have := hB.tot; omega
  | @own a0 _ c0 _ _ _ _ l' hρ hslz ht2 hl2 hc2 h1 h2 =>
  rw [hl] at hρ; cases hρ
  have hbs : ∀ e ∈ b, e.length = sz := fun e he => by rw [hslz]; exact hB.sz e he
  rcases Nat.eq_zero_or_pos ln with h0 | h0
  · subst h0
    refine ⟨w, by cases a0 <;> simp [Builtin.clear_, run_underlying ht], ?_, Fr.refl w S ρ⟩
    have : b.take off ++ List.replicate 0 zs ++ b.drop (off + 0) = b := by simp
    rw [this, set_self hb]; exact H
  · obtain ⟨g, hblk, rfl⟩ := h1 h0
    obtain ⟨hnS, cur, ty', hg, hcs, hmem⟩ := hB.mem g hblk
    have hbpos : 0 < b.length := by omega
    subst hslz
    have hzsz : z.cells.size = l.sz := by rw [hzs, hzl]
    have hvl : (Builtin.zeroCells z.cells ln).toList.length = ln * l.sz := by rw [Array.length_toList, size_zeroCells, hzsz]
    have hsize : off * l.sz + (Builtin.zeroCells z.cells ln).toList.length ≤ cur.toList.length := by
      rw [hvl, Array.length_toList, hcs, ← Nat.add_mul]
      exact Nat.mul_le_mul_right _ (by have := hB.cap; omega)
    have hst := run_storeCells_at P g (off * l.sz) ty' (Builtin.zeroCells z.cells ln).toList 0 cur w hg (by simpa using hsize) (fun v hv => by
      obtain ⟨k, hk⟩ := List.mem_iff_getElem?.1 hv
      have hk' : k < ln * z.cells.size := by
        have := (List.getElem?_eq_some_iff.1 hk).1
        rw [hvl] at this; rw [hzsz]; exact this
      have hpz : 0 < z.cells.size := Nat.pos_of_ne_zero fun e => by rw [e, Nat.mul_zero] at hk'; omega
      rw [Array.getElem?_toList, zeroCells_get _ _ _ hk'] at hk
      have hm : k % z.cells.size < zs.length := by rw [← hzs]; exact Nat.mod_lt _ hpz
      exact (hzc _ _ _ hk (List.getElem?_eq_getElem hm)).1)
    simp only [Nat.add_zero] at hst
    have hall : ∀ k, k ≠ g → (w.setRow g (cur.toList.take (off * l.sz) ++ (Builtin.zeroCells z.cells ln).toList ++ cur.toList.drop (off * l.sz + (Builtin.zeroCells z.cells ln).toList.length)).toArray).heap[k]? = w.heap[k]? := fun k hk => setRow_other w g k _ (fun e => hk (by first | exact e | exact e.symm))
    have hat := setRow_heap w g cur (cur.toList.take (off * l.sz) ++ (Builtin.zeroCells z.cells ln).toList ++ cur.toList.drop (off * l.sz + (Builtin.zeroCells z.cells ln).toList.length)).toArray ty' (0, 0) hg
    have hrest : (w.setRow g (cur.toList.take (off * l.sz) ++ (Builtin.zeroCells z.cells ln).toList ++ cur.toList.drop (off * l.sz + (Builtin.zeroCells z.cells ln).toList.length)).toArray).heap.size = w.heap.size ∧ (w.setRow g (cur.toList.take (off * l.sz) ++ (Builtin.zeroCells z.cells ln).toList ++ cur.toList.drop (off * l.sz + (Builtin.zeroCells z.cells ln).toList.length)).toArray).os = w.os ∧ (w.setRow g (cur.toList.take (off * l.sz) ++ (Builtin.zeroCells z.cells ln).toList ++ cur.toList.drop (off * l.sz + (Builtin.zeroCells z.cells ln).toList.length)).toArray).tape = w.tape ∧ (w.setRow g (cur.toList.take (off * l.sz) ++ (Builtin.zeroCells z.cells ln).toList ++ cur.toList.drop (off * l.sz + (Builtin.zeroCells z.cells ln).toList.length)).toArray).output = w.output := ⟨by simp [World.setRow], rfl, rfl, rfl⟩
    have hseg := seg_get cur.toList (Builtin.zeroCells z.cells ln).toList (off * l.sz) hsize
    have hrlen : (cur.toList.take (off * l.sz) ++ (Builtin.zeroCells z.cells ln).toList ++ cur.toList.drop (off * l.sz + (Builtin.zeroCells z.cells ln).toList.length)).length = cur.size := by
      simp only [List.length_append, List.length_take, List.length_drop, Array.length_toList] at hsize ⊢; omega
    generalize w.setRow g (cur.toList.take (off * l.sz) ++ (Builtin.zeroCells z.cells ln).toList ++ cur.toList.drop (off * l.sz + (Builtin.zeroCells z.cells ln).toList.length)).toArray = w' at hst hat hall hrest
    generalize cur.toList.take (off * l.sz) ++ (Builtin.zeroCells z.cells ln).toList ++ cur.toList.drop (off * l.sz + (Builtin.zeroCells z.cells ln).toList.length) = row at hat hseg hrlen
    have hn0 : ln ≠ 0 := by omega
    refine ⟨w', ?_, ?_⟩
    · exact clear_eq ht hi hzz _ c0 w' ln h0 hst
    have hwS : ∀ k, k < w.heap.size → (∀ l0, ρ id = some l0 → l0.blk ≠ some k) → w'.heap[k]? = w.heap[k]? := fun k _ hk => hall k (fun e => hk l hl (by rw [hblk, e]))
    have hSw : ∀ k, S k → w'.heap[k]? = w.heap[k]? := fun k hk => hall k (fun e => hnS (e ▸ hk))
    have hle' : Le ρ (upd ρ id l) := by rw [upd_self hl]; exact Le.refl ρ
    have hgg : ∀ g', l.blk = some g' → w.heap.size ≤ g' ∨ ∃ l0, ρ id = some l0 ∧ l0.blk = some g' := fun g' e => .inr ⟨l, hl, e⟩
    have hF := (Fr.refl w S ρ).put (w' := w') H id l (by omega) hrest.2.1 hrest.2.2.1 hrest.2.2.2 hle' hwS hgg
    have hlen : (b.take off ++ List.replicate ln zs ++ b.drop (off + ln)).length = b.length := by simp; omega
    have hbget := seg_get b (List.replicate ln zs) off (by simp; omega)
    rw [List.length_replicate] at hbget
    have hH := H.put (w' := w') id l (b.take off ++ List.replicate ln zs ++ b.drop (off + ln)) (h.set id (b.take off ++ List.replicate ln zs ++ b.drop (off + ln))) (by omega) hle' hwS
      ⟨by rw [hlen]; exact hB.tot, by rw [hlen]; exact hB.cap, hB.capm, fun e' he' => ?_, fun g' eg => ?_, hB.nomem, fun e0 => by rw [e0] at hlen; simp at hlen; omega⟩ hgg (fun k hk => by rw [List.getElem?_set_ne (Ne.symm hk)]) (by rw [List.getElem?_set_self hid])
    · rw [upd_self hl] at hH hF
      exact ⟨hH, hF⟩
    · obtain ⟨k, hk⟩ := List.mem_iff_getElem?.1 he'
      rw [hbget] at hk
      split at hk
      · rw [List.getElem?_replicate] at hk
        split at hk
        · cases hk; exact hzl
        · cases hk
      · exact hB.sz e' (List.mem_of_getElem? hk)
    · rw [hblk] at eg; cases eg
      refine ⟨hnS, row.toArray, ty', hat, by simp [hrlen, hcs], fun k e' q v hk hq => ?_⟩
      rw [upd_self hl]
      have hr : ∀ {c v}, Rep S ρ w c v → Rep S ρ w' c v := fun r => r.mono hSw (fun _ h => h) (Le.refl ρ)
      rw [List.getElem?_toArray, hseg, hvl]
      rw [hbget] at hk
      split at hk
      · rename_i hcond
        rw [List.getElem?_replicate, if_pos (by omega)] at hk
        cases hk
        have hq' : q < l.sz := by rw [← hzl]; exact (List.getElem?_eq_some_iff.1 hq).1
        have hsp : k * l.sz + q = off * l.sz + ((k - off) * l.sz + q) := by rw [← Nat.add_assoc, ← Nat.add_mul]; congr 2; omega
        have hlt := in_row (n := ln) (show k - off < ln by omega) hq'
        rw [if_pos (by omega), hsp, Nat.add_sub_cancel_left, Array.getElem?_toList, zeroCells_get _ _ _ (by rw [hzsz]; exact hlt), hzsz, Nat.mul_comm, Nat.mul_add_mod, Nat.mod_eq_of_lt hq']
        have hqz : q < z.cells.size := by omega
        have hgz : z.cells[q]? = some z.cells[q] := Array.getElem?_eq_getElem hqz
        obtain ⟨e1, e2⟩ := hzc q _ v hgz hq
        exact ⟨_, hgz, e1, hr e2⟩
      · rename_i hcond
        have hq' : q < l.sz := by rw [← hB.sz e' (List.mem_of_getElem? hk)]; exact (List.getElem?_eq_some_iff.1 hq).1
        have hnot : ¬ (off * l.sz ≤ k * l.sz + q ∧ k * l.sz + q < off * l.sz + ln * l.sz) := fun hcc => by
          have h3 : k * l.sz + q = off * l.sz + (k * l.sz + q - off * l.sz) := by omega
          rcases Nat.lt_or_ge k off with h4 | h4
          · have := row_lt h4 hq'; omega
          · rcases Nat.lt_or_ge k (off + ln) with h5 | h5
            · exact hcond ⟨h4, h5⟩
            · have : (off + ln) * l.sz ≤ k * l.sz := Nat.mul_le_mul_right _ h5
              rw [Nat.add_mul] at this; omega
        rw [if_neg hnot]
        obtain ⟨cc, e1, e2, e3⟩ := hmem k e' q v hk hq
        exact ⟨cc, by rw [Array.getElem?_toList]; exact e1, e2, hr e3⟩
end
end Go.Av
