/- What the machine does at stores and at what makes new blocks, as the abstract values have it. No condition. -/
import Derived.Test.YtjfmbdigfnablaaGreatDoorAv3
namespace Go.Av
open Go.RowKit
set_option linter.unusedVariables false
set_option linter.unusedSimpArgs false

theorem seg_get {α : Type} (l vs : List α) (p : Nat) (hp : p + vs.length ≤ l.length) (q : Nat) :
    (l.take p ++ vs ++ l.drop (p + vs.length))[q]? = if p ≤ q ∧ q < p + vs.length then vs[q - p]? else l[q]? := by
  have hlen : (l.take p).length = p := by simp; omega
  by_cases h1 : q < p
  · rw [if_neg (by omega), List.append_assoc, List.getElem?_append_left (by omega), List.getElem?_take_of_lt h1]
  · by_cases h2 : q < p + vs.length
    · rw [if_pos ⟨by omega, h2⟩, List.append_assoc, List.getElem?_append_right (by omega), hlen, List.getElem?_append_left (by omega)]
    · rw [if_neg (by omega), List.getElem?_append_right (by simp; omega)]
      simp only [List.length_append, hlen, List.getElem?_drop]
      congr 1; omega
theorem splice_length (e : List V) (j : Nat) (cs : List V) (h : j + cs.length ≤ e.length) : (splice e j cs).length = e.length := by
  unfold splice; simp; omega
theorem splice_get (e : List V) (j : Nat) (cs : List V) (h : j + cs.length ≤ e.length) (q : Nat) : (splice e j cs)[q]? = if j ≤ q ∧ q < j + cs.length then cs[q - j]? else e[q]? := seg_get e cs j h q
theorem upd_self {ρ : Rho} {id : Nat} {l : Loc} (h : ρ id = some l) : upd ρ id l = ρ := by
  funext i; unfold upd; split
  · rename_i e; subst e; exact h.symm
  · rfl
theorem row_lt {i i' j' sz : Nat} (h : i' < i) (hj : j' < sz) : i' * sz + j' < i * sz := by
  have : (i' + 1) * sz ≤ i * sz := Nat.mul_le_mul_right _ h
  rw [Nat.add_mul] at this; omega
theorem row_inj {i i' j j' sz : Nat} (hj : j < sz) (hj' : j' < sz) (h : i * sz + j = i' * sz + j') : i = i' ∧ j = j' := by
  rcases Nat.lt_trichotomy i i' with h1 | h1 | h1
  · have := row_lt h1 hj; omega
  · subst h1; exact ⟨rfl, by omega⟩
  · have := row_lt h1 hj'; omega

theorem store_run {S : Nat → Prop} {ρ : Rho} {h : Heap} {w : World} {P : Program} (H : HInv S ρ h w) {sz : Nat} {t : TypeId} {ca cx : Value} {x : V} {id tot i j : Nat} {b : Blk} {e : List V} (hsz : szT P t = some sz)
    (hra : Rep S ρ w ca (.ptr id tot i j)) (hrx : Rep S ρ w cx x) (hb : h[id]? = some b) (ht : tot = b.length) (he : b[i]? = some e) (hl : x.cells.length = sz) (hfit : j + sz ≤ e.length) (h1 : x.cells.all V.one = true) :
    ∃ w', (Instr.storeAt t ca cx).run P w = .ok () w' ∧ HInv S ρ (h.set id (b.set i (splice e j x.cells))) w' ∧ Fr w S ρ S ρ w' := by
  subst hl
  obtain ⟨hcl, hcell⟩ := hrx.cells h1
  cases hra with
  | @ptrS _ _ _ _ _ l hρ htS =>
    obtain ⟨l', hl', hB⟩ := H.blk id b hb
    rw [hρ] at hl'; cases hl'
    have := hB.tot; omega
  | @ptr _ _ _ _ l g hρ hbk htE hi =>
    obtain ⟨l', hl', hB⟩ := H.blk id b hb
    rw [hρ] at hl'; cases hl'
    obtain ⟨hnS, cs, ty, hg, hcs, hmem⟩ := hB.mem g hbk
    have hesz : e.length = l.sz := hB.sz e (List.mem_of_getElem? he)
    have hib : i < b.length := (List.getElem?_eq_some_iff.1 he).1
    have hsize : (i * l.sz + j) + cx.cells.toList.length ≤ cs.toList.length := by
      have hle : (i + 1) * l.sz ≤ l.cap * l.sz := Nat.mul_le_mul_right _ (by have := hB.cap; omega)
      rw [Nat.add_mul] at hle
      simp only [Array.length_toList, hcs, hcl]; omega
    have hst := run_storeCells_at P g (i * l.sz + j) ty cx.cells.toList 0 cs w hg (by simpa using hsize) (fun v hv => by
      obtain ⟨k, hk⟩ := List.mem_iff_getElem?.1 hv
      have hk' : k < x.cells.length := by
        have := (List.getElem?_eq_some_iff.1 hk).1
        simp [hcl] at this; exact this
      exact (hcell k v _ (by simpa using hk) (List.getElem?_eq_getElem hk')).1)
    simp only [Nat.add_zero] at hst
    have hall : ∀ k, k ≠ g → (w.setRow g (cs.toList.take (i * l.sz + j) ++ cx.cells.toList ++ cs.toList.drop (i * l.sz + j + cx.cells.toList.length)).toArray).heap[k]? = w.heap[k]? := fun k hk => setRow_other w g k _ (fun e => hk (by first | exact e | exact e.symm))
    have hat : (w.setRow g (cs.toList.take (i * l.sz + j) ++ cx.cells.toList ++ cs.toList.drop (i * l.sz + j + cx.cells.toList.length)).toArray).heap[g]? = some (.cells (cs.toList.take (i * l.sz + j) ++ cx.cells.toList ++ cs.toList.drop (i * l.sz + j + cx.cells.toList.length)).toArray ty (0, 0)) := setRow_heap w g cs _ ty _ hg
    have hszw : (w.setRow g (cs.toList.take (i * l.sz + j) ++ cx.cells.toList ++ cs.toList.drop (i * l.sz + j + cx.cells.toList.length)).toArray).heap.size = w.heap.size := by simp [World.setRow]
    have hos : (w.setRow g (cs.toList.take (i * l.sz + j) ++ cx.cells.toList ++ cs.toList.drop (i * l.sz + j + cx.cells.toList.length)).toArray).os = w.os := rfl
    have htp : (w.setRow g (cs.toList.take (i * l.sz + j) ++ cx.cells.toList ++ cs.toList.drop (i * l.sz + j + cx.cells.toList.length)).toArray).tape = w.tape := rfl
    have hout : (w.setRow g (cs.toList.take (i * l.sz + j) ++ cx.cells.toList ++ cs.toList.drop (i * l.sz + j + cx.cells.toList.length)).toArray).output = w.output := rfl
    generalize w.setRow g (cs.toList.take (i * l.sz + j) ++ cx.cells.toList ++ cs.toList.drop (i * l.sz + j + cx.cells.toList.length)).toArray = w' at hst hall hat hszw hos htp hout
    refine ⟨w', by simp only [Instr.storeAt, Instr.sureAddr, storeVar, Sem.run_bind, Sem.run_pure, Result.andThen_ok, run_sizeOf hsz, hcl, ne_eq, not_true_eq_false, if_false, hst], ?_⟩
    have hwS : ∀ k, k < w.heap.size → (∀ l0, ρ id = some l0 → l0.blk ≠ some k) → w'.heap[k]? = w.heap[k]? :=
      fun k _ hk => hall k (fun e => hk l hρ (by rw [hbk, e]))
    have hSw : ∀ k, S k → w'.heap[k]? = w.heap[k]? := fun k hk => hall k (fun e => hnS (e ▸ hk))
    have hle : Le ρ (upd ρ id l) := by rw [upd_self hρ]; exact Le.refl ρ
    have hgg : ∀ g', l.blk = some g' → w.heap.size ≤ g' ∨ ∃ l0, ρ id = some l0 ∧ l0.blk = some g' := fun g' e => .inr ⟨l, hρ, e⟩
    have hH := H.put (w' := w') id l (b.set i (splice e j x.cells)) (h.set id (b.set i (splice e j x.cells)))
      (by omega) hle hwS ⟨by rw [List.length_set]; exact hB.tot, by rw [List.length_set]; exact hB.cap, hB.capm, fun e' he' => ?_, fun g' eg => ?_, hB.nomem, fun e0 => hB.emp (by simpa using e0)⟩ hgg (fun k hk => by rw [List.getElem?_set_ne (Ne.symm hk)])
      (by rw [List.getElem?_set_self (List.getElem?_eq_some_iff.1 hb).1])
    · have hF := (Fr.refl w S ρ).put (w' := w') H id l (by omega) hos htp hout hle hwS hgg
      rw [upd_self hρ] at hH hF
      exact ⟨hH, hF⟩
    · rcases List.mem_or_eq_of_mem_set he' with h2 | h2
      · exact hB.sz e' h2
      · rw [h2, splice_length e j x.cells hfit, hesz]
    · rw [hbk] at eg; cases eg
      refine ⟨hnS, _, ty, hat, ?_, fun k e' q v hk hq => ?_⟩
      · simp only [List.size_toArray, List.length_append, List.length_take, List.length_drop, Array.length_toList] at hsize ⊢
        omega
      · rw [upd_self hρ]
        have hrep : ∀ c, Rep S ρ w c v → Rep S ρ w' c v := fun c r => r.mono hSw (fun _ h => h) (Le.refl ρ)
        have hget : ∀ p : Nat, (cs.toList.take (i * l.sz + j) ++ cx.cells.toList ++ cs.toList.drop (i * l.sz + j + cx.cells.toList.length)).toArray[p]? = if i * l.sz + j ≤ p ∧ p < i * l.sz + j + cx.cells.toList.length then cx.cells.toList[p - (i * l.sz + j)]? else cs.toList[p]? := fun p => by
          rw [List.getElem?_toArray]; exact seg_get _ _ _ hsize p
        simp only [hget]
        have hlc : cx.cells.toList.length = x.cells.length := by simpa using hcl
        by_cases hki : k = i
        · subst hki
          rw [List.getElem?_set_self hib] at hk
          cases hk
          rw [splice_get e j x.cells hfit] at hq
          have hq' : q < l.sz := by
            by_cases hc : j ≤ q ∧ q < j + x.cells.length
            · omega
            · rw [if_neg hc] at hq; have := (List.getElem?_eq_some_iff.1 hq).1; omega
          by_cases hc : j ≤ q ∧ q < j + x.cells.length
          · rw [if_pos hc] at hq
            rw [if_pos (by omega)]
            have hk2 : q - j < cx.cells.size := by omega
            have hgx : cx.cells[q - j]? = some (cx.cells[q - j]) := Array.getElem?_eq_getElem hk2
            obtain ⟨c1, c2⟩ := hcell (q - j) _ _ hgx hq
            refine ⟨_, ?_, c1, hrep _ c2⟩
            rw [show k * l.sz + q - (k * l.sz + j) = q - j from by omega, Array.getElem?_toList]; exact hgx
          · rw [if_neg hc] at hq
            rw [if_neg (by omega)]
            obtain ⟨c, e1, e2, e3⟩ := hmem k e q v he hq
            exact ⟨c, by rw [Array.getElem?_toList]; exact e1, e2, hrep c e3⟩
        · rw [List.getElem?_set_ne (Ne.symm hki)] at hk
          have hq' : q < l.sz := by
            have := (List.getElem?_eq_some_iff.1 hq).1
            have := hB.sz e' (List.mem_of_getElem? hk); omega
          rw [if_neg (fun hc => by
            have h3 : k * l.sz + q = i * l.sz + (k * l.sz + q - i * l.sz) := by omega
            have h4 : k * l.sz + q - i * l.sz < l.sz := by omega
            have := row_inj hq' h4 h3
            exact hki this.1)]
          obtain ⟨c, e1, e2, e3⟩ := hmem k e' q v hk hq
          exact ⟨c, by rw [Array.getElem?_toList]; exact e1, e2, hrep c e3⟩

/-- A new block of whole elements. -/
theorem new_block {S : Nat → Prop} {ρ : Rho} {h : Heap} {w : World} (H : HInv S ρ h w) (sz : Nat) (b : Blk) (cs : Array Value) (ty : TypeId) (hm : b.length ≤ maxLen) (hcs : cs.size = b.length * sz) (hsz : ∀ e ∈ b, e.length = sz)
    (hc : ∀ (i : Nat) (e : List V) (j : Nat) (v : V), b[i]? = some e → e[j]? = some v → ∃ c, cs[i * sz + j]? = some c ∧ c.oneCell' = true ∧ Rep S ρ w c v) :
    HInv S (upd ρ h.length ⟨some w.heap.size, sz, b.length, b.length⟩) (h ++ [b]) (w.alloc (.cells cs ty)) ∧ Fr w S ρ S (upd ρ h.length ⟨some w.heap.size, sz, b.length, b.length⟩) (w.alloc (.cells cs ty)) := by
  have hnone : ρ h.length = none := H.none_ _ (Nat.le_refl _)
  have hle : Le ρ (upd ρ h.length ⟨some w.heap.size, sz, b.length, b.length⟩) := Le.upd_new hnone
  have hw : ∀ k, k < w.heap.size → (∀ l0, ρ h.length = some l0 → l0.blk ≠ some k) → (w.alloc (.cells cs ty)).heap[k]? = w.heap[k]? := fun k hk _ => Below.heap_alloc w _ k hk
  have hg : ∀ g, (⟨some w.heap.size, sz, b.length, b.length⟩ : Loc).blk = some g → w.heap.size ≤ g ∨ ∃ l0, ρ h.length = some l0 ∧ l0.blk = some g := fun g e => by cases e; exact .inl (Nat.le_refl _)
  refine ⟨H.put (w' := w.alloc (.cells cs ty)) h.length ⟨some w.heap.size, sz, b.length, b.length⟩ b (h ++ [b]) (by simp) hle hw ⟨rfl, Nat.le_refl _, hm, hsz, fun g e => ?_, (fun e => by cases e), (fun e => by rw [e]; rfl)⟩ hg (fun i hi => ?_) (by simp), (Fr.refl w S ρ).put H _ _ (by simp) rfl rfl rfl hle hw hg⟩
  · cases e
    refine ⟨fun hS => by have := H.stab _ hS; omega, cs, ty, heap_alloc_new w _, hcs, fun i e j v hi hj => ?_⟩
    obtain ⟨c, e1, e2, e3⟩ := hc i e j v hi hj
    exact ⟨c, e1, e2, e3.mono (fun k hk => Below.heap_alloc w _ k (H.stab k hk)) (fun _ h => h) hle⟩
  · rcases Nat.lt_or_ge i h.length with h1 | h1
    · rw [List.getElem?_append_left h1]
    · rw [List.getElem?_eq_none (by simp; omega), List.getElem?_eq_none h1]
end Go.Av
