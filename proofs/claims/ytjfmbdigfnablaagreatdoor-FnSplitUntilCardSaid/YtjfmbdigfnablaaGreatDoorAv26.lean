/- A slice of whole numbers that the caller owns, sorted by the library: the shelf's contract, brought to abstract values. Conditions: the library's two contracts are handed over. -/
import Derived.Test.YtjfmbdigfnablaaGreatDoorAv25
import Derived.Sort.OwnSortedInts
namespace Go.Av
open Go.RowKit Go.Sort
set_option linter.unusedVariables false
set_option linter.unusedSimpArgs false
/-- The numbers in order. -/
def srt (zs : List Int) : List Int := zs.mergeSort fun x y => decide (x ≤ y)
theorem srt_len (zs : List Int) : (srt zs).length = zs.length := List.length_mergeSort _
theorem sort_own {P : Program} {f : FuncId} (hE : ∀ args w, (callFunc f args).run P w = .ok (.enter f args) w)
    (hS : ∀ (blk off cap : Nat) (zs : List Int) (w : World), Holds (Value.int .i64) w blk off zs.toArray → blk < w.heap.size → zs.length < 4611686018427387904 → Calls P f #[.slice (some ⟨blk, off, none⟩) zs.length cap] w fun e w' =>
      e = .returned (.tuple #[]) ∧ ∃ n os, w' = grow (putRow (Value.int .i64) (Sort.ahead w n) blk off (zs.mergeSort fun x y => decide (x ≤ y)).toArray) os)
    (hN : ∀ (p : Option Addr) (cap : Nat) (w : World), Calls P f #[.slice p 0 cap] w fun e w' => e = .returned (.tuple #[]) ∧ w' = w)
    {h : Heap} {id n : Nat} {zs : List Int} (hb : h[id]? = some (zs.map encI)) (hn : zs.length = n) (hm : n < 4611686018427387904) : C P f [.own id 1 0 n n] h (fun r h' => r = .tup [] ∧ h' = h.set id ((srt zs).map encI)) := by
  subst hn
  refine ⟨hE, fun w S ρ cargs H hl ha => ?_⟩
  match cargs, hl, ha with
  | [c0], _, ha =>
    have r0 := ha 0 c0 _ rfl rfl
    obtain ⟨l, hρ, B⟩ := H.blk id _ hb
    have htot : l.tot = zs.length := by rw [B.tot]; simp
    have htup : ∀ (S' : Nat → Prop) (ρ' : Rho) (w' : World), Rep S' ρ' w' (.tuple #[]) (.tup []) := fun S' ρ' w' => .tup rfl (fun j c v h => by simp at h)
    cases r0 with
    | @ownS a _ c _ _ _ _ l' hρ' ht hc hlen => rw [hρ] at hρ'; cases hρ'; omega
    | @own a _ c _ _ _ _ l' hρ' hsz ht hle hc h1 h2 =>
      rw [hρ] at hρ'; cases hρ'
      rcases Nat.eq_zero_or_pos zs.length with h0 | h0
      · have e0 : zs = [] := List.length_eq_zero_iff.1 h0
        subst e0
        refine (hN a c w).mono fun e w' ⟨he, hw⟩ => ?_
        subst he hw
        refine ⟨_, .tup [], h, S, ρ, rfl, ⟨rfl, ?_⟩, H, htup _ _ _, Fr.refl _ _ _⟩
        obtain ⟨hlt, he⟩ := List.getElem?_eq_some_iff.1 hb
        have : (srt []).map encI = h[id] := by rw [he]; simp [srt]
        rw [this, List.set_getElem_self]
      · obtain ⟨g, hg, rfl⟩ := h1 h0
        obtain ⟨ns, cs, ty, hgg, hcs, hcell⟩ := B.mem g hg
        rw [← hsz] at hcs hcell
        have hcap := B.cap
        simp only [List.length_map] at hcap
        have htake : cs.toList.take zs.length = zs.map (Value.int .i64) := by
          apply List.ext_getElem?
          intro i
          rcases Nat.lt_or_ge i zs.length with hi | hi
          · obtain ⟨cc, e1, e2, e3⟩ := hcell i (encI zs[i]) 0 (.int .i64 zs[i]) (by simp [hi]) rfl
            rw [List.getElem?_take_of_lt hi, Array.getElem?_toList]
            rw [Nat.mul_one, Nat.add_zero] at e1
            rw [e1]
            cases e3
            simp [hi]
          · rw [List.getElem?_eq_none (by simp; omega), List.getElem?_eq_none (by simpa using hi)]
        have hH := holds_of_blockI hgg htake
        refine (hS g (0 * 1) c zs w hH (H.lt hρ hg) hm).mono fun e w' ⟨he, nn, os, hw⟩ => ?_
        subst he hw
        have hsrt : (zs.mergeSort fun x y => decide (x ≤ y)).length = zs.length := List.length_mergeSort _
        have hheap := heap_sortedI (w := w) (n := nn) (os := os) (zs.mergeSort fun x y => decide (x ≤ y)).toArray hgg
        have hgrow := grownBy_sortedI (w := w) (g := g) (n := nn) (os := os) (zs.mergeSort fun x y => decide (x ≤ y)).toArray
        obtain ⟨gr1, gr2, gr3, gr4, gr5⟩ := hgrow
        have hw : ∀ k, k < w.heap.size → (∀ l0, ρ id = some l0 → l0.blk ≠ some k) → (grow (putRow (Value.int .i64) (Sort.ahead w nn) g 0 (zs.mergeSort fun x y => decide (x ≤ y)).toArray) os).heap[k]? = w.heap[k]? := fun k hk hne => by
          exact gr5 k hk (fun e => hne l hρ (by rw [hg, e]))
        have hle' : Le ρ (upd ρ id l) := Le.upd_old hρ (.inl rfl)
        have hlt := (List.getElem?_eq_some_iff.1 hb).1
        have hsize : w.heap.size ≤ (grow (putRow (Value.int .i64) (Sort.ahead w nn) g 0 (zs.mergeSort fun x y => decide (x ≤ y)).toArray) os).heap.size := gr4
        have hB : HBlk S (upd ρ id l) (grow (putRow (Value.int .i64) (Sort.ahead w nn) g 0 (zs.mergeSort fun x y => decide (x ≤ y)).toArray) os) l ((srt zs).map encI) := by
          refine ⟨by simpa [srt_len] using htot, by simpa [srt_len] using hcap, B.capm, fun e he => ?_, fun g' hg' => ?_, fun e => ?_, fun e => ?_⟩
          · obtain ⟨z, _, rfl⟩ := List.mem_map.1 he
            rw [← hsz]; rfl
          · rw [hg] at hg'; cases hg'
            refine ⟨ns, _, ty, hheap, by simp [putCells, hcs, ← hsz], fun i e j v hi hj => ?_⟩
            rw [List.getElem?_map, Option.map_eq_some_iff] at hi
            obtain ⟨z, hz, rfl⟩ := hi
            have hilt : i < (zs.mergeSort fun x y => decide (x ≤ y)).length := (List.getElem?_eq_some_iff.1 hz).1
            cases j with
            | succ j => simp [encI] at hj
            | zero =>
              simp [encI] at hj
              subst hj
              have hic : i < cs.size := by rw [hcs]; omega
              refine ⟨.int .i64 z, ?_, rfl, .int _ _⟩
              have hz' : (zs.mergeSort fun x y => decide (x ≤ y))[i]? = some z := hz
              have hil : i < zs.length := by rw [← hsrt]; exact hilt
              rw [← hsz, Nat.mul_one, Nat.add_zero]
              simp [putCells, hic, hil, hz']
              exact (List.getElem?_eq_some_iff.1 hz').2
          · rw [hg] at e; cases e
          · have : (srt zs).length = 0 := by simpa using congrArg List.length e
            rw [srt_len] at this; omega
        exact ⟨_, .tup [], h.set id ((srt zs).map encI), S, upd ρ id l, rfl, ⟨rfl, rfl⟩,
          HInv.put H id l _ _ hsize hle' hw hB (fun g' hg' => .inr ⟨l, hρ, hg'⟩) (fun i hi => List.getElem?_set_ne (Ne.symm hi)) (by simp [hlt]), htup _ _ _,
          Fr.put (Fr.refl w S ρ) H id l hsize gr1 gr2 gr3 hle' hw (fun g' hg' => .inr ⟨l, hρ, hg'⟩)⟩
end Go.Av
