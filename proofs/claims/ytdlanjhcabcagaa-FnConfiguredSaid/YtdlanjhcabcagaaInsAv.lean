/- The library's Insert of one struct of two numbers into a slice that the caller owns: the contract over abstract values. No condition. -/
import Derived.Test.YtdlanjhcabcagaaInsM
import Derived.Test.YtdlanjhcabcagaaAv28
namespace Go.Av
open Go.Proofs Go.RowKit
set_option linter.unusedVariables false
set_option linter.unusedSimpArgs false
theorem setCells_row (b : Nat) : ∀ (vs : List Value) (o : Nat) (w : World) (cs : Array Value) (ty : TypeId) (fr : Nat × Nat), w.heap[b]? = some (.cells cs ty fr) →
    (∃ cs', (w.setCells b o vs).heap[b]? = some (.cells cs' ty fr) ∧ cs'.size = cs.size ∧ ∀ j, cs'[j]? = if o ≤ j ∧ j < o + vs.length ∧ j < cs.size then vs[j - o]? else cs[j]?) ∧
    (∀ k, k ≠ b → (w.setCells b o vs).heap[k]? = w.heap[k]?) ∧ (w.setCells b o vs).heap.size = w.heap.size ∧ (w.setCells b o vs).os = w.os ∧ (w.setCells b o vs).tape = w.tape ∧ (w.setCells b o vs).output = w.output
  | [], o, w, cs, ty, fr, h => ⟨⟨cs, h, rfl, fun j => by rw [if_neg (by simp; omega)]⟩, fun _ _ => rfl, rfl, rfl, rfl, rfl⟩
  | v :: r, o, w, cs, ty, fr, h => by
    have h1 : (w.setCell ⟨b, o, none⟩ v).heap[b]? = some (.cells (cs.setIfInBounds o v) ty fr) := by
      simp [World.setCell, Array.getElem?_modify, h]
    have h2 : ∀ k, k ≠ b → (w.setCell ⟨b, o, none⟩ v).heap[k]? = w.heap[k]? := fun k hk => by
      simp [World.setCell, Array.getElem?_modify, Ne.symm hk]
    obtain ⟨⟨cs', q1, q2, q3⟩, q4, q5, q6, q7, q8⟩ := setCells_row b r (o + 1) (w.setCell ⟨b, o, none⟩ v) _ ty fr h1
    refine ⟨⟨cs', q1, by rw [q2]; simp, fun j => ?_⟩, fun k hk => by rw [World.setCells, q4 k hk, h2 k hk], by rw [World.setCells, q5]; simp [World.setCell], q6, q7, q8⟩
    rw [q3 j]
    simp only [Array.size_setIfInBounds, List.length_cons]
    by_cases e : o = j
    · subst e
      rw [if_neg (by omega)]
      by_cases hs : o < cs.size
      · rw [if_pos (by omega), Nat.sub_self, List.getElem?_cons_zero, Array.getElem?_setIfInBounds_self_of_lt hs]
      · rw [if_neg (by omega), Array.getElem?_eq_none (by simp; omega), Array.getElem?_eq_none (by omega)]
    · by_cases hj : o + 1 ≤ j ∧ j < o + 1 + r.length ∧ j < cs.size
      · rw [if_pos hj, if_pos (by omega), show j - o = (j - (o + 1)) + 1 by omega, List.getElem?_cons_succ]
      · rw [if_neg hj, if_neg (by omega), Array.getElem?_setIfInBounds_ne e]
theorem row_cells {w : World} {g : Nat} {cs : Array Value} {ty : TypeId} (hg : w.heap[g]? = some (.cells cs ty (0, 0))) (m : Nat) : ∀ j v, (cs.toList.take m)[j]? = some v → w.cell? ⟨g, j, none⟩ = some v := fun j v hj => by
  rw [List.getElem?_take] at hj
  split at hj
  · simp only [World.cell?, hg]; simpa using hj
  · cases hj
theorem frz {w : World} {g : Nat} {cs : Array Value} {ty : TypeId} (hg : w.heap[g]? = some (.cells cs ty (0, 0))) (j : Nat) : w.frozen? ⟨g, j, none⟩ = false := by simp [World.frozen?, hg]
theorem enter52 (args : Array Value) (w : World) : (callFunc 52 args).run Try.prog w = .ok (.enter 52 args) w := by
  have h1 : ∃ c, Try.f52.body = some c := ⟨_, rfl⟩
  obtain ⟨c, h1⟩ := h1
  have h2 : ¬ Try.f52.name = "runtime.NumGoroutine" := by simp [Try.f52]
  simp [callFunc, Try.func52, h1, h2]
/-- The rows of a block behind an insertion. -/
theorem ins_get {b : Blk} {x e : List V} {i k : Nat} (hi : i ≤ b.length) (h : (b.take i ++ x :: b.drop i)[k]? = some e) : (k < i ∧ b[k]? = some e) ∨ (k = i ∧ e = x) ∨ (i < k ∧ b[k - 1]? = some e) := by
  have l1 : (b.take i).length = i := by simp; omega
  rcases Nat.lt_trichotomy k i with q | q | q
  · rw [List.getElem?_append_left (by omega), List.getElem?_take_of_lt q] at h
    exact .inl ⟨q, h⟩
  · subst q
    rw [List.getElem?_append_right (by omega), l1, Nat.sub_self] at h
    exact .inr (.inl ⟨rfl, (Option.some.inj h).symm⟩)
  · rw [List.getElem?_append_right (by omega), l1, show k - i = (k - 1 - i) + 1 by omega, List.getElem?_cons_succ, List.getElem?_drop] at h
    exact .inr (.inr ⟨q, by rw [← h]; congr 1; omega⟩)
/-- The cells of the rows behind an insertion. -/
theorem ins_cells {S : Nat → Prop} {ρ : Rho} {w : World} {b : Blk} {x : List V} {i : Nat} (hi : i ≤ b.length) (hx : x.length = 2) (hb : ∀ e ∈ b, e.length = 2) {cs vs : List Value} {out : Array Value}
    (hcs : ∀ (k : Nat) (e : List V) (j : Nat) (v : V), b[k]? = some e → e[j]? = some v → ∃ c, cs[k * 2 + j]? = some c ∧ c.oneCell' = true ∧ Rep S ρ w c v)
    (hvs : ∀ (j : Nat) (v : V), x[j]? = some v → ∃ c, vs[j]? = some c ∧ c.oneCell' = true ∧ Rep S ρ w c v)
    (ho1 : ∀ j, j < i * 2 → out[j]? = cs[j]?) (ho2 : ∀ j, j < 2 → out[i * 2 + j]? = vs[j]?) (ho3 : ∀ j, i * 2 ≤ j → j < b.length * 2 → out[j + 2]? = cs[j]?) :
    ∀ (k : Nat) (e : List V) (j : Nat) (v : V), (b.take i ++ x :: b.drop i)[k]? = some e → e[j]? = some v → ∃ c, out[k * 2 + j]? = some c ∧ c.oneCell' = true ∧ Rep S ρ w c v := by
  intro k e j v hk hj
  rcases ins_get hi hk with ⟨q, h⟩ | ⟨rfl, rfl⟩ | ⟨q, h⟩
  · have hj2 : j < 2 := by rw [← hb e (List.mem_of_getElem? h)]; exact (List.getElem?_eq_some_iff.1 hj).1
    rw [ho1 _ (by omega)]
    exact hcs k e j v h hj
  · have hj2 : j < 2 := by rw [← hx]; exact (List.getElem?_eq_some_iff.1 hj).1
    rw [ho2 j hj2]
    exact hvs j v hj
  · have hj2 : j < 2 := by rw [← hb e (List.mem_of_getElem? h)]; exact (List.getElem?_eq_some_iff.1 hj).1
    have hkl : k - 1 < b.length := (List.getElem?_eq_some_iff.1 h).1
    rw [show k * 2 + j = ((k - 1) * 2 + j) + 2 by omega, ho3 _ (by omega) (by omega)]
    exact hcs (k - 1) e j v h hj
theorem ins_done {S : Nat → Prop} {ρ : Rho} {w w' : World} {h : Heap} {id i g' cap' : Nat} {l : Loc} {b : Blk} {x : List V} {out : Array Value} {ty : TypeId} (H : HInv S ρ h w) (hb : h[id]? = some b) (hl : ρ id = some l) (ht : l.tot = b.length) (hi : i < b.length) (hx : x.length = 2) (hb2 : ∀ e ∈ b, e.length = 2)
    (hS : ¬ S g') (hg' : w'.heap[g']? = some (.cells out ty (0, 0))) (hos : out.size = cap' * 2) (hcap : b.length + 1 ≤ cap') (hcm : cap' ≤ maxLen) (hoth : ∀ k, k < w.heap.size → k ≠ g' → w'.heap[k]? = w.heap[k]?) (hsz : w.heap.size ≤ w'.heap.size) (e1 : w'.os = w.os) (e2 : w'.tape = w.tape) (e3 : w'.output = w.output)
    (hgg : l.blk = some g' ∨ w.heap.size ≤ g')
    (hcell : ∀ (k : Nat) (e : List V) (j : Nat) (v : V), (b.take i ++ x :: b.drop i)[k]? = some e → e[j]? = some v → ∃ c, out[k * 2 + j]? = some c ∧ c.oneCell' = true ∧ Rep S ρ w c v) :
    ∃ ρ', HInv S ρ' (h.set id (b.take i ++ x :: b.drop i)) w' ∧ Rep S ρ' w' (.slice (some ⟨g', 0, none⟩) (b.length + 1) cap') (.own id 2 0 (b.length + 1) (b.length + 1)) ∧ Fr w S ρ S ρ' w' := by
  have hnl : (b.take i ++ x :: b.drop i).length = b.length + 1 := by simp; omega
  have hle : Le ρ (upd ρ id ⟨some g', 2, b.length + 1, cap'⟩) := Le.upd_old hl (.inr (by show l.tot < b.length + 1; omega))
  have hid : id < h.length := (List.getElem?_eq_some_iff.1 hb).1
  have hw : ∀ k, k < w.heap.size → (∀ l0, ρ id = some l0 → l0.blk ≠ some k) → w'.heap[k]? = w.heap[k]? := fun k hk hne => hoth k hk (fun e => by
    subst e
    rcases hgg with q | q
    · exact hne l hl q
    · omega)
  have hSw : ∀ k, S k → w'.heap[k]? = w.heap[k]? := fun k hk => hoth k (H.stab k hk) (fun e => hS (e ▸ hk))
  have hg : ∀ g, (⟨some g', 2, b.length + 1, cap'⟩ : Loc).blk = some g → w.heap.size ≤ g ∨ ∃ l0, ρ id = some l0 ∧ l0.blk = some g := fun g e => by
    cases e
    rcases hgg with q | q
    · exact .inr ⟨l, hl, q⟩
    · exact .inl q
  refine ⟨upd ρ id ⟨some g', 2, b.length + 1, cap'⟩, ?_, ?_, (Fr.refl w S ρ).put H id _ hsz e1 e2 e3 hle hw hg⟩
  · refine H.put id ⟨some g', 2, b.length + 1, cap'⟩ _ _ hsz hle hw ⟨hnl.symm, by rw [hnl]; exact hcap, hcm, fun e he => ?_, fun g eg => ?_, (fun e => by cases e), (fun e => by have := congrArg List.length e; rw [hnl] at this; simp at this)⟩ hg (fun k hk => by rw [List.getElem?_set_ne (Ne.symm hk)]) (by rw [List.getElem?_set_self hid])
    · rcases List.mem_append.1 he with q | q
      · exact hb2 e (List.mem_of_mem_take q)
      · rcases List.mem_cons.1 q with rfl | q
        · exact hx
        · exact hb2 e (List.mem_of_mem_drop q)
    · cases eg
      refine ⟨hS, out, ty, hg', hos, fun k e j v hk hj => ?_⟩
      obtain ⟨c, c1, c2, c3⟩ := hcell k e j v hk hj
      exact ⟨c, c1, c2, c3.mono hSw (fun _ h => h) hle⟩
  · exact .own _ (upd_same _ _ _) rfl rfl (by simp) hcap (fun _ => ⟨g', rfl, by simp⟩) (fun _ _ => ⟨rfl, fun g e => by cases e; rfl⟩)
theorem insert_c {h : Heap} {id vid n i : Nat} {b : Blk} {x : List V} (hb : h[id]? = some b) (hn : b.length = n) (hv : h[vid]? = some [x]) (hne : vid ≠ id) (hi : i < n) (hbig : (n + 1) * 16 ≤ 140737488355328) :
    C Try.prog 52 [.own id 2 0 n n, .int .i64 i, .own vid 2 0 1 1] h (fun r h' => r = .own id 2 0 (n + 1) (n + 1) ∧ h' = h.set id (b.take i ++ x :: b.drop i)) := by
  subst hn
  refine ⟨enter52, fun w S ρ cargs H hl ha => ?_⟩
  match cargs, hl, ha with
  | [c0, c1, c2], _, ha =>
    have r0 := ha 0 c0 _ rfl rfl
    have r1 := ha 1 c1 _ rfl rfl
    have r2 := ha 2 c2 _ rfl rfl
    obtain ⟨l, hρ, B⟩ := H.blk id _ hb
    obtain ⟨l2, hρ2, B2⟩ := H.blk vid _ hv
    have htot := B.tot
    have htot2 := B2.tot
    cases r1
    cases r0 with
    | @ownS a _ c _ _ _ _ l' hr ht hc hlen => rw [hρ] at hr; cases hr; omega
    | @own a _ c _ _ _ _ l' hr hsz ht hle hc p1 p2 =>
    rw [hρ] at hr; cases hr
    cases r2 with
    | @ownS a2 _ cc2 _ _ _ _ l' hr ht2 hc2 hlen => rw [hρ2] at hr; cases hr; simp at htot2; omega
    | @own a2 _ cc2 _ _ _ _ l' hr hsz2 ht2 hle2 hc2 p3 p4 =>
    rw [hρ2] at hr; cases hr
    obtain ⟨hcap, _⟩ := p2 rfl rfl
    obtain ⟨g, hg, rfl⟩ := p1 (by omega)
    obtain ⟨g2, hg2, rfl⟩ := p3 (by omega)
    subst hcap
    obtain ⟨nS, cs, ty, hgg, hcs, hcell⟩ := B.mem g hg
    obtain ⟨nS2, cs2, ty2, hgg2, hcs2, hcell2⟩ := B2.mem g2 hg2
    have hgne : g2 ≠ g := fun e => hne (H.inj vid id l2 l g2 hρ2 hρ hg2 (by rw [e]; exact hg))
    rw [← hsz] at hcs hcell
    rw [← hsz2] at hcs2 hcell2
    have hbc := B.cap
    have hbm := B.capm
    have hbc2 := B2.cap
    have hx2 : x.length = 2 := by rw [hsz2]; exact B2.sz x (by simp)
    have hb2 : ∀ e ∈ b, e.length = 2 := fun e he => by rw [hsz]; exact B.sz e he
    have hgl : g < w.heap.size := H.lt hρ hg
    simp only [List.length_cons, List.length_nil] at hbc2 htot2
    -- the cells
    have hone : ∀ v ∈ cs.toList.take (b.length * 2), v.oneCell' = true := fun v hv' => by
      obtain ⟨q, hq⟩ := List.mem_iff_getElem?.1 hv'
      rw [List.getElem?_take] at hq
      split at hq
      · rename_i hql
        have hk : q / 2 < b.length := by omega
        have hr2 := hb2 _ (List.getElem_mem hk)
        obtain ⟨c, d1, d2, d3⟩ := hcell (q / 2) _ (q % 2) _ (List.getElem?_eq_getElem hk) (List.getElem?_eq_getElem (by omega))
        rw [show q / 2 * 2 + q % 2 = q by omega] at d1
        rw [Array.getElem?_toList, d1] at hq
        cases hq; exact d2
      · cases hq
    have hone2 : ∀ v ∈ cs2.toList.take 2, v.oneCell' = true := fun v hv' => by
      obtain ⟨q, hq⟩ := List.mem_iff_getElem?.1 hv'
      rw [List.getElem?_take] at hq
      split at hq
      · obtain ⟨c, d1, d2, d3⟩ := hcell2 0 x q _ rfl (List.getElem?_eq_getElem (by omega))
        rw [Nat.zero_mul, Nat.zero_add] at d1
        rw [Array.getElem?_toList, d1] at hq
        cases hq; exact d2
      · cases hq
    have lcs : (cs.toList.take (b.length * 2)).length = b.length * 2 := by
      have h1 : cs.toList.length = l.cap * 2 := by rw [Array.length_toList]; exact hcs
      have h2 : b.length * 2 ≤ l.cap * 2 := Nat.mul_le_mul_right _ hbc
      rw [List.length_take]; omega
    have lvs : (cs2.toList.take 2).length = 2 := by
      have h1 : cs2.toList.length = l2.cap * 2 := by rw [Array.length_toList]; exact hcs2
      rw [List.length_take]; omega
    have hRcs : ∀ (k : Nat) (e : List V) (j : Nat) (v : V), b[k]? = some e → e[j]? = some v → ∃ c, (cs.toList.take (b.length * 2))[k * 2 + j]? = some c ∧ c.oneCell' = true ∧ Rep S ρ w c v := fun k e j v hk hj => by
      have hkl : k < b.length := (List.getElem?_eq_some_iff.1 hk).1
      have hj2 : j < 2 := by rw [← hb2 e (List.mem_of_getElem? hk)]; exact (List.getElem?_eq_some_iff.1 hj).1
      obtain ⟨c, d1, d2, d3⟩ := hcell k e j v hk hj
      exact ⟨c, by rw [List.getElem?_take_of_lt (by omega), Array.getElem?_toList]; exact d1, d2, d3⟩
    have hRvs : ∀ (j : Nat) (v : V), x[j]? = some v → ∃ c, (cs2.toList.take 2)[j]? = some c ∧ c.oneCell' = true ∧ Rep S ρ w c v := fun j v hj => by
      have hj2 : j < 2 := by rw [← hx2]; exact (List.getElem?_eq_some_iff.1 hj).1
      obtain ⟨c, d1, d2, d3⟩ := hcell2 0 x j v rfl hj
      rw [Nat.zero_mul, Nat.zero_add] at d1
      exact ⟨c, by rw [List.getElem?_take_of_lt hj2, Array.getElem?_toList]; exact d1, d2, d3⟩
    have hcc := row_cells hgg (b.length * 2)
    have hcv := row_cells hgg2 2
    have mx : maxLen ≤ 9223372036854775807 := by unfold maxLen; omega
    by_cases hroom : b.length + 1 ≤ l.cap
    · have hcz : (b.length + 1) * 2 ≤ l.cap * 2 := Nat.mul_le_mul_right _ hroom
      refine (insert_shift g b.length l.cap i g2 (0 * 2) cc2 _ _ w hi hroom (by omega) hgne lcs lvs (by simpa using hcc) (fun j hj => ?_) (fun j _ => frz hgg j) (fun j v hj => by simpa using hcv j v hj) hone hone2 ty2 ty cs2.size cs.size (by simp [World.shape?, hgg2]) (by simp [World.shape?, hgg]) (by omega) (frz hgg2 _) (frz hgg2 _)).mono fun e w' ⟨he, hw⟩ => ?_
      · simp only [World.cell?, hgg]
        rw [if_neg (by simp), Array.getElem?_eq_getElem (by omega)]; rfl
      · subst he
        obtain ⟨⟨o1, q1, q2, q3⟩, q4, q5, q6, q7, q8⟩ := setCells_row g ((cs.toList.take (b.length * 2)).drop (i * 2)) ((i + 1) * 2) w.drew cs ty (0, 0) hgg
        obtain ⟨⟨o2, p1, p2, p3⟩, p4, p5, p6, p7, p8⟩ := setCells_row g (cs2.toList.take 2) (i * 2) _ o1 ty (0, 0) q1
        rw [← hw] at p1 p4 p5 p6 p7 p8
        have ld : ((cs.toList.take (b.length * 2)).drop (i * 2)).length = b.length * 2 - i * 2 := by rw [List.length_drop, lcs]
        obtain ⟨ρ', D1, D2, D3⟩ := ins_done (w' := w') (g' := g) (cap' := l.cap) (out := o2) (ty := ty) H hb hρ htot hi hx2 hb2 nS p1 (by rw [p2, q2, hcs]) hroom hbm (fun k hk hne => by rw [p4 k hne, q4 k hne]; rfl) (by rw [p5, q5]; exact Nat.le_refl _) (p6.trans q6) (p7.trans q7) (p8.trans q8) (.inl hg)
          (ins_cells (by omega) hx2 hb2 hRcs hRvs (fun j hj => by
            rw [p3, if_neg (by omega), q3, if_neg (by omega), List.getElem?_take_of_lt (by omega), Array.getElem?_toList]) (fun j hj => by
            rw [p3, if_pos (by rw [lvs, q2, hcs]; omega)]; congr 1; omega) (fun j h1 h2 => by
            rw [p3, if_neg (by rw [lvs]; omega), q3, if_pos (by rw [ld, hcs]; omega), List.getElem?_drop]; congr 1; omega))
        exact ⟨_, _, _, _, ρ', rfl, ⟨rfl, rfl⟩, D1, D2, D3⟩
    · refine (insert_grow g b.length l.cap i g2 (0 * 2) cc2 _ _ w hi hbc (by omega) hbig lcs lvs (by simpa using hcc) (fun j v hj => by simpa using hcv j v hj) hone hone2).mono fun e w' ⟨he, hw⟩ => ?_
      subst he
      obtain ⟨G, hG⟩ : ∃ G, G = grownCap w (b.length + 1) l.cap 31 := ⟨_, rfl⟩
      have hGn : b.length + 1 ≤ G := by rw [hG]; exact grownCap_ge w _ _ _
      have hGm : G ≤ maxLen := by rw [hG]; exact grownCap_le_maxLen w (b.length + 1) l.cap 31 (by unfold maxLen; omega)
      rw [← hG] at hw ⊢
      obtain ⟨ROW, hROW⟩ : ∃ ROW : Array Value, ROW = ((cs.toList.take (b.length * 2)).take (i * 2)).toArray ++ Builtin.zeroCells #[.int .i64 0, .int .i64 0] (b.length + 1 - i) ++ Builtin.zeroCells #[.int .i64 0, .int .i64 0] (G - (b.length + 1)) := ⟨_, rfl⟩
      rw [← hROW] at hw
      have lt : ((cs.toList.take (b.length * 2)).take (i * 2)).length = i * 2 := by rw [List.length_take, lcs]; omega
      have hRs : ROW.size = G * 2 := by
        rw [hROW]
        simp only [Array.size_append, List.size_toArray, lt, size_zeroCells]
        simp; omega
      have hR1 : ∀ j, j < i * 2 → ROW[j]? = (cs.toList.take (b.length * 2))[j]? := fun j hj => by
        rw [hROW, Array.getElem?_append_left (by simp [lt, size_zeroCells]; omega), Array.getElem?_append_left (by simp [lt]; omega), List.getElem?_toArray, List.getElem?_take_of_lt hj]
      have hnew : ((w.alloc (.cells ROW 31)).drew).heap[w.heap.size]? = some (.cells ROW 31 (0, 0)) := heap_alloc_new w _
      obtain ⟨⟨o1, q1, q2, q3⟩, q4, q5, q6, q7, q8⟩ := setCells_row w.heap.size (cs2.toList.take 2) (i * 2) _ ROW 31 (0, 0) hnew
      obtain ⟨⟨o2, p1, p2, p3⟩, p4, p5, p6, p7, p8⟩ := setCells_row w.heap.size ((cs.toList.take (b.length * 2)).drop (i * 2)) ((i + 1) * 2) (World.drew _) o1 31 (0, 0) q1
      rw [← hw] at p1 p4 p5 p6 p7 p8
      have ld : ((cs.toList.take (b.length * 2)).drop (i * 2)).length = b.length * 2 - i * 2 := by rw [List.length_drop, lcs]
      obtain ⟨ρ', D1, D2, D3⟩ := ins_done (w' := w') (g' := w.heap.size) (cap' := G) (out := o2) (ty := 31) H hb hρ htot hi hx2 hb2 (fun hS => by have := H.stab _ hS; omega) p1 (by rw [p2, q2, hRs]) hGn hGm (fun k hk hne => by rw [p4 k hne]; show (World.setCells _ _ _ _).heap[k]? = _; rw [q4 k hne]; exact Below.heap_alloc w _ k hk) (by rw [p5]; show w.heap.size ≤ (World.setCells _ _ _ _).heap.size; rw [q5]; show w.heap.size ≤ (w.alloc _).heap.size; simp) (p6.trans q6) (p7.trans q7) (p8.trans q8) (.inr (Nat.le_refl _))
        (ins_cells (by omega) hx2 hb2 hRcs hRvs (fun j hj => by
          rw [p3, if_neg (by omega), q3, if_neg (by omega), hR1 j hj]) (fun j hj => by
          rw [p3, if_neg (by omega), q3, if_pos (by rw [lvs, hRs]; omega)]; congr 1; omega) (fun j h1 h2 => by
          rw [p3, if_pos (by rw [ld, q2, hRs]; omega), List.getElem?_drop]; congr 1; omega))
      exact ⟨_, _, _, _, ρ', rfl, ⟨rfl, rfl⟩, D1, D2, D3⟩
end Go.Av
