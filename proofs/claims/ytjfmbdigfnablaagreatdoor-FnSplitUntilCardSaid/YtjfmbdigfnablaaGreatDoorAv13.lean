/- A region's operations, one by one: the state of slots and heap is followed. No condition. -/
import Derived.Test.YtjfmbdigfnablaaGreatDoorAv12
namespace Go.Av
open Go.RowKit
set_option linter.unusedVariables false
set_option linter.unusedSimpArgs false

/-- Replacing one block, where the place may be one that no block had. -/
theorem HInv.putAt {S : Nat → Prop} {ρ : Rho} {h : Heap} {w w' : World} (H : HInv S ρ h w) (id : Nat) (l : Loc) (b : Blk) (h' : Heap) (hs : w.heap.size ≤ w'.heap.size)
    (hle : Le ρ (upd ρ id l)) (hS : ∀ k, S k → w'.heap[k]? = w.heap[k]?) (hw : ∀ i m g, i ≠ id → ρ i = some m → m.blk = some g → w'.heap[g]? = w.heap[g]?) (hB : HBlk S (upd ρ id l) w' l b)
    (hg : ∀ g, l.blk = some g → ∀ i m, ρ i = some m → m.blk = some g → i = id)
    (h1 : ∀ i, i ≠ id → h'[i]? = h[i]?) (h2 : h'[id]? = some b) : HInv S (upd ρ id l) h' w' := by
  refine ⟨fun i c hc => ?_, fun i hi => ?_, fun i i' m m' g hm hm' hg1 hg2 => ?_, fun k hk => Nat.lt_of_lt_of_le (H.stab k hk) hs, ⟨H.tab.1, by rw [hS _ H.tab.1]; exact H.tab.2⟩⟩
  · by_cases e : i = id
    · subst e; rw [h2] at hc; cases hc; exact ⟨l, upd_same _ _ _, hB⟩
    · rw [h1 i e] at hc
      obtain ⟨m, hm, hBm⟩ := H.blk i c hc
      refine ⟨m, by rw [upd_ne e]; exact hm, hBm.tot, hBm.cap, hBm.capm, hBm.sz, fun g eg => ?_, hBm.nomem, hBm.emp⟩
      obtain ⟨ns, cs, ty, hgg, hsz, hcell⟩ := hBm.mem g eg
      refine ⟨ns, cs, ty, by rw [hw i m g e hm eg]; exact hgg, hsz, fun x e1 j v hx hj => ?_⟩
      obtain ⟨cc, h3, h4, h5⟩ := hcell x e1 j v hx hj
      exact ⟨cc, h3, h4, h5.mono hS (fun _ h => h) hle⟩
  · have hne : i ≠ id := fun e => by
      subst e
      have := (List.getElem?_eq_some_iff.1 h2).1
      omega
    rw [upd_ne hne]
    refine H.none_ i ?_
    have : h[i]? = none := by rw [← h1 i hne]; exact List.getElem?_eq_none hi
    exact List.getElem?_eq_none_iff.1 this
  · by_cases e : i = id
    · by_cases e' : i' = id
      · rw [e, e']
      · subst e
        rw [upd_same] at hm; cases hm
        rw [upd_ne e'] at hm'
        exact (hg g hg1 i' m' hm' hg2).symm
    · by_cases e' : i' = id
      · subst e'
        rw [upd_same] at hm'; cases hm'
        rw [upd_ne e] at hm
        exact hg g hg2 i m hm hg1
      · rw [upd_ne e] at hm; rw [upd_ne e'] at hm'
        exact H.inj i i' m m' g hm hm' hg1 hg2
theorem HInv.alloc {S : Nat → Prop} {ρ : Rho} {h : Heap} {w : World} (H : HInv S ρ h w) (o : Obj) : HInv S ρ h (w.alloc o) := by
  refine ⟨fun i c hc => ?_, H.none_, H.inj, fun k hk => Nat.lt_of_lt_of_le (H.stab k hk) (by simp), ⟨H.tab.1, by rw [Below.heap_alloc w o _ (H.stab _ H.tab.1)]; exact H.tab.2⟩⟩
  obtain ⟨m, hm, hBm⟩ := H.blk i c hc
  refine ⟨m, hm, hBm.tot, hBm.cap, hBm.capm, hBm.sz, fun g eg => ?_, hBm.nomem, hBm.emp⟩
  obtain ⟨ns, cs, ty, hgg, hsz, hcell⟩ := hBm.mem g eg
  refine ⟨ns, cs, ty, by rw [Below.heap_alloc w _ g (H.lt hm eg)]; exact hgg, hsz, fun x e1 j v hx hj => ?_⟩
  obtain ⟨cc, h3, h4, h5⟩ := hcell x e1 j v hx hj
  exact ⟨cc, h3, h4, h5.mono (fun b hb => Below.heap_alloc w _ b (H.stab b hb)) (fun _ h => h) (Le.refl ρ)⟩
theorem Fr.alloc {w0 w : World} {S0 S : Nat → Prop} {ρ0 ρ : Rho} (F : Fr w0 S0 ρ0 S ρ w) (o : Obj) : Fr w0 S0 ρ0 S ρ (w.alloc o) :=
  ⟨F.os, F.tape, F.output, Nat.le_trans F.size (by simp), fun b hb hD => by rw [Below.heap_alloc w _ b (by have := F.size; omega)]; exact F.frame b hb hD, F.ownD, F.Snew, F.Sold, F.le⟩

/-- A variable's memory before its first store: of its own, in nobody's heap. -/
def HoleOk (w0 : World) (S : Nat → Prop) (ρ : Rho) (s : St) (a : Act) (w : World) : Prop :=
  ∀ t sz, s.e t = .hole sz → ∃ g cs ty, a.tmps.getD t undef = .pointer (some ⟨g, 0, none⟩) ∧ w.heap[g]? = some (.cells cs ty (0, 0)) ∧ cs.size = sz ∧ ¬ S g ∧ w0.heap.size ≤ g ∧
    (∀ id l, ρ id = some l → l.blk ≠ some g) ∧ ∀ t' sz', s.e t' = .hole sz' → a.tmps.getD t' undef = .pointer (some ⟨g, 0, none⟩) → t' = t

/-- The slots and the heap as the machine has them. -/
structure Sim (w0 : World) (S0 : Nat → Prop) (ρ0 : Rho) (n : Nat) (s : St) (a : Act) (w : World) : Prop where
  ex : ∃ S ρ, HInv S ρ s.h w ∧ Fr w0 S0 ρ0 S ρ w ∧ (∀ t, Rep S ρ w (a.tmps.getD t undef) (s.e t)) ∧ HoleOk w0 S ρ s a w
  defers : a.defers = []
  size : a.tmps.size = n

theorem getD_put {a : Act} {d : Option Nat} {c : Value} {n : Nat} (hn : a.tmps.size = n) (hd : ∀ x, d = some x → x < n) (t : Nat) : (a.put d c).tmps.getD t undef = if d = some t then c else a.tmps.getD t undef := by
  cases d with
  | none => simp [Act.put]
  | some x =>
    have hx := hd x rfl
    by_cases e : x = t
    · subst e
      have : x < a.tmps.size := by omega
      simp [Act.put, this]
    · simp [Act.put, e, Array.getD_eq_getD_getElem?, Array.getElem?_setIfInBounds_ne e]
theorem put_e (s : St) (d : Option Nat) (v : V) (h : Heap) (t : Nat) : (s.put d v h).e t = if d = some t then v else s.e t := by
  cases d with
  | none => simp [St.put]
  | some x => by_cases e : t = x <;> simp [St.put, Av.put, e]; intro h; exact absurd h.symm e
theorem put_h (s : St) (d : Option Nat) (v : V) (h : Heap) : (s.put d v h).h = h := by cases d <;> rfl
theorem nohole_ne {v : V} {sz : Nat} : v.nohole ≠ .hole sz := by cases v <;> simp [V.nohole]
theorem Rep.nohole {S : Nat → Prop} {ρ : Rho} {w : World} {c : Value} {v : V} (h : Rep S ρ w c v) : Rep S ρ w c v.nohole := by
  cases v <;> first | exact h | exact .dead _

section
variable {P : Program} {w0 : World} {S0 : Nat → Prop} {ρ0 : Rho} {n : Nat} {s : St} {a : Act} {w : World}

theorem Sim.step {S S' : Nat → Prop} {ρ ρ' : Rho} {w' : World} {c : Value} {v : V} {h' : Heap} {d : Option Nat} (hd : ∀ x, d = some x → x < n) (H : HInv S ρ s.h w) (F : Fr w0 S0 ρ0 S ρ w) (ht : ∀ t, Rep S ρ w (a.tmps.getD t undef) (s.e t)) (ho : HoleOk w0 S ρ s a w) (hdf : a.defers = []) (hsz : a.tmps.size = n)
    (H' : HInv S' ρ' h' w') (hv : Rep S' ρ' w' c v) (F' : Fr w S ρ S' ρ' w') (hnh : ∀ sz, v ≠ .hole sz) : Sim w0 S0 ρ0 n (s.put d v h') (a.put d c) w' := by
  refine ⟨⟨S', ρ', by rw [put_h]; exact H', F.trans F', fun t => ?_, fun t sz e => ?_⟩, by cases d <;> exact hdf, by cases d <;> simp [Act.put, hsz]⟩
  · rw [getD_put hsz hd, put_e]
    split
    · exact hv
    · exact (ht t).fr F' H
  · rw [put_e] at e
    split at e
    · exact absurd e (hnh sz)
    · rename_i hne
      obtain ⟨g, cs, ty, e1, e2, e3, e4, e5, e6, e7⟩ := ho t sz e
      have hg : g < w.heap.size := (Array.getElem?_eq_some_iff.1 e2).1
      refine ⟨g, cs, ty, by rw [getD_put hsz hd, if_neg hne]; exact e1, by rw [F'.frame g hg e6]; exact e2, e3, fun hs => ?_, e5, fun id l hl hb => ?_, fun t' sz' h1 h2 => ?_⟩
      · rcases F'.Snew g hs with h1 | h1
        · exact e4 h1
        · omega
      · rcases F'.ownD id l g hl hb with h1 | ⟨id', l', h1, h2⟩
        · omega
        · exact e6 id' l' h1 h2
      · rw [put_e] at h1
        split at h1
        · exact absurd h1 (hnh sz')
        · rename_i hne'
          rw [getD_put hsz hd, if_neg hne'] at h2
          exact e7 t' sz' h1 h2

/-- The operation's place and its abstract telling. -/
structure OkAt (P : Program) (ops : Array Oper) (n i : Nat) (so : SOper) : Prop where
  ok : ∃ o, ops[i]? = some o ∧ (match o.guard with
      | none => so.guard = none
      | some (j, want) => ∃ g, (ops[j]?).bind (·.dst) = some g ∧ so.guard = some (g, want)) ∧
    ((o.dst = so.dst ∧ (∀ d, so.dst = some d → d < n) ∧ cop P o.op = some so.op ∧ so.op.isHole = false) ∨
     (∃ t d zs, o.op = .alloc t ∧ o.dst = some d ∧ so.dst = some d ∧ d < n ∧ zeroT P t = some zs ∧ so.op = .hole zs.length ∧ so.guard = none) ∨
     (∃ t d x x' sz, o.op = .store t (.tmp d) x ∧ o.dst = none ∧ so.dst = some d ∧ d < n ∧ szT P t = some sz ∧ copd x = some x' ∧ so.op = .birth sz (.tmp d) x' ∧ so.guard = none))


theorem yielded_of {ops : Array Oper} {j g : Nat} {b : Bool} {S : Nat → Prop} {ρ : Rho} (hj : (ops[j]?).bind (·.dst) = some g) (ht : ∀ t, Rep S ρ w (a.tmps.getD t undef) (s.e t)) (hb : s.e g = .bool b) : yielded ops a.tmps j = some b := by
  have h := ht g
  rw [hb] at h
  generalize hc : a.tmps.getD g undef = c at h
  cases h
  have hlt : g < a.tmps.size := by
    rcases Nat.lt_or_ge g a.tmps.size with h1 | h1
    · exact h1
    · simp [Array.getD_eq_getD_getElem?, Array.getElem?_eq_none h1, undef] at hc
  have hg : a.tmps[g]? = some (.bool b) := by
    rw [Array.getElem?_eq_getElem hlt]
    simp [Array.getD_eq_getD_getElem?, Array.getElem?_eq_getElem hlt] at hc
    rw [hc]
  unfold yielded
  rw [hj]
  simp [hg]

theorem step_undef {d : Option Nat} (hd : ∀ x, d = some x → x < n) (hs : Sim w0 S0 ρ0 n s a w) : Sim w0 S0 ρ0 n (s.put d (.tup []) s.h) (a.put d undef) w := by
  obtain ⟨⟨S, ρ, H, F, ht, ho⟩, hdf, hsz⟩ := hs
  exact Sim.step hd H F ht ho hdf hsz H (.tup rfl fun j c v h => by simp at h) (Fr.refl w S ρ) (fun sz h => by cases h)

theorem res_nohole {o : SOp} (h : o.isHole = false) (v : V) : o.res v = v.nohole := by simp [SOp.res, h]

/-- An operation in its place. -/
theorem op_step {ops : Array Oper} {i : Nat} {so : SOper} {K : St → Prop} {next : Act → World → Prop} {Q : Exit → Act → World → Prop} (hok : OkAt P ops n i so) (hsw : so.sw P K s) (hs : Sim w0 S0 ρ0 n s a w)
    (hK : ∀ s' a' w', K s' → Sim w0 S0 ρ0 n s' a' w' → next a' w') : wpOp P ops Q i next a w := by
  obtain ⟨o, hoi, hguard, hcase⟩ := hok.ok
  unfold wpOp
  simp only [hoi]
  have hs' := hs
  obtain ⟨⟨S, ρ, H, F, ht, ho⟩, hdf, hsz⟩ := hs
  -- the operation is done
  have done : (so.op.eff P s.ev s.h fun v h => K (s.put so.dst (so.op.res v) h)) → o.wp P a w next Q := by
    intro he
    rcases hcase with ⟨hd, hdn, hc, hnh⟩ | ⟨t, d, zs, h1, h2, h3, h4, h5, h6, _⟩ | ⟨t, d, x, x', sz, h1, h2, h3, h4, h5, h6, h7, _⟩
    · refine op_sound hc H ht he fun c w' v h' S' ρ' hk H' hv F' => ?_
      rw [res_nohole hnh] at hk
      rw [hd]
      exact hK _ _ _ hk (Sim.step hdn H F ht ho hdf hsz H' hv.nohole F' (fun sz => nohole_ne))
    · rw [h6] at he
      simp only [SOp.eff, SOp.qv, elimO_some, SOp.res, SOp.isHole, if_true, h3] at he
      obtain ⟨i', z, hi', hzz, hzl, hzc⟩ := zeroT_spec h5 S ρ w
      refine wp_value (c := .pointer (some ⟨w.heap.size, 0, none⟩)) (w' := w.alloc (.cells z.cells t)) (by simp [execOp, h1, Instr.alloc, zeroValue, typeInfo, hi', hzz, newVar, newRow]) ?_
      rw [h2]
      have hdn : ∀ x, some d = some x → x < n := fun x hx => by cases hx; exact h4
      refine hK _ _ _ he ⟨⟨S, ρ, by rw [put_h]; exact H.alloc _, F.alloc _, fun t' => ?_, fun t' sz' e => ?_⟩, hdf, by simp [Act.put, hsz]⟩
      · rw [getD_put hsz hdn, put_e]
        split
        · exact .hole _ _
        · exact (ht t').mono (fun b hb => Below.heap_alloc w _ b (H.stab b hb)) (fun _ h => h) (Le.refl ρ)
      · rw [put_e] at e
        split at e
        · rename_i hdt
          cases hdt
          cases e
          refine ⟨w.heap.size, z.cells, t, by rw [getD_put hsz hdn, if_pos rfl], heap_alloc_new w _, hzl, fun hS => by have := H.stab _ hS; omega, F.size, fun id l hl hb => by have := H.lt hl hb; omega, fun t' sz' h1' h2' => ?_⟩
          rw [getD_put hsz hdn] at h2'
          split at h2'
          · rename_i hdt'; cases hdt'; rfl
          · rename_i hne
            rw [put_e, if_neg hne] at h1'
            obtain ⟨g, _, _, e1, e2, _⟩ := ho t' sz' h1'
            rw [e1] at h2'
            cases h2'
            have := (Array.getElem?_eq_some_iff.1 e2).1
            omega
        · rename_i hne
          obtain ⟨g, cs, ty, e1, e2, e3, e4, e5, e6, e7⟩ := ho t' sz' e
          have hg : g < w.heap.size := (Array.getElem?_eq_some_iff.1 e2).1
          refine ⟨g, cs, ty, by rw [getD_put hsz hdn, if_neg hne]; exact e1, by rw [Below.heap_alloc w _ g hg]; exact e2, e3, e4, e5, e6, fun t2 sz2 h1' h2' => ?_⟩
          rw [put_e] at h1'
          rw [getD_put hsz hdn] at h2'
          split at h2'
          · cases h2'; omega
          · rename_i hne2
            rw [if_neg hne2] at h1'
            exact e7 t2 sz2 h1' h2'
    · rw [h7] at he
      simp only [SOp.eff, SOp.res, SOp.isHole, Bool.false_eq_true, if_false, V.nohole, h3] at he
      obtain ⟨c1, c2, c3, hk⟩ := he
      obtain ⟨g, cs, ty, e1, e2, e3, e4, e5, e6, e7⟩ := ho d sz c1
      have hrx := opd_rep ht h6
      obtain ⟨v1, v2⟩ := hrx.cells c3
      have hvl : (a.eval x).cells.toList.length = sz := by rw [Array.length_toList, v1, c2]
      have hst := run_storeCells_at P g 0 ty (a.eval x).cells.toList 0 cs w e2 (by rw [hvl]; omega) (fun u hu => by
        obtain ⟨k, hk⟩ := List.mem_iff_getElem?.1 hu
        have hk' : k < (s.ev x').cells.length := by
          have := (List.getElem?_eq_some_iff.1 hk).1
          rw [hvl] at this; omega
        exact (v2 k u _ (by rw [← Array.getElem?_toList]; exact hk) (List.getElem?_eq_getElem hk')).1)
      have hrow : (cs.toList.take (0 + 0) ++ (a.eval x).cells.toList ++ cs.toList.drop (0 + 0 + (a.eval x).cells.toList.length)).toArray = (a.eval x).cells := by
        have : cs.toList.drop (0 + 0 + (a.eval x).cells.toList.length) = [] := List.drop_eq_nil_of_le (by rw [hvl, Array.length_toList]; omega)
        rw [this]; simp
      rw [hrow] at hst
      have hall : ∀ k, k ≠ g → (w.setRow g (a.eval x).cells).heap[k]? = w.heap[k]? := fun k hk => setRow_other w g k _ (fun e => hk (by first | exact e | exact e.symm))
      have hat := setRow_heap w g cs (a.eval x).cells ty (0, 0) e2
      have hrest : (w.setRow g (a.eval x).cells).heap.size = w.heap.size ∧ (w.setRow g (a.eval x).cells).os = w.os ∧ (w.setRow g (a.eval x).cells).tape = w.tape ∧ (w.setRow g (a.eval x).cells).output = w.output := ⟨by simp [World.setRow], rfl, rfl, rfl⟩
      generalize w.setRow g (a.eval x).cells = w' at hst hall hat hrest
      have hed : a.eval (.tmp d) = .pointer (some ⟨g, 0, none⟩) := e1
      refine wp_skip_ (w' := w') (by simp [execOp, h1, Instr.storeAt, hed, Instr.sureAddr, storeVar, run_sizeOf h5, v1, c2, hst]) ?_
      rw [h2]
      have hgw : g < w.heap.size := (Array.getElem?_eq_some_iff.1 e2).1
      have hnew : ρ s.h.length = none := H.none_ _ (Nat.le_refl _)
      have hle : Le ρ (upd ρ s.h.length ⟨some g, sz, 1, 1⟩) := Le.upd_new hnew
      have hSw : ∀ k, S k → w'.heap[k]? = w.heap[k]? := fun k hk => hall k (fun e => e4 (e ▸ hk))
      have hrep : ∀ {c v}, Rep S ρ w c v → Rep S (upd ρ s.h.length ⟨some g, sz, 1, 1⟩) w' c v := fun r => r.mono hSw (fun _ h => h) hle
      have H' : HInv S (upd ρ s.h.length ⟨some g, sz, 1, 1⟩) (s.h ++ [[(s.ev x').cells]]) w' := by
        refine H.putAt s.h.length ⟨some g, sz, 1, 1⟩ [(s.ev x').cells] _ (by omega) hle hSw (fun i m g' hi hm hb => hall g' (fun e => by subst e; exact e6 i m hm hb))
          ⟨rfl, Nat.le_refl _, by simp [maxLen], fun e he => by simp at he; subst he; exact c2, fun g' eg => ?_, (fun e => by cases e), (fun e => by cases e)⟩ (fun g' eg i m hm hb => by cases eg; exact absurd hb (e6 i m hm)) (fun k hk => ?_) (by simp)
        · cases eg
          refine ⟨e4, (a.eval x).cells, ty, hat, by rw [v1, c2]; simp, fun k e j v hk hj => ?_⟩
          have hk0 : k = 0 := by have := (List.getElem?_eq_some_iff.1 hk).1; simp at this; exact this
          subst hk0
          simp at hk; subst hk
          have hlt : j < (a.eval x).cells.size := by have := (List.getElem?_eq_some_iff.1 hj).1; omega
          have hg : (a.eval x).cells[j]? = some (a.eval x).cells[j] := Array.getElem?_eq_getElem hlt
          obtain ⟨d1, d2⟩ := v2 j _ v hg hj
          exact ⟨_, by simp only [Nat.zero_mul, Nat.zero_add]; exact hg, d1, hrep d2⟩
        · rcases Nat.lt_or_ge k s.h.length with h1 | h1
          · rw [List.getElem?_append_left h1]
          · rw [List.getElem?_eq_none (by simp; omega), List.getElem?_eq_none h1]
      have F' : Fr w0 S0 ρ0 S (upd ρ s.h.length ⟨some g, sz, 1, 1⟩) w' := by
        refine ⟨hrest.2.1.trans F.os, hrest.2.2.1.trans F.tape, hrest.2.2.2.trans F.output, by have := F.size; omega, fun b hb hD => by rw [hall b (by omega)]; exact F.frame b hb hD, fun id l g' hl hb => ?_, F.Snew, F.Sold, F.le.trans hle⟩
        by_cases e : id = s.h.length
        · subst e; rw [upd_same] at hl; cases hl; cases hb; exact .inl e5
        · rw [upd_ne e] at hl; exact F.ownD id l g' hl hb
      refine hK _ _ _ hk ⟨⟨S, _, by rw [put_h]; exact H', F', fun t' => ?_, fun t' sz' e => ?_⟩, hdf, hsz⟩
      · rw [put_e]
        show Rep S _ w' (a.tmps.getD t' undef) _
        split
        · rename_i hdt
          cases hdt
          rw [e1]
          have := Rep.ptr (S := S) (w := w') (id := s.h.length) (tot := 1) (i := 0) (j := 0) (ρ := upd ρ s.h.length ⟨some g, sz, 1, 1⟩) ⟨some g, sz, 1, 1⟩ g (upd_same _ _ _) rfl rfl (by omega)
          simp at this; exact this
        · exact hrep (ht t')
      · rw [put_e] at e
        split at e
        · cases e
        · rename_i hne
          obtain ⟨g2, cs2, ty2, f1, f2, f3, f4, f5, f6, f7⟩ := ho t' sz' e
          have hgg : g2 ≠ g := fun h => hne (by rw [e7 t' sz' e (by rw [f1, h])])
          refine ⟨g2, cs2, ty2, f1, by rw [hall g2 hgg]; exact f2, f3, f4, f5, fun id l hl hb => ?_, fun t2 sz2 k1 k2 => ?_⟩
          · by_cases e : id = s.h.length
            · subst e; rw [upd_same] at hl; cases hl; cases hb; exact hgg rfl
            · rw [upd_ne e] at hl; exact f6 id l hl hb
          · rw [put_e] at k1
            split at k1
            · cases k1
            · exact f7 t2 sz2 k1 k2
  unfold SOper.sw SOper.on at hsw
  cases hg : o.guard with
  | none =>
    rw [hg] at hguard
    simp only at hguard
    simp only [hguard] at hsw
    have hw : Region.wanted o (yielded ops a.tmps) = true := by simp [Region.wanted, hg]
    simp only [hw, if_true]
    exact .inl (done hsw)
  | some gw =>
    obtain ⟨j, want⟩ := gw
    rw [hg] at hguard
    simp only at hguard
    obtain ⟨g, hj, hgs⟩ := hguard
    simp only [hgs] at hsw
    have skip : Region.wanted o (yielded ops a.tmps) = false → K (s.put so.dst (.tup []) s.h) → (if Region.wanted o (yielded ops a.tmps) = true then o.wp P a w next Q ∨ (o.asks P a w ∧ LetsOut Q) else next (a.put o.dst undef) w) := by
      intro hw hk
      simp only [hw, Bool.false_eq_true, if_false]
      rcases hcase with ⟨hd, hdn, _⟩ | ⟨_, _, _, _, _, _, _, _, _, h7⟩ | ⟨_, _, _, _, _, _, _, _, _, _, _, _, h7⟩
      · rw [hd]
        exact hK _ _ _ hk (step_undef hdn hs')
      · rw [hgs] at h7; cases h7
      · rw [hgs] at h7; cases h7
    cases hb : s.e g <;> simp only [hb] at hsw
    case bool b =>
      have hy := yielded_of (ops := ops) (a := a) (w := w) hj ht hb
      by_cases hbw : b = want
      · rw [if_pos hbw] at hsw
        have hw : Region.wanted o (yielded ops a.tmps) = true := by simp [Region.wanted, hg, hy, hbw]
        simp only [hw, if_true]
        exact .inl (done hsw)
      · rw [if_neg hbw] at hsw
        exact skip (by simp [Region.wanted, hg, hy, hbw]) hsw
    case tup vs =>
      cases vs with
      | cons x xs => exact hsw.elim
      | nil =>
        refine skip ?_ hsw
        have h := ht g
        rw [hb] at h
        generalize hc : a.tmps.getD g undef = c at h
        have hy : yielded ops a.tmps j = none := by
          unfold yielded
          rw [hj]
          cases h with
          | @tup cs _ hl _ =>
            simp only [Option.bind_some]
            rcases Nat.lt_or_ge g a.tmps.size with h1 | h1
            · simp [Array.getD_eq_getD_getElem?, Array.getElem?_eq_getElem h1] at hc
              simp [Array.getElem?_eq_getElem h1, hc]
            · simp [Array.getElem?_eq_none h1]
        simp [Region.wanted, hg, hy]
end
end Go.Av
