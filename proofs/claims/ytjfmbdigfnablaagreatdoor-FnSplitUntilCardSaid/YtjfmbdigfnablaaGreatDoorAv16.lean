/- Regions that draw their order: told in one order, sound for every order that the machine may take. No condition. -/
import Derived.Test.YtjfmbdigfnablaaGreatDoorAv15
import Derived.Orders
namespace Go.Av
open Go.RowKit
set_option linter.unusedVariables false
set_option linter.unusedSimpArgs false

def SOp.opds : SOp → List Opd
  | .mov x => [x]
  | .load _ _ a => [a]
  | .fieldAddr _ x => [x]
  | .field _ _ _ x => [x]
  | .idxAddr _ x i => [x, i]
  | .arrAddr _ _ x i => [x, i]
  | .idx _ _ _ x i => [x, i]
  | .bin _ x y => [x, y]
  | .beq _ x y => [x, y]
  | .not x => [x]
  | .neg x => [x]
  | .conv _ x => [x]
  | .pick c a b => [c, a, b]
  | .nilchk x => [x]
  | .ext _ x => [x]
  | .build _ parts => parts.map (·.2.2)
  | .slice _ x lo hi => x :: (lo.toList ++ hi.toList)
  | .len x => [x]
  | .slen x => [x]
  | .min x y => [x, y]
  | .max x y => [x, y]
  | .mkfn _ caps => caps
  | .hole _ => []
  | .eqs _ _ x y => [x, y]
  | .isnil _ _ x => [x]
  | .store _ a x => [a, x]
  | .birth _ t x => [t, x]
  | .box _ x => [x]
  | .zero _ => []
  | .lit _ _ _ parts => parts.map (·.2)
  | .make _ _ _ n => [n]
  | .append _ _ s x => [s, x]
  | .clear _ _ x => [x]
  | .call _ args => args
  | .callv g args => g :: args
def Opd.tmps : Opd → List Nat
  | .tmp t => [t]
  | .val _ => []
def SOp.isLoad : SOp → Bool
  | .load .. => true
  | _ => false

theorem fillV_ev {ev ev' : Opd → V} : ∀ (parts : List (Nat × Nat × Opd)) (cs : List V), (∀ x ∈ parts.map (·.2.2), ev x = ev' x) → fillV ev cs parts = fillV ev' cs parts
  | [], cs, _ => rfl
  | (a, b, x) :: ps, cs, h => by
    have h1 : ev x = ev' x := h x (by simp)
    simp only [fillV, h1, fillV_ev ps _ (fun y hy => h y (by simp only [List.map_cons, List.mem_cons]; exact .inr hy))]
theorem fillE_ev {ev ev' : Opd → V} (sz : Nat) : ∀ (parts : List (Nat × Opd)) (es : List (List V)), (∀ x ∈ parts.map (·.2), ev x = ev' x) → fillE ev sz es parts = fillE ev' sz es parts
  | [], es, _ => rfl
  | (a, x) :: ps, es, h => by
    have h1 : ev x = ev' x := h x (by simp)
    simp only [fillE, h1, fillE_ev sz ps _ (fun y hy => h y (by simp only [List.map_cons, List.mem_cons]; exact .inr hy))]
theorem map_ev {ev ev' : Opd → V} {l : List Opd} (h : ∀ x ∈ l, ev x = ev' x) : l.map ev = l.map ev' := List.map_congr_left h
theorem omap_ev {ev ev' : Opd → V} {x : Option Opd} (h : ∀ y ∈ x.toList, ev y = ev' y) : x.map ev = x.map ev' := by
  cases x with
  | none => rfl
  | some y => simp [h y (by simp)]
theorem qv_ev {o : SOp} {ev ev' : Opd → V} {h : Heap} (hx : ∀ x ∈ o.opds, ev x = ev' x) : o.qv ev h = o.qv ev' h := by
  cases o <;> simp only [SOp.opds, List.mem_cons, List.mem_append, List.not_mem_nil, or_false, forall_eq_or_imp, forall_eq] at hx <;> simp only [SOp.qv, hx]
  case build zs parts => rw [fillV_ev parts zs hx]
  case slice sz x lo hi =>
    rw [omap_ev (fun y hy => hx.2 y (.inl hy)), omap_ev (fun y hy => hx.2 y (.inr hy))]
  case mkfn f caps => rw [map_ev hx]
/-- An operation that reads no memory. -/
theorem qv_h {o : SOp} {ev : Opd → V} {h h' : Heap} (hl : o.isLoad = false) : o.qv ev h = o.qv ev h' := by
  cases o <;> first | rfl | simp [SOp.isLoad] at hl
theorem eff_quiet {P : Program} {o : SOp} {ev : Opd → V} {h : Heap} {K : V → Heap → Prop} (hq : o.isQ = true) : o.eff P ev h K = elimO (o.qv ev h) fun v => K v h := by
  cases o <;> first | rfl | simp [SOp.isQ] at hq
theorem eff_ev {P : Program} {o : SOp} {ev ev' : Opd → V} {h : Heap} {K : V → Heap → Prop} (hx : ∀ x ∈ o.opds, ev x = ev' x) : o.eff P ev h K = o.eff P ev' h K := by
  cases hq : o.isQ
  · cases o <;> simp only [SOp.isQ, Bool.true_eq_false, reduceCtorEq] at hq
    all_goals simp only [SOp.opds, List.mem_cons, List.mem_append, List.not_mem_nil, or_false, forall_eq_or_imp, forall_eq] at hx
    all_goals simp only [SOp.eff, hx]
    case lit n sz zs parts => rw [fillE_ev sz parts _ hx]
    case call f args => rw [map_ev hx]
    case callv g args => rw [map_ev hx.2]
  · rw [eff_quiet hq, eff_quiet hq, qv_ev hx]
theorem elimO_mono {α : Type} {x : Option α} {F G : α → Prop} (h : ∀ a, F a → G a) (hf : elimO x F) : elimO x G := by
  cases x with
  | none => exact hf
  | some a => exact h a hf
theorem CallE.mono {P : Program} {f : Nat} {args : List V} {h : Heap} {K K' : V → Heap → Prop} (hk : ∀ v h, K v h → K' v h) (H : CallE P f args h K) : CallE P f args h K' := by
  rcases H with ⟨Q, h1, h2⟩ | ⟨args', r, hr, h1, h2, h3⟩
  · exact .inl ⟨Q, h1, fun r h' hq => hk _ _ (h2 r h' hq)⟩
  · exact .inr ⟨args', r, hr, h1, h2, hk _ _ h3⟩
theorem eff_mono {P : Program} {o : SOp} {ev : Opd → V} {h : Heap} {K K' : V → Heap → Prop} (hk : ∀ v h, K v h → K' v h) (H : o.eff P ev h K) : o.eff P ev h K' := by
  cases hq : o.isQ
  · cases o <;> simp only [SOp.isQ, Bool.true_eq_false, reduceCtorEq] at hq <;> simp only [SOp.eff] at H ⊢
    case eqs t ng x y =>
      obtain ⟨k, xs, ys, h1, h2, h3, h4, h5⟩ := H
      exact ⟨k, xs, ys, h1, h2, h3, h4, hk _ _ h5⟩
    case isnil t ng x =>
      split at H
      · split at H
        · rename_i hx; rw [if_pos hx]; exact fun b => hk _ _ (H b)
        · rename_i hx; rw [if_neg hx]; exact hk _ _ H
      · exact fun b => hk _ _ (H b)
      · exact H
    case store sz a x =>
      split at H
      · refine elimO_mono (fun b hb => ⟨hb.1, elimO_mono (fun e he => ⟨he.1, he.2.1, he.2.2.1, hk _ _ he.2.2.2⟩) hb.2⟩) H
      · exact H
    case birth sz t x => exact ⟨H.1, H.2.1, H.2.2.1, hk _ _ H.2.2.2⟩
    case box sz x => exact ⟨H.1, H.2.1, hk _ _ H.2.2⟩
    case zero cells => exact hk _ _ H
    case lit n sz zs parts => exact elimO_mono (fun _ h => hk _ _ h) H
    case make sz bytes zs n =>
      split at H
      · exact ⟨H.1, H.2.1, hk _ _ H.2.2⟩
      · exact H
    case append sz bytes s x =>
      refine elimO_mono (fun xs H => ?_) H
      split at H
      · exact ⟨H.1, hk _ _ H.2⟩
      · exact elimO_mono (fun b h => ⟨h.1, h.2.1, h.2.2.1, h.2.2.2.1, h.2.2.2.2.1, hk _ _ h.2.2.2.2.2⟩) H
      · exact H
    case clear sz zs x =>
      split at H
      · exact elimO_mono (fun b h => ⟨h.1, h.2.1, h.2.2.1, h.2.2.2.1, hk _ _ h.2.2.2.2⟩) H
      · exact H
    case call f args => exact CallE.mono hk H
    case callv g args =>
      split at H
      · exact CallE.mono hk H
      · exact H
  · rw [eff_quiet hq] at H ⊢
    exact elimO_mono (fun v h => hk v _ h) H

/-- An operation at the head of a drawn region. -/
def SOper.hd (P : Program) (o : SOper) (K : List Ent → St → Prop) (acc : List Ent) (s : St) : Prop :=
  o.on s
    (if o.op.isQ then elimO (o.op.qv s.ev s.h) fun v => K (o.ent s v acc) (s.put o.dst (o.op.res v) s.h)
     else o.op.eff P s.ev s.h fun v h => stays h o.watch acc ∧ K acc (s.put o.dst (o.op.res v) h))
    (K acc (s.put o.dst (.tup []) s.h))
theorem swD_cons (P : Program) (o : SOper) (os : List SOper) (acc : List Ent) (K : St → Prop) (s : St) : swD P (o :: os) acc K s = o.hd P (fun acc s => swD P os acc K s) acc s := rfl
/-- Readings of which each tells no more than the other list's. -/
def AccLe (a b : List Ent) : Prop := ∀ h W, stays h W b → stays h W a
theorem AccLe.cons {a b : List Ent} (e : Ent) (h : AccLe a b) : AccLe (e :: a) (e :: b) := by
  obtain ⟨k, x, ag, sz, v⟩ := e
  exact fun hh W hs => ⟨hs.1, h hh W hs.2⟩
theorem AccLe.ent {a b : List Ent} (o : SOper) (s : St) (v : V) (h : AccLe a b) : AccLe (o.ent s v a) (o.ent s v b) := by
  unfold SOper.ent
  split
  · exact h.cons _
  · exact h
theorem on_mono {o : SOper} {s : St} {a b a' b' : Prop} (h1 : a → a') (h2 : b → b') (h : o.on s a b) : o.on s a' b' := by
  unfold SOper.on at h ⊢
  split
  · simp only [*] at h; exact h1 h
  · rename_i g want hg
    simp only [hg] at h
    cases hv : s.e g <;> simp only [hv] at h
    case bool c =>
      by_cases e : c = want
      · rw [if_pos e] at h; show (if c = want then a' else b'); rw [if_pos e]; exact h1 h
      · rw [if_neg e] at h; show (if c = want then a' else b'); rw [if_neg e]; exact h2 h
    case tup vs => cases vs with
      | nil => exact h2 h
      | cons _ _ => exact h.elim
theorem hd_mono {P : Program} {o : SOper} {K K' : List Ent → St → Prop} {a b : List Ent} {s : St} (hk : ∀ a b s, AccLe a b → K b s → K' a s) (hl : AccLe a b) (h : o.hd P K b s) : o.hd P K' a s := by
  unfold SOper.hd at h ⊢
  refine on_mono (fun h => ?_) (fun h => hk _ _ _ hl h) h
  cases hq : o.op.isQ
  · simp only [hq, Bool.false_eq_true, if_false] at h ⊢
    exact eff_mono (fun v h' hh => ⟨hl _ _ hh.1, hk _ _ _ hl hh.2⟩) h
  · simp only [hq, if_true] at h ⊢
    exact elimO_mono (fun v hh => hk _ _ _ (hl.ent o s v) hh) h
theorem swD_mono {P : Program} {K : St → Prop} : ∀ {os : List SOper} {a b : List Ent} {s : St}, AccLe a b → swD P os b K s → swD P os a K s
  | [], _, _, _, _, h => h
  | o :: os, a, b, s, hl, h => by
    rw [swD_cons] at h ⊢
    exact hd_mono (fun _ _ _ hl h => swD_mono hl h) hl h

/-- Both may be done in either order: the first of them turns nothing. -/
def SOper.reads (o : SOper) : List Nat := (match o.guard with | some (g, _) => [g] | none => []) ++ o.op.opds.flatMap Opd.tmps
def apart (c i : SOper) : Bool :=
  c.op.isQ && (match c.dst with
    | none => true
    | some d => !i.reads.contains d && !(i.dst == some d)) &&
  (match i.dst with
    | none => true
    | some d => !c.reads.contains d) && (i.op.isQ || !c.op.isLoad || i.watch.contains c.key)

theorem put_agree {s : St} {o : SOper} {d : Option Nat} {v : V} {h : Heap} (hd : ∀ x, d = some x → x ∉ o.reads) : (∀ x ∈ o.op.opds, (s.put d v h).ev x = s.ev x) ∧ (∀ g b, o.guard = some (g, b) → (s.put d v h).e g = s.e g) := by
  have key : ∀ t, t ∈ o.reads → (s.put d v h).e t = s.e t := fun t ht => by
    rw [put_e]
    split
    · rename_i e; exact absurd ht (hd t e)
    · rfl
  refine ⟨fun x hx => ?_, fun g b hg => key g (by simp [SOper.reads, hg])⟩
  cases x with
  | val v => rfl
  | tmp t => exact key t (by simp only [SOper.reads, List.mem_append, List.mem_flatMap]; exact .inr ⟨_, hx, by simp [Opd.tmps]⟩)
theorem on_agree {o : SOper} {s s' : St} {a b : Prop} (h : ∀ g b, o.guard = some (g, b) → s'.e g = s.e g) : o.on s' a b = o.on s a b := by
  unfold SOper.on
  cases hg : o.guard with
  | none => rfl
  | some p => obtain ⟨g, w⟩ := p; simp only [h g w hg]
theorem put_swap {s : St} {d e : Option Nat} {u v : V} {h h1 h2 : Heap} (hne : ∀ x, d = some x → e ≠ some x) : (s.put d u h1).put e v h = (s.put e v h2).put d u h := by
  cases d with
  | none => cases e <;> rfl
  | some x =>
    cases e with
    | none => rfl
    | some y =>
      have hxy : y ≠ x := fun e => hne x rfl (by rw [e])
      show St.mk _ _ = St.mk _ _
      congr 1
      funext t
      simp only [St.put, Av.put]
      by_cases h1 : t = y
      · by_cases h2 : t = x
        · exact absurd (h1.symm.trans h2) hxy
        · simp [h1, hxy]
      · simp [h1]
theorem ent_eq {o : SOper} {s s' : St} {v : V} {acc : List Ent} (h : ∀ x ∈ o.op.opds, s'.ev x = s.ev x) : o.ent s' v acc = o.ent s v acc := by
  unfold SOper.ent
  split
  · rename_i ag sz a ho
    rw [h a (by rw [ho]; simp [SOp.opds])]
  · rfl
theorem ent_swap (c i : SOper) (s s' : St) (v u : V) (acc : List Ent) : AccLe (c.ent s v (i.ent s' u acc)) (i.ent s' u (c.ent s v acc)) := by
  unfold SOper.ent
  split <;> split <;> intro h W hs <;> first | exact hs | exact ⟨hs.2.1, hs.1, hs.2.2⟩
theorem AccLe.refl (a : List Ent) : AccLe a a := fun _ _ h => h
theorem stays_ent {c : SOper} {s : St} {v : V} {acc : List Ent} {h : Heap} {W : List Nat} (hs : stays h W (c.ent s v acc)) : stays h W acc := by
  unfold SOper.ent at hs
  split at hs
  · exact hs.2
  · exact hs

theorem hd_swap {P : Program} {c i : SOper} {M : List Ent → St → Prop} {acc : List Ent} {s : St} (ha : apart c i = true) (hM : ∀ a b s, AccLe a b → M b s → M a s)
    (h : c.hd P (fun acc s => i.hd P M acc s) acc s) : i.hd P (fun acc s => c.hd P M acc s) acc s := by
  simp only [apart, Bool.and_eq_true] at ha
  obtain ⟨⟨⟨hcq, hcd⟩, hid⟩, hw⟩ := ha
  have hcd1 : ∀ x, c.dst = some x → x ∉ i.reads := fun x hx => by rw [hx] at hcd; simp at hcd; exact hcd.1
  have hcd2 : ∀ x, c.dst = some x → i.dst ≠ some x := fun x hx => by rw [hx] at hcd; simp at hcd; exact hcd.2
  have hid1 : ∀ x, i.dst = some x → x ∉ c.reads := fun x hx => by rw [hx] at hid; simpa using hid
  -- c's outcome, told once: v is put, the readings grow by g
  have main : ∀ (v : V) (g : List Ent → List Ent), (∀ a b, AccLe a b → AccLe (g a) (g b)) → (∀ h W, stays h W (g acc) → stays h W acc) → (∀ s' u a, AccLe (g (i.ent s' u a)) (i.ent s' u (g a))) →
      (∀ (s' : St) (a : List Ent), (∀ x ∈ c.op.opds, s'.ev x = s.ev x) → (∀ k b, c.guard = some (k, b) → s'.e k = s.e k) → (s'.h = s.h ∨ stays s'.h i.watch (g acc) ∧ i.op.isQ = false) → M (g a) (s'.put c.dst v s'.h) → c.hd P M a s') →
      i.hd P M (g acc) (s.put c.dst v s.h) → i.hd P (fun acc s => c.hd P M acc s) acc s := by
    intro v g hg1 hg2 hg3 hgo hi
    unfold SOper.hd at hi ⊢
    obtain ⟨e1, e2⟩ := put_agree (s := s) (o := i) (d := c.dst) (v := v) (h := s.h) hcd1
    rw [on_agree e2] at hi
    refine on_mono (fun hi => ?_) (fun hi => ?_) hi
    · cases hq : i.op.isQ
      · simp only [hq, Bool.false_eq_true, if_false] at hi ⊢
        rw [eff_ev (ev := (s.put c.dst v s.h).ev) e1, put_h] at hi
        refine eff_mono (fun u h' hh => ?_) hi
        obtain ⟨e3, e4⟩ := put_agree (s := s) (o := c) (d := i.dst) (v := i.op.res u) (h := h') hid1
        refine ⟨hg2 _ _ hh.1, hgo _ _ e3 e4 (.inr ⟨by rw [put_h]; exact hh.1, hq⟩) ?_⟩
        have := hh.2
        rw [put_swap (h2 := h') hcd2] at this
        rw [put_h]; exact this
      · simp only [hq, if_true] at hi ⊢
        rw [qv_ev (ev := (s.put c.dst v s.h).ev) e1, put_h] at hi
        refine elimO_mono (fun u hh => ?_) hi
        obtain ⟨e3, e4⟩ := put_agree (s := s) (o := c) (d := i.dst) (v := i.op.res u) (h := s.h) hid1
        refine hgo _ _ e3 e4 (.inl (put_h _ _ _ _)) ?_
        rw [ent_eq e1] at hh
        rw [put_swap (h2 := s.h) hcd2] at hh
        rw [put_h]
        exact hM _ _ _ (hg3 s u acc) hh
    · obtain ⟨e3, e4⟩ := put_agree (s := s) (o := c) (d := i.dst) (v := .tup []) (h := s.h) hid1
      refine hgo _ _ e3 e4 (.inl (put_h _ _ _ _)) ?_
      rw [put_h] at hi ⊢
      rw [put_swap (h2 := s.h) hcd2] at hi
      exact hi
  have skip : ∀ {g : Nat} {b : Bool}, c.guard = some (g, b) → (∀ (s' : St) (a b : Prop), s'.e g = s.e g → c.on s' a b = b) → i.hd P M acc (s.put c.dst (.tup []) s.h) → i.hd P (fun acc s => c.hd P M acc s) acc s := by
    intro g b hg hon hi
    refine main (.tup []) id (fun _ _ h => h) (fun _ _ h => h) (fun _ _ _ => AccLe.refl _) (fun s' a h1 h2 h3 hm => ?_) hi
    show c.on s' _ _
    rw [hon s' _ _ (h2 g b hg)]
    exact hm
  have done : (∀ (s' : St) (a b : Prop), (∀ k b, c.guard = some (k, b) → s'.e k = s.e k) → c.on s' a b = a) → elimO (c.op.qv s.ev s.h) (fun v => i.hd P M (c.ent s v acc) (s.put c.dst (c.op.res v) s.h)) → i.hd P (fun acc s => c.hd P M acc s) acc s := by
    intro hon hi
    obtain ⟨v, hv, hi⟩ := elim_some hi
    refine main (c.op.res v) (fun a => c.ent s v a) (fun _ _ h => h.ent c s v) (fun _ _ h => stays_ent h) (fun s' u a => ent_swap c i s s' v u a) (fun s' a h1 h2 h3 hm => ?_) hi
    show c.on s' _ _
    rw [hon s' _ _ h2]
    simp only [hcq, if_true]
    have hv' : c.op.qv s'.ev s'.h = some v := by
      rw [qv_ev h1]
      rcases h3 with h3 | ⟨h3, h4⟩
      · rw [h3]; exact hv
      · cases hl : c.op.isLoad
        · rw [qv_h (h' := s.h) hl]; exact hv
        · simp only [h4, hl, Bool.not_true, Bool.false_or] at hw
          unfold SOp.isLoad at hl
          split at hl
          · rename_i ag sz x ho
            simp only [SOper.ent, ho, stays, hw, if_true] at h3
            rw [ho]
            exact h3.1
          · cases hl
    rw [hv', elimO_some, ent_eq h1]
    exact hm
  have h0 := h
  unfold SOper.hd at h0
  simp only [hcq, if_true] at h0
  unfold SOper.on at h0
  cases hg : c.guard with
  | none =>
    simp only [hg] at h0
    exact done (fun s' a b _ => by unfold SOper.on; simp only [hg]) h0
  | some p =>
    obtain ⟨g, want⟩ := p
    simp only [hg] at h0
    cases hv : s.e g <;> simp only [hv] at h0
    case bool t =>
      by_cases e : t = want
      · rw [if_pos e] at h0
        exact done (fun s' a b h => by unfold SOper.on; simp only [hg, h g want hg, hv, if_pos e]) h0
      · rw [if_neg e] at h0
        exact skip hg (fun s' a b h => by unfold SOper.on; simp only [hg, h, hv, if_neg e]) h0
    case tup vs => cases vs with
      | nil => exact skip hg (fun s' a b h => by unfold SOper.on; simp only [hg, h, hv]) h0
      | cons _ _ => exact h0.elim
theorem hd_first {P : Program} {K : St → Prop} {i : SOper} {L2 : List SOper} : ∀ {L1 : List SOper} {acc : List Ent} {s : St}, (∀ c ∈ L1, apart c i = true) → swD P (L1 ++ i :: L2) acc K s → i.hd P (fun acc s => swD P (L1 ++ L2) acc K s) acc s
  | [], _, _, _, h => h
  | c :: L1, acc, s, ha, h => by
    rw [List.cons_append, swD_cons] at h
    have h' := hd_mono (K' := fun acc s => i.hd P (fun acc s => swD P (L1 ++ L2) acc K s) acc s) (fun a b s hl h => hd_first (fun c hc => ha c (by simp [hc])) (swD_mono hl h)) (AccLe.refl acc) h
    exact hd_swap (M := fun acc s => swD P (L1 ++ L2) acc K s) (ha c (by simp)) (fun a b s hl h => swD_mono hl h) h'
theorem hd_sw {P : Program} {o : SOper} {K : List Ent → St → Prop} {acc : List Ent} {s : St} (h : o.hd P K acc s) : o.sw P (fun s => ∃ acc, K acc s) s := by
  unfold SOper.hd at h
  unfold SOper.sw
  refine on_mono (fun h => ?_) (fun h => ⟨_, h⟩) h
  cases hq : o.op.isQ
  · simp only [hq, Bool.false_eq_true, if_false] at h
    exact eff_mono (fun v h' hh => ⟨_, hh.2⟩) h
  · simp only [hq, if_true] at h
    rw [eff_quiet hq]
    exact elimO_mono (fun v hh => ⟨_, hh⟩) h

/-- The operations that an operation waits for. -/
def waits (o : Oper) : List Nat := (o.after.toList.filter (Region.binds .any)).map (·.on)
def waitsAt (ops : Array Oper) (i : Nat) : List Nat := match ops[i]? with
  | some o => waits o
  | none => []
theorem waits_mem {o : Oper} {j : Nat} : j ∈ waits o ↔ ∃ e ∈ o.after, Region.binds .any e = true ∧ e.on = j := by
  simp only [waits, List.mem_map, List.mem_filter, Array.mem_toList_iff]
  constructor
  · rintro ⟨e, ⟨h1, h2⟩, h3⟩; exact ⟨e, h1, h2, h3⟩
  · rintro ⟨e, h1, h2, h3⟩; exact ⟨e, ⟨h1, h2⟩, h3⟩

/-- Whom an operation follows in every order, as a table says. -/
def Tab := List (List Nat)
def anc (A : List (List Nat)) (i : Nat) : List Nat := (A[i]?).getD []
/-- What a region's telling keeps: each stands at its own place, waits for none behind it, and what stands ahead of it is waited for, or may as well follow. -/
def pairOk (ops : Array Oper) (A : List (List Nat)) (c i : Nat × SOper) : Bool :=
  !(c.1 == i.1) && !(waitsAt ops c.1).contains i.1 && ((anc A i.1).contains c.1 || apart c.2 i.2)
def tabOk (ops : Array Oper) (A : List (List Nat)) (i : Nat) : Bool :=
  (anc A i).all fun c => (waitsAt ops i).contains c || (waitsAt ops i).any fun q => (anc A q).contains c
def selfOk (ops : Array Oper) (i : Nat) : Bool := (waitsAt ops i).all fun j => decide (j < ops.size) && !(j == i)

section
variable {P : Program} {w0 : World} {S0 : Nat → Prop} {ρ0 : Rho} {n : Nat}
theorem any_sound {ops : Array Oper} {A : List (List Nat)} {Q : Exit → Act → World → Prop} {K : St → Prop} (hK : ∀ s a w, K s → Sim w0 S0 ρ0 n s a w → Q .normal a w)
    (htab : ∀ i, i < ops.size → tabOk ops A i = true) (hself : ∀ i, i < ops.size → selfOk ops i = true) :
    ∀ (m : Nat) (L : List (Nat × SOper)) (listed : Array Bool) (acc : List Ent) (s : St) (a : Act) (w : World), L.length = m → L.Pairwise (fun c i => pairOk ops A c i = true) → (∀ x ∈ L, OkAt P ops n x.1 x.2) →
      listed.size = ops.size → (∀ i, i < ops.size → (listed.getD i true = false ↔ ∃ so, (i, so) ∈ L)) → (∀ q, q < ops.size → listed.getD q true = true → ∀ c ∈ anc A q, listed.getD c true = true) →
      swD P (L.map (·.2)) acc K s → Sim w0 S0 ρ0 n s a w → wpAny P .any ops Q m listed a w := by
  intro m
  induction m with
  | zero =>
    intro L listed acc s a w hl hp hok hsz hin hanc h hs
    have : L = [] := List.eq_nil_of_length_eq_zero hl
    subst this
    refine wpAny_done ?_ (hK s a w h hs) 0
    refine List.eq_nil_iff_forall_not_mem.2 fun j hj => ?_
    obtain ⟨h1, o, ho, _⟩ := mem_ready.1 hj
    have hj' : j < ops.size := (Array.getElem?_eq_some_iff.1 ho).1
    obtain ⟨so, hso⟩ := (hin j hj').1 h1
    cases hso
  | succ m ih =>
    intro L listed acc s a w hl hp hok hsz hin hanc h hs
    have hgd : ∀ j, j < ops.size → listed.getD j false = listed.getD j true := fun j hj => by
      have : j < listed.size := by omega
      simp [Array.getD_eq_getD_getElem?, this]
    refine ⟨fun h0 => ?_, fun i hi => ?_⟩
    · -- the first one is ready
      exfalso
      cases L with
      | nil => simp at hl
      | cons x L =>
        obtain ⟨i, so⟩ := x
        obtain ⟨o, ho, _⟩ := (hok (i, so) (by simp)).ok
        have hi' : i < ops.size := (Array.getElem?_eq_some_iff.1 ho).1
        have : i ∈ Region.ready .any ops listed := by
          refine mem_ready.2 ⟨(hin i hi').2 ⟨so, by simp⟩, o, ho, fun e he hb => ?_⟩
          have hw : e.on ∈ waitsAt ops i := by simp only [waitsAt, ho]; exact waits_mem.2 ⟨e, he, hb, rfl⟩
          have h1 := List.all_eq_true.1 (hself i hi') _ hw
          simp only [Bool.and_eq_true, decide_eq_true_eq, Bool.not_eq_true', beq_eq_false_iff_ne] at h1
          rw [hgd _ h1.1]
          cases hx : listed.getD e.on true
          · exfalso
            obtain ⟨so', hso'⟩ := (hin e.on h1.1).1 hx
            rcases List.mem_cons.1 hso' with h2 | h2
            · cases h2; exact h1.2 rfl
            · have h3 := (List.pairwise_cons.1 hp).1 _ h2
              simp only [pairOk, Bool.and_eq_true, Bool.not_eq_true'] at h3
              have h4 := h3.1.2
              simp only [List.contains_eq_mem, decide_eq_false_iff_not] at h4
              exact h4 hw
          · rfl
        rw [h0] at this
        cases this
    · obtain ⟨h1, o, ho, hall⟩ := mem_ready.1 hi
      have hi' : i < ops.size := (Array.getElem?_eq_some_iff.1 ho).1
      obtain ⟨so, hso⟩ := (hin i hi').1 h1
      -- all that it follows is listed
      have hw : ∀ j ∈ waitsAt ops i, listed.getD j true = true := fun j hj => by
        simp only [waitsAt, ho] at hj
        obtain ⟨e, he, hb, rfl⟩ := waits_mem.1 hj
        have h2 := hall e he hb
        rcases Nat.lt_or_ge e.on ops.size with h3 | h3
        · rw [← hgd _ h3]; exact h2
        · simp [Array.getD_eq_getD_getElem?, Array.getElem?_eq_none (show listed.size ≤ e.on by omega)] at h2
      have ha : ∀ c ∈ anc A i, listed.getD c true = true := fun c hc => by
        have h2 := List.all_eq_true.1 (htab i hi') c hc
        rw [Bool.or_eq_true] at h2
        rcases h2 with h2 | h2
        · exact hw c (by simpa using h2)
        · obtain ⟨q, hq, hcq⟩ := List.any_eq_true.1 h2
          have h3 := List.all_eq_true.1 (hself i hi') _ hq
          simp only [Bool.and_eq_true, decide_eq_true_eq] at h3
          exact hanc q h3.1 (hw q hq) c (by simpa using hcq)
      obtain ⟨L1, L2, rfl⟩ := List.append_of_mem hso
      have hp' := hp
      rw [List.pairwise_append] at hp
      obtain ⟨hp1, hp2, hp3⟩ := hp
      have hidx : ∀ x ∈ L1 ++ (i, so) :: L2, x.1 < ops.size := fun x hx => by
        obtain ⟨o, ho, _⟩ := (hok x hx).ok
        exact (Array.getElem?_eq_some_iff.1 ho).1
      have hap : ∀ c ∈ L1.map (·.2), apart c so = true := fun c hc => by
        obtain ⟨x, hx, rfl⟩ := List.mem_map.1 hc
        have h2 := hp3 x hx (i, so) (by simp)
        simp only [pairOk, Bool.and_eq_true, Bool.or_eq_true] at h2
        rcases h2.2 with h3 | h3
        · exfalso
          have h4 := ha x.1 (by simpa using h3)
          have h5 := (hin x.1 (hidx x (by simp [hx]))).2 ⟨x.2, by simp [hx]⟩
          rw [h5] at h4; cases h4
        · exact h3
      rw [List.map_append, List.map_cons] at h
      have h2 := hd_sw (hd_first hap h)
      refine op_step (hok (i, so) (by simp)) h2 hs fun s' a' w' hk hs' => ?_
      obtain ⟨acc', hk⟩ := hk
      rw [← List.map_append] at hk
      refine ih (L1 ++ L2) _ acc' s' a' w' (by simp at hl ⊢; omega) ?_ (fun x hx => hok x ?_) (by simp [hsz]) (fun j hj => ?_) (fun q hq hlq c hc => ?_) hk hs'
      · exact List.pairwise_append.2 ⟨hp1, (List.pairwise_cons.1 hp2).2, fun x hx y hy => hp3 x hx y (by simp [hy])⟩
      · rcases List.mem_append.1 hx with h3 | h3 <;> simp [h3]
      · by_cases e : i = j
        · subst e
          have : (listed.setIfInBounds i true).getD i true = true := by
            have : i < listed.size := by omega
            simp [Array.getD_eq_getD_getElem?, this]
          rw [this]
          refine ⟨fun h => absurd h (by simp), fun ⟨so', h3⟩ => ?_⟩
          exfalso
          rcases List.mem_append.1 h3 with h4 | h4
          · have h5 := hp3 _ h4 (i, so) (by simp)
            simp [pairOk] at h5
          · have h5 := (List.pairwise_cons.1 hp2).1 _ h4
            simp [pairOk] at h5
        · rw [getD_set_ne true e, hin j hj]
          refine ⟨fun ⟨so', h3⟩ => ⟨so', ?_⟩, fun ⟨so', h3⟩ => ⟨so', ?_⟩⟩
          · rcases List.mem_append.1 h3 with h4 | h4
            · exact List.mem_append.2 (.inl h4)
            · rcases List.mem_cons.1 h4 with h5 | h5
              · cases h5; exact absurd rfl e
              · exact List.mem_append.2 (.inr h5)
          · rcases List.mem_append.1 h3 with h4 | h4 <;> simp [h4]
      · have hset : ∀ c, listed.getD c true = true → (listed.setIfInBounds i true).getD c true = true := fun c hc => by
          by_cases e : i = c
          · subst e
            have : i < listed.size := by omega
            simp [Array.getD_eq_getD_getElem?, this]
          · rw [getD_set_ne true e]; exact hc
        by_cases e : i = q
        · subst e; exact hset c (ha c hc)
        · rw [getD_set_ne true e] at hlq
          exact hset c (hanc q hq hlq c hc)
end

/-- A region's telling, worked out. -/
def ancTab (ops : Array Oper) : List (List Nat) :=
  (List.range ops.size).foldl (fun A i => A ++ [(waitsAt ops i ++ (waitsAt ops i).flatMap (anc A)).eraseDups]) []
def nextOf (ops : Array Oper) (q : Nat → Bool) (done rest : List Nat) : Option Nat :=
  let r := rest.filter fun i => (waitsAt ops i).all done.contains
  match r.find? q with
  | some i => some i
  | none => r.head?
def orderOf (ops : Array Oper) (q : Nat → Bool) : Nat → List Nat → List Nat → List Nat
  | 0, _, _ => []
  | m + 1, done, rest => match nextOf ops q done rest with
    | some i => i :: orderOf ops q m (i :: done) (rest.filter (· != i))
    | none => []
def cany (P : Program) (n : Nat) (ops : Array Oper) : Option (List (Nat × SOper)) :=
  (creg P n ops).bind fun os =>
    let A := ancTab ops
    let q := fun i => ((os[i]?).map (·.op.isQ)).getD false
    let ord := orderOf ops q ops.size [] (List.range ops.size)
    let lay := fun i => (os[i]?).map fun so =>
      let before := ord.takeWhile (· != i)
      ((i, { so with key := if so.op.isLoad then i else 0, watch := if so.op.isQ then [] else before.filter fun c => ((os[c]?).map (·.op.isLoad)).getD false && !(anc A i).contains c }) : Nat × SOper)
    ord.mapM lay
def pairsOk (f : Nat × SOper → Nat × SOper → Bool) : List (Nat × SOper) → Bool
  | [] => true
  | x :: xs => xs.all (f x) && pairsOk f xs
theorem pairsOk_spec {f : Nat × SOper → Nat × SOper → Bool} : ∀ {l : List (Nat × SOper)}, pairsOk f l = true → l.Pairwise (fun x y => f x y = true)
  | [], _ => .nil
  | x :: xs, h => by
    simp only [pairsOk, Bool.and_eq_true] at h
    exact .cons (fun y hy => List.all_eq_true.1 h.1 y hy) (pairsOk_spec h.2)
def cdraw (P : Program) (n : Nat) (ops : Array Oper) : Option (List SOper) :=
  (creg P n ops).bind fun os => (cany P n ops).bind fun L =>
    let A := ancTab ops
    if L.length = ops.size ∧ (List.range ops.size).all (fun i => L.any fun x => x.1 == i) = true ∧ (List.range ops.size).all (fun i => tabOk ops A i && selfOk ops i) = true ∧ pairsOk (pairOk ops A) L = true then some (L.map (·.2)) else none
theorem creg_at {P : Program} {n : Nat} {ops : Array Oper} {os : List SOper} (h : creg P n ops = some os) {i : Nat} {so : SOper} (hi : os[i]? = some so) : OkAt P ops n i so := by
  obtain ⟨h1, h2⟩ := mapM_get h
  have hlt : i < ops.size := by have := (List.getElem?_eq_some_iff.1 hi).1; rw [← h1] at this; simpa using this
  have hg : ops[i]? = some ops[i] := Array.getElem?_eq_getElem hlt
  exact coper_ok hg (h2 i _ so (by rw [Array.getElem?_toList]; exact hg) hi)
theorem cdraw_ok {P : Program} {n : Nat} {ops : Array Oper} {os : List SOper} (h : cdraw P n ops = some os) : RegOk P n ops true (.regD os) := by
  simp only [cdraw, Option.bind_eq_some_iff] at h
  obtain ⟨os0, h0, L, hL, h⟩ := h
  split at h
  · rename_i hc
    obtain ⟨hlen, hin, htab, hpair⟩ := hc
    cases h
    have hok : ∀ x ∈ L, OkAt P ops n x.1 x.2 := fun x hx => by
      simp only [cany, Option.bind_eq_some_iff] at hL
      obtain ⟨os1, h1, h2⟩ := hL
      rw [h0] at h1; cases h1
      obtain ⟨k1, k2⟩ := mapM_get h2
      obtain ⟨k, hk⟩ := List.mem_iff_getElem?.1 hx
      have hk' : k < L.length := (List.getElem?_eq_some_iff.1 hk).1
      have h3 := k2 k _ x (List.getElem?_eq_getElem (by omega)) hk
      simp only [Option.map_eq_some_iff] at h3
      obtain ⟨so, h4, rfl⟩ := h3
      exact ⟨(creg_at h0 h4).ok⟩
    refine .draw fun w0 S0 ρ0 Q K hK s a w hsw hs => ?_
    have htab' : ∀ i, i < ops.size → tabOk ops (ancTab ops) i = true ∧ selfOk ops i = true := fun i hi => by
      have := List.all_eq_true.1 htab i (List.mem_range.2 hi)
      simpa using this
    refine any_sound hK (fun i hi => (htab' i hi).1) (fun i hi => (htab' i hi).2) ops.size L _ [] s a w hlen (pairsOk_spec hpair) hok (by simp) (fun i hi => ?_) (fun q hq hl => ?_) hsw hs
    · refine ⟨fun _ => ?_, fun _ => by simp [Array.getD_eq_getD_getElem?, hi]⟩
      have := List.all_eq_true.1 hin i (List.mem_range.2 hi)
      obtain ⟨x, hx, he⟩ := List.any_eq_true.1 this
      have he : x.1 = i := by simpa using he
      exact ⟨x.2, by rw [← he]; exact hx⟩
    · simp [Array.getD_eq_getD_getElem?, hq] at hl
  · cases h
end Go.Av
