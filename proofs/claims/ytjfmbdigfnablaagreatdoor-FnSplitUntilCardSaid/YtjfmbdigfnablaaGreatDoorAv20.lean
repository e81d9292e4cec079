/- Arguments that the caller hands in, opened as abstract values; a law's contract brought to the machine. Conditions: a type's shape is handed over. -/
import Derived.Test.YtjfmbdigfnablaaGreatDoorAv19
import Derived.ChangeArms
import Derived.ChangeSame
import Derived.WideShapes
import Derived.OpenShut
import Derived.Deep.Slices
import Derived.Deep.Fields
namespace Go.Av
open Go.RowKit Go.ChangeShapes Go.WideShapes Go.Deep
set_option linter.unusedVariables false
set_option linter.unusedSimpArgs false

/-- All that the world holds lies still. -/
def held (W : World) : Nat → Prop := fun b => b < W.heap.size
def RepL (W : World) (cs : List Value) (vs : List V) : Prop := cs.length = vs.length ∧ ∀ (j : Nat) (c : Value) (v : V), cs[j]? = some c → vs[j]? = some v → c.oneCell' = true ∧ Rep (held W) (fun _ => none) W c v
theorem RepL.append {W : World} {cs cs' : List Value} {vs vs' : List V} (h : RepL W cs vs) (h' : RepL W cs' vs') : RepL W (cs ++ cs') (vs ++ vs') := by
  refine ⟨by simp [h.1, h'.1], fun j c v hc hv => ?_⟩
  rcases Nat.lt_or_ge j cs.length with h1 | h1
  · rw [List.getElem?_append_left h1] at hc
    rw [List.getElem?_append_left (by rw [← h.1]; exact h1)] at hv
    exact h.2 j c v hc hv
  · rw [List.getElem?_append_right h1] at hc
    rw [List.getElem?_append_right (by rw [← h.1]; exact h1), ← h.1] at hv
    exact h'.2 _ c v hc hv

section
variable {H : Type} {enc : TypeId × Value → H} {P : Program} {W : World}
/-- Whatever reads at type t stands for some a, told by e. -/
def OpensV (enc : TypeId × Value → H) (P : Program) (W : World) (t : TypeId) {α : Type} (e : α → List V) : Prop :=
  ∀ {fuel : Nat} {cs : List Value} {x : DataW H × List MemPlace}, DataW.trod enc P W 0 (fun _ => true) true fuel t cs = some x → ∃ a, RepL W cs (e a)
def OpensVF (enc : TypeId × Value → H) (P : Program) (W : World) (fs : List Field) (off tot : Nat) {α : Type} (e : α → List V) : Prop :=
  ∀ (n : Nat) (cs : List Value), cs.length = tot → (∀ f ∈ fs, ∃ y, DataW.trod enc P W 0 (fun _ => true) true n f.type ((cs.drop f.offset).take (P.cellsOf f.type)) = some y) → ∃ a, RepL W (cs.drop off) (e a)
theorem OpensV.int {t : TypeId} {k : IntKind} (ht : P.underlying t = some (.int k)) : OpensV enc P W t (fun z : Int => [.int k z]) := by
  intro fuel cs x h
  obtain ⟨z, rfl, _, hw⟩ := DataW.trod_int ht h
  refine ⟨z, rfl, fun j c v hc hv => ?_⟩
  cases j with
  | zero => simp at hc hv; subst hc hv; exact ⟨rfl, .int _ _⟩
  | succ j => simp at hc
theorem OpensV.bool {t : TypeId} (ht : P.underlying t = some .bool) : OpensV enc P W t (fun b : Bool => [.bool b]) := by
  intro fuel cs x h
  obtain ⟨z, rfl, _⟩ := DataW.trod_bool ht h
  refine ⟨z, rfl, fun j c v hc hv => ?_⟩
  cases j with
  | zero => simp at hc hv; subst hc hv; exact ⟨rfl, .bool _⟩
  | succ j => simp at hc
theorem OpensV.iso {t : TypeId} {α β : Type} {e : α → List V} {e' : β → List V} (h : OpensV enc P W t e) (g : α → β) (hg : ∀ a, e' (g a) = e a) : OpensV enc P W t e' := by
  intro fuel cs x hx
  obtain ⟨a, ha⟩ := h hx
  exact ⟨g a, by rw [hg]; exact ha⟩
theorem OpensVF.last {f : Field} {off tot : Nat} {α : Type} {e : α → List V} (ho : f.offset = off) (ht : off + P.cellsOf f.type = tot) (h : OpensV enc P W f.type e) : OpensVF enc P W [f] off tot e := by
  intro n cs hl hf
  obtain ⟨y, hy⟩ := hf f (by simp)
  rw [ho, List.take_of_length_le (by rw [List.length_drop]; omega)] at hy
  exact h hy
theorem OpensVF.cons {f : Field} {fs : List Field} {off mid tot : Nat} {α β : Type} {e : α → List V} {e' : β → List V} (ho : f.offset = off) (ht : off + P.cellsOf f.type = mid) (h : OpensV enc P W f.type e)
    (hs : OpensVF enc P W fs mid tot e') : OpensVF enc P W (f :: fs) off tot (fun p : α × β => e p.1 ++ e' p.2) := by
  intro n cs hl hf
  obtain ⟨y, hy⟩ := hf f (by simp)
  rw [ho] at hy
  obtain ⟨a, ha⟩ := h hy
  obtain ⟨b, hb⟩ := hs n cs hl (fun f' hf' => hf f' (List.mem_cons_of_mem _ hf'))
  refine ⟨(a, b), ?_⟩
  have : cs.drop off = (cs.drop off).take (P.cellsOf f.type) ++ cs.drop mid := by rw [← ht, ← List.drop_drop, List.take_append_drop]
  rw [this]
  exact ha.append hb
theorem OpensV.struct {t : TypeId} {fs : Array Field} {α : Type} {e : α → List V} {tot : Nat} (hu : P.underlying t = some (.struct fs)) (hC : P.cellsOf t = tot) (h : OpensVF enc P W fs.toList 0 tot e) : OpensV enc P W t e := by
  intro fuel cs x hx
  obtain ⟨xs, m, _, _, hl, hlen, hf⟩ := DataW.trod_struct hu hx
  have := h m cs (hl.trans hC) (fun f hfm => by
    obtain ⟨i, hi, e⟩ := List.getElem_of_mem hfm
    have hi' : i < fs.size := by simpa using hi
    have hget : fs[i]? = some f := by
      rw [Array.getElem?_eq_getElem hi']
      simpa using e
    have h1 := hf i f hget
    rw [List.getElem?_eq_getElem (by omega)] at h1
    exact ⟨_, h1⟩)
  simpa using this
theorem cellsV_one {w : World} {a : Addr} {n : Nat} {cs : List Value} (h : w.cells? 0 a n = some cs) : cs.length = n ∧ ∀ i u, cs[i]? = some u → w.cell? (a.add i) = some u := by
  obtain ⟨_, hl, hat⟩ := World.cells?_some h
  refine ⟨hl, fun i u hu => ?_⟩
  have hi : i < cs.length := (List.getElem?_eq_some_iff.1 hu).1
  rw [hat i (by omega), hu]
theorem cell_lt {w : World} {a : Addr} {u : Value} (h : w.cell? a = some u) : a.block < w.heap.size := by
  unfold World.cell? at h
  rcases Nat.lt_or_ge a.block w.heap.size with h1 | h1
  · exact h1
  · rw [Array.getElem?_eq_none h1] at h; cases h
theorem OpensV.slice {t el : TypeId} {α : Type} {e : α → List V} {sz : Nat} (ht : P.underlying t = some (.slice el)) (hsz : P.cellsOf el = sz) (h0 : 0 < sz) (hes : ∀ a, (e a).length = sz) (h : OpensV enc P W el e) :
    OpensV enc P W t (fun xs : List α => [.lst sz (xs.map e)]) := by
  intro fuel cs x hx
  have one : ∀ {c : Value} {v : V}, c.oneCell' = true → Rep (held W) (fun _ => none) W c v → RepL W [c] [v] := fun {c v} h1 h2 => ⟨rfl, fun j c' v' hc hv => by
    cases j with
    | zero => simp at hc hv; subst hc hv; exact ⟨h1, h2⟩
    | succ j => simp at hc⟩
  rcases open_slice ht hx with ⟨hcs, _⟩ | ⟨a, len, cap, m, n, D, Pl, hcs, hb, hl, hm, hmm, _, hi⟩
  · subst hcs
    exact ⟨[], one rfl (.lst (fun _ _ => undef) (by simp) (Nat.le_refl _) (by simp) (by simp) (fun h => absurd h (by simp)) (fun ad i e j v ha hx => by simp at hx) (fun i e j v hx => by simp at hx))⟩
  · have hlm : len ≤ m := by rw [hmm]; split <;> omega
    have key : ∀ n' : Nat, n' ≤ len → ∃ (xs : List α), xs.length = n' ∧ ∀ j p, xs[j]? = some p → ∃ c : List Value, RepL W c (e p) ∧ ∀ i u, c[i]? = some u → W.cell? (a.add (j * sz + i)) = some u := by
      intro n'
      induction n' with
      | zero => exact fun _ => ⟨[], rfl, by simp⟩
      | succ k ih =>
        intro hk
        obtain ⟨xs, hxl, hxc⟩ := ih (by omega)
        obtain ⟨cs', hc, ht'⟩ := hi k (by omega)
        obtain ⟨a', hk'⟩ := h ht'
        obtain ⟨hl1, hat⟩ := cellsV_one hc
        refine ⟨xs ++ [a'], by simp [hxl], fun j p hj => ?_⟩
        by_cases hjk : j < xs.length
        · rw [List.getElem?_append_left hjk] at hj
          exact hxc j p hj
        · rw [List.getElem?_append_right (by omega)] at hj
          have hj0 : j - xs.length = 0 := by
            have := (List.getElem?_eq_some_iff.1 hj).1
            simp at this
            omega
          rw [hj0] at hj
          simp at hj
          subst hj
          have hjk' : j = k := by omega
          subst hjk'
          refine ⟨cs', hk', fun i u hu => ?_⟩
          have := hat i u hu
          rwa [hsz, Go.Deep.add_add] at this
    obtain ⟨xs, hxl, hxc⟩ := key len (Nat.le_refl _)
    subst hcs
    have hcell : ∀ i p j v, xs[i]? = some p → (e p)[j]? = some v → ∃ u, W.cell? (a.add (i * sz + j)) = some u ∧ u.oneCell' = true ∧ Rep (held W) (fun _ => none) W u v := fun i p j v hi hj => by
      obtain ⟨c, h1, h2⟩ := hxc i p hi
      have hjl : j < c.length := by rw [h1.1]; exact (List.getElem?_eq_some_iff.1 hj).1
      have hc : c[j]? = some c[j] := List.getElem?_eq_getElem hjl
      exact ⟨_, h2 j _ hc, h1.2 j _ v hc hj⟩
    have hget : ∀ {i : Nat} {e' : List V}, (xs.map e)[i]? = some e' → ∃ p, xs[i]? = some p ∧ e' = e p := fun {i e'} h => by
      rw [List.getElem?_map, Option.map_eq_some_iff] at h
      obtain ⟨p, h1, h2⟩ := h
      exact ⟨p, h1, h2.symm⟩
    refine ⟨xs, one rfl (.lst (fun i j => (W.cell? (a.add (i * sz + j))).getD undef) (by simp [hxl]) (by omega) ?_ (fun e' he => ?_) (fun hpos => ⟨a, rfl, ?_⟩) (fun ad i e' j v ha hi' hj => ?_) (fun i e' j v hi' hj => ?_))⟩
    · omega
    · obtain ⟨p, _, rfl⟩ := List.mem_map.1 he; exact hes p
    · have hx0 : xs[0]? = some xs[0] := List.getElem?_eq_getElem (by omega)
      have hl0 : 0 < (e xs[0]).length := by rw [hes]; exact h0
      have he0 : (e xs[0])[0]? = some ((e xs[0])[0]'hl0) := List.getElem?_eq_getElem hl0
      obtain ⟨u, hu, _⟩ := hcell 0 _ 0 _ hx0 he0
      have := cell_lt hu
      rwa [add_block] at this
    · cases ha
      obtain ⟨p, hp, rfl⟩ := hget hi'
      obtain ⟨u, hu, h1, h2⟩ := hcell i p j v hp hj
      simp [hu, h1]
    · obtain ⟨p, hp, rfl⟩ := hget hi'
      obtain ⟨u, hu, h1, h2⟩ := hcell i p j v hp hj
      simpa [hu] using h2
/-- A slice argument. -/
theorem sliceV_arg {t el : TypeId} {r : Reach} {b0 : Nat} {v : Value} {α : Type} {e : α → V} {x : DataW H} {p : List MemPlace} (ht : P.underlying t = some (.slice el)) (h : OpensV enc P W t (fun a : α => [e a]))
    (hv : Value.okWide P W r b0 t v) (hd : DataW.Trod enc P W 0 (fun _ => true) true t v x p) : ∃ a : α, Rep (held W) (fun _ => none) W v (e a) := by
  obtain ⟨a0, len0, cap0, rfl⟩ := okWide_slice ht hv
  obtain ⟨fuel, hf⟩ := hd
  obtain ⟨a, ha⟩ := h hf
  exact ⟨a, (ha.2 0 _ _ rfl rfl).2⟩
end
theorem hinv_nil (W : World) (ht : TabOk (held W) W) : HInv (held W) (fun _ => none) [] W :=
  ⟨fun id b h => by simp at h, fun _ _ => rfl, fun id id' l l' g h => absurd h (by simp), fun b h => h, ht⟩
/-- A law's contract, on the machine. -/
theorem CP.run {P : Program} {f : FuncId} {args : List V} {b : Bool} {W : World} {cargs : List Value} (h : CP P f args (.bool b) []) (ht : TabOk (held W) W) (hl : cargs.length = args.length)
    (ha : ∀ (j : Nat) (c : Value) (v : V), cargs[j]? = some c → args[j]? = some v → Rep (held W) (fun _ => none) W c v) : Calls P f cargs.toArray W fun e w' => e = .returned (.bool b) ∧ Below W.heap.size W w' :=
  (h.2 W (held W) (fun _ => none) cargs (hinv_nil W ht) hl ha).mono fun e w' ⟨v, r, h', S', ρ', he, hQ, H', hr, F⟩ => by
    obtain ⟨_, _, g, _, e1, _⟩ := hQ
    subst e1
    simp only [V.mapId] at hr
    cases hr
    exact ⟨he, F.os, F.tape, F.output, F.size, fun k hk => F.frame k hk (fun id l hl => by cases hl)⟩
theorem lst_bound {S : Nat → Prop} {ρ : Rho} {w : World} {c : Value} {sz : Nat} {xs : List (List V)} (h : Rep S ρ w c (.lst sz xs)) : xs.length ≤ 9223372036854775807 := by
  cases h with
  | lst cf hn hc hb hs ha h1 h2 => subst hn; exact hb
end Go.Av
