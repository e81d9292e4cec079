/- Arguments opened by their kinds: whole numbers, bools, structs and slices, however nested. Conditions: a type's shape is handed over (its fields lie one behind the other). -/
import Derived.ChangeArms
import Derived.ChangeSame
import Derived.WideShapes
import Derived.OpenShut
import Derived.Deep.Slices
import Derived.Deep.Fields
import Derived.Test.YtjfmbdigfnablaaWWords
namespace Go.Proofs.Ytjfmbdigfnablaa.Open
open Go.ChangeShapes Go.WideShapes Go.RowKit Go.Deep Go.Proofs.YtjfmbdigfnablaaW.PrintWords

section
variable {H : Type} {enc : TypeId × Value → H} {P : Program} {W : World}

/-- Whatever reads at type t is of kind d, and good. -/
def Opens (enc : TypeId × Value → H) (P : Program) (W : World) (t : TypeId) {α : Type} (d : Kd α) (good : α → Prop) : Prop :=
  ∀ {fuel : Nat} {cs : List Value} {x : DataW H × List MemPlace}, DataW.trod enc P W 0 (fun _ => true) true fuel t cs = some x → ∃ a, d.K W a cs ∧ good a
/-- The same of fields that lie one behind the other from cell 'off' to cell 'tot'. -/
def OpensF (enc : TypeId × Value → H) (P : Program) (W : World) (fs : List Field) (off tot : Nat) {α : Type} (d : Kd α) (good : α → Prop) : Prop :=
  ∀ (n : Nat) (cs : List Value), cs.length = tot → (∀ f ∈ fs, ∃ y, DataW.trod enc P W 0 (fun _ => true) true n f.type ((cs.drop f.offset).take (P.cellsOf f.type)) = some y) → ∃ a, d.K W a (cs.drop off) ∧ good a

theorem Opens.int {t : TypeId} {k : IntKind} (ht : P.underlying t = some (.int k)) : Opens enc P W t (Kd.int k) (fun z => (Lit.int k z).wf = true) := by
  intro fuel cs x h
  obtain ⟨z, rfl, _, hw⟩ := DataW.trod_int ht h
  exact ⟨z, rfl, hw⟩
theorem Opens.bool {t : TypeId} (ht : P.underlying t = some .bool) : Opens enc P W t Kd.bool (fun _ => True) := by
  intro fuel cs x h
  obtain ⟨b, rfl, _⟩ := DataW.trod_bool ht h
  exact ⟨b, rfl, trivial⟩
theorem Opens.iso {t : TypeId} {α β : Type} {d : Kd α} {good : α → Prop} {f : β → α} (g : α → β) (hg : ∀ a, f (g a) = a) (h : Opens enc P W t d good) : Opens enc P W t (Kd.iso d f) (fun b => good (f b)) := by
  intro fuel cs x hx
  obtain ⟨a, hk, ha⟩ := h hx
  refine ⟨g a, ?_, ?_⟩
  · show d.K W (f (g a)) cs
    rw [hg]; exact hk
  · show good (f (g a))
    rw [hg]; exact ha
theorem OpensF.last {f : Field} {off tot : Nat} {α : Type} {d : Kd α} {good : α → Prop} (ho : f.offset = off) (ht : off + P.cellsOf f.type = tot) (h : Opens enc P W f.type d good) : OpensF enc P W [f] off tot d good := by
  intro n cs hl hf
  obtain ⟨y, hy⟩ := hf f (by simp)
  rw [ho, List.take_of_length_le (by rw [List.length_drop]; omega)] at hy
  exact h hy
theorem OpensF.cons {f : Field} {fs : List Field} {off mid tot : Nat} {α β : Type} {d : Kd α} {d' : Kd β} {good : α → Prop} {good' : β → Prop} (ho : f.offset = off) (ht : off + P.cellsOf f.type = mid) (h : Opens enc P W f.type d good)
    (hs : OpensF enc P W fs mid tot d' good') : OpensF enc P W (f :: fs) off tot (Kd.pair d d') (fun p => good p.1 ∧ good' p.2) := by
  intro n cs hl hf
  obtain ⟨y, hy⟩ := hf f (by simp)
  rw [ho] at hy
  obtain ⟨a, ha, ga⟩ := h hy
  obtain ⟨b, hb, gb⟩ := hs n cs hl (fun f' hf' => hf f' (List.mem_cons_of_mem _ hf'))
  refine ⟨(a, b), ⟨_, _, ?_, ha, hb⟩, ga, gb⟩
  rw [← ht, ← List.drop_drop, List.take_append_drop]
theorem Opens.struct {t : TypeId} {fs : Array Field} {α : Type} {d : Kd α} {good : α → Prop} {tot : Nat} (hu : P.underlying t = some (.struct fs)) (hC : P.cellsOf t = tot) (h : OpensF enc P W fs.toList 0 tot d good) : Opens enc P W t d good := by
  intro fuel cs x hx
  obtain ⟨xs, m, _, _, hl, hlen, hf⟩ := DataW.trod_struct hu hx
  have := h m cs (hl.trans hC) (fun f hfm => by
    obtain ⟨i, hi, e⟩ := List.getElem_of_mem hfm
    have hi' : i < fs.size := by simpa using hi
    have hget : fs[i]? = some f := by
      rw [Array.getElem?_eq_getElem hi']
      simpa using e
    have h1 := hf i f hget
    rw [List.getElem?_eq_getElem (by omega)] at h1
    exact ⟨_, h1⟩)
  simpa using this
theorem cells_one {w : World} {a : Addr} {n : Nat} {cs : List Value} (h : w.cells? 0 a n = some cs) : cs.length = n ∧ ∀ i u, cs[i]? = some u → w.cell? (a.add i) = some u := by
  obtain ⟨_, hl, hat⟩ := World.cells?_some h
  refine ⟨hl, fun i u hu => ?_⟩
  have hi : i < cs.length := (List.getElem?_eq_some_iff.1 hu).1
  rw [hat i (by omega), hu]
theorem Opens.slice {t e : TypeId} {α : Type} {d : Kd α} {good : α → Prop} {E : Nat} (ht : P.underlying t = some (.slice e)) (hsz : P.cellsOf e = d.sz) (h : Opens enc P W e d good) :
    Opens enc P W t (Kd.slice E d) (fun xs => xs.length ≤ maxLen ∧ ∀ x ∈ xs, good x) := by
  intro fuel cs x hx
  rcases open_slice ht hx with ⟨hcs, _⟩ | ⟨a, len, cap, m, n, D, Pl, hcs, hb, hl, hm, hmm, _, hi⟩
  · refine ⟨[], ⟨none, 0, by simpa using hcs, Nat.le_refl _, rfl, by simp, fun h0 => absurd h0 (by simp)⟩, by simp, by simp⟩
  · have hlm : len ≤ m := by rw [hmm]; split <;> omega
    have key : ∀ n' : Nat, n' ≤ len → ∃ xs : List α, xs.length = n' ∧ (∀ x ∈ xs, good x) ∧
        ∀ j p, xs[j]? = some p → ∃ c : List Value, c.length = d.sz ∧ d.K W p c ∧ ∀ i u, c[i]? = some u → W.cell? (a.add (j * d.sz + i)) = some u := by
      intro n'
      induction n' with
      | zero => exact fun _ => ⟨[], rfl, by simp, by simp⟩
      | succ k ih =>
        intro hk
        obtain ⟨xs, hxl, hxg, hxc⟩ := ih (by omega)
        obtain ⟨cs', hc, ht'⟩ := hi k (by omega)
        obtain ⟨a', hk', hg⟩ := h ht'
        obtain ⟨hl1, hat⟩ := cells_one hc
        refine ⟨xs ++ [a'], by simp [hxl], ?_, ?_⟩
        · intro x hx'
          rcases List.mem_append.1 hx' with hx' | hx'
          · exact hxg x hx'
          · rw [List.mem_singleton.1 hx']; exact hg
        · intro j p hj
          by_cases hjk : j < xs.length
          · rw [List.getElem?_append_left hjk] at hj
            exact hxc j p hj
          · rw [List.getElem?_append_right (by omega)] at hj
            have hj0 : j - xs.length = 0 := by
              have := (List.getElem?_eq_some_iff.1 hj).1
              simp at this
              omega
            rw [hj0] at hj
            simp at hj
            subst hj
            have hjk' : j = k := by omega
            subst hjk'
            refine ⟨cs', by rw [hl1, hsz], hk', fun i u hu => ?_⟩
            have := hat i u hu
            rwa [hsz, Go.Deep.add_add] at this
    obtain ⟨xs, hxl, hxg, hxc⟩ := key len (Nat.le_refl _)
    refine ⟨xs, ⟨some a, cap, by rw [hcs, hxl], by omega, rfl, ?_, fun _ => ⟨a, rfl, hxc⟩⟩, by omega, hxg⟩
    unfold maxLen at hm
    omega
/-- A slice argument. -/
theorem slice_arg {t e : TypeId} {r : Reach} {b0 : Nat} {v : Value} {α : Type} {d : Kd α} {good' : List α → Prop} {E : Nat} {x : DataW H} {p : List MemPlace} (ht : P.underlying t = some (.slice e)) (h : Opens enc P W t (Kd.slice E d) good')
    (hv : Value.okWide P W r b0 t v) (hd : DataW.Trod enc P W 0 (fun _ => true) true t v x p) : ∃ (A : Option Addr) (c : Nat) (xs : List α), v = .slice A xs.length c ∧ xs.length ≤ c ∧ d.C W A xs.length xs ∧ good' xs := by
  obtain ⟨a0, len0, cap0, rfl⟩ := okWide_slice ht hv
  obtain ⟨fuel, hf⟩ := hd
  obtain ⟨xs, ⟨A, c, e1, hl, hC⟩, hg⟩ := h hf
  simp only [Value.cells, List.cons.injEq, and_true] at e1
  exact ⟨A, c, xs, e1, hl, hC, hg⟩
/-- A struct argument. -/
theorem agg_arg {t : TypeId} {fs : Array Field} {r : Reach} {b0 : Nat} {v : Value} {α : Type} {d : Kd α} {good : α → Prop} {x : DataW H} {p : List MemPlace} (ht : P.underlying t = some (.struct fs)) (h : Opens enc P W t d good)
    (hv : Value.okWide P W r b0 t v) (hd : DataW.Trod enc P W 0 (fun _ => true) true t v x p) : ∃ (cs : List Value) (a : α), v = .agg cs.toArray ∧ d.K W a cs ∧ good a := by
  obtain ⟨cs, rfl, _⟩ := okWide_struct ht hv
  obtain ⟨fuel, hf⟩ := hd
  obtain ⟨a, hk, hg⟩ := h hf
  refine ⟨cs.toList, a, by simp, ?_, hg⟩
  simpa [Value.cells] using hk
end
end Go.Proofs.Ytjfmbdigfnablaa.Open
