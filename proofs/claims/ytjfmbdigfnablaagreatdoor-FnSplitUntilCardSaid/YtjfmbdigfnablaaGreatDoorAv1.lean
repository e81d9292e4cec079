/- Abstract values of Go's data, and how memory reads as them: a value, a heap of blocks that a call owns, and what a call keeps. No condition. -/
import Derived.WalkKit
import Derived.Below
import Derived.Lib.ItoaNum
namespace Go.Av
open Go.RowKit
set_option linter.unusedVariables false
set_option linter.unusedSimpArgs false

/-- A value: a number, a bool, a string; a struct's or an array's cells; a slice that nobody writes (its elements, each a list of cells); the nil slice; a slice of a block of the heap; a pointer into a block; a pointer at cells that nobody writes; a function with what it captured; several results; a variable's memory before its first store; nothing known. -/
inductive V where
  | int (k : IntKind) (n : Int)
  | bool (b : Bool)
  | str (s : ByteArray)
  | agg (cs : List V)
  | lst (sz : Nat) (xs : List (List V))
  | nils
  | own (id sz off len tot : Nat)
  | ptr (id tot i j : Nat)
  | rptr (cs : List V)
  | nilp
  | fn (f : Nat) (caps : List V)
  | nilf
  | tup (vs : List V)
  | hole (sz : Nat)
  | dead
  deriving Inhabited

/-- The elements of a block, each a list of cells. -/
abbrev Blk := List (List V)
abbrev Heap := List Blk

structure Loc where
  blk : Option Nat
  sz : Nat
  tot : Nat
  cap : Nat

abbrev Rho := Nat → Option Loc
def upd (ρ : Rho) (id : Nat) (l : Loc) : Rho := fun i => if i = id then some l else ρ i
theorem upd_same (ρ : Rho) (id : Nat) (l : Loc) : upd ρ id l id = some l := by simp [upd]
theorem upd_ne {ρ : Rho} {id i : Nat} {l : Loc} (h : i ≠ id) : upd ρ id l i = ρ i := by simp [upd, h]

/-- Later: every block is known still, and either lies as it lay or has grown. -/
def Le (ρ ρ' : Rho) : Prop := ∀ id l, ρ id = some l → ∃ l', ρ' id = some l' ∧ (l' = l ∨ l.tot < l'.tot)
theorem Le.refl (ρ : Rho) : Le ρ ρ := fun _ l h => ⟨l, h, .inl rfl⟩
theorem Le.trans {a b c : Rho} (h : Le a b) (k : Le b c) : Le a c := fun id l hl => by
  obtain ⟨l1, h1, e1⟩ := h id l hl
  obtain ⟨l2, h2, e2⟩ := k id l1 h1
  refine ⟨l2, h2, ?_⟩
  rcases e1 with rfl | e1
  · exact e2
  · rcases e2 with rfl | e2
    · exact .inr e1
    · exact .inr (Nat.lt_trans e1 e2)
theorem Le.upd_new {ρ : Rho} {id : Nat} {l : Loc} (h : ρ id = none) : Le ρ (upd ρ id l) := fun i m hm => by
  by_cases e : i = id
  · subst e; rw [h] at hm; cases hm
  · exact ⟨m, by rw [upd_ne e]; exact hm, .inl rfl⟩
theorem Le.upd_old {ρ : Rho} {id : Nat} {l l' : Loc} (h : ρ id = some l) (k : l' = l ∨ l.tot < l'.tot) : Le ρ (upd ρ id l') := fun i m hm => by
  by_cases e : i = id
  · subst e; rw [h] at hm; cases hm; exact ⟨l', upd_same _ _ _, k⟩
  · exact ⟨m, by rw [upd_ne e]; exact hm, .inl rfl⟩

/-- A value of the machine reads as an abstract one. S: the blocks that stay as they are; ρ: where the heap's blocks lie. -/
inductive Rep (S : Nat → Prop) (ρ : Rho) (w : World) : Value → V → Prop
  | int (k : IntKind) (n : Int) : Rep S ρ w (.int k n) (.int k n)
  | bool (b : Bool) : Rep S ρ w (.bool b) (.bool b)
  | str (s : ByteArray) : Rep S ρ w (.string s) (.str s)
  | agg {cs : Array Value} {vs : List V} (hl : cs.size = vs.length) (h : ∀ (j : Nat) (c : Value) (v : V), cs[j]? = some c → vs[j]? = some v → Rep S ρ w c v) : Rep S ρ w (.agg cs) (.agg vs)
  | lst {a : Option Addr} {n cap : Nat} {xs : List (List V)} {sz : Nat} (cf : Nat → Nat → Value) (hn : n = xs.length) (hc : n ≤ cap) (hb : n ≤ maxLen)
      (hs : ∀ e ∈ xs, e.length = sz) (ha : 0 < n → ∃ ad, a = some ad ∧ S ad.block)
      (h1 : ∀ (ad : Addr) (i : Nat) (e : List V) (j : Nat) (v : V), a = some ad → xs[i]? = some e → e[j]? = some v → w.cell? (ad.add (i * sz + j)) = some (cf i j) ∧ (cf i j).oneCell' = true)
      (h2 : ∀ (i : Nat) (e : List V) (j : Nat) (v : V), xs[i]? = some e → e[j]? = some v → Rep S ρ w (cf i j) v) : Rep S ρ w (.slice a n cap) (.lst sz xs)
  | nils : Rep S ρ w (.slice none 0 0) .nils
  | own {a : Option Addr} {len c id sz off tot : Nat} (l : Loc) (hρ : ρ id = some l) (hsz : sz = l.sz) (ht : tot = l.tot) (hl : off + len ≤ tot) (hc : len ≤ c)
      (h1 : 0 < len → ∃ g, l.blk = some g ∧ a = some ⟨g, off * sz, none⟩) (h2 : off = 0 → len = tot → c = l.cap ∧ ∀ g, l.blk = some g → a = some ⟨g, 0, none⟩) : Rep S ρ w (.slice a len c) (.own id sz off len tot)
  | ownS {a : Option Addr} {len c id sz off tot : Nat} (l : Loc) (hρ : ρ id = some l) (ht : tot < l.tot) (hc : len ≤ c) (ha : 0 < len → a.isSome = true) : Rep S ρ w (.slice a len c) (.own id sz off len tot)
  | ptr {id tot i j : Nat} (l : Loc) (g : Nat) (hρ : ρ id = some l) (hb : l.blk = some g) (ht : tot = l.tot) (hi : i < tot) : Rep S ρ w (.pointer (some ⟨g, i * l.sz + j, none⟩)) (.ptr id tot i j)
  | ptrS {a : Addr} {id tot i j : Nat} (l : Loc) (hρ : ρ id = some l) (ht : tot < l.tot) : Rep S ρ w (.pointer (some a)) (.ptr id tot i j)
  | rptr {ad : Addr} {cs : List V} (cf : Nat → Value) (hS : S ad.block) (h1 : ∀ (j : Nat) (v : V), cs[j]? = some v → w.cell? (ad.add j) = some (cf j)) (h2 : ∀ (j : Nat) (v : V), cs[j]? = some v → Rep S ρ w (cf j) v) : Rep S ρ w (.pointer (some ad)) (.rptr cs)
  | nilp : Rep S ρ w (.pointer none) .nilp
  | fn {f : Nat} {cs : Array Value} {vs : List V} (hl : cs.size = vs.length) (h : ∀ (j : Nat) (c : Value) (v : V), cs[j]? = some c → vs[j]? = some v → Rep S ρ w c v) : Rep S ρ w (.func (.func f) #[] cs) (.fn f vs)
  | nilf : Rep S ρ w .nilFunc .nilf
  | tup {cs : Array Value} {vs : List V} (hl : cs.size = vs.length) (h : ∀ (j : Nat) (c : Value) (v : V), cs[j]? = some c → vs[j]? = some v → Rep S ρ w c v) : Rep S ρ w (.tuple cs) (.tup vs)
  | hole (v : Value) (sz : Nat) : Rep S ρ w v (.hole sz)
  | dead (v : Value) : Rep S ρ w v .dead

theorem cell_of_heap {w w' : World} {b : Nat} (h : w'.heap[b]? = w.heap[b]?) {a : Addr} (e : a.block = b) : w'.cell? a = w.cell? a := by subst e; exact World.cell?_of_block h
theorem add_block (a : Addr) (i : Nat) : (a.add i).block = a.block := by unfold Addr.add; split <;> rfl

theorem Rep.mono {S S' : Nat → Prop} {ρ ρ' : Rho} {w w' : World} {v : Value} {x : V} (h : Rep S ρ w v x) (hw : ∀ b, S b → w'.heap[b]? = w.heap[b]?) (hS : ∀ b, S b → S' b) (hρ : Le ρ ρ') : Rep S' ρ' w' v x := by
  induction h with
  | int k n => exact .int k n
  | bool b => exact .bool b
  | str s => exact .str s
  | agg hl h ih => exact .agg hl ih
  | lst cf hn hc hb hs ha h1 h2 ih =>
    refine .lst cf hn hc hb hs (fun h0 => ?_) (fun ad i e j v ea hi hj => ?_) ih
    · obtain ⟨ad, e, s⟩ := ha h0; exact ⟨ad, e, hS _ s⟩
    · obtain ⟨c1, c2⟩ := h1 ad i e j v ea hi hj
      refine ⟨?_, c2⟩
      have hlt : i < _ := (List.getElem?_eq_some_iff.1 hi).1
      obtain ⟨ad', e', s⟩ := ha (by omega)
      rw [ea] at e'; cases e'
      rw [cell_of_heap (hw _ s) (add_block _ _)]; exact c1
  | nils => exact .nils
  | @own a len c id sz off tot l hl hs ht hle hc h1 h2 =>
    obtain ⟨l', hl', e⟩ := hρ id l hl
    rcases e with rfl | e
    · exact .own l' hl' hs ht hle hc h1 h2
    · exact .ownS l' hl' (by omega) hc (fun h0 => by obtain ⟨g, _, rfl⟩ := h1 h0; rfl)
  | @ownS a len c id sz off tot l hl ht hc ha =>
    obtain ⟨l', hl', e⟩ := hρ id l hl
    exact .ownS l' hl' (by rcases e with rfl | e <;> omega) hc ha
  | @ptr id tot i j l g hl hb ht hi =>
    obtain ⟨l', hl', e⟩ := hρ id l hl
    rcases e with rfl | e
    · exact .ptr l' g hl' hb ht hi
    · exact .ptrS l' hl' (by omega)
  | @ptrS a id tot i j l hl ht =>
    obtain ⟨l', hl', e⟩ := hρ id l hl
    exact .ptrS l' hl' (by rcases e with rfl | e <;> omega)
  | rptr cf s h1 h2 ih =>
    refine .rptr cf (hS _ s) (fun j v hj => ?_) ih
    rw [cell_of_heap (hw _ s) (add_block _ _)]; exact h1 j v hj
  | nilp => exact .nilp
  | fn hl h ih => exact .fn hl ih
  | nilf => exact .nilf
  | tup hl h ih => exact .tup hl ih
  | hole v sz => exact .hole v sz
  | dead v => exact .dead v

/-- One block of the heap, in memory. -/
structure HBlk (S : Nat → Prop) (ρ : Rho) (w : World) (l : Loc) (b : Blk) : Prop where
  tot : l.tot = b.length
  cap : b.length ≤ l.cap
  capm : l.cap ≤ maxLen
  sz : ∀ e ∈ b, e.length = l.sz
  mem : ∀ g, l.blk = some g → ¬ S g ∧ ∃ cs ty, w.heap[g]? = some (.cells cs ty (0, 0)) ∧ cs.size = l.cap * l.sz ∧
    ∀ (i : Nat) (e : List V) (j : Nat) (v : V), b[i]? = some e → e[j]? = some v → ∃ c, cs[i * l.sz + j]? = some c ∧ c.oneCell' = true ∧ Rep S ρ w c v
  nomem : l.blk = none → l.cap = 0
  emp : b = [] → l.cap = 0

/-- The block of the library's table of powers of ten: it is one of those that stay, and it holds the table. -/
def tabBlk : Nat := 0
def TabO (o : Option Obj) : Prop := ∃ ty fz, o = some (.cells (Lib.pow10Tab.map fun z => Value.int .u64 z).toArray ty fz)
def TabOk (S : Nat → Prop) (w : World) : Prop := S tabBlk ∧ TabO w.heap[tabBlk]?
/-- The heap in memory. -/
structure HInv (S : Nat → Prop) (ρ : Rho) (h : Heap) (w : World) : Prop where
  blk : ∀ (id : Nat) (b : Blk), h[id]? = some b → ∃ l, ρ id = some l ∧ HBlk S ρ w l b
  none_ : ∀ id, h.length ≤ id → ρ id = none
  inj : ∀ id id' l l' g, ρ id = some l → ρ id' = some l' → l.blk = some g → l'.blk = some g → id = id'
  stab : ∀ b, S b → b < w.heap.size
  tab : TabOk S w

theorem HInv.some_ {S : Nat → Prop} {ρ : Rho} {h : Heap} {w : World} (H : HInv S ρ h w) {id : Nat} {l : Loc} (e : ρ id = some l) : ∃ b, h[id]? = some b ∧ HBlk S ρ w l b := by
  have hlt : id < h.length := by
    rcases Nat.lt_or_ge id h.length with h1 | h1
    · exact h1
    · rw [H.none_ id h1] at e; cases e
  obtain ⟨l', e', hb⟩ := H.blk id h[id] (List.getElem?_eq_getElem hlt)
  rw [e] at e'; cases e'
  exact ⟨_, List.getElem?_eq_getElem hlt, hb⟩
theorem HInv.lt {S : Nat → Prop} {ρ : Rho} {h : Heap} {w : World} (H : HInv S ρ h w) {id g : Nat} {l : Loc} (e : ρ id = some l) (hb : l.blk = some g) : g < w.heap.size := by
  obtain ⟨b, _, hB⟩ := H.some_ e
  obtain ⟨_, cs, ty, hg, _⟩ := hB.mem g hb
  exact (Array.getElem?_eq_some_iff.1 hg).1

/-- What a call keeps: w0, S0, ρ0 as it began. -/
structure Fr (w0 : World) (S0 : Nat → Prop) (ρ0 : Rho) (S : Nat → Prop) (ρ : Rho) (w : World) : Prop where
  os : w.os = w0.os
  tape : w.tape = w0.tape
  output : w.output = w0.output
  size : w0.heap.size ≤ w.heap.size
  frame : ∀ b, b < w0.heap.size → (∀ id l, ρ0 id = some l → l.blk ≠ some b) → w.heap[b]? = w0.heap[b]?
  ownD : ∀ id l g, ρ id = some l → l.blk = some g → w0.heap.size ≤ g ∨ ∃ id' l', ρ0 id' = some l' ∧ l'.blk = some g
  Snew : ∀ b, S b → S0 b ∨ w0.heap.size ≤ b
  Sold : ∀ b, S0 b → S b
  le : Le ρ0 ρ

theorem Fr.refl (w : World) (S : Nat → Prop) (ρ : Rho) : Fr w S ρ S ρ w :=
  ⟨rfl, rfl, rfl, Nat.le_refl _, fun _ _ _ => rfl, fun id l g h hb => .inr ⟨id, l, h, hb⟩, fun _ h => .inl h, fun _ h => h, Le.refl ρ⟩
theorem Fr.trans {w0 w1 w2 : World} {S0 S1 S2 : Nat → Prop} {ρ0 ρ1 ρ2 : Rho} (h : Fr w0 S0 ρ0 S1 ρ1 w1) (k : Fr w1 S1 ρ1 S2 ρ2 w2) : Fr w0 S0 ρ0 S2 ρ2 w2 := by
  refine ⟨k.os.trans h.os, k.tape.trans h.tape, k.output.trans h.output, Nat.le_trans h.size k.size, fun b hb hD => ?_, fun id l g hl hg => ?_, fun b hb => ?_, fun b hb => k.Sold b (h.Sold b hb), h.le.trans k.le⟩
  · rw [k.frame b (by have := h.size; omega) (fun id l hl e => ?_), h.frame b hb hD]
    rcases h.ownD id l b hl e with h1 | ⟨id', l', e1, e2⟩
    · omega
    · exact hD id' l' e1 e2
  · rcases k.ownD id l g hl hg with h1 | ⟨id', l', e1, e2⟩
    · exact .inl (Nat.le_trans h.size h1)
    · exact h.ownD id' l' g e1 e2
  · rcases k.Snew b hb with h1 | h1
    · exact h.Snew b h1
    · exact .inr (Nat.le_trans h.size h1)
/-- The blocks that stay are as they were. -/
theorem Fr.same {w0 w : World} {S0 S : Nat → Prop} {ρ0 ρ : Rho} {h0 : Heap} (h : Fr w0 S0 ρ0 S ρ w) (H : HInv S0 ρ0 h0 w0) (b : Nat) (hb : S0 b) : w.heap[b]? = w0.heap[b]? :=
  h.frame b (H.stab b hb) (fun id l hl e => by
    obtain ⟨c, _, hB⟩ := H.some_ hl
    exact (hB.mem b e).1 hb)
theorem Rep.fr {w0 w : World} {S0 S : Nat → Prop} {ρ0 ρ : Rho} {h0 : Heap} {v : Value} {x : V} (r : Rep S0 ρ0 w0 v x) (h : Fr w0 S0 ρ0 S ρ w) (H : HInv S0 ρ0 h0 w0) : Rep S ρ w v x :=
  r.mono (fun b hb => h.same H b hb) h.Sold h.le

/-- The contract of a function: from the arguments and the heap on, it returns a result and a heap of which Q tells. -/
def C (P : Program) (f : FuncId) (args : List V) (h : Heap) (Q : V → Heap → Prop) : Prop :=
  (∀ args w, (callFunc f args).run P w = .ok (.enter f args) w) ∧ ∀ (w : World) (S : Nat → Prop) (ρ : Rho) (cargs : List Value), HInv S ρ h w → cargs.length = args.length → (∀ (j : Nat) (c : Value) (v : V), cargs[j]? = some c → args[j]? = some v → Rep S ρ w c v) →
    Calls P f cargs.toArray w fun e w' => ∃ v r h' S' ρ', e = .returned v ∧ Q r h' ∧ HInv S' ρ' h' w' ∧ Rep S' ρ' w' v r ∧ Fr w S ρ S' ρ' w'
theorem C.mono {P : Program} {f : FuncId} {args : List V} {h : Heap} {Q Q' : V → Heap → Prop} (H : C P f args h Q) (hq : ∀ r h', Q r h' → Q' r h') : C P f args h Q' :=
  ⟨H.1, fun w S ρ cargs hi hl ha => (H.2 w S ρ cargs hi hl ha).mono fun _ _ ⟨v, r, h', S', ρ', he, hQ, rest⟩ => ⟨v, r, h', S', ρ', he, hq _ _ hQ, rest⟩⟩

/-- Replacing one block of the heap, or laying a new one. -/
theorem HInv.put {S : Nat → Prop} {ρ : Rho} {h : Heap} {w w' : World} (H : HInv S ρ h w) (id : Nat) (l : Loc) (b : Blk) (h' : Heap) (hs : w.heap.size ≤ w'.heap.size)
    (hle : Le ρ (upd ρ id l)) (hw : ∀ k, k < w.heap.size → (∀ l0, ρ id = some l0 → l0.blk ≠ some k) → w'.heap[k]? = w.heap[k]?) (hB : HBlk S (upd ρ id l) w' l b)
    (hg : ∀ g, l.blk = some g → w.heap.size ≤ g ∨ ∃ l0, ρ id = some l0 ∧ l0.blk = some g)
    (h1 : ∀ i, i ≠ id → h'[i]? = h[i]?) (h2 : h'[id]? = some b) : HInv S (upd ρ id l) h' w' := by
  have hSw : ∀ k, S k → w'.heap[k]? = w.heap[k]? := fun k hk => hw k (H.stab k hk) (fun l0 e0 e => by
    obtain ⟨c, _, hB0⟩ := H.some_ e0
    exact (hB0.mem k e).1 hk)
  refine ⟨fun i c hc => ?_, fun i hi => ?_, fun i i' m m' g hm hm' hg1 hg2 => ?_, fun k hk => Nat.lt_of_lt_of_le (H.stab k hk) hs, ⟨H.tab.1, by rw [hSw _ H.tab.1]; exact H.tab.2⟩⟩
  · by_cases e : i = id
    · subst e; rw [h2] at hc; cases hc; exact ⟨l, upd_same _ _ _, hB⟩
    · rw [h1 i e] at hc
      obtain ⟨m, hm, hBm⟩ := H.blk i c hc
      refine ⟨m, by rw [upd_ne e]; exact hm, hBm.tot, hBm.cap, hBm.capm, hBm.sz, fun g eg => ?_, hBm.nomem, hBm.emp⟩
      obtain ⟨ns, cs, ty, hgg, hsz, hcell⟩ := hBm.mem g eg
      refine ⟨ns, cs, ty, ?_, hsz, fun x e1 j v hx hj => ?_⟩
      · rw [hw g (H.lt hm eg) (fun l0 e0 e1 => e (H.inj i id m l0 g hm e0 eg e1))]; exact hgg
      · obtain ⟨cc, h3, h4, h5⟩ := hcell x e1 j v hx hj
        exact ⟨cc, h3, h4, h5.mono hSw (fun _ h => h) hle⟩
  · have hne : i ≠ id := fun e => by
      subst e
      have := (List.getElem?_eq_some_iff.1 h2).1
      omega
    rw [upd_ne hne]
    refine H.none_ i ?_
    have : h[i]? = none := by rw [← h1 i hne]; exact List.getElem?_eq_none hi
    exact List.getElem?_eq_none_iff.1 this
  · by_cases e : i = id
    · by_cases e' : i' = id
      · rw [e, e']
      · subst e
        rw [upd_same] at hm; cases hm
        rw [upd_ne e'] at hm'
        rcases hg g hg1 with hge | ⟨l0, e0, e1⟩
        · have := H.lt hm' hg2; omega
        · exact H.inj i i' l0 m' g e0 hm' e1 hg2
    · by_cases e' : i' = id
      · subst e'
        rw [upd_same] at hm'; cases hm'
        rw [upd_ne e] at hm
        rcases hg g hg2 with hge | ⟨l0, e0, e1⟩
        · have := H.lt hm hg1; omega
        · exact H.inj i i' m l0 g hm e0 hg1 e1
      · rw [upd_ne e] at hm; rw [upd_ne e'] at hm'
        exact H.inj i i' m m' g hm hm' hg1 hg2
/-- And what is kept by it. -/
theorem Fr.put {w0 w w' : World} {S0 S : Nat → Prop} {ρ0 ρ : Rho} {h : Heap} (F : Fr w0 S0 ρ0 S ρ w) (H : HInv S ρ h w) (id : Nat) (l : Loc) (hs : w.heap.size ≤ w'.heap.size) (hos : w'.os = w.os) (ht : w'.tape = w.tape) (ho : w'.output = w.output)
    (hle : Le ρ (upd ρ id l)) (hw : ∀ k, k < w.heap.size → (∀ l0, ρ id = some l0 → l0.blk ≠ some k) → w'.heap[k]? = w.heap[k]?)
    (hg : ∀ g, l.blk = some g → w.heap.size ≤ g ∨ ∃ l0, ρ id = some l0 ∧ l0.blk = some g) : Fr w0 S0 ρ0 S (upd ρ id l) w' := by
  refine F.trans ⟨hos, ht, ho, hs, fun b hb hD => hw b hb (fun l0 e0 e => hD id l0 e0 e), fun i m g hm hgm => ?_, fun _ h => .inl h, fun _ h => h, hle⟩
  by_cases e : i = id
  · subst e; rw [upd_same] at hm; cases hm
    rcases hg g hgm with h1 | ⟨l0, e0, e1⟩
    · exact .inl h1
    · exact .inr ⟨i, l0, e0, e1⟩
  · rw [upd_ne e] at hm; exact .inr ⟨i, m, hm, hgm⟩
end Go.Av
