/- Operations over abstract values, and what a function's code comes to: a predicate transformer over an environment of slots and a heap of blocks. No condition. -/
import Derived.Test.YtjfmbdigfnablaaGreatDoorAv1
namespace Go.Av
open Go.RowKit
set_option linter.unusedVariables false
set_option linter.unusedSimpArgs false

mutual
/-- A value with its blocks' numbers renamed. -/
def V.mapId (f : Nat → Nat) : V → V
  | .agg cs => .agg (V.mapL f cs)
  | .lst sz xs => .lst sz (V.mapLL f xs)
  | .own id sz off len tot => .own (f id) sz off len tot
  | .ptr id tot i j => .ptr (f id) tot i j
  | .rptr cs => .rptr (V.mapL f cs)
  | .fn g cs => .fn g (V.mapL f cs)
  | .tup vs => .tup (V.mapL f vs)
  | .int k n => .int k n
  | .bool b => .bool b
  | .str s => .str s
  | .nils => .nils
  | .nilp => .nilp
  | .nilf => .nilf
  | .hole sz => .hole sz
  | .dead => .dead
def V.mapL (f : Nat → Nat) : List V → List V
  | [] => []
  | x :: xs => V.mapId f x :: V.mapL f xs
def V.mapLL (f : Nat → Nat) : List (List V) → List (List V)
  | [] => []
  | x :: xs => V.mapL f x :: V.mapLL f xs
end
mutual
/-- All blocks' numbers lie below n. -/
def V.refs (n : Nat) : V → Bool
  | .agg cs => V.refsL n cs
  | .lst _ xs => V.refsLL n xs
  | .own id _ _ _ _ => decide (id < n)
  | .ptr id _ _ _ => decide (id < n)
  | .rptr cs => V.refsL n cs
  | .fn _ cs => V.refsL n cs
  | .tup vs => V.refsL n vs
  | _ => true
def V.refsL (n : Nat) : List V → Bool
  | [] => true
  | x :: xs => V.refs n x && V.refsL n xs
def V.refsLL (n : Nat) : List (List V) → Bool
  | [] => true
  | x :: xs => V.refsL n x && V.refsLL n xs
end
mutual
/-- Nothing in it lies in memory that somebody else owns. -/
def V.fresh : V → Bool
  | .agg cs => V.freshL cs
  | .lst _ xs => xs.isEmpty
  | .rptr _ => false
  | .fn _ cs => V.freshL cs
  | .tup vs => V.freshL vs
  | _ => true
def V.freshL : List V → Bool
  | [] => true
  | x :: xs => V.fresh x && V.freshL xs
end
theorem V.mapL_eq (f : Nat → Nat) : ∀ l : List V, V.mapL f l = l.map (V.mapId f)
  | [] => rfl
  | x :: xs => by simp only [V.mapL, List.map_cons, V.mapL_eq f xs]
theorem V.mapLL_eq (f : Nat → Nat) : ∀ l : List (List V), V.mapLL f l = l.map (V.mapL f)
  | [] => rfl
  | x :: xs => by simp only [V.mapLL, List.map_cons, V.mapLL_eq f xs]
theorem V.refsL_get {n : Nat} : ∀ {l : List V}, V.refsL n l = true → ∀ {j : Nat} {v : V}, l[j]? = some v → V.refs n v = true
  | [], _, j, v, e => by simp at e
  | x :: xs, h, j, v, e => by
    simp only [V.refsL, Bool.and_eq_true] at h
    cases j with
    | zero => simp at e; subst e; exact h.1
    | succ j => exact V.refsL_get h.2 (by simpa using e)
theorem V.refsLL_get {n : Nat} : ∀ {l : List (List V)}, V.refsLL n l = true → ∀ {j : Nat} {v : List V}, l[j]? = some v → V.refsL n v = true
  | [], _, j, v, e => by simp at e
  | x :: xs, h, j, v, e => by
    simp only [V.refsLL, Bool.and_eq_true] at h
    cases j with
    | zero => simp at e; subst e; exact h.1
    | succ j => exact V.refsLL_get h.2 (by simpa using e)
theorem V.freshL_get : ∀ {l : List V}, V.freshL l = true → ∀ {j : Nat} {v : V}, l[j]? = some v → V.fresh v = true
  | [], _, j, v, e => by simp at e
  | x :: xs, h, j, v, e => by
    simp only [V.freshL, Bool.and_eq_true] at h
    cases j with
    | zero => simp at e; subst e; exact h.1
    | succ j => exact V.freshL_get h.2 (by simpa using e)

/-- The cells of a value; whether it fits one cell; a value that is no unborn variable. -/
def V.cells : V → List V
  | .agg cs => cs
  | v => [v]
def V.one : V → Bool
  | .agg _ | .tup _ | .hole _ | .dead => false
  | _ => true
def V.nohole : V → V
  | .hole _ => .dead
  | v => v

/-- What a value reads as, with all that it owns looked through. -/
inductive Snap (h : Heap) : V → V → Prop
  | int (k : IntKind) (n : Int) : Snap h (.int k n) (.int k n)
  | bool (b : Bool) : Snap h (.bool b) (.bool b)
  | str (s : ByteArray) : Snap h (.str s) (.str s)
  | agg {cs ds : List V} (hl : cs.length = ds.length) (hc : ∀ (j : Nat) (c d : V), cs[j]? = some c → ds[j]? = some d → Snap h c d) : Snap h (.agg cs) (.agg ds)
  | lst (sz : Nat) (xs : List (List V)) (hr : V.refs 0 (.lst sz xs) = true) : Snap h (.lst sz xs) (.lst sz xs)
  | nils (sz : Nat) : Snap h .nils (.lst sz [])
  | same (v : V) (hr : V.refs 0 v = true) : Snap h v v
  | own {id sz off len tot : Nat} {b ys : List (List V)} (hb : h[id]? = some b) (ht : tot = b.length) (hl : off + len ≤ tot) (hy : ys.length = len)
      (he : ∀ (i : Nat) (e d : List V), b[off + i]? = some e → ys[i]? = some d → e.length = d.length)
      (hc : ∀ (i : Nat) (e d : List V) (j : Nat) (c x : V), b[off + i]? = some e → ys[i]? = some d → e[j]? = some c → d[j]? = some x → Snap h c x) : Snap h (.own id sz off len tot) (.lst sz ys)
def Snaps (h : Heap) (xs ys : List V) : Prop := xs.length = ys.length ∧ ∀ (j : Nat) (c d : V), xs[j]? = some c → ys[j]? = some d → Snap h c d

/-- How a result in a heap of the callee's own comes to the caller: some of its blocks, numbered anew. -/
def Land (r : V) (hr : Heap) (r' : V) (h' : Heap) : Prop :=
  V.refs hr.length r = true ∧ (∀ b ∈ hr, V.refsLL hr.length b = true) ∧
  ∃ f : Nat → Nat, (∀ i j, i < hr.length → j < hr.length → f i = f j → i = j) ∧ r' = r.mapId f ∧ ∀ (k : Nat) (b : Blk), hr[k]? = some b → h'[f k]? = some (V.mapLL f b)
/-- The contract of a function that looks at values alone. -/
def CP (P : Program) (f : FuncId) (args : List V) (r : V) (hr : Heap) : Prop := C P f args [] (Land r hr)

inductive Opd where
  | tmp (t : Nat)
  | val (v : V)

inductive SOp where
  | mov (x : Opd)
  | load (ag : Bool) (sz : Nat) (a : Opd)
  | fieldAddr (off : Nat) (x : Opd)
  | field (ag : Bool) (off sz : Nat) (x : Opd)
  | idxAddr (sz : Nat) (x i : Opd)
  | arrAddr (n sz : Nat) (x i : Opd)
  | idx (ag : Bool) (n sz : Nat) (x i : Opd)
  | bin (op : BinOp) (x y : Opd)
  | beq (ng : Bool) (x y : Opd)
  | not (x : Opd)
  | neg (x : Opd)
  | conv (k : IntKind) (x : Opd)
  | pick (c a b : Opd)
  | nilchk (x : Opd)
  | ext (i : Nat) (x : Opd)
  | build (zero : List V) (parts : List (Nat × Nat × Opd))
  | slice (sz : Nat) (x : Opd) (lo hi : Option Opd)
  | len (x : Opd)
  | slen (x : Opd)
  | min (x y : Opd)
  | max (x y : Opd)
  | mkfn (f : Nat) (caps : List Opd)
  | hole (sz : Nat)
  -- below: operations that turn the heap, or of which more than one value may be known
  | eqs (t : Nat) (neg : Bool) (x y : Opd)
  | isnil (t : Nat) (neg : Bool) (x : Opd)
  | store (sz : Nat) (a x : Opd)
  | birth (sz : Nat) (t x : Opd)
  | box (sz : Nat) (x : Opd)
  | zero (cells : List V)
  | lit (n sz : Nat) (zero : List V) (parts : List (Nat × Opd))
  | make (sz bytes : Nat) (zero : List V) (n : Opd)
  | append (sz bytes : Nat) (s x : Opd)
  | clear (sz : Nat) (zero : List V) (x : Opd)
  | call (f : Nat) (args : List Opd)
  | callv (g : Opd) (args : List Opd)

def rdc (ag : Bool) (sz : Nat) (cs : List V) : Option V := if ag then (if sz ≤ cs.length then some (.agg (cs.take sz)) else none) else cs[0]?
def splice (e : List V) (j : Nat) (cs : List V) : List V := e.take j ++ cs ++ e.drop (j + cs.length)
def fillV (ev : Opd → V) : List V → List (Nat × Nat × Opd) → Option (List V)
  | cs, [] => some cs
  | cs, (off, sz, x) :: ps => if (ev x).cells.length = sz ∧ (ev x).cells.all V.one = true ∧ off + sz ≤ cs.length then fillV ev (splice cs off (ev x).cells) ps else none
def fillE (ev : Opd → V) (sz : Nat) : List (List V) → List (Nat × Opd) → Option (List (List V))
  | es, [] => some es
  | es, (i, x) :: ps => if (ev x).cells.length = sz ∧ (ev x).cells.all V.one = true ∧ i < es.length then fillE ev sz (es.set i (ev x).cells) ps else none

def arith (op : BinOp) (k : IntKind) (a b : Int) : Option V :=
  match op with
  | .add => some (.int k (k.wrap (a + b)))
  | .sub => some (.int k (k.wrap (a - b)))
  | .mul => some (.int k (k.wrap (a * b)))
  | .quo => if b = 0 then none else some (.int k (k.wrap (a.tdiv b)))
  | .rem => if b = 0 then none else some (.int k (a.tmod b))
  | .and => some (.int k (k.wrap (BitVec.ofInt k.bits a &&& BitVec.ofInt k.bits b).toNat))
  | .or => some (.int k (k.wrap (BitVec.ofInt k.bits a ||| BitVec.ofInt k.bits b).toNat))
  | .xor => some (.int k (k.wrap (BitVec.ofInt k.bits a ^^^ BitVec.ofInt k.bits b).toNat))
  | .eql => some (.bool (a == b))
  | .neq => some (.bool (a != b))
  | .lss => some (.bool (decide (a < b)))
  | .leq => some (.bool (decide (a ≤ b)))
  | .gtr => some (.bool (decide (a > b)))
  | .geq => some (.bool (decide (a ≥ b)))
  | _ => none
def binV (op : BinOp) (x y : V) : Option V :=
  match x, y with
  | .int k a, .int k' b =>
    match op with
    | .shl => if b < 0 then none else some (.int k (k.wrap (a * 2 ^ (Nat.min b.toNat k.bits))))
    | .shr => if b < 0 then none else some (.int k (a.fdiv (2 ^ (Nat.min b.toNat k.bits))))
    | op => if k = k' then arith op k a b else none
  | .str a, .str b =>
    match op with
    | .add => if ((a.size + b.size : Nat) : Int) > IntKind.i64.max then none else some (.str (a ++ b))
    | .eql => some (.bool (a.toList == b.toList))
    | .neq => some (.bool (!(a.toList == b.toList)))
    | _ => none
  | _, _ => none

/-- A cut's bounds. -/
def cutV (lo hi : Option V) (n : Nat) (f : Nat → Nat → V) : Option V :=
  match lo.getD (.int .i64 0), hi.getD (.int .i64 n) with
  | .int _ l, .int _ u => if 0 ≤ l ∧ l ≤ u ∧ u ≤ (n : Int) then some (f l.toNat u.toNat) else none
  | _, _ => none

def loadV (h : Heap) (ag : Bool) (sz : Nat) (a : V) : Option V :=
  match a with
  | .ptr id tot i j => match h[id]? with
    | some b => if tot = b.length then (match b[i]? with | some e => rdc ag sz (e.drop j) | none => none) else none
    | none => none
  | .rptr cs => rdc ag sz cs
  | _ => none
def fieldAddrV (off : Nat) : V → Option V
  | .ptr id tot i j => some (.ptr id tot i (j + off))
  | .rptr cs => some (.rptr (cs.drop off))
  | _ => none
def fieldV (ag : Bool) (off sz : Nat) : V → Option V
  | .agg cs => rdc ag sz (cs.drop off)
  | _ => none
def idxAddrV (sz : Nat) : V → V → Option V
  | .lst s xs, .int _ n => if 0 ≤ n ∧ s = sz then (match xs[n.toNat]? with | some e => some (.rptr e) | none => none) else none
  | .own id s off ln tot, .int _ n => if 0 ≤ n ∧ n < (ln : Int) ∧ s = sz then some (.ptr id tot (off + n.toNat) 0) else none
  | _, _ => none
def arrAddrV (n sz : Nat) : V → V → Option V
  | .ptr id tot e j, .int _ q => if 0 ≤ q ∧ q < (n : Int) then some (.ptr id tot e (j + q.toNat * sz)) else none
  | .rptr cs, .int _ q => if 0 ≤ q ∧ q < (n : Int) then some (.rptr (cs.drop (q.toNat * sz))) else none
  | _, _ => none
def idxV (ag : Bool) (n sz : Nat) : V → V → Option V
  | .agg cs, .int _ q => if 0 ≤ q ∧ q < (n : Int) then rdc ag sz (cs.drop (q.toNat * sz)) else none
  | _, _ => none
def beqV (ng : Bool) : V → V → Option V
  | .bool a, .bool b => some (.bool (if ng then !(a == b) else a == b))
  | _, _ => none
def sliceV (sz : Nat) (x : V) (lo hi : Option V) : Option V :=
  match x with
  | .lst s xs => if s = sz then cutV lo hi xs.length (fun l u => .lst s ((xs.take u).drop l)) else none
  | .own id s off ln tot => if s = sz then cutV lo hi ln (fun l u => .own id s (off + l) (u - l) tot) else none
  | .nils => cutV lo hi 0 (fun _ _ => .nils)
  | _ => none

/-- The value of an operation that turns nothing. -/
def SOp.qv (o : SOp) (ev : Opd → V) (h : Heap) : Option V :=
  match o with
  | .mov x => some (ev x)
  | .load ag sz a => loadV h ag sz (ev a)
  | .fieldAddr off x => fieldAddrV off (ev x)
  | .field ag off sz x => fieldV ag off sz (ev x)
  | .idxAddr sz x i => idxAddrV sz (ev x) (ev i)
  | .arrAddr n sz x i => arrAddrV n sz (ev x) (ev i)
  | .idx ag n sz x i => idxV ag n sz (ev x) (ev i)
  | .bin op x y => binV op (ev x) (ev y)
  | .beq ng x y => beqV ng (ev x) (ev y)
  | .not x => match ev x with | .bool b => some (.bool (!b)) | _ => none
  | .neg x => match ev x with | .int k n => some (.int k (k.wrap (-n))) | _ => none
  | .conv k x => match ev x with | .int _ n => some (.int k (k.wrap n)) | _ => none
  | .pick c a b => match ev c with | .bool t => some (if t then ev a else ev b) | _ => none
  | .nilchk x => match ev x with
    | .ptr id tot i j => some (.ptr id tot i j)
    | .rptr cs => some (.rptr cs)
    | _ => none
  | .ext i x => match ev x with | .tup vs => vs[i]? | _ => none
  | .build zs parts => (fillV ev zs parts).map .agg
  | .slice sz x lo hi => sliceV sz (ev x) (lo.map ev) (hi.map ev)
  | .len x => match ev x with
    | .lst _ xs => some (.int .i64 xs.length)
    | .own _ _ _ ln _ => some (.int .i64 ln)
    | .nils => some (.int .i64 0)
    | _ => none
  | .slen x => match ev x with | .str s => some (.int .i64 s.size) | _ => none
  | .min x y => match ev x, ev y with | .int k a, .int _ b => some (.int k (if b < a then b else a)) | _, _ => none
  | .max x y => match ev x, ev y with | .int k a, .int _ b => some (.int k (if b > a then b else a)) | _, _ => none
  | .mkfn f caps => some (.fn f (caps.map ev))
  | .hole sz => some (.hole sz)
  | _ => none

/-- The elements of a slice. -/
def elemsOf (h : Heap) (sz : Nat) : V → Option (List (List V))
  | .lst s xs => if s = sz then some xs else none
  | .nils => some []
  | .own id s off len tot => match h[id]? with
    | some b => if tot = b.length ∧ off + len ≤ tot ∧ s = sz then some ((b.drop off).take len) else none
    | none => none
  | _ => none
/-- Two structs of whole numbers are compared number by number. -/
def EqTy (P : Program) (t n : Nat) : Prop := ∀ (k : IntKind) (xs ys : List Int) (x y : Operand) (W : World), xs.length = n → ys.length = n →
  (do eqGuard .eql t x y (.agg (xs.map (Value.int k)).toArray) (.agg (ys.map (Value.int k)).toArray); binOp .eql t (.agg (xs.map (Value.int k)).toArray) (.agg (ys.map (Value.int k)).toArray) : Sem Value).run P W = .ok (.bool (xs == ys)) W ∧
  (do eqGuard .neq t x y (.agg (xs.map (Value.int k)).toArray) (.agg (ys.map (Value.int k)).toArray); binOp .neq t (.agg (xs.map (Value.int k)).toArray) (.agg (ys.map (Value.int k)).toArray) : Sem Value).run P W = .ok (.bool (!(xs == ys))) W
def CallE (P : Program) (f : Nat) (args : List V) (h : Heap) (K : V → Heap → Prop) : Prop :=
  (∃ Q, C P f args h Q ∧ ∀ r h', Q r h' → K r h') ∨
  (∃ args' r hr, CP P f args' r hr ∧ ((args' = args ∧ V.refsL 0 args = true) ∨ (Snaps h args args' ∧ V.fresh r = true ∧ ∀ b ∈ hr, ∀ e ∈ b, V.freshL e = true)) ∧ K (r.mapId (· + h.length)) (h ++ hr.map (V.mapLL (· + h.length))))

def elimO {α : Type} : Option α → (α → Prop) → Prop
  | some v, F => F v
  | none, _ => False
theorem elimO_some {α : Type} (v : α) (F : α → Prop) : elimO (some v) F = F v := rfl
theorem elimO_none {α : Type} (F : α → Prop) : elimO (none : Option α) F = False := rfl
theorem elim_some {α : Type} {o : Option α} {F : α → Prop} (h : elimO o F) : ∃ v, o = some v ∧ F v := by
  cases o with
  | none => exact h.elim
  | some v => exact ⟨v, rfl, h⟩

/-- What an operation comes to. -/
def SOp.eff (P : Program) (o : SOp) (ev : Opd → V) (h : Heap) (K : V → Heap → Prop) : Prop :=
  match o with
  | .eqs t ng x y => ∃ (k : IntKind) (xs ys : List Int), ev x = .agg (xs.map (V.int k)) ∧ ev y = .agg (ys.map (V.int k)) ∧ xs.length = ys.length ∧ EqTy P t xs.length ∧ K (.bool (if ng then !(xs == ys) else xs == ys)) h
  | .isnil t ng x => match ev x with
    | .lst _ xs => if xs.isEmpty then ∀ b, K (.bool b) h else K (.bool ng) h
    | .nils => ∀ b, K (.bool b) h
    | _ => False
  | .store sz a x => match ev a with
    | .ptr id tot i j => elimO h[id]? fun b => tot = b.length ∧ elimO b[i]? fun e =>
      (ev x).cells.length = sz ∧ j + sz ≤ e.length ∧ (ev x).cells.all V.one = true ∧ K .dead (h.set id (b.set i (splice e j (ev x).cells)))
    | _ => False
  | .birth sz t x => ev t = .hole sz ∧ (ev x).cells.length = sz ∧ (ev x).cells.all V.one = true ∧ K (.ptr h.length 1 0 0) (h ++ [[(ev x).cells]])
  | .box sz x => (ev x).cells.length = sz ∧ (ev x).cells.all V.one = true ∧ K (.ptr h.length 1 0 0) (h ++ [[(ev x).cells]])
  | .zero cells => K (.ptr h.length 1 0 0) (h ++ [[cells]])
  | .lit n sz zs parts => elimO (fillE ev sz (List.replicate n zs) parts) fun es => K (.own h.length sz 0 n n) (h ++ [es])
  | .make sz bytes zs n => match ev n with
    | .int _ q => 0 ≤ q ∧ q * bytes ≤ 140737488355328 ∧ K (.own h.length sz 0 q.toNat q.toNat) (h ++ [List.replicate q.toNat zs])
    | _ => False
  | .append sz bytes s x => elimO (elemsOf h sz (ev x)) fun xs => match ev s with
    | .nils => xs.length * bytes ≤ 140737488355328 ∧ K (.own h.length sz 0 xs.length xs.length) (h ++ [xs])
    | .own id s off ln tot => elimO h[id]? fun b =>
      off = 0 ∧ ln = tot ∧ tot = b.length ∧ s = sz ∧ (b.length + xs.length) * bytes ≤ 140737488355328 ∧ K (.own id sz 0 (b.length + xs.length) (b.length + xs.length)) (h.set id (b ++ xs))
    | _ => False
  | .clear sz zs x => match ev x with
    | .own id s off ln tot => elimO h[id]? fun b =>
      off + ln ≤ tot ∧ tot = b.length ∧ s = sz ∧ zs.length = sz ∧ K (.tup []) (h.set id (b.take off ++ List.replicate ln zs ++ b.drop (off + ln)))
    | _ => False
  | .call f args => CallE P f (args.map ev) h K
  | .callv g args => match ev g with
    | .fn f caps => CallE P f (args.map ev ++ caps) h K
    | _ => False
  | o => elimO (o.qv ev h) fun v => K v h

structure St where
  e : Nat → V
  h : Heap
def St.ev (s : St) : Opd → V
  | .tmp t => s.e t
  | .val v => v
def put (e : Nat → V) (d : Nat) (v : V) : Nat → V := fun t => if t = d then v else e t
def St.put (s : St) (d : Option Nat) (v : V) (h : Heap) : St := match d with
  | some d => ⟨Av.put s.e d v, h⟩
  | none => ⟨s.e, h⟩

/-- An operation in its place: where its result goes, under which test it stands; in a region that draws its order: its number, and the readings that it must leave. -/
structure SOper where
  dst : Option Nat
  op : SOp
  guard : Option (Nat × Bool) := none
  key : Nat := 0
  watch : List Nat := []

def SOp.isHole : SOp → Bool
  | .hole _ => true
  | _ => false
def SOp.res (o : SOp) (v : V) : V := if o.isHole then v else v.nohole
/-- The operations that turn nothing. -/
def SOp.isQ : SOp → Bool
  | .eqs .. | .isnil .. | .store .. | .birth .. | .box .. | .zero .. | .lit .. | .make .. | .append .. | .clear .. | .call .. | .callv .. => false
  | _ => true
/-- Whether an operation is done. -/
def SOper.on (o : SOper) (s : St) (yes no : Prop) : Prop :=
  match o.guard with
  | none => yes
  | some (g, want) => match s.e g with
    | .bool b => if b = want then yes else no
    | .tup [] => no
    | _ => False
def SOper.sw (P : Program) (o : SOper) (K : St → Prop) (s : St) : Prop :=
  o.on s (o.op.eff P s.ev s.h fun v h => K (s.put o.dst (o.op.res v) h)) (K (s.put o.dst (.tup []) s.h))
def swOps (P : Program) : List SOper → (St → Prop) → St → Prop
  | [], K, s => K s
  | o :: os, K, s => o.sw P (swOps P os K) s

/-- A reading told: which operation's, where, of which kind, what. -/
abbrev Ent := Nat × V × Bool × Nat × V
def SOper.ent (o : SOper) (s : St) (v : V) (acc : List Ent) : List Ent :=
  match o.op with
  | .load ag sz a => (o.key, s.ev a, ag, sz, v) :: acc
  | _ => acc
def stays (h : Heap) (W : List Nat) : List Ent → Prop
  | [] => True
  | (k, a, ag, sz, v) :: l => (if W.contains k then loadV h ag sz a = some v else True) ∧ stays h W l
/-- A region that draws its order, followed in one order: what was read before stays as it was read. -/
def swD (P : Program) : List SOper → List Ent → (St → Prop) → St → Prop
  | [], _, K, s => K s
  | o :: os, acc, K, s => o.on s
    (if o.op.isQ then elimO (o.op.qv s.ev s.h) fun v => swD P os (o.ent s v acc) K (s.put o.dst (o.op.res v) s.h)
     else o.op.eff P s.ev s.h fun v h => stays h o.watch acc ∧ swD P os acc K (s.put o.dst (o.op.res v) h))
    (swD P os acc K (s.put o.dst (.tup []) s.h))

inductive SCode where
  | skip
  | reg (ops : List SOper)
  | regD (ops : List SOper)
  | seq (a b : SCode)
  | cond (c : Opd) (a b : SCode)
  | block (id : Nat) (c : SCode)
  | loop (c : SCode)
  | exit (id : Nat)
  | ret

inductive Ex where
  | normal
  | exit (id : Nat)
  | ret

def swp (P : Program) : SCode → (Ex → St → Prop) → St → Prop
  | .skip, K, s => K .normal s
  | .reg ops, K, s => swOps P ops (K .normal) s
  | .regD ops, K, s => swD P ops [] (K .normal) s
  | .seq a b, K, s => swp P a (fun e s' => match e with | .normal => swp P b K s' | e => K e s') s
  | .cond c a b, K, s => match s.ev c with
    | .bool t => if t then swp P a K s else swp P b K s
    | _ => False
  | .block id c, K, s => swp P c (fun e s' => match e with | .exit i => if i = id then K .normal s' else K (.exit i) s' | e => K e s') s
  | .loop c, K, s => ∃ (I : Nat → St → Prop) (n : Nat), I n s ∧ ∀ n s', I n s' → swp P c (fun e s'' => match e with | .normal => ∃ m, m < n ∧ I m s'' | e => K e s'') s'
  | .exit id, K, s => K (.exit id) s
  | .ret, K, s => K .ret s

inductive SRes where
  | tmp (t : Nat)
  | cell (t : Nat) (ag : Bool) (sz : Nat)
def SRes.val (s : St) : SRes → Option V
  | .tmp t => some (s.e t)
  | .cell t ag sz => (SOp.load ag sz (.tmp t)).qv s.ev s.h
def resVals (s : St) : List SRes → Option (List V)
  | [] => some []
  | r :: rs => (r.val s).bind fun v => (resVals s rs).map (v :: ·)
def resV (s : St) (rs : List SRes) : Option V := (resVals s rs).map fun
  | [v] => v
  | vs => .tup vs
end Go.Av
