/- Short words for code that is told, and how it is followed: each step looks at the head alone, what follows lies hidden. No condition. -/
import Derived.Test.YtjfmbdigfnablaaGreatDoorAv17
namespace Go.Av
open Go.RowKit
set_option linter.unusedVariables false
set_option linter.unusedSimpArgs false

def o (d : Nat) (p : SOp) : SOper := ⟨some d, p, none, 0, []⟩
def og (d : Nat) (p : SOp) (g : Nat) (b : Bool) : SOper := ⟨some d, p, some (g, b), 0, []⟩
def on_ (p : SOp) : SOper := ⟨none, p, none, 0, []⟩
def ok_ (p : SOp) (g : Nat) (b : Bool) : SOper := ⟨none, p, some (g, b), 0, []⟩
def T (n : Nat) : Opd := .tmp n
def I (n : Int) : Opd := .val (.int .i64 n)
def B (b : Bool) : Opd := .val (.bool b)
def N : Opd := .val .nils
def sqs : List SCode → SCode
  | [] => .skip
  | [c] => c
  | c :: cs => .seq c (sqs cs)

/-- A test. -/
def condP (t : Bool) [a : Inhabited Prop] [b : Inhabited Prop] : Prop := match t with
  | true => a.default
  | false => b.default
def needP (t : Bool) [a : Inhabited Prop] : Prop := t = true ∧ a.default
def onV (v : V) [F : Inhabited (V → Prop)] : Prop := F.default v
def onVH (v : V) (h : Heap) [F : Inhabited (V → Heap → Prop)] : Prop := F.default v h
def onOpt {α : Type} (o : Option α) [F : Inhabited (α → Prop)] : Prop := match o with
  | some v => F.default v
  | none => False
def onBool (v : V) [F : Inhabited (Bool → Prop)] : Prop := match v with
  | .bool b => F.default b
  | _ => False
def onInt (v : V) [F : Inhabited (IntKind → Int → Prop)] : Prop := match v with
  | .int k n => F.default k n
  | _ => False
def onTup (v : V) [F : Inhabited (List V → Prop)] : Prop := match v with
  | .tup vs => F.default vs
  | _ => False
def onPtr (v : V) [F : Inhabited (V → Prop)] : Prop := match v with
  | .ptr id tot i j => F.default (.ptr id tot i j)
  | .rptr cs => F.default (.rptr cs)
  | _ => False
def onLen (v : V) [F : Inhabited (Int → Prop)] : Prop := match v with
  | .lst _ xs => F.default xs.length
  | .own _ _ _ ln _ => F.default ln
  | .nils => F.default 0
  | _ => False
def onFn (v : V) [F : Inhabited (Nat → List V → Prop)] : Prop := match v with
  | .fn f caps => F.default f caps
  | _ => False
def guardP (v : V) (b : Bool) [yes : Inhabited Prop] [no : Inhabited Prop] : Prop := match v with
  | .bool c => match c == b with
    | true => yes.default
    | false => no.default
  | .tup [] => no.default
  | _ => False
def callP (P : Program) (f : Nat) (args : List V) (h : Heap) [K : Inhabited (V → Heap → Prop)] : Prop := CallE P f args h K.default
def loopP (P : Program) (c : SCode) (s : St) [K : Inhabited (Ex → St → Prop)] : Prop := swp P (.loop c) K.default s
/-- Cells that fill so many places. -/
def fit (sz : Nat) (cs : List V) : Bool := decide (cs.length = sz) && cs.all V.one
/-- A store: the heap behind it. -/
def storeB (b : Blk) (sz i j : Nat) (cs : List V) : Option Blk :=
  match b[i]? with
  | some e => if cs.length = sz ∧ j + sz ≤ e.length ∧ cs.all V.one = true then some (b.set i (splice e j cs)) else none
  | none => none
def storeH (h : Heap) (sz : Nat) (v x : V) : Option Heap := match v with
  | .ptr id tot i j => match h[id]? with
    | some b => if tot = b.length then (storeB b sz i j x.cells).map (h.set id) else none
    | none => none
  | _ => none
/-- An append: the value and the heap behind it. -/
def appendH (h : Heap) (sz bytes : Nat) (s x : V) : Option (V × Heap) :=
  match elemsOf h sz x with
  | none => none
  | some xs => match s with
    | .nils => if xs.length * bytes ≤ 140737488355328 then some (.own h.length sz 0 xs.length xs.length, h ++ [xs]) else none
    | .own id s off ln tot => match h[id]? with
      | some b => if off = 0 ∧ ln = tot ∧ tot = b.length ∧ s = sz ∧ (b.length + xs.length) * bytes ≤ 140737488355328 then some (.own id sz 0 (b.length + xs.length) (b.length + xs.length), h.set id (b ++ xs)) else none
      | none => none
    | _ => none
/-- A clearing: the heap behind it. -/
def clearH (h : Heap) (sz : Nat) (zs : List V) (x : V) : Option Heap :=
  match x with
  | .own id s off ln tot => match h[id]? with
    | some b => if off + ln ≤ tot ∧ tot = b.length ∧ s = sz ∧ zs.length = sz then some (h.set id (b.take off ++ List.replicate ln zs ++ b.drop (off + ln))) else none
    | none => none
  | _ => none

section
variable (P : Program) (K : Ex → St → Prop) (s : St) (Ks : St → Prop) (e : Nat → V) (h : Heap)
theorem put_eq (d t : Nat) (v : V) : put e d v t = if t = d then v else e t := (rfl)
theorem swp_skip : swp P .skip K s = K .normal s := (rfl)
theorem swp_reg (ops : List SOper) : swp P (.reg ops) K s = swOps P ops (K .normal) s := (rfl)
theorem swp_regD (ops : List SOper) : swp P (.regD ops) K s = swD P ops [] (K .normal) s := (rfl)
theorem swp_seq (a b : SCode) : swp P (.seq a b) K s = swp P a (fun e s' => match e with | .normal => swp P b K s' | e => K e s') s := (rfl)
theorem swp_block (id : Nat) (c : SCode) : swp P (.block id c) K s = swp P c (fun e s' => match e with | .exit i => if i = id then K .normal s' else K (.exit i) s' | e => K e s') s := (rfl)
theorem swp_loop_ (c : SCode) : swp P (.loop c) K s = @loopP P c s ⟨K⟩ := (rfl)
theorem swp_exit (id : Nat) : swp P (.exit id) K s = K (.exit id) s := (rfl)
theorem swp_ret : swp P .ret K s = K .ret s := (rfl)
theorem swp_cond (c : Opd) (a b : SCode) : swp P (.cond c a b) K s = @onBool (s.ev c) ⟨fun t => @condP t ⟨swp P a K s⟩ ⟨swp P b K s⟩⟩ := by
  show (match s.ev c with | .bool t => if t then swp P a K s else swp P b K s | _ => False) = _
  cases s.ev c <;> first | rfl | (rename_i b; cases b <;> rfl)
theorem sqs_one (c : SCode) : sqs [c] = c := (rfl)
theorem sqs_two (c d : SCode) (cs : List SCode) : sqs (c :: d :: cs) = .seq c (sqs (d :: cs)) := (rfl)
theorem swOps_nil : swOps P [] Ks s = Ks s := (rfl)
theorem swOps_o (d : Nat) (p : SOp) (xs : List SOper) : swOps P (o d p :: xs) Ks s = p.eff P s.ev s.h fun v h => @onV (p.res v) ⟨fun v => swOps P xs Ks ⟨put s.e d v, h⟩⟩ := (rfl)
theorem swOps_on (p : SOp) (xs : List SOper) : swOps P (on_ p :: xs) Ks s = p.eff P s.ev s.h fun v h => swOps P xs Ks ⟨s.e, h⟩ := (rfl)
theorem swOps_og (d : Nat) (p : SOp) (g : Nat) (b : Bool) (xs : List SOper) : swOps P (og d p g b :: xs) Ks s = @guardP (s.e g) b ⟨p.eff P s.ev s.h fun v h => @onV (p.res v) ⟨fun v => swOps P xs Ks ⟨put s.e d v, h⟩⟩⟩ ⟨swOps P xs Ks ⟨put s.e d (.tup []), s.h⟩⟩ := by
  show (match s.e g with
    | .bool c => if c = b then (p.eff P s.ev s.h fun v h => swOps P xs Ks ⟨put s.e d (p.res v), h⟩) else swOps P xs Ks ⟨put s.e d (.tup []), s.h⟩
    | .tup [] => swOps P xs Ks ⟨put s.e d (.tup []), s.h⟩
    | _ => False) = _
  cases s.e g <;> first | rfl | skip
  · rename_i c; cases c <;> cases b <;> rfl
  · rename_i vs; cases vs <;> rfl
theorem swOps_ok (p : SOp) (g : Nat) (b : Bool) (xs : List SOper) : swOps P (ok_ p g b :: xs) Ks s = @guardP (s.e g) b ⟨p.eff P s.ev s.h fun v h => swOps P xs Ks ⟨s.e, h⟩⟩ ⟨swOps P xs Ks ⟨s.e, s.h⟩⟩ := by
  show (match s.e g with
    | .bool c => if c = b then (p.eff P s.ev s.h fun v h => swOps P xs Ks ⟨s.e, h⟩) else swOps P xs Ks ⟨s.e, s.h⟩
    | .tup [] => swOps P xs Ks ⟨s.e, s.h⟩
    | _ => False) = _
  cases s.e g <;> first | rfl | skip
  · rename_i c; cases c <;> cases b <;> rfl
  · rename_i vs; cases vs <;> rfl
theorem ev_T (n : Nat) : s.ev (T n) = s.e n := (rfl)
theorem ev_I (n : Int) : s.ev (I n) = .int .i64 n := (rfl)
theorem ev_B (b : Bool) : s.ev (B b) = .bool b := (rfl)
theorem ev_N : s.ev N = .nils := (rfl)
theorem ev_val (v : V) : s.ev (.val v) = v := (rfl)
theorem st_e : St.e ⟨e, h⟩ = e := (rfl)
theorem st_h : St.h ⟨e, h⟩ = h := (rfl)
end
section
variable (P : Program) (ev : Opd → V) (h : Heap) (K : V → Heap → Prop)
theorem eff_mov (x : Opd) : (SOp.mov x).eff P ev h K = @onV (ev x) ⟨fun v => K v h⟩ := (rfl)
theorem eff_load (ag : Bool) (sz : Nat) (a : Opd) : (SOp.load ag sz a).eff P ev h K = @onOpt _ (loadV h ag sz (ev a)) ⟨fun v => K v h⟩ := by
  show elimO (loadV h ag sz (ev a)) _ = _
  cases loadV h ag sz (ev a) <;> rfl
theorem eff_fieldAddr (off : Nat) (x : Opd) : (SOp.fieldAddr off x).eff P ev h K = @onOpt _ (fieldAddrV off (ev x)) ⟨fun v => K v h⟩ := by
  show elimO (fieldAddrV off (ev x)) _ = _
  cases fieldAddrV off (ev x) <;> rfl
theorem eff_field (ag : Bool) (off sz : Nat) (x : Opd) : (SOp.field ag off sz x).eff P ev h K = @onOpt _ (fieldV ag off sz (ev x)) ⟨fun v => K v h⟩ := by
  show elimO (fieldV ag off sz (ev x)) _ = _
  cases fieldV ag off sz (ev x) <;> rfl
theorem eff_idxAddr (sz : Nat) (x i : Opd) : (SOp.idxAddr sz x i).eff P ev h K = @onOpt _ (idxAddrV sz (ev x) (ev i)) ⟨fun v => K v h⟩ := by
  show elimO (idxAddrV sz (ev x) (ev i)) _ = _
  cases idxAddrV sz (ev x) (ev i) <;> rfl
theorem eff_arrAddr (n sz : Nat) (x i : Opd) : (SOp.arrAddr n sz x i).eff P ev h K = @onOpt _ (arrAddrV n sz (ev x) (ev i)) ⟨fun v => K v h⟩ := by
  show elimO (arrAddrV n sz (ev x) (ev i)) _ = _
  cases arrAddrV n sz (ev x) (ev i) <;> rfl
theorem eff_idx (ag : Bool) (n sz : Nat) (x i : Opd) : (SOp.idx ag n sz x i).eff P ev h K = @onOpt _ (idxV ag n sz (ev x) (ev i)) ⟨fun v => K v h⟩ := by
  show elimO (idxV ag n sz (ev x) (ev i)) _ = _
  cases idxV ag n sz (ev x) (ev i) <;> rfl
theorem eff_bin (op : BinOp) (x y : Opd) : (SOp.bin op x y).eff P ev h K = @onOpt _ (binV op (ev x) (ev y)) ⟨fun v => K v h⟩ := by
  show elimO (binV op (ev x) (ev y)) _ = _
  cases binV op (ev x) (ev y) <;> rfl
theorem eff_beq (ng : Bool) (x y : Opd) : (SOp.beq ng x y).eff P ev h K = @onOpt _ (beqV ng (ev x) (ev y)) ⟨fun v => K v h⟩ := by
  show elimO (beqV ng (ev x) (ev y)) _ = _
  cases beqV ng (ev x) (ev y) <;> rfl
theorem eff_slice (sz : Nat) (x : Opd) (lo hi : Option Opd) : (SOp.slice sz x lo hi).eff P ev h K = @onOpt _ (sliceV sz (ev x) (lo.map ev) (hi.map ev)) ⟨fun v => K v h⟩ := by
  show elimO (sliceV sz (ev x) (lo.map ev) (hi.map ev)) _ = _
  cases sliceV sz (ev x) (lo.map ev) (hi.map ev) <;> rfl
theorem eff_not (x : Opd) : (SOp.not x).eff P ev h K = @onBool (ev x) ⟨fun b => @onV (.bool (!b)) ⟨fun v => K v h⟩⟩ := by
  show elimO (match ev x with | .bool b => some (V.bool (!b)) | _ => none) _ = _
  cases ev x <;> rfl
theorem eff_neg (x : Opd) : (SOp.neg x).eff P ev h K = @onInt (ev x) ⟨fun k n => @onV (.int k (k.wrap (-n))) ⟨fun v => K v h⟩⟩ := by
  show elimO (match ev x with | .int k n => some (V.int k (k.wrap (-n))) | _ => none) _ = _
  cases ev x <;> rfl
theorem eff_conv (k : IntKind) (x : Opd) : (SOp.conv k x).eff P ev h K = @onInt (ev x) ⟨fun _ n => @onV (.int k (k.wrap n)) ⟨fun v => K v h⟩⟩ := by
  show elimO (match ev x with | .int _ n => some (V.int k (k.wrap n)) | _ => none) _ = _
  cases ev x <;> rfl
theorem eff_pick (c a b : Opd) : (SOp.pick c a b).eff P ev h K = @onBool (ev c) ⟨fun t => @condP t ⟨@onV (ev a) ⟨fun v => K v h⟩⟩ ⟨@onV (ev b) ⟨fun v => K v h⟩⟩⟩ := by
  show elimO (match ev c with | .bool t => some (if t then ev a else ev b) | _ => none) _ = _
  cases ev c <;> first | rfl | (rename_i b; cases b <;> rfl)
theorem eff_nilchk (x : Opd) : (SOp.nilchk x).eff P ev h K = @onPtr (ev x) ⟨fun v => K v h⟩ := by
  show elimO (match ev x with | .ptr id tot i j => some (V.ptr id tot i j) | .rptr cs => some (V.rptr cs) | _ => none) _ = _
  cases ev x <;> rfl
theorem eff_ext (i : Nat) (x : Opd) : (SOp.ext i x).eff P ev h K = @onTup (ev x) ⟨fun vs => @onOpt _ vs[i]? ⟨fun v => K v h⟩⟩ := by
  show elimO (match ev x with | .tup vs => vs[i]? | _ => none) _ = _
  cases ev x <;> first | rfl | skip
  rename_i vs
  cases e : vs[i]? <;> simp [onTup, onOpt, elimO, e]
theorem eff_build (zs : List V) (parts : List (Nat × Nat × Opd)) : (SOp.build zs parts).eff P ev h K = @onOpt _ (fillV ev zs parts) ⟨fun v => K (.agg v) h⟩ := by
  show elimO ((fillV ev zs parts).map V.agg) _ = _
  cases fillV ev zs parts <;> rfl
theorem eff_len (x : Opd) : (SOp.len x).eff P ev h K = @onLen (ev x) ⟨fun n => @onV (.int .i64 n) ⟨fun v => K v h⟩⟩ := by
  show elimO (match ev x with | .lst _ xs => some (V.int .i64 xs.length) | .own _ _ _ ln _ => some (.int .i64 ln) | .nils => some (.int .i64 0) | _ => none) _ = _
  cases ev x <;> rfl
theorem eff_min (x y : Opd) : (SOp.min x y).eff P ev h K = @onInt (ev x) ⟨fun k a => @onInt (ev y) ⟨fun _ b => @onV (.int k (min a b)) ⟨fun v => K v h⟩⟩⟩ := by
  show elimO (match ev x, ev y with | .int k a, .int _ b => some (V.int k (if b < a then b else a)) | _, _ => none) _ = _
  cases ev x <;> first | rfl | skip
  rename_i k a
  cases ev y <;> first | rfl | skip
  rename_i k' b
  have e : (if b < a then b else a) = min a b := by split <;> omega
  simp only [elimO, onInt, onV, e]
theorem eff_max (x y : Opd) : (SOp.max x y).eff P ev h K = @onInt (ev x) ⟨fun k a => @onInt (ev y) ⟨fun _ b => @onV (.int k (max a b)) ⟨fun v => K v h⟩⟩⟩ := by
  show elimO (match ev x, ev y with | .int k a, .int _ b => some (V.int k (if b > a then b else a)) | _, _ => none) _ = _
  cases ev x <;> first | rfl | skip
  rename_i k a
  cases ev y <;> first | rfl | skip
  rename_i k' b
  have e : (if b > a then b else a) = max a b := by split <;> omega
  simp only [elimO, onInt, onV, e]
theorem eff_mkfn (f : Nat) (caps : List Opd) : (SOp.mkfn f caps).eff P ev h K = @onV (.fn f (caps.map ev)) ⟨fun v => K v h⟩ := (rfl)
theorem eff_hole (sz : Nat) : (SOp.hole sz).eff P ev h K = K (.hole sz) h := (rfl)
theorem fit_and (sz : Nat) (cs : List V) (p : Prop) : (cs.length = sz ∧ cs.all V.one = true ∧ p) = @needP (fit sz cs) ⟨p⟩ := by
  simp [needP, fit, and_assoc]
theorem eff_birth (sz : Nat) (t x : Opd) : (SOp.birth sz t x).eff P ev h K = (ev t = .hole sz ∧ @needP (fit sz (ev x).cells) ⟨@onVH (.ptr h.length 1 0 0) (h ++ [[(ev x).cells]]) ⟨K⟩⟩) := by
  rw [← fit_and]; rfl
theorem eff_box (sz : Nat) (x : Opd) : (SOp.box sz x).eff P ev h K = @needP (fit sz (ev x).cells) ⟨@onVH (.ptr h.length 1 0 0) (h ++ [[(ev x).cells]]) ⟨K⟩⟩ := by
  rw [← fit_and]; rfl
theorem eff_zero (cells : List V) : (SOp.zero cells).eff P ev h K = @onVH (.ptr h.length 1 0 0) (h ++ [[cells]]) ⟨K⟩ := (rfl)
theorem eff_lit (n sz : Nat) (zs : List V) (parts : List (Nat × Opd)) : (SOp.lit n sz zs parts).eff P ev h K = @onOpt _ (fillE ev sz (List.replicate n zs) parts) ⟨fun es => @onVH (.own h.length sz 0 n n) (h ++ [es]) ⟨K⟩⟩ := by
  show elimO (fillE ev sz (List.replicate n zs) parts) _ = _
  cases fillE ev sz (List.replicate n zs) parts <;> rfl
theorem eff_make (sz bytes : Nat) (zs : List V) (n : Opd) : (SOp.make sz bytes zs n).eff P ev h K = @onInt (ev n) ⟨fun _ q => @needP (decide (0 ≤ q)) ⟨@needP (decide (q * bytes ≤ 140737488355328)) ⟨@onVH (.own h.length sz 0 q.toNat q.toNat) (h ++ [List.replicate q.toNat zs]) ⟨K⟩⟩⟩⟩ := by
  show (match ev n with | .int _ q => 0 ≤ q ∧ q * bytes ≤ 140737488355328 ∧ K (.own h.length sz 0 q.toNat q.toNat) (h ++ [List.replicate q.toNat zs]) | _ => False) = _
  cases ev n <;> first | rfl | simp [onInt, needP, onVH]
theorem eff_store (sz : Nat) (a x : Opd) : (SOp.store sz a x).eff P ev h K = @onOpt _ (storeH h sz (ev a) (ev x)) ⟨fun h' => K .dead h'⟩ := by
  show (match ev a with
    | .ptr id tot i j => elimO h[id]? fun b => tot = b.length ∧ elimO b[i]? fun e =>
      (ev x).cells.length = sz ∧ j + sz ≤ e.length ∧ (ev x).cells.all V.one = true ∧ K .dead (h.set id (b.set i (splice e j (ev x).cells)))
    | _ => False) = _
  cases ev a <;> first | rfl | skip
  rename_i id tot i j
  simp only [storeH, storeB]
  cases h[id]? with
  | none => rfl
  | some b =>
    simp only [elimO]
    by_cases ht : tot = b.length
    · rw [if_pos ht]
      cases b[i]? with
      | none => simp [elimO, onOpt]
      | some e =>
        simp only [elimO, ht, true_and]
        by_cases hc : (ev x).cells.length = sz ∧ j + sz ≤ e.length ∧ (ev x).cells.all V.one = true
        · rw [if_pos hc]; simp only [onOpt, Option.map_some]; rw [hc.1, hc.2.2]; simp [hc.2.1]
        · rw [if_neg hc]
          simp only [onOpt, Option.map_none, eq_iff_iff, iff_false]
          exact fun h => hc ⟨h.1, h.2.1, h.2.2.1⟩
    · rw [if_neg ht]; simp [ht, onOpt]
theorem eff_append (sz bytes : Nat) (s x : Opd) : (SOp.append sz bytes s x).eff P ev h K = @onOpt _ (appendH h sz bytes (ev s) (ev x)) ⟨fun p => K p.1 p.2⟩ := by
  show (elimO (elemsOf h sz (ev x)) fun xs => match ev s with
    | .nils => xs.length * bytes ≤ 140737488355328 ∧ K (.own h.length sz 0 xs.length xs.length) (h ++ [xs])
    | .own id s off ln tot => elimO h[id]? fun b =>
      off = 0 ∧ ln = tot ∧ tot = b.length ∧ s = sz ∧ (b.length + xs.length) * bytes ≤ 140737488355328 ∧ K (.own id sz 0 (b.length + xs.length) (b.length + xs.length)) (h.set id (b ++ xs))
    | _ => False) = _
  unfold appendH
  cases elemsOf h sz (ev x) with
  | none => rfl
  | some xs =>
    simp only [elimO]
    cases ev s <;> first | rfl | skip
    · simp only
      by_cases hc : xs.length * bytes ≤ 140737488355328
      · rw [if_pos hc]; simp [hc, onOpt]
      · rw [if_neg hc]; simp [hc, onOpt]
    · rename_i id s' off ln tot
      simp only
      cases h[id]? with
      | none => rfl
      | some b =>
        simp only [elimO]
        by_cases hc : off = 0 ∧ ln = tot ∧ tot = b.length ∧ s' = sz ∧ (b.length + xs.length) * bytes ≤ 140737488355328
        · rw [if_pos hc]; simp only [hc.1, hc.2.1, hc.2.2.1, hc.2.2.2.1, hc.2.2.2.2, true_and, onOpt]
        · rw [if_neg hc]
          simp only [eq_iff_iff, iff_false, onOpt]
          exact fun h => hc ⟨h.1, h.2.1, h.2.2.1, h.2.2.2.1, h.2.2.2.2.1⟩
theorem eff_clear (sz : Nat) (zs : List V) (x : Opd) : (SOp.clear sz zs x).eff P ev h K = @onOpt _ (clearH h sz zs (ev x)) ⟨fun h' => K (.tup []) h'⟩ := by
  show (match ev x with
    | .own id s off ln tot => elimO h[id]? fun b =>
      off + ln ≤ tot ∧ tot = b.length ∧ s = sz ∧ zs.length = sz ∧ K (.tup []) (h.set id (b.take off ++ List.replicate ln zs ++ b.drop (off + ln)))
    | _ => False) = _
  unfold clearH
  cases ev x <;> first | rfl | skip
  rename_i id s' off ln tot
  simp only
  cases h[id]? with
  | none => rfl
  | some b =>
    simp only [elimO]
    by_cases hc : off + ln ≤ tot ∧ tot = b.length ∧ s' = sz ∧ zs.length = sz
    · rw [if_pos hc]
      simp only [onOpt, eq_iff_iff]
      exact ⟨fun h => h.2.2.2.2, fun h => ⟨hc.1, hc.2.1, hc.2.2.1, hc.2.2.2, h⟩⟩
    · rw [if_neg hc]
      simp only [eq_iff_iff, iff_false, onOpt]
      exact fun h => hc ⟨h.1, h.2.1, h.2.2.1, h.2.2.2.1⟩
theorem eff_call (f : Nat) (args : List Opd) : (SOp.call f args).eff P ev h K = @callP P f (args.map ev) h ⟨K⟩ := (rfl)
theorem eff_callv (g : Opd) (args : List Opd) : (SOp.callv g args).eff P ev h K = @onFn (ev g) ⟨fun f caps => @callP P f (args.map ev ++ caps) h ⟨K⟩⟩ := by
  show (match ev g with | .fn f caps => CallE P f (args.map ev ++ caps) h K | _ => False) = _
  cases ev g <;> rfl
end
section
variable (G : V → Prop) (a b : Prop)
theorem onV_ (v : V) : @onV v ⟨G⟩ = G v := (rfl)
theorem onVH_ (v : V) (h : Heap) (F : V → Heap → Prop) : @onVH v h ⟨F⟩ = F v h := (rfl)
theorem onOpt_some {α : Type} (v : α) (F : α → Prop) : @onOpt α (some v) ⟨F⟩ = F v := (rfl)
theorem onOpt_none {α : Type} (F : α → Prop) : @onOpt α none ⟨F⟩ = False := (rfl)
theorem onBool_ (b : Bool) (F : Bool → Prop) : @onBool (.bool b) ⟨F⟩ = F b := (rfl)
theorem onInt_ (k : IntKind) (n : Int) (F : IntKind → Int → Prop) : @onInt (.int k n) ⟨F⟩ = F k n := (rfl)
theorem onTup_ (vs : List V) (F : List V → Prop) : @onTup (.tup vs) ⟨F⟩ = F vs := (rfl)
theorem onPtr_ptr (id tot i j : Nat) : @onPtr (.ptr id tot i j) ⟨G⟩ = G (.ptr id tot i j) := (rfl)
theorem onPtr_rptr (cs : List V) : @onPtr (.rptr cs) ⟨G⟩ = G (.rptr cs) := (rfl)
theorem onLen_lst (sz : Nat) (xs : List (List V)) (F : Int → Prop) : @onLen (.lst sz xs) ⟨F⟩ = F xs.length := (rfl)
theorem onLen_own (id sz off ln tot : Nat) (F : Int → Prop) : @onLen (.own id sz off ln tot) ⟨F⟩ = F ln := (rfl)
theorem onLen_nils (F : Int → Prop) : @onLen .nils ⟨F⟩ = F 0 := (rfl)
theorem onFn_ (f : Nat) (caps : List V) (F : Nat → List V → Prop) : @onFn (.fn f caps) ⟨F⟩ = F f caps := (rfl)
theorem guardP_true (c : Bool) : @guardP (.bool c) true ⟨a⟩ ⟨b⟩ = @condP c ⟨a⟩ ⟨b⟩ := by cases c <;> rfl
theorem guardP_false (c : Bool) : @guardP (.bool c) false ⟨a⟩ ⟨b⟩ = @condP c ⟨b⟩ ⟨a⟩ := by cases c <;> rfl
theorem guardP_none (t : Bool) : @guardP (.tup []) t ⟨a⟩ ⟨b⟩ = b := (rfl)
theorem condP_true : @condP true ⟨a⟩ ⟨b⟩ = a := (rfl)
theorem condP_false : @condP false ⟨a⟩ ⟨b⟩ = b := (rfl)
theorem condP_not (t : Bool) : @condP (!t) ⟨a⟩ ⟨b⟩ = @condP t ⟨b⟩ ⟨a⟩ := by cases t <;> rfl
theorem condP_pos {p : Prop} [Decidable p] (h : p) : @condP (decide p) ⟨a⟩ ⟨b⟩ = a := by simp [h, condP]
theorem condP_neg {p : Prop} [Decidable p] (h : ¬ p) : @condP (decide p) ⟨a⟩ ⟨b⟩ = b := by simp [h, condP]
theorem needP_true : @needP true ⟨a⟩ = a := by simp [needP]
theorem needP_pos {p : Prop} [Decidable p] (h : p) : @needP (decide p) ⟨a⟩ = a := by simp [needP, h]
end
theorem condP_split {t : Bool} {a b : Prop} (h1 : t = true → a) (h2 : t = false → b) : @condP t ⟨a⟩ ⟨b⟩ := by cases t <;> first | exact h1 rfl | exact h2 rfl
theorem condP_dec {p : Prop} [Decidable p] {a b : Prop} (h1 : p → a) (h2 : ¬ p → b) : @condP (decide p) ⟨a⟩ ⟨b⟩ := by
  by_cases h : p <;> simp [h, condP, h1, h2]
theorem condP_bool {t : Bool} {a b : Prop} (h1 : t = true → a) (h2 : ¬ t = true → b) : @condP t ⟨a⟩ ⟨b⟩ := by cases t <;> first | exact h1 rfl | exact h2 (by simp)
theorem condP_t {t : Bool} {a b : Prop} (h : t = true) (ha : a) : @condP t ⟨a⟩ ⟨b⟩ := by rw [h]; exact ha
theorem condP_f {t : Bool} {a b : Prop} (h : t = false) (hb : b) : @condP t ⟨a⟩ ⟨b⟩ := by rw [h]; exact hb
theorem needP_intro {t : Bool} {a : Prop} (h1 : t = true) (h2 : a) : @needP t ⟨a⟩ := ⟨h1, h2⟩
/-- The next round. -/
def nextP (m : Nat) (s : St) [I : Inhabited (Nat → St → Prop)] : Prop := ∃ m', m' < m ∧ I.default m' s
theorem nextP_intro {m : Nat} {s : St} {I : Nat → St → Prop} (m' : Nat) (hm : m' < m) (h : I m' s) : @nextP m s ⟨I⟩ := ⟨m', hm, h⟩
theorem loopP_intro {P : Program} {c : SCode} {K : Ex → St → Prop} {s : St} (I : Nat → St → Prop) (n : Nat) (h0 : I n s) (hr : ∀ n e h, I n ⟨e, h⟩ → swp P c (fun e s'' => match e with | .normal => @nextP n s'' ⟨I⟩ | e => K e s'') ⟨e, h⟩) : @loopP P c s ⟨K⟩ := ⟨I, n, h0, fun n s' => hr n s'.e s'.h⟩
section
theorem wrap64 {n : Int} (h1 : -9223372036854775808 ≤ n) (h2 : n ≤ 9223372036854775807) : IntKind.wrap .i64 n = n := by
  have e : (2 : Int) ^ 64 = 18446744073709551616 := by decide
  have e' : (2 : Int) ^ 63 = 9223372036854775808 := by decide
  simp [IntKind.wrap, IntKind.bits, IntKind.signed, e, e']
  try omega
end

mutual
theorem mapId_refs0 {f : Nat → Nat} : ∀ {v : V}, V.refs 0 v = true → v.mapId f = v
  | .agg cs, h => by simp only [V.mapId, mapL_refs0 (f := f) (l := cs) h]
  | .lst _ xs, h => by simp only [V.mapId, mapLL_refs0 (f := f) (l := xs) h]
  | .own _ _ _ _ _, h => by simp [V.refs] at h
  | .ptr _ _ _ _, h => by simp [V.refs] at h
  | .rptr cs, h => by simp only [V.mapId, mapL_refs0 (f := f) (l := cs) h]
  | .fn _ cs, h => by simp only [V.mapId, mapL_refs0 (f := f) (l := cs) h]
  | .tup cs, h => by simp only [V.mapId, mapL_refs0 (f := f) (l := cs) h]
  | .int _ _, _ => rfl
  | .bool _, _ => rfl
  | .str _, _ => rfl
  | .nils, _ => rfl
  | .nilp, _ => rfl
  | .nilf, _ => rfl
  | .hole _, _ => rfl
  | .dead, _ => rfl
theorem mapL_refs0 {f : Nat → Nat} : ∀ {l : List V}, V.refsL 0 l = true → V.mapL f l = l
  | [], _ => rfl
  | x :: xs, h => by
    simp only [V.refsL, Bool.and_eq_true] at h
    simp only [V.mapL, mapId_refs0 h.1, mapL_refs0 h.2]
theorem mapLL_refs0 {f : Nat → Nat} : ∀ {l : List (List V)}, V.refsLL 0 l = true → V.mapLL f l = l
  | [], _ => rfl
  | x :: xs, h => by
    simp only [V.refsLL, Bool.and_eq_true] at h
    simp only [V.mapLL, mapL_refs0 h.1, mapLL_refs0 h.2]
end
theorem C.cp {P : Program} {f : FuncId} {args : List V} {v : V} (hv : V.refs 0 v = true) (h : C P f args [] (fun r _ => r = v)) : CP P f args v [] :=
  h.mono fun r h' e => ⟨hv, by simp, fun k => k, fun i j hi => absurd hi (Nat.not_lt_zero _), by rw [mapId_refs0 hv]; exact e, fun k b hb => by simp at hb⟩
theorem CP.call {P : Program} {f : FuncId} {args : List V} {v : V} {h : Heap} {K : V → Heap → Prop} (hc : CP P f args v []) (hv : V.refs 0 v = true) (ha : V.refsL 0 args = true) (hk : K v h) : CallE P f args h K :=
  .inr ⟨args, v, [], hc, .inl ⟨rfl, ha⟩, by rw [mapId_refs0 hv]; simpa using hk⟩
@[simp] theorem refsLL_map {α : Type} {n : Nat} (f : α → List V) (hf : ∀ x, V.refsL n (f x) = true) : ∀ l : List α, V.refsLL n (l.map f) = true
  | [] => rfl
  | x :: xs => by simp [V.refsLL, hf x, refsLL_map f hf xs]
def V.noHole : V → Bool
  | .hole _ => false
  | _ => true
theorem startE_nohole {args : List V} (h : args.all V.noHole = true) (t sz : Nat) : startE args t ≠ .hole sz := by
  unfold startE
  cases ht : args[t]? with
  | none => simp
  | some v =>
    have := List.all_eq_true.1 h v (List.mem_of_getElem? ht)
    intro e
    simp at e
    subst e
    simp [V.noHole] at this
theorem startE_zero (v : V) (vs : List V) : startE (v :: vs) 0 = v := (rfl)
theorem startE_succ (v : V) (vs : List V) (n : Nat) : startE (v :: vs) (n + 1) = startE vs n := by simp [startE]


theorem CP.go {P : Program} {f : FuncId} {args : List V} {v : V} {h : Heap} {K : V → Heap → Prop} (hc : CP P f args v []) (hv : V.refs 0 v = true) (ha : V.refsL 0 args = true) (hk : K v h) : @callP P f args h ⟨K⟩ := hc.call hv ha hk
/-- A call of a function that reads what its caller owns. -/
theorem CP.goS {P : Program} {f : FuncId} {args args' : List V} {v : V} {h : Heap} {K : V → Heap → Prop} (hc : CP P f args' v []) (hv : V.refs 0 v = true) (hf : V.fresh v = true) (ha : Snaps h args args') (hk : K v h) : @callP P f args h ⟨K⟩ :=
  .inr ⟨args', v, [], hc, .inr ⟨ha, hf, by simp⟩, by rw [mapId_refs0 hv]; simpa using hk⟩
/-- A call by its contract. -/
theorem C.go {P : Program} {f : FuncId} {args : List V} {h : Heap} {Q : V → Heap → Prop} {K : V → Heap → Prop} (hc : C P f args h Q) (hk : ∀ r h', Q r h' → K r h') : @callP P f args h ⟨K⟩ := .inl ⟨Q, hc, hk⟩
theorem resV_tmp (s : St) (t : Nat) : resV s [.tmp t] = some (s.e t) := (rfl)
theorem resV_cell (s : St) (t : Nat) (ag : Bool) (sz : Nat) : resV s [.cell t ag sz] = loadV s.h ag sz (s.e t) := by
  show ((SRes.cell t ag sz).val s |>.bind fun v => (resVals s []).map (v :: ·)).map _ = _
  show ((loadV s.h ag sz (s.e t)).bind fun v => (resVals s []).map (v :: ·)).map _ = _
  cases loadV s.h ag sz (s.e t) <;> rfl
/-- What a function hands back. -/
def retP (o : Option V) (h : Heap) (Q : V → Heap → Prop) : Prop := ∃ r, o = some r ∧ Q r h
theorem retP_some (v : V) (h : Heap) (Q : V → Heap → Prop) : retP (some v) h Q = Q v h := by simp [retP]
theorem C.by {P : Program} {f : FuncId} {sc : SCode} {rs : List SRes} {args : List V} {h : Heap} {Q : V → Heap → Prop} (hm : P.follows .mixedOrders = true) (hf : FnOk P f args.length sc rs) (hnh : args.all V.noHole = true)
    (hw : swp P sc (fun e s => match e with | .exit _ => False | _ => retP (resV s rs) s.h Q) ⟨startE args, h⟩) : C P f args h Q := C.of hm hf (startE_nohole hnh) hw
/-- A function of values that hands back a value. -/
theorem CP.by {P : Program} {f : FuncId} {sc : SCode} {rs : List SRes} {args : List V} {v : V} (hv : V.refs 0 v = true) (hm : P.follows .mixedOrders = true) (hf : FnOk P f args.length sc rs) (hnh : args.all V.noHole = true)
    (hw : swp P sc (fun e s => match e with | .exit _ => False | _ => retP (resV s rs) s.h (fun r _ => r = v)) ⟨startE args, []⟩) : CP P f args v [] := C.cp hv (C.of hm hf (startE_nohole hnh) hw)
/-- Readings that must be as they were. -/
def stayP (h : Heap) (W : List Nat) (acc : List Ent) [F : Inhabited Prop] : Prop := stays h W acc ∧ F.default
def sameP (o : Option V) (v : V) [F : Inhabited Prop] : Prop := o = some v ∧ F.default
def dP (P : Program) (p : SOp) (k : Nat) (W : List Nat) (acc : List Ent) (s : St) [K : Inhabited (List Ent → V → Heap → Prop)] : Prop :=
  if p.isQ then elimO (p.qv s.ev s.h) fun v => K.default ((⟨none, p, none, k, W⟩ : SOper).ent s v acc) (p.res v) s.h
  else p.eff P s.ev s.h fun v h => stays h W acc ∧ K.default acc (p.res v) h
section
variable (P : Program) (K : St → Prop) (s : St) (acc : List Ent) (os : List SOper) (F : Prop)
theorem swD_nil : swD P [] acc K s = K s := (rfl)
theorem swD_o (d : Nat) (p : SOp) : swD P (o d p :: os) acc K s = swD P (⟨some d, p, none, 0, []⟩ :: os) acc K s := (rfl)
theorem swD_og (d : Nat) (p : SOp) (g : Nat) (b : Bool) : swD P (og d p g b :: os) acc K s = swD P (⟨some d, p, some (g, b), 0, []⟩ :: os) acc K s := (rfl)
theorem swD_on (p : SOp) : swD P (on_ p :: os) acc K s = swD P (⟨none, p, none, 0, []⟩ :: os) acc K s := (rfl)
theorem swD_ok (p : SOp) (g : Nat) (b : Bool) : swD P (ok_ p g b :: os) acc K s = swD P (⟨none, p, some (g, b), 0, []⟩ :: os) acc K s := (rfl)
theorem swD_n (d : Option Nat) (p : SOp) (k : Nat) (W : List Nat) : swD P (⟨d, p, none, k, W⟩ :: os) acc K s = @dP P p k W acc s ⟨fun acc v h => @onV v ⟨fun v => swD P os acc K (s.put d v h)⟩⟩ := (rfl)
theorem swD_g (d : Option Nat) (p : SOp) (g : Nat) (b : Bool) (k : Nat) (W : List Nat) : swD P (⟨d, p, some (g, b), k, W⟩ :: os) acc K s = @guardP (s.e g) b ⟨@dP P p k W acc s ⟨fun acc v h => @onV v ⟨fun v => swD P os acc K (s.put d v h)⟩⟩⟩ ⟨swD P os acc K (s.put d (.tup []) s.h)⟩ := by
  show (match s.e g with
    | .bool c => if c = b then (@dP P p k W acc s ⟨fun acc v h => swD P os acc K (s.put d v h)⟩) else swD P os acc K (s.put d (.tup []) s.h)
    | .tup [] => swD P os acc K (s.put d (.tup []) s.h)
    | _ => False) = _
  cases s.e g <;> first | rfl | skip
  · rename_i c; cases c <;> cases b <;> rfl
  · rename_i vs; cases vs <;> rfl
theorem dP_eq (p : SOp) (k : Nat) (W : List Nat) (G : List Ent → V → Heap → Prop) : @dP P p k W acc s ⟨G⟩ = @condP p.isLoad
    ⟨match p with | .load ag sz a => @onV (s.ev a) ⟨fun x => @onOpt _ (loadV s.h ag sz x) ⟨fun v => G ((k, x, ag, sz, v) :: acc) v.nohole s.h⟩⟩ | _ => False⟩
    ⟨@condP p.isQ ⟨p.eff P s.ev s.h fun v _ => G acc (p.res v) s.h⟩ ⟨p.eff P s.ev s.h fun v h => @stayP h W acc ⟨G acc (p.res v) h⟩⟩⟩ := by
  cases hl : p.isLoad
  · rw [condP_false]
    cases hq : p.isQ
    · rw [condP_false]; simp only [dP, hq, Bool.false_eq_true, if_false]; rfl
    · rw [condP_true, eff_quiet hq]
      simp only [dP, hq, if_true]
      have : ∀ v, (⟨none, p, none, k, W⟩ : SOper).ent s v acc = acc := fun v => by
        unfold SOper.ent
        split
        · rename_i ag sz a ho
          simp only at ho
          rw [ho] at hl; cases hl
        · rfl
      simp only [this]
  · cases p <;> simp only [SOp.isLoad, reduceCtorEq] at hl
    rename_i ag sz a
    rw [condP_true]
    show elimO (loadV s.h ag sz (s.ev a)) (fun v => G ((k, s.ev a, ag, sz, v) :: acc) v.nohole s.h) = @onOpt _ (loadV s.h ag sz (s.ev a)) ⟨fun v => G ((k, s.ev a, ag, sz, v) :: acc) v.nohole s.h⟩
    cases loadV s.h ag sz (s.ev a) <;> rfl
theorem stayP_noW (h : Heap) : ∀ acc : List Ent, @stayP h [] acc ⟨F⟩ = F
  | [] => by simp [stayP, stays]
  | (k, a, ag, sz, v) :: l => by
    have := stayP_noW h l
    simp only [stayP] at this ⊢
    simpa [stays] using this
theorem stayP_nil (h : Heap) (W : List Nat) : @stayP h W [] ⟨F⟩ = F := by simp [stayP, stays]
theorem stayP_cons (h : Heap) (W : List Nat) (k : Nat) (a : V) (ag : Bool) (sz : Nat) (v : V) (l : List Ent) : @stayP h W ((k, a, ag, sz, v) :: l) ⟨F⟩ = @condP (W.contains k) ⟨@sameP (loadV h ag sz a) v ⟨@stayP h W l ⟨F⟩⟩⟩ ⟨@stayP h W l ⟨F⟩⟩ := by
  cases hc : W.contains k
  · rw [condP_false]; simp only [stayP, stays, hc, Bool.false_eq_true, if_false, true_and]
  · rw [condP_true]; simp only [stayP, stays, hc, if_true, sameP, and_assoc]
theorem sameP_some (v : V) : @sameP (some v) v ⟨F⟩ = F := by simp [sameP]
theorem sput_some (d : Nat) (v : V) (h : Heap) : s.put (some d) v h = ⟨put s.e d v, h⟩ := (rfl)
theorem sput_none (v : V) (h : Heap) : s.put none v h = ⟨s.e, h⟩ := (rfl)
end
def eqsP (P : Program) (t : Nat) (ng : Bool) (x y : V) (h : Heap) [K : Inhabited (V → Heap → Prop)] : Prop :=
  ∃ (k : IntKind) (xs ys : List Int), x = .agg (xs.map (V.int k)) ∧ y = .agg (ys.map (V.int k)) ∧ xs.length = ys.length ∧ EqTy P t xs.length ∧ K.default (.bool (if ng then !(xs == ys) else xs == ys)) h
theorem eff_eqs (P : Program) (ev : Opd → V) (h : Heap) (K : V → Heap → Prop) (t : Nat) (ng : Bool) (x y : Opd) : (SOp.eqs t ng x y).eff P ev h K = @eqsP P t ng (ev x) (ev y) h ⟨K⟩ := (rfl)
theorem eqsP_true {P : Program} {t n : Nat} {x y : V} {h : Heap} {K : V → Heap → Prop} (hE : EqTy P t n) (xs ys : List Int) (hx : x = .agg (xs.map (V.int .i64))) (hy : y = .agg (ys.map (V.int .i64))) (h1 : xs.length = n) (h2 : ys.length = n) (hk : K (.bool (!(xs == ys))) h) : @eqsP P t true x y h ⟨K⟩ :=
  ⟨.i64, xs, ys, hx, hy, by rw [h1, h2], by rw [h1]; exact hE, hk⟩
theorem eqsP_false {P : Program} {t n : Nat} {x y : V} {h : Heap} {K : V → Heap → Prop} (hE : EqTy P t n) (xs ys : List Int) (hx : x = .agg (xs.map (V.int .i64))) (hy : y = .agg (ys.map (V.int .i64))) (h1 : xs.length = n) (h2 : ys.length = n) (hk : K (.bool (xs == ys)) h) : @eqsP P t false x y h ⟨K⟩ :=
  ⟨.i64, xs, ys, hx, hy, by rw [h1, h2], by rw [h1]; exact hE, hk⟩
def isnilP (ng : Bool) (x : V) (h : Heap) [K : Inhabited (V → Heap → Prop)] : Prop := match x with
  | .lst _ xs => if xs.isEmpty then ∀ b, K.default (.bool b) h else K.default (.bool ng) h
  | .nils => ∀ b, K.default (.bool b) h
  | _ => False
theorem eff_isnil (P : Program) (ev : Opd → V) (h : Heap) (K : V → Heap → Prop) (t : Nat) (ng : Bool) (x : Opd) : (SOp.isnil t ng x).eff P ev h K = @isnilP ng (ev x) h ⟨K⟩ := (rfl)
theorem eql_i (k : IntKind) (a b : Int) : binV .eql (.int k a) (.int k b) = some (.bool (decide (a = b))) := by simp [binV, arith]; rfl
theorem neq_i (k : IntKind) (a b : Int) : binV .neq (.int k a) (.int k b) = some (.bool (!decide (a = b))) := by simp [binV, arith]; rfl
theorem lss_i (k : IntKind) (a b : Int) : binV .lss (.int k a) (.int k b) = some (.bool (decide (a < b))) := by simp [binV, arith]
theorem leq_i (k : IntKind) (a b : Int) : binV .leq (.int k a) (.int k b) = some (.bool (decide (a ≤ b))) := by simp [binV, arith]
theorem gtr_i (k : IntKind) (a b : Int) : binV .gtr (.int k a) (.int k b) = some (.bool (decide (b < a))) := by simp [binV, arith]
theorem geq_i (k : IntKind) (a b : Int) : binV .geq (.int k a) (.int k b) = some (.bool (decide (b ≤ a))) := by simp [binV, arith]
theorem add_i (k : IntKind) (a b : Int) : binV .add (.int k a) (.int k b) = some (.int k (k.wrap (a + b))) := by simp [binV, arith]
theorem sub_i (k : IntKind) (a b : Int) : binV .sub (.int k a) (.int k b) = some (.int k (k.wrap (a - b))) := by simp [binV, arith]
theorem mul_i (k : IntKind) (a b : Int) : binV .mul (.int k a) (.int k b) = some (.int k (k.wrap (a * b))) := by simp [binV, arith]
theorem quo_i (k : IntKind) (a b : Int) (h : b ≠ 0) : binV .quo (.int k a) (.int k b) = some (.int k (k.wrap (a.tdiv b))) := by simp [binV, arith, h]
theorem rem_i (k : IntKind) (a b : Int) (h : b ≠ 0) : binV .rem (.int k a) (.int k b) = some (.int k (a.tmod b)) := by simp [binV, arith, h]
theorem shl_i (k k' : IntKind) (a b : Int) (h : 0 ≤ b) : binV .shl (.int k a) (.int k' b) = some (.int k (k.wrap (a * 2 ^ (Nat.min b.toNat k.bits)))) := by
  have : ¬ b < 0 := by omega
  simp [binV, this]
theorem shr_i (k k' : IntKind) (a b : Int) (h : 0 ≤ b) : binV .shr (.int k a) (.int k' b) = some (.int k (a.fdiv (2 ^ (Nat.min b.toNat k.bits)))) := by
  have : ¬ b < 0 := by omega
  simp [binV, this]
theorem idxAddr_lst (sz : Nat) (k : IntKind) (xs : List (List V)) (n : Int) (h0 : 0 ≤ n) (hl : n.toNat < xs.length) : idxAddrV sz (.lst sz xs) (.int k n) = some (.rptr xs[n.toNat]) := by
  simp [idxAddrV, h0, hl]
theorem idxAddr_map {α : Type} (f : α → List V) (sz : Nat) (k : IntKind) (xs : List α) (n : Int) (h0 : 0 ≤ n) (hl : n.toNat < xs.length) : idxAddrV sz (.lst sz (xs.map f)) (.int k n) = some (.rptr (f xs[n.toNat])) := by
  simp [idxAddrV, h0, hl]
theorem idxAddr_own (id sz off ln tot : Nat) (k : IntKind) (n : Int) (h0 : 0 ≤ n) (hl : n < ln) : idxAddrV sz (.own id sz off ln tot) (.int k n) = some (.ptr id tot (off + n.toNat) 0) := by
  simp [idxAddrV, h0, hl]
theorem sliceV_hi {α : Type} (f : α → List V) (sz : Nat) (k : IntKind) (xs : List α) (u : Int) (h0 : 0 ≤ u) (h1 : u ≤ (xs.length : Int)) : sliceV sz (.lst sz (xs.map f)) none (some (.int k u)) = some (.lst sz ((xs.take u.toNat).map f)) := by
  simp [sliceV, cutV, h0, h1, List.map_take]
theorem sliceV_lo {α : Type} (f : α → List V) (sz : Nat) (k : IntKind) (xs : List α) (l : Int) (h0 : 0 ≤ l) (h1 : l ≤ (xs.length : Int)) : sliceV sz (.lst sz (xs.map f)) (some (.int k l)) none = some (.lst sz ((xs.drop l.toNat).map f)) := by
  have e : (xs.map f).take (xs.map f).length = xs.map f := List.take_length
  simp only [List.length_map] at e
  simp [sliceV, cutV, h0, h1, List.map_drop, e]
theorem sliceV_both {α : Type} (f : α → List V) (sz : Nat) (k k' : IntKind) (xs : List α) (l u : Int) (h0 : 0 ≤ l) (h1 : l ≤ u) (h2 : u ≤ (xs.length : Int)) : sliceV sz (.lst sz (xs.map f)) (some (.int k l)) (some (.int k' u)) = some (.lst sz (((xs.take u.toNat).drop l.toNat).map f)) := by
  simp [sliceV, cutV, h0, h1, h2, List.map_take, List.map_drop]
theorem appendH_own {h : Heap} {sz bytes id : Nat} {b xs : List (List V)} {x : V} (hb : h[id]? = some b) (hx : elemsOf h sz x = some xs) (hl : (b.length + xs.length) * bytes ≤ 140737488355328) : appendH h sz bytes (.own id sz 0 b.length b.length) x = some (.own id sz 0 (b.length + xs.length) (b.length + xs.length), h.set id (b ++ xs)) := by
  simp [appendH, hx, hb, hl]
theorem elemsOf_own {h : Heap} {sz id : Nat} {b : List (List V)} (hb : h[id]? = some b) : elemsOf h sz (.own id sz 0 b.length b.length) = some b := by
  simp [elemsOf, hb]
theorem fit_nil : fit 0 [] = true := (rfl)
theorem fit_cons (n : Nat) (v : V) (vs : List V) : fit (n + 1) (v :: vs) = (v.one && fit n vs) := by
  simp only [fit, List.length_cons, List.all_cons, Nat.add_right_cancel_iff]
  cases v.one <;> cases decide (vs.length = n) <;> rfl
theorem load_ptr (h : Heap) (ag : Bool) (sz id tot i j : Nat) : loadV h ag sz (.ptr id tot i j) = (match h[id]? with | some b => if tot = b.length then (match b[i]? with | some e => rdc ag sz (e.drop j) | none => none) else none | none => none) := (rfl)
theorem load_rptr (h : Heap) (ag : Bool) (sz : Nat) (cs : List V) : loadV h ag sz (.rptr cs) = rdc ag sz cs := (rfl)
theorem rdc_one (sz : Nat) (c : V) (cs : List V) : rdc false sz (c :: cs) = some c := (rfl)
theorem rdc_ag (sz : Nat) (cs : List V) : rdc true sz cs = if sz ≤ cs.length then some (.agg (cs.take sz)) else none := (rfl)
attribute [go_sem ↓] eff_eqs eff_isnil put_eq swD_nil swD_o swD_og swD_on swD_ok swD_n swD_g dP_eq swp_skip swp_reg swp_regD swp_seq swp_block swp_loop_ swp_exit swp_ret swp_cond sqs_one sqs_two swOps_nil swOps_o swOps_on swOps_og swOps_ok eff_mov eff_load eff_fieldAddr eff_field eff_idxAddr eff_arrAddr eff_idx eff_bin eff_beq eff_slice eff_not eff_neg eff_conv eff_pick eff_nilchk eff_ext eff_build eff_len eff_min eff_max eff_mkfn eff_hole eff_birth eff_box eff_zero eff_lit eff_make eff_store eff_append eff_clear eff_call eff_callv
theorem one_int (k : IntKind) (n : Int) : V.one (V.int k n) = true := (rfl)
theorem one_bool (b : Bool) : V.one (V.bool b) = true := (rfl)
theorem one_str (b : ByteArray) : V.one (V.str b) = true := (rfl)
theorem one_lst (sz : Nat) (xs : List (List V)) : V.one (V.lst sz xs) = true := (rfl)
theorem one_nils : V.one (V.nils) = true := (rfl)
theorem one_own (a b c d e : Nat) : V.one (V.own a b c d e) = true := (rfl)
theorem one_ptr (a b c d : Nat) : V.one (V.ptr a b c d) = true := (rfl)
theorem one_rptr (cs : List V) : V.one (V.rptr cs) = true := (rfl)
theorem one_nilp : V.one (V.nilp) = true := (rfl)
theorem one_fn (f : Nat) (cs : List V) : V.one (V.fn f cs) = true := (rfl)
theorem one_nilf : V.one (V.nilf) = true := (rfl)
theorem cells_int (k : IntKind) (n : Int) : V.cells (V.int k n) = [V.int k n] := (rfl)
theorem nohole_int (k : IntKind) (n : Int) : V.nohole (V.int k n) = V.int k n := (rfl)
theorem cells_bool (b : Bool) : V.cells (V.bool b) = [V.bool b] := (rfl)
theorem nohole_bool (b : Bool) : V.nohole (V.bool b) = V.bool b := (rfl)
theorem cells_str (b : ByteArray) : V.cells (V.str b) = [V.str b] := (rfl)
theorem nohole_str (b : ByteArray) : V.nohole (V.str b) = V.str b := (rfl)
theorem cells_lst (sz : Nat) (xs : List (List V)) : V.cells (V.lst sz xs) = [V.lst sz xs] := (rfl)
theorem nohole_lst (sz : Nat) (xs : List (List V)) : V.nohole (V.lst sz xs) = V.lst sz xs := (rfl)
theorem cells_nils : V.cells (V.nils) = [V.nils] := (rfl)
theorem nohole_nils : V.nohole (V.nils) = V.nils := (rfl)
theorem cells_own (a b c d e : Nat) : V.cells (V.own a b c d e) = [V.own a b c d e] := (rfl)
theorem nohole_own (a b c d e : Nat) : V.nohole (V.own a b c d e) = V.own a b c d e := (rfl)
theorem cells_ptr (a b c d : Nat) : V.cells (V.ptr a b c d) = [V.ptr a b c d] := (rfl)
theorem nohole_ptr (a b c d : Nat) : V.nohole (V.ptr a b c d) = V.ptr a b c d := (rfl)
theorem cells_rptr (cs : List V) : V.cells (V.rptr cs) = [V.rptr cs] := (rfl)
theorem nohole_rptr (cs : List V) : V.nohole (V.rptr cs) = V.rptr cs := (rfl)
theorem cells_nilp : V.cells (V.nilp) = [V.nilp] := (rfl)
theorem nohole_nilp : V.nohole (V.nilp) = V.nilp := (rfl)
theorem cells_fn (f : Nat) (cs : List V) : V.cells (V.fn f cs) = [V.fn f cs] := (rfl)
theorem nohole_fn (f : Nat) (cs : List V) : V.nohole (V.fn f cs) = V.fn f cs := (rfl)
theorem cells_nilf : V.cells (V.nilf) = [V.nilf] := (rfl)
theorem nohole_nilf : V.nohole (V.nilf) = V.nilf := (rfl)
theorem cells_agg (cs : List V) : V.cells (.agg cs) = cs := (rfl)
theorem nohole_agg (cs : List V) : V.nohole (.agg cs) = .agg cs := (rfl)
theorem nohole_tup (cs : List V) : V.nohole (.tup cs) = .tup cs := (rfl)
theorem nohole_dead : V.nohole .dead = .dead := (rfl)
theorem nohole_hole (n : Nat) : V.nohole (.hole n) = .dead := (rfl)
attribute [go_sem] stayP_noW stayP_nil stayP_cons sameP_some sput_some sput_none SOp.isQ SOp.isLoad List.contains_cons List.contains_nil Bool.or_false Bool.false_or ev_T ev_I ev_B ev_N ev_val st_e st_h onV_ onVH_ onOpt_some onOpt_none onBool_ onInt_ onTup_ onPtr_ptr onPtr_rptr onLen_lst onLen_own onLen_nils onFn_ guardP_true guardP_false guardP_none condP_true condP_false condP_not condP_pos condP_neg needP_true needP_pos startE_zero startE_succ resV_tmp resV_cell retP_some eql_i neq_i lss_i leq_i gtr_i geq_i add_i sub_i mul_i quo_i rem_i shl_i shr_i idxAddr_map idxAddr_own fit_nil fit_cons load_ptr load_rptr rdc_one rdc_ag wrap64 SOp.res SOp.isHole cells_int nohole_int cells_bool nohole_bool cells_str nohole_str cells_lst nohole_lst cells_nils nohole_nils cells_own nohole_own cells_ptr nohole_ptr cells_rptr nohole_rptr cells_nilp nohole_nilp cells_fn nohole_fn cells_nilf nohole_nilf cells_agg nohole_agg nohole_tup nohole_dead nohole_hole one_int one_bool one_str one_lst one_nils one_own one_ptr one_rptr one_nilp one_fn one_nilf fieldAddrV fieldV arrAddrV idxV beqV sliceV_hi sliceV_lo sliceV_both Option.map_some Option.map_none fillV fillE clearH Bool.false_eq_true if_false if_true ne_eq not_false_eq_true reduceCtorEq Nat.add_zero Nat.zero_add List.map_cons List.map_nil List.getElem?_cons_zero List.getElem?_cons_succ List.length_cons List.length_nil List.drop_zero List.drop_succ_cons List.take_zero List.take_succ_cons List.nil_append List.cons_append List.set_cons_zero List.set_cons_succ List.getElem_map List.length_map Int.toNat_natCast Bool.and_true Bool.true_and Bool.not_true Bool.not_false Option.map_some Option.map_none Nat.sub_zero Nat.sub_self List.all_cons List.all_nil and_true true_and and_self List.replicate_zero List.append_nil List.getElem?_concat_length
end Go.Av
