/- Operations of the machine as abstract operations; those that turn nothing. No condition. -/
import Derived.Test.YtjfmbdigfnablaaGreatDoorAv9
namespace Go.Av
open Go.RowKit
set_option linter.unusedVariables false
set_option linter.unusedSimpArgs false

def copd : Operand → Option Opd
  | .tmp t => some (.tmp t)
  | .const v => (cvV v).map .val
  | .func f => some (.val (.fn f []))
  | .global _ => none
def copdO : Option Operand → Option (Option Opd)
  | none => some none
  | some x => (copd x).map some
def fieldT (P : Program) (s : TypeId) (f : Nat) : Option Field := (P.underlying s).bind fun
  | .struct fs => fs[f]?
  | _ => none
def elemT (P : Program) (t : TypeId) : Option TypeId := (P.underlying t).bind fun
  | .slice e => some e
  | _ => none
def arrT (P : Program) (t : TypeId) : Option (Nat × TypeId) := (P.underlying t).bind fun
  | .array n e => some (n, e)
  | _ => none
def bytesT (P : Program) (t : TypeId) : Option Nat := (P.info? t).map (·.bytes)

def sameOpd : Operand → Operand → Bool
  | .tmp a, .tmp b => a == b
  | .const (.int k a), .const (.int k' b) => k == k' && a == b
  | _, _ => false
def negOf : BinOp → Option Bool
  | .eql => some false
  | .neq => some true
  | _ => none
def isNilC : Operand → Bool
  | .const (.slice none 0 0) => true
  | _ => false
def copBin (P : Program) (op : BinOp) (t : TypeId) (x y : Operand) : Option SOp :=
  (copd x).bind fun x' => (copd y).bind fun y' => (P.underlying t).bind fun
    | .int _ => some (.bin op x' y')
    | .string => match op with
      | .add => some (.bin .add x' y')
      | .eql => some (.bin .eql x' y')
      | .neq => some (.bin .neq x' y')
      | _ => none
    | .bool => (negOf op).map fun ng => .beq ng x' y'
    | .struct _ => (negOf op).map fun ng => .eqs t ng x' y'
    | .slice _ => if isNilC y then (negOf op).map fun ng => .isnil t ng x' else none
    | _ => none
/-- An append of zeros (gc's append of a make), their number a constant. -/
def copZeros (P : Program) (s x : Operand) (t tn : TypeId) : Option SOp :=
  match x, P.underlying tn with
  | .const (.int _ n), some (.int _) => (elemT P t).bind fun e => (szT P e).bind fun sz => (bytesT P e).bind fun by_ => (zeroT P e).bind fun zs =>
    if zs.length = sz ∧ 0 < sz ∧ 0 < by_ ∧ 0 < n then (copd s).map fun s => .append sz by_ s (.val (.lst sz (List.replicate n.toNat zs))) else none
  | _, _ => none
def copBuiltin (P : Program) (b : Builtin) (args : List Operand) (ts : List TypeId) : Option SOp :=
  match b, args, ts with
  | .len, [x], [t] => (P.underlying t).bind fun
    | .slice _ => (copd x).map .len
    | .string => (copd x).map .slen
    | _ => none
  | .min, [x, y], _ => (copd x).bind fun x => (copd y).map (.min x)
  | .max, [x, y], _ => (copd x).bind fun x => (copd y).map (.max x)
  | .append, [s, x], [t, t'] => if t = t' then (elemT P t).bind fun e => (szT P e).bind fun sz => (bytesT P e).bind fun by_ => (zeroT P e).bind fun zs =>
      if zs.length = sz ∧ 0 < sz ∧ 0 < by_ then (copd s).bind fun s => (copd x).map (.append sz by_ s) else none
    else copZeros P s x t t'
  | .clear, [x], [t] => (elemT P t).bind fun e => (szT P e).bind fun sz => (zeroT P e).bind fun zs => if zs.length = sz then (copd x).map (.clear sz zs) else none
  | _, _, _ => none
def copCall (P : Program) (c : Call) : Option SOp :=
  match c.callee with
  | .builtin b => copBuiltin P b c.args.toList c.argTypes.toList
  | .value (.func f) => (c.args.toList.mapM copd).map (.call f)
  | .value (.tmp t) => (c.args.toList.mapM copd).map (.callv (.tmp t))
  | _ => none

def cop (P : Program) (op : Op) : Option SOp :=
  match op with
  | .move x => (copd x).map .mov
  | .assign x => (copd x).map .mov
  | .load t a => (agT P t).bind fun ag => (szT P t).bind fun sz => (copd a).map (.load ag sz)
  | .store t a x => (szT P t).bind fun sz => (copd a).bind fun a => (copd x).map (.store sz a)
  | .box t x => (szT P t).bind fun sz => (copd x).map (.box sz)
  | .alloc t => (zeroT P t).map .zero
  | .fieldAddr s x f => (fieldT P s f).bind fun fd => (szT P fd.type).bind fun sz => if sz = 0 then none else (copd x).map (.fieldAddr fd.offset)
  | .field s x f => (fieldT P s f).bind fun fd => (szT P fd.type).bind fun sz => (agT P fd.type).bind fun ag => (copd x).map (.field ag fd.offset sz)
  | .indexAddr t x i => match P.underlying t with
    | some (.slice e) => (szT P e).bind fun sz => (copd x).bind fun x => (copd i).map (.idxAddr sz x)
    | some (.array n e) => (szT P e).bind fun sz => (copd x).bind fun x => (copd i).map (.arrAddr n sz x)
    | _ => none
  | .index t x i => match P.underlying t with
    | some (.array n e) => (szT P e).bind fun sz => (agT P e).bind fun ag => (copd x).bind fun x => (copd i).map (.idx ag n sz x)
    | _ => none
  | .binOp op t x y _ => copBin P op t x y
  | .unOp .not _ x => (copd x).map .not
  | .unOp .neg _ x => (copd x).map .neg
  | .convert s d x => match P.underlying s, P.underlying d with
    | some (.int _), some (.int k) => (copd x).map (.conv k)
    | _, _ => none
  | .pick c a b => (copd c).bind fun c => (copd a).bind fun a => (copd b).map (.pick c a)
  | .nilCheck x => (copd x).map .nilchk
  | .extract x i => (copd x).map (.ext i)
  | .build t parts => (zeroT P t).bind fun zs => match P.underlying t with
    | some (.struct fs) => (fs.toList.mapM fun f => (P.info? f.type).map fun i => (f.offset, i.size)).bind fun places =>
      (parts.toList.mapM fun (p : Nat × Operand) => places[p.1]?.bind fun q => (copd p.2).map fun x => (q.1, q.2, x)).map (.build zs)
    | _ => none
  | .buildSlice t n parts => (elemT P t).bind fun e => (szT P e).bind fun sz => (zeroT P e).bind fun zs =>
    if n * sz ≤ 16777216 ∧ zs.length = sz ∧ n ≤ 16777216 then (parts.toList.mapM fun (p : Nat × Operand) => (copd p.2).map fun x => (p.1, x)).map (.lit n sz zs) else none
  | .slice t x lo hi none => (elemT P t).bind fun e => (szT P e).bind fun sz => (copd x).bind fun x => (copdO lo).bind fun lo => (copdO hi).map (.slice sz x lo)
  | .makeFunc (.func f) first caps => if first.isEmpty then (caps.toList.mapM copd).map (.mkfn f) else none
  | .makeSlice t l c => (elemT P t).bind fun e => (szT P e).bind fun sz => (bytesT P e).bind fun by_ => (zeroT P e).bind fun zs =>
    if zs.length = sz ∧ 0 < by_ ∧ sameOpd l c = true then (copd l).map (.make sz by_ zs) else none
  | .call c => copCall P c
  | _ => none

section
variable {P : Program} {o : Oper} {a : Act} {w : World} {next : Act → World → Prop} {Q : Exit → Act → World → Prop}
theorem wp_value {c : Value} {w' : World} (h : (execOp a.eval o).run P w = .ok (.value c) w') (hn : next (a.put o.dst c) w') : o.wp P a w next Q := by unfold Oper.wp; rw [h]; exact hn
theorem wp_skip_ {w' : World} (h : (execOp a.eval o).run P w = .ok .skip w') (hn : next (a.put o.dst undef) w') : o.wp P a w next Q := by unfold Oper.wp; rw [h]; exact hn
theorem wp_enter {f : FuncId} {args : Array Value} (h : (execOp a.eval o).run P w = .ok (.enter f args) w) (hn : Calls P f args w fun e w'' => ∃ v, e = .returned v ∧ next (a.put o.dst v) w'') : o.wp P a w next Q := by
  unfold Oper.wp; rw [h]
  exact hn.mono fun e w'' ⟨v, he, hv⟩ => by subst he; exact hv
end

section
variable {P : Program} {S : Nat → Prop} {ρ : Rho} {h : Heap} {w : World}

theorem underlying_struct {s : TypeId} {f : Nat} {fd : Field} (h : fieldT P s f = some fd) : ∃ fs, P.underlying s = some (.struct fs) ∧ fs[f]? = some fd := by
  unfold fieldT at h
  cases hu : P.underlying s with
  | none => rw [hu] at h; cases h
  | some d => rw [hu] at h; cases d <;> simp at h; exact ⟨_, rfl, h⟩
theorem underlying_slice {t e : TypeId} (h : elemT P t = some e) : P.underlying t = some (.slice e) := by
  unfold elemT at h
  cases hu : P.underlying t with
  | none => rw [hu] at h; cases h
  | some d => rw [hu] at h; cases d <;> simp at h; subst h; rfl
theorem rdc_part {t : TypeId} {ag : Bool} {off sz : Nat} {cs : Array Value} {vs : List V} {v : V} (hag : agT P t = some ag) (hsz : szT P t = some sz) (hl : cs.size = vs.length)
    (hc : ∀ (j : Nat) (c : Value) (x : V), cs[j]? = some c → vs[j]? = some x → Rep S ρ w c x) (hv : rdc ag sz (vs.drop off) = some v) : ∃ c, (part t cs off).run P w = .ok c w ∧ Rep S ρ w c v := by
  unfold rdc at hv
  cases ag with
  | true =>
    simp only [if_true] at hv
    split at hv
    · rename_i hle
      cases hv
      rw [List.length_drop] at hle
      refine ⟨.agg (cs.extract off (off + sz)), by simp [part, run_isAgg hag, run_sizeOf hsz], .agg (by simp; omega) fun j c x hcj hx => ?_⟩
      have hj : j < sz := by have := (List.getElem?_eq_some_iff.1 hx).1; simp at this; omega
      rw [List.getElem?_take_of_lt hj, List.getElem?_drop] at hx
      rw [Array.getElem?_extract] at hcj
      split at hcj
      · exact hc _ c x hcj hx
      · cases hcj
    · cases hv
  | false =>
    simp only [Bool.false_eq_true, if_false, List.getElem?_drop, Nat.add_zero] at hv
    have hlt : off < cs.size := by rw [hl]; exact (List.getElem?_eq_some_iff.1 hv).1
    have hg : cs[off]? = some cs[off] := Array.getElem?_eq_getElem hlt
    exact ⟨cs[off], by simp [part, run_isAgg hag, hg], hc off _ v hg hv⟩

theorem fieldAddr_run {s : TypeId} {f sz : Nat} {fd : Field} {c : Value} {x v : V} (hf : fieldT P s f = some fd) (hsz : szT P fd.type = some sz) (h0 : sz ≠ 0) (hr : Rep S ρ w c x)
    (hv : fieldAddrV fd.offset x  = some v) : ∃ u, (Instr.fieldAt s c f).run P w = .ok u w ∧ Rep S ρ w u v := by
  unfold fieldAddrV at hv
  obtain ⟨fs, hu, hg⟩ := underlying_struct hf
  have key : ∀ ad : Addr, (Instr.fieldAt s (.pointer (some ad)) f).run P w = .ok (.pointer (some (ad.add fd.offset))) w := fun ad => by
    simp [Instr.fieldAt, run_underlying hu, hg, Instr.sureAddr, fieldPlace, run_sizeOf hsz, h0]
  cases x <;> simp only [reduceCtorEq] at hv
  case ptr id tot i j =>
    cases hv
    cases hr with
    | @ptr _ _ _ _ l g hρ hb ht hi =>
      exact ⟨_, key _, by rw [add_lit, Nat.add_assoc]; exact .ptr l g hρ hb ht hi⟩
    | @ptrS a _ _ _ _ l hρ ht => exact ⟨_, key _, .ptrS l hρ ht⟩
  case rptr cs =>
    cases hv
    cases hr with
    | @rptr ad _ cf hS h1 h2 =>
      refine ⟨_, key _, .rptr (fun j => cf (fd.offset + j)) (by rw [add_block]; exact hS) (fun j x hj => ?_) (fun j x hj => ?_)⟩
      · rw [List.getElem?_drop] at hj; rw [add_add']; exact h1 _ x hj
      · rw [List.getElem?_drop] at hj; exact h2 _ x hj

theorem rptr_add {ad : Addr} {cs : List V} (n : Nat) (h : Rep S ρ w (.pointer (some ad)) (.rptr cs)) : Rep S ρ w (.pointer (some (ad.add n))) (.rptr (cs.drop n)) := by
  cases h with
  | @rptr _ _ cf hS h1 h2 =>
    refine .rptr (fun j => cf (n + j)) (by rw [add_block]; exact hS) (fun j x hj => ?_) (fun j x hj => ?_)
    · rw [List.getElem?_drop] at hj; rw [add_add']; exact h1 _ x hj
    · rw [List.getElem?_drop] at hj; exact h2 _ x hj

theorem idxAddr_run {t e : TypeId} {sz : Nat} {c ci : Value} {x i v : V} (ht : P.underlying t = some (.slice e)) (hsz : szT P e = some sz) (hr : Rep S ρ w c x) (hri : Rep S ρ w ci i)
    (hv : idxAddrV sz x i  = some v) : ∃ u, (Instr.indexAt t c ci).run P w = .ok u w ∧ Rep S ρ w u v := by
  unfold idxAddrV at hv
  have key : ∀ (ad : Addr) (len cap : Nat) (k : IntKind) (n : Int), 0 ≤ n → n < len → (Instr.indexAt t (.slice (some ad) len cap) (.int k n)).run P w = .ok (.pointer (some (ad.add (n.toNat * sz)))) w := fun ad len cap k n h0 h1 => by
    simp [Instr.indexAt, asIntOf, run_underlying ht, h0, h1, run_sizeOf hsz]
  cases i <;> first | (cases x <;> simp only [reduceCtorEq] at hv; done) | skip
  rename_i k n
  cases hri
  cases x <;> simp only [reduceCtorEq] at hv
  case lst s xs =>
    split at hv
    · rename_i hc
      obtain ⟨h0, rfl⟩ := hc
      split at hv
      · rename_i e' he
        cases hv
        cases hr with
        | @lst a m cap _ _ cf hn hc hb' hs ha h1 h2 =>
          have hlt : n.toNat < xs.length := (List.getElem?_eq_some_iff.1 he).1
          obtain ⟨ad, rfl, hS⟩ := ha (by omega)
          refine ⟨_, key ad m cap k n h0 (by omega), .rptr (fun j => cf n.toNat j) (by rw [add_block]; exact hS) (fun j x hj => ?_) (fun j x hj => h2 _ e' j x he hj)⟩
          rw [add_add']; exact (h1 ad _ e' j x rfl he hj).1
      · cases hv
    · cases hv
  case own id s off ln tot =>
    split at hv
    · rename_i hc
      obtain ⟨h0, h1n, rfl⟩ := hc
      cases hv
      cases hr with
      | @own a _ cc _ _ _ _ l hρ hsl ht2 hl2 hc2 h1 h2 =>
        obtain ⟨g, hg, rfl⟩ := h1 (by omega)
        refine ⟨_, key _ ln cc k n h0 h1n, ?_⟩
        rw [add_lit, ← Nat.add_mul, hsl]
        exact .ptr (j := 0) l g hρ hg ht2 (by omega)
      | @ownS a _ cc _ _ _ _ l hρ ht2 hc2 ha =>
        cases a with
        | none => have := ha (by omega); simp at this
        | some ad => exact ⟨_, key _ ln cc k n h0 h1n, .ptrS l hρ ht2⟩
    · cases hv

theorem arrAddr_run {t e : TypeId} {n sz : Nat} {c ci : Value} {x i v : V} (ht : P.underlying t = some (.array n e)) (hsz : szT P e = some sz) (hr : Rep S ρ w c x) (hri : Rep S ρ w ci i)
    (hv : arrAddrV n sz x i  = some v) : ∃ u, (Instr.indexAt t c ci).run P w = .ok u w ∧ Rep S ρ w u v := by
  unfold arrAddrV at hv
  have key : ∀ (ad : Addr) (k : IntKind) (q : Int), 0 ≤ q → q < n → (Instr.indexAt t (.pointer (some ad)) (.int k q)).run P w = .ok (.pointer (some (ad.add (q.toNat * sz)))) w := fun ad k q h0 h1 => by
    simp [Instr.indexAt, asIntOf, run_underlying ht, h0, h1, run_sizeOf hsz, Instr.sureAddr]
  cases i <;> first | (cases x <;> simp only [reduceCtorEq] at hv; done) | skip
  rename_i k q
  cases hri
  cases x <;> simp only [reduceCtorEq] at hv
  case ptr id tot e' j =>
    split at hv
    · rename_i hc
      cases hv
      cases hr with
      | @ptr _ _ _ _ l g hρ hb ht2 hi => exact ⟨_, key _ k q hc.1 hc.2, by rw [add_lit, Nat.add_assoc]; exact .ptr l g hρ hb ht2 hi⟩
      | @ptrS a _ _ _ _ l hρ ht2 => exact ⟨_, key _ k q hc.1 hc.2, .ptrS l hρ ht2⟩
    · cases hv
  case rptr cs =>
    split at hv
    · rename_i hc
      cases hv
      cases hr with
      | @rptr ad _ cf hS h1 h2 => exact ⟨_, key _ k q hc.1 hc.2, rptr_add _ (.rptr cf hS h1 h2)⟩
    · cases hv

theorem idx_run {t e : TypeId} {n sz : Nat} {ag : Bool} {c ci : Value} {x i v : V} (ht : P.underlying t = some (.array n e)) (hsz : szT P e = some sz) (hag : agT P e = some ag) (hr : Rep S ρ w c x) (hri : Rep S ρ w ci i)
    (hv : idxV ag n sz x i  = some v) : ∃ u, (Instr.index t c ci).run P w = .ok u w ∧ Rep S ρ w u v := by
  unfold idxV at hv
  cases i <;> first | (cases x <;> simp only [reduceCtorEq] at hv; done) | skip
  rename_i k q
  cases hri
  cases x <;> simp only [reduceCtorEq] at hv
  rename_i vs
  split at hv
  · rename_i hc
    cases hr with
    | agg hl hcc =>
      obtain ⟨u, h1, h2⟩ := rdc_part (P := P) hag hsz hl hcc hv
      exact ⟨u, by simp [Instr.index, asIntOf, run_underlying ht, hc.1, hc.2, run_sizeOf hsz, h1], h2⟩
  · cases hv
theorem field_run {s : TypeId} {f sz : Nat} {ag : Bool} {fd : Field} {c : Value} {x v : V} (hf : fieldT P s f = some fd) (hsz : szT P fd.type = some sz) (hag : agT P fd.type = some ag) (hr : Rep S ρ w c x)
    (hv : fieldV ag fd.offset sz x  = some v) : ∃ u, (Instr.field s c f).run P w = .ok u w ∧ Rep S ρ w u v := by
  unfold fieldV at hv
  obtain ⟨fs, hu, hg⟩ := underlying_struct hf
  cases x <;> simp only [reduceCtorEq] at hv
  cases hr with
  | agg hl hcc =>
    obtain ⟨u, h1, h2⟩ := rdc_part (P := P) hag hsz hl hcc hv
    exact ⟨u, by simp [Instr.field, run_underlying hu, hg, asAgg, h1], h2⟩

theorem bin_run {t : TypeId} {op : BinOp} {x y : Operand} {cx cy : Value} {a b v : V} (hrx : Rep S ρ w cx a) (hry : Rep S ρ w cy b) (hv : binV op a b = some v) :
    ∃ u, (do eqGuard op t x y cx cy; binOp op t cx cy : Sem Value).run P w = .ok u w ∧ Rep S ρ w u v := by
  cases a <;> first | (cases b <;> simp only [binV, reduceCtorEq] at hv; done) | skip
  case int k m =>
    cases b <;> simp only [binV, reduceCtorEq] at hv
    rename_i k' m'
    cases hrx; cases hry
    have hg : ∀ op, (eqGuard op t x y (.int k m) (.int k' m')).run P w = .ok () w := fun op => by
      unfold eqGuard
      cases op <;> simp
    cases op <;> simp only [arith, Option.some.injEq, reduceCtorEq] at hv
    all_goals first
      | (split at hv
         · rename_i he
           first
             | (subst he; cases hv; exact ⟨_, by simp [hg, binOp, Op.intArith, Op.intBits, Op.intCmp]; rfl, by constructor⟩)
             | (subst he; split at hv
                · cases hv
                · rename_i h0; cases hv; exact ⟨_, by simp [hg, binOp, Op.intDiv, h0]; rfl, by constructor⟩)
             | cases hv
         · rename_i he
           first
             | (cases hv; done)
             | (cases hv; exact ⟨_, by simp [hg, binOp, Op.shift, he]; rfl, by constructor⟩))
      | (cases hv)
      | (split at hv <;> cases hv)
  case str p =>
    cases b <;> simp only [binV, reduceCtorEq] at hv
    rename_i q
    cases hrx; cases hry
    have hg : (eqGuard op t x y (.string p) (.string q)).run P w = .ok () w := by
      unfold eqGuard
      cases op <;> simp
    cases op <;> simp only [reduceCtorEq] at hv
    case add =>
      split at hv
      · cases hv
      · rename_i h0
        cases hv
        exact ⟨_, by simp only [Sem.run_bind, hg, Result.andThen, binOp, Op.stringOp]; rw [if_neg h0]; rfl, .str _⟩
    case eql => cases hv; exact ⟨_, by simp only [Sem.run_bind, hg, Result.andThen, binOp, Op.stringOp]; rfl, .bool _⟩
    case neq => cases hv; exact ⟨_, by simp only [Sem.run_bind, hg, Result.andThen, binOp, Op.stringOp]; rfl, .bool _⟩
theorem beq_run {t : TypeId} {op : BinOp} {ng : Bool} {x y : Operand} {cx cy : Value} {a b v : V} (ht : P.underlying t = some .bool) (hop : (op = .eql ∧ ng = false) ∨ (op = .neq ∧ ng = true)) (hrx : Rep S ρ w cx a) (hry : Rep S ρ w cy b)
    (hv : beqV ng a b  = some v) :
    ∃ u, (do eqGuard op t x y cx cy; binOp op t cx cy : Sem Value).run P w = .ok u w ∧ Rep S ρ w u v := by
  unfold beqV at hv
  cases a <;> first | (cases b <;> simp only [reduceCtorEq] at hv; done) | skip
  rename_i p
  cases b <;> simp only [reduceCtorEq] at hv
  rename_i q
  cases hrx; cases hry
  cases hv
  rcases hop with ⟨rfl, rfl⟩ | ⟨rfl, rfl⟩
  · exact ⟨_, by simp [eqGuard, run_eql_bool _ t p q ht], .bool _⟩
  · exact ⟨_, by simp [eqGuard, run_neq_bool _ t p q ht], .bool _⟩
theorem eqs_run {t : TypeId} {op : BinOp} {ng : Bool} {x y : Operand} {cx cy : Value} {k : IntKind} {xs ys : List Int} (hE : EqTy P t xs.length) (hop : (op = .eql ∧ ng = false) ∨ (op = .neq ∧ ng = true)) (hl : xs.length = ys.length)
    (hrx : Rep S ρ w cx (.agg (xs.map (V.int k)))) (hry : Rep S ρ w cy (.agg (ys.map (V.int k)))) :
    (do eqGuard op t x y cx cy; binOp op t cx cy : Sem Value).run P w = .ok (.bool (if ng then !(xs == ys) else xs == ys)) w := by
  have ints : ∀ {c : Value} {zs : List Int}, Rep S ρ w c (.agg (zs.map (V.int k))) → c = .agg (zs.map (Value.int k)).toArray := by
    intro c zs h
    cases h with
    | @agg cs _ hl hc =>
      congr 1
      apply Array.ext
      · simpa using hl
      · intro i h1 h2
        have hi : i < zs.length := by simpa using h2
        have h3 := hc i cs[i] (V.int k zs[i]) (Array.getElem?_eq_getElem h1) (by simp [hi])
        generalize hcc : cs[i] = cc at h3 ⊢
        cases h3
        simp
  have e1 := ints hrx
  have e2 := ints hry
  subst e1 e2
  have h := hE k xs ys x y w rfl hl.symm
  rcases hop with ⟨rfl, rfl⟩ | ⟨rfl, rfl⟩
  · exact h.1
  · exact h.2
end
end Go.Av
