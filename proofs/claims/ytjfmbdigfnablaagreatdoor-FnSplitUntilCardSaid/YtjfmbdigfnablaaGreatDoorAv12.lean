/- Every operation of the machine that is told as an abstract one comes to what that one tells. No condition. -/
import Derived.Test.YtjfmbdigfnablaaGreatDoorAv11
import Derived.Test.YtjfmbdigfnablaaGreatDoorAv6z
import Derived.WalkSpells
namespace Go.Av
open Go.RowKit
set_option linter.unusedVariables false
set_option linter.unusedSimpArgs false

section
variable {P : Program} {S : Nat → Prop} {ρ : Rho} {w : World} {o : Oper} {a : Act} {s : St} {next : Act → World → Prop} {Q : Exit → Act → World → Prop} {K : V → Heap → Prop} {so : SOp}

/-- What is to be shown behind an operation. -/
def After (P : Program) (S : Nat → Prop) (ρ : Rho) (w : World) (o : Oper) (a : Act) (K : V → Heap → Prop) (next : Act → World → Prop) : Prop :=
  ∀ (c : Value) (w' : World) (v : V) (h' : Heap) (S' : Nat → Prop) (ρ' : Rho), K v h' → HInv S' ρ' h' w' → Rep S' ρ' w' c v → Fr w S ρ S' ρ' w' → next (a.put o.dst c) w'

theorem quiet_wp (H : HInv S ρ s.h w) {v : V} (hK : K v s.h) (hA : After P S ρ w o a K next) (hr : ∃ u, (execOp a.eval o).run P w = .ok (.value u) w ∧ Rep S ρ w u v) : o.wp P a w next Q := by
  obtain ⟨u, h1, h2⟩ := hr
  exact wp_value h1 (hA u w v s.h S ρ hK H h2 (Fr.refl w S ρ))
theorem made_wp {v : V} {h' : Heap} (hK : K v h') (hA : After P S ρ w o a K next) (hr : ∃ u w', (execOp a.eval o).run P w = .ok (.value u) w' ∧ Made S ρ w u w' v h') : o.wp P a w next Q := by
  obtain ⟨u, w', h1, ρ', h2, h3, h4⟩ := hr
  exact wp_value h1 (hA u w' v h' S ρ' hK h2 h3 h4)

theorem args_rep (ht : ∀ t, Rep S ρ w (a.tmps.getD t undef) (s.e t)) {xs : List Operand} {ys : List Opd} (h : xs.mapM copd = some ys) :
    (xs.map a.eval).length = (ys.map s.ev).length ∧ ∀ (j : Nat) (c : Value) (v : V), (xs.map a.eval)[j]? = some c → (ys.map s.ev)[j]? = some v → Rep S ρ w c v := by
  obtain ⟨h1, h2⟩ := mapM_get h
  refine ⟨by simp [h1], fun j c v hc hv => ?_⟩
  rw [List.getElem?_map] at hc hv
  obtain ⟨x, hx, rfl⟩ := Option.map_eq_some_iff.1 hc
  obtain ⟨y, hy, rfl⟩ := Option.map_eq_some_iff.1 hv
  exact opd_rep ht (h2 j x y hx hy)

theorem call_wp (H : HInv S ρ s.h w) (hA : After P S ρ w o a K next) {f : Nat} {cargs : List Value} {args : List V} (hE : CallE P f args s.h K) (hl : cargs.length = args.length)
    (ha : ∀ (j : Nat) (c : Value) (v : V), cargs[j]? = some c → args[j]? = some v → Rep S ρ w c v) (hrun : (execOp a.eval o).run P w = (callFunc f cargs.toArray).run P w) : o.wp P a w next Q := by
  obtain ⟨h1, h2⟩ := call_sound hE H hl ha
  rw [h1] at hrun
  exact wp_enter hrun (h2.mono fun e w'' ⟨v, r, h', S', ρ', he, hK, hH, hR, hF⟩ => ⟨v, he, hA v w'' r h' S' ρ' hK hH hR hF⟩)

theorem build_zero (H : HInv S ρ s.h w) {t : TypeId} {zs : List V} (hz : zeroT P t = some zs) : ∃ z, (zeroValue t).run P w = .ok z w ∧ z.cells.size = zs.length ∧ ∀ (j : Nat) (c : Value) (v : V), z.cells[j]? = some c → zs[j]? = some v → Rep S ρ w c v := by
  obtain ⟨i, z, hi, hzz, hl, hc⟩ := zeroT_spec hz S ρ w
  exact ⟨z, by simp [zeroValue, typeInfo, hi, hzz], hl, fun j c v h1 h2 => (hc j c v h1 h2).2⟩


theorem info_of {e : TypeId} {sz by_ : Nat} (hsz : szT P e = some sz) (hby : bytesT P e = some by_) : ∃ i, P.info? e = some i ∧ i.size = sz ∧ i.bytes = by_ := by
  unfold szT at hsz; unfold bytesT at hby
  cases hi : P.info? e with
  | none => rw [hi] at hsz; cases hsz
  | some i => rw [hi] at hsz hby; simp at hsz hby; exact ⟨i, rfl, hsz, hby⟩
theorem op_sound (hc : cop P o.op = some so) (H : HInv S ρ s.h w) (ht : ∀ t, Rep S ρ w (a.tmps.getD t undef) (s.e t)) (he : so.eff P s.ev s.h K) (hA : After P S ρ w o a K next) : o.wp P a w next Q := by
  have R : ∀ {x : Operand} {y : Opd}, copd x = some y → Rep S ρ w (a.eval x) (s.ev y) := fun h => opd_rep ht h
  cases ho : o.op with
  | move x =>
    simp only [ho, cop, Option.map_eq_some_iff] at hc
    obtain ⟨y, hy, rfl⟩ := hc
    exact quiet_wp H he hA ⟨a.eval x, by simp only [execOp, ho]; rfl, R hy⟩
  | assign x =>
    simp only [ho, cop, Option.map_eq_some_iff] at hc
    obtain ⟨y, hy, rfl⟩ := hc
    exact quiet_wp H he hA ⟨a.eval x, by simp only [execOp, ho]; rfl, R hy⟩
  | load t x =>
    simp only [ho, cop, Option.bind_eq_some_iff, Option.map_eq_some_iff] at hc
    obtain ⟨ag, hag, sz, hsz, y, hy, rfl⟩ := hc
    obtain ⟨v, hv, hk⟩ := elim_some he
    obtain ⟨u, h1, h2⟩ := load_run H hag hsz (R hy) hv
    exact quiet_wp H hk hA ⟨u, by simp [execOp, ho, h1], h2⟩
  | store t x y =>
    simp only [ho, cop, Option.bind_eq_some_iff, Option.map_eq_some_iff] at hc
    obtain ⟨sz, hsz, x', hx, y', hy, rfl⟩ := hc
    simp only [SOp.eff] at he
    have hrx := R hx
    have hry := R hy
    cases hp : s.ev x' <;> simp only [hp] at he
    rename_i id tot i j
    obtain ⟨b, hb, htot, he⟩ := elim_some he
    obtain ⟨e, hbe, c1, c2, c3, hk⟩ := elim_some he
    rw [hp] at hrx
    obtain ⟨w', h1, h2, h3⟩ := store_run (P := P) H hsz hrx hry hb htot hbe c1 c2 c3
    exact wp_skip_ (by simp [execOp, ho, h1]) (hA undef w' .dead _ S ρ hk h2 (.dead _) h3)
  | box t x =>
    simp only [ho, cop, Option.bind_eq_some_iff, Option.map_eq_some_iff] at hc
    obtain ⟨sz, hsz, y, hy, rfl⟩ := hc
    obtain ⟨c1, c2, hk⟩ := he
    obtain ⟨c, w', h1, h2⟩ := box_run (P := P) H t (R hy) c2
    exact made_wp hk hA ⟨c, w', by simp [execOp, ho, h1], h2⟩
  | alloc t =>
    simp only [ho, cop, Option.map_eq_some_iff] at hc
    obtain ⟨zs, hz, rfl⟩ := hc
    obtain ⟨c, w', h1, h2⟩ := zero_run H hz
    exact made_wp he hA ⟨c, w', by simp [execOp, ho, h1], h2⟩
  | fieldAddr t x f =>
    simp only [ho, cop, Option.bind_eq_some_iff] at hc
    obtain ⟨fd, hfd, sz, hsz, hc⟩ := hc
    split at hc
    · cases hc
    · rename_i h0
      obtain ⟨y, hy, rfl⟩ := Option.map_eq_some_iff.1 hc
      obtain ⟨v, hv, hk⟩ := elim_some he
      obtain ⟨u, h1, h2⟩ := fieldAddr_run hfd hsz h0 (R hy) hv
      exact quiet_wp H hk hA ⟨u, by simp [execOp, ho, h1], h2⟩
  | field t x f =>
    simp only [ho, cop, Option.bind_eq_some_iff, Option.map_eq_some_iff] at hc
    obtain ⟨fd, hfd, sz, hsz, ag, hag, y, hy, rfl⟩ := hc
    obtain ⟨v, hv, hk⟩ := elim_some he
    obtain ⟨u, h1, h2⟩ := field_run hfd hsz hag (R hy) hv
    exact quiet_wp H hk hA ⟨u, by simp [execOp, ho, h1], h2⟩
  | indexAddr t x i =>
    simp only [ho, cop] at hc
    split at hc
    · rename_i e hu
      simp only [Option.bind_eq_some_iff, Option.map_eq_some_iff] at hc
      obtain ⟨sz, hsz, x', hx, i', hi, rfl⟩ := hc
      obtain ⟨v, hv, hk⟩ := elim_some he
      obtain ⟨u, h1, h2⟩ := idxAddr_run hu hsz (R hx) (R hi) hv
      exact quiet_wp H hk hA ⟨u, by simp [execOp, ho, h1], h2⟩
    · rename_i n e hu
      simp only [Option.bind_eq_some_iff, Option.map_eq_some_iff] at hc
      obtain ⟨sz, hsz, x', hx, i', hi, rfl⟩ := hc
      obtain ⟨v, hv, hk⟩ := elim_some he
      obtain ⟨u, h1, h2⟩ := arrAddr_run hu hsz (R hx) (R hi) hv
      exact quiet_wp H hk hA ⟨u, by simp [execOp, ho, h1], h2⟩
    · cases hc
  | index t x i =>
    simp only [ho, cop] at hc
    split at hc
    · rename_i n e hu
      simp only [Option.bind_eq_some_iff, Option.map_eq_some_iff] at hc
      obtain ⟨sz, hsz, ag, hag, x', hx, i', hi, rfl⟩ := hc
      obtain ⟨v, hv, hk⟩ := elim_some he
      obtain ⟨u, h1, h2⟩ := idx_run hu hsz hag (R hx) (R hi) hv
      exact quiet_wp H hk hA ⟨u, by simp [execOp, ho, h1], h2⟩
    · cases hc
  | binOp op t x y ty =>
    have fin : ∀ {v : V}, K v s.h → (∃ u, (do eqGuard op t x y (a.eval x) (a.eval y); binOp op t (a.eval x) (a.eval y) : Sem Value).run P w = .ok u w ∧ Rep S ρ w u v) → o.wp P a w next Q := fun hk ⟨u, h1, h2⟩ =>
      quiet_wp H hk hA ⟨u, by
        have e : execOp a.eval o = (do pure (.value (← (do eqGuard op t x y (a.eval x) (a.eval y); binOp op t (a.eval x) (a.eval y) : Sem Value))) : Sem Next) := by simp only [execOp, ho]
        rw [e, Sem.run_bind, h1]; rfl, h2⟩
    have hop : ∀ {ng : Bool}, negOf op = some ng → (op = .eql ∧ ng = false ∨ op = .neq ∧ ng = true) := fun h => by
      cases op <;> simp [negOf] at h <;> subst h <;> simp
    simp only [ho, cop, copBin, Option.bind_eq_some_iff] at hc
    obtain ⟨x', hx, y', hy, d, hu, hc⟩ := hc
    cases d <;> simp only [reduceCtorEq] at hc
    case int k0 =>
      cases hc
      obtain ⟨v, hv, hk⟩ := elim_some he
      exact fin hk (bin_run (R hx) (R hy) hv)
    case string =>
      split at hc <;> cases hc
      all_goals
        obtain ⟨v, hv, hk⟩ := elim_some he
        exact fin hk (bin_run (R hx) (R hy) hv)
    case bool =>
      obtain ⟨ng, hng, rfl⟩ := Option.map_eq_some_iff.1 hc
      obtain ⟨v, hv, hk⟩ := elim_some he
      exact fin hk (beq_run hu (hop hng) (R hx) (R hy) hv)
    case struct fs =>
      obtain ⟨ng, hng, rfl⟩ := Option.map_eq_some_iff.1 hc
      obtain ⟨k, xs, ys, e1, e2, e3, hE, hk⟩ := he
      have hrx := R hx; rw [e1] at hrx
      have hry := R hy; rw [e2] at hry
      exact fin hk ⟨_, eqs_run hE (hop hng) e3 hrx hry, .bool _⟩
    case slice e =>
      split at hc
      · rename_i hn
        obtain ⟨ng, hng, rfl⟩ := Option.map_eq_some_iff.1 hc
        have hy0 : y = .const (.slice none 0 0) := by
          unfold isNilC at hn
          split at hn
          · rfl
          · cases hn
        subst hy0
        have hrx := R hx
        have run : ∀ (ad : Option Addr) (n c : Nat), (do eqGuard op t x (.const (.slice none 0 0)) (.slice ad n c) (.slice none 0 0); binOp op t (.slice ad n c) (.slice none 0 0) : Sem Value).run P w = .ok (.bool (if ng then !ad.isNone else ad.isNone)) w := by
          intro ad n c
          rcases hop hng with ⟨rfl, rfl⟩ | ⟨rfl, rfl⟩
          · simp [eqGuard, Lib.run_eql_slice_nil w t e ad n c 0 0 hu]
          · simp [eqGuard, run_neq_slice_nil_any w t e ad n c 0 0 hu]
        simp only [SOp.eff] at he
        cases hv : s.ev x' <;> simp only [hv] at he
        case lst sz xs =>
          rw [hv] at hrx
          generalize hcx : a.eval x = cx at hrx
          cases hrx with
          | @lst ad n cap _ _ cf hn hc2 hb hs ha h1 h2 =>
            have hval : ∃ b, K (.bool b) s.h ∧ b = (if ng then !ad.isNone else ad.isNone) := by
              split at he
              · exact ⟨_, he _, rfl⟩
              · rename_i hne
                obtain ⟨ad', rfl, _⟩ := ha (by rw [hn]; cases xs <;> simp at hne ⊢)
                exact ⟨ng, he, by cases ng <;> rfl⟩
            obtain ⟨b, hk, rfl⟩ := hval
            refine fin hk ⟨_, ?_, .bool _⟩
            rw [hcx]; exact run ad n cap
        case nils =>
          rw [hv] at hrx
          generalize hcx : a.eval x = cx at hrx
          cases hrx
          refine fin (he (if ng then !(none : Option Addr).isNone else (none : Option Addr).isNone)) ⟨_, ?_, .bool _⟩
          rw [hcx]; exact run none 0 0
      · cases hc
  | unOp op t x =>
    have hrun : execOp a.eval o = (do pure (.value (← Op.unary op (a.eval x))) : Sem Next) := by simp only [execOp, ho]
    cases op <;> simp only [ho, cop, Option.map_eq_some_iff, reduceCtorEq] at hc
    all_goals
      obtain ⟨y, hy, rfl⟩ := hc
      obtain ⟨v, hv, hk⟩ := elim_some he
      have hr := R hy
      simp only [SOp.qv] at hv
      cases hx : s.ev y <;> simp only [hx, reduceCtorEq, Option.some.injEq] at hv
      subst hv
      rw [hx] at hr
      generalize hcx : a.eval x = cx at hr
      cases hr
      exact quiet_wp H hk hA ⟨_, by rw [hrun, hcx]; simp [Op.unary, Op.intArith]; rfl, by first | exact .bool _ | exact .int _ _⟩
  | convert t d x =>
    simp only [ho, cop] at hc
    split at hc
    · rename_i k1 k hs hd
      obtain ⟨y, hy, rfl⟩ := Option.map_eq_some_iff.1 hc
      obtain ⟨v, hv, hk⟩ := elim_some he
      have hr := R hy
      simp only [SOp.qv] at hv
      cases hx : s.ev y <;> simp only [hx, reduceCtorEq, Option.some.injEq] at hv
      subst hv
      rw [hx] at hr
      generalize hcx : a.eval x = cx at hr
      cases hr
      exact quiet_wp H hk hA ⟨_, by simp [execOp, ho, hcx, convert, run_underlying hs, run_underlying hd, Conv.intToInt], .int _ _⟩
    · cases hc
  | pick c x y =>
    simp only [ho, cop, Option.bind_eq_some_iff, Option.map_eq_some_iff] at hc
    obtain ⟨c', hc', x', hx, y', hy, rfl⟩ := hc
    obtain ⟨v, hv, hk⟩ := elim_some he
    have hr := R hc'
    have hrx := R hx
    have hry := R hy
    simp only [SOp.qv] at hv
    cases hcv : s.ev c' <;> simp only [hcv, reduceCtorEq, Option.some.injEq] at hv
    subst hv
    rw [hcv] at hr
    generalize hcx : a.eval c = cx at hr
    cases hr
    rename_i b
    cases b
    · exact quiet_wp H hk hA ⟨_, by simp [execOp, ho, hcx, asBool], hry⟩
    · exact quiet_wp H hk hA ⟨_, by simp [execOp, ho, hcx, asBool], hrx⟩
  | nilCheck x =>
    simp only [ho, cop, Option.map_eq_some_iff] at hc
    obtain ⟨y, hy, rfl⟩ := hc
    obtain ⟨v, hv, hk⟩ := elim_some he
    have hr := R hy
    simp only [SOp.qv] at hv
    cases hx : s.ev y <;> simp only [hx, reduceCtorEq, Option.some.injEq] at hv
    all_goals
      subst hv
      rw [hx] at hr
      generalize hcx : a.eval x = cx at hr
      have hr' := hr
      cases hr <;> exact quiet_wp H hk hA ⟨_, by simp [execOp, ho, hcx], hr'⟩
  | extract x i =>
    simp only [ho, cop, Option.map_eq_some_iff] at hc
    obtain ⟨y, hy, rfl⟩ := hc
    obtain ⟨v, hv, hk⟩ := elim_some he
    have hr := R hy
    simp only [SOp.qv] at hv
    cases hx : s.ev y <;> simp only [hx, reduceCtorEq] at hv
    rw [hx] at hr
    generalize hcx : a.eval x = cx at hr
    cases hr with
    | @tup cs vs hl hcc =>
      have hlt : i < cs.size := by rw [hl]; exact (List.getElem?_eq_some_iff.1 hv).1
      have hg : cs[i]? = some cs[i] := Array.getElem?_eq_getElem hlt
      exact quiet_wp H hk hA ⟨cs[i], by simp [execOp, ho, hcx, Instr.extract, hg], hcc i _ v hg hv⟩
  | build t parts =>
    simp only [ho, cop, Option.bind_eq_some_iff] at hc
    obtain ⟨zs, hz, hc⟩ := hc
    split at hc
    · rename_i fs hu
      obtain ⟨places, hpl, hc⟩ := Option.bind_eq_some_iff.1 hc
      obtain ⟨qs, hqs, rfl⟩ := Option.map_eq_some_iff.1 hc
      obtain ⟨v, hv, hk⟩ := elim_some he
      simp only [SOp.qv, Option.map_eq_some_iff] at hv
      obtain ⟨r, hr, rfl⟩ := hv
      obtain ⟨z, z1, z2, z3⟩ := build_zero (P := P) H hz
      obtain ⟨m1, m2⟩ := mapM_get hqs
      obtain ⟨out, o1, o2, o3⟩ := fill_struct (fun i => places[i]?) s.ev (parts.toList.map fun (p : Nat × Operand) => (p.1, a.eval p.2)) qs z.cells zs r (by simp [m1]) (fun k p q hp hq => by
        rw [List.getElem?_map] at hp
        obtain ⟨p0, hp0, rfl⟩ := Option.map_eq_some_iff.1 hp
        have := m2 k p0 q hp0 hq
        simp only [Option.bind_eq_some_iff, Option.map_eq_some_iff] at this
        obtain ⟨q0, hq0, x, hx, rfl⟩ := this
        exact ⟨hq0, R hx⟩) z2 z3 hr
      refine quiet_wp H hk hA ⟨.agg out, ?_, .agg o2 o3⟩
      have hparts : (parts.map fun (p : Nat × Operand) => (p.1, a.eval p.2)).toList = parts.toList.map fun (p : Nat × Operand) => (p.1, a.eval p.2) := by simp
      have hpl' := run_places (P := P) w fs.toList places hpl
      simp only [execOp, ho, Instr.build, Sem.run_bind, z1, Result.andThen_ok, run_underlying hu]
      rw [Array.mapM_eq_mapM_toList]
      simp [hpl', o1]
    · cases hc
  | buildSlice t n parts =>
    simp only [ho, cop, Option.bind_eq_some_iff] at hc
    obtain ⟨e, hel, sz, hsz, zs, hz, hc⟩ := hc
    split at hc
    · rename_i hcond
      obtain ⟨qs, hqs, rfl⟩ := Option.map_eq_some_iff.1 hc
      obtain ⟨es, hes, hk⟩ := elim_some he
      obtain ⟨m1, m2⟩ := mapM_get hqs
      obtain ⟨c, w', h1, h2⟩ := lit_run (P := P) (ev := s.ev) (ps := parts.map fun (p : Nat × Operand) => (p.1, a.eval p.2)) H (underlying_slice hel) hsz hz hcond.2.1 (by omega) (by simp [m1]) (fun k p q hp hq => by
        rw [Array.toList_map, List.getElem?_map] at hp
        obtain ⟨p0, hp0, rfl⟩ := Option.map_eq_some_iff.1 hp
        have := m2 k p0 q hp0 hq
        obtain ⟨x, hx, rfl⟩ := Option.map_eq_some_iff.1 this
        exact ⟨rfl, R hx⟩) hes (by simp only [maxLen]; omega)
      exact made_wp hk hA ⟨c, w', by simp only [execOp, ho, Sem.run_bind, h1, Result.andThen_ok, Sem.run_pure], h2⟩
    · cases hc
  | slice t x lo hi mx =>
    cases mx with
    | some m => simp [ho, cop] at hc
    | none =>
      simp only [ho, cop, Option.bind_eq_some_iff, Option.map_eq_some_iff] at hc
      obtain ⟨e, hel, sz, hsz, x', hx, lo', hlo, hi', hhi, rfl⟩ := hc
      obtain ⟨v, hv, hk⟩ := elim_some he
      have opt : ∀ {l : Option Operand} {l' : Option Opd}, copdO l = some l' → (∀ u, l'.map s.ev = some u → ∃ b, l.map a.eval = some b ∧ Rep S ρ w b u) ∧ (l'.map s.ev = none → l.map a.eval = none) := by
        intro l l' h
        cases l with
        | none => simp only [copdO, Option.some.injEq] at h; subst h; exact ⟨fun u hu => by simp at hu, fun _ => rfl⟩
        | some y =>
          obtain ⟨y', hy, rfl⟩ := Option.map_eq_some_iff.1 h
          exact ⟨fun u hu => by simp at hu; subst hu; exact ⟨_, rfl, R hy⟩, fun hu => by simp at hu⟩
      obtain ⟨u, h1, h2⟩ := slice_run (P := P) (underlying_slice hel) hsz (R hx) (opt hlo).1 (opt hlo).2 (opt hhi).1 (opt hhi).2 hv
      exact quiet_wp H hk hA ⟨u, by simp [execOp, ho, h1], h2⟩
  | makeFunc fn first caps =>
    cases fn <;> simp only [ho, cop, reduceCtorEq] at hc
    rename_i f
    split at hc
    · rename_i hf
      obtain ⟨ys, hys, rfl⟩ := Option.map_eq_some_iff.1 hc
      obtain ⟨r1, r2⟩ := args_rep ht hys
      have hf' : first = #[] := by simpa using hf
      subst hf'
      exact quiet_wp H he hA ⟨.func (.func f) #[] (caps.map a.eval), by simp [execOp, ho, Instr.makeFunc], .fn (by simpa using r1) (fun j c v hcj hv => r2 j c v (by simpa using hcj) hv)⟩
    · cases hc
  | makeSlice t l c =>
    simp only [ho, cop, Option.bind_eq_some_iff] at hc
    obtain ⟨e, hel, sz, hsz, by_, hby, zs, hz, hc⟩ := hc
    have info : ∃ i, P.info? e = some i ∧ i.size = sz ∧ i.bytes = by_ := by
      unfold szT at hsz; unfold bytesT at hby
      cases hi : P.info? e with
      | none => rw [hi] at hsz; cases hsz
      | some i => rw [hi] at hsz hby; simp at hsz hby; exact ⟨i, rfl, hsz, hby⟩
    obtain ⟨i, hi, i1, i2⟩ := info
    split at hc
    · rename_i hcond
      obtain ⟨hzl, hb0, hsame⟩ := hcond
      obtain ⟨y, hy, rfl⟩ := Option.map_eq_some_iff.1 hc
      have hcl : a.eval c = a.eval l := by
        unfold sameOpd at hsame
        split at hsame
        · simp at hsame; rw [hsame]
        · simp at hsame; rw [hsame.1, hsame.2]
        · cases hsame
      have hr := R hy
      simp only [SOp.eff] at he
      cases hx : s.ev y <;> simp only [hx] at he
      rename_i k q
      rw [hx] at hr
      obtain ⟨h0, hb, hk⟩ := he
      have hq : q ≤ 9223372036854775807 := by
        have : q * 1 ≤ q * (by_ : Int) := Int.mul_le_mul_of_nonneg_left (by omega) h0
        omega
      obtain ⟨cv, w', h1, h2⟩ := make_run (P := P) H (underlying_slice hel) hi i1 i2 hz hzl hr hcl h0 hb hq
      exact made_wp hk hA ⟨cv, w', by simp only [execOp, ho, Sem.run_bind, h1, Result.andThen_ok, Sem.run_pure], h2⟩
    · cases hc
  | call cl =>
    simp only [ho, cop] at hc
    unfold copCall at hc
    split at hc
    · rename_i b hb
      have hrun : ∀ {r : Value} {w' : World}, (builtin b cl.argTypes o.type (cl.args.map fun | .const _ => true | _ => false) (cl.args.map a.eval)).run P w = .ok (.value r) w' → (execOp a.eval o).run P w = .ok (.value r) w' := fun h => by
        simp only [execOp, ho, resolve, hb, Sem.run_bind, Sem.run_pure, Result.andThen_ok, invoke]; exact h
      unfold copBuiltin at hc
      split at hc
      · rename_i x t hargs hts
        obtain ⟨d, hu, hc⟩ := Option.bind_eq_some_iff.1 hc
        have hA1 : cl.args = #[x] := by rw [← Array.toArray_toList (xs := cl.args), hargs]
        have hA2 : cl.argTypes = #[t] := by rw [← Array.toArray_toList (xs := cl.argTypes), hts]
        rw [hA1, hA2] at hrun
        cases d <;> simp only [reduceCtorEq] at hc
        case string =>
          obtain ⟨y, hy, rfl⟩ := Option.map_eq_some_iff.1 hc
          obtain ⟨v, hv, hk⟩ := elim_some he
          have hr := R hy
          simp only [SOp.qv] at hv
          cases hx : s.ev y <;> simp only [hx, reduceCtorEq, Option.some.injEq] at hv
          rename_i q
          subst hv
          rw [hx] at hr
          generalize hcx : a.eval x = cx at hr
          cases hr
          exact quiet_wp H hk hA ⟨.int .i64 q.size, hrun (by simp [hcx, builtin, Builtin.len_, run_underlying hu, goInt]), .int _ _⟩
        case slice e =>
          obtain ⟨y, hy, rfl⟩ := Option.map_eq_some_iff.1 hc
          obtain ⟨v, hv, hk⟩ := elim_some he
          have hr := R hy
          have run : ∀ (ad : Option Addr) (n c : Nat), a.eval x = .slice ad n c → (execOp a.eval o).run P w = .ok (.value (.int .i64 n)) w := fun ad n c hcx => hrun (by simp [hcx, builtin, Builtin.len_, run_underlying hu, goInt])
          simp only [SOp.qv] at hv
          generalize hcx : a.eval x = cx at hr
          cases hx : s.ev y <;> simp only [hx, reduceCtorEq, Option.some.injEq] at hv
          case lst sz xs =>
            subst hv
            rw [hx] at hr
            cases hr with
            | @lst ad n cap _ _ cf hn hc2 hb hs ha h1 h2 => subst hn; exact quiet_wp H hk hA ⟨_, run _ _ _ hcx, .int _ _⟩
          case nils =>
            subst hv
            rw [hx] at hr
            cases hr; exact quiet_wp H hk hA ⟨_, run _ _ _ hcx, .int _ _⟩
          case own id sz off ln tot =>
            subst hv
            rw [hx] at hr
            cases hr <;> exact quiet_wp H hk hA ⟨_, run _ _ _ hcx, .int _ _⟩
      · rename_i x y hargs
        simp only [Option.bind_eq_some_iff, Option.map_eq_some_iff] at hc
        obtain ⟨x', hx, y', hy, rfl⟩ := hc
        have hA1 : cl.args = #[x, y] := by rw [← Array.toArray_toList (xs := cl.args), hargs]
        rw [hA1] at hrun
        obtain ⟨v, hv, hk⟩ := elim_some he
        have hrx := R hx
        have hry := R hy
        simp only [SOp.qv] at hv
        cases hxv : s.ev x' <;> first | (cases hyv : s.ev y' <;> simp only [hxv, hyv, reduceCtorEq] at hv; done) | skip
        rename_i k p
        cases hyv : s.ev y' <;> simp only [hxv, hyv, reduceCtorEq, Option.some.injEq] at hv
        rename_i k' q
        subst hv
        rw [hxv] at hrx; rw [hyv] at hry
        generalize hcx : a.eval x = cx at hrx
        generalize hcy : a.eval y = cy at hry
        cases hrx; cases hry
        exact quiet_wp H hk hA ⟨_, hrun (by simp [hcx, hcy, builtin, Builtin.min_, Builtin.min2]), .int _ _⟩
      · rename_i x y hargs
        simp only [Option.bind_eq_some_iff, Option.map_eq_some_iff] at hc
        obtain ⟨x', hx, y', hy, rfl⟩ := hc
        have hA1 : cl.args = #[x, y] := by rw [← Array.toArray_toList (xs := cl.args), hargs]
        rw [hA1] at hrun
        obtain ⟨v, hv, hk⟩ := elim_some he
        have hrx := R hx
        have hry := R hy
        simp only [SOp.qv] at hv
        cases hxv : s.ev x' <;> first | (cases hyv : s.ev y' <;> simp only [hxv, hyv, reduceCtorEq] at hv; done) | skip
        rename_i k p
        cases hyv : s.ev y' <;> simp only [hxv, hyv, reduceCtorEq, Option.some.injEq] at hv
        rename_i k' q
        subst hv
        rw [hxv] at hrx; rw [hyv] at hry
        generalize hcx : a.eval x = cx at hrx
        generalize hcy : a.eval y = cy at hry
        cases hrx; cases hry
        exact quiet_wp H hk hA ⟨_, hrun (by simp [hcx, hcy, builtin, Builtin.max_, Builtin.max2]), .int _ _⟩
      · rename_i sl x t t' hargs hts
        split at hc
        · rename_i htt
          subst htt
          simp only [Option.bind_eq_some_iff] at hc
          obtain ⟨e, hel, sz, hsz, by_, hby, zs, hz, hc⟩ := hc
          split at hc
          · rename_i hcond
            simp only [Option.bind_eq_some_iff, Option.map_eq_some_iff] at hc
            obtain ⟨s', hs', x', hx, rfl⟩ := hc
            have hA1 : cl.args = #[sl, x] := by rw [← Array.toArray_toList (xs := cl.args), hargs]
            have hA2 : cl.argTypes = #[t, t] := by rw [← Array.toArray_toList (xs := cl.argTypes), hts]
            rw [hA1, hA2] at hrun
            obtain ⟨i, hi, i1, i2⟩ := info_of hsz hby
            obtain ⟨xs, hxs, he⟩ := elim_some he
            have hrs := R hs'
            have hrx := R hx
            have room : ∀ n : Nat, n * by_ ≤ 140737488355328 → n ≤ maxLen := fun n hn => by
              have : n * 1 ≤ n * by_ := Nat.mul_le_mul_left _ hcond.2.2
              simp only [maxLen]; omega
            cases hsv : s.ev s' <;> simp only [hsv] at he
            case nils =>
              rw [hsv] at hrs
              obtain ⟨c, w', h1, h2⟩ := append_new (P := P) (ty := o.type) H (underlying_slice hel) hi hz hcond.1 i1 i2 hrs hrx hxs he.1 (room _ he.1)
              exact made_wp he.2 hA ⟨c, w', hrun (by simp [builtin, h1]), h2⟩
            case own id s0 off ln tot =>
              obtain ⟨b, hb, c1, c2, c3, c4, c5, hk⟩ := elim_some he
              subst c1 c2 c3 c4
              rw [hsv] at hrs
              obtain ⟨c, w', h1, h2⟩ := append_own (P := P) (ty := o.type) H (underlying_slice hel) hi hz hcond.1 i1 i2 hrs hb hrx hxs c5 (room _ c5)
              exact made_wp hk hA ⟨c, w', hrun (by simp [builtin, h1]), h2⟩
          · cases hc
        · unfold copZeros at hc
          split at hc
          · rename_i kq n kn hu
            simp only [Option.bind_eq_some_iff] at hc
            obtain ⟨e, hel, sz, hsz, by_, hby, zs, hz, hc⟩ := hc
            split at hc
            · rename_i hcond
              obtain ⟨s', hs', rfl⟩ := Option.map_eq_some_iff.1 hc
              have hA1 : cl.args = #[sl, .const (.int kq n)] := by rw [← Array.toArray_toList (xs := cl.args), hargs]
              have hA2 : cl.argTypes = #[t, t'] := by rw [← Array.toArray_toList (xs := cl.argTypes), hts]
              rw [hA1, hA2] at hrun
              obtain ⟨i, hi, i1, i2⟩ := info_of hsz hby
              obtain ⟨xs, hxs, he⟩ := elim_some he
              have hxe : xs = List.replicate n.toNat zs := by simpa [elemsOf, St.ev] using hxs.symm
              have hlen : (xs.length : Int) = n := by rw [hxe, List.length_replicate]; omega
              have h0 : 0 < xs.length := by omega
              have hrs := R hs'
              have room : ∀ n : Nat, n * by_ ≤ 140737488355328 → n ≤ maxLen := fun n hn => by
                have : n * 1 ≤ n * by_ := Nat.mul_le_mul_left _ hcond.2.2.1
                simp only [maxLen]; omega
              have hev : a.eval (.const (.int kq n)) = .int kq (xs.length : Int) := by rw [hlen]; rfl
              simp only [List.map_toArray, List.map_cons, List.map_nil, hev] at hrun
              cases hsv : s.ev s' <;> simp only [hsv] at he
              case nils =>
                rw [hsv] at hrs
                obtain ⟨c, w', h1, h2⟩ := append_new_zeros (P := P) (ty := o.type) H kq kn (underlying_slice hel) hu hi hz hcond.1 hcond.2.1 i1 i2 xs h0 hxe hrs he.1 (room _ he.1)
                exact made_wp he.2 hA ⟨c, w', hrun (by simp [builtin, h1]), h2⟩
              case own id s0 off ln tot =>
                obtain ⟨b, hb, c1, c2, c3, c4, c5, hk⟩ := elim_some he
                subst c1 c2 c3 c4
                rw [hsv] at hrs
                obtain ⟨c, w', h1, h2⟩ := append_own_zeros (P := P) (ty := o.type) H kq kn (underlying_slice hel) hu hi hz hcond.1 hcond.2.1 i1 i2 xs h0 hxe hrs hb c5 (room _ c5)
                exact made_wp hk hA ⟨c, w', hrun (by simp [builtin, h1]), h2⟩
            · cases hc
          · cases hc
      · rename_i x t hargs hts
        simp only [Option.bind_eq_some_iff] at hc
        obtain ⟨e, hel, sz, hsz, zs, hz, hc⟩ := hc
        split at hc
        · rename_i hzl
          obtain ⟨x', hx, rfl⟩ := Option.map_eq_some_iff.1 hc
          have hA1 : cl.args = #[x] := by rw [← Array.toArray_toList (xs := cl.args), hargs]
          have hA2 : cl.argTypes = #[t] := by rw [← Array.toArray_toList (xs := cl.argTypes), hts]
          rw [hA1, hA2] at hrun
          have hi : ∃ i, P.info? e = some i ∧ i.size = sz := by
            unfold szT at hsz
            cases hi : P.info? e with
            | none => rw [hi] at hsz; cases hsz
            | some i => rw [hi] at hsz; simp at hsz; exact ⟨i, rfl, hsz⟩
          obtain ⟨i, hi, i1⟩ := hi
          have hr := R hx
          simp only [SOp.eff] at he
          cases hxv : s.ev x' <;> simp only [hxv] at he
          rename_i id s0 off ln tot
          rw [hxv] at hr
          obtain ⟨b, hb, c1, c2, c3, c4, hk⟩ := elim_some he
          subst c3
          obtain ⟨w', h1, h2, h3⟩ := clear_run (P := P) (ty := o.type) H (underlying_slice hel) hi i1 hz hzl hr hb c2 c1
          exact wp_value (hrun (by simp [builtin, h1])) (hA (.tuple #[]) w' (.tup []) _ S ρ hk h2 (.tup rfl fun j c v hc => by simp at hc) h3)
        · cases hc
      · cases hc
    · rename_i f hb
      obtain ⟨ys, hys, rfl⟩ := Option.map_eq_some_iff.1 hc
      obtain ⟨r1, r2⟩ := args_rep ht hys
      refine call_wp H hA he r1 r2 ?_
      have e : (cl.args.toList.map a.eval).toArray = cl.args.map a.eval := by apply Array.ext'; simp
      rw [e]
      simp [execOp, ho, resolve, hb, Act.eval, Deferred.ofValue, invoke]
    · rename_i t hb
      obtain ⟨ys, hys, rfl⟩ := Option.map_eq_some_iff.1 hc
      obtain ⟨r1, r2⟩ := args_rep ht hys
      have hg := ht t
      have he' : (match s.e t with | .fn f caps => CallE P f (ys.map s.ev ++ caps) s.h K | _ => False) := he
      cases hx : s.e t <;> simp only [hx] at he'
      rename_i f caps
      rw [hx] at hg
      have hev : a.eval (.tmp t) = a.tmps.getD t undef := rfl
      generalize hcx : a.tmps.getD t undef = cx at hg
      cases hg with
      | @fn _ cs _ hl2 hc2 =>
        refine call_wp (cargs := cl.args.toList.map a.eval ++ cs.toList) H hA he' (by simp at r1 ⊢; omega) (fun j c v hcj hv => ?_) ?_
        · rcases Nat.lt_or_ge j (cl.args.toList.map a.eval).length with h1 | h1
          · rw [List.getElem?_append_left h1] at hcj
            rw [List.getElem?_append_left (by omega)] at hv
            exact r2 j c v hcj hv
          · rw [List.getElem?_append_right h1] at hcj
            rw [List.getElem?_append_right (by omega)] at hv
            rw [← r1] at hv
            refine hc2 _ c v ?_ hv
            rw [← Array.getElem?_toList]; exact hcj
        · rw [hcx] at hev
          have e : (cl.args.toList.map a.eval ++ cs.toList).toArray = cl.args.map a.eval ++ cs := by apply Array.ext'; simp
          rw [e]
          simp [execOp, ho, resolve, hb, hev, Deferred.ofValue, invoke]
    · cases hc
  | _ => simp [ho, cop] at hc
end
end Go.Av
