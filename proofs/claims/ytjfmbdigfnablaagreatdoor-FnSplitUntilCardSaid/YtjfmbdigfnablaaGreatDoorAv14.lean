/- A function's code, as the abstract telling has it; its contract. Regions that draw their order are given by what is shown of them elsewhere. No condition. -/
import Derived.Test.YtjfmbdigfnablaaGreatDoorAv13
namespace Go.Av
open Go.RowKit
set_option linter.unusedVariables false
set_option linter.unusedSimpArgs false

section
variable {P : Program} {w0 : World} {S0 : Nat → Prop} {ρ0 : Rho} {n : Nat}

theorem ops_sound {ops : Array Oper} {Q : Exit → Act → World → Prop} {K : St → Prop} (hK : ∀ s a w, K s → Sim w0 S0 ρ0 n s a w → Q .normal a w) :
    ∀ (is : List Nat) (os : List SOper), is.length = os.length → (∀ (k i : Nat) (so : SOper), is[k]? = some i → os[k]? = some so → OkAt P ops n i so) → ∀ (s : St) (a : Act) (w : World), swOps P os K s → Sim w0 S0 ρ0 n s a w → wpOps P ops Q is a w
  | [], [], _, _, s, a, w, h, hs => hK s a w h hs
  | [], _ :: _, hl, _, _, _, _, _, _ => by simp at hl
  | _ :: _, [], hl, _, _, _, _, _, _ => by simp at hl
  | i :: is, o :: os, hl, hok, s, a, w, h, hs => by
    rw [wpOps_cons]
    exact op_step (hok 0 i o rfl rfl) h hs fun s' a' w' hk hs' => ops_sound hK is os (by simpa using hl) (fun k i so h1 h2 => hok (k + 1) i so (by simpa using h1) (by simpa using h2)) s' a' w' hk hs'

/-- How a region's operations are told. -/
inductive RegOk (P : Program) (n : Nat) : Array Oper → Bool → SCode → Prop
  | text {ops : Array Oper} {os : List SOper} (hl : os.length = ops.size) (h : ∀ (i : Nat) (so : SOper), os[i]? = some so → OkAt P ops n i so) : RegOk P n ops false (.reg os)
  | draw {ops : Array Oper} {os : List SOper} (h : ∀ (w0 : World) (S0 : Nat → Prop) (ρ0 : Rho) (Q : Exit → Act → World → Prop) (K : St → Prop), (∀ s a w, K s → Sim w0 S0 ρ0 n s a w → Q .normal a w) →
      ∀ s a w, swD P os [] K s → Sim w0 S0 ρ0 n s a w → wpAny P .any ops Q ops.size (Array.replicate ops.size false) a w) : RegOk P n ops true (.regD os)

/-- How a function's code is told. -/
inductive CodeOk (P : Program) (n : Nat) : Code → SCode → Prop
  | skip : CodeOk P n .skip .skip
  | region {id : Nat} {ops : Array Oper} {d : Bool} {c : SCode} (h : RegOk P n ops d c) : CodeOk P n (.region id ops d) c
  | seq {a b : Code} {a' b' : SCode} (ha : CodeOk P n a a') (hb : CodeOk P n b b') : CodeOk P n (.seq a b) (.seq a' b')
  | cond {c : Operand} {c' : Opd} {a b : Code} {a' b' : SCode} (hc : copd c = some c') (ha : CodeOk P n a a') (hb : CodeOk P n b b') : CodeOk P n (.cond c a b) (.cond c' a' b')
  | block {id : Nat} {a : Code} {a' : SCode} (ha : CodeOk P n a a') : CodeOk P n (.block id a) (.block id a')
  | loop {a : Code} {a' : SCode} (ha : CodeOk P n a a') : CodeOk P n (.loop a) (.loop a')
  | exit {id : Nat} : CodeOk P n (.exit id) (.exit id)
  | ret : CodeOk P n .ret .ret

def Ex.to : Ex → Exit
  | .normal => .normal
  | .exit id => .exit id
  | .ret => .ret

theorem Sim.drew {s : St} {a : Act} {w : World} (h : Sim w0 S0 ρ0 n s a w) (m : Nat) : Sim w0 S0 ρ0 n s a { w with drawn := m } := by
  obtain ⟨⟨S, ρ, H, F, ht, ho⟩, hd, hs⟩ := h
  refine ⟨⟨S, ρ, ⟨fun id b hb => ?_, H.none_, H.inj, H.stab, H.tab⟩, F.trans (drewN_fr w S ρ m), fun t => (ht t).mono (fun _ _ => rfl) (fun _ h => h) (Le.refl ρ), fun t sz e => ?_⟩, hd, hs⟩
  · obtain ⟨l, e, hB⟩ := H.blk id b hb
    exact ⟨l, e, hB.tot, hB.cap, hB.capm, hB.sz, fun g eg => by
      obtain ⟨n, cs, ty, a, b', c⟩ := hB.mem g eg
      exact ⟨n, cs, ty, a, b', fun i e j v hi hj => by
        obtain ⟨cc, x, y, z⟩ := c i e j v hi hj
        exact ⟨cc, x, y, z.mono (fun _ _ => rfl) (fun _ h => h) (Le.refl ρ)⟩⟩, hB.nomem, hB.emp⟩
  · exact ho t sz e


theorem code_sound (hm : P.follows .mixedOrders = true) {c : Code} {sc : SCode} (hc : CodeOk P n c sc) : ∀ {K : Ex → St → Prop} {Q : Exit → Act → World → Prop} {s : St} {a : Act} {w : World}, swp P sc K s → Sim w0 S0 ρ0 n s a w →
    (∀ e s a w, K e s → Sim w0 S0 ρ0 n s a w → Q e.to a w) → c.wp P Q a w := by
  induction hc with
  | skip => intro K Q s a w h hs hK; exact wp_skip (hK .normal s a w h hs)
  | @region id ops d c hreg =>
    intro K Q s a w h hs hK
    cases hreg with
    | @text os hl hok =>
      refine wp_region (ops_sound (K := K .normal) (fun s a w hk hs => hK .normal s a w hk hs) _ os (by simp [hl]) (fun k i so h1 h2 => ?_) s a w h hs)
      have hk : k < ops.size := by have := (List.getElem?_eq_some_iff.1 h1).1; simpa using this
      simp [hk] at h1
      subst h1
      exact hok k so h2
    | @draw os hdr => exact wp_region_any hm (hdr w0 S0 ρ0 Q (K .normal) (fun s a w hk hs => hK .normal s a w hk hs) s a _ h (hs.drew _))
  | seq ha hb iha ihb =>
    intro K Q s a w h hs hK
    refine wp_seq (iha h hs fun e s a w hk hs => ?_)
    cases e with
    | normal => exact ihb hk hs hK
    | exit id => exact hK (.exit id) s a w hk hs
    | ret => exact hK .ret s a w hk hs
  | @cond c c' x y x' y' hc ha hb iha ihb =>
    intro K Q s a w h hs hK
    obtain ⟨S, ρ, H, F, ht, ho⟩ := hs.ex
    have hr := opd_rep ht hc
    simp only [swp] at h
    cases hv : s.ev c' <;> simp only [hv] at h
    rename_i t
    rw [hv] at hr
    generalize hcx : a.eval c = cx at hr
    cases hr
    cases t
    · exact wp_cond_false hcx (ihb (by simpa using h) hs hK)
    · exact wp_cond_true hcx (iha (by simpa using h) hs hK)
  | @block id x x' ha iha =>
    intro K Q s a w h hs hK
    refine wp_block (iha h hs fun e s a w hk hs => ?_)
    cases e with
    | normal => exact hK .normal s a w hk hs
    | exit i =>
      simp only [Ex.to, Exit.inBlock]
      by_cases e : i = id
      · simp only [e, if_true] at hk ⊢; exact hK .normal s a w hk hs
      · simp only [e, if_false] at hk ⊢; exact hK (.exit i) s a w hk hs
    | ret => exact hK .ret s a w hk hs
  | @loop x x' ha iha =>
    intro K Q s a w h hs hK
    obtain ⟨I, m, h0, hround⟩ := h
    have key : ∀ m s a w, I m s → Sim w0 S0 ρ0 n s a w → ∀ (b : Frame) (k : List Item) (cs : List Frame), ∃ e a' w', Q e a' w' ∧ Arrives P (lone (b.at a (.code x :: .inLoop x :: k)) cs w) b k cs e a' w' := by
      intro m
      induction m using Nat.strongRecOn with
      | _ m ih =>
        intro s a w hI hs b k cs
        have h1 : x.wp P (fun e a' w' => match e with | .normal => ∃ m' s', m' < m ∧ I m' s' ∧ Sim w0 S0 ρ0 n s' a' w' | e => Q e a' w') a w := iha (hround m s hI) hs fun e s' a' w' hk hs' => by
          cases e with
          | normal => obtain ⟨m', hlt, hI'⟩ := hk; exact ⟨m', s', hlt, hI', hs'⟩
          | exit id => exact hK (.exit id) s' a' w' hk hs'
          | ret => exact hK .ret s' a' w' hk hs'
        obtain ⟨e, a₁, w₁, hq, harr⟩ := h1 b (.inLoop x :: k) cs
        cases e with
        | normal =>
          obtain ⟨m', s', hlt, hI', hs'⟩ := hq
          obtain ⟨e₂, a₂, w₂, hq₂, harr₂⟩ := ih m' hlt s' a₁ w₁ hI' hs' b k cs
          exact ⟨e₂, a₂, w₂, hq₂, .of_steps (Steps.trans harr (.one step_inLoop)) harr₂⟩
        | exit id => exact ⟨_, a₁, w₁, hq, .pass (x := .inLoop x) rfl (fun _ _ => .inl (by simp)) harr⟩
        | goto l => exact ⟨_, a₁, w₁, hq, .pass (x := .inLoop x) rfl (fun _ _ => .inl (by simp)) harr⟩
        | ret => exact ⟨_, a₁, w₁, hq, .pass (x := .inLoop x) rfl (fun _ _ => .inl (by simp)) harr⟩
        | panic ch => exact ⟨_, a₁, w₁, hq, .pass (x := .inLoop x) rfl (fun _ _ => .inl (by simp)) harr⟩
        | outgrown => exact ⟨_, a₁, w₁, hq, .pass (x := .inLoop x) rfl (fun _ _ => .inl (by simp)) harr⟩
    intro b k cs
    obtain ⟨e, a', w', hq, harr⟩ := key m s a w h0 hs b k cs
    exact ⟨e, a', w', hq, .of_steps (.one step_loop) harr⟩
  | exit => intro K Q s a w h hs hK; exact wp_exit (hK (.exit _) s a w h hs)
  | ret => intro K Q s a w h hs hK; exact wp_ret (hK .ret s a w h hs)

/-- How a function's results are told. -/
inductive ResOk (P : Program) : ResultVar → SRes → Prop
  | tmp {t : Nat} : ResOk P (.tmp t) (.tmp t)
  | cell {t : Nat} {ty : TypeId} {ag : Bool} {sz : Nat} (hag : agT P ty = some ag) (hsz : szT P ty = some sz) : ResOk P (.cell t ty) (.cell t ag sz)

theorem res_sound {S : Nat → Prop} {ρ : Rho} {s : St} {a : Act} {w : World} (H : HInv S ρ s.h w) (ht : ∀ t, Rep S ρ w (a.tmps.getD t undef) (s.e t)) : ∀ (l : List ResultVar) (rs : List SRes) (vs : List V), l.length = rs.length →
    (∀ (k : Nat) (x : ResultVar) (y : SRes), l[k]? = some x → rs[k]? = some y → ResOk P x y) → resVals s rs = some vs →
    ∃ cs : List Value, (l.mapM (fun | .tmp t => pure (a.tmps.getD t undef) | .cell x t => do loadVar t (← asAddr (a.tmps.getD x undef)) : ResultVar → Sem Value)).run P w = .ok cs w ∧ cs.length = vs.length ∧ ∀ (j : Nat) (c : Value) (v : V), cs[j]? = some c → vs[j]? = some v → Rep S ρ w c v
  | [], [], vs, _, _, hv => by simp [resVals] at hv; subst hv; exact ⟨[], rfl, rfl, fun j c v h => by simp at h⟩
  | [], _ :: _, _, hl, _, _ => by simp at hl
  | _ :: _, [], _, hl, _, _ => by simp at hl
  | x :: l, y :: rs, vs, hl, hok, hv => by
    simp only [resVals, Option.bind_eq_some_iff, Option.map_eq_some_iff] at hv
    obtain ⟨v, hv1, vs', hv2, rfl⟩ := hv
    obtain ⟨cs, h1, h2, h3⟩ := res_sound H ht l rs vs' (by simpa using hl) (fun k x y hx hy => hok (k + 1) x y (by simpa using hx) (by simpa using hy)) hv2
    have h0 : ∃ c, ((match x with | .tmp t => pure (a.tmps.getD t undef) | .cell x t => do loadVar t (← asAddr (a.tmps.getD x undef)) : Sem Value)).run P w = .ok c w ∧ Rep S ρ w c v := by
      cases hok 0 x y rfl rfl with
      | @tmp t => simp only [SRes.val, Option.some.injEq] at hv1; subst hv1; exact ⟨_, rfl, ht t⟩
      | @cell t ty ag sz hag hsz =>
        have hr := ht t
        simp only [SRes.val, SOp.qv, St.ev] at hv1
        obtain ⟨c, e1, e2⟩ := load_run (P := P) H hag hsz hr hv1
        have : ∃ ad, a.tmps.getD t undef = .pointer (some ad) := by
          cases hx : s.e t <;> simp only [hx, loadV, reduceCtorEq] at hv1
          all_goals
            rw [hx] at hr
            generalize a.tmps.getD t undef = cx at hr
            cases hr <;> exact ⟨_, rfl⟩
        obtain ⟨ad, ead⟩ := this
        rw [ead] at e1
        refine ⟨c, ?_, e2⟩
        simp only [ead, asAddr, Sem.run_bind, Sem.run_pure, Result.andThen_ok]
        simpa [Instr.loadAt, Instr.sureAddr] using e1
    obtain ⟨c, h4, h5⟩ := h0
    refine ⟨c :: cs, ?_, by simp [h2], fun j c' v' hc hv => ?_⟩
    · simp only [List.mapM_cons, Sem.run_bind, h4, Result.andThen_ok, h1, Sem.run_pure]
    · cases j with
      | zero => simp at hc hv; subst hc hv; exact h5
      | succ j => exact h3 j c' v' (by simpa using hc) (by simpa using hv)

theorem results_sound {fn : Func} {rs : List SRes} (hl : fn.results.toList.length = rs.length) (hok : ∀ (k : Nat) (x : ResultVar) (y : SRes), fn.results.toList[k]? = some x → rs[k]? = some y → ResOk P x y)
    {S : Nat → Prop} {ρ : Rho} {s : St} {a : Act} {w : World} (H : HInv S ρ s.h w) (ht : ∀ t, Rep S ρ w (a.tmps.getD t undef) (s.e t)) {r : V} (hr : resV s rs = some r) : ∃ c, (results fn a.tmps).run P w = .ok c w ∧ Rep S ρ w c r := by
  unfold resV at hr
  obtain ⟨vs, hvs, rfl⟩ := Option.map_eq_some_iff.1 hr
  obtain ⟨cs, h1, h2, h3⟩ := res_sound (P := P) H ht fn.results.toList rs vs hl hok hvs
  have hrun : ((fn.results.mapM fun | .tmp t => pure (a.tmps.getD t undef) | .cell x t => do loadVar t (← asAddr (a.tmps.getD x undef)) : Sem (Array Value))).run P w = .ok cs.toArray w := by
    rw [Array.mapM_eq_mapM_toList, show ∀ (x : Sem (List Value)), (List.toArray <$> x).run P w = ((x.run P w).andThen fun l w' => .ok l.toArray w') from fun x => by show (x >>= fun l => pure l.toArray).run P w = _; rw [Sem.run_bind]; rfl, h1]; rfl
  have hres : (results fn a.tmps).run P w = .ok (if h : cs.toArray.size = 1 then cs.toArray[0] else .tuple cs.toArray) w := by
    unfold results
    rw [Sem.run_bind]
    exact congrArg (fun r => Result.andThen r fun (a : Array Value) w' => (pure (if h : a.size = 1 then a[0] else Value.tuple a) : Sem Value).run P w') hrun
  rcases vs with _ | ⟨v, _ | ⟨v', vs⟩⟩
  · rcases cs with _ | ⟨c, cs⟩
    · exact ⟨.tuple #[], by rw [hres]; simp, .tup rfl fun j c v h => by simp at h⟩
    · simp at h2
  · rcases cs with _ | ⟨c, _ | ⟨c', cs⟩⟩
    · simp at h2
    · exact ⟨c, by rw [hres]; simp, h3 0 c v rfl rfl⟩
    · simp at h2
  · rcases cs with _ | ⟨c, _ | ⟨c', cs⟩⟩
    · simp at h2
    · simp at h2
    · exact ⟨.tuple (c :: c' :: cs).toArray, by rw [hres]; simp, .tup (by simpa using h2) fun j x y hx hy => h3 j x y (by simpa using hx) hy⟩

/-- A function as it is told. -/
structure FnOk (P : Program) (f : FuncId) (nargs : Nat) (sc : SCode) (rs : List SRes) : Prop where
  ok : ∃ fn c, P.funcs[f]? = some fn ∧ fn.body = some c ∧ (fn.name == "runtime.NumGoroutine") = false ∧ nargs ≤ fn.ntmps ∧ CodeOk P fn.ntmps c sc ∧ fn.results.toList.length = rs.length ∧
    ∀ (k : Nat) (x : ResultVar) (y : SRes), fn.results.toList[k]? = some x → rs[k]? = some y → ResOk P x y

def startE (args : List V) : Nat → V := fun t => (args[t]?).getD .dead

/-- The contract of a function out of its code. -/
theorem C.of {f : FuncId} {sc : SCode} {rs : List SRes} {args : List V} {h : Heap} {Q : V → Heap → Prop} (hm : P.follows .mixedOrders = true) (hf : FnOk P f args.length sc rs) (hnh : ∀ t sz, startE args t ≠ .hole sz)
    (hw : swp P sc (fun e s => match e with | .exit _ => False | _ => ∃ r, resV s rs = some r ∧ Q r s.h) ⟨startE args, h⟩) : C P f args h Q := by
  obtain ⟨fn, c, h1, h2, h3, h4, h5, h6, h7⟩ := hf.ok
  refine ⟨fun args w => ?_, fun w S ρ cargs H hl ha => ?_⟩
  · have h3' : ¬ fn.name = "runtime.NumGoroutine" := by simpa using h3
    simp [callFunc, h1, h3', h2]
  · have hlen : (cargs.toArray ++ Array.replicate (fn.ntmps - cargs.toArray.size) undef).size = fn.ntmps := by simp; omega
    refine calls_of_wp h1 h2 (code_sound (w0 := w) (S0 := S) (ρ0 := ρ) hm h5 hw (a := { tmps := cargs.toArray ++ Array.replicate (fn.ntmps - cargs.toArray.size) undef, defers := [] }) ⟨⟨S, ρ, H, Fr.refl w S ρ, fun t => ?_, fun t sz e => absurd e (hnh t sz)⟩, rfl, hlen⟩ fun e s a w' hk hs => ?_)
    · show Rep S ρ w (Array.getD _ t undef) (startE args t)
      rcases Nat.lt_or_ge t cargs.length with h8 | h8
      · have e1 : (cargs.toArray ++ Array.replicate (fn.ntmps - cargs.toArray.size) undef).getD t undef = cargs[t] := by
          simp [Array.getD_eq_getD_getElem?, Array.getElem?_append, h8]
        have h9 : t < args.length := by omega
        rw [e1]
        simp only [startE, List.getElem?_eq_getElem h9, Option.getD_some]
        exact ha t _ _ (List.getElem?_eq_getElem h8) (List.getElem?_eq_getElem h9)
      · simp only [startE, List.getElem?_eq_none (show args.length ≤ t by omega), Option.getD_none]
        exact .dead _
    · obtain ⟨S', ρ', H', F', ht', ho'⟩ := hs.ex
      have fin : (∃ r, resV s rs = some r ∧ Q r s.h) → a.defers = [] ∧ ∃ v, (results fn a.tmps).run P w' = .ok v w' ∧ ∃ v' r h' S' ρ', (Ending.returned v) = .returned v' ∧ Q r h' ∧ HInv S' ρ' h' w' ∧ Rep S' ρ' w' v' r ∧ Fr w S ρ S' ρ' w' := fun ⟨r, hr, hq⟩ => by
        obtain ⟨cv, r1, r2⟩ := results_sound h6 h7 H' ht' hr
        exact ⟨hs.defers, cv, r1, cv, r, s.h, S', ρ', rfl, hq, H', r2, F'⟩
      cases e with
      | normal => exact fin hk
      | exit id => exact hk.elim
      | ret => exact fin hk
end
end Go.Av
