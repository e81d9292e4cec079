/- What the machine does at loads and stores, as the abstract values have it. No condition. -/
import Derived.Test.YtjfmbdigfnablaaGreatDoorAv2
namespace Go.Av
open Go.RowKit
set_option linter.unusedVariables false
set_option linter.unusedSimpArgs false

def agT (P : Program) (t : TypeId) : Option Bool := (P.underlying t).map fun
  | .struct _ => true
  | .array _ _ => true
  | _ => false
def szT (P : Program) (t : TypeId) : Option Nat := (P.info? t).map (·.size)

theorem run_sizeOf {P : Program} {t : TypeId} {n : Nat} (h : szT P t = some n) (w : World) : (sizeOf t).run P w = .ok n w := by
  unfold szT at h
  cases hi : P.info? t with
  | none => rw [hi] at h; cases h
  | some i => rw [hi] at h; simp at h; subst h; simp [sizeOf, typeInfo, hi]
theorem run_isAgg {P : Program} {t : TypeId} {b : Bool} (h : agT P t = some b) (w : World) : (isAgg t).run P w = .ok b w := by
  unfold agT at h
  cases hu : P.underlying t with
  | none => rw [hu] at h; cases h
  | some d => rw [hu] at h; simp at h; subst h; simp [isAgg, run_underlying hu]; cases d <;> rfl
theorem add_lit (g o n : Nat) : (⟨g, o, none⟩ : Addr).add n = ⟨g, o + n, none⟩ := by unfold Addr.add; split <;> simp_all
theorem add_add' (a : Addr) (i j : Nat) : (a.add i).add j = a.add (i + j) := by
  unfold Addr.add
  by_cases hi : i = 0 <;> by_cases hj : j = 0 <;> simp_all [Nat.add_assoc]

/-- The cells behind an address, as the abstract pointer has them. -/
theorem rep_cells {S : Nat → Prop} {ρ : Rho} {h : Heap} {w : World} {P : Program} {ag : Bool} {sz : Nat} {t : TypeId} {ad : Addr} {cs : List V} {v : V} (hag : agT P t = some ag) (hsz : szT P t = some sz)
    (cf : Nat → Value) (h1 : ∀ (j : Nat) (x : V), cs[j]? = some x → w.cell? (ad.add j) = some (cf j) ∧ Rep S ρ w (cf j) x) (hv : rdc ag sz cs = some v) :
    ∃ c, (loadVar t ad).run P w = .ok c w ∧ Rep S ρ w c v := by
  unfold rdc at hv
  cases ag with
  | true =>
    simp only [if_true] at hv
    split at hv
    · rename_i hle
      cases hv
      refine ⟨.agg ((List.range sz).map cf).toArray, ?_, .agg (by simp; omega) fun j c x hc hx => ?_⟩
      · have hl := run_loadCells_list (P := P) (w := w) ad ((List.range sz).map cf) (fun j v hj => ?_)
        · simp only [List.length_map, List.length_range] at hl
          simp [loadVar, run_isAgg hag, run_sizeOf hsz, hl]
        · have hj' : j < sz := by
            have := (List.getElem?_eq_some_iff.1 hj).1; simpa using this
          have hx : cs[j]? = some (cs[j]'(by omega)) := List.getElem?_eq_getElem _
          have := (h1 j _ hx).1
          simp [hj'] at hj
          rw [← hj]; exact this
      · have hj' : j < sz := by
          have := (Array.getElem?_eq_some_iff.1 hc).1; simpa using this
        simp [hj'] at hc
        rw [List.getElem?_take_of_lt hj'] at hx
        rw [← hc]; exact (h1 j x hx).2
    · cases hv
  | false =>
    simp only [Bool.false_eq_true, if_false] at hv
    obtain ⟨h2, h3⟩ := h1 0 v hv
    refine ⟨cf 0, ?_, h3⟩
    have : ad.add 0 = ad := by simp [Addr.add]
    rw [this] at h2
    simp [loadVar, run_isAgg hag, h2]

theorem load_run {S : Nat → Prop} {ρ : Rho} {h : Heap} {w : World} {P : Program} (H : HInv S ρ h w) {ag : Bool} {sz : Nat} {t : TypeId} {cv : Value} {x v : V} (hag : agT P t = some ag) (hsz : szT P t = some sz)
    (hr : Rep S ρ w cv x) (hv : loadV h ag sz x = some v) : ∃ c, (Instr.loadAt t cv).run P w = .ok c w ∧ Rep S ρ w c v := by
  unfold loadV at hv
  cases x <;> simp only [reduceCtorEq] at hv
  case ptr id tot i j =>
    split at hv
    · rename_i b hb
      split at hv
      · rename_i htot
        split at hv
        · rename_i e he
          cases hr with
          | @ptr _ _ _ _ l g hρ hbk ht hi =>
            obtain ⟨l', hl', hB⟩ := H.blk id b hb
            rw [hρ] at hl'; cases hl'
            obtain ⟨_, cs, ty, hg, hcs, hcell⟩ := hB.mem g hbk
            have hex : ∀ k x, (e.drop j)[k]? = some x → ∃ c, w.cell? ((⟨g, i * l.sz + j, none⟩ : Addr).add k) = some c ∧ Rep S ρ w c x := by
              intro k x hk
              rw [List.getElem?_drop] at hk
              obtain ⟨c, hc1, _, hc3⟩ := hcell i e (j + k) x he hk
              refine ⟨c, ?_, hc3⟩
              rw [add_lit, cell_of_row w g _ cs ty (0, 0) hg, Nat.add_assoc]; exact hc1
            obtain ⟨c, hrun, hrep⟩ := rep_cells (h := h) hag hsz (fun k => (w.cell? ((⟨g, i * l.sz + j, none⟩ : Addr).add k)).getD undef)
              (fun k x hk => by obtain ⟨c, e1, e2⟩ := hex k x hk; rw [e1]; exact ⟨rfl, e2⟩) hv
            exact ⟨c, by simp [Instr.loadAt, Instr.sureAddr, hrun], hrep⟩
          | @ptrS _ _ _ _ _ l hρ ht =>
            obtain ⟨l', hl', hB⟩ := H.blk id b hb
            rw [hρ] at hl'; cases hl'
            have := hB.tot; omega
        · cases hv
      · cases hv
    · cases hv
  case rptr cs =>
    cases hr with
    | @rptr ad _ cf hS h1 h2 =>
      obtain ⟨c, hrun, hrep⟩ := rep_cells (h := h) (t := t) hag hsz cf (fun k x hk => ⟨h1 k x hk, h2 k x hk⟩) hv
      exact ⟨c, by simp [Instr.loadAt, Instr.sureAddr, hrun], hrep⟩

/-- The cells of a value are its abstract value's. -/
theorem Rep.cells {S : Nat → Prop} {ρ : Rho} {w : World} {c : Value} {v : V} (h : Rep S ρ w c v) (h1 : v.cells.all V.one = true) :
    c.cells.size = v.cells.length ∧ ∀ (j : Nat) (x : Value) (y : V), c.cells[j]? = some x → v.cells[j]? = some y → x.oneCell' = true ∧ Rep S ρ w x y := by
  have one : ∀ {c : Value} {v : V}, Rep S ρ w c v → v.one = true → c.oneCell' = true := by
    intro c v h h1
    cases h <;> first | rfl | (simp [V.one] at h1)
  have hall : ∀ (j : Nat) (y : V), v.cells[j]? = some y → y.one = true := fun j y hj => (List.all_eq_true.1 h1) y (List.mem_of_getElem? hj)
  by_cases hv : ∃ vs, v = .agg vs
  · obtain ⟨vs, rfl⟩ := hv
    cases h with
    | agg hl hc => exact ⟨by simpa [Value.cells, V.cells] using hl, fun j x y hx hy => ⟨one (hc j x y hx hy) (hall j y hy), hc j x y hx hy⟩⟩
  · have hc : c.cells = #[c] ∧ v.cells = [v] := by
      cases h <;> first | exact absurd ⟨_, rfl⟩ hv | exact ⟨rfl, rfl⟩ | (simp [V.cells, V.one] at h1)
    refine ⟨by simp [hc.1, hc.2], fun j x y hx hy => ?_⟩
    rw [hc.1] at hx; rw [hc.2] at hy
    have hj : j = 0 := by
      have := (List.getElem?_eq_some_iff.1 hy).1
      simp at this; exact this
    subst hj
    simp at hx hy
    subst hx hy
    exact ⟨one h (hall 0 v (by rw [hc.2]; rfl)), h⟩
end Go.Av
