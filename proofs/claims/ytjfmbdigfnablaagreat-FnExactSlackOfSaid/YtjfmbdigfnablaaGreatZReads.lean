/- Which variables an expression reads; both sides. No condition. -/
import Derived.Test.YtjfmbdigfnablaaGreatZList
namespace Go.Av
open Go.Proofs Go.RowKit
set_option linter.unusedVariables false
set_option linter.unusedSimpArgs false
set_option maxRecDepth 100000
set_option maxHeartbeats 4000000
theorem exprOk_facts {e : Expr} (h : exprOk e = true) : (1 ≤ e.op ∧ e.op ≤ 7) ∧ (-8 ≤ e.a ∧ e.a ≤ 999) ∧ (-8 ≤ e.b ∧ e.b ≤ 999) := by
  simp only [exprOk, operandOk, within, Bool.and_eq_true, decide_eq_true_eq] at h
  exact ⟨h.1.1, h.1.2, h.2⟩
/-- Whether variable k occurs. -/
def readsK (e : Expr) (k : Int) : Prop := 0 ≤ k ∧ (e.a = -1 - k ∨ e.b = -1 - k)
def colE (e : Expr) : Nat → List Int
  | 0 => []
  | 1 => if e.a < 0 then [-1 - e.a] else []
  | _ => (if e.a < 0 then [-1 - e.a] else []) ++ (if e.b < 0 then [-1 - e.b] else [])
def readsI (e : Expr) : List Int := if exprOk e = true then ddup (srt (colE e 2)) else []
theorem mem_readsI {e : Expr} (h : exprOk e = true) {k : Int} : k ∈ readsI e ↔ readsK e k := by
  unfold readsI readsK
  rw [if_pos h, mem_ddup, mem_srt]
  simp only [colE, List.mem_append]
  have ha : ∀ x : Int, k ∈ (if x < 0 then [-1 - x] else []) ↔ 0 ≤ k ∧ x = -1 - k := fun x => by
    split
    · simp; omega
    · simp; omega
  rw [ha, ha]
  constructor
  · rintro (⟨h1, h2⟩ | ⟨h1, h2⟩)
    · exact ⟨h1, .inl h2⟩
    · exact ⟨h1, .inr h2⟩
  · rintro ⟨h1, h2 | h2⟩
    · exact .inl ⟨h1, h2⟩
    · exact .inr ⟨h1, h2⟩
theorem reads_bd {e : Expr} (h : exprOk e = true) {k : Int} (hk : readsK e k) : 0 ≤ k ∧ k ≤ 7 := by
  have := exprOk_facts h
  unfold readsK at hk
  omega
theorem col_len (e : Expr) (k : Nat) : (colE e k).length ≤ 2 := by
  unfold colE
  split
  · simp
  · split <;> simp
  · split <;> split <;> simp
def readsS (e : Expr) : List Int := if exprOk e = true then ((List.range 8).filter fun (k : Nat) => decide (e.a = -1 - (k : Int)) || decide (e.b = -1 - (k : Int))).map Int.ofNat else []
theorem mem_readsS {e : Expr} (h : exprOk e = true) {k : Int} : k ∈ readsS e ↔ readsK e k := by
  unfold readsS
  rw [if_pos h]
  simp only [List.mem_map, List.mem_filter, List.mem_range, Bool.or_eq_true, decide_eq_true_eq]
  constructor
  · rintro ⟨n, ⟨h1, h2⟩, rfl⟩
    exact ⟨by simp, h2⟩
  · intro hk
    have := reads_bd h hk
    exact ⟨k.toNat, ⟨by omega, by unfold readsK at hk; omega⟩, by simp; omega⟩
theorem readsOf_c (e : Expr) : Pt Tryz.prog 140 [.agg (encExpr e)] (readsI e) := by
  refine C.by mixed (cfn_ok Tryz.func140 ok140) rfl ?_
  simp (disch := omega) only [s140, go_sem, encExpr]
  refine CP.go (exprOk_c e) rfl rfl ?_
  simp (disch := omega) only [go_sem]
  refine condP_split (fun hk => ?_) (fun hk => ?_)
  case' refine_2 =>
    simp (disch := omega) only [go_sem]
    have : readsI e = [] := by simp [readsI, hk]
    rw [this]
    exact ⟨[], .inl ⟨rfl, rfl, rfl⟩⟩
  have hf := exprOk_facts hk
  simp (disch := omega) only [go_sem]
  refine loopP_intro (fun m s => ∃ (k l : Nat), k ≤ 2 ∧ m = 2 - k ∧ s.e 3 = .own l 1 0 (colE e k).length (colE e k).length ∧ s.e 14 = .own 2 1 0 2 2 ∧ s.e 15 = .int .i64 2 ∧ s.e 16 = .int .i64 k ∧ Sep s.h [.k l ((colE e k).map encI), .k 2 [encI e.a, encI e.b]]) 2 ⟨0, 1, by omega, by omega, by simp (disch := omega) only [go_sem]; rfl, by simp (disch := omega) only [go_sem], by simp (disch := omega) only [go_sem]; rfl, by simp (disch := omega) only [go_sem]; rfl, ⟨[1, 2], by simp, [1], [2], rfl, ⟨rfl, rfl⟩, [2], [], rfl, ⟨rfl, rfl⟩, rfl⟩⟩ ?_
  rintro m e' hp ⟨k, l, hk2, rfl, e3, e14, e15, e16, S⟩
  simp only at e3 e14 e15 e16 S
  have hq := S.blk 1 rfl
  simp (disch := omega) only [go_sem, e3, e14, e15, e16, hq, encI]
  refine condP_dec (fun hlt => ?_) (fun hlt => ?_)
  · have hv : ∃ v : Int, ([encI e.a, encI e.b] : Blk)[k]? = some (encI v) ∧ colE e (k + 1) = colE e k ++ (if v < 0 then [-1 - v] else []) ∧ (-8 ≤ v ∧ v ≤ 999) := by
      have : k = 0 ∨ k = 1 := by omega
      rcases this with rfl | rfl
      · exact ⟨e.a, rfl, by simp [colE], hf.2.1⟩
      · exact ⟨e.b, rfl, by simp [colE], hf.2.2⟩
    refine Exists.elim hv fun v z => ?_
    have hv1 := z.1
    have hv2 := z.2.1
    have hv3 := z.2.2
    clear z hv
    simp only [encI] at hv1
    simp (disch := omega) only [go_sem, e3, e14, e15, e16, hq, hv1, encI]
    refine condP_dec (fun hneg => ?_) (fun hneg => ?_)
    · rw [if_pos hneg] at hv2
      have hcl := col_len e k
      have ha := append1 (sz := 1) (bytes := 8) (c := encI (-1 - v)) (S.blk 0 rfl) (n := (colE e k).length) (by simp) (by omega)
      simp only [encI] at ha
      simp (disch := omega) only [go_sem, e3, e14, e15, e16, hq, hv1, ha, encI]
      have hl1 : (colE e (k + 1)).length = (colE e k).length + 1 := by rw [hv2]; simp
      refine nextP_intro (2 - (k + 1)) (by omega) ⟨k + 1, l, by omega, rfl, ?_, by simp (disch := omega) only [go_sem, e3, e14, e15, e16, hq, hv1, ha, encI], by simp (disch := omega) only [go_sem, e3, e14, e15, e16, hq, hv1, ha, encI], by simp (disch := omega) only [go_sem, e3, e14, e15, e16, hq, hv1, ha, encI]; rfl, ?_⟩
      · rw [hl1]; simp (disch := omega) only [go_sem, e3, e14, e15, e16, hq, hv1, ha, encI]
      · have := (S.app [[encI (-1 - v)]]).setK ((colE e k).map encI ++ [encI (-1 - v)])
        rw [hv2, List.map_append]
        exact this
    · rw [if_neg hneg, List.append_nil] at hv2
      simp (disch := omega) only [go_sem, e3, e14, e15, e16, hq, hv1, encI]
      refine nextP_intro (2 - (k + 1)) (by omega) ⟨k + 1, l, by omega, rfl, ?_, by simp (disch := omega) only [go_sem, e3, e14, e15, e16, hq, hv1, encI], by simp (disch := omega) only [go_sem, e3, e14, e15, e16, hq, hv1, encI], by simp (disch := omega) only [go_sem, e3, e14, e15, e16, hq, hv1, encI]; rfl, ?_⟩
      · rw [hv2]; simp (disch := omega) only [go_sem, e3, e14, e15, e16, hq, hv1, encI]
      · rw [hv2]; exact S
  · have : k = 2 := by omega
    subst this
    have hcl := col_len e 2
    simp (disch := omega) only [go_sem, e3, e14, e15, e16, hq, encI]
    refine C.go (sort_c (S.blk 0 rfl) rfl (by omega)) ?_
    rintro r h' ⟨rfl, rfl⟩
    have S1 := S.setK ((srt (colE e 2)).map encI)
    simp (disch := omega) only [go_sem, e3, e14, e15, e16, hq, encI]
    refine C.go (compact_c (zs := srt (colE e 2)) (S1.blk 0 rfl) (srt_len _) (by omega)) ?_
    rintro r h' ⟨rfl, rfl⟩
    have S2 := S1.setK ((ddup (srt (colE e 2))).map encI ++ List.replicate ((colE e 2).length - (ddup (srt (colE e 2))).length) (encI 0))
    simp (disch := omega) only [go_sem, e3, e14, e15, e16, hq, encI]
    have hdl := ddup_le (srt (colE e 2))
    rw [srt_len] at hdl
    have he : readsI e = ddup (srt (colE e 2)) := by simp [readsI, hk]
    rw [he]
    refine (S2.toP (n := (colE e 2).length) (by simp; omega) hdl (List.take_left' (by simp)) ?_).pret
    simp [rows1, encI, V.scalar]
def accS (e : Expr) (k : Nat) : List Int := ((List.range k).filter fun (k : Nat) => decide (e.a = -1 - (k : Int)) || decide (e.b = -1 - (k : Int))).map Int.ofNat
theorem acc_succ (e : Expr) (k : Nat) : accS e (k + 1) = accS e k ++ (if (decide (e.a = -1 - (k : Int)) || decide (e.b = -1 - (k : Int))) = true then [(k : Int)] else []) := by
  unfold accS
  rw [List.range_succ, List.filter_append, List.map_append]
  congr 1
  simp only [List.filter_cons, List.filter_nil]
  split <;> rfl
theorem acc_len (e : Expr) : ∀ k, (accS e k).length ≤ k
  | 0 => by simp [accS]
  | k + 1 => by
    have := acc_len e k
    rw [acc_succ, List.length_append]
    split <;> simp <;> omega
theorem readsOf_s (e : Expr) : F Tryz.prog 265 [.agg (encExpr e)] (.lst 1 ((readsS e).map encI)) := by
  refine C.by mixed (cfn_ok Tryz.func265 ok265) rfl ?_
  simp (disch := omega) only [s265, go_sem, encExpr]
  refine loopP_intro (fun m s => ∃ (k l : Nat), k ≤ 8 ∧ m = 8 - k ∧ (k = 0 ∨ exprOk e = true) ∧ s.e 1 = .ptr 0 1 0 0 ∧ s.e 3 = .own l 1 0 (accS e k).length (accS e k).length ∧ s.e 4 = .int .i64 k ∧ Sep s.h [.k l ((accS e k).map encI), .k 0 [encExpr e]]) 8 ⟨0, 1, by omega, by omega, .inl rfl, by simp (disch := omega) only [go_sem], by simp (disch := omega) only [go_sem]; rfl, by simp (disch := omega) only [go_sem]; rfl, ⟨[1, 0], by simp, [1], [0], rfl, ⟨rfl, rfl⟩, [0], [], rfl, ⟨rfl, rfl⟩, rfl⟩⟩ ?_
  rintro m e' hp ⟨k, l, hk2, rfl, hko, e1, e3, e4, S⟩
  simp only at e1 e3 e4 S
  have hq := S.blk 1 rfl
  simp only [encExpr] at hq
  simp (disch := omega) only [go_sem, e1, e3, e4, hq]
  refine condP_dec (fun hlt => ?_) (fun hlt => ?_)
  · simp (disch := omega) only [go_sem, e1, e3, e4, hq]
    refine CP.go (exprOk_s e) rfl rfl ?_
    simp (disch := omega) only [go_sem, e1, e3, e4, hq]
    refine condP_split (fun hk => ?_) (fun hk => ?_)
    · have hcl := acc_len e k
      have ha := append1 (sz := 1) (bytes := 8) (c := encI k) (S.blk 0 rfl) (n := (accS e k).length) (by simp) (by omega)
      simp only [encI] at ha
      have hnx := acc_succ e k
      have fin : (decide (e.a = -1 - (k : Int)) || decide (e.b = -1 - (k : Int))) = true → (accS e (k + 1)).length = (accS e k).length + 1 ∧ Sep ((hp ++ [[encI k]]).set l ((accS e k).map encI ++ [encI k])) [.k l ((accS e (k + 1)).map encI), .k 0 [encExpr e]] := fun h => by
        rw [if_pos h] at hnx
        refine ⟨by rw [hnx]; simp, ?_⟩
        have := (S.app [[encI k]]).setK ((accS e k).map encI ++ [encI k])
        rw [hnx, List.map_append]
        exact this
      simp (disch := omega) only [go_sem, e1, e3, e4, hq, ha, encI]
      refine condP_dec (fun ha1 => ?_) (fun ha1 => ?_)
      case' refine_2 =>
        simp (disch := omega) only [go_sem, e1, e3, e4, hq, ha, encI]
        refine condP_dec (fun hb1 => ?_) (fun hb1 => ?_)
        case' refine_2 =>
          simp (disch := omega) only [go_sem, e1, e3, e4, hq, ha, encI]
          rw [if_neg (by simp [ha1, hb1]), List.append_nil] at hnx
          refine nextP_intro (8 - (k + 1)) (by omega) ⟨k + 1, l, by omega, rfl, .inr hk, by simp (disch := omega) only [go_sem, e1, e3, e4, hq, ha, encI], ?_, by simp (disch := omega) only [go_sem, e1, e3, e4, hq, ha, encI]; rfl, ?_⟩
          · rw [hnx]; simp (disch := omega) only [go_sem, e1, e3, e4, hq, ha, encI]
          · rw [hnx]; exact S
        have f := fin (by simp [hb1])
      case' refine_1 =>
        have f := fin (by simp [ha1])
      all_goals
        simp (disch := omega) only [go_sem, e1, e3, e4, hq, ha, encI]
        refine nextP_intro (8 - (k + 1)) (by omega) ⟨k + 1, l, by omega, rfl, .inr hk, by simp (disch := omega) only [go_sem, e1, e3, e4, hq, ha, encI], ?_, by simp (disch := omega) only [go_sem, e1, e3, e4, hq, ha, encI]; rfl, f.2⟩
        rw [f.1]; simp (disch := omega) only [go_sem, e1, e3, e4, hq, ha, encI]
    · have hk0 : k = 0 := by
        rcases hko with h | h
        · exact h
        · rw [h] at hk; cases hk
      subst hk0
      simp (disch := omega) only [go_sem, e1, e3, e4, hq, hk]
      have : readsS e = accS e 0 := by simp [readsS, hk, accS]
      rw [this]
      exact ((S.ofFlat (by simp) (flat_encI _))).ret
  · have hk8 : k = 8 := by omega
    subst hk8
    simp (disch := omega) only [go_sem, e1, e3, e4, hq]
    have hk : exprOk e = true := by
      rcases hko with h | h
      · omega
      · exact h
    have : readsS e = accS e 8 := by rw [readsS, if_pos hk]; rfl
    rw [this]
    exact ((S.ofFlat (by simp) (flat_encI _))).ret
end Go.Av
