/- Depth in a block of statements; where it may be cut. Plain Lean. -/
import Derived.Test.YtjfmbdigfnablaaGreatCpBlock
namespace Go.Av
set_option linter.unusedVariables false
def dlt (x : Stmt) : Int := delta x.kind
theorem dlt_def (x : Stmt) : dlt x = (if x.kind = 4 ∨ x.kind = 5 then 1 else 0) - (if x.kind = 6 then 1 else 0) := by
  simp [dlt, delta, isOpening]
theorem dlt_bd (x : Stmt) : -1 ≤ dlt x ∧ dlt x ≤ 1 := by rw [dlt_def]; split <;> split <;> omega
def depM (l : List Stmt) : Int := l.foldl (fun d x => d + dlt x) 0
theorem dep_from : ∀ (l : List Stmt) (d : Int), l.foldl (fun d x => d + dlt x) d = d + depM l
  | [], d => by simp [depM]
  | x :: l, d => by
    rw [List.foldl_cons, dep_from l (d + dlt x)]
    have := dep_from l (0 + dlt x)
    unfold depM at *
    rw [List.foldl_cons, this]
    omega
theorem depM_cons (x : Stmt) (l : List Stmt) : depM (x :: l) = dlt x + depM l := by
  have := dep_from l (0 + dlt x)
  unfold depM at *
  rw [List.foldl_cons, this]
  omega
theorem depM_bd : ∀ (l : List Stmt), -(l.length : Int) ≤ depM l ∧ depM l ≤ l.length
  | [] => by simp [depM]
  | x :: l => by
    have h1 := depM_bd l
    have h2 := dlt_bd x
    rw [depM_cons]
    have : ((x :: l).length : Int) = l.length + 1 := by simp
    omega
def endM : Int → Int → List Stmt → Int
  | _, _, [] => -1
  | c, p, x :: s => if x.kind = 6 ∧ c + dlt x = 0 then p else endM (c + dlt x) (p + 1) s
def mp : List Stmt → Int
  | [] => 0
  | x :: s => min 0 (dlt x + mp s)
theorem mp_le (l : List Stmt) : mp l ≤ 0 := by
  cases l with
  | nil => exact Int.le_refl _
  | cons x s => unfold mp; omega
theorem mp_dep : ∀ (l : List Stmt), mp l ≤ depM l
  | [] => by simp [mp, depM]
  | x :: s => by
    have := mp_dep s
    rw [depM_cons]; unfold mp; omega
theorem mp_app : ∀ (q v : List Stmt), mp (q ++ v) ≤ mp q
  | [], v => mp_le v
  | x :: q, v => by
    have := mp_app q v
    show mp (x :: (q ++ v)) ≤ mp (x :: q)
    unfold mp; omega
theorem dep_app (q v : List Stmt) : depM (q ++ v) = depM q + depM v := by
  induction q with
  | nil => simp [depM]
  | cons x q ih => rw [List.cons_append, depM_cons, depM_cons, ih]; omega
theorem dlt_end {x : Stmt} (h : dlt x = -1) : x.kind = 6 := by
  rw [dlt_def] at h
  by_cases h6 : x.kind = 6
  · exact h6
  · rw [if_neg h6] at h; split at h <;> omega
theorem endM_far : ∀ (q v : List Stmt) (c p : Int), 1 ≤ c + mp q → endM c p (q ++ v) = endM (c + depM q) (p + q.length) v
  | [], v, c, p, h => by simp [depM]
  | x :: q, v, c, p, h => by
    have hm := mp_le q
    unfold mp at h
    rw [depM_cons, List.cons_append]
    show (if x.kind = 6 ∧ c + dlt x = 0 then p else endM (c + dlt x) (p + 1) (q ++ v)) = _
    rw [if_neg (fun g => by omega), endM_far q v (c + dlt x) (p + 1) (by omega), show c + dlt x + depM q = c + (dlt x + depM q) from by omega, show p + 1 + (q.length : Int) = p + ((x :: q).length : Int) from by simp; omega]
theorem endM_near : ∀ (q v : List Stmt) (c p : Int), 1 ≤ c → c + mp q ≤ 0 → p ≤ endM c p (q ++ v) ∧ endM c p (q ++ v) < p + q.length
  | [], v, c, p, hc, h => by simp [mp] at h; omega
  | x :: q, v, c, p, hc, h => by
    have hd := dlt_bd x
    unfold mp at h
    rw [List.cons_append]
    unfold endM
    by_cases g : x.kind = 6 ∧ c + dlt x = 0
    · rw [if_pos g]; simp; omega
    · rw [if_neg g]
      have hc' : 1 ≤ c + dlt x := by
        by_cases h1 : dlt x = -1
        · have := dlt_end h1
          omega
        · omega
      have := endM_near q v (c + dlt x) (p + 1) hc' (by omega)
      simp only [List.length_cons]
      omega
def cntM (i : Int) : Int → List Stmt → List Stmt → Int
  | _, [], _ => 0
  | p, x :: q, v => (if (x.kind = 4 ∨ x.kind = 5) ∧ i ≤ endM 0 p (x :: q ++ v) then 1 else 0) + cntM i (p + 1) q v
theorem cnt_eq (i : Int) (v : List Stmt) (hi0 : 0 ≤ i) : ∀ (q : List Stmt) (p D : Int), p + q.length = i → 0 ≤ p → 0 ≤ D + mp q → D + depM q + depM v = 0 → cntM i p q v = depM q - mp q
  | [], p, D, hp, h0, hD, ht => by simp [cntM, depM, mp]
  | x :: q, p, D, hp, h0, hD, ht => by
    have hd := dlt_bd x
    have hmq := mp_le q
    rw [depM_cons] at ht ⊢
    have hD' := hD
    unfold mp at hD'
    have hlen : ((x :: q).length : Int) = q.length + 1 := by simp
    have ih := cnt_eq i v hi0 q (p + 1) (D + dlt x) (by omega) (by omega) (by omega) (by omega)
    unfold cntM mp
    rw [ih]
    by_cases ho : x.kind = 4 ∨ x.kind = 5
    · have h1 : dlt x = 1 := by rw [dlt_def]; rw [if_pos ho, if_neg (by omega)]; rfl
      have he : endM 0 p (x :: q ++ v) = endM 1 (p + 1) (q ++ v) := by
        rw [List.cons_append]
        show (if x.kind = 6 ∧ 0 + dlt x = 0 then p else endM (0 + dlt x) (p + 1) (q ++ v)) = _
        rw [if_neg (by omega), h1]; rfl
      by_cases hm : mp q = 0
      · have hf := endM_far q v 1 (p + 1) (by omega)
        have hvd := mp_dep v
        have hqd := mp_dep q
        have hn := endM_near v [] (1 + depM q) (p + 1 + q.length) (by omega) (by omega)
        rw [List.append_nil] at hn
        rw [if_pos ⟨ho, by rw [he, hf]; omega⟩]
        omega
      · have hn := endM_near q v 1 (p + 1) (by omega) (by omega)
        rw [if_neg (fun g => by rw [he] at g; omega)]
        omega
    · have h1 : dlt x ≤ 0 := by rw [dlt_def]; rw [if_neg ho]; split <;> omega
      rw [if_neg (fun g => ho g.1)]
      omega
theorem blk_mp : ∀ (s : List Stmt) (d : Int), 0 ≤ d → blockFrom d s = true → 0 ≤ d + mp s ∧ d + depM s = 0
  | [], d, hd, h => by
    unfold blockFrom at h
    simp at h
    simp [mp, depM]; omega
  | x :: s, d, hd, h => by
    unfold blockFrom at h
    split at h
    · rename_i hc
      have := blk_mp s (d + dlt x) hc.2.1 h
      rw [depM_cons]; unfold mp
      omega
    · cases h
/-- The depth ahead of a statement: -1 where there is none. -/
def depthOf (l : List Stmt) (i : Int) : Int := if blockOk l = true ∧ (0 ≤ i ∧ i ≤ (l.length : Int) - 1) then depM (l.take i.toNat) else -1
/-- The statements ahead of i that open a block and end it at i or behind: as many as the depth. -/
theorem cnt_depth (l : List Stmt) (i : Int) (hb : blockOk l = true) (hi : 0 ≤ i ∧ i ≤ (l.length : Int) - 1) : cntM i 0 (l.take i.toNat) (l.drop i.toNat) = depM (l.take i.toNat) := by
  unfold blockOk at hb
  simp only [Bool.and_eq_true, decide_eq_true_eq] at hb
  obtain ⟨hm, hd0⟩ := blk_mp l 0 (by omega) hb.1
  have hsplit : l.take i.toNat ++ l.drop i.toNat = l := List.take_append_drop _ _
  have hma := mp_app (l.take i.toNat) (l.drop i.toNat)
  have hda := dep_app (l.take i.toNat) (l.drop i.toNat)
  rw [hsplit] at hma hda
  have hml := mp_le (l.take i.toNat)
  have hlt : (l.take i.toNat).length = i.toNat := by simp; omega
  rw [cnt_eq i (l.drop i.toNat) hi.1 (l.take i.toNat) 0 0 (by omega) (by omega) (by omega) (by omega)]
  omega
theorem endM_bd : ∀ (s : List Stmt) (c p : Int), 0 ≤ p → -1 ≤ endM c p s ∧ endM c p s < p + s.length + 1
  | [], c, p, h => by unfold endM; simp; omega
  | x :: s, c, p, h => by
    unfold endM
    have := endM_bd s (c + dlt x) (p + 1) (by omega)
    simp only [List.length_cons]
    split <;> omega
/-- The places from i on, d of them, where a block can be divided. -/
def cutM (l : List Stmt) : Nat → Nat → List Int
  | 0, _ => []
  | d + 1, i => (if depthOf l i = 0 ∧ ¬ (∀ h : i < l.length, l[i].kind = 6) then [(i : Int)] else []) ++ cutM l d (i + 1)
def cutsM (l : List Stmt) : List Int := if blockOk l = true then cutM l (l.length - 1) 1 else []
theorem cutM_len (l : List Stmt) : ∀ (d : Nat) (i : Nat), (cutM l d i).length ≤ d
  | 0, _ => Nat.le_refl _
  | d + 1, i => by
    have := cutM_len l d (i + 1)
    unfold cutM
    rw [List.length_append]
    split <;> simp <;> omega
end Go.Av
