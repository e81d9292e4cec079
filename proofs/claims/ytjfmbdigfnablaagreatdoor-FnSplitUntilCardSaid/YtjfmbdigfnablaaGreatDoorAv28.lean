/- A list that owns what its rows tell, opened at one row: the list's block, the row, and the rest. No condition. -/
import Derived.Test.YtjfmbdigfnablaaGreatDoorAv27
namespace Go.Av
set_option linter.unusedVariables false
theorem sepI_rows {h : Heap} : ∀ {ys b : Blk} {ids : List Nat}, ys.length = b.length → (OwnsLL h ys b ids ↔ SepI h (List.zipWith It.l ys b) ids)
  | [], [], ids, _ => by
    rw [OwnsLL.nil_]
    exact ⟨fun q => q.2, fun q => ⟨rfl, q⟩⟩
  | y :: ys, r :: b, ids, e => by
    have e' : ys.length = b.length := by simpa using e
    rw [OwnsLL.cons_]
    constructor
    · rintro ⟨r', b', i, j, q, rfl, o1, o2⟩
      injection q with q1 q2
      subst q1 q2
      exact ⟨i, j, rfl, o1, (sepI_rows e').1 o2⟩
    · rintro ⟨i, j, rfl, o1, o2⟩
      exact ⟨r, b, i, j, rfl, rfl, o1, (sepI_rows e').2 o2⟩
  | [], r :: b, ids, e => by simp at e
  | y :: ys, [], ids, e => by simp at e
theorem sep_own {h : Heap} {sz id n : Nat} {ys b : Blk} {L : List It} (hb : b.length = ys.length) (hn : ys.length = n) : (Sep h (.v (.lst sz ys) (.own id sz 0 n n) :: L) ∧ h[id]? = some b) ↔ Sep h (.k id b :: (List.zipWith It.l ys b ++ L)) := by
  subst hn
  constructor
  · rintro ⟨⟨ids, nd, i, j, rfl, o, s⟩, hid⟩
    rcases Owns.lst_.1 (Owns.lstR.1 o) with ⟨q, _, _⟩ | ⟨id', b', js, q, hid', rfl, oo⟩
    · cases q
    · injection q with q1
      subst q1
      have e := Option.some.inj (hid.symm.trans hid')
      subst e
      exact ⟨_, nd, [id], js ++ j, by simp, ⟨rfl, hid⟩, SepI.append.2 ⟨js, j, rfl, (sepI_rows hb.symm).1 oo, s⟩⟩
  · rintro ⟨ids, nd, i, j, rfl, ⟨rfl, hid⟩, s⟩
    obtain ⟨js, q, rfl, s1, s2⟩ := SepI.append.1 s
    exact ⟨⟨_, nd, id :: js, q, by simp, Owns.lstR.2 (Owns.lst_.2 (.inr ⟨id, b, js, rfl, hid, rfl, (sepI_rows hb.symm).2 s1⟩)), s2⟩, hid⟩
theorem zip_split {ys b : Blk} {k : Nat} (hk : k < ys.length) (hb : b.length = ys.length) (y' c' : List V) : List.zipWith It.l (ys.set k y') (b.set k c') = List.zipWith It.l (ys.take k) (b.take k) ++ .l y' c' :: List.zipWith It.l (ys.drop (k + 1)) (b.drop (k + 1)) := by
  rw [List.set_eq_take_append_cons_drop, if_pos hk, List.set_eq_take_append_cons_drop, if_pos (by omega), List.zipWith_append (by simp; omega)]
  rfl
/-- The work at one row. -/
theorem Sep.rowWork {h : Heap} {sz k : Nat} {ys : Blk} {v : V} {d : List V} {L : List It} (S : Sep h (.v (.lst sz ys) v :: L)) (hd : ys[k]? = some d) :
    ∃ (id : Nat) (b : Blk) (c : List V) (M : List It), v = .own id sz 0 ys.length ys.length ∧ b.length = ys.length ∧ b[k]? = some c ∧ Sep h (.k id b :: .l d c :: M) ∧
      ∀ (h' : Heap) (y' c' : List V), Sep h' (.k id (b.set k c') :: .l y' c' :: M) → Sep h' (.v (.lst sz (ys.set k y')) v :: L) := by
  have hk := (List.getElem?_eq_some_iff.1 hd).1
  obtain ⟨id, b, c, i, rfl, hid, hbl, hc, _⟩ := S.row 0 rfl hd
  have hb := hbl.symm
  have W := (sep_own (L := L) (h := h) (sz := sz) hbl rfl).1 ⟨S, hid⟩
  have eb : b.set k c = b := by
    obtain ⟨q, rfl⟩ := List.getElem?_eq_some_iff.1 hc
    exact List.set_getElem_self q
  have ey : ys.set k d = ys := by
    obtain ⟨q, rfl⟩ := List.getElem?_eq_some_iff.1 hd
    exact List.set_getElem_self q
  have z := zip_split hk hbl d c
  rw [eb, ey] at z
  have perm : ∀ x, (List.zipWith It.l (ys.take k) (b.take k) ++ x :: List.zipWith It.l (ys.drop (k + 1)) (b.drop (k + 1)) ++ L).Perm (x :: (List.zipWith It.l (ys.take k) (b.take k) ++ List.zipWith It.l (ys.drop (k + 1)) (b.drop (k + 1)) ++ L)) := fun x => by
    rw [List.append_assoc, List.append_assoc]; exact List.perm_middle
  refine ⟨id, b, c, List.zipWith It.l (ys.take k) (b.take k) ++ List.zipWith It.l (ys.drop (k + 1)) (b.drop (k + 1)) ++ L, rfl, hbl, hc, ?_, fun h' y' c' S' => ?_⟩
  · rw [z] at W
    exact W.perm (.cons _ (perm _))
  · have S2 := S'.perm (.cons _ (perm (.l y' c')).symm)
    rw [← zip_split hk hbl y' c'] at S2
    exact ((sep_own (sz := sz) (by simp [hbl]) (by simp)).2 S2).1
end Go.Av
