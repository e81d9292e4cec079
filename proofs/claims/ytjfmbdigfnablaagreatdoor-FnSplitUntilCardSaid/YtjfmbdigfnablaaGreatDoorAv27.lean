/- Lists that own what their rows tell: a row more, a row replaced, a row read. No condition. -/
import Derived.Test.YtjfmbdigfnablaaGreatDoorAv25
namespace Go.Av

set_option linter.unusedVariables false
theorem OwnsLL.snoc {h : Heap} : ∀ {ys b : Blk} {i j : List Nat} {y r : List V}, OwnsLL h ys b i → OwnsL h y r j → OwnsLL h (ys ++ [y]) (b ++ [r]) (i ++ j)
  | [], b, i, j, y, r, o, q => by
    obtain ⟨rfl, rfl⟩ := OwnsLL.nil_.1 o
    exact OwnsLL.cons_.2 ⟨r, [], j, [], rfl, by simp, q, OwnsLL.nil_.2 ⟨rfl, rfl⟩⟩
  | y' :: ys, b, i, j, y, r, o, q => by
    obtain ⟨r', b', i1, i2, rfl, rfl, o1, o2⟩ := OwnsLL.cons_.1 o
    exact OwnsLL.cons_.2 ⟨r', b' ++ [r], i1, i2 ++ j, rfl, by simp, o1, o2.snoc q⟩
theorem OwnsLL.set {h : Heap} : ∀ {ys b : Blk} {i j : List Nat} {y r : List V} (k : Nat), OwnsLL h ys b i → OwnsL h y r j → i.Nodup → j.Nodup → (∀ x ∈ i, x ∉ j) → ∃ i', OwnsLL h (ys.set k y) (b.set k r) i' ∧ i'.Nodup ∧ ∀ x ∈ i', x ∈ i ∨ x ∈ j
  | [], b, i, j, y, r, k, o, q, n, m, d => by
    obtain ⟨rfl, rfl⟩ := OwnsLL.nil_.1 o
    exact ⟨[], OwnsLL.nil_.2 ⟨rfl, rfl⟩, .nil, fun x hx => absurd hx List.not_mem_nil⟩
  | y' :: ys, b, i, j, y, r, 0, o, q, n, m, d => by
    obtain ⟨r', b', i1, i2, rfl, rfl, o1, o2⟩ := OwnsLL.cons_.1 o
    refine ⟨j ++ i2, OwnsLL.cons_.2 ⟨r, b', j, i2, rfl, rfl, q, o2⟩, List.nodup_append.2 ⟨m, (List.nodup_append.1 n).2.1, fun a ha c hc e => ?_⟩, fun x hx => ?_⟩
    · subst e; exact d a (by simp [hc]) ha
    · rcases List.mem_append.1 hx with p | p <;> simp [p]
  | y' :: ys, b, i, j, y, r, k + 1, o, q, n, m, d => by
    obtain ⟨r', b', i1, i2, rfl, rfl, o1, o2⟩ := OwnsLL.cons_.1 o
    have n' := List.nodup_append.1 n
    obtain ⟨i3, o3, n3, h3⟩ := OwnsLL.set k o2 q n'.2.1 m (fun x hx => d x (by simp [hx]))
    refine ⟨i1 ++ i3, OwnsLL.cons_.2 ⟨r', _, i1, i3, rfl, rfl, o1, o3⟩, List.nodup_append.2 ⟨n'.1, n3, fun a ha c hc e => ?_⟩, fun x hx => ?_⟩
    · subst e
      rcases h3 a hc with p | p
      · exact n'.2.2 a ha a p rfl
      · exact d a (by simp [ha]) p
    · rcases List.mem_append.1 hx with p | p
      · simp [p]
      · rcases h3 x p with p | p <;> simp [p]
/-- A row more, appended out of a row of its own. -/
theorem Sep.push {h : Heap} {sz bytes l : Nat} {ys : Blk} {v : V} {y r : List V} {L : List It} (S : Sep h (.v (.lst sz ys) v :: .l y r :: L)) (hl : h[l]? = some [r]) (hb : (ys.length + 1) * bytes ≤ 140737488355328) :
    ∃ v' h', appendH h sz bytes v (.own l sz 0 1 1) = some (v', h') ∧ Sep h' (.v (.lst sz (ys ++ [y])) v' :: L) := by
  obtain ⟨ids, n, i, j, rfl, o, p, q, rfl, o2, s⟩ := S
  have n1 := List.nodup_append.1 n
  have n2 := List.nodup_append.1 n1.2.1
  have he : elemsOf h sz (.own l sz 0 1 1) = some [r] := elemsOf_n (b := [r]) hl rfl
  rcases Owns.lst_.1 (Owns.lstR.1 o) with ⟨rfl, rfl, rfl⟩ | ⟨id, b, js, rfl, hid, rfl, oo⟩
  · refine ⟨.own h.length sz 0 1 1, h ++ [[r]], ?_, h.length :: p ++ q, ?_, h.length :: p, q, rfl, Owns.lstR.2 (Owns.lst_.2 (.inr ⟨h.length, [r], p, rfl, at_app0 _ _, rfl, ?_⟩)), s.keep fun a ha => List.getElem?_append_left (s.lt a ha)⟩
    · simp only [appendH, he]
      rw [if_pos (by simpa using hb)]; rfl
    · rw [List.cons_append, List.nodup_cons]
      refine ⟨fun hm => ?_, n1.2.1⟩
      rcases List.mem_append.1 hm with w | w
      · have := OwnsL.lt o2 _ w; omega
      · have := s.lt _ w; omega
    · have := OwnsLL.snoc (h := h ++ [[r]]) (OwnsLL.nil_.2 ⟨rfl, rfl⟩) (o2.up (Ext.app _ _))
      simpa using this
  · have hbl := oo.len
    have hidn : id ∉ js ∧ id ∉ p ∧ id ∉ q := by
      have n3 := List.nodup_cons.1 n1.1
      exact ⟨n3.1, fun w => n1.2.2 id (by simp) id (by simp [w]) rfl, fun w => n1.2.2 id (by simp) id (by simp [w]) rfl⟩
    refine ⟨.own id sz 0 (b.length + 1) (b.length + 1), h.set id (b ++ [r]), ?_, id :: (js ++ p) ++ q, ?_, id :: (js ++ p), q, rfl, Owns.lstR.2 (Owns.lst_.2 (.inr ⟨id, b ++ [r], js ++ p, ?_, heap_set _ hid, rfl, ?_⟩)), s.keep fun a ha => List.getElem?_set_ne (by rintro rfl; exact hidn.2.2 ha)⟩
    · have := appendH_own (bytes := bytes) hid he (by rw [hbl]; simpa using hb)
      rw [← hbl]; simpa using this
    · have : (id :: (js ++ p) ++ q) = (id :: js) ++ (p ++ q) := by simp
      rw [this]; exact n
    · simp [hbl]
    · exact ((oo.snoc o2)).keep fun a ha => List.getElem?_set_ne (by
        rintro rfl
        rcases List.mem_append.1 ha with w | w
        · exact hidn.1 w
        · exact hidn.2.1 w)
/-- A row replaced. -/
theorem Sep.rowSet {h : Heap} {sz k : Nat} {ys : Blk} {v : V} {y r : List V} {L : List It} (S : Sep h (.v (.lst sz ys) v :: .l y r :: L)) (hk : k < ys.length) :
    ∃ id b, v = .own id sz 0 ys.length ys.length ∧ h[id]? = some b ∧ b.length = ys.length ∧ (∀ (i : Nat) (e d : List V), b[i]? = some e → ys[i]? = some d → e.length = d.length) ∧ Sep (h.set id (b.set k r)) (.v (.lst sz (ys.set k y)) v :: L) := by
  obtain ⟨ids, n, i, j, rfl, o, p, q, rfl, o2, s⟩ := S
  have n1 := List.nodup_append.1 n
  have n2 := List.nodup_append.1 n1.2.1
  rcases Owns.lst_.1 (Owns.lstR.1 o) with ⟨rfl, rfl, rfl⟩ | ⟨id, b, js, rfl, hid, rfl, oo⟩
  · simp at hk
  · have hbl := oo.len
    have n3 := List.nodup_cons.1 n1.1
    have hidn : id ∉ js ∧ id ∉ p ∧ id ∉ q := ⟨n3.1, fun w => n1.2.2 id (by simp) id (by simp [w]) rfl, fun w => n1.2.2 id (by simp) id (by simp [w]) rfl⟩
    obtain ⟨i3, o3, nn3, h3⟩ := OwnsLL.set k oo o2 n3.2 n2.1 (fun x hx w => n1.2.2 x (by simp [hx]) x (by simp [w]) rfl)
    have hi3 : id ∉ i3 := fun w => (h3 id w).elim hidn.1 hidn.2.1
    refine ⟨id, b, rfl, hid, hbl, fun i e d he hd => ?_, id :: i3 ++ q, ?_, id :: i3, q, rfl, Owns.lstR.2 (Owns.lst_.2 (.inr ⟨id, b.set k r, i3, by simp, heap_set _ hid, rfl, ?_⟩)), s.keep fun a ha => List.getElem?_set_ne (by rintro rfl; exact hidn.2.2 ha)⟩
    · obtain ⟨ii, oi⟩ := oo.at he hd
      exact oi.len
    · rw [List.cons_append, List.nodup_cons]
      refine ⟨fun w => ?_, List.nodup_append.2 ⟨nn3, n2.2.1, fun a ha c hc e => ?_⟩⟩
      · rcases List.mem_append.1 w with w | w
        · exact hi3 w
        · exact hidn.2.2 w
      · subst e
        rcases h3 a ha with w | w
        · exact n1.2.2 a (by simp [w]) a (by simp [hc]) rfl
        · exact n2.2.2 a w a hc rfl
    · exact o3.keep fun a ha => List.getElem?_set_ne (by rintro rfl; exact hi3 ha)
/-- A row read. -/
theorem Sep.row {h : Heap} {L : List It} (S : Sep h L) (n : Nat) {sz k : Nat} {ys : Blk} {v : V} {d : List V} (e : L[n]? = some (.v (.lst sz ys) v)) (hd : ys[k]? = some d) :
    ∃ id b c i, v = .own id sz 0 ys.length ys.length ∧ h[id]? = some b ∧ b.length = ys.length ∧ b[k]? = some c ∧ OwnsL h d c i := by
  obtain ⟨i, _, o⟩ := S.nth n e
  have hk := (List.getElem?_eq_some_iff.1 hd).1
  rcases Owns.lst_.1 (Owns.lstR.1 o) with ⟨rfl, rfl, rfl⟩ | ⟨id, b, js, rfl, hid, rfl, oo⟩
  · simp at hk
  · have hbl := oo.len
    have hc : b[k]? = some (b[k]'(by omega)) := List.getElem?_eq_getElem _
    obtain ⟨ii, oi⟩ := oo.at hc hd
    exact ⟨id, b, _, ii, rfl, hid, hbl, hc, oi⟩
end Go.Av
