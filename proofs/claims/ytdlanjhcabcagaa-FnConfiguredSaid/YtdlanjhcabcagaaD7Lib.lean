/- Values, lists, draws: what the laws of devices need. No condition. -/
import Derived.Test.YtdlanjhcabcagaaJ7Code
import Derived.Test.YtdlanjhcabcagaaAv28
namespace Go.Av
open Go.Proofs Go.RowKit
set_option linter.unusedVariables false
set_option linter.unusedSimpArgs false
set_option maxRecDepth 100000
set_option maxHeartbeats 4000000
theorem mixed : Try.prog.follows .mixedOrders = true := by kernel_rfl
structure Expr where
  op : Int
  a : Int
  b : Int
structure Stmt where
  kind : Int
  var : Int
  n : Int
  e : Expr
def encStmt (s : Stmt) : List V := [.int .i64 s.kind, .int .i64 s.var, .int .i64 s.n, .int .i64 s.e.op, .int .i64 s.e.a, .int .i64 s.e.b]
def within (a b c : Int) : Bool := decide (b ≤ a) && decide (a ≤ c)
theorem within_c (a b c : Int) : CP Try.prog 25 [.int .i64 a, .int .i64 b, .int .i64 c] (.bool (within a b c)) [] := by
  refine CP.by rfl mixed (cfn_ok Try.func25 ok25) rfl ?_
  simp (disch := omega) only [s25, go_sem]
  refine condP_dec (fun h => ?_) (fun h => ?_) <;> simp (disch := omega) only [go_sem] <;> simp [within, h]
theorem l01In_c (a b c : Int) : CP Try.prog 31 [.int .i64 a, .int .i64 b, .int .i64 c] (.bool (within a b c)) [] := by
  refine CP.by rfl mixed (cfn_ok Try.func31 ok31) rfl ?_
  simp (disch := omega) only [s31, go_sem]
  refine condP_dec (fun h => ?_) (fun h => ?_) <;> simp (disch := omega) only [go_sem] <;> simp [within, h]
@[simp] theorem refs_stmt (n : Nat) (s : Stmt) : V.refsL n (encStmt s) = true := rfl
theorem storeH_row {h : Heap} {id n i sz : Nat} {b : Blk} {x : V} (hb : h[id]? = some b) (hn : b.length = n) (hi : i < n) (he : ∀ e ∈ b, e.length = sz) (hf : fit sz x.cells = true) : storeH h sz (.ptr id n i 0) x = some (h.set id (b.set i x.cells)) := by
  subst hn
  have h1 : b[i]? = some b[i] := List.getElem?_eq_getElem hi
  have h2 := he b[i] (List.getElem_mem hi)
  simp only [fit, Bool.and_eq_true, decide_eq_true_eq] at hf
  have h3 : splice b[i] 0 x.cells = x.cells := by
    have : b[i].drop x.cells.length = [] := List.drop_eq_nil_of_le (by omega)
    simp [splice, this]
  simp [storeH, storeB, hb, h1, hf.1, h2, h3]
  simpa using hf.2
def idxI {α : Type} (p : α → Bool) (ts : List α) : Int := if ts.any p = true then (ts.findIdx p : Int) else -1
theorem idxI_found {α : Type} {p : α → Bool} {ts : List α} {k : Nat} (hk : k < ts.length) (h : p ts[k] = true) (ha : ∀ j (hj : j < ts.length), j < k → p ts[j] = false) : idxI p ts = k := by
  have h1 : ts.findIdx p = k := (List.findIdx_eq hk).2 ⟨h, fun j hj => ha j (by omega) hj⟩
  have h2 : ts.any p = true := List.any_eq_true.2 ⟨ts[k], List.getElem_mem hk, h⟩
  rw [idxI, if_pos h2, h1]
theorem idxI_none {α : Type} {p : α → Bool} {ts : List α} (ha : ∀ j (hj : j < ts.length), p ts[j] = false) : idxI p ts = -1 := by
  rw [idxI, if_neg (fun c => by
    obtain ⟨t, ht, hn⟩ := List.any_eq_true.1 c
    obtain ⟨j, hj, rfl⟩ := List.getElem_of_mem ht
    rw [ha j hj] at hn; cases hn)]
theorem idxI_ge {α : Type} (p : α → Bool) (ts : List α) : decide (0 ≤ idxI p ts) = ts.any p := by
  unfold idxI
  cases h : ts.any p <;> simp
theorem Sep.sw {h : Heap} {a b : It} {L : List It} (S : Sep h (a :: b :: L)) : Sep h (b :: a :: L) := S.perm (.swap _ _ _)
def isValue (x : Int) : Bool := within x (-1000000) 1000000
theorem isValue_c (x : Int) : CP Try.prog 49 [.int .i64 x] (.bool (isValue x)) [] := by
  refine CP.by rfl mixed (cfn_ok Try.func49 ok49) rfl ?_
  simp (disch := omega) only [s49, go_sem]
  refine CP.go (within_c _ _ _) rfl rfl ?_
  simp (disch := omega) only [go_sem]
  rfl
theorem notValue_c (x : Int) : CP Try.prog 56 [.int .i64 x] (.bool (!isValue x)) [] := by
  refine CP.by rfl mixed (cfn_ok Try.func56 ok56) rfl ?_
  simp (disch := omega) only [s56, go_sem]
  refine CP.go (isValue_c _) rfl rfl ?_
  simp (disch := omega) only [go_sem]
theorem refs_ints (n : Nat) (zs : List Int) (x : V) (hx : V.refs n x = true) : V.refsL n [.lst 1 (zs.map encI), x] = true := by
  simp [V.refsL, V.refs, refsLL_map encI (fun _ => rfl) zs, hx]
structure Task where
  body : List Stmt
  next : Expr
def encTask (t : Task) : List V := [.lst 6 (t.body.map encStmt), .int .i64 t.next.op, .int .i64 t.next.a, .int .i64 t.next.b]
section
variable {σ : Type} {R : Nat → σ → List It → Heap → Prop} {stp : Stmt → σ → σ} {hold : Stmt → σ → Bool} {g : Nat} {caps : List V}
end
theorem range_pick {α : Type} : ∀ L : List α, (List.range L.length).filterMap (L[·]?) = L
  | [] => rfl
  | x :: xs => by
    have ih := range_pick xs
    rw [List.length_cons, List.range_succ_eq_map]
    simp only [List.filterMap_cons, List.getElem?_cons_zero, List.filterMap_map]
    exact congrArg (x :: ·) ih
theorem shift_pick {α : Type} (A L : List α) : ((List.range L.length).map (· + A.length)).filterMap ((A ++ L)[·]?) = L := by
  rw [List.filterMap_map]
  have : ((fun x => (A ++ L)[x]?) ∘ fun x => x + A.length) = fun i => L[i]? := by
    funext i
    simp only [Function.comp]
    rw [List.getElem?_append_right (by omega), Nat.add_sub_cancel]
  rw [this]
  exact range_pick L
theorem fm_congr {α β : Type} {f g : α → Option β} : ∀ {l : List α}, (∀ x ∈ l, f x = g x) → l.filterMap f = l.filterMap g
  | [], _ => rfl
  | x :: xs, h => by
    have ih := fm_congr (l := xs) fun y hy => h y (by simp [hy])
    simp only [List.filterMap_cons, h x (by simp), ih]
/-- Some of the first parts, in a new order; the rest stays. -/
theorem Sep.pk {h : Heap} {A L : List It} (is : List Nat) (S : Sep h (A ++ L)) (hn : (decide is.Nodup && is.all fun i => decide (i < A.length)) = true) : Sep h (is.filterMap (A[·]?) ++ L) := by
  simp only [Bool.and_eq_true, decide_eq_true_eq, List.all_eq_true] at hn
  have p := S.pick (is ++ (List.range L.length).map (· + A.length)) (by
    rw [List.nodup_append]
    refine ⟨hn.1, List.Pairwise.map _ (fun a b (e : a ≠ b) => show a + A.length ≠ b + A.length by omega) List.nodup_range, fun a ha b hb e => ?_⟩
    subst e
    obtain ⟨c, _, rfl⟩ := List.mem_map.1 hb
    have := hn.2 _ ha
    omega)
  rw [List.filterMap_append, shift_pick] at p
  have e : is.filterMap ((A ++ L)[·]?) = is.filterMap (A[·]?) := fm_congr fun i hi => List.getElem?_append_left (hn.2 i hi)
  rwa [e] at p
theorem store_i {h : Heap} {id n i : Nat} {zs : List Int} {z : Int} (hb : h[id]? = some (zs.map encI)) (hn : zs.length = n) (hi : i < n) : storeH h 1 (.ptr id n i 0) (.int .i64 z) = some (h.set id ((zs.set i z).map encI)) := by
  rw [storeH_row hb (by simpa using hn) hi (fun e he => by obtain ⟨z, _, rfl⟩ := List.mem_map.1 he; rfl) rfl, List.map_set]; rfl
theorem Sep.newK2 {h : Heap} {L : List It} (S : Sep h L) (b c : Blk) : Sep (h ++ [b, c]) (.k (h.length + 1) c :: .k h.length b :: L) := by
  have := (S.newK b).newK c
  simp only [List.append_assoc, List.cons_append, List.nil_append, List.length_append, List.length_cons, List.length_nil, Nat.zero_add] at this
  exact this
theorem Sep.newK3 {h : Heap} {L : List It} (S : Sep h L) (b c d : Blk) : Sep (h ++ [b, c, d]) (.k (h.length + 2) d :: .k (h.length + 1) c :: .k h.length b :: L) := by
  have := (S.newK2 b c).newK d
  simp only [List.append_assoc, List.cons_append, List.nil_append, List.length_append, List.length_cons, List.length_nil, Nat.zero_add] at this
  exact this
theorem Sep.push1 {h : Heap} {l : Nat} {b : Blk} {L : List It} (S : Sep h (.k l b :: L)) (c : List V) : Sep ((h ++ [[c]]).set l (b ++ [c])) (.k l (b ++ [c]) :: L) := (S.app _).setK _
/-! Values. -/
theorem isValue_s (x : Int) : CP Try.prog 32 [.int .i64 x] (.bool (isValue x)) [] := by
  refine CP.by rfl mixed (cfn_ok Try.func32 ok32) rfl ?_
  simp (disch := omega) only [s32, go_sem]
  refine CP.go (l01In_c _ _ _) rfl rfl ?_
  simp (disch := omega) only [go_sem]
  rfl
def vals (zs : List Int) : Bool := zs.all isValue
theorem vals_iff {zs : List Int} : vals zs = true ↔ ∀ z ∈ zs, isValue z = true := List.all_eq_true
theorem values_s (zs : List Int) (hl : zs.length ≤ 9223372036854775807) : CP Try.prog 53 [.lst 1 (zs.map encI)] (.bool (vals zs)) [] := by
  refine CP.by rfl mixed (cfn_ok Try.func53 ok53) rfl ?_
  simp (disch := omega) only [s53, go_sem]
  refine loopP_intro (fun m s => ∃ k : Nat, k ≤ zs.length ∧ m = zs.length - k ∧ s.e 0 = .lst 1 (zs.map encI) ∧ s.e 3 = .int .i64 k ∧ ∀ j (hj : j < zs.length), j < k → isValue zs[j] = true) zs.length ⟨0, by omega, by omega, rfl, rfl, fun j _ h => absurd h (by omega)⟩ ?_
  rintro m e hp ⟨k, hk, rfl, e0, e3, hall⟩
  simp only at e0 e3
  simp (disch := omega) only [go_sem, e0, e3, encI]
  refine condP_dec (fun hlt => ?_) (fun hlt => ?_)
  · have hlt' : k < zs.length := by omega
    simp (disch := omega) only [go_sem, e0, e3, encI]
    refine CP.go (isValue_s zs[k]) rfl rfl ?_
    simp (disch := omega) only [go_sem, e0, e3, encI]
    refine condP_split (fun h => ?_) (fun h => ?_)
    · simp (disch := omega) only [go_sem, e0, e3, encI]
      refine nextP_intro (zs.length - (k + 1)) (by omega) ⟨k + 1, by omega, rfl, by simp (disch := omega) only [go_sem, e0, e3, encI], by simp (disch := omega) only [go_sem, e0, e3, encI]; rfl, fun j hj hjk => ?_⟩
      by_cases e : j = k
      · subst e; exact h
      · exact hall j hj (by omega)
    · simp (disch := omega) only [go_sem, e0, e3, encI]
      have : vals zs = false := List.all_eq_false.2 ⟨zs[k], List.getElem_mem hlt', by simp [h]⟩
      rw [this]
  · simp (disch := omega) only [go_sem, e0, e3, encI]
    have : vals zs = true := vals_iff.2 fun z hz => by
      obtain ⟨j, hj, rfl⟩ := List.getElem_of_mem hz
      exact hall j hj (by omega)
    rw [this]
theorem indexI_c (g : Nat) (p : Int → Bool) (zs : List Int) (hg : ∀ z ∈ zs, CP Try.prog g [.int .i64 z] (.bool (p z)) []) (hl : zs.length ≤ 9223372036854775807) : CP Try.prog 59 [.lst 1 (zs.map encI), .fn g []] (.int .i64 (idxI p zs)) [] := by
  refine CP.by rfl mixed (cfn_ok Try.func59 ok59) rfl ?_
  simp (disch := omega) only [s59, go_sem]
  refine loopP_intro (fun m s => ∃ k : Nat, k ≤ zs.length ∧ m = zs.length - k ∧ s.e 0 = .lst 1 (zs.map encI) ∧ s.e 1 = .fn g [] ∧ s.e 7 = .int .i64 zs.length ∧ s.e 8 = .int .i64 k ∧ ∀ j (hj : j < zs.length), j < k → p zs[j] = false) zs.length ⟨0, by omega, by omega, rfl, rfl, by simp (disch := omega) only [go_sem], rfl, fun j _ h => absurd h (by omega)⟩ ?_
  rintro m e hp ⟨k, hk, rfl, e0, e1, e7, e8, hall⟩
  simp only at e0 e1 e7 e8
  simp (disch := omega) only [go_sem, e0, e1, e7, e8, encI]
  refine condP_dec (fun hlt => ?_) (fun hlt => ?_)
  · have hlt' : k < zs.length := by omega
    simp (disch := omega) only [go_sem, e0, e1, e7, e8, encI]
    refine CP.go (hg zs[k] (List.getElem_mem hlt')) rfl rfl ?_
    simp (disch := omega) only [go_sem, e0, e1, e7, e8, encI]
    refine condP_split (fun h => ?_) (fun h => ?_)
    · simp (disch := omega) only [go_sem, e0, e1, e7, e8, encI]
      rw [idxI_found hlt' h hall]
    · simp (disch := omega) only [go_sem, e0, e1, e7, e8, encI]
      refine nextP_intro (zs.length - (k + 1)) (by omega) ⟨k + 1, by omega, rfl, by simp (disch := omega) only [go_sem, e0, e1, e7, e8, encI], by simp (disch := omega) only [go_sem, e0, e1, e7, e8, encI], by simp (disch := omega) only [go_sem, e0, e1, e7, e8, encI], by simp (disch := omega) only [go_sem, e0, e1, e7, e8, encI]; rfl, fun j hj hjk => ?_⟩
      by_cases e : j = k
      · subst e; exact h
      · exact hall j hj (by omega)
  · simp (disch := omega) only [go_sem, e0, e1, e7, e8, encI]
    rw [idxI_none (fun j hj => hall j hj (by omega))]
theorem containsI_c (g : Nat) (p : Int → Bool) (zs : List Int) (hg : ∀ z ∈ zs, CP Try.prog g [.int .i64 z] (.bool (p z)) []) (hl : zs.length ≤ 9223372036854775807) : CP Try.prog 55 [.lst 1 (zs.map encI), .fn g []] (.bool (zs.any p)) [] := by
  refine CP.by rfl mixed (cfn_ok Try.func55 ok55) rfl ?_
  simp (disch := omega) only [s55, go_sem]
  refine CP.go (indexI_c g p zs hg hl) rfl (refs_ints _ _ _ rfl) ?_
  simp (disch := omega) only [go_sem, idxI_ge]
theorem refs_int1 (n : Nat) (zs : List Int) : V.refsL n [.lst 1 (zs.map encI)] = true := by simp [V.refsL, V.refs, refsLL_map encI (fun _ => rfl) zs]
theorem any_not {zs : List Int} : (zs.any fun z => !isValue z) = !vals zs := by unfold vals; rw [List.not_all_eq_any_not]
theorem values_c (zs : List Int) (hl : zs.length ≤ 9223372036854775807) : CP Try.prog 48 [.lst 1 (zs.map encI)] (.bool (vals zs)) [] := by
  refine CP.by rfl mixed (cfn_ok Try.func48 ok48) rfl ?_
  simp (disch := omega) only [s48, go_sem]
  refine CP.go (containsI_c 56 (fun z => !isValue z) zs (fun z _ => notValue_c z) hl) rfl (refs_ints _ _ _ rfl) ?_
  simp (disch := omega) only [go_sem, any_not, Bool.not_not]
/-- Cloned numbers. -/
theorem cloneI_f (xs : List Int) (hx : xs.length ≤ 1048576) : F Try.prog 46 [.lst 1 (xs.map encI)] (.lst 1 (xs.map encI)) := by
  refine C.by mixed (cfn_ok Try.func46 ok46) rfl ?_
  simp (disch := omega) only [s46, go_sem]
  have ha : appendH [[]] 1 8 (.own 0 1 0 0 0) (.lst 1 (xs.map encI)) = some (.own 0 1 0 (0 + xs.length) (0 + xs.length), ([[]] : Heap).set 0 ([] ++ xs.map encI)) := appendH_n (n := 0) (m := xs.length) (b := []) rfl rfl (by simp [elemsOf]) (by simp) (by omega)
  have hfin : ∃ ids : List Nat, ids.Nodup ∧ OwnsR [xs.map encI] (.lst 1 (xs.map encI)) (.own 0 1 0 xs.length xs.length) ids := ⟨[0], by simp, Owns.own_flat rfl (by simp) (flat_encI _)⟩
  cases xs with
  | nil =>
    simp only [isnilP, List.map_nil, List.isEmpty_nil, if_true]
    intro b
    cases b
    · simp (disch := omega) only [go_sem, ha]
      exact hfin
    · simp (disch := omega) only [go_sem]
      exact ⟨[], by simp, Owns.nils_⟩
  | cons x xs =>
    simp only [isnilP, List.map_cons, List.isEmpty_cons, Bool.false_eq_true, if_false]
    simp only [List.map_cons] at ha
    simp (disch := omega) only [go_sem, ha]
    exact hfin
theorem Sep.ls {h : Heap} {L : List It} (S : Sep h L) (c : List V) (hc : c.all V.scalar = true) : Sep h (.l c c :: L) := by
  obtain ⟨ids, nd, s⟩ := S
  exact ⟨ids, nd, [], ids, rfl, (OwnsL.scalars hc).2 ⟨rfl, rfl⟩, s⟩
/-- A row of scalars more. -/
theorem Sep.pushS {h : Heap} {sz bytes : Nat} {ys : Blk} {v : V} {L : List It} (S : Sep h (.v (.lst sz ys) v :: L)) (c : List V) (hc : c.all V.scalar = true) (hb : (ys.length + 1) * bytes ≤ 140737488355328) :
    ∃ v' h', appendH (h ++ [[c]]) sz bytes v (.own h.length sz 0 1 1) = some (v', h') ∧ Sep h' (.v (.lst sz (ys ++ [c])) v' :: L) := by
  have S1 := ((S.app [[c]]).ls c hc).sw
  exact S1.push (at_app0 _ _) hb
section
variable {vs vu vl vv : V} {task tail sent : Int} {F : List Bool} {h : Heap} {X : Nat}
end
theorem half_set {α : Type} {xs : List α} {k : Nat} (f : α → List V) (z : List V) (hk : k < xs.length) : ((xs.take k).map f ++ List.replicate (xs.length - k) z).set k (f xs[k]) = (xs.take (k + 1)).map f ++ List.replicate (xs.length - (k + 1)) z := by
  have e1 : xs.length - k = (xs.length - (k + 1)) + 1 := by omega
  have e2 : ((xs.take k).map f).length = k := by simp; omega
  rw [e1, List.replicate_succ, List.set_append_right _ _ (by omega), e2, Nat.sub_self, List.set_cons_zero, List.take_succ_eq_append_getElem hk, List.map_append, List.append_assoc]
  rfl
theorem half_len {α : Type} {xs : List α} {k : Nat} (f : α → List V) (z : List V) (hk : k ≤ xs.length) : ((xs.take k).map f ++ List.replicate (xs.length - k) z).length = xs.length := by simp; omega
theorem half_sz {α : Type} {xs : List α} {k sz : Nat} {f : α → List V} {z : List V} (hf : ∀ x, (f x).length = sz) (hz : z.length = sz) : ∀ e ∈ (xs.take k).map f ++ List.replicate (xs.length - k) z, e.length = sz := fun e he => by
  rcases List.mem_append.1 he with h1 | h1
  · obtain ⟨s, _, rfl⟩ := List.mem_map.1 h1; exact hf s
  · rw [(List.mem_replicate.1 h1).2]; exact hz
theorem CP.f {P : Program} {f : FuncId} {args : List V} {sz n : Nat} {b : Blk} (hf : flat b = true) (hn : b.length = n) (h : CP P f args (.own 0 sz 0 n n) [b]) : F P f args (.lst sz b) :=
  C.mono h fun r h' ⟨_, _, g, _, e, hg⟩ => by
    subst e hn
    have := hg 0 b rfl
    rw [mapLL_refs0 (flat_refs 0 hf)] at this
    exact ⟨[g 0], by simp, Owns.own_flat this rfl hf⟩
def szM (n : Nat) (left : Int) : Int := if left - n < 0 then -1 else left - n
theorem szM_bd (n : Nat) (left : Int) (h : 0 ≤ left ∧ left ≤ 1048576) : -1 ≤ szM n left ∧ szM n left ≤ 1048576 := by unfold szM; split <;> omega
theorem szM_ok {n : Nat} {left : Int} (h : left ≤ 1048576) (h0 : ¬ szM n left < 0) : n ≤ 1048576 := by unfold szM at h0; split at h0 <;> omega
theorem OwnsL.task {h : Heap} {t : Task} {cs : List V} {ids : List Nat} (o : OwnsL h (encTask t) cs ids) : ∃ va, cs = [va, .int .i64 t.next.op, .int .i64 t.next.a, .int .i64 t.next.b] ∧ Owns h (.lst 6 (t.body.map encStmt)) va ids := by
  obtain ⟨c, cs', i, j, rfl, rfl, o1, o2⟩ := OwnsL.cons_.1 o
  obtain ⟨rfl, rfl⟩ := (OwnsL.scalars (by rfl)).1 o2
  exact ⟨c, rfl, by simpa using o1⟩
theorem Sep.task {t : Task} {h : Heap} {L : List It} {r : V} (S : Sep h (.v (.agg (encTask t)) r :: L)) : ∃ va, r = .agg [va, .int .i64 t.next.op, .int .i64 t.next.a, .int .i64 t.next.b] ∧ Sep h (.l (encTask t) [va, .int .i64 t.next.op, .int .i64 t.next.a, .int .i64 t.next.b] :: L) ∧ (V.one va = true ∧ V.nohole va = va ∧ V.cells va = [va]) := by
  obtain ⟨cs, rfl, S1⟩ := sep_agg.1 S
  obtain ⟨i, _, o⟩ := S1.nth 0 rfl
  obtain ⟨va, rfl, o'⟩ := OwnsL.task o
  exact ⟨va, rfl, S1, o'.vv⟩
theorem Sep.prog {h : Heap} {ts : List Task} {v : V} {L : List It} (S : Sep h (.v (.lst 4 (ts.map encTask)) v :: L)) : ∃ ids : List Nat, ids.Nodup ∧ OwnsR h (.agg [.lst 4 (ts.map encTask)]) (.agg [v]) ids :=
  ((Sep.cons2 (fun es e => by cases e) ((Sep.perm (List.Perm.swap _ _ _) (Sep.l0 S)))).a).ret
theorem new_c (bs : List Int) (h : Heap) (hb : bs.length ≤ 1048576) : C Try.prog 20 [.lst 1 (bs.map encB)] h (fun r h' => r = .ptr h.length 1 0 0 ∧ Ext h h' ∧ Cur h' h.length) := by
  refine C.by mixed (cfn_ok Try.func20 ok20) rfl ?_
  simp (disch := omega) only [s20, go_sem]
  refine loopP_intro (fun m s => ∃ (k : Nat), k ≤ bs.length ∧ m = bs.length - k ∧ s.e 0 = .lst 1 (bs.map encB) ∧ s.e 4 = .int .i64 k ∧ s.h = h ∧ ∃ x, s.e 3 = .int .i64 x) bs.length ⟨0, by omega, by omega, rfl, rfl, rfl, _, by simp (disch := omega) only [go_sem]; rfl⟩ ?_
  rintro m e hp ⟨k, hk, rfl, e0, e4, hh, x, e3⟩
  simp only at e0 e4 e3 hh
  subst hh
  simp (disch := omega) only [go_sem, e0, e4, e3, encB, splice]
  have hend : Ext hp (hp ++ [[[V.lst 1 (bs.map encB), .int .i64 0, .int .i64 x]]]) ∧ Cur (hp ++ [[[V.lst 1 (bs.map encB), .int .i64 0, .int .i64 x]]]) hp.length := ⟨Ext.app _ _, bs, 0, x, by simp, by omega, by omega, hb⟩
  refine condP_dec (fun hlt => ?_) (fun hlt => ?_)
  · have hlt' : k < bs.length := by omega
    simp (disch := omega) only [go_sem, e0, e4, e3, encB, splice]
    refine condP_dec (fun h4 => ?_) (fun h4 => ?_)
    · simp (disch := omega) only [go_sem, e0, e4, e3, encB, splice]
      refine nextP_intro (bs.length - (k + 1)) (by omega) ⟨k + 1, by omega, rfl, ?_, ?_, rfl, ?_⟩
      · simp (disch := omega) only [go_sem, e0, e4, e3, encB, splice]
      · simp (disch := omega) only [go_sem, e0, e4, e3, encB, splice]; rfl
      · exact ⟨_, by simp (disch := omega) only [go_sem, e0, e4, e3, encB, splice]; rfl⟩
    · simp (disch := omega) only [go_sem, e0, e4, e3, encB, splice]
      exact hend
  · simp (disch := omega) only [go_sem, e0, e4, e3, encB, splice]
    exact hend
theorem byte_c (h : Heap) (id : Nat) (hc : Cur h id) : DI Try.prog 45 [.ptr id 1 0 0] h id 0 256 := by
  obtain ⟨bs, i, hh, e1, hi0, hi1, hb⟩ := hc
  refine C.by mixed (cfn_ok Try.func45 ok45) rfl ?_
  have hs : ∀ c, (h.set id c)[id]? = some c := fun c => heap_set c e1
  simp (disch := omega) only [s45, go_sem, e1, encB, storeH, storeB, splice, hs, List.set_set]
  refine condP_dec (fun hlt => ?_) (fun hlt => ?_)
  · simp (disch := omega) only [go_sem, e1, encB, storeH, storeB, splice, hs, List.set_set]
    exact ⟨_, rfl, (and_255 _).1, and_255_lt _, ⟨bs, i + 1, _, hs _, by omega, by omega, hb⟩, ExtX.set _ _ _⟩
  · simp (disch := omega) only [go_sem, e1, encB, storeH, storeB, splice, hs, List.set_set]
    exact ⟨_, rfl, (and_255 _).1, and_255_lt _, ⟨bs, i, _, hs _, by omega, by omega, hb⟩, ExtX.set _ _ _⟩
theorem below_c (h : Heap) (id : Nat) (n : Int) (hc : Cur h id) (hn : n ≤ 4294967296) : DI Try.prog 21 [.ptr id 1 0 0, .int .i64 n] h id 0 (max 1 n) := by
  refine C.by mixed (cfn_ok Try.func21 ok21) rfl ?_
  simp (disch := omega) only [s21, go_sem]
  refine condP_dec (fun h0 => ?_) (fun h0 => ?_)
  · simp (disch := omega) only [go_sem]
    exact ⟨0, rfl, by omega, by omega, hc, ExtX.refl _ _⟩
  · simp (disch := omega) only [go_sem]
    refine condP_dec (fun h1 => ?_) (fun h1 => ?_)
    · simp (disch := omega) only [go_sem]
      refine DI.go (byte_c _ _ hc) fun z h1 z0 z1 c1 x1 => ?_
      simp (disch := omega) only [go_sem]
      have := tmod_bd (n := n) z0 (by omega)
      exact ⟨_, rfl, this.1, by omega, c1, x1⟩
    · simp (disch := omega) only [go_sem]
      refine DI.go (byte_c _ _ hc) fun a h1 a0 a1 c1 x1 => ?_
      simp (disch := omega) only [go_sem]
      refine DI.go (byte_c _ _ c1) fun b h2 b0 b1 c2 x2 => ?_
      simp (disch := omega) only [go_sem]
      refine DI.go (byte_c _ _ c2) fun c h3 c0 c1' c3 x3 => ?_
      simp (disch := omega) only [go_sem]
      refine DI.go (byte_c _ _ c3) fun d h4 d0 d1 c4 x4 => ?_
      simp (disch := omega) only [go_sem]
      have := tmod_bd (a := a * 16777216 + b * 65536 + c * 256 + d) (n := n) (by omega) (by omega)
      exact ⟨_, rfl, this.1, by omega, c4, ((x1.trans c1 x2).trans c2 x3).trans c3 x4⟩
def DB (P : Program) (f : FuncId) (args : List V) (h : Heap) (id : Nat) : Prop := C P f args h (fun r h' => ∃ b, r = .bool b ∧ Cur h' id ∧ ExtX id h h')
theorem DB.go {P : Program} {f : FuncId} {args : List V} {h : Heap} {id : Nat} {K : V → Heap → Prop} (hc : DB P f args h id) (hk : ∀ b h', Cur h' id → ExtX id h h' → K (.bool b) h') : @callP P f args h ⟨K⟩ :=
  C.go hc fun r h' ⟨z, e, c, d⟩ => by subst e; exact hk z h' c d
theorem once_c (h : Heap) (id : Nat) (n : Int) (hc : Cur h id) (hn : n ≤ 4294967296) : DB Try.prog 44 [.ptr id 1 0 0, .int .i64 n] h id := by
  refine C.by mixed (cfn_ok Try.func44 ok44) rfl ?_
  simp (disch := omega) only [s44, go_sem]
  refine DI.go (below_c _ _ _ hc hn) fun z h1 z0 z1 c1 x1 => ?_
  simp (disch := omega) only [go_sem]
  exact ⟨_, rfl, c1, x1⟩
theorem pick_c (h : Heap) (id lid : Nat) (zs : List Int) (n : Nat) (hc : Cur h id) (hl : h[lid]? = some (zs.map encI)) (hne : lid ≠ id) (hz : zs.length = n) (h0 : 0 < n) (hn : n ≤ 4294967296) : C Try.prog 43 [.ptr id 1 0 0, .own lid 1 0 n n] h (fun r h' => ∃ z, r = .int .i64 z ∧ z ∈ zs ∧ Cur h' id ∧ ExtX id h h') := by
  refine C.by mixed (cfn_ok Try.func43 ok43) rfl ?_
  simp (disch := omega) only [s43, go_sem]
  refine DI.go (below_c _ _ _ hc (by omega)) fun z h1 z0 z1 c1 x1 => ?_
  have hl1 := x1.get hl hne
  have hlt : z.toNat < zs.length := by omega
  have hg : zs[z.toNat]? = some zs[z.toNat] := List.getElem?_eq_getElem hlt
  simp (disch := omega) only [go_sem, hl1, hz, hg, List.getElem?_map, encI]
  exact ⟨_, rfl, List.getElem_mem hlt, c1, x1⟩
/-- A draw of a number. -/
theorem Sep.goBelow {h : Heap} {id : Nat} {n : Int} {L : List It} {K : V → Heap → Prop} (S : Sep h (.c id :: L)) (hn : n ≤ 4294967296) (hk : ∀ z h', 0 ≤ z → z < max 1 n → Sep h' (.c id :: L) → K (.int .i64 z) h') : @callP Try.prog 21 [.ptr id 1 0 0, .int .i64 n] h ⟨K⟩ :=
  S.goDI (below_c h id n S.cur hn) hk
section
variable {σ τ : Type} {stp : Stmt → σ → σ} {hold : Stmt → σ → Bool} {stp' : Stmt → τ → τ} {hold' : Stmt → τ → Bool}
end
theorem push_int (zs : List Int) (z : Int) : (zs ++ [z]).map encI = zs.map encI ++ [[.int .i64 z]] := by simp [encI]
theorem all_snoc {p : Int → Prop} {zs : List Int} {z : Int} (h : ∀ x ∈ zs, p x) (hz : p z) : ∀ x ∈ zs ++ [z], p x := fun x hx => by
  rcases List.mem_append.1 hx with q | q
  · exact h x q
  · rw [List.mem_singleton.1 q]; exact hz
theorem big_c (bs : List Int) (hb : bs.length ≤ 9223372036854775807) : CP Try.prog 5 [.lst 1 (bs.map encB)] (.bool (decide (1048576 < (bs.length : Int)))) [] := by
  refine CP.by rfl mixed (cfn_ok Try.func5 ok5) rfl ?_
  simp (disch := omega) only [s5, go_sem]
theorem refs_bytes (n : Nat) (bs : List Int) : V.refsL n [.lst 1 (bs.map encB)] = true := by simp [V.refsL, V.refs, refsLL_map encB (fun _ => rfl) bs]
theorem Sep.goNew {h : Heap} {L : List It} {K : V → Heap → Prop} {bs : List Int} (S : Sep h L) (hb : bs.length ≤ 1048576) (hk : ∀ h', Sep h' (.c h.length :: L) → K (.ptr h.length 1 0 0) h') : @callP Try.prog 20 [.lst 1 (bs.map encB)] h ⟨K⟩ := by
  refine C.go (new_c bs h hb) ?_
  rintro r h' ⟨rfl, e, c⟩
  exact hk h' (S.curNew e c)
theorem drawPlaces_d {h : Heap} {L : List It} {bs : List Int} (S : Sep h L) (hb : bs.length ≤ 1048576) : C Try.prog 7 [.lst 1 (bs.map encB)] h (fun r h' => ∃ (zs : List Int) (l : Nat), r = .own l 1 0 12 12 ∧ zs.length = 12 ∧ (∀ z ∈ zs, 0 ≤ z ∧ z ≤ 9999) ∧ Sep h' (.k l (zs.map encI) :: L)) := by
  refine C.by mixed (cfn_ok Try.func7 ok7) rfl ?_
  simp (disch := omega) only [s7, go_sem]
  refine S.goNew hb fun h1 S1 => ?_
  simp (disch := omega) only [go_sem]
  have S2 : Sep (h1 ++ [[]]) (.k h1.length (([] : List Int).map encI) :: .c h.length :: L) := S1.newK []
  refine loopP_intro (fun m s => ∃ (zs : List Int) (l : Nat), zs.length ≤ 12 ∧ m = 12 - zs.length ∧ s.e 3 = .ptr h.length 1 0 0 ∧ s.e 4 = .own l 1 0 zs.length zs.length ∧ s.e 5 = .int .i64 zs.length ∧ (∀ z ∈ zs, 0 ≤ z ∧ z ≤ 9999) ∧ Sep s.h (.k l (zs.map encI) :: .c h.length :: L)) 12 ⟨[], h1.length, by simp, rfl, by simp (disch := omega) only [go_sem], by simp (disch := omega) only [go_sem] <;> rfl, by simp (disch := omega) only [go_sem] <;> rfl, by simp, S2⟩ ?_
  intro m e hp P
  refine Exists.elim P fun zs P => Exists.elim P fun l P => ?_
  have hk := P.1
  have hm := P.2.1
  have e3 := P.2.2.1
  have e4 := P.2.2.2.1
  have e5 := P.2.2.2.2.1
  have hz := P.2.2.2.2.2.1
  have S3 := P.2.2.2.2.2.2
  clear P
  subst hm
  simp only at e3 e4 e5 S3
  simp (disch := omega) only [go_sem, e3, e4, e5]
  refine condP_dec (fun hlt => ?_) (fun hlt => ?_)
  · have hlt' : zs.length < 12 := by omega
    simp (disch := omega) only [go_sem, e3, e4, e5]
    refine S3.sw.goBelow (n := 10000) (by omega) fun x h5 x0 x1 S5 => ?_
    have hap := append1 (sz := 1) (bytes := 8) (n := zs.length) (c := [.int .i64 x]) (S5.blk 1 rfl) (by simp) (by omega)
    have S6 := S5.sw.push1 [.int .i64 x]
    rw [← push_int] at hap S6
    simp (disch := omega) only [go_sem, hap, e3, e4, e5]
    refine nextP_intro (12 - (zs.length + 1)) (by omega) ⟨zs ++ [x], l, by simp; omega, by simp, by simp (disch := omega) only [go_sem, hap, e3, e4, e5], by simp (disch := omega) only [go_sem, hap, e3, e4, e5] <;> simp, by simp (disch := omega) only [go_sem, hap, e3, e4, e5] <;> simp, all_snoc hz (by simp at *; omega), S6⟩
  · simp (disch := omega) only [go_sem, e3, e4, e5]
    have h12 : zs.length = 12 := by omega
    exact ⟨zs, l, by rw [h12], h12, hz, S3.drop 1⟩
theorem Sep.asRow {h : Heap} {sz : Nat} {ys : Blk} {v : V} {L : List It} (S : Sep h (.v (.lst sz ys) v :: L)) : Sep h (.l [.lst sz ys] [v] :: L) := Sep.cons2 (fun es e => by cases e) ((Sep.l0 S).sw)
section
variable {n : Nat} {m : List Int} {t c l : Int}
end
theorem sameInts_c (xs ys : List Int) (h : xs = ys) (hl : xs.length ≤ 9223372036854775807) : CP Try.prog 11 [.lst 1 (xs.map encI), .lst 1 (ys.map encI)] (.bool true) [] := by
  subst h
  refine CP.by rfl mixed (cfn_ok Try.func11 ok11) rfl ?_
  simp (disch := omega) only [s11, go_sem]
  refine loopP_intro (fun n s => ∃ k : Nat, k ≤ xs.length ∧ n = xs.length - k ∧ s.e 0 = .lst 1 (xs.map encI) ∧ s.e 1 = .lst 1 (xs.map encI) ∧ s.e 5 = .int .i64 k) xs.length ⟨0, by omega, by omega, by simp (disch := omega) only [go_sem], by simp (disch := omega) only [go_sem], by simp (disch := omega) only [go_sem] <;> rfl⟩ ?_
  rintro n e hp ⟨k, hk, rfl, e0, e1, e5⟩
  simp only at e0 e1 e5
  simp (disch := omega) only [go_sem, e0, e1, e5, encI]
  refine condP_dec (fun hlt => ?_) (fun hlt => ?_)
  · have hlt' : k < xs.length := by omega
    simp (disch := omega) only [go_sem, e0, e1, e5, encI]
    refine nextP_intro (xs.length - (k + 1)) (by omega) ⟨k + 1, by omega, rfl, by simp (disch := omega) only [go_sem, e0, e1, e5, encI], by simp (disch := omega) only [go_sem, e0, e1, e5, encI], by simp (disch := omega) only [go_sem, e0, e1, e5, encI] <;> rfl⟩
  · simp (disch := omega) only [go_sem, e0, e1, e5, encI]
theorem set_midR {α : Type} {A B : List α} {x y : α} {j : Nat} (h : A.length = j) : (A ++ x :: B).set j y = A ++ y :: B := by
  subst h; simp
theorem Sep.ofBlk {h : Heap} {id : Nat} {b : Blk} (hb : h[id]? = some b) : Sep h [.k id b] := ⟨[id], by simp, [id], [], rfl, ⟨rfl, hb⟩, rfl⟩
theorem ret_list {h : Heap} {id : Nat} {es : List Int} {b : Bool} (hid : h[id]? = some (es.map encI)) : ∃ ids : List Nat, ids.Nodup ∧ OwnsR h (.tup [.lst 1 (es.map encI), .bool b]) (.tup [.own id 1 0 es.length es.length, .bool b]) ids := by
  have A1 := Sep.ofFlat (sz := 1) (n := es.length) (Sep.ofBlk hid) (by simp) (flat_encI _)
  exact (Sep.cons2 (fun es e => by cases e) (Sep.sw (Sep.lb (z := b) (Sep.l0 A1)))).t.ret
theorem toIntS_c (xs : List Int) (hx : xs.length ≤ 1048576) : CP Try.prog 34 [.lst 1 (xs.map encI)] (.own 0 1 0 xs.length xs.length) [xs.map encI] := by
  refine C.cpOwn (flat_encI _) (C.by mixed (cfn_ok Try.func34 ok34) rfl ?_)
  simp (disch := omega) only [s34, go_sem]
  refine loopP_intro (fun m s => ∃ k : Nat, k ≤ xs.length ∧ m = xs.length - k ∧ s.e 0 = .lst 1 (xs.map encI) ∧ s.e 4 = .int .i64 k ∧ s.e 3 = .own 0 1 0 xs.length xs.length ∧ s.h[0]? = some ((xs.take k).map encI ++ List.replicate (xs.length - k) (encI 0))) xs.length ⟨0, by omega, by omega, rfl, rfl, rfl, by simp [encI]⟩ ?_
  rintro m e hp ⟨k, hk, rfl, e0, e4, e3, hid⟩
  simp only at e0 e4 e3 hid
  simp (disch := omega) only [go_sem, e0, e4, e3, encI]
  refine condP_dec (fun hlt => ?_) (fun hlt => ?_)
  · have hlt' : k < xs.length := by omega
    simp (disch := omega) only [go_sem, e0, e4, e3, encI]
    rw [storeH_row hid (half_len _ _ hk) hlt' (half_sz (fun _ => rfl) rfl) rfl]
    simp (disch := omega) only [go_sem, e0, e4, e3, encI]
    refine nextP_intro (xs.length - (k + 1)) (by omega) ⟨k + 1, by omega, rfl, ?_, ?_, ?_, ?_⟩
    · simp (disch := omega) only [go_sem, e0, e4, e3, encI]
    · simp (disch := omega) only [go_sem, e0, e4, e3, encI]; rfl
    · simp (disch := omega) only [go_sem, e0, e4, e3, encI]
    · rw [heap_set _ hid]
      congr 1
      exact half_set encI _ hlt'
  · simp (disch := omega) only [go_sem, e0, e4, e3, encI]
    refine ⟨0, rfl, ?_⟩
    have : k = xs.length := by omega
    subst this
    rw [hid]; simp
theorem toIntS_f (xs : List Int) (hx : xs.length ≤ 1048576) : F Try.prog 34 [.lst 1 (xs.map encI)] (.lst 1 (xs.map encI)) := CP.f (flat_encI _) (by simp) (toIntS_c xs hx)
theorem eqIntS_r (xs : List Int) (hx : xs.length ≤ 9223372036854775807) : CP Try.prog 36 [.lst 1 (xs.map encI), .lst 1 (xs.map encI)] (.bool true) [] := by
  refine CP.by rfl mixed (cfn_ok Try.func36 ok36) rfl ?_
  simp (disch := omega) only [s36, go_sem, encI]
  refine loopP_intro (fun m s => ∃ k : Nat, k ≤ xs.length ∧ m = xs.length - k ∧ s.e 0 = .lst 1 (xs.map encI) ∧ s.e 1 = .lst 1 (xs.map encI) ∧ s.e 5 = .int .i64 k) xs.length ⟨0, by omega, by omega, rfl, rfl, rfl⟩ ?_
  rintro m e hp ⟨k, hk, rfl, e0, e1, e5⟩
  simp only at e0 e1 e5
  simp (disch := omega) only [go_sem, e0, e1, e5, encI]
  refine condP_dec (fun hlt => ?_) (fun hlt => ?_)
  · have hlt' : k < xs.length := by omega
    simp (disch := omega) only [go_sem, e0, e1, e5, encI]
    exact nextP_intro (xs.length - (k + 1)) (by omega) ⟨k + 1, by omega, rfl, by simp (disch := omega) only [go_sem, e0, e1, e5, encI], by simp (disch := omega) only [go_sem, e0, e1, e5, encI], by simp (disch := omega) only [go_sem, e0, e1, e5, encI]; rfl⟩
  · simp (disch := omega) only [go_sem, e0, e1, e5, encI]
def mkI (k : Int) (n : Nat) : List Int := (List.range n).map fun (i : Nat) => k + (i : Int)
theorem mkI_len (k : Int) (n : Nat) : (mkI k n).length = n := by simp [mkI]
theorem mkI_succ (k : Int) (n : Nat) : mkI k (n + 1) = mkI k n ++ [k + (n : Int)] := by simp [mkI, List.range_succ]
theorem markIntS_c (h : Heap) (xs : List Int) (v : V) (k : Int) (L : List It) (S : Sep h (.v (.lst 1 (xs.map encI)) v :: L)) (hx : xs.length ≤ 1000000000000000) (hk : 0 ≤ k ∧ k ≤ 1000000000000000000) :
    C Try.prog 38 [v, .int .i64 k] h (fun r h' => r = .int .i64 (k + xs.length) ∧ Sep h' (.v (.lst 1 ((mkI k xs.length).map encI)) v :: L)) := by
  have zv := S.vv 0 rfl
  have ovn := zv.2.1
  have hnh : [v, .int .i64 k].all V.noHole = true := by
    rcases S.flat_ (flat_encI xs) with ⟨rfl, _⟩ | ⟨l, rfl, _⟩ <;> rfl
  refine C.by mixed (cfn_ok Try.func38 ok38) hnh ?_
  simp (disch := omega) only [s38, go_sem, ovn]
  refine loopP_intro (fun m s => ∃ j : Nat, j ≤ xs.length ∧ m = xs.length - j ∧ s.e 0 = v ∧ s.e 1 = .int .i64 (k + (j : Int)) ∧ s.e 5 = .int .i64 j ∧ Sep s.h (.v (.lst 1 ((mkI k j ++ xs.drop j).map encI)) v :: L)) xs.length ⟨0, by omega, by omega, by simp (disch := omega) only [go_sem, ovn], by simp (disch := omega) only [go_sem, ovn] <;> simp, by simp (disch := omega) only [go_sem, ovn] <;> rfl, by simpa [mkI] using S⟩ ?_
  intro m e hp P
  refine Exists.elim P fun j P => ?_
  have hj := P.1
  have hm := P.2.1
  have e0 := P.2.2.1
  have e1 := P.2.2.2.1
  have e5 := P.2.2.2.2.1
  have Sj := P.2.2.2.2.2
  clear P
  subst hm
  simp only at e0 e1 e5 Sj
  have hml : (mkI k j ++ xs.drop j).length = xs.length := by simp [mkI_len]; omega
  have lenv := fun G => (Sj.lst 0 rfl).elim fun i o => o.len_ G
  simp only [List.length_map, hml] at lenv
  simp (disch := omega) only [go_sem, e0, e1, e5, ovn, lenv]
  refine condP_dec (fun hlt => ?_) (fun hlt => ?_)
  · have hlt' : j < xs.length := by omega
    refine Or.elim (Sj.flat_ (flat_encI _)) (fun q => ?_) fun q => ?_
    · have := congrArg List.length q.2.1
      simp only [List.length_map, hml, List.length_nil] at this
      omega
    refine Exists.elim q fun id q => ?_
    have hv := q.1
    have Sk := q.2
    clear q
    rw [List.length_map, hml] at hv
    subst hv
    have hid := Sk.blk 0 rfl
    have st := storeH_row (h := hp) (id := id) (n := xs.length) (i := j) (sz := 1) (x := .int .i64 (k + j)) hid (by simpa using hml) hlt' (fun e he => by obtain ⟨x, _, rfl⟩ := List.mem_map.1 he; rfl) rfl
    have e2 : ((mkI k j ++ xs.drop j).map encI).set j (V.cells (V.int .i64 (k + j))) = (mkI k (j + 1) ++ xs.drop (j + 1)).map encI := by
      rw [show V.cells (V.int .i64 (k + j)) = encI (k + j) from rfl, ← List.map_set]
      congr 1
      rw [List.set_append_right _ _ (by rw [mkI_len]; omega), mkI_len, Nat.sub_self, List.drop_eq_getElem_cons hlt', List.set_cons_zero, mkI_succ, List.append_assoc]; rfl
    have Sn := Sk.setK (((mkI k j ++ xs.drop j).map encI).set j (V.cells (V.int .i64 (k + j))))
    rw [e2] at Sn st
    simp (disch := omega) only [go_sem, e0, e1, e5, ovn, lenv, st]
    refine nextP_intro (xs.length - (j + 1)) (by omega) ⟨j + 1, by omega, rfl, by simp (disch := omega) only [go_sem, e0, e1, e5, ovn, lenv, st], by simp (disch := omega) only [go_sem, e0, e1, e5, ovn, lenv, st]; exact congrArg (V.int .i64) (by omega), by simp (disch := omega) only [go_sem, e0, e1, e5, ovn, lenv, st] <;> rfl, ?_⟩
    exact Sn.ofFlat (sz := 1) (n := xs.length) (by simp [mkI_len]; omega) (flat_encI _)
  · have : j = xs.length := by omega
    subst this
    rw [List.drop_length, List.append_nil] at Sj
    simp (disch := omega) only [go_sem, e0, e1, e5, ovn, lenv]
    exact Sj
theorem heldIntS_c (n : Nat) (k : Int) (hx : n ≤ 1000000000000000) (hk : 0 ≤ k ∧ k ≤ 1000000000000000000) : CP Try.prog 40 [.lst 1 ((mkI k n).map encI), .int .i64 k] (.int .i64 (k + n)) [] := by
  have hml := mkI_len k n
  refine CP.by rfl mixed (cfn_ok Try.func40 ok40) rfl ?_
  simp (disch := omega) only [s40, go_sem, encI, hml]
  refine loopP_intro (fun m s => ∃ j : Nat, j ≤ n ∧ m = n - j ∧ s.e 0 = .lst 1 ((mkI k n).map encI) ∧ s.e 1 = .int .i64 (k + j) ∧ s.e 5 = .int .i64 j) n ⟨0, by omega, by omega, rfl, by simp (disch := omega) only [go_sem, encI, hml] <;> simp, rfl⟩ ?_
  rintro m e hp ⟨j, hj, rfl, e0, e1, e5⟩
  simp only at e0 e1 e5
  simp (disch := omega) only [go_sem, e0, e1, e5, encI, hml]
  refine condP_dec (fun hlt => ?_) (fun hlt => ?_)
  · have hlt' : j < (mkI k n).length := by omega
    have hm : (mkI k n)[j] = k + (j : Int) := by simp [mkI]
    simp (disch := omega) only [go_sem, hm, e0, e1, e5, encI, hml]
    refine nextP_intro (n - (j + 1)) (by omega) ⟨j + 1, by omega, rfl, ?_, ?_, ?_⟩
    · simp (disch := omega) only [go_sem, e0, e1, e5, encI, hml]
    · simp (disch := omega) only [go_sem, e0, e1, e5, encI, hml] <;> exact congrArg (V.int .i64) (by omega)
    · simp (disch := omega) only [go_sem, e0, e1, e5, encI, hml] <;> rfl
  · simp (disch := omega) only [go_sem, e0, e1, e5, encI, hml]
    have : j = n := by omega
    subst this
    rfl
theorem Sep.noH {h : Heap} {L : List It} (S : Sep h L) (n : Nat) {sz : Nat} {ys : Blk} {v : V} (e : L[n]? = some (.v (.lst sz ys) v)) : V.noHole v = true := by
  obtain ⟨i, o⟩ := S.lst n e
  rcases Owns.lst_.1 o with ⟨rfl, _⟩ | ⟨_, _, _, rfl, _⟩ <;> rfl
end Go.Av
