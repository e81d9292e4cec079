/- Configure, both sides. No condition. -/
import Derived.Test.YtdlanjhcabcagaaD7Dev
namespace Go.Av
open Go.Proofs Go.RowKit
set_option linter.unusedVariables false
set_option linter.unusedSimpArgs false
set_option maxRecDepth 100000
set_option maxHeartbeats 4000000
theorem Sep.goDev {P : Program} {f : FuncId} {args args' : List V} {d : Device} {h : Heap} {L : List It} {K : V → Heap → Prop} (S : Sep h L) (hf : F P f args' (.agg (encDevice d))) (hs : Snaps h args args')
    (hk : ∀ vr vl h', Ext h h' → Sep h' (.v (.lst 1 (d.regs.map encI)) vr :: .v (.lst 2 (d.list.map encSetting)) vl :: L) → (V.one vr = true ∧ V.nohole vr = vr ∧ V.cells vr = [vr]) → (V.one vl = true ∧ V.nohole vl = vl ∧ V.cells vl = [vl]) → K (.agg [vr, vl]) h') : @callP P f args h ⟨K⟩ :=
  S.go hf hs fun r h' x S => by
    obtain ⟨vr, vl, rfl, S1⟩ := S.openD
    exact hk vr vl h' x S1 (S1.vv 0 rfl) (S1.vv 1 rfl)
theorem refs_dev1 (n : Nat) (d : Device) : V.refsL n [.agg (encDevice d)] = true := by simp only [V.refsL, refs_D, Bool.and_true]
theorem refs_set1 (n : Nat) (xs : List Setting) : V.refsL n [.lst 2 (xs.map encSetting)] = true := by simp only [V.refsL, refs_GS, Bool.and_true]
theorem copyDev_f (d : Device) (hr : d.regs.length ≤ 1048576) (hl : d.list.length ≤ 1048576) : F Try.prog 22 [.agg (encDevice d)] (.agg (encDevice d)) := by
  have S0 : Sep ([[[.lst 1 (d.regs.map encI), .lst 2 (d.list.map encSetting)]], [[.nils, .nils]]] : Heap) [.k 1 [[.nils, .nils]]] := (((Sep.nil []).newK _).newK _).drop 1
  refine C.by mixed (cfn_ok Try.func22 ok22) rfl ?_
  simp (disch := omega) only [s22, go_sem, encDevice]
  refine S0.goLst (cloneI_f d.regs hr) (.same (refs_int1 _ _)) fun v1 h1 x1 S1 o1 n1 c1 => ?_
  have b0 := x1.get (i := 0) rfl
  simp (disch := omega) only [go_sem, o1, n1, c1, b0]
  refine S1.goLst (cloneG_f d.list hl) (.same (refs_set1 _ _)) fun v2 h2 x2 S2 o2 n2 c2 => ?_
  have b1 := S2.blk 2 rfl
  have b1' : ∀ t, (h2.set 1 t)[1]? = some t := fun t => heap_set t b1
  simp (disch := omega) only [go_sem, o1, n1, c1, o2, n2, c2, b1, b1', storeH, storeB, splice]
  exact (((S2.pull 2).setK _).drop1.sw).retD
theorem appendN {h : Heap} {sz bytes m : Nat} {x : V} {xs : Blk} (hx : elemsOf h sz x = some xs) (hm : xs.length = m) (hl : m * bytes ≤ 140737488355328) : appendH h sz bytes .nils x = some (.own h.length sz 0 m m, h ++ [xs]) := by
  subst hm; simp [appendH, hx, hl]
theorem append0' {h : Heap} {sz bytes m : Nat} {x : V} {xs : Blk} (hx : elemsOf (h ++ [[]]) sz x = some xs) (hm : xs.length = m) (hl : m * bytes ≤ 140737488355328) : appendH (h ++ [[]]) sz bytes (.own h.length sz 0 0 0) x = some (.own h.length sz 0 m m, h ++ [xs]) := by
  have := appendH_n (h := h ++ [[]]) (sz := sz) (bytes := bytes) (id := h.length) (n := 0) (m := m) (b := []) (xs := xs) (x := x) (by simp) rfl hx hm (by simpa using hl)
  rw [this]; simp
theorem l26Copy_f (d : Device) (hr : d.regs.length ≤ 1048576) (hl : d.list.length ≤ 1048576) : F Try.prog 29 [.agg (encDevice d)] (.agg (encDevice d)) := by
  have S0 : Sep ([[[.lst 1 (d.regs.map encI), .lst 2 (d.list.map encSetting)]], [[.nils, .nils]]] : Heap) [.k 1 [[.nils, .nils]]] := (((Sep.nil []).newK _).newK _).drop 1
  refine C.by mixed (cfn_ok Try.func29 ok29) rfl ?_
  have a1 := appendN (h := [[[.lst 1 (d.regs.map encI), .lst 2 (d.list.map encSetting)]], [[.nils, .nils]]]) (sz := 1) (bytes := 8) (x := .lst 1 (d.regs.map encI)) (xs := d.regs.map encI) (m := d.regs.length) (by simp [elemsOf]) (by simp) (by omega)
  have a2 := appendN (h := [[[.lst 1 (d.regs.map encI), .lst 2 (d.list.map encSetting)]], [[.nils, .nils]], d.regs.map encI]) (sz := 2) (bytes := 16) (x := .lst 2 (d.list.map encSetting)) (xs := d.list.map encSetting) (m := d.list.length) (by simp [elemsOf]) (by simp) (by omega)
  simp (disch := omega) only [s29, go_sem, encDevice, a1, a2, storeH, storeB, splice]
  have S1 := ((S0.newK (d.regs.map encI)).ofFlat (sz := 1) (n := d.regs.length) (by simp) (flat_encI _))
  have S2 := ((S1.newK (d.list.map encSetting)).ofFlat (sz := 2) (n := d.list.length) (by simp) (flat_G _))
  have S3 := ((S2.pull 2).setK [[.own 2 1 0 d.regs.length d.regs.length, .own 3 2 0 d.list.length d.list.length]]).drop1.sw
  exact S3.retD
def geS (s t : Setting) : Bool := decide (s.reg ≤ t.reg)
def kM (l : List Setting) (s : Setting) : Nat := l.findIdx (geS s)
def hitM (l : List Setting) (s : Setting) : Bool := match l[kM l s]? with
  | some t => decide (t.reg = s.reg)
  | none => false
def putM (l : List Setting) (s : Setting) : List Setting := l.take (kM l s) ++ s :: l.drop (if hitM l s = true then kM l s + 1 else kM l s)
theorem kM_at {l : List Setting} {s : Setting} {k : Nat} (hk : k < l.length) (h : ¬ l[k].reg < s.reg) (ha : ∀ j (hj : j < l.length), j < k → l[j].reg < s.reg) : kM l s = k :=
  (List.findIdx_eq hk).2 ⟨by simp [geS]; omega, fun j hj => by have := ha j (by omega) hj; simp [geS]; omega⟩
theorem kM_end {l : List Setting} {s : Setting} (ha : ∀ j (hj : j < l.length), l[j].reg < s.reg) : kM l s = l.length :=
  List.findIdx_eq_length.2 fun t ht => by
    obtain ⟨j, hj, rfl⟩ := List.getElem_of_mem ht
    have := ha j hj; simp [geS]; omega
theorem hit_at {l : List Setting} {s : Setting} {k : Nat} (hk : k < l.length) (h : kM l s = k) : hitM l s = decide (l[k].reg = s.reg) := by
  unfold hitM; rw [h, List.getElem?_eq_getElem hk]
theorem hit_end {l : List Setting} {s : Setting} (h : kM l s = l.length) : hitM l s = false := by
  unfold hitM; rw [h, List.getElem?_eq_none (by omega)]
theorem put_steps {hp : Heap} {A xs : Blk} {c : List V} {k m : Nat} (hA : A.length = k) (hm : xs.length = m) (hb : (k + 1 + m) * 16 ≤ 140737488355328) :
    appendH (hp ++ [A, [c]]) 2 16 (.own hp.length 2 0 k k) (.own (hp.length + 1) 2 0 1 1) = some (.own hp.length 2 0 (k + 1) (k + 1), hp ++ [A ++ [c], [c]]) ∧ appendH (hp ++ [A ++ [c], [c]]) 2 16 (.own hp.length 2 0 (k + 1) (k + 1)) (.lst 2 xs) = some (.own hp.length 2 0 (k + 1 + m) (k + 1 + m), hp ++ [A ++ [c] ++ xs, [c]]) := by
  constructor
  · have := append1 (h := hp ++ [A]) (sz := 2) (bytes := 16) (id := hp.length) (n := k) (b := A) (c := c) (by simp) hA (by omega)
    simpa using this
  · have := appendH_n (h := hp ++ [A ++ [c], [c]]) (sz := 2) (bytes := 16) (id := hp.length) (n := k + 1) (m := m) (b := A ++ [c]) (xs := xs) (x := .lst 2 xs) (by simp) (by simp [hA]) (by simp [elemsOf]) hm hb
    rw [this]; simp
theorem putM_eq {l : List Setting} {s : Setting} {k : Nat} (h : kM l s = k) : putM l s = l.take k ++ s :: l.drop (if hitM l s = true then k + 1 else k) := by subst h; rfl
theorem put_own {hp : Heap} {l : List Setting} {s : Setting} {k k' : Nat} {c : Blk} (hk : k' ≤ l.length) (h : putM l s = l.take k ++ s :: l.drop k') (hkk : k ≤ l.length := by omega) :
    ∃ ids : List Nat, ids.Nodup ∧ OwnsR (hp ++ [(l.take k).map encSetting ++ [.int .i64 s.reg, .int .i64 s.val] :: (l.drop k').map encSetting, c]) (.lst 2 ((putM l s).map encSetting)) (.own hp.length 2 0 (k + 1 + (l.length - k')) (k + 1 + (l.length - k'))) ids :=
  ⟨[hp.length], by simp, Owns.own_flat (by simp [h, encSetting]) (by simp [h]; omega) (flat_G _)⟩
theorem l26Put_f (l : List Setting) (s : Setting) (hl : l.length ≤ 1048576) : F Try.prog 33 [.lst 2 (l.map encSetting), .agg (encSetting s)] (.lst 2 ((putM l s).map encSetting)) := by
  refine C.by mixed (cfn_ok Try.func33 ok33) rfl ?_
  simp (disch := omega) only [s33, go_sem, encSetting]
  refine loopP_intro (fun m st => ∃ k : Nat, k ≤ l.length ∧ m = l.length - k ∧ st.e 0 = .lst 2 (l.map encSetting) ∧ st.e 3 = .ptr 0 1 0 0 ∧ st.e 5 = .int .i64 k ∧ st.h[0]? = some [[.int .i64 s.reg, .int .i64 s.val]] ∧ ∀ j (hj : j < l.length), j < k → l[j].reg < s.reg) l.length ⟨0, by omega, by omega, rfl, by simp (disch := omega) only [go_sem, encSetting], by simp (disch := omega) only [go_sem, encSetting] <;> rfl, rfl, fun j _ h => absurd h (by omega)⟩ ?_
  rintro m e hp ⟨k, hk, rfl, e0, e3, e5, h0, hall⟩
  simp only at e0 e3 e5 h0
  simp (disch := omega) only [go_sem, e0, e3, e5, h0, List.getElem?_map, encSetting]
  refine condP_dec (fun hlt => ?_) (fun hlt => ?_)
  · have hlt' : k < l.length := by omega
    simp (disch := omega) only [go_sem, e0, e3, e5, h0, List.getElem?_map, encSetting]
    refine condP_dec (fun hr => ?_) (fun hr => ?_)
    · simp (disch := omega) only [go_sem, e0, e3, e5, h0]
      refine nextP_intro (l.length - (k + 1)) (by omega) ⟨k + 1, by omega, rfl, by simp (disch := omega) only [go_sem, e0, e3, e5, h0], by simp (disch := omega) only [go_sem, e0, e3, e5, h0], by simp (disch := omega) only [go_sem, e0, e3, e5, h0]; rfl, h0, fun j hj hjk => ?_⟩
      by_cases q : j = k
      · subst q; exact hr
      · exact hall j hj (by omega)
    · have hkm := kM_at hlt' hr hall
      have p1 := append0' (h := hp) (sz := 2) (bytes := 16) (x := .lst 2 ((l.take k).map encSetting)) (xs := (l.take k).map encSetting) (m := k) (by simp [elemsOf]) (by simp; omega) (by omega)
      simp (disch := omega) only [go_sem, e0, e3, e5, h0, List.getElem?_map, encSetting, p1]
      have h0' := fun t => heap_app (h' := t) h0
      have p2 := fun (xs : Blk) (m : Nat) (hm : xs.length = m) (hb : m ≤ 1048576) => put_steps (hp := hp) (A := (l.take k).map encSetting) (xs := xs) (c := [.int .i64 s.reg, .int .i64 s.val]) (k := k) (m := m) (by simp; omega) hm (by omega)
      have p21 := (p2 [] 0 rfl (by omega)).1
      simp (disch := omega) only [go_sem, e0, e3, e5, h0, h0', List.getElem?_map, encSetting, p1, p21]
      have p22 := fun k' (hk' : k ≤ k') => (p2 ((l.drop k').map encSetting) (l.length - k') (by simp) (by omega)).2
      have hpm := putM_eq hkm
      refine condP_dec (fun he => ?_) (fun he => ?_)
      · have p23 := p22 (k + 1) (by omega)
        have hkt : ((k : Int) + 1).toNat = k + 1 := by omega
        have hh := hit_at hlt' hkm
        rw [decide_eq_true he] at hh
        simp (disch := omega) only [go_sem, hkt, e0, e3, e5, h0, h0', List.getElem?_map, encSetting, p1, p21, p23]
        exact put_own (k' := k + 1) hlt' (by rw [hpm, if_pos hh])
      · have p23 := p22 k (by omega)
        have hh := hit_at hlt' hkm
        rw [decide_eq_false he] at hh
        simp (disch := omega) only [go_sem, e0, e3, e5, h0, h0', List.getElem?_map, encSetting, p1, p21, p23]
        exact put_own (k' := k) (by omega) (by rw [hpm, hh, if_neg (by simp)])
  · have hkm : kM l s = l.length := kM_end fun j hj => hall j hj (by omega)
    have hke : k = l.length := by omega
    have h0' := fun t => heap_app (h' := t) h0
    have p1 := append0' (h := hp) (sz := 2) (bytes := 16) (x := .lst 2 ((l.take k).map encSetting)) (xs := (l.take k).map encSetting) (m := k) (by simp [elemsOf]) (by simp; omega) (by omega)
    have p2 := fun (xs : Blk) (m : Nat) (hm : xs.length = m) (hb : m ≤ 1048576) => put_steps (hp := hp) (A := (l.take k).map encSetting) (xs := xs) (c := [.int .i64 s.reg, .int .i64 s.val]) (k := k) (m := m) (by simp; omega) hm (by omega)
    have p21 := (p2 [] 0 rfl (by omega)).1
    have p23 := (p2 ((l.drop k).map encSetting) (l.length - k) (by simp) (by omega)).2
    have hpm := putM_eq (hkm.trans hke.symm)
    have hh := hit_end hkm
    simp (disch := omega) only [go_sem, e0, e3, e5, h0, h0', List.getElem?_map, encSetting, p1, p21, p23]
    exact put_own (k' := k) (by omega) (by rw [hpm, hh, if_neg (by simp)])
end Go.Av
