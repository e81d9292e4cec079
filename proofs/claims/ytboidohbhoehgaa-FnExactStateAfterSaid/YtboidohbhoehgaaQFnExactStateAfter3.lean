/- Functions that the law FnExactStateAfter reaches: of each a Lean function and the proof that a call comes to just its answer. Laid by program. -/
import Derived.Test.YtboidohbhoehgaaQFnExactStateAfter2
namespace Go.Proofs.Ytboidohbhoehgaa.QFnExactStateAfter
open Go.RowKit Go.Proofs.YtboidohbhoehgaaW.PrintWords Go.Proofs.YtboidohbhoehgaaW.PrintLast Go.Proofs.YtboidohbhoehgaaW.PrintMore
attribute [local go_sem] max2_int min2_int max_two min_two max_three min_three max_four min_four   -- for this text's walks alone
set_option linter.unusedVariables false
set_option linter.unusedSimpArgs false

/-! ### impl_SubValues: function 73 -/
def impl_SubValues.f (a0 : Int) (a1 : Int) : Option (Int) := (impl_Saturate.f a0).bind fun t220 => ((impl_Saturate.f a1).bind fun t221 => ((impl_Saturate.f (wrap64 (t220 - t221))).bind fun t222 => (some t222)))
set_option maxHeartbeats 8000000 in
set_option maxRecDepth 100000 in
theorem impl_SubValues.calls (a0 : Int) (a1 : Int) (r : Int) (w : World) (h : impl_SubValues.f a0 a1 = some r) :
    Calls Try.prog 73 #[.int .i64 a0, .int .i64 a1] w fun e w' => e = .returned (.int .i64 r) ∧ Below w.heap.size w w' := by
  have HB := Aside0.mk (Below.refl w.heap.size w)
  have H : ((impl_Saturate.f a0).bind fun t220 => ((impl_Saturate.f a1).bind fun t221 => ((impl_Saturate.f (wrap64 (t220 - t221))).bind fun t222 => (some t222)))) = some r := h
  clear h
  replace H := Option.bind_eq_some_iff.mp H
  obtain ⟨t220, A30, H⟩ := H
  replace H : ((impl_Saturate.f a1).bind fun t221 => ((impl_Saturate.f (wrap64 (t220 - t221))).bind fun t222 => (some t222))) = some r := H
  have A3 := Aside0.mk A30
  clear A30
  replace H := Option.bind_eq_some_iff.mp H
  obtain ⟨t221, A40, H⟩ := H
  replace H : ((impl_Saturate.f (wrap64 (t220 - t221))).bind fun t222 => (some t222)) = some r := H
  have A4 := Aside0.mk A40
  clear A40
  replace H := Option.bind_eq_some_iff.mp H
  obtain ⟨t222, A50, H⟩ := H
  replace H : (some t222) = some r := H
  have A5 := Aside0.mk A50
  clear A50
  obtain rfl := Option.some.inj H
  go_enter Try.func73, Try.ntmps73
  go_wp2_with (first | ((with_reducible refine gate_callee (f := 104) rfl ?_); refine goesL_ (some 6) rfl rfl Try.func104 (by kernel_rfl) rfl #[.int .i64 a0] rfl (by (try simp only [List.map_toArray, List.map_cons, List.map_nil]); first | done | rfl | (simp only [List.length_drop, List.length_take]; rfl)) ?_; (with_reducible refine (impl_Saturate.calls a0 t220 _ A3.out).mono ?_); rintro e w6 ⟨rfl, hb⟩; refine ⟨_, rfl, ?_⟩; have n0_ := Aside0.mk (below_step (by repeat (first | (with_reducible first | exact HB.out | apply below_alloc | apply pw_below_drewN | apply below_drew1) | exact HB.out)) hb); clear HB; have HB := n0_; clear n0_; (try clear hb); (try clear hb2); (try clear hk); (try clear hi)) | ((with_reducible refine gate_callee (f := 104) rfl ?_); refine goesL_ (some 8) rfl rfl Try.func104 (by kernel_rfl) rfl #[.int .i64 a1] rfl (by (try simp only [List.map_toArray, List.map_cons, List.map_nil]); first | done | rfl | (simp only [List.length_drop, List.length_take]; rfl)) ?_; (with_reducible refine (impl_Saturate.calls a1 t221 _ A4.out).mono ?_); rintro e w7 ⟨rfl, hb⟩; refine ⟨_, rfl, ?_⟩; have n0_ := Aside0.mk (below_step (by repeat (first | (with_reducible first | exact HB.out | apply below_alloc | apply pw_below_drewN | apply below_drew1) | exact HB.out)) hb); clear HB; have HB := n0_; clear n0_; (try clear hb); (try clear hb2); (try clear hk); (try clear hi)) | ((with_reducible refine gate_callee (f := 104) rfl ?_); refine goesL_ (some 10) rfl rfl Try.func104 (by kernel_rfl) rfl #[.int .i64 (wrap64 (t220 - t221))] rfl (by (try simp only [List.map_toArray, List.map_cons, List.map_nil]); first | done | rfl | (simp only [List.length_drop, List.length_take]; rfl)) ?_; (with_reducible refine (impl_Saturate.calls (wrap64 (t220 - t221)) t222 _ A5.out).mono ?_); rintro e w8 ⟨rfl, hb⟩; refine ⟨_, rfl, ?_⟩; have n0_ := Aside0.mk (below_step (by repeat (first | (with_reducible first | exact HB.out | apply below_alloc | apply pw_below_drewN | apply below_drew1) | exact HB.out)) hb); clear HB; have HB := n0_; clear n0_; (try clear hb); (try clear hb2); (try clear hk); (try clear hi)))
  go_ret
  exact ⟨by first | rfl | (simp [errW_none, errW_some] <;> rfl) | (simp [*, errW_none, errW_some] <;> rfl), by repeat (first | (with_reducible first | exact HB.out | apply below_alloc | apply pw_below_drewN | apply below_drew1) | exact HB.out)⟩

/-! ### impl_MulValues: function 74 -/
def impl_MulValues.f (a0 : Int) (a1 : Int) : Option (Int) := (impl_Saturate.f a0).bind fun t223 => ((impl_Saturate.f a1).bind fun t224 => ((impl_Saturate.f (wrap64 (t223 * t224))).bind fun t225 => (some t225)))
set_option maxHeartbeats 8000000 in
set_option maxRecDepth 100000 in
theorem impl_MulValues.calls (a0 : Int) (a1 : Int) (r : Int) (w : World) (h : impl_MulValues.f a0 a1 = some r) :
    Calls Try.prog 74 #[.int .i64 a0, .int .i64 a1] w fun e w' => e = .returned (.int .i64 r) ∧ Below w.heap.size w w' := by
  have HB := Aside0.mk (Below.refl w.heap.size w)
  have H : ((impl_Saturate.f a0).bind fun t223 => ((impl_Saturate.f a1).bind fun t224 => ((impl_Saturate.f (wrap64 (t223 * t224))).bind fun t225 => (some t225)))) = some r := h
  clear h
  replace H := Option.bind_eq_some_iff.mp H
  obtain ⟨t223, A30, H⟩ := H
  replace H : ((impl_Saturate.f a1).bind fun t224 => ((impl_Saturate.f (wrap64 (t223 * t224))).bind fun t225 => (some t225))) = some r := H
  have A3 := Aside0.mk A30
  clear A30
  replace H := Option.bind_eq_some_iff.mp H
  obtain ⟨t224, A40, H⟩ := H
  replace H : ((impl_Saturate.f (wrap64 (t223 * t224))).bind fun t225 => (some t225)) = some r := H
  have A4 := Aside0.mk A40
  clear A40
  replace H := Option.bind_eq_some_iff.mp H
  obtain ⟨t225, A50, H⟩ := H
  replace H : (some t225) = some r := H
  have A5 := Aside0.mk A50
  clear A50
  obtain rfl := Option.some.inj H
  go_enter Try.func74, Try.ntmps74
  go_wp2_with (first | ((with_reducible refine gate_callee (f := 104) rfl ?_); refine goesL_ (some 6) rfl rfl Try.func104 (by kernel_rfl) rfl #[.int .i64 a0] rfl (by (try simp only [List.map_toArray, List.map_cons, List.map_nil]); first | done | rfl | (simp only [List.length_drop, List.length_take]; rfl)) ?_; (with_reducible refine (impl_Saturate.calls a0 t223 _ A3.out).mono ?_); rintro e w6 ⟨rfl, hb⟩; refine ⟨_, rfl, ?_⟩; have n0_ := Aside0.mk (below_step (by repeat (first | (with_reducible first | exact HB.out | apply below_alloc | apply pw_below_drewN | apply below_drew1) | exact HB.out)) hb); clear HB; have HB := n0_; clear n0_; (try clear hb); (try clear hb2); (try clear hk); (try clear hi)) | ((with_reducible refine gate_callee (f := 104) rfl ?_); refine goesL_ (some 8) rfl rfl Try.func104 (by kernel_rfl) rfl #[.int .i64 a1] rfl (by (try simp only [List.map_toArray, List.map_cons, List.map_nil]); first | done | rfl | (simp only [List.length_drop, List.length_take]; rfl)) ?_; (with_reducible refine (impl_Saturate.calls a1 t224 _ A4.out).mono ?_); rintro e w7 ⟨rfl, hb⟩; refine ⟨_, rfl, ?_⟩; have n0_ := Aside0.mk (below_step (by repeat (first | (with_reducible first | exact HB.out | apply below_alloc | apply pw_below_drewN | apply below_drew1) | exact HB.out)) hb); clear HB; have HB := n0_; clear n0_; (try clear hb); (try clear hb2); (try clear hk); (try clear hi)) | ((with_reducible refine gate_callee (f := 104) rfl ?_); refine goesL_ (some 10) rfl rfl Try.func104 (by kernel_rfl) rfl #[.int .i64 (wrap64 (t223 * t224))] rfl (by (try simp only [List.map_toArray, List.map_cons, List.map_nil]); first | done | rfl | (simp only [List.length_drop, List.length_take]; rfl)) ?_; (with_reducible refine (impl_Saturate.calls (wrap64 (t223 * t224)) t225 _ A5.out).mono ?_); rintro e w8 ⟨rfl, hb⟩; refine ⟨_, rfl, ?_⟩; have n0_ := Aside0.mk (below_step (by repeat (first | (with_reducible first | exact HB.out | apply below_alloc | apply pw_below_drewN | apply below_drew1) | exact HB.out)) hb); clear HB; have HB := n0_; clear n0_; (try clear hb); (try clear hb2); (try clear hk); (try clear hi)))
  go_ret
  exact ⟨by first | rfl | (simp [errW_none, errW_some] <;> rfl) | (simp [*, errW_none, errW_some] <;> rfl), by repeat (first | (with_reducible first | exact HB.out | apply below_alloc | apply pw_below_drewN | apply below_drew1) | exact HB.out)⟩


/-! ### impl_StepCode: function 35 -/
def impl_StepCode.j0 : Nat → List (S94) → List Int → List Int → Bool → Option (List Int × Bool)
  | 0, _, _, _, _ => none
  | k + 1, x0, x1, x6, x40 => if x40 = true then (some (x6, false)) else (if 4 < (x1.length : Int) then (if 0 ≤ (rd x1 4) then (if (rd x1 4) < (x0.length : Int) then (if 4 < (x6.length : Int) then ((some (x6.set (4 : Int).toNat (wrap64 ((rd x6 4) + 1)) : List Int)).bind fun y240 => (if 5 < (x6.length : Int) then ((some (y240.set (5 : Int).toNat (wrap64 ((rd y240 5) + 1)) : List Int)).bind fun y242 => (if ((rd_T94 x0 (rd x1 4)).f0) = 1 then (if 0 ≤ ((rd_T94 x0 (rd x1 4)).f1) then (if ((rd_T94 x0 (rd x1 4)).f1) < (x6.length : Int) then (some ((y242.set (((rd_T94 x0 (rd x1 4)).f1) : Int).toNat ((rd_T94 x0 (rd x1 4)).f2)), true)) else (none)) else (none)) else (if ((rd_T94 x0 (rd x1 4)).f0) = 2 then (if 0 ≤ ((rd_T94 x0 (rd x1 4)).f1) then (if ((rd_T94 x0 (rd x1 4)).f1) < (x1.length : Int) then (if 0 ≤ ((rd_T94 x0 (rd x1 4)).f2) then (if ((rd_T94 x0 (rd x1 4)).f2) < (x1.length : Int) then ((impl_AddValues.f (rd x1 ((rd_T94 x0 (rd x1 4)).f1)) (rd x1 ((rd_T94 x0 (rd x1 4)).f2))).bind fun t246 => (if ((rd_T94 x0 (rd x1 4)).f1) < (x6.length : Int) then (some ((y242.set (((rd_T94 x0 (rd x1 4)).f1) : Int).toNat t246), true)) else (none))) else (none)) else (none)) else (none)) else (none)) else (if ((rd_T94 x0 (rd x1 4)).f0) = 3 then (if 0 ≤ ((rd_T94 x0 (rd x1 4)).f1) then (if ((rd_T94 x0 (rd x1 4)).f1) < (x1.length : Int) then (if 0 ≤ ((rd_T94 x0 (rd x1 4)).f2) then (if ((rd_T94 x0 (rd x1 4)).f2) < (x1.length : Int) then ((impl_SubValues.f (rd x1 ((rd_T94 x0 (rd x1 4)).f1)) (rd x1 ((rd_T94 x0 (rd x1 4)).f2))).bind fun t250 => (if ((rd_T94 x0 (rd x1 4)).f1) < (x6.length : Int) then (some ((y242.set (((rd_T94 x0 (rd x1 4)).f1) : Int).toNat t250), true)) else (none))) else (none)) else (none)) else (none)) else (none)) else (if ((rd_T94 x0 (rd x1 4)).f0) = 4 then (if 0 ≤ ((rd_T94 x0 (rd x1 4)).f1) then (if ((rd_T94 x0 (rd x1 4)).f1) < (x1.length : Int) then (if 0 ≤ ((rd_T94 x0 (rd x1 4)).f2) then (if ((rd_T94 x0 (rd x1 4)).f2) < (x1.length : Int) then ((impl_MulValues.f (rd x1 ((rd_T94 x0 (rd x1 4)).f1)) (rd x1 ((rd_T94 x0 (rd x1 4)).f2))).bind fun t254 => (if ((rd_T94 x0 (rd x1 4)).f1) < (x6.length : Int) then (some ((y242.set (((rd_T94 x0 (rd x1 4)).f1) : Int).toNat t254), true)) else (none))) else (none)) else (none)) else (none)) else (none)) else (if ((rd_T94 x0 (rd x1 4)).f0) = 5 then (if 0 ≤ ((rd_T94 x0 (rd x1 4)).f1) then (if ((rd_T94 x0 (rd x1 4)).f1) < (x1.length : Int) then (if (rd x1 ((rd_T94 x0 (rd x1 4)).f1)) = 0 then (some (y242, true)) else (some ((y242.set (4 : Int).toNat ((rd_T94 x0 (rd x1 4)).f2)), true))) else (none)) else (none)) else (some (y242, true)))))))) else (none))) else (none)) else (none)) else (none)) else (none))
def impl_StepCode.f (k : Nat) (l0 : List (S94)) (l1 : List Int) : Option (List Int × Bool) := (slices_Clone_int_int.f l1).bind fun t226 => ((impl_CodeOk.f k l0).bind fun t229 => (if t229 = true then (if (l1.length : Int) = 6 then (if 4 ≤ (l1.length : Int) then ((impl_areValues.f k (l1.take 4)).bind fun t231 => (if t231 = true then (if 4 < (l1.length : Int) then ((impl_within.f (rd l1 4) 0 (wrap64 ((l0.length : Int) - 1))).bind fun t233 => (if t233 = true then (if 5 < (l1.length : Int) then ((impl_within.f (rd l1 5) 0 100000).bind fun t235 => (impl_StepCode.j0 k l0 l1 t226 (!t235))) else (none)) else (impl_StepCode.j0 k l0 l1 t226 true))) else (none)) else (impl_StepCode.j0 k l0 l1 t226 true))) else (none)) else (impl_StepCode.j0 k l0 l1 t226 true)) else (impl_StepCode.j0 k l0 l1 t226 true)))
theorem impl_StepCode.mono_l : ∀ k, (∀ y0 y1 y2 y3, LeO (impl_StepCode.j0 k y0 y1 y2 y3) (impl_StepCode.j0 (k + 1) y0 y1 y2 y3))
  | 0 => fun _ _ _ _ r h => by simp [impl_StepCode.j0] at h
  | k + 1 => by
    have ih0 := impl_StepCode.mono_l k
    · intro y0 y1 y2 y3
      unfold impl_StepCode.j0
      repeat' first
      | (with_reducible exact ih0 _ _ _ _)
      | (with_reducible exact impl_CodeOk.mono _ _)
      | (with_reducible exact impl_areValues.mono _ _)
      | (with_reducible exact LeO.refl _)
      | (with_reducible exact LeO.none _)
      | (with_reducible refine LeO.ite ?_ ?_)
      | (with_reducible refine LeO.bind ?_ (fun _ => ?_))
      | exact ih0 _ _ _ _
      | exact impl_CodeOk.mono _ _
      | exact impl_areValues.mono _ _
      | exact LeO.none _
      | refine LeO.ite ?_ ?_
      | refine LeO.bind ?_ (fun _ => ?_)
theorem impl_StepCode.mono : ∀ a0 a1 k, LeO (impl_StepCode.f k a0 a1) (impl_StepCode.f (k + 1) a0 a1) := by
  intro a0 a1 k
  have ih0 := impl_StepCode.mono_l k
  unfold impl_StepCode.f
  repeat' first
      | (with_reducible exact ih0 _ _ _ _)
      | (with_reducible exact impl_CodeOk.mono _ _)
      | (with_reducible exact impl_areValues.mono _ _)
      | (with_reducible exact LeO.refl _)
      | (with_reducible exact LeO.none _)
      | (with_reducible refine LeO.ite ?_ ?_)
      | (with_reducible refine LeO.bind ?_ (fun _ => ?_))
      | exact ih0 _ _ _ _
      | exact impl_CodeOk.mono _ _
      | exact impl_areValues.mono _ _
      | exact LeO.none _
      | refine LeO.ite ?_ ?_
      | refine LeO.bind ?_ (fun _ => ?_)
def impl_StepCode.T11 : Bool × List (List Nat × List Nat) := (true, [([], []), ([], []), ([1], [1]), ([], []), ([], []), ([4], [4]), ([3, 5], [3, 5]), ([6], [6]), ([], []), ([], []), ([9], [9]), ([8, 10], [8, 10]), ([11], [11]), ([7, 12], [7, 12]), ([0, 2, 0, 1, 2, 3, 4, 5, 6, 7, 8, 9, 10, 11, 12, 13], [0, 2]), ([14, 13, 13, 0, 1, 2, 3, 4, 5, 6, 7, 8, 9, 10, 11, 12, 13], [13, 14])])
def impl_StepCode.B11 : List Nat := [0, 0, 2, 0, 0, 16, 56, 120, 0, 0, 512, 1792, 3840, 8184, 16383, 32767]
theorem impl_StepCode.tab11 : rtab .any (opsOf Try.f35 11) = impl_StepCode.T11 := by kernel_rfl
theorem impl_StepCode.bits11 : waitsOk impl_StepCode.T11.2 impl_StepCode.B11 = true := by kernel_rfl
def impl_StepCode.T13 : Bool × List (List Nat × List Nat) := (true, [([], []), ([], []), ([1], [1]), ([], []), ([], []), ([4], [4]), ([3, 5], [3, 5]), ([6], [6]), ([], []), ([], []), ([9], [9]), ([8, 10], [8, 10]), ([11], [11]), ([7, 12], [7, 12]), ([0, 2, 0, 1, 2, 3, 4, 5, 6, 7, 8, 9, 10, 11, 12, 13], [0, 2]), ([14, 13, 13, 0, 1, 2, 3, 4, 5, 6, 7, 8, 9, 10, 11, 12, 13], [13, 14])])
def impl_StepCode.B13 : List Nat := [0, 0, 2, 0, 0, 16, 56, 120, 0, 0, 512, 1792, 3840, 8184, 16383, 32767]
theorem impl_StepCode.tab13 : rtab .any (opsOf Try.f35 13) = impl_StepCode.T13 := by kernel_rfl
theorem impl_StepCode.bits13 : waitsOk impl_StepCode.T13.2 impl_StepCode.B13 = true := by kernel_rfl
def impl_StepCode.T15 : Bool × List (List Nat × List Nat) := (true, [([], []), ([], []), ([1], [1]), ([], []), ([], []), ([4], [4]), ([3, 5], [3, 5]), ([6], [6]), ([], []), ([], []), ([9], [9]), ([8, 10], [8, 10]), ([11], [11]), ([7, 12], [7, 12]), ([0, 2, 0, 1, 2, 3, 4, 5, 6, 7, 8, 9, 10, 11, 12, 13], [0, 2]), ([14, 13, 13, 0, 1, 2, 3, 4, 5, 6, 7, 8, 9, 10, 11, 12, 13], [13, 14])])
def impl_StepCode.B15 : List Nat := [0, 0, 2, 0, 0, 16, 56, 120, 0, 0, 512, 1792, 3840, 8184, 16383, 32767]
theorem impl_StepCode.tab15 : rtab .any (opsOf Try.f35 15) = impl_StepCode.T15 := by kernel_rfl
theorem impl_StepCode.bits15 : waitsOk impl_StepCode.T15.2 impl_StepCode.B15 = true := by kernel_rfl
set_option maxHeartbeats 8000000 in
set_option maxRecDepth 100000 in
theorem impl_StepCode.calls (k : Nat) (A0 : Option Addr) (c0 : Nat) (l0 : List (S94)) (A1 : Option Addr) (c1 : Nat) (l1 : List Int) (r1 : List Int) (r2 : Bool) (w : World) (hr0 : Kd.C k94 w A0 l0.length l0) (hc0 : l0.length ≤ c0) (hr1 : Kd.C (Kd.int .i64) w A1 l1.length l1) (hc1 : l1.length ≤ c1) (h : impl_StepCode.f k l0 l1 = some (r1, r2)) :
    Calls Try.prog 35 #[.slice A0 l0.length c0, .slice A1 l1.length c1] w fun e w' => ∃ v0_ : Value, e = .returned (.tuple #[v0_, .bool r2]) ∧ Kd.R (Kd.int .i64) 3 w' w.heap.size (fun _ => True) v0_ r1 ∧ Below w.heap.size w w' := by
  have hu94 := Try.underlying94
  have HR0 := Aside0.mk hr0
  have HC0 := Aside0.mk hc0
  clear hr0 hc0
  have HR1 := Aside0.mk hr1
  have HC1 := Aside0.mk hc1
  clear hr1 hc1
  have HB := Aside0.mk (Below.refl w.heap.size w)
  have H : ((slices_Clone_int_int.f l1).bind fun t226 => ((impl_CodeOk.f k l0).bind fun t229 => (if t229 = true then (if (l1.length : Int) = 6 then (if 4 ≤ (l1.length : Int) then ((impl_areValues.f k (l1.take 4)).bind fun t231 => (if t231 = true then (if 4 < (l1.length : Int) then ((impl_within.f (rd l1 4) 0 (wrap64 ((l0.length : Int) - 1))).bind fun t233 => (if t233 = true then (if 5 < (l1.length : Int) then ((impl_within.f (rd l1 5) 0 100000).bind fun t235 => (impl_StepCode.j0 k l0 l1 t226 (!t235))) else (none)) else (impl_StepCode.j0 k l0 l1 t226 true))) else (none)) else (impl_StepCode.j0 k l0 l1 t226 true))) else (none)) else (impl_StepCode.j0 k l0 l1 t226 true)) else (impl_StepCode.j0 k l0 l1 t226 true)))) = some (r1, r2) := h
  clear h
  replace H := Option.bind_eq_some_iff.mp H
  obtain ⟨t226, A30, H⟩ := H
  replace H : ((impl_CodeOk.f k l0).bind fun t229 => (if t229 = true then (if (l1.length : Int) = 6 then (if 4 ≤ (l1.length : Int) then ((impl_areValues.f k (l1.take 4)).bind fun t231 => (if t231 = true then (if 4 < (l1.length : Int) then ((impl_within.f (rd l1 4) 0 (wrap64 ((l0.length : Int) - 1))).bind fun t233 => (if t233 = true then (if 5 < (l1.length : Int) then ((impl_within.f (rd l1 5) 0 100000).bind fun t235 => (impl_StepCode.j0 k l0 l1 t226 (!t235))) else (none)) else (impl_StepCode.j0 k l0 l1 t226 true))) else (none)) else (impl_StepCode.j0 k l0 l1 t226 true))) else (none)) else (impl_StepCode.j0 k l0 l1 t226 true)) else (impl_StepCode.j0 k l0 l1 t226 true))) = some (r1, r2) := H
  have A3 := Aside0.mk A30
  clear A30
  have HC4 := Aside0.mk H
  clear H
  go_enter Try.func35, Try.ntmps35
  go_upto_region 2 with (first | ((with_reducible refine gate_callee (f := 68) rfl ?_); refine goesL_ (some 9) rfl rfl Try.func68 (by kernel_rfl) rfl #[.slice A1 l1.length c1] rfl (by (try simp only [List.map_toArray, List.map_cons, List.map_nil]); first | done | rfl | (simp only [List.length_drop, List.length_take]; rfl)) ?_; (with_reducible refine (slices_Clone_int_int.calls _ _ l1 t226 _ ?side1 ?side2 A3.out).mono ?_); (case side1 => repeat (first | exact HR1.out | (with_reducible refine Kd.C_alloc ?_ _) | (with_reducible refine Kd.C_drewN ?_ _) | (with_reducible refine Kd.C_drew ?_))); (case side2 => exact HC1.out); rintro e w5 ⟨v227, rfl, ho0, hb⟩; refine ⟨_, rfl, ?_⟩; have n0_ := Aside0.mk (Kd.R_lower ho0 (below_size (by repeat (first | (with_reducible first | exact HB.out | apply below_alloc | apply pw_below_drewN | apply below_drew1) | exact HB.out)))); have n1_ := Aside0.mk (below_step (by repeat (first | (with_reducible first | exact HB.out | apply below_alloc | apply pw_below_drewN | apply below_drew1) | exact HB.out)) hb); clear HB; have HO228 := n0_; have HB := n1_; clear n0_ n1_; (try clear hb); (try clear hb2); (try clear hk); (try clear hi); (try clear ho0)))
  (try simp only [Act.put, List.setIfInBounds_toArray, List.set_cons_zero, List.set_cons_succ])
  go_cut [40] (fun v40 wc => ∃ (kq : Nat) (x40_3 : Bool), v40 = .bool x40_3 ∧ Aside0 (impl_StepCode.j0 kq l0 l1 t226 x40_3 = some (r1, r2)) ∧ Aside0 (kq ≤ k) ∧ Aside0 (Kd.R (Kd.int .i64) 3 wc w.heap.size (fun _ => True) v227 t226) ∧ Aside0 (Below w.heap.size w wc))
  case first =>
    have H := HC4.out
    clear HC4
    replace H := Option.bind_eq_some_iff.mp H
    obtain ⟨t229, A60, H⟩ := H
    replace H : (if t229 = true then (if (l1.length : Int) = 6 then (if 4 ≤ (l1.length : Int) then ((impl_areValues.f k (l1.take 4)).bind fun t231 => (if t231 = true then (if 4 < (l1.length : Int) then ((impl_within.f (rd l1 4) 0 (wrap64 ((l0.length : Int) - 1))).bind fun t233 => (if t233 = true then (if 5 < (l1.length : Int) then ((impl_within.f (rd l1 5) 0 100000).bind fun t235 => (impl_StepCode.j0 k l0 l1 t226 (!t235))) else (none)) else (impl_StepCode.j0 k l0 l1 t226 true))) else (none)) else (impl_StepCode.j0 k l0 l1 t226 true))) else (none)) else (impl_StepCode.j0 k l0 l1 t226 true)) else (impl_StepCode.j0 k l0 l1 t226 true)) = some (r1, r2) := H
    have A6 := Aside0.mk A60
    clear A60
    by_cases c7 : t229 = true
    · subst c7
      have H1 : (if (l1.length : Int) = 6 then (if 4 ≤ (l1.length : Int) then ((impl_areValues.f k (l1.take 4)).bind fun t231 => (if t231 = true then (if 4 < (l1.length : Int) then ((impl_within.f (rd l1 4) 0 (wrap64 ((l0.length : Int) - 1))).bind fun t233 => (if t233 = true then (if 5 < (l1.length : Int) then ((impl_within.f (rd l1 5) 0 100000).bind fun t235 => (impl_StepCode.j0 k l0 l1 t226 (!t235))) else (none)) else (impl_StepCode.j0 k l0 l1 t226 true))) else (none)) else (impl_StepCode.j0 k l0 l1 t226 true))) else (none)) else (impl_StepCode.j0 k l0 l1 t226 true)) = some (r1, r2) := by rw [if_pos rfl] at H; exact H
      clear H
      have H := H1
      clear H1
      by_cases c8 : (l1.length : Int) = 6
      · rw [if_pos c8] at H
        have c8b0 : ((l1.length : Int) == 6) = true := beq_iff_eq.mpr c8
        have c8b1 : ((l1.length : Int) != 6) = false := bne_eq_false_iff_eq.mpr c8
        clear c8
        (first | rw [c8b0] | (simp only [i64_w, i32_w]; rw [c8b0]) | skip)
        by_cases c9 : 4 ≤ (l1.length : Int)
        · rw [if_pos c9] at H
          have c9b0 := eq_true c9
          have c9b1 : decide (4 ≤ (l1.length : Int)) = true := decide_eq_true c9
          clear c9
          replace H := Option.bind_eq_some_iff.mp H
          obtain ⟨t231, A100, H⟩ := H
          replace H : (if t231 = true then (if 4 < (l1.length : Int) then ((impl_within.f (rd l1 4) 0 (wrap64 ((l0.length : Int) - 1))).bind fun t233 => (if t233 = true then (if 5 < (l1.length : Int) then ((impl_within.f (rd l1 5) 0 100000).bind fun t235 => (impl_StepCode.j0 k l0 l1 t226 (!t235))) else (none)) else (impl_StepCode.j0 k l0 l1 t226 true))) else (none)) else (impl_StepCode.j0 k l0 l1 t226 true)) = some (r1, r2) := H
          have A10 := Aside0.mk A100
          clear A100
          by_cases c11 : t231 = true
          · subst c11
            have H1 : (if 4 < (l1.length : Int) then ((impl_within.f (rd l1 4) 0 (wrap64 ((l0.length : Int) - 1))).bind fun t233 => (if t233 = true then (if 5 < (l1.length : Int) then ((impl_within.f (rd l1 5) 0 100000).bind fun t235 => (impl_StepCode.j0 k l0 l1 t226 (!t235))) else (none)) else (impl_StepCode.j0 k l0 l1 t226 true))) else (none)) = some (r1, r2) := by rw [if_pos rfl] at H; exact H
            clear H
            have H := H1
            clear H1
            by_cases c12 : 4 < (l1.length : Int)
            · rw [if_pos c12] at H
              have c12b0 : decide (4 < (l1.length : Int)) = true := decide_eq_true c12
              have c12b1 : decide (4 < l1.length) = true := decide_eq_true (by omega)
              clear c12
              replace H := Option.bind_eq_some_iff.mp H
              obtain ⟨t233, A130, H⟩ := H
              replace H : (if t233 = true then (if 5 < (l1.length : Int) then ((impl_within.f (rd l1 5) 0 100000).bind fun t235 => (impl_StepCode.j0 k l0 l1 t226 (!t235))) else (none)) else (impl_StepCode.j0 k l0 l1 t226 true)) = some (r1, r2) := H
              have A13 := Aside0.mk A130
              clear A130
              by_cases c14 : t233 = true
              · subst c14
                have H1 : (if 5 < (l1.length : Int) then ((impl_within.f (rd l1 5) 0 100000).bind fun t235 => (impl_StepCode.j0 k l0 l1 t226 (!t235))) else (none)) = some (r1, r2) := by rw [if_pos rfl] at H; exact H
                clear H
                have H := H1
                clear H1
                by_cases c15 : 5 < (l1.length : Int)
                · rw [if_pos c15] at H
                  have c15b0 : decide (5 < (l1.length : Int)) = true := decide_eq_true c15
                  have c15b1 : decide (5 < l1.length) = true := decide_eq_true (by omega)
                  clear c15
                  replace H := Option.bind_eq_some_iff.mp H
                  obtain ⟨t235, A160, H⟩ := H
                  replace H : (impl_StepCode.j0 k l0 l1 t226 (!t235)) = some (r1, r2) := H
                  have A16 := Aside0.mk A160
                  clear A160
                  have H' := Aside0.mk H
                  clear H
                  go_wp2_with (first | ((with_reducible refine gate_callee (f := 69) rfl ?_); refine goesL_ (some 11) rfl rfl Try.func69 (by kernel_rfl) rfl #[.slice A0 l0.length c0] rfl (by (try simp only [List.map_toArray, List.map_cons, List.map_nil]); first | done | rfl | (simp only [List.length_drop, List.length_take]; rfl)) ?_; (with_reducible refine (impl_CodeOk.calls k _ _ l0 true _ ?side1 ?side2 A6.out).mono ?_); (case side1 => repeat (first | exact (Kd.C_below HR0.out HB.out) | exact (Kd.C_below HR0.out (pw_below_drewN HB.out _)) | (with_reducible refine Kd.C_alloc ?_ _) | (with_reducible refine Kd.C_drewN ?_ _) | (with_reducible refine Kd.C_drew ?_))); (case side2 => exact HC0.out); rintro e w17 ⟨rfl, hb⟩; refine ⟨_, rfl, ?_⟩; have n0_ := Aside0.mk (Kd.R_below (by (with_reducible repeat (first | apply Kd.R_alloc | apply Kd.R_drewN | apply Kd.R_drew)); exact HO228.out) hb); have n1_ := Aside0.mk (below_step (by repeat (first | (with_reducible first | exact HB.out | apply below_alloc | apply pw_below_drewN | apply below_drew1) | exact HB.out)) hb); clear HO228; clear HB; have HO228 := n0_; have HB := n1_; clear n0_ n1_; (try clear hb); (try clear hb2); (try clear hk); (try clear hi); obtain ⟨i018, hi018, _, hsz18, _⟩ := info_parts info3; obtain ⟨hcut18, hA18, hC18⟩ := print_take_of (P := Try.prog) (Value.int .i64) 0 24 3 .i64 Try.underlying24 hi018 hsz18 A1 c1 l1 4 (by omega) (of_decide_eq_true (by first | (with_reducible assumption) | assumption)) HC1.out; have HR230 := Aside0.mk (Kd.C_of_reads (h1 := fun _ => rfl) (hA18 _ (Kd.reads_of_C HR1.out))); have HC230 := Aside0.mk hC18; clear hA18 hC18 hi018 hsz18; (try rw [show ((4 : Int)).toNat = 4 from rfl] at hcut18); (try rw [show ((4 : Int)).toNat = 4 from rfl] at HR230); (try rw [show ((4 : Int)).toNat = 4 from rfl] at HC230); generalize l1.take 4 = xs_ at *) | (go_at_call 70; (with_reducible refine (impl_areValues.calls k _ _ xs_ true _ ?side1 ?side2 A10.out).mono ?_); (case side1 => repeat (first | exact (Kd.C_below HR230.out HB.out) | exact (Kd.C_below HR230.out (pw_below_drewN HB.out _)) | (with_reducible refine Kd.C_alloc ?_ _) | (with_reducible refine Kd.C_drewN ?_ _) | (with_reducible refine Kd.C_drew ?_))); (case side2 => exact HC230.out); rintro e w' ⟨rfl, ⟨nd, rfl⟩⟩; have p232 : 0 ≤ (4 : Int) := (by omega); have q232 : 4 < (l1.length : Int) := of_decide_eq_true (by first | (with_reducible assumption) | assumption); obtain ⟨ad232, e232, hx232_0⟩ := Kd.at_int HR1.out 4 p232 q232; cases e232; (try simp only [show (4 : Int).toNat = 4 from rfl, Nat.reduceMul, Nat.reduceEqDiff, Go.Addr.add, ↓reduceIte] at hx232_0); have qi232 : (4 < l1.length) = True := eq_true (by omega); (try rw [show ((4 : Int)).toNat = 4 from rfl] at hx232_0); replace hx232_0 := (HB.out.cell (World.block_lt_of_cell? w _ hx232_0)).trans hx232_0; replace p232 := eq_true p232; replace q232 := eq_true q232) | (go_at_call 71; (with_reducible refine (impl_within.calls (rd l1 4) 0 (wrap64 ((l0.length : Int) - 1)) true _ A13.out).mono ?_); rintro e w' ⟨rfl, ⟨nd, rfl⟩⟩; have p234 : 0 ≤ (5 : Int) := (by omega); have q234 : 5 < (l1.length : Int) := of_decide_eq_true (by first | (with_reducible assumption) | assumption); obtain ⟨ad234, e234, hx234_0⟩ := Kd.at_int HR1.out 5 p234 q234; obtain rfl : ad232 = ad234 := (by injection e234); (try simp only [show (5 : Int).toNat = 5 from rfl, Nat.reduceMul, Nat.reduceEqDiff, Go.Addr.add, ↓reduceIte] at hx234_0); have qi234 : (5 < l1.length) = True := eq_true (by omega); (try rw [show ((5 : Int)).toNat = 5 from rfl] at hx234_0); replace hx234_0 := (HB.out.cell (World.block_lt_of_cell? w _ hx234_0)).trans hx234_0; replace p234 := eq_true p234; replace q234 := eq_true q234) | (go_at_call 71; (with_reducible refine (impl_within.calls (rd l1 5) 0 100000 t235 _ A16.out).mono ?_); rintro e w' ⟨rfl, ⟨nd, rfl⟩⟩))
                  go_meet
                  case rel => exact ⟨_, (!t235), (by first | rfl | (simp; done) | (simp [*]; done)), H', ⟨by first | omega | exact Nat.le_refl _⟩, ⟨by (with_reducible repeat (first | apply Kd.R_alloc | apply Kd.R_drewN | apply Kd.R_drew)); exact HO228.out⟩, ⟨by repeat (first | (with_reducible first | exact HB.out | apply below_alloc | apply pw_below_drewN | apply below_drew1) | exact HB.out)⟩⟩
                · rw [if_neg c15] at H
                  exact absurd H (by simp)
              · replace c14 := Bool.eq_false_iff.mpr c14
                subst c14
                have H1 : (impl_StepCode.j0 k l0 l1 t226 true) = some (r1, r2) := by rw [if_neg (show ¬ (false = true) by decide)] at H; exact H
                clear H
                have H := H1
                clear H1
                have H' := Aside0.mk H
                clear H
                go_wp2_with (first | ((with_reducible refine gate_callee (f := 69) rfl ?_); refine goesL_ (some 11) rfl rfl Try.func69 (by kernel_rfl) rfl #[.slice A0 l0.length c0] rfl (by (try simp only [List.map_toArray, List.map_cons, List.map_nil]); first | done | rfl | (simp only [List.length_drop, List.length_take]; rfl)) ?_; (with_reducible refine (impl_CodeOk.calls k _ _ l0 true _ ?side1 ?side2 A6.out).mono ?_); (case side1 => repeat (first | exact (Kd.C_below HR0.out HB.out) | exact (Kd.C_below HR0.out (pw_below_drewN HB.out _)) | (with_reducible refine Kd.C_alloc ?_ _) | (with_reducible refine Kd.C_drewN ?_ _) | (with_reducible refine Kd.C_drew ?_))); (case side2 => exact HC0.out); rintro e w19 ⟨rfl, hb⟩; refine ⟨_, rfl, ?_⟩; have n0_ := Aside0.mk (Kd.R_below (by (with_reducible repeat (first | apply Kd.R_alloc | apply Kd.R_drewN | apply Kd.R_drew)); exact HO228.out) hb); have n1_ := Aside0.mk (below_step (by repeat (first | (with_reducible first | exact HB.out | apply below_alloc | apply pw_below_drewN | apply below_drew1) | exact HB.out)) hb); clear HO228; clear HB; have HO228 := n0_; have HB := n1_; clear n0_ n1_; (try clear hb); (try clear hb2); (try clear hk); (try clear hi); obtain ⟨i020, hi020, _, hsz20, _⟩ := info_parts info3; obtain ⟨hcut20, hA20, hC20⟩ := print_take_of (P := Try.prog) (Value.int .i64) 0 24 3 .i64 Try.underlying24 hi020 hsz20 A1 c1 l1 4 (by omega) (of_decide_eq_true (by first | (with_reducible assumption) | assumption)) HC1.out; have HR230 := Aside0.mk (Kd.C_of_reads (h1 := fun _ => rfl) (hA20 _ (Kd.reads_of_C HR1.out))); have HC230 := Aside0.mk hC20; clear hA20 hC20 hi020 hsz20; (try rw [show ((4 : Int)).toNat = 4 from rfl] at hcut20); (try rw [show ((4 : Int)).toNat = 4 from rfl] at HR230); (try rw [show ((4 : Int)).toNat = 4 from rfl] at HC230); generalize l1.take 4 = xs_ at *) | (go_at_call 70; (with_reducible refine (impl_areValues.calls k _ _ xs_ true _ ?side1 ?side2 A10.out).mono ?_); (case side1 => repeat (first | exact (Kd.C_below HR230.out HB.out) | exact (Kd.C_below HR230.out (pw_below_drewN HB.out _)) | (with_reducible refine Kd.C_alloc ?_ _) | (with_reducible refine Kd.C_drewN ?_ _) | (with_reducible refine Kd.C_drew ?_))); (case side2 => exact HC230.out); rintro e w' ⟨rfl, ⟨nd, rfl⟩⟩; have p232 : 0 ≤ (4 : Int) := (by omega); have q232 : 4 < (l1.length : Int) := of_decide_eq_true (by first | (with_reducible assumption) | assumption); obtain ⟨ad232, e232, hx232_0⟩ := Kd.at_int HR1.out 4 p232 q232; cases e232; (try simp only [show (4 : Int).toNat = 4 from rfl, Nat.reduceMul, Nat.reduceEqDiff, Go.Addr.add, ↓reduceIte] at hx232_0); have qi232 : (4 < l1.length) = True := eq_true (by omega); (try rw [show ((4 : Int)).toNat = 4 from rfl] at hx232_0); replace hx232_0 := (HB.out.cell (World.block_lt_of_cell? w _ hx232_0)).trans hx232_0; replace p232 := eq_true p232; replace q232 := eq_true q232) | (go_at_call 71; (with_reducible refine (impl_within.calls (rd l1 4) 0 (wrap64 ((l0.length : Int) - 1)) false _ A13.out).mono ?_); rintro e w' ⟨rfl, ⟨nd, rfl⟩⟩))
                go_meet
                case rel => exact ⟨_, (true), (by first | rfl | (simp; done) | (simp [*]; done)), H', ⟨by first | omega | exact Nat.le_refl _⟩, ⟨by (with_reducible repeat (first | apply Kd.R_alloc | apply Kd.R_drewN | apply Kd.R_drew)); exact HO228.out⟩, ⟨by repeat (first | (with_reducible first | exact HB.out | apply below_alloc | apply pw_below_drewN | apply below_drew1) | exact HB.out)⟩⟩
            · rw [if_neg c12] at H
              exact absurd H (by simp)
          · replace c11 := Bool.eq_false_iff.mpr c11
            subst c11
            have H1 : (impl_StepCode.j0 k l0 l1 t226 true) = some (r1, r2) := by rw [if_neg (show ¬ (false = true) by decide)] at H; exact H
            clear H
            have H := H1
            clear H1
            have H' := Aside0.mk H
            clear H
            go_wp2_with (first | ((with_reducible refine gate_callee (f := 69) rfl ?_); refine goesL_ (some 11) rfl rfl Try.func69 (by kernel_rfl) rfl #[.slice A0 l0.length c0] rfl (by (try simp only [List.map_toArray, List.map_cons, List.map_nil]); first | done | rfl | (simp only [List.length_drop, List.length_take]; rfl)) ?_; (with_reducible refine (impl_CodeOk.calls k _ _ l0 true _ ?side1 ?side2 A6.out).mono ?_); (case side1 => repeat (first | exact (Kd.C_below HR0.out HB.out) | exact (Kd.C_below HR0.out (pw_below_drewN HB.out _)) | (with_reducible refine Kd.C_alloc ?_ _) | (with_reducible refine Kd.C_drewN ?_ _) | (with_reducible refine Kd.C_drew ?_))); (case side2 => exact HC0.out); rintro e w21 ⟨rfl, hb⟩; refine ⟨_, rfl, ?_⟩; have n0_ := Aside0.mk (Kd.R_below (by (with_reducible repeat (first | apply Kd.R_alloc | apply Kd.R_drewN | apply Kd.R_drew)); exact HO228.out) hb); have n1_ := Aside0.mk (below_step (by repeat (first | (with_reducible first | exact HB.out | apply below_alloc | apply pw_below_drewN | apply below_drew1) | exact HB.out)) hb); clear HO228; clear HB; have HO228 := n0_; have HB := n1_; clear n0_ n1_; (try clear hb); (try clear hb2); (try clear hk); (try clear hi); obtain ⟨i022, hi022, _, hsz22, _⟩ := info_parts info3; obtain ⟨hcut22, hA22, hC22⟩ := print_take_of (P := Try.prog) (Value.int .i64) 0 24 3 .i64 Try.underlying24 hi022 hsz22 A1 c1 l1 4 (by omega) (of_decide_eq_true (by first | (with_reducible assumption) | assumption)) HC1.out; have HR230 := Aside0.mk (Kd.C_of_reads (h1 := fun _ => rfl) (hA22 _ (Kd.reads_of_C HR1.out))); have HC230 := Aside0.mk hC22; clear hA22 hC22 hi022 hsz22; (try rw [show ((4 : Int)).toNat = 4 from rfl] at hcut22); (try rw [show ((4 : Int)).toNat = 4 from rfl] at HR230); (try rw [show ((4 : Int)).toNat = 4 from rfl] at HC230); generalize l1.take 4 = xs_ at *) | (go_at_call 70; (with_reducible refine (impl_areValues.calls k _ _ xs_ false _ ?side1 ?side2 A10.out).mono ?_); (case side1 => repeat (first | exact (Kd.C_below HR230.out HB.out) | exact (Kd.C_below HR230.out (pw_below_drewN HB.out _)) | (with_reducible refine Kd.C_alloc ?_ _) | (with_reducible refine Kd.C_drewN ?_ _) | (with_reducible refine Kd.C_drew ?_))); (case side2 => exact HC230.out); rintro e w' ⟨rfl, ⟨nd, rfl⟩⟩))
            go_meet
            case rel => exact ⟨_, (true), (by first | rfl | (simp; done) | (simp [*]; done)), H', ⟨by first | omega | exact Nat.le_refl _⟩, ⟨by (with_reducible repeat (first | apply Kd.R_alloc | apply Kd.R_drewN | apply Kd.R_drew)); exact HO228.out⟩, ⟨by repeat (first | (with_reducible first | exact HB.out | apply below_alloc | apply pw_below_drewN | apply below_drew1) | exact HB.out)⟩⟩
        · rw [if_neg c9] at H
          exact absurd H (by simp)
      · rw [if_neg c8] at H
        have c8b0 : ((l1.length : Int) == 6) = false := beq_eq_false_iff_ne.mpr c8
        have c8b1 : ((l1.length : Int) != 6) = true := bne_iff_ne.mpr c8
        (first | rw [c8b0] | (simp only [i64_w, i32_w]; rw [c8b0]) | skip)
        have H' := Aside0.mk H
        clear H
        go_wp2_with (first | ((with_reducible refine gate_callee (f := 69) rfl ?_); refine goesL_ (some 11) rfl rfl Try.func69 (by kernel_rfl) rfl #[.slice A0 l0.length c0] rfl (by (try simp only [List.map_toArray, List.map_cons, List.map_nil]); first | done | rfl | (simp only [List.length_drop, List.length_take]; rfl)) ?_; (with_reducible refine (impl_CodeOk.calls k _ _ l0 true _ ?side1 ?side2 A6.out).mono ?_); (case side1 => repeat (first | exact (Kd.C_below HR0.out HB.out) | exact (Kd.C_below HR0.out (pw_below_drewN HB.out _)) | (with_reducible refine Kd.C_alloc ?_ _) | (with_reducible refine Kd.C_drewN ?_ _) | (with_reducible refine Kd.C_drew ?_))); (case side2 => exact HC0.out); rintro e w23 ⟨rfl, hb⟩; refine ⟨_, rfl, ?_⟩; have n0_ := Aside0.mk (Kd.R_below (by (with_reducible repeat (first | apply Kd.R_alloc | apply Kd.R_drewN | apply Kd.R_drew)); exact HO228.out) hb); have n1_ := Aside0.mk (below_step (by repeat (first | (with_reducible first | exact HB.out | apply below_alloc | apply pw_below_drewN | apply below_drew1) | exact HB.out)) hb); clear HO228; clear HB; have HO228 := n0_; have HB := n1_; clear n0_ n1_; (try clear hb); (try clear hb2); (try clear hk); (try clear hi)))
        go_meet
        case rel => exact ⟨_, (true), (by first | rfl | (simp; done) | (simp [*]; done)), H', ⟨by first | omega | exact Nat.le_refl _⟩, ⟨by (with_reducible repeat (first | apply Kd.R_alloc | apply Kd.R_drewN | apply Kd.R_drew)); exact HO228.out⟩, ⟨by repeat (first | (with_reducible first | exact HB.out | apply below_alloc | apply pw_below_drewN | apply below_drew1) | exact HB.out)⟩⟩
    · replace c7 := Bool.eq_false_iff.mpr c7
      subst c7
      have H1 : (impl_StepCode.j0 k l0 l1 t226 true) = some (r1, r2) := by rw [if_neg (show ¬ (false = true) by decide)] at H; exact H
      clear H
      have H := H1
      clear H1
      have H' := Aside0.mk H
      clear H
      go_wp2_with (first | ((with_reducible refine gate_callee (f := 69) rfl ?_); refine goesL_ (some 11) rfl rfl Try.func69 (by kernel_rfl) rfl #[.slice A0 l0.length c0] rfl (by (try simp only [List.map_toArray, List.map_cons, List.map_nil]); first | done | rfl | (simp only [List.length_drop, List.length_take]; rfl)) ?_; (with_reducible refine (impl_CodeOk.calls k _ _ l0 false _ ?side1 ?side2 A6.out).mono ?_); (case side1 => repeat (first | exact (Kd.C_below HR0.out HB.out) | exact (Kd.C_below HR0.out (pw_below_drewN HB.out _)) | (with_reducible refine Kd.C_alloc ?_ _) | (with_reducible refine Kd.C_drewN ?_ _) | (with_reducible refine Kd.C_drew ?_))); (case side2 => exact HC0.out); rintro e w24 ⟨rfl, hb⟩; refine ⟨_, rfl, ?_⟩; have n0_ := Aside0.mk (Kd.R_below (by (with_reducible repeat (first | apply Kd.R_alloc | apply Kd.R_drewN | apply Kd.R_drew)); exact HO228.out) hb); have n1_ := Aside0.mk (below_step (by repeat (first | (with_reducible first | exact HB.out | apply below_alloc | apply pw_below_drewN | apply below_drew1) | exact HB.out)) hb); clear HO228; clear HB; have HO228 := n0_; have HB := n1_; clear n0_ n1_; (try clear hb); (try clear hb2); (try clear hk); (try clear hi)))
      go_meet
      case rel => exact ⟨_, (true), (by first | rfl | (simp; done) | (simp [*]; done)), H', ⟨by first | omega | exact Nat.le_refl _⟩, ⟨by (with_reducible repeat (first | apply Kd.R_alloc | apply Kd.R_drewN | apply Kd.R_drew)); exact HO228.out⟩, ⟨by repeat (first | (with_reducible first | exact HB.out | apply below_alloc | apply pw_below_drewN | apply below_drew1) | exact HB.out)⟩⟩
  case rest =>
    clear HC4
    try clear c1
    try clear p2
    try clear q2
    try clear hx2
    try clear qi2
    try clear c3
    try clear c6
    try clear p6
    try clear c7
    try clear c8
    try clear c8b0
    try clear c8b1
    try clear c9
    try clear c9b0
    try clear c9b1
    try clear c11
    try clear c12
    try clear c12b0
    try clear c12b1
    try clear c14
    try clear c15
    try clear c15b0
    try clear c15b1
    try clear p23
    try clear q23
    try clear hx23
    try clear qi23
    try clear hx232_0
    try clear hx234_0
    try clear p232
    try clear p234
    try clear q232
    try clear q234
    obtain ⟨kq, x40_3, rfl, HA, HJ3, HO_6, HB⟩ := hcut
    cases kq with
    | zero => exact absurd HA.out (by simp [impl_StepCode.j0])
    | succ kj3 =>
      have H := HA.out
      clear HA
      simp only [impl_StepCode.j0] at H
      by_cases c25 : x40_3 = true
      · subst c25
        have H1 : (some (t226, false)) = some (r1, r2) := by rw [if_pos rfl] at H; exact H
        clear H
        have H := H1
        clear H1
        simp only [Option.some.injEq, Prod.mk.injEq] at H
        obtain ⟨rfl, rfl⟩ := H
        go_wp2
        go_ret2
        exact ⟨_, by first | rfl | (simp [errW_none, errW_some] <;> rfl) | (simp [*, errW_none, errW_some] <;> rfl), by (with_reducible repeat (first | apply Kd.R_alloc | apply Kd.R_drewN | apply Kd.R_drew)); exact HO_6.out, by repeat (first | (with_reducible first | exact HB.out | apply below_alloc | apply pw_below_drewN | apply below_drew1) | exact HB.out)⟩
      · replace c25 := Bool.eq_false_iff.mpr c25
        subst c25
        have H1 : (if 4 < (l1.length : Int) then (if 0 ≤ (rd l1 4) then (if (rd l1 4) < (l0.length : Int) then (if 4 < (t226.length : Int) then ((some (t226.set (4 : Int).toNat (wrap64 ((rd t226 4) + 1)) : List Int)).bind fun y240 => (if 5 < (t226.length : Int) then ((some (y240.set (5 : Int).toNat (wrap64 ((rd y240 5) + 1)) : List Int)).bind fun y242 => (if ((rd_T94 l0 (rd l1 4)).f0) = 1 then (if 0 ≤ ((rd_T94 l0 (rd l1 4)).f1) then (if ((rd_T94 l0 (rd l1 4)).f1) < (t226.length : Int) then (some ((y242.set (((rd_T94 l0 (rd l1 4)).f1) : Int).toNat ((rd_T94 l0 (rd l1 4)).f2)), true)) else (none)) else (none)) else (if ((rd_T94 l0 (rd l1 4)).f0) = 2 then (if 0 ≤ ((rd_T94 l0 (rd l1 4)).f1) then (if ((rd_T94 l0 (rd l1 4)).f1) < (l1.length : Int) then (if 0 ≤ ((rd_T94 l0 (rd l1 4)).f2) then (if ((rd_T94 l0 (rd l1 4)).f2) < (l1.length : Int) then ((impl_AddValues.f (rd l1 ((rd_T94 l0 (rd l1 4)).f1)) (rd l1 ((rd_T94 l0 (rd l1 4)).f2))).bind fun t246 => (if ((rd_T94 l0 (rd l1 4)).f1) < (t226.length : Int) then (some ((y242.set (((rd_T94 l0 (rd l1 4)).f1) : Int).toNat t246), true)) else (none))) else (none)) else (none)) else (none)) else (none)) else (if ((rd_T94 l0 (rd l1 4)).f0) = 3 then (if 0 ≤ ((rd_T94 l0 (rd l1 4)).f1) then (if ((rd_T94 l0 (rd l1 4)).f1) < (l1.length : Int) then (if 0 ≤ ((rd_T94 l0 (rd l1 4)).f2) then (if ((rd_T94 l0 (rd l1 4)).f2) < (l1.length : Int) then ((impl_SubValues.f (rd l1 ((rd_T94 l0 (rd l1 4)).f1)) (rd l1 ((rd_T94 l0 (rd l1 4)).f2))).bind fun t250 => (if ((rd_T94 l0 (rd l1 4)).f1) < (t226.length : Int) then (some ((y242.set (((rd_T94 l0 (rd l1 4)).f1) : Int).toNat t250), true)) else (none))) else (none)) else (none)) else (none)) else (none)) else (if ((rd_T94 l0 (rd l1 4)).f0) = 4 then (if 0 ≤ ((rd_T94 l0 (rd l1 4)).f1) then (if ((rd_T94 l0 (rd l1 4)).f1) < (l1.length : Int) then (if 0 ≤ ((rd_T94 l0 (rd l1 4)).f2) then (if ((rd_T94 l0 (rd l1 4)).f2) < (l1.length : Int) then ((impl_MulValues.f (rd l1 ((rd_T94 l0 (rd l1 4)).f1)) (rd l1 ((rd_T94 l0 (rd l1 4)).f2))).bind fun t254 => (if ((rd_T94 l0 (rd l1 4)).f1) < (t226.length : Int) then (some ((y242.set (((rd_T94 l0 (rd l1 4)).f1) : Int).toNat t254), true)) else (none))) else (none)) else (none)) else (none)) else (none)) else (if ((rd_T94 l0 (rd l1 4)).f0) = 5 then (if 0 ≤ ((rd_T94 l0 (rd l1 4)).f1) then (if ((rd_T94 l0 (rd l1 4)).f1) < (l1.length : Int) then (if (rd l1 ((rd_T94 l0 (rd l1 4)).f1)) = 0 then (some (y242, true)) else (some ((y242.set (4 : Int).toNat ((rd_T94 l0 (rd l1 4)).f2)), true))) else (none)) else (none)) else (some (y242, true)))))))) else (none))) else (none)) else (none)) else (none)) else (none)) = some (r1, r2) := by rw [if_neg (show ¬ (false = true) by decide)] at H; exact H
        clear H
        have H := H1
        clear H1
        by_cases c26 : 4 < (l1.length : Int)
        · rw [if_pos c26] at H
          have c26b0 : decide (4 < (l1.length : Int)) = true := decide_eq_true c26
          have c26b1 : decide (4 < l1.length) = true := decide_eq_true (by omega)
          clear c26
          by_cases c27 : 0 ≤ (rd l1 4)
          · rw [if_pos c27] at H
            have c27b0 : decide (0 ≤ (rd l1 4)) = true := decide_eq_true c27
            clear c27
            by_cases c28 : (rd l1 4) < (l0.length : Int)
            · rw [if_pos c28] at H
              have c28b0 : decide ((rd l1 4) < (l0.length : Int)) = true := decide_eq_true c28
              clear c28
              by_cases c29 : 4 < (t226.length : Int)
              · rw [if_pos c29] at H
                have c29b0 : decide (4 < (t226.length : Int)) = true := decide_eq_true c29
                have c29b1 : decide (4 < t226.length) = true := decide_eq_true (by omega)
                clear c29
                obtain ⟨y240, hy240⟩ : ∃ y_ : List Int, y_ = (t226.set (4 : Int).toNat (wrap64 ((rd t226 4) + 1))) := ⟨_, rfl⟩
                replace H : (if 5 < (t226.length : Int) then ((some (y240.set (5 : Int).toNat (wrap64 ((rd y240 5) + 1)) : List Int)).bind fun y242 => (if ((rd_T94 l0 (rd l1 4)).f0) = 1 then (if 0 ≤ ((rd_T94 l0 (rd l1 4)).f1) then (if ((rd_T94 l0 (rd l1 4)).f1) < (t226.length : Int) then (some ((y242.set (((rd_T94 l0 (rd l1 4)).f1) : Int).toNat ((rd_T94 l0 (rd l1 4)).f2)), true)) else (none)) else (none)) else (if ((rd_T94 l0 (rd l1 4)).f0) = 2 then (if 0 ≤ ((rd_T94 l0 (rd l1 4)).f1) then (if ((rd_T94 l0 (rd l1 4)).f1) < (l1.length : Int) then (if 0 ≤ ((rd_T94 l0 (rd l1 4)).f2) then (if ((rd_T94 l0 (rd l1 4)).f2) < (l1.length : Int) then ((impl_AddValues.f (rd l1 ((rd_T94 l0 (rd l1 4)).f1)) (rd l1 ((rd_T94 l0 (rd l1 4)).f2))).bind fun t246 => (if ((rd_T94 l0 (rd l1 4)).f1) < (t226.length : Int) then (some ((y242.set (((rd_T94 l0 (rd l1 4)).f1) : Int).toNat t246), true)) else (none))) else (none)) else (none)) else (none)) else (none)) else (if ((rd_T94 l0 (rd l1 4)).f0) = 3 then (if 0 ≤ ((rd_T94 l0 (rd l1 4)).f1) then (if ((rd_T94 l0 (rd l1 4)).f1) < (l1.length : Int) then (if 0 ≤ ((rd_T94 l0 (rd l1 4)).f2) then (if ((rd_T94 l0 (rd l1 4)).f2) < (l1.length : Int) then ((impl_SubValues.f (rd l1 ((rd_T94 l0 (rd l1 4)).f1)) (rd l1 ((rd_T94 l0 (rd l1 4)).f2))).bind fun t250 => (if ((rd_T94 l0 (rd l1 4)).f1) < (t226.length : Int) then (some ((y242.set (((rd_T94 l0 (rd l1 4)).f1) : Int).toNat t250), true)) else (none))) else (none)) else (none)) else (none)) else (none)) else (if ((rd_T94 l0 (rd l1 4)).f0) = 4 then (if 0 ≤ ((rd_T94 l0 (rd l1 4)).f1) then (if ((rd_T94 l0 (rd l1 4)).f1) < (l1.length : Int) then (if 0 ≤ ((rd_T94 l0 (rd l1 4)).f2) then (if ((rd_T94 l0 (rd l1 4)).f2) < (l1.length : Int) then ((impl_MulValues.f (rd l1 ((rd_T94 l0 (rd l1 4)).f1)) (rd l1 ((rd_T94 l0 (rd l1 4)).f2))).bind fun t254 => (if ((rd_T94 l0 (rd l1 4)).f1) < (t226.length : Int) then (some ((y242.set (((rd_T94 l0 (rd l1 4)).f1) : Int).toNat t254), true)) else (none))) else (none)) else (none)) else (none)) else (none)) else (if ((rd_T94 l0 (rd l1 4)).f0) = 5 then (if 0 ≤ ((rd_T94 l0 (rd l1 4)).f1) then (if ((rd_T94 l0 (rd l1 4)).f1) < (l1.length : Int) then (if (rd l1 ((rd_T94 l0 (rd l1 4)).f1)) = 0 then (some (y242, true)) else (some ((y242.set (4 : Int).toNat ((rd_T94 l0 (rd l1 4)).f2)), true))) else (none)) else (none)) else (some (y242, true)))))))) else (none)) = some (r1, r2) := by first | (rw [hy240]; with_reducible exact H) | (have H2_ := (Option.bind_some _ _).symm.trans H; rw [hy240]; with_reducible exact H2_) | (have H2_ := (Option.bind_some _ _).symm.trans H; with_reducible exact H2_) | with_reducible exact H | (rw [hy240]; exact H) | exact H
                have Ny240 := Aside0.mk hy240
                clear hy240
                by_cases c31 : 5 < (t226.length : Int)
                · rw [if_pos c31] at H
                  have c31b0 : decide (5 < (t226.length : Int)) = true := decide_eq_true c31
                  have c31b1 : decide (5 < t226.length) = true := decide_eq_true (by omega)
                  clear c31
                  obtain ⟨y242, hy242⟩ : ∃ y_ : List Int, y_ = (y240.set (5 : Int).toNat (wrap64 ((rd y240 5) + 1))) := ⟨_, rfl⟩
                  replace H : (if ((rd_T94 l0 (rd l1 4)).f0) = 1 then (if 0 ≤ ((rd_T94 l0 (rd l1 4)).f1) then (if ((rd_T94 l0 (rd l1 4)).f1) < (t226.length : Int) then (some ((y242.set (((rd_T94 l0 (rd l1 4)).f1) : Int).toNat ((rd_T94 l0 (rd l1 4)).f2)), true)) else (none)) else (none)) else (if ((rd_T94 l0 (rd l1 4)).f0) = 2 then (if 0 ≤ ((rd_T94 l0 (rd l1 4)).f1) then (if ((rd_T94 l0 (rd l1 4)).f1) < (l1.length : Int) then (if 0 ≤ ((rd_T94 l0 (rd l1 4)).f2) then (if ((rd_T94 l0 (rd l1 4)).f2) < (l1.length : Int) then ((impl_AddValues.f (rd l1 ((rd_T94 l0 (rd l1 4)).f1)) (rd l1 ((rd_T94 l0 (rd l1 4)).f2))).bind fun t246 => (if ((rd_T94 l0 (rd l1 4)).f1) < (t226.length : Int) then (some ((y242.set (((rd_T94 l0 (rd l1 4)).f1) : Int).toNat t246), true)) else (none))) else (none)) else (none)) else (none)) else (none)) else (if ((rd_T94 l0 (rd l1 4)).f0) = 3 then (if 0 ≤ ((rd_T94 l0 (rd l1 4)).f1) then (if ((rd_T94 l0 (rd l1 4)).f1) < (l1.length : Int) then (if 0 ≤ ((rd_T94 l0 (rd l1 4)).f2) then (if ((rd_T94 l0 (rd l1 4)).f2) < (l1.length : Int) then ((impl_SubValues.f (rd l1 ((rd_T94 l0 (rd l1 4)).f1)) (rd l1 ((rd_T94 l0 (rd l1 4)).f2))).bind fun t250 => (if ((rd_T94 l0 (rd l1 4)).f1) < (t226.length : Int) then (some ((y242.set (((rd_T94 l0 (rd l1 4)).f1) : Int).toNat t250), true)) else (none))) else (none)) else (none)) else (none)) else (none)) else (if ((rd_T94 l0 (rd l1 4)).f0) = 4 then (if 0 ≤ ((rd_T94 l0 (rd l1 4)).f1) then (if ((rd_T94 l0 (rd l1 4)).f1) < (l1.length : Int) then (if 0 ≤ ((rd_T94 l0 (rd l1 4)).f2) then (if ((rd_T94 l0 (rd l1 4)).f2) < (l1.length : Int) then ((impl_MulValues.f (rd l1 ((rd_T94 l0 (rd l1 4)).f1)) (rd l1 ((rd_T94 l0 (rd l1 4)).f2))).bind fun t254 => (if ((rd_T94 l0 (rd l1 4)).f1) < (t226.length : Int) then (some ((y242.set (((rd_T94 l0 (rd l1 4)).f1) : Int).toNat t254), true)) else (none))) else (none)) else (none)) else (none)) else (none)) else (if ((rd_T94 l0 (rd l1 4)).f0) = 5 then (if 0 ≤ ((rd_T94 l0 (rd l1 4)).f1) then (if ((rd_T94 l0 (rd l1 4)).f1) < (l1.length : Int) then (if (rd l1 ((rd_T94 l0 (rd l1 4)).f1)) = 0 then (some (y242, true)) else (some ((y242.set (4 : Int).toNat ((rd_T94 l0 (rd l1 4)).f2)), true))) else (none)) else (none)) else (some (y242, true))))))) = some (r1, r2) := by first | (rw [hy242]; with_reducible exact H) | (have H2_ := (Option.bind_some _ _).symm.trans H; rw [hy242]; with_reducible exact H2_) | (have H2_ := (Option.bind_some _ _).symm.trans H; with_reducible exact H2_) | with_reducible exact H | (rw [hy242]; exact H) | exact H
                  have Ny242 := Aside0.mk hy242
                  clear hy242
                  by_cases c33 : ((rd_T94 l0 (rd l1 4)).f0) = 1
                  · rw [if_pos c33] at H
                    have c33b0 : (((rd_T94 l0 (rd l1 4)).f0) == 1) = true := beq_iff_eq.mpr c33
                    have c33b1 : (((rd_T94 l0 (rd l1 4)).f0) != 1) = false := bne_eq_false_iff_eq.mpr c33
                    clear c33
                    by_cases c34 : 0 ≤ ((rd_T94 l0 (rd l1 4)).f1)
                    · rw [if_pos c34] at H
                      have c34b0 : decide (0 ≤ ((rd_T94 l0 (rd l1 4)).f1)) = true := decide_eq_true c34
                      clear c34
                      by_cases c35 : ((rd_T94 l0 (rd l1 4)).f1) < (t226.length : Int)
                      · rw [if_pos c35] at H
                        have c35b0 : decide (((rd_T94 l0 (rd l1 4)).f1) < (t226.length : Int)) = true := decide_eq_true c35
                        clear c35
                        obtain ⟨y243, hy243⟩ : ∃ y_ : List Int, y_ = (y242.set (((rd_T94 l0 (rd l1 4)).f1) : Int).toNat ((rd_T94 l0 (rd l1 4)).f2)) := ⟨_, rfl⟩
                        replace H : (some (y243, true)) = some (r1, r2) := by first | (rw [hy243]; with_reducible exact H) | (have H2_ := (Option.bind_some _ _).symm.trans H; rw [hy243]; with_reducible exact H2_) | (have H2_ := (Option.bind_some _ _).symm.trans H; with_reducible exact H2_) | with_reducible exact H | (rw [hy243]; exact H) | exact H
                        have Ny243 := Aside0.mk hy243
                        clear hy243
                        simp only [Option.some.injEq, Prod.mk.injEq] at H
                        obtain ⟨rfl, rfl⟩ := H
                        have p236 : 0 ≤ (4 : Int) := (by omega)
                        have q236 : 4 < (l1.length : Int) := of_decide_eq_true (by first | (with_reducible assumption) | assumption)
                        obtain ⟨ad236, e236, hx236_0⟩ := Kd.at_int HR1.out 4 p236 q236
                        cases e236
                        (try simp only [show (4 : Int).toNat = 4 from rfl, Nat.reduceMul, Nat.reduceEqDiff, Go.Addr.add, ↓reduceIte] at hx236_0)
                        have qi236 : (4 < l1.length) = True := eq_true (by omega)
                        (try rw [show ((4 : Int)).toNat = 4 from rfl] at hx236_0)
                        replace hx236_0 := (HB.out.cell (World.block_lt_of_cell? w _ hx236_0)).trans hx236_0
                        replace p236 := eq_true p236
                        replace q236 := eq_true q236
                        have p237 : 0 ≤ ((rd l1 4) : Int) := of_decide_eq_true (by first | (with_reducible assumption) | assumption)
                        have q237 : (rd l1 4) < (l0.length : Int) := of_decide_eq_true (by first | (with_reducible assumption) | assumption)
                        obtain ⟨ad237, e237, hx237_0, hx237_1, hx237_2⟩ := at_T94 HR0.out (rd l1 4) p237 q237
                        cases e237
                        replace hx237_0 := (HB.out.cell (World.block_lt_of_cell? w _ hx237_0)).trans hx237_0
                        replace hx237_1 := (HB.out.cell (World.block_lt_of_cell? w _ hx237_1)).trans hx237_1
                        replace hx237_2 := (HB.out.cell (World.block_lt_of_cell? w _ hx237_2)).trans hx237_2
                        replace p237 := eq_true p237
                        replace q237 := eq_true q237
                        go_wp2_with (first | ((with_reducible refine gate_dst (N := 7) rfl ?_); (try (refine gate_guard (by rfl) ?_; dsimp only)); refine box_event ?hg (N := 7) ?hd (cs := #[.int .i64 0, .int .i64 0, .int .i64 0]) (t := 94) ?hr ?_; (case hd => rfl); (case hg => rfl); (case hr => first | (go_simp; done) | (go_simp; rfl)); intro gb238 hg w37 hbox hb; have n0_ := Aside0.mk (Kd.R_below (by (with_reducible repeat (first | apply Kd.R_alloc | apply Kd.R_drewN | apply Kd.R_drew)); exact HO_6.out) hb); have n1_ := Aside0.mk (below_step (by repeat (first | (with_reducible first | exact HB.out | apply below_alloc | apply pw_below_drewN | apply below_drew1) | exact HB.out)) hb); have n2_ := Aside0.mk (hbox); have n3_ := Aside0.mk ((by rw [hg]; exact (below_size (by repeat (first | (with_reducible first | exact HB.out | apply below_alloc | apply pw_below_drewN | apply below_drew1) | exact HB.out))) : w.heap.size ≤ gb238)); have n4_ := Aside0.mk ((by rw [hg]; exact (below_size (by repeat (first | (with_reducible first | exact HB.out | apply below_alloc | apply pw_below_drewN | apply below_drew1) | exact HB.out))) : w.heap.size ≤ gb238)); clear HO_6; clear HB; have HO_6 := n0_; have HB := n1_; have BK238 := n2_; have GW238 := n3_; have GE238 := n4_; clear n0_ n1_ n2_ n3_ n4_; clear hb hbox hg; have hcz38_0 : w37.cell? ⟨gb238, 0, none⟩ = some (.int .i64 0) := (blk_cell BK238.out 0).trans rfl; have hcz38_1 : w37.cell? ⟨gb238, 1, none⟩ = some (.int .i64 0) := (blk_cell BK238.out 1).trans rfl; have hcz38_2 : w37.cell? ⟨gb238, 2, none⟩ = some (.int .i64 0) := (blk_cell BK238.out 2).trans rfl; have hfz38_0 := blk_frozen BK238.out 0; have hfz38_1 := blk_frozen BK238.out 1; have hfz38_2 := blk_frozen BK238.out 2) | ((with_reducible refine gate_store (t := 94) (p := 7) rfl ?_); refine store_event (t := 94) (p := 7) (v := ?vo_w39) (w1 := (((w37.setCell ⟨gb238, 0, none⟩ (.int .i64 ((rd_T94 l0 (rd l1 4)).f0))).setCell ⟨gb238, 1, none⟩ (.int .i64 ((rd_T94 l0 (rd l1 4)).f1))).setCell ⟨gb238, 2, none⟩ (.int .i64 ((rd_T94 l0 (rd l1 4)).f2)))) ?hg ?ho ?hn ?hr ?_; (case ho => rfl); (case hg => rfl); (case hn => rfl); (case hr => first | (go_simp; done) | (go_simp; rfl)); intro w39 hw; have n0_ : Aside0 (Kd.R (Kd.int .i64) 3 w39 w.heap.size (fun _ => True) v227 t226) := ⟨(by rw [hw]; exact (by (with_reducible repeat (first | apply Kd.R_alloc | apply Kd.R_drewN | apply Kd.R_drew)); exact Kd.R_mono (Kd.R_far (p := ⟨gb238, 2, none⟩) (Kd.R_far (p := ⟨gb238, 1, none⟩) (Kd.R_far (p := ⟨gb238, 0, none⟩) (Kd.R_types HO_6.out BK238.out (by decide)) (fun _ hk => hk.2) (.int .i64 ((rd_T94 l0 (rd l1 4)).f0))) (fun _ hk => hk.2) (.int .i64 ((rd_T94 l0 (rd l1 4)).f1))) (fun _ hk => hk.2) (.int .i64 ((rd_T94 l0 (rd l1 4)).f2))) (fun _ hk => trivial)))⟩; have n1_ : Aside0 (w39.heap[gb238]? = some (.cells #[.int .i64 ((rd_T94 l0 (rd l1 4)).f0), .int .i64 ((rd_T94 l0 (rd l1 4)).f1), .int .i64 ((rd_T94 l0 (rd l1 4)).f2)] 94 (0, 0))) := ⟨(by rw [hw]; exact (by (with_reducible repeat (first | refine blk_drewN ?_ _ | refine blk_drew ?_ | refine blk_alloc ?_ _)); refine blk_put (cs := #[.int .i64 ((rd_T94 l0 (rd l1 4)).f0), .int .i64 ((rd_T94 l0 (rd l1 4)).f1), .int .i64 0]) ?_ 2 _ rfl; (with_reducible repeat (first | refine blk_drewN ?_ _ | refine blk_drew ?_ | refine blk_alloc ?_ _)); refine blk_put (cs := #[.int .i64 ((rd_T94 l0 (rd l1 4)).f0), .int .i64 0, .int .i64 0]) ?_ 1 _ rfl; (with_reducible repeat (first | refine blk_drewN ?_ _ | refine blk_drew ?_ | refine blk_alloc ?_ _)); refine blk_put (cs := #[.int .i64 0, .int .i64 0, .int .i64 0]) ?_ 0 _ rfl; (with_reducible repeat (first | refine blk_drewN ?_ _ | refine blk_drew ?_ | refine blk_alloc ?_ _)); exact BK238.out))⟩; have n2_ : Aside0 (Below w.heap.size w w39) := ⟨(by rw [hw]; exact (by repeat (first | (with_reducible first | exact HB.out | apply below_alloc | apply pw_below_drewN | apply below_drew1 | refine below_set ?_ GE238.out) | exact HB.out)))⟩; clear hw; clear HO_6; clear BK238; clear HB; have HO_6 := n0_; have BK238 := n1_; have HB := n2_; clear n0_ n1_ n2_; obtain ⟨Ao40, co40, eo40⟩ := Kd.R_slice HO_6.out; subst eo40; have p239 : 0 ≤ (4 : Int) := (by omega); have q239 : 4 < (t226.length : Int) := of_decide_eq_true (by first | (with_reducible assumption) | assumption); obtain ⟨ad239, e239, hx239_0⟩ := Kd.at_int (Kd.R_reads' HO_6.out).2.2 4 p239 q239; cases e239; (try simp only [show (4 : Int).toNat = 4 from rfl, Nat.reduceMul, Nat.reduceEqDiff, Go.Addr.add, ↓reduceIte] at hx239_0); have qi239 : (4 < t226.length) = True := eq_true (by omega); (try rw [show ((4 : Int)).toNat = 4 from rfl] at hx239_0); replace p239 := eq_true p239; replace q239 := eq_true q239; have p30 : 0 ≤ (4 : Int) := (by omega); have q30 : (4 : Int) < ((t226.length : Int) : Int) := of_decide_eq_true (by first | (with_reducible assumption) | assumption); have qi30 : (4 < t226.length) = True := eq_true (by omega); obtain ⟨go30, co30, eo30, gb30, gl30, cl30, HG30⟩ := Kd.R_form HO_6.out (by omega); (first | cases eo30 | (injection eo30 with ea_ en_ ec_; (first | subst ea_ | (injection ea_ with ea_; subst ea_)); subst ec_; clear en_)); have GB30 := Aside0.mk gb30; have GG30 := Aside0.mk HG30; clear gb30 gl30 HG30; (first | simp only [add_plain] at hx239_0 | skip); obtain ⟨hx30_0, hf30_0⟩ := Kd.R_celln 0 HO_6.out (4 : Int) p30 q30; (try rw [show ((4 : Int)).toNat = 4 from rfl] at hx30_0); (try simp only [Nat.reduceMul, Nat.zero_mul, Nat.zero_add, Nat.reduceAdd] at hx30_0); (try rw [show ((4 : Int)).toNat = 4 from rfl] at hf30_0); (try simp only [Nat.reduceMul, Nat.zero_mul, Nat.zero_add, Nat.reduceAdd] at hf30_0); replace p30 := eq_true p30; replace q30 := eq_true q30; obtain ⟨hy41_, hz41_⟩ := Kd.R_celln 0 HO_6.out (4 : Int) (by omega) (of_decide_eq_true (by first | (with_reducible assumption) | assumption)); (try simp only [Int.reduceToNat, Int.toNat_zero, Int.toNat_ofNat, Nat.reduceMul, Nat.zero_mul, Nat.zero_add] at hy41_ hz41_); (try rw [show ((4 : Int)).toNat = 4 from rfl] at hy41_); (try rw [show ((4 : Int)).toNat = 4 from rfl] at hz41_); have HP41 := Kd.R_putg HO_6.out (4 : Int) (wrap64 ((rd t226 4) + 1))) | ((with_reducible refine gate_store (t := 3) (p := 52) rfl ?_); refine store_event (t := 3) (p := 52) (v := ?vo_w42) (w1 := (w39.setCell ⟨go30, (4 : Int).toNat, none⟩ (.int .i64 (wrap64 ((rd t226 4) + 1))))) ?hg ?ho ?hn ?hr ?_; (case ho => rfl); (case hg => rfl); (case hn => rfl); (case hr => first | (go_simp; done) | (go_simp; rfl)); intro w42 hw; have hg : w39.grownBy w42 (some go30) := (by rw [hw]; exact HP41.2); have hp_ : Kd.R (Kd.int .i64) 3 w42 w.heap.size (fun _ => True) (.slice (some ⟨go30, 0, none⟩) t226.length co40) y240 := (by rw [hw, Ny240.out]; exact HP41.1); clear HP41; have n0_ := Aside0.mk (hp_); have n1_ := Aside0.mk (blk_grown (g := gb238) (o := .cells #[.int .i64 ((rd_T94 l0 (rd l1 4)).f0), .int .i64 ((rd_T94 l0 (rd l1 4)).f1), .int .i64 ((rd_T94 l0 (rd l1 4)).f2)] 94 (0, 0)) (by (with_reducible repeat (first | refine blk_drewN ?_ _ | refine blk_drew ?_ | refine blk_alloc ?_ _)); exact BK238.out) hg (Kd.R_ne HO_6.out BK238.out (by decide))); have n2_ := Aside0.mk ((by rw [hw]; exact below_set (HB.out) GB30.out : Below w.heap.size w w42)); clear HO_6; clear BK238; clear HB; have HO_6 := n0_; have BK238 := n1_; have HB := n2_; clear n0_ n1_ n2_; clear hg hw hp_; have p241 : 0 ≤ (5 : Int) := (by omega); have q241 : 5 < (y240.length : Int) := (by have h_ : (5 : Int) < ((t226.length : Int) : Int) := of_decide_eq_true (by first | (with_reducible assumption) | assumption); first | (have e_ := (Kd.R_reads' HO_6.out).1; omega) | simpa only [Ny240.out, List.length_set] using h_); have ql241 : ((5 : Int) < ((t226.length : Int) : Int)) = True := eq_true (of_decide_eq_true (by first | (with_reducible assumption) | assumption)); (try have qn241 : (5 < t226.length) = True := eq_true (by have h_ : (5 : Int) < ((t226.length : Int) : Int) := of_decide_eq_true (by first | (with_reducible assumption) | assumption); omega)); obtain ⟨ad241, e241, hx241_0⟩ := Kd.at_int (Kd.R_reads' HO_6.out).2.2 5 p241 q241; obtain rfl : (⟨go30, 0, none⟩ : Addr) = ad241 := (by injection e241); (first | simp only [add_plain] at hx241_0 | simp only [add_at] at hx241_0 | simp only [Addr.add, Nat.zero_add] at hx241_0 | skip); have qi241 : (5 < y240.length) = True := eq_true (by omega); (try rw [show ((5 : Int)).toNat = 5 from rfl] at hx241_0); replace p241 := eq_true p241; replace q241 := eq_true q241; have p32 : 0 ≤ (5 : Int) := (by omega); have q32 : (5 : Int) < ((t226.length : Int) : Int) := of_decide_eq_true (by first | (with_reducible assumption) | assumption); have qi32 : (5 < t226.length) = True := eq_true (by omega); obtain ⟨hx32_0, hf32_0⟩ := Kd.R_celln 0 HO_6.out (5 : Int) p32 q32; (try rw [show ((5 : Int)).toNat = 5 from rfl] at hx32_0); (try simp only [Nat.reduceMul, Nat.zero_mul, Nat.zero_add, Nat.reduceAdd] at hx32_0); (try rw [show ((5 : Int)).toNat = 5 from rfl] at hf32_0); (try simp only [Nat.reduceMul, Nat.zero_mul, Nat.zero_add, Nat.reduceAdd] at hf32_0); replace p32 := eq_true p32; replace q32 := eq_true q32; obtain ⟨hy43_, hz43_⟩ := Kd.R_celln 0 HO_6.out (5 : Int) (by omega) (of_decide_eq_true (by first | (with_reducible assumption) | assumption)); (try simp only [Int.reduceToNat, Int.toNat_zero, Int.toNat_ofNat, Nat.reduceMul, Nat.zero_mul, Nat.zero_add] at hy43_ hz43_); (try rw [show ((5 : Int)).toNat = 5 from rfl] at hy43_); (try rw [show ((5 : Int)).toNat = 5 from rfl] at hz43_); have HP43 := Kd.R_putg HO_6.out (5 : Int) (wrap64 ((rd y240 5) + 1))) | ((with_reducible refine gate_store (t := 3) (p := 57) rfl ?_); refine store_event (t := 3) (p := 57) (v := ?vo_w44) (w1 := (w42.setCell ⟨go30, (5 : Int).toNat, none⟩ (.int .i64 (wrap64 ((rd y240 5) + 1))))) ?hg ?ho ?hn ?hr ?_; (case ho => rfl); (case hg => rfl); (case hn => rfl); (case hr => first | (go_simp; done) | (go_simp; rfl)); intro w44 hw; have hg : w42.grownBy w44 (some go30) := (by rw [hw]; exact HP43.2); have hp_ : Kd.R (Kd.int .i64) 3 w44 w.heap.size (fun _ => True) (.slice (some ⟨go30, 0, none⟩) t226.length co40) y242 := (by rw [hw, Ny242.out]; exact HP43.1); clear HP43; have n0_ := Aside0.mk (hp_); have n1_ := Aside0.mk (blk_grown (g := gb238) (o := .cells #[.int .i64 ((rd_T94 l0 (rd l1 4)).f0), .int .i64 ((rd_T94 l0 (rd l1 4)).f1), .int .i64 ((rd_T94 l0 (rd l1 4)).f2)] 94 (0, 0)) (by (with_reducible repeat (first | refine blk_drewN ?_ _ | refine blk_drew ?_ | refine blk_alloc ?_ _)); exact BK238.out) hg (Kd.R_ne HO_6.out BK238.out (by decide))); have n2_ := Aside0.mk ((by rw [hw]; exact below_set (HB.out) GB30.out : Below w.heap.size w w44)); clear HO_6; clear BK238; clear HB; have HO_6 := n0_; have BK238 := n1_; have HB := n2_; clear n0_ n1_ n2_; clear hg hw hp_; have hcz45_0 : w44.cell? ⟨gb238, 0, none⟩ = some (.int .i64 ((rd_T94 l0 (rd l1 4)).f0)) := (blk_cell BK238.out 0).trans rfl; have hcz45_1 : w44.cell? ⟨gb238, 1, none⟩ = some (.int .i64 ((rd_T94 l0 (rd l1 4)).f1)) := (blk_cell BK238.out 1).trans rfl; have hcz45_2 : w44.cell? ⟨gb238, 2, none⟩ = some (.int .i64 ((rd_T94 l0 (rd l1 4)).f2)) := (blk_cell BK238.out 2).trans rfl; have hfz45_0 := blk_frozen BK238.out 0; have hfz45_1 := blk_frozen BK238.out 1; have hfz45_2 := blk_frozen BK238.out 2; have p36 : 0 ≤ (((rd_T94 l0 (rd l1 4)).f1) : Int) := of_decide_eq_true (by first | (with_reducible assumption) | assumption); have q36 : (((rd_T94 l0 (rd l1 4)).f1) : Int) < ((t226.length : Int) : Int) := of_decide_eq_true (by first | (with_reducible assumption) | assumption); obtain ⟨hx36_0, hf36_0⟩ := Kd.R_celln 0 HO_6.out (((rd_T94 l0 (rd l1 4)).f1) : Int) p36 q36; replace p36 := eq_true p36; replace q36 := eq_true q36; obtain ⟨hy46_, hz46_⟩ := Kd.R_celln 0 HO_6.out (((rd_T94 l0 (rd l1 4)).f1) : Int) (of_decide_eq_true (by first | (with_reducible assumption) | assumption)) (of_decide_eq_true (by first | (with_reducible assumption) | assumption)); have HP46 := Kd.R_putg HO_6.out (((rd_T94 l0 (rd l1 4)).f1) : Int) ((rd_T94 l0 (rd l1 4)).f2)) | ((with_reducible refine gate_store (t := 3) (p := 67) rfl ?_); refine store_event (t := 3) (p := 67) (v := ?vo_w47) (w1 := (w44.setCell ⟨go30, (((rd_T94 l0 (rd l1 4)).f1) : Int).toNat, none⟩ (.int .i64 ((rd_T94 l0 (rd l1 4)).f2)))) ?hg ?ho ?hn ?hr ?_; (case ho => rfl); (case hg => rfl); (case hn => rfl); (case hr => first | (go_simp; done) | (go_simp; rfl)); intro w47 hw; have hg : w44.grownBy w47 (some go30) := (by rw [hw]; exact HP46.2); have hp_ : Kd.R (Kd.int .i64) 3 w47 w.heap.size (fun _ => True) (.slice (some ⟨go30, 0, none⟩) t226.length co40) y243 := (by rw [hw, Ny243.out]; exact HP46.1); clear HP46; have n0_ := Aside0.mk (hp_); have n1_ := Aside0.mk (blk_grown (g := gb238) (o := .cells #[.int .i64 ((rd_T94 l0 (rd l1 4)).f0), .int .i64 ((rd_T94 l0 (rd l1 4)).f1), .int .i64 ((rd_T94 l0 (rd l1 4)).f2)] 94 (0, 0)) (by (with_reducible repeat (first | refine blk_drewN ?_ _ | refine blk_drew ?_ | refine blk_alloc ?_ _)); exact BK238.out) hg (Kd.R_ne HO_6.out BK238.out (by decide))); have n2_ := Aside0.mk ((by rw [hw]; exact below_set (HB.out) GB30.out : Below w.heap.size w w47)); clear HO_6; clear BK238; clear HB; have HO_6 := n0_; have BK238 := n1_; have HB := n2_; clear n0_ n1_ n2_; clear hg hw hp_))
                        go_ret2
                        exact ⟨_, by first | rfl | (simp [errW_none, errW_some] <;> rfl) | (simp [*, errW_none, errW_some] <;> rfl), by (with_reducible repeat (first | apply Kd.R_alloc | apply Kd.R_drewN | apply Kd.R_drew)); exact HO_6.out, by repeat (first | (with_reducible first | exact HB.out | apply below_alloc | apply pw_below_drewN | apply below_drew1 | refine below_set ?_ GE238.out) | exact HB.out)⟩
                      · rw [if_neg c35] at H
                        exact absurd H (by simp)
                    · rw [if_neg c34] at H
                      exact absurd H (by simp)
                  · rw [if_neg c33] at H
                    have c33b0 : (((rd_T94 l0 (rd l1 4)).f0) == 1) = false := beq_eq_false_iff_ne.mpr c33
                    have c33b1 : (((rd_T94 l0 (rd l1 4)).f0) != 1) = true := bne_iff_ne.mpr c33
                    by_cases c48 : ((rd_T94 l0 (rd l1 4)).f0) = 2
                    · rw [if_pos c48] at H
                      have c48b0 : (((rd_T94 l0 (rd l1 4)).f0) == 2) = true := beq_iff_eq.mpr c48
                      have c48b1 : (((rd_T94 l0 (rd l1 4)).f0) != 2) = false := bne_eq_false_iff_eq.mpr c48
                      clear c48
                      by_cases c49 : 0 ≤ ((rd_T94 l0 (rd l1 4)).f1)
                      · rw [if_pos c49] at H
                        have c49b0 : decide (0 ≤ ((rd_T94 l0 (rd l1 4)).f1)) = true := decide_eq_true c49
                        clear c49
                        by_cases c50 : ((rd_T94 l0 (rd l1 4)).f1) < (l1.length : Int)
                        · rw [if_pos c50] at H
                          have c50b0 : decide (((rd_T94 l0 (rd l1 4)).f1) < (l1.length : Int)) = true := decide_eq_true c50
                          clear c50
                          by_cases c51 : 0 ≤ ((rd_T94 l0 (rd l1 4)).f2)
                          · rw [if_pos c51] at H
                            have c51b0 : decide (0 ≤ ((rd_T94 l0 (rd l1 4)).f2)) = true := decide_eq_true c51
                            clear c51
                            by_cases c52 : ((rd_T94 l0 (rd l1 4)).f2) < (l1.length : Int)
                            · rw [if_pos c52] at H
                              have c52b0 : decide (((rd_T94 l0 (rd l1 4)).f2) < (l1.length : Int)) = true := decide_eq_true c52
                              clear c52
                              replace H := Option.bind_eq_some_iff.mp H
                              obtain ⟨t246, A530, H⟩ := H
                              replace H : (if ((rd_T94 l0 (rd l1 4)).f1) < (t226.length : Int) then (some ((y242.set (((rd_T94 l0 (rd l1 4)).f1) : Int).toNat t246), true)) else (none)) = some (r1, r2) := H
                              have A53 := Aside0.mk A530
                              clear A530
                              by_cases c54 : ((rd_T94 l0 (rd l1 4)).f1) < (t226.length : Int)
                              · rw [if_pos c54] at H
                                have c54b0 : decide (((rd_T94 l0 (rd l1 4)).f1) < (t226.length : Int)) = true := decide_eq_true c54
                                clear c54
                                obtain ⟨y247, hy247⟩ : ∃ y_ : List Int, y_ = (y242.set (((rd_T94 l0 (rd l1 4)).f1) : Int).toNat t246) := ⟨_, rfl⟩
                                replace H : (some (y247, true)) = some (r1, r2) := by first | (rw [hy247]; with_reducible exact H) | (have H2_ := (Option.bind_some _ _).symm.trans H; rw [hy247]; with_reducible exact H2_) | (have H2_ := (Option.bind_some _ _).symm.trans H; with_reducible exact H2_) | with_reducible exact H | (rw [hy247]; exact H) | exact H
                                have Ny247 := Aside0.mk hy247
                                clear hy247
                                simp only [Option.some.injEq, Prod.mk.injEq] at H
                                obtain ⟨rfl, rfl⟩ := H
                                have p236 : 0 ≤ (4 : Int) := (by omega)
                                have q236 : 4 < (l1.length : Int) := of_decide_eq_true (by first | (with_reducible assumption) | assumption)
                                obtain ⟨ad236, e236, hx236_0⟩ := Kd.at_int HR1.out 4 p236 q236
                                cases e236
                                (try simp only [show (4 : Int).toNat = 4 from rfl, Nat.reduceMul, Nat.reduceEqDiff, Go.Addr.add, ↓reduceIte] at hx236_0)
                                have qi236 : (4 < l1.length) = True := eq_true (by omega)
                                (try rw [show ((4 : Int)).toNat = 4 from rfl] at hx236_0)
                                replace hx236_0 := (HB.out.cell (World.block_lt_of_cell? w _ hx236_0)).trans hx236_0
                                replace p236 := eq_true p236
                                replace q236 := eq_true q236
                                have p237 : 0 ≤ ((rd l1 4) : Int) := of_decide_eq_true (by first | (with_reducible assumption) | assumption)
                                have q237 : (rd l1 4) < (l0.length : Int) := of_decide_eq_true (by first | (with_reducible assumption) | assumption)
                                obtain ⟨ad237, e237, hx237_0, hx237_1, hx237_2⟩ := at_T94 HR0.out (rd l1 4) p237 q237
                                cases e237
                                replace hx237_0 := (HB.out.cell (World.block_lt_of_cell? w _ hx237_0)).trans hx237_0
                                replace hx237_1 := (HB.out.cell (World.block_lt_of_cell? w _ hx237_1)).trans hx237_1
                                replace hx237_2 := (HB.out.cell (World.block_lt_of_cell? w _ hx237_2)).trans hx237_2
                                replace p237 := eq_true p237
                                replace q237 := eq_true q237
                                try go_wp2_with (first | ((with_reducible refine gate_dst (N := 7) rfl ?_); (try (refine gate_guard (by rfl) ?_; dsimp only)); refine box_event ?hg (N := 7) ?hd (cs := #[.int .i64 0, .int .i64 0, .int .i64 0]) (t := 94) ?hr ?_; (case hd => rfl); (case hg => rfl); (case hr => first | (go_simp; done) | (go_simp; rfl)); intro gb238 hg w56 hbox hb; have n0_ := Aside0.mk (Kd.R_below (by (with_reducible repeat (first | apply Kd.R_alloc | apply Kd.R_drewN | apply Kd.R_drew)); exact HO_6.out) hb); have n1_ := Aside0.mk (below_step (by repeat (first | (with_reducible first | exact HB.out | apply below_alloc | apply pw_below_drewN | apply below_drew1) | exact HB.out)) hb); have n2_ := Aside0.mk (hbox); have n3_ := Aside0.mk ((by rw [hg]; exact (below_size (by repeat (first | (with_reducible first | exact HB.out | apply below_alloc | apply pw_below_drewN | apply below_drew1) | exact HB.out))) : w.heap.size ≤ gb238)); have n4_ := Aside0.mk ((by rw [hg]; exact (below_size (by repeat (first | (with_reducible first | exact HB.out | apply below_alloc | apply pw_below_drewN | apply below_drew1) | exact HB.out))) : w.heap.size ≤ gb238)); clear HO_6; clear HB; have HO_6 := n0_; have HB := n1_; have BK238 := n2_; have GW238 := n3_; have GE238 := n4_; clear n0_ n1_ n2_ n3_ n4_; clear hb hbox hg; have hcz57_0 : w56.cell? ⟨gb238, 0, none⟩ = some (.int .i64 0) := (blk_cell BK238.out 0).trans rfl; have hcz57_1 : w56.cell? ⟨gb238, 1, none⟩ = some (.int .i64 0) := (blk_cell BK238.out 1).trans rfl; have hcz57_2 : w56.cell? ⟨gb238, 2, none⟩ = some (.int .i64 0) := (blk_cell BK238.out 2).trans rfl; have hfz57_0 := blk_frozen BK238.out 0; have hfz57_1 := blk_frozen BK238.out 1; have hfz57_2 := blk_frozen BK238.out 2) | ((with_reducible refine gate_store (t := 94) (p := 7) rfl ?_); refine store_event (t := 94) (p := 7) (v := ?vo_w58) (w1 := (((w56.setCell ⟨gb238, 0, none⟩ (.int .i64 ((rd_T94 l0 (rd l1 4)).f0))).setCell ⟨gb238, 1, none⟩ (.int .i64 ((rd_T94 l0 (rd l1 4)).f1))).setCell ⟨gb238, 2, none⟩ (.int .i64 ((rd_T94 l0 (rd l1 4)).f2)))) ?hg ?ho ?hn ?hr ?_; (case ho => rfl); (case hg => rfl); (case hn => rfl); (case hr => first | (go_simp; done) | (go_simp; rfl)); intro w58 hw; have n0_ : Aside0 (Kd.R (Kd.int .i64) 3 w58 w.heap.size (fun _ => True) v227 t226) := ⟨(by rw [hw]; exact (by (with_reducible repeat (first | apply Kd.R_alloc | apply Kd.R_drewN | apply Kd.R_drew)); exact Kd.R_mono (Kd.R_far (p := ⟨gb238, 2, none⟩) (Kd.R_far (p := ⟨gb238, 1, none⟩) (Kd.R_far (p := ⟨gb238, 0, none⟩) (Kd.R_types HO_6.out BK238.out (by decide)) (fun _ hk => hk.2) (.int .i64 ((rd_T94 l0 (rd l1 4)).f0))) (fun _ hk => hk.2) (.int .i64 ((rd_T94 l0 (rd l1 4)).f1))) (fun _ hk => hk.2) (.int .i64 ((rd_T94 l0 (rd l1 4)).f2))) (fun _ hk => trivial)))⟩; have n1_ : Aside0 (w58.heap[gb238]? = some (.cells #[.int .i64 ((rd_T94 l0 (rd l1 4)).f0), .int .i64 ((rd_T94 l0 (rd l1 4)).f1), .int .i64 ((rd_T94 l0 (rd l1 4)).f2)] 94 (0, 0))) := ⟨(by rw [hw]; exact (by (with_reducible repeat (first | refine blk_drewN ?_ _ | refine blk_drew ?_ | refine blk_alloc ?_ _)); refine blk_put (cs := #[.int .i64 ((rd_T94 l0 (rd l1 4)).f0), .int .i64 ((rd_T94 l0 (rd l1 4)).f1), .int .i64 0]) ?_ 2 _ rfl; (with_reducible repeat (first | refine blk_drewN ?_ _ | refine blk_drew ?_ | refine blk_alloc ?_ _)); refine blk_put (cs := #[.int .i64 ((rd_T94 l0 (rd l1 4)).f0), .int .i64 0, .int .i64 0]) ?_ 1 _ rfl; (with_reducible repeat (first | refine blk_drewN ?_ _ | refine blk_drew ?_ | refine blk_alloc ?_ _)); refine blk_put (cs := #[.int .i64 0, .int .i64 0, .int .i64 0]) ?_ 0 _ rfl; (with_reducible repeat (first | refine blk_drewN ?_ _ | refine blk_drew ?_ | refine blk_alloc ?_ _)); exact BK238.out))⟩; have n2_ : Aside0 (Below w.heap.size w w58) := ⟨(by rw [hw]; exact (by repeat (first | (with_reducible first | exact HB.out | apply below_alloc | apply pw_below_drewN | apply below_drew1 | refine below_set ?_ GE238.out) | exact HB.out)))⟩; clear hw; clear HO_6; clear BK238; clear HB; have HO_6 := n0_; have BK238 := n1_; have HB := n2_; clear n0_ n1_ n2_; obtain ⟨Ao59, co59, eo59⟩ := Kd.R_slice HO_6.out; subst eo59; have p239 : 0 ≤ (4 : Int) := (by omega); have q239 : 4 < (t226.length : Int) := of_decide_eq_true (by first | (with_reducible assumption) | assumption); obtain ⟨ad239, e239, hx239_0⟩ := Kd.at_int (Kd.R_reads' HO_6.out).2.2 4 p239 q239; cases e239; (try simp only [show (4 : Int).toNat = 4 from rfl, Nat.reduceMul, Nat.reduceEqDiff, Go.Addr.add, ↓reduceIte] at hx239_0); have qi239 : (4 < t226.length) = True := eq_true (by omega); (try rw [show ((4 : Int)).toNat = 4 from rfl] at hx239_0); replace p239 := eq_true p239; replace q239 := eq_true q239; have p30 : 0 ≤ (4 : Int) := (by omega); have q30 : (4 : Int) < ((t226.length : Int) : Int) := of_decide_eq_true (by first | (with_reducible assumption) | assumption); have qi30 : (4 < t226.length) = True := eq_true (by omega); obtain ⟨go30, co30, eo30, gb30, gl30, cl30, HG30⟩ := Kd.R_form HO_6.out (by omega); (first | cases eo30 | (injection eo30 with ea_ en_ ec_; (first | subst ea_ | (injection ea_ with ea_; subst ea_)); subst ec_; clear en_)); have GB30 := Aside0.mk gb30; have GG30 := Aside0.mk HG30; clear gb30 gl30 HG30; (first | simp only [add_plain] at hx239_0 | skip); obtain ⟨hx30_0, hf30_0⟩ := Kd.R_celln 0 HO_6.out (4 : Int) p30 q30; (try rw [show ((4 : Int)).toNat = 4 from rfl] at hx30_0); (try simp only [Nat.reduceMul, Nat.zero_mul, Nat.zero_add, Nat.reduceAdd] at hx30_0); (try rw [show ((4 : Int)).toNat = 4 from rfl] at hf30_0); (try simp only [Nat.reduceMul, Nat.zero_mul, Nat.zero_add, Nat.reduceAdd] at hf30_0); replace p30 := eq_true p30; replace q30 := eq_true q30; obtain ⟨hy60_, hz60_⟩ := Kd.R_celln 0 HO_6.out (4 : Int) (by omega) (of_decide_eq_true (by first | (with_reducible assumption) | assumption)); (try simp only [Int.reduceToNat, Int.toNat_zero, Int.toNat_ofNat, Nat.reduceMul, Nat.zero_mul, Nat.zero_add] at hy60_ hz60_); (try rw [show ((4 : Int)).toNat = 4 from rfl] at hy60_); (try rw [show ((4 : Int)).toNat = 4 from rfl] at hz60_); have HP60 := Kd.R_putg HO_6.out (4 : Int) (wrap64 ((rd t226 4) + 1))) | ((with_reducible refine gate_store (t := 3) (p := 52) rfl ?_); refine store_event (t := 3) (p := 52) (v := ?vo_w61) (w1 := (w58.setCell ⟨go30, (4 : Int).toNat, none⟩ (.int .i64 (wrap64 ((rd t226 4) + 1))))) ?hg ?ho ?hn ?hr ?_; (case ho => rfl); (case hg => rfl); (case hn => rfl); (case hr => first | (go_simp; done) | (go_simp; rfl)); intro w61 hw; have hg : w58.grownBy w61 (some go30) := (by rw [hw]; exact HP60.2); have hp_ : Kd.R (Kd.int .i64) 3 w61 w.heap.size (fun _ => True) (.slice (some ⟨go30, 0, none⟩) t226.length co59) y240 := (by rw [hw, Ny240.out]; exact HP60.1); clear HP60; have n0_ := Aside0.mk (hp_); have n1_ := Aside0.mk (blk_grown (g := gb238) (o := .cells #[.int .i64 ((rd_T94 l0 (rd l1 4)).f0), .int .i64 ((rd_T94 l0 (rd l1 4)).f1), .int .i64 ((rd_T94 l0 (rd l1 4)).f2)] 94 (0, 0)) (by (with_reducible repeat (first | refine blk_drewN ?_ _ | refine blk_drew ?_ | refine blk_alloc ?_ _)); exact BK238.out) hg (Kd.R_ne HO_6.out BK238.out (by decide))); have n2_ := Aside0.mk ((by rw [hw]; exact below_set (HB.out) GB30.out : Below w.heap.size w w61)); clear HO_6; clear BK238; clear HB; have HO_6 := n0_; have BK238 := n1_; have HB := n2_; clear n0_ n1_ n2_; clear hg hw hp_; have p241 : 0 ≤ (5 : Int) := (by omega); have q241 : 5 < (y240.length : Int) := (by have h_ : (5 : Int) < ((t226.length : Int) : Int) := of_decide_eq_true (by first | (with_reducible assumption) | assumption); first | (have e_ := (Kd.R_reads' HO_6.out).1; omega) | simpa only [Ny240.out, List.length_set] using h_); have ql241 : ((5 : Int) < ((t226.length : Int) : Int)) = True := eq_true (of_decide_eq_true (by first | (with_reducible assumption) | assumption)); (try have qn241 : (5 < t226.length) = True := eq_true (by have h_ : (5 : Int) < ((t226.length : Int) : Int) := of_decide_eq_true (by first | (with_reducible assumption) | assumption); omega)); obtain ⟨ad241, e241, hx241_0⟩ := Kd.at_int (Kd.R_reads' HO_6.out).2.2 5 p241 q241; obtain rfl : (⟨go30, 0, none⟩ : Addr) = ad241 := (by injection e241); (first | simp only [add_plain] at hx241_0 | simp only [add_at] at hx241_0 | simp only [Addr.add, Nat.zero_add] at hx241_0 | skip); have qi241 : (5 < y240.length) = True := eq_true (by omega); (try rw [show ((5 : Int)).toNat = 5 from rfl] at hx241_0); replace p241 := eq_true p241; replace q241 := eq_true q241; have p32 : 0 ≤ (5 : Int) := (by omega); have q32 : (5 : Int) < ((t226.length : Int) : Int) := of_decide_eq_true (by first | (with_reducible assumption) | assumption); have qi32 : (5 < t226.length) = True := eq_true (by omega); obtain ⟨hx32_0, hf32_0⟩ := Kd.R_celln 0 HO_6.out (5 : Int) p32 q32; (try rw [show ((5 : Int)).toNat = 5 from rfl] at hx32_0); (try simp only [Nat.reduceMul, Nat.zero_mul, Nat.zero_add, Nat.reduceAdd] at hx32_0); (try rw [show ((5 : Int)).toNat = 5 from rfl] at hf32_0); (try simp only [Nat.reduceMul, Nat.zero_mul, Nat.zero_add, Nat.reduceAdd] at hf32_0); replace p32 := eq_true p32; replace q32 := eq_true q32; obtain ⟨hy62_, hz62_⟩ := Kd.R_celln 0 HO_6.out (5 : Int) (by omega) (of_decide_eq_true (by first | (with_reducible assumption) | assumption)); (try simp only [Int.reduceToNat, Int.toNat_zero, Int.toNat_ofNat, Nat.reduceMul, Nat.zero_mul, Nat.zero_add] at hy62_ hz62_); (try rw [show ((5 : Int)).toNat = 5 from rfl] at hy62_); (try rw [show ((5 : Int)).toNat = 5 from rfl] at hz62_); have HP62 := Kd.R_putg HO_6.out (5 : Int) (wrap64 ((rd y240 5) + 1))) | ((with_reducible refine gate_store (t := 3) (p := 57) rfl ?_); refine store_event (t := 3) (p := 57) (v := ?vo_w63) (w1 := (w61.setCell ⟨go30, (5 : Int).toNat, none⟩ (.int .i64 (wrap64 ((rd y240 5) + 1))))) ?hg ?ho ?hn ?hr ?_; (case ho => rfl); (case hg => rfl); (case hn => rfl); (case hr => first | (go_simp; done) | (go_simp; rfl)); intro w63 hw; have hg : w61.grownBy w63 (some go30) := (by rw [hw]; exact HP62.2); have hp_ : Kd.R (Kd.int .i64) 3 w63 w.heap.size (fun _ => True) (.slice (some ⟨go30, 0, none⟩) t226.length co59) y242 := (by rw [hw, Ny242.out]; exact HP62.1); clear HP62; have n0_ := Aside0.mk (hp_); have n1_ := Aside0.mk (blk_grown (g := gb238) (o := .cells #[.int .i64 ((rd_T94 l0 (rd l1 4)).f0), .int .i64 ((rd_T94 l0 (rd l1 4)).f1), .int .i64 ((rd_T94 l0 (rd l1 4)).f2)] 94 (0, 0)) (by (with_reducible repeat (first | refine blk_drewN ?_ _ | refine blk_drew ?_ | refine blk_alloc ?_ _)); exact BK238.out) hg (Kd.R_ne HO_6.out BK238.out (by decide))); have n2_ := Aside0.mk ((by rw [hw]; exact below_set (HB.out) GB30.out : Below w.heap.size w w63)); clear HO_6; clear BK238; clear HB; have HO_6 := n0_; have BK238 := n1_; have HB := n2_; clear n0_ n1_ n2_; clear hg hw hp_; have hcz64_0 : w63.cell? ⟨gb238, 0, none⟩ = some (.int .i64 ((rd_T94 l0 (rd l1 4)).f0)) := (blk_cell BK238.out 0).trans rfl; have hcz64_1 : w63.cell? ⟨gb238, 1, none⟩ = some (.int .i64 ((rd_T94 l0 (rd l1 4)).f1)) := (blk_cell BK238.out 1).trans rfl; have hcz64_2 : w63.cell? ⟨gb238, 2, none⟩ = some (.int .i64 ((rd_T94 l0 (rd l1 4)).f2)) := (blk_cell BK238.out 2).trans rfl; have hfz64_0 := blk_frozen BK238.out 0; have hfz64_1 := blk_frozen BK238.out 1; have hfz64_2 := blk_frozen BK238.out 2))
                                have n0_ := Aside0.mk (Kd.R_drew HO_6.out)
                                have n1_ := Aside0.mk (blk_drew BK238.out)
                                have n2_ := Aside0.mk (below_drew1 HB.out)
                                clear HO_6
                                clear BK238
                                clear HB
                                have HO_6 := n0_
                                have BK238 := n1_
                                have HB := n2_
                                clear n0_ n1_ n2_
                                have p244 : 0 ≤ (((rd_T94 l0 (rd l1 4)).f1) : Int) := of_decide_eq_true (by first | (with_reducible assumption) | assumption)
                                have q244 : ((rd_T94 l0 (rd l1 4)).f1) < (l1.length : Int) := of_decide_eq_true (by first | (with_reducible assumption) | assumption)
                                obtain ⟨ad244, e244, hx244_0⟩ := Kd.at_int HR1.out ((rd_T94 l0 (rd l1 4)).f1) p244 q244
                                have hw244_0 := hx244_0
                                obtain rfl : ad236 = ad244 := (by injection e244)
                                replace hx244_0 := (HB.out.cell (World.block_lt_of_cell? w _ hx244_0)).trans hx244_0
                                replace p244 := eq_true p244
                                replace q244 := eq_true q244
                                have p245 : 0 ≤ (((rd_T94 l0 (rd l1 4)).f2) : Int) := of_decide_eq_true (by first | (with_reducible assumption) | assumption)
                                have q245 : ((rd_T94 l0 (rd l1 4)).f2) < (l1.length : Int) := of_decide_eq_true (by first | (with_reducible assumption) | assumption)
                                obtain ⟨ad245, e245, hx245_0⟩ := Kd.at_int HR1.out ((rd_T94 l0 (rd l1 4)).f2) p245 q245
                                have hw245_0 := hx245_0
                                obtain rfl : ad236 = ad245 := (by injection e245)
                                replace hx245_0 := (HB.out.cell (World.block_lt_of_cell? w _ hx245_0)).trans hx245_0
                                replace p245 := eq_true p245
                                replace q245 := eq_true q245
                                refine start_ (n := 16) (S := fun w' => w'.cell? ⟨gb238, 0, none⟩ = some (.int .i64 ((rd_T94 l0 (rd l1 4)).f0)) ∧ w'.cell? ⟨gb238, 1, none⟩ = some (.int .i64 ((rd_T94 l0 (rd l1 4)).f1)) ∧ w'.cell? ⟨gb238, 2, none⟩ = some (.int .i64 ((rd_T94 l0 (rd l1 4)).f2)) ∧ w'.cell? (ad236.add (((rd_T94 l0 (rd l1 4)).f1)).toNat) = some (.int .i64 (rd l1 ((rd_T94 l0 (rd l1 4)).f1))) ∧ w'.cell? (ad236.add (((rd_T94 l0 (rd l1 4)).f2)).toNat) = some (.int .i64 (rd l1 ((rd_T94 l0 (rd l1 4)).f2)))) (ds := [15]) #[false, false, false, false, false, false, false, false, false, false, false, false, false, false, false, false] (by kernel_rfl) rfl rfl ⟨(blk_cell BK238.out 0).trans rfl, (blk_cell BK238.out 1).trans rfl, (blk_cell BK238.out 2).trans rfl, ((HB.out.cell (World.block_lt_of_cell? w _ hw244_0)).trans hw244_0), ((HB.out.cell (World.block_lt_of_cell? w _ hw245_0)).trans hw245_0)⟩ (fun hHeld => ?_); refine with_tabW impl_StepCode.tab11 impl_StepCode.bits11 (fun HT_ HW_ => ?_)
                                generalize w63.drew = w65 at HO_6 BK238 HB hx244_0 hx245_0 hHeld ⊢
                                refine pure_ (i := 0) (N := some 70) (v := ?_) (a' := ?_) #[true, false, false, false, false, false, false, false, false, false, false, false, false, false, false, false] rfl rfl (any_of HT_.out (by kernel_rfl)) (fun _ _ _ h => h) (Or.inl ⟨by rfl, ?_⟩) ?_ ?_
                                rotate_left
                                · intro w'
                                  go_simp
                                  with_reducible rfl
                                rotate_left
                                · simp only [Act.put, List.setIfInBounds_toArray, List.set_cons_zero, List.set_cons_succ, i64_w, i32_w]
                                  rfl
                                refine pure_ (i := 1) (N := some 71) (v := ?_) (a' := ?_) #[true, true, false, false, false, false, false, false, false, false, false, false, false, false, false, false] rfl rfl (any_of HT_.out (by kernel_rfl)) (fun _ _ _ h => h) (Or.inl ⟨by rfl, ?_⟩) ?_ ?_
                                rotate_left
                                · intro w'
                                  go_simp
                                  with_reducible rfl
                                rotate_left
                                · simp only [Act.put, List.setIfInBounds_toArray, List.set_cons_zero, List.set_cons_succ, i64_w, i32_w]
                                  rfl
                                refine pure_ (i := 3) (N := some 73) (v := ?_) (a' := ?_) #[true, true, false, true, false, false, false, false, false, false, false, false, false, false, false, false] rfl rfl (any_of HT_.out (by kernel_rfl)) (fun _ _ _ h => h) (Or.inl ⟨by rfl, ?_⟩) ?_ ?_
                                rotate_left
                                · intro w'
                                  go_simp
                                  with_reducible rfl
                                rotate_left
                                · simp only [Act.put, List.setIfInBounds_toArray, List.set_cons_zero, List.set_cons_succ, i64_w, i32_w]
                                  rfl
                                refine pure_ (i := 4) (N := some 74) (v := ?_) (a' := ?_) #[true, true, false, true, true, false, false, false, false, false, false, false, false, false, false, false] rfl rfl (any_of HT_.out (by kernel_rfl)) (fun _ _ _ h => h) (Or.inl ⟨by rfl, ?_⟩) ?_ ?_
                                rotate_left
                                · intro w'
                                  go_simp
                                  with_reducible rfl
                                rotate_left
                                · simp only [Act.put, List.setIfInBounds_toArray, List.set_cons_zero, List.set_cons_succ, i64_w, i32_w]
                                  rfl
                                refine pure_ (i := 8) (N := some 78) (v := ?_) (a' := ?_) #[true, true, false, true, true, false, false, false, true, false, false, false, false, false, false, false] rfl rfl (any_of HT_.out (by kernel_rfl)) (fun _ _ _ h => h) (Or.inl ⟨by rfl, ?_⟩) ?_ ?_
                                rotate_left
                                · intro w'
                                  go_simp
                                  with_reducible rfl
                                rotate_left
                                · simp only [Act.put, List.setIfInBounds_toArray, List.set_cons_zero, List.set_cons_succ, i64_w, i32_w]
                                  rfl
                                refine pure_ (i := 9) (N := some 79) (v := ?_) (a' := ?_) #[true, true, false, true, true, false, false, false, true, true, false, false, false, false, false, false] rfl rfl (any_of HT_.out (by kernel_rfl)) (fun _ _ _ h => h) (Or.inl ⟨by rfl, ?_⟩) ?_ ?_
                                rotate_left
                                · intro w'
                                  go_simp
                                  with_reducible rfl
                                rotate_left
                                · simp only [Act.put, List.setIfInBounds_toArray, List.set_cons_zero, List.set_cons_succ, i64_w, i32_w]
                                  rfl
                                refine take_ (i := 2) (N := some 72) (v := ?_) (a' := ?_) #[true, true, true, true, true, false, false, false, true, true, false, false, false, false, false, false] rfl rfl (take_ofW HT_.out HW_.out (by kernel_rfl)) (fun _ _ _ h => h) (Or.inl ⟨by rfl, ?_⟩) hHeld ?_ ?_
                                rotate_left
                                · rintro w' ⟨s0, s1, s2, s3, s4⟩
                                  go_simp
                                  with_reducible rfl
                                rotate_left
                                · simp only [Act.put, List.setIfInBounds_toArray, List.set_cons_zero, List.set_cons_succ, i64_w, i32_w]
                                  rfl
                                refine take_ (i := 5) (N := some 75) (v := ?_) (a' := ?_) #[true, true, true, true, true, true, false, false, true, true, false, false, false, false, false, false] rfl rfl (take_ofW HT_.out HW_.out (by kernel_rfl)) (fun _ _ _ h => h) (Or.inl ⟨by rfl, ?_⟩) hHeld ?_ ?_
                                rotate_left
                                · rintro w' ⟨s0, s1, s2, s3, s4⟩
                                  go_simp
                                  with_reducible rfl
                                rotate_left
                                · simp only [Act.put, List.setIfInBounds_toArray, List.set_cons_zero, List.set_cons_succ, i64_w, i32_w]
                                  rfl
                                refine pure_ (i := 6) (N := some 76) (v := ?_) (a' := ?_) #[true, true, true, true, true, true, true, false, true, true, false, false, false, false, false, false] rfl rfl (any_of HT_.out (by kernel_rfl)) (fun _ _ _ h => h) (Or.inl ⟨by rfl, ?_⟩) ?_ ?_
                                rotate_left
                                · intro w'
                                  go_simp
                                  with_reducible rfl
                                rotate_left
                                · simp only [Act.put, List.setIfInBounds_toArray, List.set_cons_zero, List.set_cons_succ, i64_w, i32_w]
                                  rfl
                                refine take_ (i := 7) (N := some 77) (v := ?_) (a' := ?_) #[true, true, true, true, true, true, true, true, true, true, false, false, false, false, false, false] rfl rfl (take_ofW HT_.out HW_.out (by kernel_rfl)) (fun _ _ _ h => h) (Or.inl ⟨by rfl, ?_⟩) hHeld ?_ ?_
                                rotate_left
                                · rintro w' ⟨s0, s1, s2, s3, s4⟩
                                  go_simp
                                  with_reducible rfl
                                rotate_left
                                · simp only [Act.put, List.setIfInBounds_toArray, List.set_cons_zero, List.set_cons_succ, i64_w, i32_w]
                                  rfl
                                refine take_ (i := 10) (N := some 80) (v := ?_) (a' := ?_) #[true, true, true, true, true, true, true, true, true, true, true, false, false, false, false, false] rfl rfl (take_ofW HT_.out HW_.out (by kernel_rfl)) (fun _ _ _ h => h) (Or.inl ⟨by rfl, ?_⟩) hHeld ?_ ?_
                                rotate_left
                                · rintro w' ⟨s0, s1, s2, s3, s4⟩
                                  go_simp
                                  with_reducible rfl
                                rotate_left
                                · simp only [Act.put, List.setIfInBounds_toArray, List.set_cons_zero, List.set_cons_succ, i64_w, i32_w]
                                  rfl
                                refine pure_ (i := 11) (N := some 81) (v := ?_) (a' := ?_) #[true, true, true, true, true, true, true, true, true, true, true, true, false, false, false, false] rfl rfl (any_of HT_.out (by kernel_rfl)) (fun _ _ _ h => h) (Or.inl ⟨by rfl, ?_⟩) ?_ ?_
                                rotate_left
                                · intro w'
                                  go_simp
                                  with_reducible rfl
                                rotate_left
                                · simp only [Act.put, List.setIfInBounds_toArray, List.set_cons_zero, List.set_cons_succ, i64_w, i32_w]
                                  rfl
                                refine take_ (i := 12) (N := some 82) (v := ?_) (a' := ?_) #[true, true, true, true, true, true, true, true, true, true, true, true, true, false, false, false] rfl rfl (take_ofW HT_.out HW_.out (by kernel_rfl)) (fun _ _ _ h => h) (Or.inl ⟨by rfl, ?_⟩) hHeld ?_ ?_
                                rotate_left
                                · rintro w' ⟨s0, s1, s2, s3, s4⟩
                                  go_simp
                                  with_reducible rfl
                                rotate_left
                                · simp only [Act.put, List.setIfInBounds_toArray, List.set_cons_zero, List.set_cons_succ, i64_w, i32_w]
                                  rfl
                                refine one_ (i := 13) (N := some 83) #[true, true, true, true, true, true, true, true, true, true, true, true, true, true, false, false] rfl rfl (one_of HT_.out (by kernel_rfl)) (by decide) (fun K hK => ?_)
                                refine goes_ Try.func72 (by kernel_rfl) rfl #[.int .i64 (rd l1 ((rd_T94 l0 (rd l1 4)).f1)), .int .i64 (rd l1 ((rd_T94 l0 (rd l1 4)).f2))] (by rfl) rfl rfl (by (try simp only [List.map_toArray, List.map_cons, List.map_nil]); first | done | rfl | (simp only [List.length_drop, List.length_take]; rfl)) ?_
                                with_reducible refine (impl_AddValues.calls (rd l1 ((rd_T94 l0 (rd l1 4)).f1)) (rd l1 ((rd_T94 l0 (rd l1 4)).f2)) t246 _ A53.out).mono ?_
                                rintro e w66 ⟨rfl, hb⟩
                                refine ⟨_, rfl, ?_⟩
                                have n0_ := Aside0.mk (Kd.R_below (by (with_reducible repeat (first | apply Kd.R_alloc | apply Kd.R_drewN | apply Kd.R_drew)); exact HO_6.out) hb)
                                have n1_ := Aside0.mk (blk_below (g := gb238) (o := .cells #[.int .i64 ((rd_T94 l0 (rd l1 4)).f0), .int .i64 ((rd_T94 l0 (rd l1 4)).f1), .int .i64 ((rd_T94 l0 (rd l1 4)).f2)] 94 (0, 0)) (by (with_reducible repeat (first | refine blk_drewN ?_ _ | refine blk_drew ?_ | refine blk_alloc ?_ _)); exact BK238.out) hb)
                                have n2_ := Aside0.mk (below_step (by repeat (first | (with_reducible first | exact HB.out | apply below_alloc | apply pw_below_drewN | apply below_drew1 | refine below_set ?_ GE238.out) | exact HB.out)) hb)
                                clear HO_6
                                clear BK238
                                clear HB
                                have HO_6 := n0_
                                have BK238 := n1_
                                have HB := n2_
                                clear n0_ n1_ n2_
                                (try clear hb)
                                (try clear hb2)
                                (try clear hk)
                                (try clear hi)
                                have p55 : 0 ≤ (((rd_T94 l0 (rd l1 4)).f1) : Int) := of_decide_eq_true (by first | (with_reducible assumption) | assumption)
                                have q55 : (((rd_T94 l0 (rd l1 4)).f1) : Int) < ((t226.length : Int) : Int) := of_decide_eq_true (by first | (with_reducible assumption) | assumption)
                                obtain ⟨hx55_0, hf55_0⟩ := Kd.R_celln 0 HO_6.out (((rd_T94 l0 (rd l1 4)).f1) : Int) p55 q55
                                replace p55 := eq_true p55
                                replace q55 := eq_true q55
                                have HP67 := Kd.R_putn HO_6.out (((rd_T94 l0 (rd l1 4)).f1) : Int) t246
                                rw [← Ny247.out] at HP67
                                have HQ67 := Aside0.mk HP67
                                clear HP67
                                refine hK.out _ _ ⟨(blk_cell BK238.out 0).trans rfl, (blk_cell BK238.out 1).trans rfl, (blk_cell BK238.out 2).trans rfl, ((HB.out.cell (World.block_lt_of_cell? w _ hw244_0)).trans hw244_0), ((HB.out.cell (World.block_lt_of_cell? w _ hw245_0)).trans hw245_0)⟩ (fun hHeld => ?_)
                                clear hK K
                                refine norm_ (a' := ?_) ?_ ?_
                                rotate_left
                                · show Act.put _ (some 83) _ = _
                                  simp only [Act.put, List.setIfInBounds_toArray, List.set_cons_zero, List.set_cons_succ, i64_w, i32_w]
                                  rfl
                                refine pure_ (i := 14) (N := some 84) (v := ?_) (a' := ?_) #[true, true, true, true, true, true, true, true, true, true, true, true, true, true, true, false] rfl rfl (any_of HT_.out (by kernel_rfl)) (fun _ _ _ h => h) (Or.inl ⟨by rfl, ?_⟩) ?_ ?_
                                rotate_left
                                · intro w'
                                  go_simp
                                  with_reducible rfl
                                rotate_left
                                · simp only [Act.put, List.setIfInBounds_toArray, List.set_cons_zero, List.set_cons_succ, i64_w, i32_w]
                                  rfl
                                refine last_ (i := 15) (N := none) #[true, true, true, true, true, true, true, true, true, true, true, true, true, true, true, true] rfl rfl (one_of HT_.out (by kernel_rfl)) (by decide) (fun K hK => ?_)
                                refine skip_ (w1 := ?_) (by rfl) rfl ?_ ?_
                                rotate_left
                                · go_simp
                                  rfl
                                refine hK.out _ _ ?_
                                clear hK K
                                refine done_ (done_of HT_.out (by kernel_rfl)) ?_
                                try go_wp2
                                go_ret2
                                exact ⟨_, by first | rfl | (simp [errW_none, errW_some] <;> rfl) | (simp [*, errW_none, errW_some] <;> rfl), by (with_reducible repeat (first | apply Kd.R_alloc | apply Kd.R_drewN | apply Kd.R_drew)); exact HQ67.out, by repeat (first | (with_reducible first | exact HB.out | apply below_alloc | apply pw_below_drewN | apply below_drew1 | refine below_set ?_ GB30.out | refine below_set ?_ GE238.out) | exact HB.out)⟩
                              · rw [if_neg c54] at H
                                exact absurd H (by simp)
                            · rw [if_neg c52] at H
                              exact absurd H (by simp)
                          · rw [if_neg c51] at H
                            exact absurd H (by simp)
                        · rw [if_neg c50] at H
                          exact absurd H (by simp)
                      · rw [if_neg c49] at H
                        exact absurd H (by simp)
                    · rw [if_neg c48] at H
                      have c48b0 : (((rd_T94 l0 (rd l1 4)).f0) == 2) = false := beq_eq_false_iff_ne.mpr c48
                      have c48b1 : (((rd_T94 l0 (rd l1 4)).f0) != 2) = true := bne_iff_ne.mpr c48
                      by_cases c68 : ((rd_T94 l0 (rd l1 4)).f0) = 3
                      · rw [if_pos c68] at H
                        have c68b0 : (((rd_T94 l0 (rd l1 4)).f0) == 3) = true := beq_iff_eq.mpr c68
                        have c68b1 : (((rd_T94 l0 (rd l1 4)).f0) != 3) = false := bne_eq_false_iff_eq.mpr c68
                        clear c68
                        by_cases c69 : 0 ≤ ((rd_T94 l0 (rd l1 4)).f1)
                        · rw [if_pos c69] at H
                          have c69b0 : decide (0 ≤ ((rd_T94 l0 (rd l1 4)).f1)) = true := decide_eq_true c69
                          clear c69
                          by_cases c70 : ((rd_T94 l0 (rd l1 4)).f1) < (l1.length : Int)
                          · rw [if_pos c70] at H
                            have c70b0 : decide (((rd_T94 l0 (rd l1 4)).f1) < (l1.length : Int)) = true := decide_eq_true c70
                            clear c70
                            by_cases c71 : 0 ≤ ((rd_T94 l0 (rd l1 4)).f2)
                            · rw [if_pos c71] at H
                              have c71b0 : decide (0 ≤ ((rd_T94 l0 (rd l1 4)).f2)) = true := decide_eq_true c71
                              clear c71
                              by_cases c72 : ((rd_T94 l0 (rd l1 4)).f2) < (l1.length : Int)
                              · rw [if_pos c72] at H
                                have c72b0 : decide (((rd_T94 l0 (rd l1 4)).f2) < (l1.length : Int)) = true := decide_eq_true c72
                                clear c72
                                replace H := Option.bind_eq_some_iff.mp H
                                obtain ⟨t250, A730, H⟩ := H
                                replace H : (if ((rd_T94 l0 (rd l1 4)).f1) < (t226.length : Int) then (some ((y242.set (((rd_T94 l0 (rd l1 4)).f1) : Int).toNat t250), true)) else (none)) = some (r1, r2) := H
                                have A73 := Aside0.mk A730
                                clear A730
                                by_cases c74 : ((rd_T94 l0 (rd l1 4)).f1) < (t226.length : Int)
                                · rw [if_pos c74] at H
                                  have c74b0 : decide (((rd_T94 l0 (rd l1 4)).f1) < (t226.length : Int)) = true := decide_eq_true c74
                                  clear c74
                                  obtain ⟨y251, hy251⟩ : ∃ y_ : List Int, y_ = (y242.set (((rd_T94 l0 (rd l1 4)).f1) : Int).toNat t250) := ⟨_, rfl⟩
                                  replace H : (some (y251, true)) = some (r1, r2) := by first | (rw [hy251]; with_reducible exact H) | (have H2_ := (Option.bind_some _ _).symm.trans H; rw [hy251]; with_reducible exact H2_) | (have H2_ := (Option.bind_some _ _).symm.trans H; with_reducible exact H2_) | with_reducible exact H | (rw [hy251]; exact H) | exact H
                                  have Ny251 := Aside0.mk hy251
                                  clear hy251
                                  simp only [Option.some.injEq, Prod.mk.injEq] at H
                                  obtain ⟨rfl, rfl⟩ := H
                                  have p236 : 0 ≤ (4 : Int) := (by omega)
                                  have q236 : 4 < (l1.length : Int) := of_decide_eq_true (by first | (with_reducible assumption) | assumption)
                                  obtain ⟨ad236, e236, hx236_0⟩ := Kd.at_int HR1.out 4 p236 q236
                                  cases e236
                                  (try simp only [show (4 : Int).toNat = 4 from rfl, Nat.reduceMul, Nat.reduceEqDiff, Go.Addr.add, ↓reduceIte] at hx236_0)
                                  have qi236 : (4 < l1.length) = True := eq_true (by omega)
                                  (try rw [show ((4 : Int)).toNat = 4 from rfl] at hx236_0)
                                  replace hx236_0 := (HB.out.cell (World.block_lt_of_cell? w _ hx236_0)).trans hx236_0
                                  replace p236 := eq_true p236
                                  replace q236 := eq_true q236
                                  have p237 : 0 ≤ ((rd l1 4) : Int) := of_decide_eq_true (by first | (with_reducible assumption) | assumption)
                                  have q237 : (rd l1 4) < (l0.length : Int) := of_decide_eq_true (by first | (with_reducible assumption) | assumption)
                                  obtain ⟨ad237, e237, hx237_0, hx237_1, hx237_2⟩ := at_T94 HR0.out (rd l1 4) p237 q237
                                  cases e237
                                  replace hx237_0 := (HB.out.cell (World.block_lt_of_cell? w _ hx237_0)).trans hx237_0
                                  replace hx237_1 := (HB.out.cell (World.block_lt_of_cell? w _ hx237_1)).trans hx237_1
                                  replace hx237_2 := (HB.out.cell (World.block_lt_of_cell? w _ hx237_2)).trans hx237_2
                                  replace p237 := eq_true p237
                                  replace q237 := eq_true q237
                                  try go_wp2_with (first | ((with_reducible refine gate_dst (N := 7) rfl ?_); (try (refine gate_guard (by rfl) ?_; dsimp only)); refine box_event ?hg (N := 7) ?hd (cs := #[.int .i64 0, .int .i64 0, .int .i64 0]) (t := 94) ?hr ?_; (case hd => rfl); (case hg => rfl); (case hr => first | (go_simp; done) | (go_simp; rfl)); intro gb238 hg w76 hbox hb; have n0_ := Aside0.mk (Kd.R_below (by (with_reducible repeat (first | apply Kd.R_alloc | apply Kd.R_drewN | apply Kd.R_drew)); exact HO_6.out) hb); have n1_ := Aside0.mk (below_step (by repeat (first | (with_reducible first | exact HB.out | apply below_alloc | apply pw_below_drewN | apply below_drew1) | exact HB.out)) hb); have n2_ := Aside0.mk (hbox); have n3_ := Aside0.mk ((by rw [hg]; exact (below_size (by repeat (first | (with_reducible first | exact HB.out | apply below_alloc | apply pw_below_drewN | apply below_drew1) | exact HB.out))) : w.heap.size ≤ gb238)); have n4_ := Aside0.mk ((by rw [hg]; exact (below_size (by repeat (first | (with_reducible first | exact HB.out | apply below_alloc | apply pw_below_drewN | apply below_drew1) | exact HB.out))) : w.heap.size ≤ gb238)); clear HO_6; clear HB; have HO_6 := n0_; have HB := n1_; have BK238 := n2_; have GW238 := n3_; have GE238 := n4_; clear n0_ n1_ n2_ n3_ n4_; clear hb hbox hg; have hcz77_0 : w76.cell? ⟨gb238, 0, none⟩ = some (.int .i64 0) := (blk_cell BK238.out 0).trans rfl; have hcz77_1 : w76.cell? ⟨gb238, 1, none⟩ = some (.int .i64 0) := (blk_cell BK238.out 1).trans rfl; have hcz77_2 : w76.cell? ⟨gb238, 2, none⟩ = some (.int .i64 0) := (blk_cell BK238.out 2).trans rfl; have hfz77_0 := blk_frozen BK238.out 0; have hfz77_1 := blk_frozen BK238.out 1; have hfz77_2 := blk_frozen BK238.out 2) | ((with_reducible refine gate_store (t := 94) (p := 7) rfl ?_); refine store_event (t := 94) (p := 7) (v := ?vo_w78) (w1 := (((w76.setCell ⟨gb238, 0, none⟩ (.int .i64 ((rd_T94 l0 (rd l1 4)).f0))).setCell ⟨gb238, 1, none⟩ (.int .i64 ((rd_T94 l0 (rd l1 4)).f1))).setCell ⟨gb238, 2, none⟩ (.int .i64 ((rd_T94 l0 (rd l1 4)).f2)))) ?hg ?ho ?hn ?hr ?_; (case ho => rfl); (case hg => rfl); (case hn => rfl); (case hr => first | (go_simp; done) | (go_simp; rfl)); intro w78 hw; have n0_ : Aside0 (Kd.R (Kd.int .i64) 3 w78 w.heap.size (fun _ => True) v227 t226) := ⟨(by rw [hw]; exact (by (with_reducible repeat (first | apply Kd.R_alloc | apply Kd.R_drewN | apply Kd.R_drew)); exact Kd.R_mono (Kd.R_far (p := ⟨gb238, 2, none⟩) (Kd.R_far (p := ⟨gb238, 1, none⟩) (Kd.R_far (p := ⟨gb238, 0, none⟩) (Kd.R_types HO_6.out BK238.out (by decide)) (fun _ hk => hk.2) (.int .i64 ((rd_T94 l0 (rd l1 4)).f0))) (fun _ hk => hk.2) (.int .i64 ((rd_T94 l0 (rd l1 4)).f1))) (fun _ hk => hk.2) (.int .i64 ((rd_T94 l0 (rd l1 4)).f2))) (fun _ hk => trivial)))⟩; have n1_ : Aside0 (w78.heap[gb238]? = some (.cells #[.int .i64 ((rd_T94 l0 (rd l1 4)).f0), .int .i64 ((rd_T94 l0 (rd l1 4)).f1), .int .i64 ((rd_T94 l0 (rd l1 4)).f2)] 94 (0, 0))) := ⟨(by rw [hw]; exact (by (with_reducible repeat (first | refine blk_drewN ?_ _ | refine blk_drew ?_ | refine blk_alloc ?_ _)); refine blk_put (cs := #[.int .i64 ((rd_T94 l0 (rd l1 4)).f0), .int .i64 ((rd_T94 l0 (rd l1 4)).f1), .int .i64 0]) ?_ 2 _ rfl; (with_reducible repeat (first | refine blk_drewN ?_ _ | refine blk_drew ?_ | refine blk_alloc ?_ _)); refine blk_put (cs := #[.int .i64 ((rd_T94 l0 (rd l1 4)).f0), .int .i64 0, .int .i64 0]) ?_ 1 _ rfl; (with_reducible repeat (first | refine blk_drewN ?_ _ | refine blk_drew ?_ | refine blk_alloc ?_ _)); refine blk_put (cs := #[.int .i64 0, .int .i64 0, .int .i64 0]) ?_ 0 _ rfl; (with_reducible repeat (first | refine blk_drewN ?_ _ | refine blk_drew ?_ | refine blk_alloc ?_ _)); exact BK238.out))⟩; have n2_ : Aside0 (Below w.heap.size w w78) := ⟨(by rw [hw]; exact (by repeat (first | (with_reducible first | exact HB.out | apply below_alloc | apply pw_below_drewN | apply below_drew1 | refine below_set ?_ GE238.out) | exact HB.out)))⟩; clear hw; clear HO_6; clear BK238; clear HB; have HO_6 := n0_; have BK238 := n1_; have HB := n2_; clear n0_ n1_ n2_; obtain ⟨Ao79, co79, eo79⟩ := Kd.R_slice HO_6.out; subst eo79; have p239 : 0 ≤ (4 : Int) := (by omega); have q239 : 4 < (t226.length : Int) := of_decide_eq_true (by first | (with_reducible assumption) | assumption); obtain ⟨ad239, e239, hx239_0⟩ := Kd.at_int (Kd.R_reads' HO_6.out).2.2 4 p239 q239; cases e239; (try simp only [show (4 : Int).toNat = 4 from rfl, Nat.reduceMul, Nat.reduceEqDiff, Go.Addr.add, ↓reduceIte] at hx239_0); have qi239 : (4 < t226.length) = True := eq_true (by omega); (try rw [show ((4 : Int)).toNat = 4 from rfl] at hx239_0); replace p239 := eq_true p239; replace q239 := eq_true q239; have p30 : 0 ≤ (4 : Int) := (by omega); have q30 : (4 : Int) < ((t226.length : Int) : Int) := of_decide_eq_true (by first | (with_reducible assumption) | assumption); have qi30 : (4 < t226.length) = True := eq_true (by omega); obtain ⟨go30, co30, eo30, gb30, gl30, cl30, HG30⟩ := Kd.R_form HO_6.out (by omega); (first | cases eo30 | (injection eo30 with ea_ en_ ec_; (first | subst ea_ | (injection ea_ with ea_; subst ea_)); subst ec_; clear en_)); have GB30 := Aside0.mk gb30; have GG30 := Aside0.mk HG30; clear gb30 gl30 HG30; (first | simp only [add_plain] at hx239_0 | skip); obtain ⟨hx30_0, hf30_0⟩ := Kd.R_celln 0 HO_6.out (4 : Int) p30 q30; (try rw [show ((4 : Int)).toNat = 4 from rfl] at hx30_0); (try simp only [Nat.reduceMul, Nat.zero_mul, Nat.zero_add, Nat.reduceAdd] at hx30_0); (try rw [show ((4 : Int)).toNat = 4 from rfl] at hf30_0); (try simp only [Nat.reduceMul, Nat.zero_mul, Nat.zero_add, Nat.reduceAdd] at hf30_0); replace p30 := eq_true p30; replace q30 := eq_true q30; obtain ⟨hy80_, hz80_⟩ := Kd.R_celln 0 HO_6.out (4 : Int) (by omega) (of_decide_eq_true (by first | (with_reducible assumption) | assumption)); (try simp only [Int.reduceToNat, Int.toNat_zero, Int.toNat_ofNat, Nat.reduceMul, Nat.zero_mul, Nat.zero_add] at hy80_ hz80_); (try rw [show ((4 : Int)).toNat = 4 from rfl] at hy80_); (try rw [show ((4 : Int)).toNat = 4 from rfl] at hz80_); have HP80 := Kd.R_putg HO_6.out (4 : Int) (wrap64 ((rd t226 4) + 1))) | ((with_reducible refine gate_store (t := 3) (p := 52) rfl ?_); refine store_event (t := 3) (p := 52) (v := ?vo_w81) (w1 := (w78.setCell ⟨go30, (4 : Int).toNat, none⟩ (.int .i64 (wrap64 ((rd t226 4) + 1))))) ?hg ?ho ?hn ?hr ?_; (case ho => rfl); (case hg => rfl); (case hn => rfl); (case hr => first | (go_simp; done) | (go_simp; rfl)); intro w81 hw; have hg : w78.grownBy w81 (some go30) := (by rw [hw]; exact HP80.2); have hp_ : Kd.R (Kd.int .i64) 3 w81 w.heap.size (fun _ => True) (.slice (some ⟨go30, 0, none⟩) t226.length co79) y240 := (by rw [hw, Ny240.out]; exact HP80.1); clear HP80; have n0_ := Aside0.mk (hp_); have n1_ := Aside0.mk (blk_grown (g := gb238) (o := .cells #[.int .i64 ((rd_T94 l0 (rd l1 4)).f0), .int .i64 ((rd_T94 l0 (rd l1 4)).f1), .int .i64 ((rd_T94 l0 (rd l1 4)).f2)] 94 (0, 0)) (by (with_reducible repeat (first | refine blk_drewN ?_ _ | refine blk_drew ?_ | refine blk_alloc ?_ _)); exact BK238.out) hg (Kd.R_ne HO_6.out BK238.out (by decide))); have n2_ := Aside0.mk ((by rw [hw]; exact below_set (HB.out) GB30.out : Below w.heap.size w w81)); clear HO_6; clear BK238; clear HB; have HO_6 := n0_; have BK238 := n1_; have HB := n2_; clear n0_ n1_ n2_; clear hg hw hp_; have p241 : 0 ≤ (5 : Int) := (by omega); have q241 : 5 < (y240.length : Int) := (by have h_ : (5 : Int) < ((t226.length : Int) : Int) := of_decide_eq_true (by first | (with_reducible assumption) | assumption); first | (have e_ := (Kd.R_reads' HO_6.out).1; omega) | simpa only [Ny240.out, List.length_set] using h_); have ql241 : ((5 : Int) < ((t226.length : Int) : Int)) = True := eq_true (of_decide_eq_true (by first | (with_reducible assumption) | assumption)); (try have qn241 : (5 < t226.length) = True := eq_true (by have h_ : (5 : Int) < ((t226.length : Int) : Int) := of_decide_eq_true (by first | (with_reducible assumption) | assumption); omega)); obtain ⟨ad241, e241, hx241_0⟩ := Kd.at_int (Kd.R_reads' HO_6.out).2.2 5 p241 q241; obtain rfl : (⟨go30, 0, none⟩ : Addr) = ad241 := (by injection e241); (first | simp only [add_plain] at hx241_0 | simp only [add_at] at hx241_0 | simp only [Addr.add, Nat.zero_add] at hx241_0 | skip); have qi241 : (5 < y240.length) = True := eq_true (by omega); (try rw [show ((5 : Int)).toNat = 5 from rfl] at hx241_0); replace p241 := eq_true p241; replace q241 := eq_true q241; have p32 : 0 ≤ (5 : Int) := (by omega); have q32 : (5 : Int) < ((t226.length : Int) : Int) := of_decide_eq_true (by first | (with_reducible assumption) | assumption); have qi32 : (5 < t226.length) = True := eq_true (by omega); obtain ⟨hx32_0, hf32_0⟩ := Kd.R_celln 0 HO_6.out (5 : Int) p32 q32; (try rw [show ((5 : Int)).toNat = 5 from rfl] at hx32_0); (try simp only [Nat.reduceMul, Nat.zero_mul, Nat.zero_add, Nat.reduceAdd] at hx32_0); (try rw [show ((5 : Int)).toNat = 5 from rfl] at hf32_0); (try simp only [Nat.reduceMul, Nat.zero_mul, Nat.zero_add, Nat.reduceAdd] at hf32_0); replace p32 := eq_true p32; replace q32 := eq_true q32; obtain ⟨hy82_, hz82_⟩ := Kd.R_celln 0 HO_6.out (5 : Int) (by omega) (of_decide_eq_true (by first | (with_reducible assumption) | assumption)); (try simp only [Int.reduceToNat, Int.toNat_zero, Int.toNat_ofNat, Nat.reduceMul, Nat.zero_mul, Nat.zero_add] at hy82_ hz82_); (try rw [show ((5 : Int)).toNat = 5 from rfl] at hy82_); (try rw [show ((5 : Int)).toNat = 5 from rfl] at hz82_); have HP82 := Kd.R_putg HO_6.out (5 : Int) (wrap64 ((rd y240 5) + 1))) | ((with_reducible refine gate_store (t := 3) (p := 57) rfl ?_); refine store_event (t := 3) (p := 57) (v := ?vo_w83) (w1 := (w81.setCell ⟨go30, (5 : Int).toNat, none⟩ (.int .i64 (wrap64 ((rd y240 5) + 1))))) ?hg ?ho ?hn ?hr ?_; (case ho => rfl); (case hg => rfl); (case hn => rfl); (case hr => first | (go_simp; done) | (go_simp; rfl)); intro w83 hw; have hg : w81.grownBy w83 (some go30) := (by rw [hw]; exact HP82.2); have hp_ : Kd.R (Kd.int .i64) 3 w83 w.heap.size (fun _ => True) (.slice (some ⟨go30, 0, none⟩) t226.length co79) y242 := (by rw [hw, Ny242.out]; exact HP82.1); clear HP82; have n0_ := Aside0.mk (hp_); have n1_ := Aside0.mk (blk_grown (g := gb238) (o := .cells #[.int .i64 ((rd_T94 l0 (rd l1 4)).f0), .int .i64 ((rd_T94 l0 (rd l1 4)).f1), .int .i64 ((rd_T94 l0 (rd l1 4)).f2)] 94 (0, 0)) (by (with_reducible repeat (first | refine blk_drewN ?_ _ | refine blk_drew ?_ | refine blk_alloc ?_ _)); exact BK238.out) hg (Kd.R_ne HO_6.out BK238.out (by decide))); have n2_ := Aside0.mk ((by rw [hw]; exact below_set (HB.out) GB30.out : Below w.heap.size w w83)); clear HO_6; clear BK238; clear HB; have HO_6 := n0_; have BK238 := n1_; have HB := n2_; clear n0_ n1_ n2_; clear hg hw hp_; have hcz84_0 : w83.cell? ⟨gb238, 0, none⟩ = some (.int .i64 ((rd_T94 l0 (rd l1 4)).f0)) := (blk_cell BK238.out 0).trans rfl; have hcz84_1 : w83.cell? ⟨gb238, 1, none⟩ = some (.int .i64 ((rd_T94 l0 (rd l1 4)).f1)) := (blk_cell BK238.out 1).trans rfl; have hcz84_2 : w83.cell? ⟨gb238, 2, none⟩ = some (.int .i64 ((rd_T94 l0 (rd l1 4)).f2)) := (blk_cell BK238.out 2).trans rfl; have hfz84_0 := blk_frozen BK238.out 0; have hfz84_1 := blk_frozen BK238.out 1; have hfz84_2 := blk_frozen BK238.out 2))
                                  have n0_ := Aside0.mk (Kd.R_drew HO_6.out)
                                  have n1_ := Aside0.mk (blk_drew BK238.out)
                                  have n2_ := Aside0.mk (below_drew1 HB.out)
                                  clear HO_6
                                  clear BK238
                                  clear HB
                                  have HO_6 := n0_
                                  have BK238 := n1_
                                  have HB := n2_
                                  clear n0_ n1_ n2_
                                  have p248 : 0 ≤ (((rd_T94 l0 (rd l1 4)).f1) : Int) := of_decide_eq_true (by first | (with_reducible assumption) | assumption)
                                  have q248 : ((rd_T94 l0 (rd l1 4)).f1) < (l1.length : Int) := of_decide_eq_true (by first | (with_reducible assumption) | assumption)
                                  obtain ⟨ad248, e248, hx248_0⟩ := Kd.at_int HR1.out ((rd_T94 l0 (rd l1 4)).f1) p248 q248
                                  have hw248_0 := hx248_0
                                  obtain rfl : ad236 = ad248 := (by injection e248)
                                  replace hx248_0 := (HB.out.cell (World.block_lt_of_cell? w _ hx248_0)).trans hx248_0
                                  replace p248 := eq_true p248
                                  replace q248 := eq_true q248
                                  have p249 : 0 ≤ (((rd_T94 l0 (rd l1 4)).f2) : Int) := of_decide_eq_true (by first | (with_reducible assumption) | assumption)
                                  have q249 : ((rd_T94 l0 (rd l1 4)).f2) < (l1.length : Int) := of_decide_eq_true (by first | (with_reducible assumption) | assumption)
                                  obtain ⟨ad249, e249, hx249_0⟩ := Kd.at_int HR1.out ((rd_T94 l0 (rd l1 4)).f2) p249 q249
                                  have hw249_0 := hx249_0
                                  obtain rfl : ad236 = ad249 := (by injection e249)
                                  replace hx249_0 := (HB.out.cell (World.block_lt_of_cell? w _ hx249_0)).trans hx249_0
                                  replace p249 := eq_true p249
                                  replace q249 := eq_true q249
                                  refine start_ (n := 16) (S := fun w' => w'.cell? ⟨gb238, 0, none⟩ = some (.int .i64 ((rd_T94 l0 (rd l1 4)).f0)) ∧ w'.cell? ⟨gb238, 1, none⟩ = some (.int .i64 ((rd_T94 l0 (rd l1 4)).f1)) ∧ w'.cell? ⟨gb238, 2, none⟩ = some (.int .i64 ((rd_T94 l0 (rd l1 4)).f2)) ∧ w'.cell? (ad236.add (((rd_T94 l0 (rd l1 4)).f1)).toNat) = some (.int .i64 (rd l1 ((rd_T94 l0 (rd l1 4)).f1))) ∧ w'.cell? (ad236.add (((rd_T94 l0 (rd l1 4)).f2)).toNat) = some (.int .i64 (rd l1 ((rd_T94 l0 (rd l1 4)).f2)))) (ds := [15]) #[false, false, false, false, false, false, false, false, false, false, false, false, false, false, false, false] (by kernel_rfl) rfl rfl ⟨(blk_cell BK238.out 0).trans rfl, (blk_cell BK238.out 1).trans rfl, (blk_cell BK238.out 2).trans rfl, ((HB.out.cell (World.block_lt_of_cell? w _ hw248_0)).trans hw248_0), ((HB.out.cell (World.block_lt_of_cell? w _ hw249_0)).trans hw249_0)⟩ (fun hHeld => ?_); refine with_tabW impl_StepCode.tab13 impl_StepCode.bits13 (fun HT_ HW_ => ?_)
                                  generalize w83.drew = w85 at HO_6 BK238 HB hx248_0 hx249_0 hHeld ⊢
                                  refine pure_ (i := 0) (N := some 87) (v := ?_) (a' := ?_) #[true, false, false, false, false, false, false, false, false, false, false, false, false, false, false, false] rfl rfl (any_of HT_.out (by kernel_rfl)) (fun _ _ _ h => h) (Or.inl ⟨by rfl, ?_⟩) ?_ ?_
                                  rotate_left
                                  · intro w'
                                    go_simp
                                    with_reducible rfl
                                  rotate_left
                                  · simp only [Act.put, List.setIfInBounds_toArray, List.set_cons_zero, List.set_cons_succ, i64_w, i32_w]
                                    rfl
                                  refine pure_ (i := 1) (N := some 88) (v := ?_) (a' := ?_) #[true, true, false, false, false, false, false, false, false, false, false, false, false, false, false, false] rfl rfl (any_of HT_.out (by kernel_rfl)) (fun _ _ _ h => h) (Or.inl ⟨by rfl, ?_⟩) ?_ ?_
                                  rotate_left
                                  · intro w'
                                    go_simp
                                    with_reducible rfl
                                  rotate_left
                                  · simp only [Act.put, List.setIfInBounds_toArray, List.set_cons_zero, List.set_cons_succ, i64_w, i32_w]
                                    rfl
                                  refine pure_ (i := 3) (N := some 90) (v := ?_) (a' := ?_) #[true, true, false, true, false, false, false, false, false, false, false, false, false, false, false, false] rfl rfl (any_of HT_.out (by kernel_rfl)) (fun _ _ _ h => h) (Or.inl ⟨by rfl, ?_⟩) ?_ ?_
                                  rotate_left
                                  · intro w'
                                    go_simp
                                    with_reducible rfl
                                  rotate_left
                                  · simp only [Act.put, List.setIfInBounds_toArray, List.set_cons_zero, List.set_cons_succ, i64_w, i32_w]
                                    rfl
                                  refine pure_ (i := 4) (N := some 91) (v := ?_) (a' := ?_) #[true, true, false, true, true, false, false, false, false, false, false, false, false, false, false, false] rfl rfl (any_of HT_.out (by kernel_rfl)) (fun _ _ _ h => h) (Or.inl ⟨by rfl, ?_⟩) ?_ ?_
                                  rotate_left
                                  · intro w'
                                    go_simp
                                    with_reducible rfl
                                  rotate_left
                                  · simp only [Act.put, List.setIfInBounds_toArray, List.set_cons_zero, List.set_cons_succ, i64_w, i32_w]
                                    rfl
                                  refine pure_ (i := 8) (N := some 95) (v := ?_) (a' := ?_) #[true, true, false, true, true, false, false, false, true, false, false, false, false, false, false, false] rfl rfl (any_of HT_.out (by kernel_rfl)) (fun _ _ _ h => h) (Or.inl ⟨by rfl, ?_⟩) ?_ ?_
                                  rotate_left
                                  · intro w'
                                    go_simp
                                    with_reducible rfl
                                  rotate_left
                                  · simp only [Act.put, List.setIfInBounds_toArray, List.set_cons_zero, List.set_cons_succ, i64_w, i32_w]
                                    rfl
                                  refine pure_ (i := 9) (N := some 96) (v := ?_) (a' := ?_) #[true, true, false, true, true, false, false, false, true, true, false, false, false, false, false, false] rfl rfl (any_of HT_.out (by kernel_rfl)) (fun _ _ _ h => h) (Or.inl ⟨by rfl, ?_⟩) ?_ ?_
                                  rotate_left
                                  · intro w'
                                    go_simp
                                    with_reducible rfl
                                  rotate_left
                                  · simp only [Act.put, List.setIfInBounds_toArray, List.set_cons_zero, List.set_cons_succ, i64_w, i32_w]
                                    rfl
                                  refine take_ (i := 2) (N := some 89) (v := ?_) (a' := ?_) #[true, true, true, true, true, false, false, false, true, true, false, false, false, false, false, false] rfl rfl (take_ofW HT_.out HW_.out (by kernel_rfl)) (fun _ _ _ h => h) (Or.inl ⟨by rfl, ?_⟩) hHeld ?_ ?_
                                  rotate_left
                                  · rintro w' ⟨s0, s1, s2, s3, s4⟩
                                    go_simp
                                    with_reducible rfl
                                  rotate_left
                                  · simp only [Act.put, List.setIfInBounds_toArray, List.set_cons_zero, List.set_cons_succ, i64_w, i32_w]
                                    rfl
                                  refine take_ (i := 5) (N := some 92) (v := ?_) (a' := ?_) #[true, true, true, true, true, true, false, false, true, true, false, false, false, false, false, false] rfl rfl (take_ofW HT_.out HW_.out (by kernel_rfl)) (fun _ _ _ h => h) (Or.inl ⟨by rfl, ?_⟩) hHeld ?_ ?_
                                  rotate_left
                                  · rintro w' ⟨s0, s1, s2, s3, s4⟩
                                    go_simp
                                    with_reducible rfl
                                  rotate_left
                                  · simp only [Act.put, List.setIfInBounds_toArray, List.set_cons_zero, List.set_cons_succ, i64_w, i32_w]
                                    rfl
                                  refine pure_ (i := 6) (N := some 93) (v := ?_) (a' := ?_) #[true, true, true, true, true, true, true, false, true, true, false, false, false, false, false, false] rfl rfl (any_of HT_.out (by kernel_rfl)) (fun _ _ _ h => h) (Or.inl ⟨by rfl, ?_⟩) ?_ ?_
                                  rotate_left
                                  · intro w'
                                    go_simp
                                    with_reducible rfl
                                  rotate_left
                                  · simp only [Act.put, List.setIfInBounds_toArray, List.set_cons_zero, List.set_cons_succ, i64_w, i32_w]
                                    rfl
                                  refine take_ (i := 7) (N := some 94) (v := ?_) (a' := ?_) #[true, true, true, true, true, true, true, true, true, true, false, false, false, false, false, false] rfl rfl (take_ofW HT_.out HW_.out (by kernel_rfl)) (fun _ _ _ h => h) (Or.inl ⟨by rfl, ?_⟩) hHeld ?_ ?_
                                  rotate_left
                                  · rintro w' ⟨s0, s1, s2, s3, s4⟩
                                    go_simp
                                    with_reducible rfl
                                  rotate_left
                                  · simp only [Act.put, List.setIfInBounds_toArray, List.set_cons_zero, List.set_cons_succ, i64_w, i32_w]
                                    rfl
                                  refine take_ (i := 10) (N := some 97) (v := ?_) (a' := ?_) #[true, true, true, true, true, true, true, true, true, true, true, false, false, false, false, false] rfl rfl (take_ofW HT_.out HW_.out (by kernel_rfl)) (fun _ _ _ h => h) (Or.inl ⟨by rfl, ?_⟩) hHeld ?_ ?_
                                  rotate_left
                                  · rintro w' ⟨s0, s1, s2, s3, s4⟩
                                    go_simp
                                    with_reducible rfl
                                  rotate_left
                                  · simp only [Act.put, List.setIfInBounds_toArray, List.set_cons_zero, List.set_cons_succ, i64_w, i32_w]
                                    rfl
                                  refine pure_ (i := 11) (N := some 98) (v := ?_) (a' := ?_) #[true, true, true, true, true, true, true, true, true, true, true, true, false, false, false, false] rfl rfl (any_of HT_.out (by kernel_rfl)) (fun _ _ _ h => h) (Or.inl ⟨by rfl, ?_⟩) ?_ ?_
                                  rotate_left
                                  · intro w'
                                    go_simp
                                    with_reducible rfl
                                  rotate_left
                                  · simp only [Act.put, List.setIfInBounds_toArray, List.set_cons_zero, List.set_cons_succ, i64_w, i32_w]
                                    rfl
                                  refine take_ (i := 12) (N := some 99) (v := ?_) (a' := ?_) #[true, true, true, true, true, true, true, true, true, true, true, true, true, false, false, false] rfl rfl (take_ofW HT_.out HW_.out (by kernel_rfl)) (fun _ _ _ h => h) (Or.inl ⟨by rfl, ?_⟩) hHeld ?_ ?_
                                  rotate_left
                                  · rintro w' ⟨s0, s1, s2, s3, s4⟩
                                    go_simp
                                    with_reducible rfl
                                  rotate_left
                                  · simp only [Act.put, List.setIfInBounds_toArray, List.set_cons_zero, List.set_cons_succ, i64_w, i32_w]
                                    rfl
                                  refine one_ (i := 13) (N := some 100) #[true, true, true, true, true, true, true, true, true, true, true, true, true, true, false, false] rfl rfl (one_of HT_.out (by kernel_rfl)) (by decide) (fun K hK => ?_)
                                  refine goes_ Try.func73 (by kernel_rfl) rfl #[.int .i64 (rd l1 ((rd_T94 l0 (rd l1 4)).f1)), .int .i64 (rd l1 ((rd_T94 l0 (rd l1 4)).f2))] (by rfl) rfl rfl (by (try simp only [List.map_toArray, List.map_cons, List.map_nil]); first | done | rfl | (simp only [List.length_drop, List.length_take]; rfl)) ?_
                                  with_reducible refine (impl_SubValues.calls (rd l1 ((rd_T94 l0 (rd l1 4)).f1)) (rd l1 ((rd_T94 l0 (rd l1 4)).f2)) t250 _ A73.out).mono ?_
                                  rintro e w86 ⟨rfl, hb⟩
                                  refine ⟨_, rfl, ?_⟩
                                  have n0_ := Aside0.mk (Kd.R_below (by (with_reducible repeat (first | apply Kd.R_alloc | apply Kd.R_drewN | apply Kd.R_drew)); exact HO_6.out) hb)
                                  have n1_ := Aside0.mk (blk_below (g := gb238) (o := .cells #[.int .i64 ((rd_T94 l0 (rd l1 4)).f0), .int .i64 ((rd_T94 l0 (rd l1 4)).f1), .int .i64 ((rd_T94 l0 (rd l1 4)).f2)] 94 (0, 0)) (by (with_reducible repeat (first | refine blk_drewN ?_ _ | refine blk_drew ?_ | refine blk_alloc ?_ _)); exact BK238.out) hb)
                                  have n2_ := Aside0.mk (below_step (by repeat (first | (with_reducible first | exact HB.out | apply below_alloc | apply pw_below_drewN | apply below_drew1 | refine below_set ?_ GE238.out) | exact HB.out)) hb)
                                  clear HO_6
                                  clear BK238
                                  clear HB
                                  have HO_6 := n0_
                                  have BK238 := n1_
                                  have HB := n2_
                                  clear n0_ n1_ n2_
                                  (try clear hb)
                                  (try clear hb2)
                                  (try clear hk)
                                  (try clear hi)
                                  have p75 : 0 ≤ (((rd_T94 l0 (rd l1 4)).f1) : Int) := of_decide_eq_true (by first | (with_reducible assumption) | assumption)
                                  have q75 : (((rd_T94 l0 (rd l1 4)).f1) : Int) < ((t226.length : Int) : Int) := of_decide_eq_true (by first | (with_reducible assumption) | assumption)
                                  obtain ⟨hx75_0, hf75_0⟩ := Kd.R_celln 0 HO_6.out (((rd_T94 l0 (rd l1 4)).f1) : Int) p75 q75
                                  replace p75 := eq_true p75
                                  replace q75 := eq_true q75
                                  have HP87 := Kd.R_putn HO_6.out (((rd_T94 l0 (rd l1 4)).f1) : Int) t250
                                  rw [← Ny251.out] at HP87
                                  have HQ87 := Aside0.mk HP87
                                  clear HP87
                                  refine hK.out _ _ ⟨(blk_cell BK238.out 0).trans rfl, (blk_cell BK238.out 1).trans rfl, (blk_cell BK238.out 2).trans rfl, ((HB.out.cell (World.block_lt_of_cell? w _ hw248_0)).trans hw248_0), ((HB.out.cell (World.block_lt_of_cell? w _ hw249_0)).trans hw249_0)⟩ (fun hHeld => ?_)
                                  clear hK K
                                  refine norm_ (a' := ?_) ?_ ?_
                                  rotate_left
                                  · show Act.put _ (some 100) _ = _
                                    simp only [Act.put, List.setIfInBounds_toArray, List.set_cons_zero, List.set_cons_succ, i64_w, i32_w]
                                    rfl
                                  refine pure_ (i := 14) (N := some 101) (v := ?_) (a' := ?_) #[true, true, true, true, true, true, true, true, true, true, true, true, true, true, true, false] rfl rfl (any_of HT_.out (by kernel_rfl)) (fun _ _ _ h => h) (Or.inl ⟨by rfl, ?_⟩) ?_ ?_
                                  rotate_left
                                  · intro w'
                                    go_simp
                                    with_reducible rfl
                                  rotate_left
                                  · simp only [Act.put, List.setIfInBounds_toArray, List.set_cons_zero, List.set_cons_succ, i64_w, i32_w]
                                    rfl
                                  refine last_ (i := 15) (N := none) #[true, true, true, true, true, true, true, true, true, true, true, true, true, true, true, true] rfl rfl (one_of HT_.out (by kernel_rfl)) (by decide) (fun K hK => ?_)
                                  refine skip_ (w1 := ?_) (by rfl) rfl ?_ ?_
                                  rotate_left
                                  · go_simp
                                    rfl
                                  refine hK.out _ _ ?_
                                  clear hK K
                                  refine done_ (done_of HT_.out (by kernel_rfl)) ?_
                                  try go_wp2
                                  go_ret2
                                  exact ⟨_, by first | rfl | (simp [errW_none, errW_some] <;> rfl) | (simp [*, errW_none, errW_some] <;> rfl), by (with_reducible repeat (first | apply Kd.R_alloc | apply Kd.R_drewN | apply Kd.R_drew)); exact HQ87.out, by repeat (first | (with_reducible first | exact HB.out | apply below_alloc | apply pw_below_drewN | apply below_drew1 | refine below_set ?_ GB30.out | refine below_set ?_ GE238.out) | exact HB.out)⟩
                                · rw [if_neg c74] at H
                                  exact absurd H (by simp)
                              · rw [if_neg c72] at H
                                exact absurd H (by simp)
                            · rw [if_neg c71] at H
                              exact absurd H (by simp)
                          · rw [if_neg c70] at H
                            exact absurd H (by simp)
                        · rw [if_neg c69] at H
                          exact absurd H (by simp)
                      · rw [if_neg c68] at H
                        have c68b0 : (((rd_T94 l0 (rd l1 4)).f0) == 3) = false := beq_eq_false_iff_ne.mpr c68
                        have c68b1 : (((rd_T94 l0 (rd l1 4)).f0) != 3) = true := bne_iff_ne.mpr c68
                        by_cases c88 : ((rd_T94 l0 (rd l1 4)).f0) = 4
                        · rw [if_pos c88] at H
                          have c88b0 : (((rd_T94 l0 (rd l1 4)).f0) == 4) = true := beq_iff_eq.mpr c88
                          have c88b1 : (((rd_T94 l0 (rd l1 4)).f0) != 4) = false := bne_eq_false_iff_eq.mpr c88
                          clear c88
                          by_cases c89 : 0 ≤ ((rd_T94 l0 (rd l1 4)).f1)
                          · rw [if_pos c89] at H
                            have c89b0 : decide (0 ≤ ((rd_T94 l0 (rd l1 4)).f1)) = true := decide_eq_true c89
                            clear c89
                            by_cases c90 : ((rd_T94 l0 (rd l1 4)).f1) < (l1.length : Int)
                            · rw [if_pos c90] at H
                              have c90b0 : decide (((rd_T94 l0 (rd l1 4)).f1) < (l1.length : Int)) = true := decide_eq_true c90
                              clear c90
                              by_cases c91 : 0 ≤ ((rd_T94 l0 (rd l1 4)).f2)
                              · rw [if_pos c91] at H
                                have c91b0 : decide (0 ≤ ((rd_T94 l0 (rd l1 4)).f2)) = true := decide_eq_true c91
                                clear c91
                                by_cases c92 : ((rd_T94 l0 (rd l1 4)).f2) < (l1.length : Int)
                                · rw [if_pos c92] at H
                                  have c92b0 : decide (((rd_T94 l0 (rd l1 4)).f2) < (l1.length : Int)) = true := decide_eq_true c92
                                  clear c92
                                  replace H := Option.bind_eq_some_iff.mp H
                                  obtain ⟨t254, A930, H⟩ := H
                                  replace H : (if ((rd_T94 l0 (rd l1 4)).f1) < (t226.length : Int) then (some ((y242.set (((rd_T94 l0 (rd l1 4)).f1) : Int).toNat t254), true)) else (none)) = some (r1, r2) := H
                                  have A93 := Aside0.mk A930
                                  clear A930
                                  by_cases c94 : ((rd_T94 l0 (rd l1 4)).f1) < (t226.length : Int)
                                  · rw [if_pos c94] at H
                                    have c94b0 : decide (((rd_T94 l0 (rd l1 4)).f1) < (t226.length : Int)) = true := decide_eq_true c94
                                    clear c94
                                    obtain ⟨y255, hy255⟩ : ∃ y_ : List Int, y_ = (y242.set (((rd_T94 l0 (rd l1 4)).f1) : Int).toNat t254) := ⟨_, rfl⟩
                                    replace H : (some (y255, true)) = some (r1, r2) := by first | (rw [hy255]; with_reducible exact H) | (have H2_ := (Option.bind_some _ _).symm.trans H; rw [hy255]; with_reducible exact H2_) | (have H2_ := (Option.bind_some _ _).symm.trans H; with_reducible exact H2_) | with_reducible exact H | (rw [hy255]; exact H) | exact H
                                    have Ny255 := Aside0.mk hy255
                                    clear hy255
                                    simp only [Option.some.injEq, Prod.mk.injEq] at H
                                    obtain ⟨rfl, rfl⟩ := H
                                    have p236 : 0 ≤ (4 : Int) := (by omega)
                                    have q236 : 4 < (l1.length : Int) := of_decide_eq_true (by first | (with_reducible assumption) | assumption)
                                    obtain ⟨ad236, e236, hx236_0⟩ := Kd.at_int HR1.out 4 p236 q236
                                    cases e236
                                    (try simp only [show (4 : Int).toNat = 4 from rfl, Nat.reduceMul, Nat.reduceEqDiff, Go.Addr.add, ↓reduceIte] at hx236_0)
                                    have qi236 : (4 < l1.length) = True := eq_true (by omega)
                                    (try rw [show ((4 : Int)).toNat = 4 from rfl] at hx236_0)
                                    replace hx236_0 := (HB.out.cell (World.block_lt_of_cell? w _ hx236_0)).trans hx236_0
                                    replace p236 := eq_true p236
                                    replace q236 := eq_true q236
                                    have p237 : 0 ≤ ((rd l1 4) : Int) := of_decide_eq_true (by first | (with_reducible assumption) | assumption)
                                    have q237 : (rd l1 4) < (l0.length : Int) := of_decide_eq_true (by first | (with_reducible assumption) | assumption)
                                    obtain ⟨ad237, e237, hx237_0, hx237_1, hx237_2⟩ := at_T94 HR0.out (rd l1 4) p237 q237
                                    cases e237
                                    replace hx237_0 := (HB.out.cell (World.block_lt_of_cell? w _ hx237_0)).trans hx237_0
                                    replace hx237_1 := (HB.out.cell (World.block_lt_of_cell? w _ hx237_1)).trans hx237_1
                                    replace hx237_2 := (HB.out.cell (World.block_lt_of_cell? w _ hx237_2)).trans hx237_2
                                    replace p237 := eq_true p237
                                    replace q237 := eq_true q237
                                    try go_wp2_with (first | ((with_reducible refine gate_dst (N := 7) rfl ?_); (try (refine gate_guard (by rfl) ?_; dsimp only)); refine box_event ?hg (N := 7) ?hd (cs := #[.int .i64 0, .int .i64 0, .int .i64 0]) (t := 94) ?hr ?_; (case hd => rfl); (case hg => rfl); (case hr => first | (go_simp; done) | (go_simp; rfl)); intro gb238 hg w96 hbox hb; have n0_ := Aside0.mk (Kd.R_below (by (with_reducible repeat (first | apply Kd.R_alloc | apply Kd.R_drewN | apply Kd.R_drew)); exact HO_6.out) hb); have n1_ := Aside0.mk (below_step (by repeat (first | (with_reducible first | exact HB.out | apply below_alloc | apply pw_below_drewN | apply below_drew1) | exact HB.out)) hb); have n2_ := Aside0.mk (hbox); have n3_ := Aside0.mk ((by rw [hg]; exact (below_size (by repeat (first | (with_reducible first | exact HB.out | apply below_alloc | apply pw_below_drewN | apply below_drew1) | exact HB.out))) : w.heap.size ≤ gb238)); have n4_ := Aside0.mk ((by rw [hg]; exact (below_size (by repeat (first | (with_reducible first | exact HB.out | apply below_alloc | apply pw_below_drewN | apply below_drew1) | exact HB.out))) : w.heap.size ≤ gb238)); clear HO_6; clear HB; have HO_6 := n0_; have HB := n1_; have BK238 := n2_; have GW238 := n3_; have GE238 := n4_; clear n0_ n1_ n2_ n3_ n4_; clear hb hbox hg; have hcz97_0 : w96.cell? ⟨gb238, 0, none⟩ = some (.int .i64 0) := (blk_cell BK238.out 0).trans rfl; have hcz97_1 : w96.cell? ⟨gb238, 1, none⟩ = some (.int .i64 0) := (blk_cell BK238.out 1).trans rfl; have hcz97_2 : w96.cell? ⟨gb238, 2, none⟩ = some (.int .i64 0) := (blk_cell BK238.out 2).trans rfl; have hfz97_0 := blk_frozen BK238.out 0; have hfz97_1 := blk_frozen BK238.out 1; have hfz97_2 := blk_frozen BK238.out 2) | ((with_reducible refine gate_store (t := 94) (p := 7) rfl ?_); refine store_event (t := 94) (p := 7) (v := ?vo_w98) (w1 := (((w96.setCell ⟨gb238, 0, none⟩ (.int .i64 ((rd_T94 l0 (rd l1 4)).f0))).setCell ⟨gb238, 1, none⟩ (.int .i64 ((rd_T94 l0 (rd l1 4)).f1))).setCell ⟨gb238, 2, none⟩ (.int .i64 ((rd_T94 l0 (rd l1 4)).f2)))) ?hg ?ho ?hn ?hr ?_; (case ho => rfl); (case hg => rfl); (case hn => rfl); (case hr => first | (go_simp; done) | (go_simp; rfl)); intro w98 hw; have n0_ : Aside0 (Kd.R (Kd.int .i64) 3 w98 w.heap.size (fun _ => True) v227 t226) := ⟨(by rw [hw]; exact (by (with_reducible repeat (first | apply Kd.R_alloc | apply Kd.R_drewN | apply Kd.R_drew)); exact Kd.R_mono (Kd.R_far (p := ⟨gb238, 2, none⟩) (Kd.R_far (p := ⟨gb238, 1, none⟩) (Kd.R_far (p := ⟨gb238, 0, none⟩) (Kd.R_types HO_6.out BK238.out (by decide)) (fun _ hk => hk.2) (.int .i64 ((rd_T94 l0 (rd l1 4)).f0))) (fun _ hk => hk.2) (.int .i64 ((rd_T94 l0 (rd l1 4)).f1))) (fun _ hk => hk.2) (.int .i64 ((rd_T94 l0 (rd l1 4)).f2))) (fun _ hk => trivial)))⟩; have n1_ : Aside0 (w98.heap[gb238]? = some (.cells #[.int .i64 ((rd_T94 l0 (rd l1 4)).f0), .int .i64 ((rd_T94 l0 (rd l1 4)).f1), .int .i64 ((rd_T94 l0 (rd l1 4)).f2)] 94 (0, 0))) := ⟨(by rw [hw]; exact (by (with_reducible repeat (first | refine blk_drewN ?_ _ | refine blk_drew ?_ | refine blk_alloc ?_ _)); refine blk_put (cs := #[.int .i64 ((rd_T94 l0 (rd l1 4)).f0), .int .i64 ((rd_T94 l0 (rd l1 4)).f1), .int .i64 0]) ?_ 2 _ rfl; (with_reducible repeat (first | refine blk_drewN ?_ _ | refine blk_drew ?_ | refine blk_alloc ?_ _)); refine blk_put (cs := #[.int .i64 ((rd_T94 l0 (rd l1 4)).f0), .int .i64 0, .int .i64 0]) ?_ 1 _ rfl; (with_reducible repeat (first | refine blk_drewN ?_ _ | refine blk_drew ?_ | refine blk_alloc ?_ _)); refine blk_put (cs := #[.int .i64 0, .int .i64 0, .int .i64 0]) ?_ 0 _ rfl; (with_reducible repeat (first | refine blk_drewN ?_ _ | refine blk_drew ?_ | refine blk_alloc ?_ _)); exact BK238.out))⟩; have n2_ : Aside0 (Below w.heap.size w w98) := ⟨(by rw [hw]; exact (by repeat (first | (with_reducible first | exact HB.out | apply below_alloc | apply pw_below_drewN | apply below_drew1 | refine below_set ?_ GE238.out) | exact HB.out)))⟩; clear hw; clear HO_6; clear BK238; clear HB; have HO_6 := n0_; have BK238 := n1_; have HB := n2_; clear n0_ n1_ n2_; obtain ⟨Ao99, co99, eo99⟩ := Kd.R_slice HO_6.out; subst eo99; have p239 : 0 ≤ (4 : Int) := (by omega); have q239 : 4 < (t226.length : Int) := of_decide_eq_true (by first | (with_reducible assumption) | assumption); obtain ⟨ad239, e239, hx239_0⟩ := Kd.at_int (Kd.R_reads' HO_6.out).2.2 4 p239 q239; cases e239; (try simp only [show (4 : Int).toNat = 4 from rfl, Nat.reduceMul, Nat.reduceEqDiff, Go.Addr.add, ↓reduceIte] at hx239_0); have qi239 : (4 < t226.length) = True := eq_true (by omega); (try rw [show ((4 : Int)).toNat = 4 from rfl] at hx239_0); replace p239 := eq_true p239; replace q239 := eq_true q239; have p30 : 0 ≤ (4 : Int) := (by omega); have q30 : (4 : Int) < ((t226.length : Int) : Int) := of_decide_eq_true (by first | (with_reducible assumption) | assumption); have qi30 : (4 < t226.length) = True := eq_true (by omega); obtain ⟨go30, co30, eo30, gb30, gl30, cl30, HG30⟩ := Kd.R_form HO_6.out (by omega); (first | cases eo30 | (injection eo30 with ea_ en_ ec_; (first | subst ea_ | (injection ea_ with ea_; subst ea_)); subst ec_; clear en_)); have GB30 := Aside0.mk gb30; have GG30 := Aside0.mk HG30; clear gb30 gl30 HG30; (first | simp only [add_plain] at hx239_0 | skip); obtain ⟨hx30_0, hf30_0⟩ := Kd.R_celln 0 HO_6.out (4 : Int) p30 q30; (try rw [show ((4 : Int)).toNat = 4 from rfl] at hx30_0); (try simp only [Nat.reduceMul, Nat.zero_mul, Nat.zero_add, Nat.reduceAdd] at hx30_0); (try rw [show ((4 : Int)).toNat = 4 from rfl] at hf30_0); (try simp only [Nat.reduceMul, Nat.zero_mul, Nat.zero_add, Nat.reduceAdd] at hf30_0); replace p30 := eq_true p30; replace q30 := eq_true q30; obtain ⟨hy100_, hz100_⟩ := Kd.R_celln 0 HO_6.out (4 : Int) (by omega) (of_decide_eq_true (by first | (with_reducible assumption) | assumption)); (try simp only [Int.reduceToNat, Int.toNat_zero, Int.toNat_ofNat, Nat.reduceMul, Nat.zero_mul, Nat.zero_add] at hy100_ hz100_); (try rw [show ((4 : Int)).toNat = 4 from rfl] at hy100_); (try rw [show ((4 : Int)).toNat = 4 from rfl] at hz100_); have HP100 := Kd.R_putg HO_6.out (4 : Int) (wrap64 ((rd t226 4) + 1))) | ((with_reducible refine gate_store (t := 3) (p := 52) rfl ?_); refine store_event (t := 3) (p := 52) (v := ?vo_w101) (w1 := (w98.setCell ⟨go30, (4 : Int).toNat, none⟩ (.int .i64 (wrap64 ((rd t226 4) + 1))))) ?hg ?ho ?hn ?hr ?_; (case ho => rfl); (case hg => rfl); (case hn => rfl); (case hr => first | (go_simp; done) | (go_simp; rfl)); intro w101 hw; have hg : w98.grownBy w101 (some go30) := (by rw [hw]; exact HP100.2); have hp_ : Kd.R (Kd.int .i64) 3 w101 w.heap.size (fun _ => True) (.slice (some ⟨go30, 0, none⟩) t226.length co99) y240 := (by rw [hw, Ny240.out]; exact HP100.1); clear HP100; have n0_ := Aside0.mk (hp_); have n1_ := Aside0.mk (blk_grown (g := gb238) (o := .cells #[.int .i64 ((rd_T94 l0 (rd l1 4)).f0), .int .i64 ((rd_T94 l0 (rd l1 4)).f1), .int .i64 ((rd_T94 l0 (rd l1 4)).f2)] 94 (0, 0)) (by (with_reducible repeat (first | refine blk_drewN ?_ _ | refine blk_drew ?_ | refine blk_alloc ?_ _)); exact BK238.out) hg (Kd.R_ne HO_6.out BK238.out (by decide))); have n2_ := Aside0.mk ((by rw [hw]; exact below_set (HB.out) GB30.out : Below w.heap.size w w101)); clear HO_6; clear BK238; clear HB; have HO_6 := n0_; have BK238 := n1_; have HB := n2_; clear n0_ n1_ n2_; clear hg hw hp_; have p241 : 0 ≤ (5 : Int) := (by omega); have q241 : 5 < (y240.length : Int) := (by have h_ : (5 : Int) < ((t226.length : Int) : Int) := of_decide_eq_true (by first | (with_reducible assumption) | assumption); first | (have e_ := (Kd.R_reads' HO_6.out).1; omega) | simpa only [Ny240.out, List.length_set] using h_); have ql241 : ((5 : Int) < ((t226.length : Int) : Int)) = True := eq_true (of_decide_eq_true (by first | (with_reducible assumption) | assumption)); (try have qn241 : (5 < t226.length) = True := eq_true (by have h_ : (5 : Int) < ((t226.length : Int) : Int) := of_decide_eq_true (by first | (with_reducible assumption) | assumption); omega)); obtain ⟨ad241, e241, hx241_0⟩ := Kd.at_int (Kd.R_reads' HO_6.out).2.2 5 p241 q241; obtain rfl : (⟨go30, 0, none⟩ : Addr) = ad241 := (by injection e241); (first | simp only [add_plain] at hx241_0 | simp only [add_at] at hx241_0 | simp only [Addr.add, Nat.zero_add] at hx241_0 | skip); have qi241 : (5 < y240.length) = True := eq_true (by omega); (try rw [show ((5 : Int)).toNat = 5 from rfl] at hx241_0); replace p241 := eq_true p241; replace q241 := eq_true q241; have p32 : 0 ≤ (5 : Int) := (by omega); have q32 : (5 : Int) < ((t226.length : Int) : Int) := of_decide_eq_true (by first | (with_reducible assumption) | assumption); have qi32 : (5 < t226.length) = True := eq_true (by omega); obtain ⟨hx32_0, hf32_0⟩ := Kd.R_celln 0 HO_6.out (5 : Int) p32 q32; (try rw [show ((5 : Int)).toNat = 5 from rfl] at hx32_0); (try simp only [Nat.reduceMul, Nat.zero_mul, Nat.zero_add, Nat.reduceAdd] at hx32_0); (try rw [show ((5 : Int)).toNat = 5 from rfl] at hf32_0); (try simp only [Nat.reduceMul, Nat.zero_mul, Nat.zero_add, Nat.reduceAdd] at hf32_0); replace p32 := eq_true p32; replace q32 := eq_true q32; obtain ⟨hy102_, hz102_⟩ := Kd.R_celln 0 HO_6.out (5 : Int) (by omega) (of_decide_eq_true (by first | (with_reducible assumption) | assumption)); (try simp only [Int.reduceToNat, Int.toNat_zero, Int.toNat_ofNat, Nat.reduceMul, Nat.zero_mul, Nat.zero_add] at hy102_ hz102_); (try rw [show ((5 : Int)).toNat = 5 from rfl] at hy102_); (try rw [show ((5 : Int)).toNat = 5 from rfl] at hz102_); have HP102 := Kd.R_putg HO_6.out (5 : Int) (wrap64 ((rd y240 5) + 1))) | ((with_reducible refine gate_store (t := 3) (p := 57) rfl ?_); refine store_event (t := 3) (p := 57) (v := ?vo_w103) (w1 := (w101.setCell ⟨go30, (5 : Int).toNat, none⟩ (.int .i64 (wrap64 ((rd y240 5) + 1))))) ?hg ?ho ?hn ?hr ?_; (case ho => rfl); (case hg => rfl); (case hn => rfl); (case hr => first | (go_simp; done) | (go_simp; rfl)); intro w103 hw; have hg : w101.grownBy w103 (some go30) := (by rw [hw]; exact HP102.2); have hp_ : Kd.R (Kd.int .i64) 3 w103 w.heap.size (fun _ => True) (.slice (some ⟨go30, 0, none⟩) t226.length co99) y242 := (by rw [hw, Ny242.out]; exact HP102.1); clear HP102; have n0_ := Aside0.mk (hp_); have n1_ := Aside0.mk (blk_grown (g := gb238) (o := .cells #[.int .i64 ((rd_T94 l0 (rd l1 4)).f0), .int .i64 ((rd_T94 l0 (rd l1 4)).f1), .int .i64 ((rd_T94 l0 (rd l1 4)).f2)] 94 (0, 0)) (by (with_reducible repeat (first | refine blk_drewN ?_ _ | refine blk_drew ?_ | refine blk_alloc ?_ _)); exact BK238.out) hg (Kd.R_ne HO_6.out BK238.out (by decide))); have n2_ := Aside0.mk ((by rw [hw]; exact below_set (HB.out) GB30.out : Below w.heap.size w w103)); clear HO_6; clear BK238; clear HB; have HO_6 := n0_; have BK238 := n1_; have HB := n2_; clear n0_ n1_ n2_; clear hg hw hp_; have hcz104_0 : w103.cell? ⟨gb238, 0, none⟩ = some (.int .i64 ((rd_T94 l0 (rd l1 4)).f0)) := (blk_cell BK238.out 0).trans rfl; have hcz104_1 : w103.cell? ⟨gb238, 1, none⟩ = some (.int .i64 ((rd_T94 l0 (rd l1 4)).f1)) := (blk_cell BK238.out 1).trans rfl; have hcz104_2 : w103.cell? ⟨gb238, 2, none⟩ = some (.int .i64 ((rd_T94 l0 (rd l1 4)).f2)) := (blk_cell BK238.out 2).trans rfl; have hfz104_0 := blk_frozen BK238.out 0; have hfz104_1 := blk_frozen BK238.out 1; have hfz104_2 := blk_frozen BK238.out 2))
                                    have n0_ := Aside0.mk (Kd.R_drew HO_6.out)
                                    have n1_ := Aside0.mk (blk_drew BK238.out)
                                    have n2_ := Aside0.mk (below_drew1 HB.out)
                                    clear HO_6
                                    clear BK238
                                    clear HB
                                    have HO_6 := n0_
                                    have BK238 := n1_
                                    have HB := n2_
                                    clear n0_ n1_ n2_
                                    have p252 : 0 ≤ (((rd_T94 l0 (rd l1 4)).f1) : Int) := of_decide_eq_true (by first | (with_reducible assumption) | assumption)
                                    have q252 : ((rd_T94 l0 (rd l1 4)).f1) < (l1.length : Int) := of_decide_eq_true (by first | (with_reducible assumption) | assumption)
                                    obtain ⟨ad252, e252, hx252_0⟩ := Kd.at_int HR1.out ((rd_T94 l0 (rd l1 4)).f1) p252 q252
                                    have hw252_0 := hx252_0
                                    obtain rfl : ad236 = ad252 := (by injection e252)
                                    replace hx252_0 := (HB.out.cell (World.block_lt_of_cell? w _ hx252_0)).trans hx252_0
                                    replace p252 := eq_true p252
                                    replace q252 := eq_true q252
                                    have p253 : 0 ≤ (((rd_T94 l0 (rd l1 4)).f2) : Int) := of_decide_eq_true (by first | (with_reducible assumption) | assumption)
                                    have q253 : ((rd_T94 l0 (rd l1 4)).f2) < (l1.length : Int) := of_decide_eq_true (by first | (with_reducible assumption) | assumption)
                                    obtain ⟨ad253, e253, hx253_0⟩ := Kd.at_int HR1.out ((rd_T94 l0 (rd l1 4)).f2) p253 q253
                                    have hw253_0 := hx253_0
                                    obtain rfl : ad236 = ad253 := (by injection e253)
                                    replace hx253_0 := (HB.out.cell (World.block_lt_of_cell? w _ hx253_0)).trans hx253_0
                                    replace p253 := eq_true p253
                                    replace q253 := eq_true q253
                                    refine start_ (n := 16) (S := fun w' => w'.cell? ⟨gb238, 0, none⟩ = some (.int .i64 ((rd_T94 l0 (rd l1 4)).f0)) ∧ w'.cell? ⟨gb238, 1, none⟩ = some (.int .i64 ((rd_T94 l0 (rd l1 4)).f1)) ∧ w'.cell? ⟨gb238, 2, none⟩ = some (.int .i64 ((rd_T94 l0 (rd l1 4)).f2)) ∧ w'.cell? (ad236.add (((rd_T94 l0 (rd l1 4)).f1)).toNat) = some (.int .i64 (rd l1 ((rd_T94 l0 (rd l1 4)).f1))) ∧ w'.cell? (ad236.add (((rd_T94 l0 (rd l1 4)).f2)).toNat) = some (.int .i64 (rd l1 ((rd_T94 l0 (rd l1 4)).f2)))) (ds := [15]) #[false, false, false, false, false, false, false, false, false, false, false, false, false, false, false, false] (by kernel_rfl) rfl rfl ⟨(blk_cell BK238.out 0).trans rfl, (blk_cell BK238.out 1).trans rfl, (blk_cell BK238.out 2).trans rfl, ((HB.out.cell (World.block_lt_of_cell? w _ hw252_0)).trans hw252_0), ((HB.out.cell (World.block_lt_of_cell? w _ hw253_0)).trans hw253_0)⟩ (fun hHeld => ?_); refine with_tabW impl_StepCode.tab15 impl_StepCode.bits15 (fun HT_ HW_ => ?_)
                                    generalize w103.drew = w105 at HO_6 BK238 HB hx252_0 hx253_0 hHeld ⊢
                                    refine pure_ (i := 0) (N := some 104) (v := ?_) (a' := ?_) #[true, false, false, false, false, false, false, false, false, false, false, false, false, false, false, false] rfl rfl (any_of HT_.out (by kernel_rfl)) (fun _ _ _ h => h) (Or.inl ⟨by rfl, ?_⟩) ?_ ?_
                                    rotate_left
                                    · intro w'
                                      go_simp
                                      with_reducible rfl
                                    rotate_left
                                    · simp only [Act.put, List.setIfInBounds_toArray, List.set_cons_zero, List.set_cons_succ, i64_w, i32_w]
                                      rfl
                                    refine pure_ (i := 1) (N := some 105) (v := ?_) (a' := ?_) #[true, true, false, false, false, false, false, false, false, false, false, false, false, false, false, false] rfl rfl (any_of HT_.out (by kernel_rfl)) (fun _ _ _ h => h) (Or.inl ⟨by rfl, ?_⟩) ?_ ?_
                                    rotate_left
                                    · intro w'
                                      go_simp
                                      with_reducible rfl
                                    rotate_left
                                    · simp only [Act.put, List.setIfInBounds_toArray, List.set_cons_zero, List.set_cons_succ, i64_w, i32_w]
                                      rfl
                                    refine pure_ (i := 3) (N := some 107) (v := ?_) (a' := ?_) #[true, true, false, true, false, false, false, false, false, false, false, false, false, false, false, false] rfl rfl (any_of HT_.out (by kernel_rfl)) (fun _ _ _ h => h) (Or.inl ⟨by rfl, ?_⟩) ?_ ?_
                                    rotate_left
                                    · intro w'
                                      go_simp
                                      with_reducible rfl
                                    rotate_left
                                    · simp only [Act.put, List.setIfInBounds_toArray, List.set_cons_zero, List.set_cons_succ, i64_w, i32_w]
                                      rfl
                                    refine pure_ (i := 4) (N := some 108) (v := ?_) (a' := ?_) #[true, true, false, true, true, false, false, false, false, false, false, false, false, false, false, false] rfl rfl (any_of HT_.out (by kernel_rfl)) (fun _ _ _ h => h) (Or.inl ⟨by rfl, ?_⟩) ?_ ?_
                                    rotate_left
                                    · intro w'
                                      go_simp
                                      with_reducible rfl
                                    rotate_left
                                    · simp only [Act.put, List.setIfInBounds_toArray, List.set_cons_zero, List.set_cons_succ, i64_w, i32_w]
                                      rfl
                                    refine pure_ (i := 8) (N := some 112) (v := ?_) (a' := ?_) #[true, true, false, true, true, false, false, false, true, false, false, false, false, false, false, false] rfl rfl (any_of HT_.out (by kernel_rfl)) (fun _ _ _ h => h) (Or.inl ⟨by rfl, ?_⟩) ?_ ?_
                                    rotate_left
                                    · intro w'
                                      go_simp
                                      with_reducible rfl
                                    rotate_left
                                    · simp only [Act.put, List.setIfInBounds_toArray, List.set_cons_zero, List.set_cons_succ, i64_w, i32_w]
                                      rfl
                                    refine pure_ (i := 9) (N := some 113) (v := ?_) (a' := ?_) #[true, true, false, true, true, false, false, false, true, true, false, false, false, false, false, false] rfl rfl (any_of HT_.out (by kernel_rfl)) (fun _ _ _ h => h) (Or.inl ⟨by rfl, ?_⟩) ?_ ?_
                                    rotate_left
                                    · intro w'
                                      go_simp
                                      with_reducible rfl
                                    rotate_left
                                    · simp only [Act.put, List.setIfInBounds_toArray, List.set_cons_zero, List.set_cons_succ, i64_w, i32_w]
                                      rfl
                                    refine take_ (i := 2) (N := some 106) (v := ?_) (a' := ?_) #[true, true, true, true, true, false, false, false, true, true, false, false, false, false, false, false] rfl rfl (take_ofW HT_.out HW_.out (by kernel_rfl)) (fun _ _ _ h => h) (Or.inl ⟨by rfl, ?_⟩) hHeld ?_ ?_
                                    rotate_left
                                    · rintro w' ⟨s0, s1, s2, s3, s4⟩
                                      go_simp
                                      with_reducible rfl
                                    rotate_left
                                    · simp only [Act.put, List.setIfInBounds_toArray, List.set_cons_zero, List.set_cons_succ, i64_w, i32_w]
                                      rfl
                                    refine take_ (i := 5) (N := some 109) (v := ?_) (a' := ?_) #[true, true, true, true, true, true, false, false, true, true, false, false, false, false, false, false] rfl rfl (take_ofW HT_.out HW_.out (by kernel_rfl)) (fun _ _ _ h => h) (Or.inl ⟨by rfl, ?_⟩) hHeld ?_ ?_
                                    rotate_left
                                    · rintro w' ⟨s0, s1, s2, s3, s4⟩
                                      go_simp
                                      with_reducible rfl
                                    rotate_left
                                    · simp only [Act.put, List.setIfInBounds_toArray, List.set_cons_zero, List.set_cons_succ, i64_w, i32_w]
                                      rfl
                                    refine pure_ (i := 6) (N := some 110) (v := ?_) (a' := ?_) #[true, true, true, true, true, true, true, false, true, true, false, false, false, false, false, false] rfl rfl (any_of HT_.out (by kernel_rfl)) (fun _ _ _ h => h) (Or.inl ⟨by rfl, ?_⟩) ?_ ?_
                                    rotate_left
                                    · intro w'
                                      go_simp
                                      with_reducible rfl
                                    rotate_left
                                    · simp only [Act.put, List.setIfInBounds_toArray, List.set_cons_zero, List.set_cons_succ, i64_w, i32_w]
                                      rfl
                                    refine take_ (i := 7) (N := some 111) (v := ?_) (a' := ?_) #[true, true, true, true, true, true, true, true, true, true, false, false, false, false, false, false] rfl rfl (take_ofW HT_.out HW_.out (by kernel_rfl)) (fun _ _ _ h => h) (Or.inl ⟨by rfl, ?_⟩) hHeld ?_ ?_
                                    rotate_left
                                    · rintro w' ⟨s0, s1, s2, s3, s4⟩
                                      go_simp
                                      with_reducible rfl
                                    rotate_left
                                    · simp only [Act.put, List.setIfInBounds_toArray, List.set_cons_zero, List.set_cons_succ, i64_w, i32_w]
                                      rfl
                                    refine take_ (i := 10) (N := some 114) (v := ?_) (a' := ?_) #[true, true, true, true, true, true, true, true, true, true, true, false, false, false, false, false] rfl rfl (take_ofW HT_.out HW_.out (by kernel_rfl)) (fun _ _ _ h => h) (Or.inl ⟨by rfl, ?_⟩) hHeld ?_ ?_
                                    rotate_left
                                    · rintro w' ⟨s0, s1, s2, s3, s4⟩
                                      go_simp
                                      with_reducible rfl
                                    rotate_left
                                    · simp only [Act.put, List.setIfInBounds_toArray, List.set_cons_zero, List.set_cons_succ, i64_w, i32_w]
                                      rfl
                                    refine pure_ (i := 11) (N := some 115) (v := ?_) (a' := ?_) #[true, true, true, true, true, true, true, true, true, true, true, true, false, false, false, false] rfl rfl (any_of HT_.out (by kernel_rfl)) (fun _ _ _ h => h) (Or.inl ⟨by rfl, ?_⟩) ?_ ?_
                                    rotate_left
                                    · intro w'
                                      go_simp
                                      with_reducible rfl
                                    rotate_left
                                    · simp only [Act.put, List.setIfInBounds_toArray, List.set_cons_zero, List.set_cons_succ, i64_w, i32_w]
                                      rfl
                                    refine take_ (i := 12) (N := some 116) (v := ?_) (a' := ?_) #[true, true, true, true, true, true, true, true, true, true, true, true, true, false, false, false] rfl rfl (take_ofW HT_.out HW_.out (by kernel_rfl)) (fun _ _ _ h => h) (Or.inl ⟨by rfl, ?_⟩) hHeld ?_ ?_
                                    rotate_left
                                    · rintro w' ⟨s0, s1, s2, s3, s4⟩
                                      go_simp
                                      with_reducible rfl
                                    rotate_left
                                    · simp only [Act.put, List.setIfInBounds_toArray, List.set_cons_zero, List.set_cons_succ, i64_w, i32_w]
                                      rfl
                                    refine one_ (i := 13) (N := some 117) #[true, true, true, true, true, true, true, true, true, true, true, true, true, true, false, false] rfl rfl (one_of HT_.out (by kernel_rfl)) (by decide) (fun K hK => ?_)
                                    refine goes_ Try.func74 (by kernel_rfl) rfl #[.int .i64 (rd l1 ((rd_T94 l0 (rd l1 4)).f1)), .int .i64 (rd l1 ((rd_T94 l0 (rd l1 4)).f2))] (by rfl) rfl rfl (by (try simp only [List.map_toArray, List.map_cons, List.map_nil]); first | done | rfl | (simp only [List.length_drop, List.length_take]; rfl)) ?_
                                    with_reducible refine (impl_MulValues.calls (rd l1 ((rd_T94 l0 (rd l1 4)).f1)) (rd l1 ((rd_T94 l0 (rd l1 4)).f2)) t254 _ A93.out).mono ?_
                                    rintro e w106 ⟨rfl, hb⟩
                                    refine ⟨_, rfl, ?_⟩
                                    have n0_ := Aside0.mk (Kd.R_below (by (with_reducible repeat (first | apply Kd.R_alloc | apply Kd.R_drewN | apply Kd.R_drew)); exact HO_6.out) hb)
                                    have n1_ := Aside0.mk (blk_below (g := gb238) (o := .cells #[.int .i64 ((rd_T94 l0 (rd l1 4)).f0), .int .i64 ((rd_T94 l0 (rd l1 4)).f1), .int .i64 ((rd_T94 l0 (rd l1 4)).f2)] 94 (0, 0)) (by (with_reducible repeat (first | refine blk_drewN ?_ _ | refine blk_drew ?_ | refine blk_alloc ?_ _)); exact BK238.out) hb)
                                    have n2_ := Aside0.mk (below_step (by repeat (first | (with_reducible first | exact HB.out | apply below_alloc | apply pw_below_drewN | apply below_drew1 | refine below_set ?_ GE238.out) | exact HB.out)) hb)
                                    clear HO_6
                                    clear BK238
                                    clear HB
                                    have HO_6 := n0_
                                    have BK238 := n1_
                                    have HB := n2_
                                    clear n0_ n1_ n2_
                                    (try clear hb)
                                    (try clear hb2)
                                    (try clear hk)
                                    (try clear hi)
                                    have p95 : 0 ≤ (((rd_T94 l0 (rd l1 4)).f1) : Int) := of_decide_eq_true (by first | (with_reducible assumption) | assumption)
                                    have q95 : (((rd_T94 l0 (rd l1 4)).f1) : Int) < ((t226.length : Int) : Int) := of_decide_eq_true (by first | (with_reducible assumption) | assumption)
                                    obtain ⟨hx95_0, hf95_0⟩ := Kd.R_celln 0 HO_6.out (((rd_T94 l0 (rd l1 4)).f1) : Int) p95 q95
                                    replace p95 := eq_true p95
                                    replace q95 := eq_true q95
                                    have HP107 := Kd.R_putn HO_6.out (((rd_T94 l0 (rd l1 4)).f1) : Int) t254
                                    rw [← Ny255.out] at HP107
                                    have HQ107 := Aside0.mk HP107
                                    clear HP107
                                    refine hK.out _ _ ⟨(blk_cell BK238.out 0).trans rfl, (blk_cell BK238.out 1).trans rfl, (blk_cell BK238.out 2).trans rfl, ((HB.out.cell (World.block_lt_of_cell? w _ hw252_0)).trans hw252_0), ((HB.out.cell (World.block_lt_of_cell? w _ hw253_0)).trans hw253_0)⟩ (fun hHeld => ?_)
                                    clear hK K
                                    refine norm_ (a' := ?_) ?_ ?_
                                    rotate_left
                                    · show Act.put _ (some 117) _ = _
                                      simp only [Act.put, List.setIfInBounds_toArray, List.set_cons_zero, List.set_cons_succ, i64_w, i32_w]
                                      rfl
                                    refine pure_ (i := 14) (N := some 118) (v := ?_) (a' := ?_) #[true, true, true, true, true, true, true, true, true, true, true, true, true, true, true, false] rfl rfl (any_of HT_.out (by kernel_rfl)) (fun _ _ _ h => h) (Or.inl ⟨by rfl, ?_⟩) ?_ ?_
                                    rotate_left
                                    · intro w'
                                      go_simp
                                      with_reducible rfl
                                    rotate_left
                                    · simp only [Act.put, List.setIfInBounds_toArray, List.set_cons_zero, List.set_cons_succ, i64_w, i32_w]
                                      rfl
                                    refine last_ (i := 15) (N := none) #[true, true, true, true, true, true, true, true, true, true, true, true, true, true, true, true] rfl rfl (one_of HT_.out (by kernel_rfl)) (by decide) (fun K hK => ?_)
                                    refine skip_ (w1 := ?_) (by rfl) rfl ?_ ?_
                                    rotate_left
                                    · go_simp
                                      rfl
                                    refine hK.out _ _ ?_
                                    clear hK K
                                    refine done_ (done_of HT_.out (by kernel_rfl)) ?_
                                    try go_wp2
                                    go_ret2
                                    exact ⟨_, by first | rfl | (simp [errW_none, errW_some] <;> rfl) | (simp [*, errW_none, errW_some] <;> rfl), by (with_reducible repeat (first | apply Kd.R_alloc | apply Kd.R_drewN | apply Kd.R_drew)); exact HQ107.out, by repeat (first | (with_reducible first | exact HB.out | apply below_alloc | apply pw_below_drewN | apply below_drew1 | refine below_set ?_ GB30.out | refine below_set ?_ GE238.out) | exact HB.out)⟩
                                  · rw [if_neg c94] at H
                                    exact absurd H (by simp)
                                · rw [if_neg c92] at H
                                  exact absurd H (by simp)
                              · rw [if_neg c91] at H
                                exact absurd H (by simp)
                            · rw [if_neg c90] at H
                              exact absurd H (by simp)
                          · rw [if_neg c89] at H
                            exact absurd H (by simp)
                        · rw [if_neg c88] at H
                          have c88b0 : (((rd_T94 l0 (rd l1 4)).f0) == 4) = false := beq_eq_false_iff_ne.mpr c88
                          have c88b1 : (((rd_T94 l0 (rd l1 4)).f0) != 4) = true := bne_iff_ne.mpr c88
                          by_cases c108 : ((rd_T94 l0 (rd l1 4)).f0) = 5
                          · rw [if_pos c108] at H
                            have c108b0 : (((rd_T94 l0 (rd l1 4)).f0) == 5) = true := beq_iff_eq.mpr c108
                            have c108b1 : (((rd_T94 l0 (rd l1 4)).f0) != 5) = false := bne_eq_false_iff_eq.mpr c108
                            clear c108
                            by_cases c109 : 0 ≤ ((rd_T94 l0 (rd l1 4)).f1)
                            · rw [if_pos c109] at H
                              have c109b0 : decide (0 ≤ ((rd_T94 l0 (rd l1 4)).f1)) = true := decide_eq_true c109
                              clear c109
                              by_cases c110 : ((rd_T94 l0 (rd l1 4)).f1) < (l1.length : Int)
                              · rw [if_pos c110] at H
                                have c110b0 : decide (((rd_T94 l0 (rd l1 4)).f1) < (l1.length : Int)) = true := decide_eq_true c110
                                clear c110
                                by_cases c111 : (rd l1 ((rd_T94 l0 (rd l1 4)).f1)) = 0
                                · rw [if_pos c111] at H
                                  have c111b0 : ((rd l1 ((rd_T94 l0 (rd l1 4)).f1)) == 0) = true := beq_iff_eq.mpr c111
                                  have c111b1 : ((rd l1 ((rd_T94 l0 (rd l1 4)).f1)) != 0) = false := bne_eq_false_iff_eq.mpr c111
                                  clear c111
                                  simp only [Option.some.injEq, Prod.mk.injEq] at H
                                  obtain ⟨rfl, rfl⟩ := H
                                  have p236 : 0 ≤ (4 : Int) := (by omega)
                                  have q236 : 4 < (l1.length : Int) := of_decide_eq_true (by first | (with_reducible assumption) | assumption)
                                  obtain ⟨ad236, e236, hx236_0⟩ := Kd.at_int HR1.out 4 p236 q236
                                  cases e236
                                  (try simp only [show (4 : Int).toNat = 4 from rfl, Nat.reduceMul, Nat.reduceEqDiff, Go.Addr.add, ↓reduceIte] at hx236_0)
                                  have qi236 : (4 < l1.length) = True := eq_true (by omega)
                                  (try rw [show ((4 : Int)).toNat = 4 from rfl] at hx236_0)
                                  replace hx236_0 := (HB.out.cell (World.block_lt_of_cell? w _ hx236_0)).trans hx236_0
                                  replace p236 := eq_true p236
                                  replace q236 := eq_true q236
                                  have p237 : 0 ≤ ((rd l1 4) : Int) := of_decide_eq_true (by first | (with_reducible assumption) | assumption)
                                  have q237 : (rd l1 4) < (l0.length : Int) := of_decide_eq_true (by first | (with_reducible assumption) | assumption)
                                  obtain ⟨ad237, e237, hx237_0, hx237_1, hx237_2⟩ := at_T94 HR0.out (rd l1 4) p237 q237
                                  cases e237
                                  replace hx237_0 := (HB.out.cell (World.block_lt_of_cell? w _ hx237_0)).trans hx237_0
                                  replace hx237_1 := (HB.out.cell (World.block_lt_of_cell? w _ hx237_1)).trans hx237_1
                                  replace hx237_2 := (HB.out.cell (World.block_lt_of_cell? w _ hx237_2)).trans hx237_2
                                  replace p237 := eq_true p237
                                  replace q237 := eq_true q237
                                  go_wp2_with (first | ((with_reducible refine gate_dst (N := 7) rfl ?_); (try (refine gate_guard (by rfl) ?_; dsimp only)); refine box_event ?hg (N := 7) ?hd (cs := #[.int .i64 0, .int .i64 0, .int .i64 0]) (t := 94) ?hr ?_; (case hd => rfl); (case hg => rfl); (case hr => first | (go_simp; done) | (go_simp; rfl)); intro gb238 hg w112 hbox hb; have n0_ := Aside0.mk (Kd.R_below (by (with_reducible repeat (first | apply Kd.R_alloc | apply Kd.R_drewN | apply Kd.R_drew)); exact HO_6.out) hb); have n1_ := Aside0.mk (below_step (by repeat (first | (with_reducible first | exact HB.out | apply below_alloc | apply pw_below_drewN | apply below_drew1) | exact HB.out)) hb); have n2_ := Aside0.mk (hbox); have n3_ := Aside0.mk ((by rw [hg]; exact (below_size (by repeat (first | (with_reducible first | exact HB.out | apply below_alloc | apply pw_below_drewN | apply below_drew1) | exact HB.out))) : w.heap.size ≤ gb238)); have n4_ := Aside0.mk ((by rw [hg]; exact (below_size (by repeat (first | (with_reducible first | exact HB.out | apply below_alloc | apply pw_below_drewN | apply below_drew1) | exact HB.out))) : w.heap.size ≤ gb238)); clear HO_6; clear HB; have HO_6 := n0_; have HB := n1_; have BK238 := n2_; have GW238 := n3_; have GE238 := n4_; clear n0_ n1_ n2_ n3_ n4_; clear hb hbox hg; have hcz113_0 : w112.cell? ⟨gb238, 0, none⟩ = some (.int .i64 0) := (blk_cell BK238.out 0).trans rfl; have hcz113_1 : w112.cell? ⟨gb238, 1, none⟩ = some (.int .i64 0) := (blk_cell BK238.out 1).trans rfl; have hcz113_2 : w112.cell? ⟨gb238, 2, none⟩ = some (.int .i64 0) := (blk_cell BK238.out 2).trans rfl; have hfz113_0 := blk_frozen BK238.out 0; have hfz113_1 := blk_frozen BK238.out 1; have hfz113_2 := blk_frozen BK238.out 2) | ((with_reducible refine gate_store (t := 94) (p := 7) rfl ?_); refine store_event (t := 94) (p := 7) (v := ?vo_w114) (w1 := (((w112.setCell ⟨gb238, 0, none⟩ (.int .i64 ((rd_T94 l0 (rd l1 4)).f0))).setCell ⟨gb238, 1, none⟩ (.int .i64 ((rd_T94 l0 (rd l1 4)).f1))).setCell ⟨gb238, 2, none⟩ (.int .i64 ((rd_T94 l0 (rd l1 4)).f2)))) ?hg ?ho ?hn ?hr ?_; (case ho => rfl); (case hg => rfl); (case hn => rfl); (case hr => first | (go_simp; done) | (go_simp; rfl)); intro w114 hw; have n0_ : Aside0 (Kd.R (Kd.int .i64) 3 w114 w.heap.size (fun _ => True) v227 t226) := ⟨(by rw [hw]; exact (by (with_reducible repeat (first | apply Kd.R_alloc | apply Kd.R_drewN | apply Kd.R_drew)); exact Kd.R_mono (Kd.R_far (p := ⟨gb238, 2, none⟩) (Kd.R_far (p := ⟨gb238, 1, none⟩) (Kd.R_far (p := ⟨gb238, 0, none⟩) (Kd.R_types HO_6.out BK238.out (by decide)) (fun _ hk => hk.2) (.int .i64 ((rd_T94 l0 (rd l1 4)).f0))) (fun _ hk => hk.2) (.int .i64 ((rd_T94 l0 (rd l1 4)).f1))) (fun _ hk => hk.2) (.int .i64 ((rd_T94 l0 (rd l1 4)).f2))) (fun _ hk => trivial)))⟩; have n1_ : Aside0 (w114.heap[gb238]? = some (.cells #[.int .i64 ((rd_T94 l0 (rd l1 4)).f0), .int .i64 ((rd_T94 l0 (rd l1 4)).f1), .int .i64 ((rd_T94 l0 (rd l1 4)).f2)] 94 (0, 0))) := ⟨(by rw [hw]; exact (by (with_reducible repeat (first | refine blk_drewN ?_ _ | refine blk_drew ?_ | refine blk_alloc ?_ _)); refine blk_put (cs := #[.int .i64 ((rd_T94 l0 (rd l1 4)).f0), .int .i64 ((rd_T94 l0 (rd l1 4)).f1), .int .i64 0]) ?_ 2 _ rfl; (with_reducible repeat (first | refine blk_drewN ?_ _ | refine blk_drew ?_ | refine blk_alloc ?_ _)); refine blk_put (cs := #[.int .i64 ((rd_T94 l0 (rd l1 4)).f0), .int .i64 0, .int .i64 0]) ?_ 1 _ rfl; (with_reducible repeat (first | refine blk_drewN ?_ _ | refine blk_drew ?_ | refine blk_alloc ?_ _)); refine blk_put (cs := #[.int .i64 0, .int .i64 0, .int .i64 0]) ?_ 0 _ rfl; (with_reducible repeat (first | refine blk_drewN ?_ _ | refine blk_drew ?_ | refine blk_alloc ?_ _)); exact BK238.out))⟩; have n2_ : Aside0 (Below w.heap.size w w114) := ⟨(by rw [hw]; exact (by repeat (first | (with_reducible first | exact HB.out | apply below_alloc | apply pw_below_drewN | apply below_drew1 | refine below_set ?_ GE238.out) | exact HB.out)))⟩; clear hw; clear HO_6; clear BK238; clear HB; have HO_6 := n0_; have BK238 := n1_; have HB := n2_; clear n0_ n1_ n2_; obtain ⟨Ao115, co115, eo115⟩ := Kd.R_slice HO_6.out; subst eo115; have p239 : 0 ≤ (4 : Int) := (by omega); have q239 : 4 < (t226.length : Int) := of_decide_eq_true (by first | (with_reducible assumption) | assumption); obtain ⟨ad239, e239, hx239_0⟩ := Kd.at_int (Kd.R_reads' HO_6.out).2.2 4 p239 q239; cases e239; (try simp only [show (4 : Int).toNat = 4 from rfl, Nat.reduceMul, Nat.reduceEqDiff, Go.Addr.add, ↓reduceIte] at hx239_0); have qi239 : (4 < t226.length) = True := eq_true (by omega); (try rw [show ((4 : Int)).toNat = 4 from rfl] at hx239_0); replace p239 := eq_true p239; replace q239 := eq_true q239; have p30 : 0 ≤ (4 : Int) := (by omega); have q30 : (4 : Int) < ((t226.length : Int) : Int) := of_decide_eq_true (by first | (with_reducible assumption) | assumption); have qi30 : (4 < t226.length) = True := eq_true (by omega); obtain ⟨go30, co30, eo30, gb30, gl30, cl30, HG30⟩ := Kd.R_form HO_6.out (by omega); (first | cases eo30 | (injection eo30 with ea_ en_ ec_; (first | subst ea_ | (injection ea_ with ea_; subst ea_)); subst ec_; clear en_)); have GB30 := Aside0.mk gb30; have GG30 := Aside0.mk HG30; clear gb30 gl30 HG30; (first | simp only [add_plain] at hx239_0 | skip); obtain ⟨hx30_0, hf30_0⟩ := Kd.R_celln 0 HO_6.out (4 : Int) p30 q30; (try rw [show ((4 : Int)).toNat = 4 from rfl] at hx30_0); (try simp only [Nat.reduceMul, Nat.zero_mul, Nat.zero_add, Nat.reduceAdd] at hx30_0); (try rw [show ((4 : Int)).toNat = 4 from rfl] at hf30_0); (try simp only [Nat.reduceMul, Nat.zero_mul, Nat.zero_add, Nat.reduceAdd] at hf30_0); replace p30 := eq_true p30; replace q30 := eq_true q30; obtain ⟨hy116_, hz116_⟩ := Kd.R_celln 0 HO_6.out (4 : Int) (by omega) (of_decide_eq_true (by first | (with_reducible assumption) | assumption)); (try simp only [Int.reduceToNat, Int.toNat_zero, Int.toNat_ofNat, Nat.reduceMul, Nat.zero_mul, Nat.zero_add] at hy116_ hz116_); (try rw [show ((4 : Int)).toNat = 4 from rfl] at hy116_); (try rw [show ((4 : Int)).toNat = 4 from rfl] at hz116_); have HP116 := Kd.R_putg HO_6.out (4 : Int) (wrap64 ((rd t226 4) + 1))) | ((with_reducible refine gate_store (t := 3) (p := 52) rfl ?_); refine store_event (t := 3) (p := 52) (v := ?vo_w117) (w1 := (w114.setCell ⟨go30, (4 : Int).toNat, none⟩ (.int .i64 (wrap64 ((rd t226 4) + 1))))) ?hg ?ho ?hn ?hr ?_; (case ho => rfl); (case hg => rfl); (case hn => rfl); (case hr => first | (go_simp; done) | (go_simp; rfl)); intro w117 hw; have hg : w114.grownBy w117 (some go30) := (by rw [hw]; exact HP116.2); have hp_ : Kd.R (Kd.int .i64) 3 w117 w.heap.size (fun _ => True) (.slice (some ⟨go30, 0, none⟩) t226.length co115) y240 := (by rw [hw, Ny240.out]; exact HP116.1); clear HP116; have n0_ := Aside0.mk (hp_); have n1_ := Aside0.mk (blk_grown (g := gb238) (o := .cells #[.int .i64 ((rd_T94 l0 (rd l1 4)).f0), .int .i64 ((rd_T94 l0 (rd l1 4)).f1), .int .i64 ((rd_T94 l0 (rd l1 4)).f2)] 94 (0, 0)) (by (with_reducible repeat (first | refine blk_drewN ?_ _ | refine blk_drew ?_ | refine blk_alloc ?_ _)); exact BK238.out) hg (Kd.R_ne HO_6.out BK238.out (by decide))); have n2_ := Aside0.mk ((by rw [hw]; exact below_set (HB.out) GB30.out : Below w.heap.size w w117)); clear HO_6; clear BK238; clear HB; have HO_6 := n0_; have BK238 := n1_; have HB := n2_; clear n0_ n1_ n2_; clear hg hw hp_; have p241 : 0 ≤ (5 : Int) := (by omega); have q241 : 5 < (y240.length : Int) := (by have h_ : (5 : Int) < ((t226.length : Int) : Int) := of_decide_eq_true (by first | (with_reducible assumption) | assumption); first | (have e_ := (Kd.R_reads' HO_6.out).1; omega) | simpa only [Ny240.out, List.length_set] using h_); have ql241 : ((5 : Int) < ((t226.length : Int) : Int)) = True := eq_true (of_decide_eq_true (by first | (with_reducible assumption) | assumption)); (try have qn241 : (5 < t226.length) = True := eq_true (by have h_ : (5 : Int) < ((t226.length : Int) : Int) := of_decide_eq_true (by first | (with_reducible assumption) | assumption); omega)); obtain ⟨ad241, e241, hx241_0⟩ := Kd.at_int (Kd.R_reads' HO_6.out).2.2 5 p241 q241; obtain rfl : (⟨go30, 0, none⟩ : Addr) = ad241 := (by injection e241); (first | simp only [add_plain] at hx241_0 | simp only [add_at] at hx241_0 | simp only [Addr.add, Nat.zero_add] at hx241_0 | skip); have qi241 : (5 < y240.length) = True := eq_true (by omega); (try rw [show ((5 : Int)).toNat = 5 from rfl] at hx241_0); replace p241 := eq_true p241; replace q241 := eq_true q241; have p32 : 0 ≤ (5 : Int) := (by omega); have q32 : (5 : Int) < ((t226.length : Int) : Int) := of_decide_eq_true (by first | (with_reducible assumption) | assumption); have qi32 : (5 < t226.length) = True := eq_true (by omega); obtain ⟨hx32_0, hf32_0⟩ := Kd.R_celln 0 HO_6.out (5 : Int) p32 q32; (try rw [show ((5 : Int)).toNat = 5 from rfl] at hx32_0); (try simp only [Nat.reduceMul, Nat.zero_mul, Nat.zero_add, Nat.reduceAdd] at hx32_0); (try rw [show ((5 : Int)).toNat = 5 from rfl] at hf32_0); (try simp only [Nat.reduceMul, Nat.zero_mul, Nat.zero_add, Nat.reduceAdd] at hf32_0); replace p32 := eq_true p32; replace q32 := eq_true q32; obtain ⟨hy118_, hz118_⟩ := Kd.R_celln 0 HO_6.out (5 : Int) (by omega) (of_decide_eq_true (by first | (with_reducible assumption) | assumption)); (try simp only [Int.reduceToNat, Int.toNat_zero, Int.toNat_ofNat, Nat.reduceMul, Nat.zero_mul, Nat.zero_add] at hy118_ hz118_); (try rw [show ((5 : Int)).toNat = 5 from rfl] at hy118_); (try rw [show ((5 : Int)).toNat = 5 from rfl] at hz118_); have HP118 := Kd.R_putg HO_6.out (5 : Int) (wrap64 ((rd y240 5) + 1))) | ((with_reducible refine gate_store (t := 3) (p := 57) rfl ?_); refine store_event (t := 3) (p := 57) (v := ?vo_w119) (w1 := (w117.setCell ⟨go30, (5 : Int).toNat, none⟩ (.int .i64 (wrap64 ((rd y240 5) + 1))))) ?hg ?ho ?hn ?hr ?_; (case ho => rfl); (case hg => rfl); (case hn => rfl); (case hr => first | (go_simp; done) | (go_simp; rfl)); intro w119 hw; have hg : w117.grownBy w119 (some go30) := (by rw [hw]; exact HP118.2); have hp_ : Kd.R (Kd.int .i64) 3 w119 w.heap.size (fun _ => True) (.slice (some ⟨go30, 0, none⟩) t226.length co115) y242 := (by rw [hw, Ny242.out]; exact HP118.1); clear HP118; have n0_ := Aside0.mk (hp_); have n1_ := Aside0.mk (blk_grown (g := gb238) (o := .cells #[.int .i64 ((rd_T94 l0 (rd l1 4)).f0), .int .i64 ((rd_T94 l0 (rd l1 4)).f1), .int .i64 ((rd_T94 l0 (rd l1 4)).f2)] 94 (0, 0)) (by (with_reducible repeat (first | refine blk_drewN ?_ _ | refine blk_drew ?_ | refine blk_alloc ?_ _)); exact BK238.out) hg (Kd.R_ne HO_6.out BK238.out (by decide))); have n2_ := Aside0.mk ((by rw [hw]; exact below_set (HB.out) GB30.out : Below w.heap.size w w119)); clear HO_6; clear BK238; clear HB; have HO_6 := n0_; have BK238 := n1_; have HB := n2_; clear n0_ n1_ n2_; clear hg hw hp_; have hcz120_0 : w119.cell? ⟨gb238, 0, none⟩ = some (.int .i64 ((rd_T94 l0 (rd l1 4)).f0)) := (blk_cell BK238.out 0).trans rfl; have hcz120_1 : w119.cell? ⟨gb238, 1, none⟩ = some (.int .i64 ((rd_T94 l0 (rd l1 4)).f1)) := (blk_cell BK238.out 1).trans rfl; have hcz120_2 : w119.cell? ⟨gb238, 2, none⟩ = some (.int .i64 ((rd_T94 l0 (rd l1 4)).f2)) := (blk_cell BK238.out 2).trans rfl; have hfz120_0 := blk_frozen BK238.out 0; have hfz120_1 := blk_frozen BK238.out 1; have hfz120_2 := blk_frozen BK238.out 2; have p256 : 0 ≤ (((rd_T94 l0 (rd l1 4)).f1) : Int) := of_decide_eq_true (by first | (with_reducible assumption) | assumption); have q256 : ((rd_T94 l0 (rd l1 4)).f1) < (l1.length : Int) := of_decide_eq_true (by first | (with_reducible assumption) | assumption); obtain ⟨ad256, e256, hx256_0⟩ := Kd.at_int HR1.out ((rd_T94 l0 (rd l1 4)).f1) p256 q256; obtain rfl : ad236 = ad256 := (by injection e256); replace hx256_0 := (HB.out.cell (World.block_lt_of_cell? w _ hx256_0)).trans hx256_0; replace p256 := eq_true p256; replace q256 := eq_true q256))
                                  go_ret2
                                  exact ⟨_, by first | rfl | (simp [errW_none, errW_some] <;> rfl) | (simp [*, errW_none, errW_some] <;> rfl), by (with_reducible repeat (first | apply Kd.R_alloc | apply Kd.R_drewN | apply Kd.R_drew)); exact HO_6.out, by repeat (first | (with_reducible first | exact HB.out | apply below_alloc | apply pw_below_drewN | apply below_drew1 | refine below_set ?_ GE238.out) | exact HB.out)⟩
                                · rw [if_neg c111] at H
                                  have c111b0 : ((rd l1 ((rd_T94 l0 (rd l1 4)).f1)) == 0) = false := beq_eq_false_iff_ne.mpr c111
                                  have c111b1 : ((rd l1 ((rd_T94 l0 (rd l1 4)).f1)) != 0) = true := bne_iff_ne.mpr c111
                                  obtain ⟨y257, hy257⟩ : ∃ y_ : List Int, y_ = (y242.set (4 : Int).toNat ((rd_T94 l0 (rd l1 4)).f2)) := ⟨_, rfl⟩
                                  replace H : (some (y257, true)) = some (r1, r2) := by first | (rw [hy257]; with_reducible exact H) | (have H2_ := (Option.bind_some _ _).symm.trans H; rw [hy257]; with_reducible exact H2_) | (have H2_ := (Option.bind_some _ _).symm.trans H; with_reducible exact H2_) | with_reducible exact H | (rw [hy257]; exact H) | exact H
                                  have Ny257 := Aside0.mk hy257
                                  clear hy257
                                  simp only [Option.some.injEq, Prod.mk.injEq] at H
                                  obtain ⟨rfl, rfl⟩ := H
                                  have p236 : 0 ≤ (4 : Int) := (by omega)
                                  have q236 : 4 < (l1.length : Int) := of_decide_eq_true (by first | (with_reducible assumption) | assumption)
                                  obtain ⟨ad236, e236, hx236_0⟩ := Kd.at_int HR1.out 4 p236 q236
                                  cases e236
                                  (try simp only [show (4 : Int).toNat = 4 from rfl, Nat.reduceMul, Nat.reduceEqDiff, Go.Addr.add, ↓reduceIte] at hx236_0)
                                  have qi236 : (4 < l1.length) = True := eq_true (by omega)
                                  (try rw [show ((4 : Int)).toNat = 4 from rfl] at hx236_0)
                                  replace hx236_0 := (HB.out.cell (World.block_lt_of_cell? w _ hx236_0)).trans hx236_0
                                  replace p236 := eq_true p236
                                  replace q236 := eq_true q236
                                  have p237 : 0 ≤ ((rd l1 4) : Int) := of_decide_eq_true (by first | (with_reducible assumption) | assumption)
                                  have q237 : (rd l1 4) < (l0.length : Int) := of_decide_eq_true (by first | (with_reducible assumption) | assumption)
                                  obtain ⟨ad237, e237, hx237_0, hx237_1, hx237_2⟩ := at_T94 HR0.out (rd l1 4) p237 q237
                                  cases e237
                                  replace hx237_0 := (HB.out.cell (World.block_lt_of_cell? w _ hx237_0)).trans hx237_0
                                  replace hx237_1 := (HB.out.cell (World.block_lt_of_cell? w _ hx237_1)).trans hx237_1
                                  replace hx237_2 := (HB.out.cell (World.block_lt_of_cell? w _ hx237_2)).trans hx237_2
                                  replace p237 := eq_true p237
                                  replace q237 := eq_true q237
                                  go_wp2_with (first | ((with_reducible refine gate_dst (N := 7) rfl ?_); (try (refine gate_guard (by rfl) ?_; dsimp only)); refine box_event ?hg (N := 7) ?hd (cs := #[.int .i64 0, .int .i64 0, .int .i64 0]) (t := 94) ?hr ?_; (case hd => rfl); (case hg => rfl); (case hr => first | (go_simp; done) | (go_simp; rfl)); intro gb238 hg w122 hbox hb; have n0_ := Aside0.mk (Kd.R_below (by (with_reducible repeat (first | apply Kd.R_alloc | apply Kd.R_drewN | apply Kd.R_drew)); exact HO_6.out) hb); have n1_ := Aside0.mk (below_step (by repeat (first | (with_reducible first | exact HB.out | apply below_alloc | apply pw_below_drewN | apply below_drew1) | exact HB.out)) hb); have n2_ := Aside0.mk (hbox); have n3_ := Aside0.mk ((by rw [hg]; exact (below_size (by repeat (first | (with_reducible first | exact HB.out | apply below_alloc | apply pw_below_drewN | apply below_drew1) | exact HB.out))) : w.heap.size ≤ gb238)); have n4_ := Aside0.mk ((by rw [hg]; exact (below_size (by repeat (first | (with_reducible first | exact HB.out | apply below_alloc | apply pw_below_drewN | apply below_drew1) | exact HB.out))) : w.heap.size ≤ gb238)); clear HO_6; clear HB; have HO_6 := n0_; have HB := n1_; have BK238 := n2_; have GW238 := n3_; have GE238 := n4_; clear n0_ n1_ n2_ n3_ n4_; clear hb hbox hg; have hcz123_0 : w122.cell? ⟨gb238, 0, none⟩ = some (.int .i64 0) := (blk_cell BK238.out 0).trans rfl; have hcz123_1 : w122.cell? ⟨gb238, 1, none⟩ = some (.int .i64 0) := (blk_cell BK238.out 1).trans rfl; have hcz123_2 : w122.cell? ⟨gb238, 2, none⟩ = some (.int .i64 0) := (blk_cell BK238.out 2).trans rfl; have hfz123_0 := blk_frozen BK238.out 0; have hfz123_1 := blk_frozen BK238.out 1; have hfz123_2 := blk_frozen BK238.out 2) | ((with_reducible refine gate_store (t := 94) (p := 7) rfl ?_); refine store_event (t := 94) (p := 7) (v := ?vo_w124) (w1 := (((w122.setCell ⟨gb238, 0, none⟩ (.int .i64 ((rd_T94 l0 (rd l1 4)).f0))).setCell ⟨gb238, 1, none⟩ (.int .i64 ((rd_T94 l0 (rd l1 4)).f1))).setCell ⟨gb238, 2, none⟩ (.int .i64 ((rd_T94 l0 (rd l1 4)).f2)))) ?hg ?ho ?hn ?hr ?_; (case ho => rfl); (case hg => rfl); (case hn => rfl); (case hr => first | (go_simp; done) | (go_simp; rfl)); intro w124 hw; have n0_ : Aside0 (Kd.R (Kd.int .i64) 3 w124 w.heap.size (fun _ => True) v227 t226) := ⟨(by rw [hw]; exact (by (with_reducible repeat (first | apply Kd.R_alloc | apply Kd.R_drewN | apply Kd.R_drew)); exact Kd.R_mono (Kd.R_far (p := ⟨gb238, 2, none⟩) (Kd.R_far (p := ⟨gb238, 1, none⟩) (Kd.R_far (p := ⟨gb238, 0, none⟩) (Kd.R_types HO_6.out BK238.out (by decide)) (fun _ hk => hk.2) (.int .i64 ((rd_T94 l0 (rd l1 4)).f0))) (fun _ hk => hk.2) (.int .i64 ((rd_T94 l0 (rd l1 4)).f1))) (fun _ hk => hk.2) (.int .i64 ((rd_T94 l0 (rd l1 4)).f2))) (fun _ hk => trivial)))⟩; have n1_ : Aside0 (w124.heap[gb238]? = some (.cells #[.int .i64 ((rd_T94 l0 (rd l1 4)).f0), .int .i64 ((rd_T94 l0 (rd l1 4)).f1), .int .i64 ((rd_T94 l0 (rd l1 4)).f2)] 94 (0, 0))) := ⟨(by rw [hw]; exact (by (with_reducible repeat (first | refine blk_drewN ?_ _ | refine blk_drew ?_ | refine blk_alloc ?_ _)); refine blk_put (cs := #[.int .i64 ((rd_T94 l0 (rd l1 4)).f0), .int .i64 ((rd_T94 l0 (rd l1 4)).f1), .int .i64 0]) ?_ 2 _ rfl; (with_reducible repeat (first | refine blk_drewN ?_ _ | refine blk_drew ?_ | refine blk_alloc ?_ _)); refine blk_put (cs := #[.int .i64 ((rd_T94 l0 (rd l1 4)).f0), .int .i64 0, .int .i64 0]) ?_ 1 _ rfl; (with_reducible repeat (first | refine blk_drewN ?_ _ | refine blk_drew ?_ | refine blk_alloc ?_ _)); refine blk_put (cs := #[.int .i64 0, .int .i64 0, .int .i64 0]) ?_ 0 _ rfl; (with_reducible repeat (first | refine blk_drewN ?_ _ | refine blk_drew ?_ | refine blk_alloc ?_ _)); exact BK238.out))⟩; have n2_ : Aside0 (Below w.heap.size w w124) := ⟨(by rw [hw]; exact (by repeat (first | (with_reducible first | exact HB.out | apply below_alloc | apply pw_below_drewN | apply below_drew1 | refine below_set ?_ GE238.out) | exact HB.out)))⟩; clear hw; clear HO_6; clear BK238; clear HB; have HO_6 := n0_; have BK238 := n1_; have HB := n2_; clear n0_ n1_ n2_; obtain ⟨Ao125, co125, eo125⟩ := Kd.R_slice HO_6.out; subst eo125; have p239 : 0 ≤ (4 : Int) := (by omega); have q239 : 4 < (t226.length : Int) := of_decide_eq_true (by first | (with_reducible assumption) | assumption); obtain ⟨ad239, e239, hx239_0⟩ := Kd.at_int (Kd.R_reads' HO_6.out).2.2 4 p239 q239; cases e239; (try simp only [show (4 : Int).toNat = 4 from rfl, Nat.reduceMul, Nat.reduceEqDiff, Go.Addr.add, ↓reduceIte] at hx239_0); have qi239 : (4 < t226.length) = True := eq_true (by omega); (try rw [show ((4 : Int)).toNat = 4 from rfl] at hx239_0); replace p239 := eq_true p239; replace q239 := eq_true q239; have p30 : 0 ≤ (4 : Int) := (by omega); have q30 : (4 : Int) < ((t226.length : Int) : Int) := of_decide_eq_true (by first | (with_reducible assumption) | assumption); have qi30 : (4 < t226.length) = True := eq_true (by omega); obtain ⟨go30, co30, eo30, gb30, gl30, cl30, HG30⟩ := Kd.R_form HO_6.out (by omega); (first | cases eo30 | (injection eo30 with ea_ en_ ec_; (first | subst ea_ | (injection ea_ with ea_; subst ea_)); subst ec_; clear en_)); have GB30 := Aside0.mk gb30; have GG30 := Aside0.mk HG30; clear gb30 gl30 HG30; (first | simp only [add_plain] at hx239_0 | skip); obtain ⟨hx30_0, hf30_0⟩ := Kd.R_celln 0 HO_6.out (4 : Int) p30 q30; (try rw [show ((4 : Int)).toNat = 4 from rfl] at hx30_0); (try simp only [Nat.reduceMul, Nat.zero_mul, Nat.zero_add, Nat.reduceAdd] at hx30_0); (try rw [show ((4 : Int)).toNat = 4 from rfl] at hf30_0); (try simp only [Nat.reduceMul, Nat.zero_mul, Nat.zero_add, Nat.reduceAdd] at hf30_0); replace p30 := eq_true p30; replace q30 := eq_true q30; obtain ⟨hy126_, hz126_⟩ := Kd.R_celln 0 HO_6.out (4 : Int) (by omega) (of_decide_eq_true (by first | (with_reducible assumption) | assumption)); (try simp only [Int.reduceToNat, Int.toNat_zero, Int.toNat_ofNat, Nat.reduceMul, Nat.zero_mul, Nat.zero_add] at hy126_ hz126_); (try rw [show ((4 : Int)).toNat = 4 from rfl] at hy126_); (try rw [show ((4 : Int)).toNat = 4 from rfl] at hz126_); have HP126 := Kd.R_putg HO_6.out (4 : Int) (wrap64 ((rd t226 4) + 1))) | ((with_reducible refine gate_store (t := 3) (p := 52) rfl ?_); refine store_event (t := 3) (p := 52) (v := ?vo_w127) (w1 := (w124.setCell ⟨go30, (4 : Int).toNat, none⟩ (.int .i64 (wrap64 ((rd t226 4) + 1))))) ?hg ?ho ?hn ?hr ?_; (case ho => rfl); (case hg => rfl); (case hn => rfl); (case hr => first | (go_simp; done) | (go_simp; rfl)); intro w127 hw; have hg : w124.grownBy w127 (some go30) := (by rw [hw]; exact HP126.2); have hp_ : Kd.R (Kd.int .i64) 3 w127 w.heap.size (fun _ => True) (.slice (some ⟨go30, 0, none⟩) t226.length co125) y240 := (by rw [hw, Ny240.out]; exact HP126.1); clear HP126; have n0_ := Aside0.mk (hp_); have n1_ := Aside0.mk (blk_grown (g := gb238) (o := .cells #[.int .i64 ((rd_T94 l0 (rd l1 4)).f0), .int .i64 ((rd_T94 l0 (rd l1 4)).f1), .int .i64 ((rd_T94 l0 (rd l1 4)).f2)] 94 (0, 0)) (by (with_reducible repeat (first | refine blk_drewN ?_ _ | refine blk_drew ?_ | refine blk_alloc ?_ _)); exact BK238.out) hg (Kd.R_ne HO_6.out BK238.out (by decide))); have n2_ := Aside0.mk ((by rw [hw]; exact below_set (HB.out) GB30.out : Below w.heap.size w w127)); clear HO_6; clear BK238; clear HB; have HO_6 := n0_; have BK238 := n1_; have HB := n2_; clear n0_ n1_ n2_; clear hg hw hp_; have p241 : 0 ≤ (5 : Int) := (by omega); have q241 : 5 < (y240.length : Int) := (by have h_ : (5 : Int) < ((t226.length : Int) : Int) := of_decide_eq_true (by first | (with_reducible assumption) | assumption); first | (have e_ := (Kd.R_reads' HO_6.out).1; omega) | simpa only [Ny240.out, List.length_set] using h_); have ql241 : ((5 : Int) < ((t226.length : Int) : Int)) = True := eq_true (of_decide_eq_true (by first | (with_reducible assumption) | assumption)); (try have qn241 : (5 < t226.length) = True := eq_true (by have h_ : (5 : Int) < ((t226.length : Int) : Int) := of_decide_eq_true (by first | (with_reducible assumption) | assumption); omega)); obtain ⟨ad241, e241, hx241_0⟩ := Kd.at_int (Kd.R_reads' HO_6.out).2.2 5 p241 q241; obtain rfl : (⟨go30, 0, none⟩ : Addr) = ad241 := (by injection e241); (first | simp only [add_plain] at hx241_0 | simp only [add_at] at hx241_0 | simp only [Addr.add, Nat.zero_add] at hx241_0 | skip); have qi241 : (5 < y240.length) = True := eq_true (by omega); (try rw [show ((5 : Int)).toNat = 5 from rfl] at hx241_0); replace p241 := eq_true p241; replace q241 := eq_true q241; have p32 : 0 ≤ (5 : Int) := (by omega); have q32 : (5 : Int) < ((t226.length : Int) : Int) := of_decide_eq_true (by first | (with_reducible assumption) | assumption); have qi32 : (5 < t226.length) = True := eq_true (by omega); obtain ⟨hx32_0, hf32_0⟩ := Kd.R_celln 0 HO_6.out (5 : Int) p32 q32; (try rw [show ((5 : Int)).toNat = 5 from rfl] at hx32_0); (try simp only [Nat.reduceMul, Nat.zero_mul, Nat.zero_add, Nat.reduceAdd] at hx32_0); (try rw [show ((5 : Int)).toNat = 5 from rfl] at hf32_0); (try simp only [Nat.reduceMul, Nat.zero_mul, Nat.zero_add, Nat.reduceAdd] at hf32_0); replace p32 := eq_true p32; replace q32 := eq_true q32; obtain ⟨hy128_, hz128_⟩ := Kd.R_celln 0 HO_6.out (5 : Int) (by omega) (of_decide_eq_true (by first | (with_reducible assumption) | assumption)); (try simp only [Int.reduceToNat, Int.toNat_zero, Int.toNat_ofNat, Nat.reduceMul, Nat.zero_mul, Nat.zero_add] at hy128_ hz128_); (try rw [show ((5 : Int)).toNat = 5 from rfl] at hy128_); (try rw [show ((5 : Int)).toNat = 5 from rfl] at hz128_); have HP128 := Kd.R_putg HO_6.out (5 : Int) (wrap64 ((rd y240 5) + 1))) | ((with_reducible refine gate_store (t := 3) (p := 57) rfl ?_); refine store_event (t := 3) (p := 57) (v := ?vo_w129) (w1 := (w127.setCell ⟨go30, (5 : Int).toNat, none⟩ (.int .i64 (wrap64 ((rd y240 5) + 1))))) ?hg ?ho ?hn ?hr ?_; (case ho => rfl); (case hg => rfl); (case hn => rfl); (case hr => first | (go_simp; done) | (go_simp; rfl)); intro w129 hw; have hg : w127.grownBy w129 (some go30) := (by rw [hw]; exact HP128.2); have hp_ : Kd.R (Kd.int .i64) 3 w129 w.heap.size (fun _ => True) (.slice (some ⟨go30, 0, none⟩) t226.length co125) y242 := (by rw [hw, Ny242.out]; exact HP128.1); clear HP128; have n0_ := Aside0.mk (hp_); have n1_ := Aside0.mk (blk_grown (g := gb238) (o := .cells #[.int .i64 ((rd_T94 l0 (rd l1 4)).f0), .int .i64 ((rd_T94 l0 (rd l1 4)).f1), .int .i64 ((rd_T94 l0 (rd l1 4)).f2)] 94 (0, 0)) (by (with_reducible repeat (first | refine blk_drewN ?_ _ | refine blk_drew ?_ | refine blk_alloc ?_ _)); exact BK238.out) hg (Kd.R_ne HO_6.out BK238.out (by decide))); have n2_ := Aside0.mk ((by rw [hw]; exact below_set (HB.out) GB30.out : Below w.heap.size w w129)); clear HO_6; clear BK238; clear HB; have HO_6 := n0_; have BK238 := n1_; have HB := n2_; clear n0_ n1_ n2_; clear hg hw hp_; have hcz130_0 : w129.cell? ⟨gb238, 0, none⟩ = some (.int .i64 ((rd_T94 l0 (rd l1 4)).f0)) := (blk_cell BK238.out 0).trans rfl; have hcz130_1 : w129.cell? ⟨gb238, 1, none⟩ = some (.int .i64 ((rd_T94 l0 (rd l1 4)).f1)) := (blk_cell BK238.out 1).trans rfl; have hcz130_2 : w129.cell? ⟨gb238, 2, none⟩ = some (.int .i64 ((rd_T94 l0 (rd l1 4)).f2)) := (blk_cell BK238.out 2).trans rfl; have hfz130_0 := blk_frozen BK238.out 0; have hfz130_1 := blk_frozen BK238.out 1; have hfz130_2 := blk_frozen BK238.out 2; have p256 : 0 ≤ (((rd_T94 l0 (rd l1 4)).f1) : Int) := of_decide_eq_true (by first | (with_reducible assumption) | assumption); have q256 : ((rd_T94 l0 (rd l1 4)).f1) < (l1.length : Int) := of_decide_eq_true (by first | (with_reducible assumption) | assumption); obtain ⟨ad256, e256, hx256_0⟩ := Kd.at_int HR1.out ((rd_T94 l0 (rd l1 4)).f1) p256 q256; obtain rfl : ad236 = ad256 := (by injection e256); replace hx256_0 := (HB.out.cell (World.block_lt_of_cell? w _ hx256_0)).trans hx256_0; replace p256 := eq_true p256; replace q256 := eq_true q256; have p121 : 0 ≤ (4 : Int) := (by omega); have q121 : (4 : Int) < ((t226.length : Int) : Int) := of_decide_eq_true (by first | (with_reducible assumption) | assumption); have qi121 : (4 < t226.length) = True := eq_true (by omega); obtain ⟨hx121_0, hf121_0⟩ := Kd.R_celln 0 HO_6.out (4 : Int) p121 q121; (try rw [show ((4 : Int)).toNat = 4 from rfl] at hx121_0); (try simp only [Nat.reduceMul, Nat.zero_mul, Nat.zero_add, Nat.reduceAdd] at hx121_0); (try rw [show ((4 : Int)).toNat = 4 from rfl] at hf121_0); (try simp only [Nat.reduceMul, Nat.zero_mul, Nat.zero_add, Nat.reduceAdd] at hf121_0); replace p121 := eq_true p121; replace q121 := eq_true q121; obtain ⟨hy131_, hz131_⟩ := Kd.R_celln 0 HO_6.out (4 : Int) (by omega) (of_decide_eq_true (by first | (with_reducible assumption) | assumption)); (try simp only [Int.reduceToNat, Int.toNat_zero, Int.toNat_ofNat, Nat.reduceMul, Nat.zero_mul, Nat.zero_add] at hy131_ hz131_); (try rw [show ((4 : Int)).toNat = 4 from rfl] at hy131_); (try rw [show ((4 : Int)).toNat = 4 from rfl] at hz131_); have HP131 := Kd.R_putg HO_6.out (4 : Int) ((rd_T94 l0 (rd l1 4)).f2)) | ((with_reducible refine gate_store (t := 3) (p := 130) rfl ?_); refine store_event (t := 3) (p := 130) (v := ?vo_w132) (w1 := (w129.setCell ⟨go30, (4 : Int).toNat, none⟩ (.int .i64 ((rd_T94 l0 (rd l1 4)).f2)))) ?hg ?ho ?hn ?hr ?_; (case ho => rfl); (case hg => rfl); (case hn => rfl); (case hr => first | (go_simp; done) | (go_simp; rfl)); intro w132 hw; have hg : w129.grownBy w132 (some go30) := (by rw [hw]; exact HP131.2); have hp_ : Kd.R (Kd.int .i64) 3 w132 w.heap.size (fun _ => True) (.slice (some ⟨go30, 0, none⟩) t226.length co125) y257 := (by rw [hw, Ny257.out]; exact HP131.1); clear HP131; have n0_ := Aside0.mk (hp_); have n1_ := Aside0.mk (blk_grown (g := gb238) (o := .cells #[.int .i64 ((rd_T94 l0 (rd l1 4)).f0), .int .i64 ((rd_T94 l0 (rd l1 4)).f1), .int .i64 ((rd_T94 l0 (rd l1 4)).f2)] 94 (0, 0)) (by (with_reducible repeat (first | refine blk_drewN ?_ _ | refine blk_drew ?_ | refine blk_alloc ?_ _)); exact BK238.out) hg (Kd.R_ne HO_6.out BK238.out (by decide))); have n2_ := Aside0.mk ((by rw [hw]; exact below_set (HB.out) GB30.out : Below w.heap.size w w132)); clear HO_6; clear BK238; clear HB; have HO_6 := n0_; have BK238 := n1_; have HB := n2_; clear n0_ n1_ n2_; clear hg hw hp_))
                                  go_ret2
                                  exact ⟨_, by first | rfl | (simp [errW_none, errW_some] <;> rfl) | (simp [*, errW_none, errW_some] <;> rfl), by (with_reducible repeat (first | apply Kd.R_alloc | apply Kd.R_drewN | apply Kd.R_drew)); exact HO_6.out, by repeat (first | (with_reducible first | exact HB.out | apply below_alloc | apply pw_below_drewN | apply below_drew1 | refine below_set ?_ GE238.out) | exact HB.out)⟩
                              · rw [if_neg c110] at H
                                exact absurd H (by simp)
                            · rw [if_neg c109] at H
                              exact absurd H (by simp)
                          · rw [if_neg c108] at H
                            have c108b0 : (((rd_T94 l0 (rd l1 4)).f0) == 5) = false := beq_eq_false_iff_ne.mpr c108
                            have c108b1 : (((rd_T94 l0 (rd l1 4)).f0) != 5) = true := bne_iff_ne.mpr c108
                            simp only [Option.some.injEq, Prod.mk.injEq] at H
                            obtain ⟨rfl, rfl⟩ := H
                            have p236 : 0 ≤ (4 : Int) := (by omega)
                            have q236 : 4 < (l1.length : Int) := of_decide_eq_true (by first | (with_reducible assumption) | assumption)
                            obtain ⟨ad236, e236, hx236_0⟩ := Kd.at_int HR1.out 4 p236 q236
                            cases e236
                            (try simp only [show (4 : Int).toNat = 4 from rfl, Nat.reduceMul, Nat.reduceEqDiff, Go.Addr.add, ↓reduceIte] at hx236_0)
                            have qi236 : (4 < l1.length) = True := eq_true (by omega)
                            (try rw [show ((4 : Int)).toNat = 4 from rfl] at hx236_0)
                            replace hx236_0 := (HB.out.cell (World.block_lt_of_cell? w _ hx236_0)).trans hx236_0
                            replace p236 := eq_true p236
                            replace q236 := eq_true q236
                            have p237 : 0 ≤ ((rd l1 4) : Int) := of_decide_eq_true (by first | (with_reducible assumption) | assumption)
                            have q237 : (rd l1 4) < (l0.length : Int) := of_decide_eq_true (by first | (with_reducible assumption) | assumption)
                            obtain ⟨ad237, e237, hx237_0, hx237_1, hx237_2⟩ := at_T94 HR0.out (rd l1 4) p237 q237
                            cases e237
                            replace hx237_0 := (HB.out.cell (World.block_lt_of_cell? w _ hx237_0)).trans hx237_0
                            replace hx237_1 := (HB.out.cell (World.block_lt_of_cell? w _ hx237_1)).trans hx237_1
                            replace hx237_2 := (HB.out.cell (World.block_lt_of_cell? w _ hx237_2)).trans hx237_2
                            replace p237 := eq_true p237
                            replace q237 := eq_true q237
                            go_wp2_with (first | ((with_reducible refine gate_dst (N := 7) rfl ?_); (try (refine gate_guard (by rfl) ?_; dsimp only)); refine box_event ?hg (N := 7) ?hd (cs := #[.int .i64 0, .int .i64 0, .int .i64 0]) (t := 94) ?hr ?_; (case hd => rfl); (case hg => rfl); (case hr => first | (go_simp; done) | (go_simp; rfl)); intro gb238 hg w133 hbox hb; have n0_ := Aside0.mk (Kd.R_below (by (with_reducible repeat (first | apply Kd.R_alloc | apply Kd.R_drewN | apply Kd.R_drew)); exact HO_6.out) hb); have n1_ := Aside0.mk (below_step (by repeat (first | (with_reducible first | exact HB.out | apply below_alloc | apply pw_below_drewN | apply below_drew1) | exact HB.out)) hb); have n2_ := Aside0.mk (hbox); have n3_ := Aside0.mk ((by rw [hg]; exact (below_size (by repeat (first | (with_reducible first | exact HB.out | apply below_alloc | apply pw_below_drewN | apply below_drew1) | exact HB.out))) : w.heap.size ≤ gb238)); have n4_ := Aside0.mk ((by rw [hg]; exact (below_size (by repeat (first | (with_reducible first | exact HB.out | apply below_alloc | apply pw_below_drewN | apply below_drew1) | exact HB.out))) : w.heap.size ≤ gb238)); clear HO_6; clear HB; have HO_6 := n0_; have HB := n1_; have BK238 := n2_; have GW238 := n3_; have GE238 := n4_; clear n0_ n1_ n2_ n3_ n4_; clear hb hbox hg; have hcz134_0 : w133.cell? ⟨gb238, 0, none⟩ = some (.int .i64 0) := (blk_cell BK238.out 0).trans rfl; have hcz134_1 : w133.cell? ⟨gb238, 1, none⟩ = some (.int .i64 0) := (blk_cell BK238.out 1).trans rfl; have hcz134_2 : w133.cell? ⟨gb238, 2, none⟩ = some (.int .i64 0) := (blk_cell BK238.out 2).trans rfl; have hfz134_0 := blk_frozen BK238.out 0; have hfz134_1 := blk_frozen BK238.out 1; have hfz134_2 := blk_frozen BK238.out 2) | ((with_reducible refine gate_store (t := 94) (p := 7) rfl ?_); refine store_event (t := 94) (p := 7) (v := ?vo_w135) (w1 := (((w133.setCell ⟨gb238, 0, none⟩ (.int .i64 ((rd_T94 l0 (rd l1 4)).f0))).setCell ⟨gb238, 1, none⟩ (.int .i64 ((rd_T94 l0 (rd l1 4)).f1))).setCell ⟨gb238, 2, none⟩ (.int .i64 ((rd_T94 l0 (rd l1 4)).f2)))) ?hg ?ho ?hn ?hr ?_; (case ho => rfl); (case hg => rfl); (case hn => rfl); (case hr => first | (go_simp; done) | (go_simp; rfl)); intro w135 hw; have n0_ : Aside0 (Kd.R (Kd.int .i64) 3 w135 w.heap.size (fun _ => True) v227 t226) := ⟨(by rw [hw]; exact (by (with_reducible repeat (first | apply Kd.R_alloc | apply Kd.R_drewN | apply Kd.R_drew)); exact Kd.R_mono (Kd.R_far (p := ⟨gb238, 2, none⟩) (Kd.R_far (p := ⟨gb238, 1, none⟩) (Kd.R_far (p := ⟨gb238, 0, none⟩) (Kd.R_types HO_6.out BK238.out (by decide)) (fun _ hk => hk.2) (.int .i64 ((rd_T94 l0 (rd l1 4)).f0))) (fun _ hk => hk.2) (.int .i64 ((rd_T94 l0 (rd l1 4)).f1))) (fun _ hk => hk.2) (.int .i64 ((rd_T94 l0 (rd l1 4)).f2))) (fun _ hk => trivial)))⟩; have n1_ : Aside0 (w135.heap[gb238]? = some (.cells #[.int .i64 ((rd_T94 l0 (rd l1 4)).f0), .int .i64 ((rd_T94 l0 (rd l1 4)).f1), .int .i64 ((rd_T94 l0 (rd l1 4)).f2)] 94 (0, 0))) := ⟨(by rw [hw]; exact (by (with_reducible repeat (first | refine blk_drewN ?_ _ | refine blk_drew ?_ | refine blk_alloc ?_ _)); refine blk_put (cs := #[.int .i64 ((rd_T94 l0 (rd l1 4)).f0), .int .i64 ((rd_T94 l0 (rd l1 4)).f1), .int .i64 0]) ?_ 2 _ rfl; (with_reducible repeat (first | refine blk_drewN ?_ _ | refine blk_drew ?_ | refine blk_alloc ?_ _)); refine blk_put (cs := #[.int .i64 ((rd_T94 l0 (rd l1 4)).f0), .int .i64 0, .int .i64 0]) ?_ 1 _ rfl; (with_reducible repeat (first | refine blk_drewN ?_ _ | refine blk_drew ?_ | refine blk_alloc ?_ _)); refine blk_put (cs := #[.int .i64 0, .int .i64 0, .int .i64 0]) ?_ 0 _ rfl; (with_reducible repeat (first | refine blk_drewN ?_ _ | refine blk_drew ?_ | refine blk_alloc ?_ _)); exact BK238.out))⟩; have n2_ : Aside0 (Below w.heap.size w w135) := ⟨(by rw [hw]; exact (by repeat (first | (with_reducible first | exact HB.out | apply below_alloc | apply pw_below_drewN | apply below_drew1 | refine below_set ?_ GE238.out) | exact HB.out)))⟩; clear hw; clear HO_6; clear BK238; clear HB; have HO_6 := n0_; have BK238 := n1_; have HB := n2_; clear n0_ n1_ n2_; obtain ⟨Ao136, co136, eo136⟩ := Kd.R_slice HO_6.out; subst eo136; have p239 : 0 ≤ (4 : Int) := (by omega); have q239 : 4 < (t226.length : Int) := of_decide_eq_true (by first | (with_reducible assumption) | assumption); obtain ⟨ad239, e239, hx239_0⟩ := Kd.at_int (Kd.R_reads' HO_6.out).2.2 4 p239 q239; cases e239; (try simp only [show (4 : Int).toNat = 4 from rfl, Nat.reduceMul, Nat.reduceEqDiff, Go.Addr.add, ↓reduceIte] at hx239_0); have qi239 : (4 < t226.length) = True := eq_true (by omega); (try rw [show ((4 : Int)).toNat = 4 from rfl] at hx239_0); replace p239 := eq_true p239; replace q239 := eq_true q239; have p30 : 0 ≤ (4 : Int) := (by omega); have q30 : (4 : Int) < ((t226.length : Int) : Int) := of_decide_eq_true (by first | (with_reducible assumption) | assumption); have qi30 : (4 < t226.length) = True := eq_true (by omega); obtain ⟨go30, co30, eo30, gb30, gl30, cl30, HG30⟩ := Kd.R_form HO_6.out (by omega); (first | cases eo30 | (injection eo30 with ea_ en_ ec_; (first | subst ea_ | (injection ea_ with ea_; subst ea_)); subst ec_; clear en_)); have GB30 := Aside0.mk gb30; have GG30 := Aside0.mk HG30; clear gb30 gl30 HG30; (first | simp only [add_plain] at hx239_0 | skip); obtain ⟨hx30_0, hf30_0⟩ := Kd.R_celln 0 HO_6.out (4 : Int) p30 q30; (try rw [show ((4 : Int)).toNat = 4 from rfl] at hx30_0); (try simp only [Nat.reduceMul, Nat.zero_mul, Nat.zero_add, Nat.reduceAdd] at hx30_0); (try rw [show ((4 : Int)).toNat = 4 from rfl] at hf30_0); (try simp only [Nat.reduceMul, Nat.zero_mul, Nat.zero_add, Nat.reduceAdd] at hf30_0); replace p30 := eq_true p30; replace q30 := eq_true q30; obtain ⟨hy137_, hz137_⟩ := Kd.R_celln 0 HO_6.out (4 : Int) (by omega) (of_decide_eq_true (by first | (with_reducible assumption) | assumption)); (try simp only [Int.reduceToNat, Int.toNat_zero, Int.toNat_ofNat, Nat.reduceMul, Nat.zero_mul, Nat.zero_add] at hy137_ hz137_); (try rw [show ((4 : Int)).toNat = 4 from rfl] at hy137_); (try rw [show ((4 : Int)).toNat = 4 from rfl] at hz137_); have HP137 := Kd.R_putg HO_6.out (4 : Int) (wrap64 ((rd t226 4) + 1))) | ((with_reducible refine gate_store (t := 3) (p := 52) rfl ?_); refine store_event (t := 3) (p := 52) (v := ?vo_w138) (w1 := (w135.setCell ⟨go30, (4 : Int).toNat, none⟩ (.int .i64 (wrap64 ((rd t226 4) + 1))))) ?hg ?ho ?hn ?hr ?_; (case ho => rfl); (case hg => rfl); (case hn => rfl); (case hr => first | (go_simp; done) | (go_simp; rfl)); intro w138 hw; have hg : w135.grownBy w138 (some go30) := (by rw [hw]; exact HP137.2); have hp_ : Kd.R (Kd.int .i64) 3 w138 w.heap.size (fun _ => True) (.slice (some ⟨go30, 0, none⟩) t226.length co136) y240 := (by rw [hw, Ny240.out]; exact HP137.1); clear HP137; have n0_ := Aside0.mk (hp_); have n1_ := Aside0.mk (blk_grown (g := gb238) (o := .cells #[.int .i64 ((rd_T94 l0 (rd l1 4)).f0), .int .i64 ((rd_T94 l0 (rd l1 4)).f1), .int .i64 ((rd_T94 l0 (rd l1 4)).f2)] 94 (0, 0)) (by (with_reducible repeat (first | refine blk_drewN ?_ _ | refine blk_drew ?_ | refine blk_alloc ?_ _)); exact BK238.out) hg (Kd.R_ne HO_6.out BK238.out (by decide))); have n2_ := Aside0.mk ((by rw [hw]; exact below_set (HB.out) GB30.out : Below w.heap.size w w138)); clear HO_6; clear BK238; clear HB; have HO_6 := n0_; have BK238 := n1_; have HB := n2_; clear n0_ n1_ n2_; clear hg hw hp_; have p241 : 0 ≤ (5 : Int) := (by omega); have q241 : 5 < (y240.length : Int) := (by have h_ : (5 : Int) < ((t226.length : Int) : Int) := of_decide_eq_true (by first | (with_reducible assumption) | assumption); first | (have e_ := (Kd.R_reads' HO_6.out).1; omega) | simpa only [Ny240.out, List.length_set] using h_); have ql241 : ((5 : Int) < ((t226.length : Int) : Int)) = True := eq_true (of_decide_eq_true (by first | (with_reducible assumption) | assumption)); (try have qn241 : (5 < t226.length) = True := eq_true (by have h_ : (5 : Int) < ((t226.length : Int) : Int) := of_decide_eq_true (by first | (with_reducible assumption) | assumption); omega)); obtain ⟨ad241, e241, hx241_0⟩ := Kd.at_int (Kd.R_reads' HO_6.out).2.2 5 p241 q241; obtain rfl : (⟨go30, 0, none⟩ : Addr) = ad241 := (by injection e241); (first | simp only [add_plain] at hx241_0 | simp only [add_at] at hx241_0 | simp only [Addr.add, Nat.zero_add] at hx241_0 | skip); have qi241 : (5 < y240.length) = True := eq_true (by omega); (try rw [show ((5 : Int)).toNat = 5 from rfl] at hx241_0); replace p241 := eq_true p241; replace q241 := eq_true q241; have p32 : 0 ≤ (5 : Int) := (by omega); have q32 : (5 : Int) < ((t226.length : Int) : Int) := of_decide_eq_true (by first | (with_reducible assumption) | assumption); have qi32 : (5 < t226.length) = True := eq_true (by omega); obtain ⟨hx32_0, hf32_0⟩ := Kd.R_celln 0 HO_6.out (5 : Int) p32 q32; (try rw [show ((5 : Int)).toNat = 5 from rfl] at hx32_0); (try simp only [Nat.reduceMul, Nat.zero_mul, Nat.zero_add, Nat.reduceAdd] at hx32_0); (try rw [show ((5 : Int)).toNat = 5 from rfl] at hf32_0); (try simp only [Nat.reduceMul, Nat.zero_mul, Nat.zero_add, Nat.reduceAdd] at hf32_0); replace p32 := eq_true p32; replace q32 := eq_true q32; obtain ⟨hy139_, hz139_⟩ := Kd.R_celln 0 HO_6.out (5 : Int) (by omega) (of_decide_eq_true (by first | (with_reducible assumption) | assumption)); (try simp only [Int.reduceToNat, Int.toNat_zero, Int.toNat_ofNat, Nat.reduceMul, Nat.zero_mul, Nat.zero_add] at hy139_ hz139_); (try rw [show ((5 : Int)).toNat = 5 from rfl] at hy139_); (try rw [show ((5 : Int)).toNat = 5 from rfl] at hz139_); have HP139 := Kd.R_putg HO_6.out (5 : Int) (wrap64 ((rd y240 5) + 1))) | ((with_reducible refine gate_store (t := 3) (p := 57) rfl ?_); refine store_event (t := 3) (p := 57) (v := ?vo_w140) (w1 := (w138.setCell ⟨go30, (5 : Int).toNat, none⟩ (.int .i64 (wrap64 ((rd y240 5) + 1))))) ?hg ?ho ?hn ?hr ?_; (case ho => rfl); (case hg => rfl); (case hn => rfl); (case hr => first | (go_simp; done) | (go_simp; rfl)); intro w140 hw; have hg : w138.grownBy w140 (some go30) := (by rw [hw]; exact HP139.2); have hp_ : Kd.R (Kd.int .i64) 3 w140 w.heap.size (fun _ => True) (.slice (some ⟨go30, 0, none⟩) t226.length co136) y242 := (by rw [hw, Ny242.out]; exact HP139.1); clear HP139; have n0_ := Aside0.mk (hp_); have n1_ := Aside0.mk (blk_grown (g := gb238) (o := .cells #[.int .i64 ((rd_T94 l0 (rd l1 4)).f0), .int .i64 ((rd_T94 l0 (rd l1 4)).f1), .int .i64 ((rd_T94 l0 (rd l1 4)).f2)] 94 (0, 0)) (by (with_reducible repeat (first | refine blk_drewN ?_ _ | refine blk_drew ?_ | refine blk_alloc ?_ _)); exact BK238.out) hg (Kd.R_ne HO_6.out BK238.out (by decide))); have n2_ := Aside0.mk ((by rw [hw]; exact below_set (HB.out) GB30.out : Below w.heap.size w w140)); clear HO_6; clear BK238; clear HB; have HO_6 := n0_; have BK238 := n1_; have HB := n2_; clear n0_ n1_ n2_; clear hg hw hp_; have hcz141_0 : w140.cell? ⟨gb238, 0, none⟩ = some (.int .i64 ((rd_T94 l0 (rd l1 4)).f0)) := (blk_cell BK238.out 0).trans rfl; have hcz141_1 : w140.cell? ⟨gb238, 1, none⟩ = some (.int .i64 ((rd_T94 l0 (rd l1 4)).f1)) := (blk_cell BK238.out 1).trans rfl; have hcz141_2 : w140.cell? ⟨gb238, 2, none⟩ = some (.int .i64 ((rd_T94 l0 (rd l1 4)).f2)) := (blk_cell BK238.out 2).trans rfl; have hfz141_0 := blk_frozen BK238.out 0; have hfz141_1 := blk_frozen BK238.out 1; have hfz141_2 := blk_frozen BK238.out 2))
                            go_ret2
                            exact ⟨_, by first | rfl | (simp [errW_none, errW_some] <;> rfl) | (simp [*, errW_none, errW_some] <;> rfl), by (with_reducible repeat (first | apply Kd.R_alloc | apply Kd.R_drewN | apply Kd.R_drew)); exact HO_6.out, by repeat (first | (with_reducible first | exact HB.out | apply below_alloc | apply pw_below_drewN | apply below_drew1 | refine below_set ?_ GE238.out) | exact HB.out)⟩
                · rw [if_neg c31] at H
                  exact absurd H (by simp)
              · rw [if_neg c29] at H
                exact absurd H (by simp)
            · rw [if_neg c28] at H
              exact absurd H (by simp)
          · rw [if_neg c27] at H
            exact absurd H (by simp)
        · rw [if_neg c26] at H
          exact absurd H (by simp)


/-! ### impl_stepsOf: function 78 -/
def impl_stepsOf.l0 : Nat → List (S94) → List Int → Int → Int → Option (List Int)
  | 0, _, _, _, _ => none
  | k + 1, x0, x1, x11, x12 => if x12 < x11 then ((impl_StepCode.f k x0 x1).bind fun bt261 => (if bt261.2 = true then (impl_stepsOf.l0 k x0 bt261.1 x11 (wrap64 (x12 + 1))) else (some x1))) else (some x1)
def impl_stepsOf.f (k : Nat) (l0 : List (S94)) (l1 : List Int) (a2 : Int) : Option (List Int) := impl_stepsOf.l0 k l0 l1 a2 0
theorem impl_stepsOf.mono_l : ∀ k, (∀ y0 y1 y2 y3, LeO (impl_stepsOf.l0 k y0 y1 y2 y3) (impl_stepsOf.l0 (k + 1) y0 y1 y2 y3))
  | 0 => fun _ _ _ _ r h => by simp [impl_stepsOf.l0] at h
  | k + 1 => by
    have ih0 := impl_stepsOf.mono_l k
    · intro y0 y1 y2 y3
      unfold impl_stepsOf.l0
      repeat' first
      | (with_reducible exact ih0 _ _ _ _)
      | (with_reducible exact impl_StepCode.mono _ _ _)
      | (with_reducible exact LeO.refl _)
      | (with_reducible exact LeO.none _)
      | (with_reducible refine LeO.ite ?_ ?_)
      | (with_reducible refine LeO.bind ?_ (fun _ => ?_))
      | exact ih0 _ _ _ _
      | exact impl_StepCode.mono _ _ _
      | exact LeO.none _
      | refine LeO.ite ?_ ?_
      | refine LeO.bind ?_ (fun _ => ?_)
theorem impl_stepsOf.mono : ∀ a0 a1 a2 k, LeO (impl_stepsOf.f k a0 a1 a2) (impl_stepsOf.f (k + 1) a0 a1 a2) := by
  intro a0 a1 a2 k
  have ih0 := impl_stepsOf.mono_l k
  unfold impl_stepsOf.f
  repeat' first
      | (with_reducible exact ih0 _ _ _ _)
      | (with_reducible exact impl_StepCode.mono _ _ _)
      | (with_reducible exact LeO.refl _)
      | (with_reducible exact LeO.none _)
      | (with_reducible refine LeO.ite ?_ ?_)
      | (with_reducible refine LeO.bind ?_ (fun _ => ?_))
      | exact ih0 _ _ _ _
      | exact impl_StepCode.mono _ _ _
      | exact LeO.none _
      | refine LeO.ite ?_ ?_
      | refine LeO.bind ?_ (fun _ => ?_)
set_option maxHeartbeats 8000000 in
set_option maxRecDepth 100000 in
theorem impl_stepsOf.calls (k : Nat) (A0 : Option Addr) (c0 : Nat) (l0 : List (S94)) (A1 : Option Addr) (c1 : Nat) (l1 : List Int) (a2 : Int) (r : List Int) (w : World) (b0 : Nat) (hb0 : b0 ≤ w.heap.size) (hO : Kd.R (Kd.int .i64) 3 w b0 (fun _ => True) (.slice A1 l1.length c1) l1) (hr0 : Kd.C k94 w A0 l0.length l0) (hc0 : l0.length ≤ c0) (hr1 : Kd.C (Kd.int .i64) w A1 l1.length l1) (hc1 : l1.length ≤ c1) (h : impl_stepsOf.f k l0 l1 a2 = some r) :
    Calls Try.prog 78 #[.slice A0 l0.length c0, .slice A1 l1.length c1, .int .i64 a2] w fun e w' => ∃ v0_ : Value, e = .returned (v0_) ∧ Kd.R (Kd.int .i64) 3 w' b0 (fun _ => True) v0_ r ∧ Below w.heap.size w w' := by
  have HR0 := Aside0.mk hr0
  have HC0 := Aside0.mk hc0
  clear hr0 hc0
  have HR1 := Aside0.mk hr1
  have HC1 := Aside0.mk hc1
  clear hr1 hc1
  have HB := Aside0.mk (Below.refl w.heap.size w)
  have H : (impl_stepsOf.l0 k l0 l1 a2 0) = some r := h
  clear h
  have HO_0 := Aside0.mk hO
  have HB0 := Aside0.mk hb0
  clear hO hb0
  have H' := Aside0.mk H
  clear H
  go_enter Try.func78, Try.ntmps78
  go_wp2
  go_loopg [1, 10] k (fun kq v1 v12 w' => ∃ (x1_1 : List Int) (x12_1 : Int), v12 = .int .i64 x12_1 ∧ Aside0 (impl_stepsOf.l0 kq l0 x1_1 a2 x12_1 = some r) ∧ Aside0 (kq ≤ k) ∧ Aside0 (Kd.R (Kd.int .i64) 3 w' b0 (fun _ => True) v1 x1_1) ∧ Aside0 (Below w.heap.size w w'))
  case atStart => exact ⟨(l1), (0), (by first | rfl | (simp; done) | (simp [*]; done)), H', ⟨Nat.le_refl _⟩, ⟨by (with_reducible repeat (first | apply Kd.R_alloc | apply Kd.R_drewN | apply Kd.R_drew)); exact HO_0.out⟩, ⟨by repeat (first | (with_reducible first | exact HB.out | apply below_alloc | apply pw_below_drewN | apply below_drew1) | exact HB.out)⟩⟩
  case round =>
    clear H'
    try clear c1
    try clear p2
    obtain ⟨x1_1, x12_1, rfl, HA, HK1, HO_1, HB⟩ := hrel
    cases gk with
    | zero => exact absurd HA.out (by simp [impl_stepsOf.l0])
    | succ k1 =>
      have H := HA.out
      clear HA
      simp only [impl_stepsOf.l0] at H
      by_cases c6 : x12_1 < a2
      · rw [if_pos c6] at H
        have c6b0 : decide (x12_1 < a2) = true := decide_eq_true c6
        clear c6
        replace H := Option.bind_eq_some_iff.mp H
        obtain ⟨⟨t261, t262⟩, A70, H⟩ := H
        replace H : (if t262 = true then (impl_stepsOf.l0 k1 l0 t261 a2 (wrap64 (x12_1 + 1))) else (some x1_1)) = some r := H
        have A7 := Aside0.mk A70
        clear A70
        by_cases c8 : t262 = true
        · subst c8
          have H1 : (impl_stepsOf.l0 k1 l0 t261 a2 (wrap64 (x12_1 + 1))) = some r := by rw [if_pos rfl] at H; exact H
          clear H
          have H := H1
          clear H1
          have H' := Aside0.mk H
          clear H
          obtain ⟨Ao9, co9, eo9⟩ := Kd.R_slice HO_1.out
          subst eo9
          go_wp2_with (first | ((with_reducible refine gate_callee (f := 35) rfl ?_); refine goesL_ (some 15) rfl rfl Try.func35 (by kernel_rfl) rfl #[.slice A0 l0.length c0, .slice Ao9 x1_1.length co9] rfl (by (try simp only [List.map_toArray, List.map_cons, List.map_nil]); first | done | rfl | (simp only [List.length_drop, List.length_take]; rfl)) ?_; (with_reducible refine (impl_StepCode.calls k1 _ _ l0 _ _ x1_1 t261 true _ ?side1 ?side2 ?side3 ?side4 A7.out).mono ?_); (case side1 => repeat (first | exact (Kd.C_below HR0.out HB.out) | exact (Kd.C_below HR0.out (pw_below_drewN HB.out _)) | (with_reducible refine Kd.C_alloc ?_ _) | (with_reducible refine Kd.C_drewN ?_ _) | (with_reducible refine Kd.C_drew ?_))); (case side2 => exact HC0.out); (case side3 => repeat (first | exact (Kd.R_reads' HO_1.out).2.2 | (with_reducible refine Kd.C_alloc ?_ _) | (with_reducible refine Kd.C_drewN ?_ _) | (with_reducible refine Kd.C_drew ?_))); (case side4 => exact (Kd.R_reads' HO_1.out).2.1); rintro e w10 ⟨v263, rfl, ho0, hb⟩; refine ⟨_, rfl, ?_⟩; have n0_ := Aside0.mk (Kd.R_elder' (by (with_reducible repeat (first | apply Kd.R_alloc | apply Kd.R_drewN | apply Kd.R_drew)); exact HO_1.out) (Kd.R_base ho0) hb); have n1_ := Aside0.mk (Kd.R_lower (Kd.R_new' ho0 (Kd.R_lt (by (with_reducible repeat (first | apply Kd.R_alloc | apply Kd.R_drewN | apply Kd.R_drew)); exact HO_1.out))) (below_size (by repeat (first | (with_reducible first | exact HB.out | apply below_alloc | apply pw_below_drewN | apply below_drew1) | exact HB.out)))); have n2_ := Aside0.mk (below_step (by repeat (first | (with_reducible first | exact HB.out | apply below_alloc | apply pw_below_drewN | apply below_drew1) | exact HB.out)) hb); clear HO_1; clear HB; have HO_1 := n0_; have HO264 := n1_; have HB := n2_; clear n0_ n1_ n2_; (try clear hb); (try clear hb2); (try clear hk); (try clear hi); (try clear ho0)))
          go_roundg k1
          case measure => have := HK1.out; omega
          case rel => exact ⟨(t261), (wrap64 (x12_1 + 1)), (by first | rfl | (simp; done) | (simp [*]; done)), H', ⟨by have := HK1.out; omega⟩, ⟨by (with_reducible repeat (first | apply Kd.R_alloc | apply Kd.R_drewN | apply Kd.R_drew)); exact Kd.R_mono (Kd.R_lower HO264.out HB0.out) (fun _ hk => trivial)⟩, ⟨by repeat (first | (with_reducible first | exact HB.out | apply below_alloc | apply pw_below_drewN | apply below_drew1) | exact HB.out)⟩⟩
        · replace c8 := Bool.eq_false_iff.mpr c8
          subst c8
          have H1 : (some x1_1) = some r := by rw [if_neg (show ¬ (false = true) by decide)] at H; exact H
          clear H
          have H := H1
          clear H1
          obtain rfl := Option.some.inj H
          obtain ⟨Ao11, co11, eo11⟩ := Kd.R_slice HO_1.out
          subst eo11
          go_wp2_with (first | ((with_reducible refine gate_callee (f := 35) rfl ?_); refine goesL_ (some 15) rfl rfl Try.func35 (by kernel_rfl) rfl #[.slice A0 l0.length c0, .slice Ao11 x1_1.length co11] rfl (by (try simp only [List.map_toArray, List.map_cons, List.map_nil]); first | done | rfl | (simp only [List.length_drop, List.length_take]; rfl)) ?_; (with_reducible refine (impl_StepCode.calls k1 _ _ l0 _ _ x1_1 t261 false _ ?side1 ?side2 ?side3 ?side4 A7.out).mono ?_); (case side1 => repeat (first | exact (Kd.C_below HR0.out HB.out) | exact (Kd.C_below HR0.out (pw_below_drewN HB.out _)) | (with_reducible refine Kd.C_alloc ?_ _) | (with_reducible refine Kd.C_drewN ?_ _) | (with_reducible refine Kd.C_drew ?_))); (case side2 => exact HC0.out); (case side3 => repeat (first | exact (Kd.R_reads' HO_1.out).2.2 | (with_reducible refine Kd.C_alloc ?_ _) | (with_reducible refine Kd.C_drewN ?_ _) | (with_reducible refine Kd.C_drew ?_))); (case side4 => exact (Kd.R_reads' HO_1.out).2.1); rintro e w12 ⟨v263, rfl, ho0, hb⟩; refine ⟨_, rfl, ?_⟩; have n0_ := Aside0.mk (Kd.R_elder' (by (with_reducible repeat (first | apply Kd.R_alloc | apply Kd.R_drewN | apply Kd.R_drew)); exact HO_1.out) (Kd.R_base ho0) hb); have n1_ := Aside0.mk (Kd.R_lower (Kd.R_new' ho0 (Kd.R_lt (by (with_reducible repeat (first | apply Kd.R_alloc | apply Kd.R_drewN | apply Kd.R_drew)); exact HO_1.out))) (below_size (by repeat (first | (with_reducible first | exact HB.out | apply below_alloc | apply pw_below_drewN | apply below_drew1) | exact HB.out)))); have n2_ := Aside0.mk (below_step (by repeat (first | (with_reducible first | exact HB.out | apply below_alloc | apply pw_below_drewN | apply below_drew1) | exact HB.out)) hb); clear HO_1; clear HB; have HO_1 := n0_; have HO264 := n1_; have HB := n2_; clear n0_ n1_ n2_; (try clear hb); (try clear hb2); (try clear hk); (try clear hi); (try clear ho0)))
          go_ret
          exact ⟨_, by first | rfl | (simp [errW_none, errW_some] <;> rfl) | (simp [*, errW_none, errW_some] <;> rfl), by (with_reducible repeat (first | apply Kd.R_alloc | apply Kd.R_drewN | apply Kd.R_drew)); exact Kd.R_mono HO_1.out (fun _ hk => trivial), by repeat (first | (with_reducible first | exact HB.out | apply below_alloc | apply pw_below_drewN | apply below_drew1) | exact HB.out)⟩
      · rw [if_neg c6] at H
        have c6b0 : decide (x12_1 < a2) = false := decide_eq_false c6
        clear c6
        obtain rfl := Option.some.inj H
        go_wp2
        go_ret
        exact ⟨_, by first | rfl | (simp [errW_none, errW_some] <;> rfl) | (simp [*, errW_none, errW_some] <;> rfl), by (with_reducible repeat (first | apply Kd.R_alloc | apply Kd.R_drewN | apply Kd.R_drew)); exact HO_1.out, by repeat (first | (with_reducible first | exact HB.out | apply below_alloc | apply pw_below_drewN | apply below_drew1) | exact HB.out)⟩

/-! ### impl_StateAfter: function 39 -/
def impl_StateAfter.f (k : Nat) (l0 : List (S94)) (a1 : Int) : Option (List Int × Bool) := (impl_CodeOk.f k l0).bind fun t265 => (if t265 = true then ((impl_within.f a1 0 2000).bind fun t266 => (if t266 = true then (if 6 ≤ 35184372088832 then ((impl_stepsOf.f k l0 (List.replicate 6 0) a1).bind fun t270 => (some (t270, true))) else (none)) else (some (([] : List Int), false)))) else (some (([] : List Int), false)))
theorem impl_StateAfter.mono : ∀ a0 a1 k, LeO (impl_StateAfter.f k a0 a1) (impl_StateAfter.f (k + 1) a0 a1) := by
  intro a0 a1 k
  unfold impl_StateAfter.f
  repeat' first
      | (with_reducible exact impl_CodeOk.mono _ _)
      | (with_reducible exact impl_stepsOf.mono _ _ _ _)
      | (with_reducible exact LeO.refl _)
      | (with_reducible exact LeO.none _)
      | (with_reducible refine LeO.ite ?_ ?_)
      | (with_reducible refine LeO.bind ?_ (fun _ => ?_))
      | exact impl_CodeOk.mono _ _
      | exact impl_stepsOf.mono _ _ _ _
      | exact LeO.none _
      | refine LeO.ite ?_ ?_
      | refine LeO.bind ?_ (fun _ => ?_)
set_option maxHeartbeats 8000000 in
set_option maxRecDepth 100000 in
theorem impl_StateAfter.calls (k : Nat) (A0 : Option Addr) (c0 : Nat) (l0 : List (S94)) (a1 : Int) (r1 : List Int) (r2 : Bool) (w : World) (hr0 : Kd.C k94 w A0 l0.length l0) (hc0 : l0.length ≤ c0) (h : impl_StateAfter.f k l0 a1 = some (r1, r2)) :
    Calls Try.prog 39 #[.slice A0 l0.length c0, .int .i64 a1] w fun e w' => ∃ v0_ : Value, e = .returned (.tuple #[v0_, .bool r2]) ∧ Kd.R (Kd.int .i64) 3 w' w.heap.size (fun _ => True) v0_ r1 ∧ Below w.heap.size w w' := by
  have HR0 := Aside0.mk hr0
  have HC0 := Aside0.mk hc0
  clear hr0 hc0
  have HB := Aside0.mk (Below.refl w.heap.size w)
  have H : ((impl_CodeOk.f k l0).bind fun t265 => (if t265 = true then ((impl_within.f a1 0 2000).bind fun t266 => (if t266 = true then (if 6 ≤ 35184372088832 then ((impl_stepsOf.f k l0 (List.replicate 6 0) a1).bind fun t270 => (some (t270, true))) else (none)) else (some (([] : List Int), false)))) else (some (([] : List Int), false)))) = some (r1, r2) := h
  clear h
  replace H := Option.bind_eq_some_iff.mp H
  obtain ⟨t265, A30, H⟩ := H
  replace H : (if t265 = true then ((impl_within.f a1 0 2000).bind fun t266 => (if t266 = true then (if 6 ≤ 35184372088832 then ((impl_stepsOf.f k l0 (List.replicate 6 0) a1).bind fun t270 => (some (t270, true))) else (none)) else (some (([] : List Int), false)))) else (some (([] : List Int), false))) = some (r1, r2) := H
  have A3 := Aside0.mk A30
  clear A30
  by_cases c4 : t265 = true
  · subst c4
    have H1 : ((impl_within.f a1 0 2000).bind fun t266 => (if t266 = true then (if 6 ≤ 35184372088832 then ((impl_stepsOf.f k l0 (List.replicate 6 0) a1).bind fun t270 => (some (t270, true))) else (none)) else (some (([] : List Int), false)))) = some (r1, r2) := by rw [if_pos rfl] at H; exact H
    clear H
    have H := H1
    clear H1
    replace H := Option.bind_eq_some_iff.mp H
    obtain ⟨t266, A50, H⟩ := H
    replace H : (if t266 = true then (if 6 ≤ 35184372088832 then ((impl_stepsOf.f k l0 (List.replicate 6 0) a1).bind fun t270 => (some (t270, true))) else (none)) else (some (([] : List Int), false))) = some (r1, r2) := H
    have A5 := Aside0.mk A50
    clear A50
    by_cases c6 : t266 = true
    · subst c6
      have H1 : (if 6 ≤ 35184372088832 then ((impl_stepsOf.f k l0 (List.replicate 6 0) a1).bind fun t270 => (some (t270, true))) else (none)) = some (r1, r2) := by rw [if_pos rfl] at H; exact H
      clear H
      have H := H1
      clear H1
      by_cases c7 : 6 ≤ 35184372088832
      · rw [if_pos c7] at H
        have c7b0 := eq_true c7
        have c7b1 : decide (6 ≤ 35184372088832) = true := decide_eq_true c7
        clear c7
        obtain ⟨y267, hy267⟩ : ∃ y_ : List Int, y_ = (List.replicate 6 0) := ⟨_, rfl⟩
        replace H : ((impl_stepsOf.f k l0 y267 a1).bind fun t270 => (some (t270, true))) = some (r1, r2) := by first | (rw [hy267]; with_reducible exact H) | (have H2_ := (Option.bind_some _ _).symm.trans H; rw [hy267]; with_reducible exact H2_) | (have H2_ := (Option.bind_some _ _).symm.trans H; with_reducible exact H2_) | with_reducible exact H | (rw [hy267]; exact H) | exact H
        have Ny267 := Aside0.mk hy267
        clear hy267
        replace H := Option.bind_eq_some_iff.mp H
        obtain ⟨t270, A80, H⟩ := H
        replace H : (some (t270, true)) = some (r1, r2) := H
        have A8 := Aside0.mk A80
        clear A80
        simp only [Option.some.injEq, Prod.mk.injEq] at H
        obtain ⟨rfl, rfl⟩ := H
        go_enter Try.func39, Try.ntmps39
        go_wp2_with (first | ((with_reducible refine gate_callee (f := 69) rfl ?_); refine goesL_ (some 7) rfl rfl Try.func69 (by kernel_rfl) rfl #[.slice A0 l0.length c0] rfl (by (try simp only [List.map_toArray, List.map_cons, List.map_nil]); first | done | rfl | (simp only [List.length_drop, List.length_take]; rfl)) ?_; (with_reducible refine (impl_CodeOk.calls k _ _ l0 true _ ?side1 ?side2 A3.out).mono ?_); (case side1 => repeat (first | exact HR0.out | (with_reducible refine Kd.C_alloc ?_ _) | (with_reducible refine Kd.C_drewN ?_ _) | (with_reducible refine Kd.C_drew ?_))); (case side2 => exact HC0.out); rintro e w9 ⟨rfl, hb⟩; refine ⟨_, rfl, ?_⟩; have n0_ := Aside0.mk (below_step (by repeat (first | (with_reducible first | exact HB.out | apply below_alloc | apply pw_below_drewN | apply below_drew1) | exact HB.out)) hb); clear HB; have HB := n0_; clear n0_; (try clear hb); (try clear hb2); (try clear hk); (try clear hi)) | (go_at_call 71; (with_reducible refine (impl_within.calls a1 0 2000 true _ A5.out).mono ?_); rintro e w' ⟨rfl, ⟨nd, rfl⟩⟩) | ((with_reducible refine gate_dst (N := 15) rfl ?_); refine Kd.R_make (Kd.int .i64) _ 3 rfl (N := 15) rfl 24 _ _ rfl 6 rfl rfl Try.underlying24 (.int .i64 0) 8 info3 rfl (by decide) (by omega) 0 (ok := fun _ => True) (okp := fun _ => True) rfl (fun _ hk => hk) trivial (by omega) (by omega) (Below.refl _ _) (Nat.le_refl _) ?_; intro v268 w10 ho11 hb hg_ hnew_; clear hg_ hnew_; (first | rw [← Ny267.out] at ho11 | (simp only [Int.reduceToNat] at ho11; rw [← Ny267.out] at ho11)); have n0_ := Aside0.mk (Kd.R_lower ho11 (below_size (by repeat (first | (with_reducible first | exact HB.out | apply below_alloc | apply pw_below_drewN | apply below_drew1) | exact HB.out)))); have n1_ := Aside0.mk (below_step (by repeat (first | (with_reducible first | exact HB.out | apply below_alloc | apply pw_below_drewN | apply below_drew1) | exact HB.out)) hb); clear HB; have HO269 := n0_; have HB := n1_; clear n0_ n1_; clear hb ho11; obtain ⟨Ao12, co12, eo12⟩ := Kd.R_slice HO269.out; subst eo12) | ((with_reducible refine gate_callee (f := 78) rfl ?_); refine goesL_ (some 17) rfl rfl Try.func78 (by kernel_rfl) rfl #[.slice A0 l0.length c0, .slice Ao12 y267.length co12, .int .i64 a1] rfl (by (try simp only [List.map_toArray, List.map_cons, List.map_nil]); first | done | rfl | (simp only [List.length_drop, List.length_take]; rfl)) ?_; (with_reducible refine (impl_stepsOf.calls k _ _ l0 _ _ y267 a1 t270 _ w.heap.size ?sideB ?sideO ?side1 ?side2 ?side3 ?side4 A8.out).mono ?_); (case sideB => exact (below_size (by repeat (first | (with_reducible first | exact HB.out | apply below_alloc | apply pw_below_drewN | apply below_drew1) | exact HB.out)))); (case sideO => exact (by (with_reducible repeat (first | apply Kd.R_alloc | apply Kd.R_drewN | apply Kd.R_drew)); exact HO269.out)); (case side1 => repeat (first | exact (Kd.C_below HR0.out HB.out) | exact (Kd.C_below HR0.out (pw_below_drewN HB.out _)) | (with_reducible refine Kd.C_alloc ?_ _) | (with_reducible refine Kd.C_drewN ?_ _) | (with_reducible refine Kd.C_drew ?_))); (case side2 => exact HC0.out); (case side3 => repeat (first | exact (Kd.R_reads' HO269.out).2.2 | (with_reducible refine Kd.C_alloc ?_ _) | (with_reducible refine Kd.C_drewN ?_ _) | (with_reducible refine Kd.C_drew ?_))); (case side4 => exact (Kd.R_reads' HO269.out).2.1); rintro e w13 ⟨v271, rfl, ho0, hb⟩; refine ⟨_, rfl, ?_⟩; have n1_ := Aside0.mk ho0; have n2_ := Aside0.mk (below_step (by repeat (first | (with_reducible first | exact HB.out | apply below_alloc | apply pw_below_drewN | apply below_drew1) | exact HB.out)) hb); clear HO269; clear HB; have HO272 := n1_; have HB := n2_; clear n1_ n2_; (try clear hb); (try clear hb2); (try clear hk); (try clear hi); (try clear ho0)))
        go_ret2
        exact ⟨_, by first | rfl | (simp [errW_none, errW_some] <;> rfl) | (simp [*, errW_none, errW_some] <;> rfl), by (with_reducible repeat (first | apply Kd.R_alloc | apply Kd.R_drewN | apply Kd.R_drew)); exact Kd.R_mono HO272.out (fun _ hk => trivial), by repeat (first | (with_reducible first | exact HB.out | apply below_alloc | apply pw_below_drewN | apply below_drew1) | exact HB.out)⟩
      · rw [if_neg c7] at H
        exact absurd H (by simp)
    · replace c6 := Bool.eq_false_iff.mpr c6
      subst c6
      have H1 : (some (([] : List Int), false)) = some (r1, r2) := by rw [if_neg (show ¬ (false = true) by decide)] at H; exact H
      clear H
      have H := H1
      clear H1
      simp only [Option.some.injEq, Prod.mk.injEq] at H
      obtain ⟨rfl, rfl⟩ := H
      go_enter Try.func39, Try.ntmps39
      go_wp2_with (first | ((with_reducible refine gate_callee (f := 69) rfl ?_); refine goesL_ (some 7) rfl rfl Try.func69 (by kernel_rfl) rfl #[.slice A0 l0.length c0] rfl (by (try simp only [List.map_toArray, List.map_cons, List.map_nil]); first | done | rfl | (simp only [List.length_drop, List.length_take]; rfl)) ?_; (with_reducible refine (impl_CodeOk.calls k _ _ l0 true _ ?side1 ?side2 A3.out).mono ?_); (case side1 => repeat (first | exact HR0.out | (with_reducible refine Kd.C_alloc ?_ _) | (with_reducible refine Kd.C_drewN ?_ _) | (with_reducible refine Kd.C_drew ?_))); (case side2 => exact HC0.out); rintro e w14 ⟨rfl, hb⟩; refine ⟨_, rfl, ?_⟩; have n0_ := Aside0.mk (below_step (by repeat (first | (with_reducible first | exact HB.out | apply below_alloc | apply pw_below_drewN | apply below_drew1) | exact HB.out)) hb); clear HB; have HB := n0_; clear n0_; (try clear hb); (try clear hb2); (try clear hk); (try clear hi)) | (go_at_call 71; (with_reducible refine (impl_within.calls a1 0 2000 false _ A5.out).mono ?_); rintro e w' ⟨rfl, ⟨nd, rfl⟩⟩))
      go_ret2
      exact ⟨_, by first | rfl | (simp [errW_none, errW_some] <;> rfl) | (simp [*, errW_none, errW_some] <;> rfl), by first | exact Kd.R_nil _ _ _ _ _ | exact Kd.N_nil _ _ _ _ _ | exact Kd.V_nil _ _ _ _ _ | exact Kd.Q_nil _ _ _ _ _ | exact Kd.S_nil _ _ _ _ _, by repeat (first | (with_reducible first | exact HB.out | apply below_alloc | apply pw_below_drewN | apply below_drew1) | exact HB.out)⟩
  · replace c4 := Bool.eq_false_iff.mpr c4
    subst c4
    have H1 : (some (([] : List Int), false)) = some (r1, r2) := by rw [if_neg (show ¬ (false = true) by decide)] at H; exact H
    clear H
    have H := H1
    clear H1
    simp only [Option.some.injEq, Prod.mk.injEq] at H
    obtain ⟨rfl, rfl⟩ := H
    go_enter Try.func39, Try.ntmps39
    go_wp2_with (first | ((with_reducible refine gate_callee (f := 69) rfl ?_); refine goesL_ (some 7) rfl rfl Try.func69 (by kernel_rfl) rfl #[.slice A0 l0.length c0] rfl (by (try simp only [List.map_toArray, List.map_cons, List.map_nil]); first | done | rfl | (simp only [List.length_drop, List.length_take]; rfl)) ?_; (with_reducible refine (impl_CodeOk.calls k _ _ l0 false _ ?side1 ?side2 A3.out).mono ?_); (case side1 => repeat (first | exact HR0.out | (with_reducible refine Kd.C_alloc ?_ _) | (with_reducible refine Kd.C_drewN ?_ _) | (with_reducible refine Kd.C_drew ?_))); (case side2 => exact HC0.out); rintro e w15 ⟨rfl, hb⟩; refine ⟨_, rfl, ?_⟩; have n0_ := Aside0.mk (below_step (by repeat (first | (with_reducible first | exact HB.out | apply below_alloc | apply pw_below_drewN | apply below_drew1) | exact HB.out)) hb); clear HB; have HB := n0_; clear n0_; (try clear hb); (try clear hb2); (try clear hk); (try clear hi)))
    go_ret2
    exact ⟨_, by first | rfl | (simp [errW_none, errW_some] <;> rfl) | (simp [*, errW_none, errW_some] <;> rfl), by first | exact Kd.R_nil _ _ _ _ _ | exact Kd.N_nil _ _ _ _ _ | exact Kd.V_nil _ _ _ _ _ | exact Kd.Q_nil _ _ _ _ _ | exact Kd.S_nil _ _ _ _ _, by repeat (first | (with_reducible first | exact HB.out | apply below_alloc | apply pw_below_drewN | apply below_drew1) | exact HB.out)⟩

end Go.Proofs.Ytboidohbhoehgaa.QFnExactStateAfter
