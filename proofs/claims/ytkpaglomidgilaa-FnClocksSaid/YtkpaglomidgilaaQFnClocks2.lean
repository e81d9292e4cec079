/- Functions that the law FnClocks reaches: of each a Lean function and the proof that a call comes to just its answer. Laid by program. -/
import Derived.Test.YtkpaglomidgilaaQFnClocks1
namespace Go.Proofs.Ytkpaglomidgilaa.QFnClocks
open Go.RowKit Go.Proofs.YtkpaglomidgilaaW.PrintWords Go.Proofs.YtkpaglomidgilaaW.PrintLast Go.Proofs.YtkpaglomidgilaaW.PrintMore
attribute [local go_sem] max2_int min2_int max_two min_two max_three min_three max_four min_four   -- for this text's walks alone
set_option linter.unusedVariables false
set_option linter.unusedSimpArgs false


/-! ### laws_FnClocks: function 15 -/
def laws_FnClocks.f (k : Nat) (l0 : List Int) : Option (Bool) := (laws_big.f l0).bind fun t170 => (if t170 = true then (some true) else ((spec_DrawSpan.f k l0).bind fun bt171 => ((spec_DrawPlaces.f k l0).bind fun t174 => (if 0 < (t174.length : Int) then (if (wrap64 ((wrap64 (bt171.2 - bt171.1)) + 1)) = 0 then (none) else (if 1 < (t174.length : Int) then ((impl_PassOn.f bt171.1 bt171.2 (rd t174 1)).bind fun bt179 => (if 2 < (t174.length : Int) then (if 3 < (t174.length : Int) then (if 4 < (t174.length : Int) then (if (wrap64 ((wrap64 ((wrap64 ((Int.tmod (rd t174 2) 50) + (Int.tmod (rd t174 3) 50))) - (Int.tmod (rd t174 2) 50))) + 1)) = 0 then (none) else ((impl_PassOff.f bt179.1 bt179.2 (Int.tmod (rd t174 2) 50) (wrap64 ((Int.tmod (rd t174 2) 50) + (Int.tmod (rd t174 3) 50)))).bind fun bt185 => (if 5 < (t174.length : Int) then (if 6 < (t174.length : Int) then ((impl_Synchronize.f bt185.1 bt185.2 (mx 0 (wrap64 ((wrap64 ((wrap64 ((wrap64 (bt171.1 + (Int.tmod (rd t174 0) (wrap64 ((wrap64 (bt171.2 - bt171.1)) + 1))))) + (rd t174 1))) + (wrap64 ((Int.tmod (rd t174 2) 50) + (Int.tmod (rd t174 4) (wrap64 ((wrap64 ((wrap64 ((Int.tmod (rd t174 2) 50) + (Int.tmod (rd t174 3) 50))) - (Int.tmod (rd t174 2) 50))) + 1))))))) - (Int.tmod (rd t174 5) 30)))) (wrap64 ((wrap64 ((wrap64 ((wrap64 (bt171.1 + (Int.tmod (rd t174 0) (wrap64 ((wrap64 (bt171.2 - bt171.1)) + 1))))) + (rd t174 1))) + (wrap64 ((Int.tmod (rd t174 2) 50) + (Int.tmod (rd t174 4) (wrap64 ((wrap64 ((wrap64 ((Int.tmod (rd t174 2) 50) + (Int.tmod (rd t174 3) 50))) - (Int.tmod (rd t174 2) 50))) + 1))))))) + (Int.tmod (rd t174 6) 30)))).bind fun bt192 => ((impl_Holds.f bt171.1 bt171.2 (wrap64 (bt171.1 + (Int.tmod (rd t174 0) (wrap64 ((wrap64 (bt171.2 - bt171.1)) + 1)))))).bind fun t196 => (if t196 = true then ((impl_Holds.f bt179.1 bt179.2 (wrap64 ((wrap64 (bt171.1 + (Int.tmod (rd t174 0) (wrap64 ((wrap64 (bt171.2 - bt171.1)) + 1))))) + (rd t174 1)))).bind fun t198 => (if t198 = true then ((impl_Holds.f bt185.1 bt185.2 (wrap64 ((wrap64 ((wrap64 (bt171.1 + (Int.tmod (rd t174 0) (wrap64 ((wrap64 (bt171.2 - bt171.1)) + 1))))) + (rd t174 1))) + (wrap64 ((Int.tmod (rd t174 2) 50) + (Int.tmod (rd t174 4) (wrap64 ((wrap64 ((wrap64 ((Int.tmod (rd t174 2) 50) + (Int.tmod (rd t174 3) 50))) - (Int.tmod (rd t174 2) 50))) + 1)))))))).bind fun t199 => (if t199 = true then (if bt192.2.2 = true then ((impl_Holds.f bt192.1 bt192.2.1 (wrap64 ((wrap64 ((wrap64 (bt171.1 + (Int.tmod (rd t174 0) (wrap64 ((wrap64 (bt171.2 - bt171.1)) + 1))))) + (rd t174 1))) + (wrap64 ((Int.tmod (rd t174 2) 50) + (Int.tmod (rd t174 4) (wrap64 ((wrap64 ((wrap64 ((Int.tmod (rd t174 2) 50) + (Int.tmod (rd t174 3) 50))) - (Int.tmod (rd t174 2) 50))) + 1)))))))).bind fun t200 => (if t200 = true then ((impl_Uncertainty.f bt192.1 bt192.2.1).bind fun t201 => ((impl_Uncertainty.f bt185.1 bt185.2).bind fun t202 => (if t201 ≤ t202 then ((impl_Uncertainty.f bt185.1 bt185.2).bind fun t203 => ((impl_Uncertainty.f bt171.1 bt171.2).bind fun t204 => (some (t203 == (wrap64 ((wrap64 (t204 + (wrap64 ((Int.tmod (rd t174 2) 50) + (Int.tmod (rd t174 3) 50))))) - (Int.tmod (rd t174 2) 50))))))) else (some false)))) else (some false))) else (some false)) else (some false))) else (some false))) else (some false)))) else (none)) else (none)))) else (none)) else (none)) else (none))) else (none))) else (none)))))
theorem laws_FnClocks.mono : ∀ a0 k, LeO (laws_FnClocks.f k a0) (laws_FnClocks.f (k + 1) a0) := by
  intro a0 k
  unfold laws_FnClocks.f
  repeat' first
      | (with_reducible exact spec_DrawPlaces.mono _ _)
      | (with_reducible exact spec_DrawSpan.mono _ _)
      | (with_reducible exact LeO.refl _)
      | (with_reducible exact LeO.none _)
      | (with_reducible refine LeO.ite ?_ ?_)
      | (with_reducible refine LeO.bind ?_ (fun _ => ?_))
      | exact spec_DrawPlaces.mono _ _
      | exact spec_DrawSpan.mono _ _
      | exact LeO.none _
      | refine LeO.ite ?_ ?_
      | refine LeO.bind ?_ (fun _ => ?_)
def laws_FnClocks.T5 : Bool × List (List Nat × List Nat) := (true, [([], []), ([0], [0]), ([], []), ([2], [2]), ([3], [3]), ([], []), ([5], [5]), ([], []), ([7], [7]), ([6, 8], [6, 8]), ([9], [9]), ([4, 10], [4, 10]), ([1, 11], [1, 11]), ([12, 0, 1, 2, 3, 4, 5, 6, 7, 8, 9, 10, 11, 12], [12])])
def laws_FnClocks.B5 : List Nat := [0, 1, 0, 4, 12, 0, 32, 0, 128, 480, 992, 2044, 4095, 8191]
theorem laws_FnClocks.tab5 : rtab .any (opsOf Try.f15 5) = laws_FnClocks.T5 := by kernel_rfl
theorem laws_FnClocks.bits5 : waitsOk laws_FnClocks.T5.2 laws_FnClocks.B5 = true := by kernel_rfl
def laws_FnClocks.T12 : Bool × List (List Nat × List Nat) := (true, [([], []), ([], []), ([1], [1]), ([2], [2]), ([3], [3]), ([0, 4], [0, 4]), ([5], [5]), ([], []), ([], []), ([8], [8]), ([9], [9]), ([10], [10]), ([7, 11], [7, 11]), ([6, 12], [6, 12]), ([], []), ([14, 13, 0, 1, 2, 3, 4, 5, 6, 7, 8, 9, 10, 11, 12, 13, 14], [13, 14])])
def laws_FnClocks.B12 : List Nat := [0, 0, 2, 6, 14, 31, 63, 0, 0, 256, 768, 1792, 3968, 8191, 0, 32767]
theorem laws_FnClocks.tab12 : rtab .any (opsOf Try.f15 12) = laws_FnClocks.T12 := by kernel_rfl
theorem laws_FnClocks.bits12 : waitsOk laws_FnClocks.T12.2 laws_FnClocks.B12 = true := by kernel_rfl
def laws_FnClocks.T14 : Bool × List (List Nat × List Nat) := (true, [([], []), ([], []), ([0, 1], [0, 1]), ([2, 2], [2]), ([3], [3]), ([3], [3]), ([3], [3]), ([6, 3], [3, 6]), ([7, 3], [3, 7]), ([5, 8, 3], [3, 5, 8]), ([4, 9, 3, 3], [3, 4, 9]), ([3, 10], [3, 10]), ([11, 10], [11]), ([12], [12]), ([12], [12]), ([13, 14, 12, 12], [12, 13, 14]), ([12, 15], [12, 15]), ([16, 15], [16]), ([17], [17]), ([17, 18], [17, 18]), ([19, 17], [19]), ([20], [20]), ([20], [20]), ([21, 22, 20, 20], [20, 21, 22]), ([20, 23], [20, 23]), ([24, 23], [24]), ([25], [25]), ([26, 25, 25], [25, 26]), ([25], [25]), ([28, 27, 25], [25, 28]), ([27, 29, 25], [25, 27, 29]), ([25, 30], [25, 30]), ([31, 29], [31]), ([32], [32]), ([33, 32, 32], [32, 33]), ([32], [32]), ([35, 34, 32], [32, 35]), ([32], [32]), ([36, 37, 32], [32, 36, 37]), ([32], [32]), ([38, 39, 32], [32, 38, 39]), ([34, 40, 32], [32, 34, 40]), ([32, 41], [32, 41]), ([42, 36, 0, 1, 2, 3, 4, 5, 6, 7, 8, 9, 10, 11, 12, 13, 14, 15, 16, 17, 18, 19, 20, 21, 22, 23, 24, 25, 26, 27, 28, 29, 30, 31, 32, 33, 34, 35, 36, 37, 38, 39, 40, 41, 42], [42])])
def laws_FnClocks.B14 : List Nat := [0, 0, 3, 7, 15, 15, 15, 79, 207, 495, 1023, 2047, 4095, 8191, 8191, 32767, 65535, 131071, 262143, 524287, 1048575, 2097151, 2097151, 8388607, 16777215, 33554431, 67108863, 134217727, 67108863, 536870911, 1073741823, 2147483647, 4294967295, 8589934591, 17179869183, 8589934591, 68719476735, 8589934591, 274877906943, 8589934591, 1099511627775, 2199023255551, 4398046511103, 8796093022207]
theorem laws_FnClocks.tab14 : rtab .any (opsOf Try.f15 14) = laws_FnClocks.T14 := by kernel_rfl
theorem laws_FnClocks.bits14 : waitsOk laws_FnClocks.T14.2 laws_FnClocks.B14 = true := by kernel_rfl
set_option maxHeartbeats 8000000 in
set_option maxRecDepth 100000 in
theorem laws_FnClocks.calls (k : Nat) (A0 : Option Addr) (c0 : Nat) (l0 : List Int) (r : Bool) (w : World) (hr0 : Kd.C (Kd.int .u8) w A0 l0.length l0) (hc0 : l0.length ≤ c0) (hr : Aside0 (r = true)) (h : laws_FnClocks.f k l0 = some r) :
    Calls Try.prog 15 #[.slice A0 l0.length c0] w fun e w' => e = .returned (.bool r) ∧ Below w.heap.size w w' := by
  have hu25 := Try.underlying25
  have HR0 := Aside0.mk hr0
  have HC0 := Aside0.mk hc0
  clear hr0 hc0
  have HB := Aside0.mk (Below.refl w.heap.size w)
  have H : ((laws_big.f l0).bind fun t170 => (if t170 = true then (some true) else ((spec_DrawSpan.f k l0).bind fun bt171 => ((spec_DrawPlaces.f k l0).bind fun t174 => (if 0 < (t174.length : Int) then (if (wrap64 ((wrap64 (bt171.2 - bt171.1)) + 1)) = 0 then (none) else (if 1 < (t174.length : Int) then ((impl_PassOn.f bt171.1 bt171.2 (rd t174 1)).bind fun bt179 => (if 2 < (t174.length : Int) then (if 3 < (t174.length : Int) then (if 4 < (t174.length : Int) then (if (wrap64 ((wrap64 ((wrap64 ((Int.tmod (rd t174 2) 50) + (Int.tmod (rd t174 3) 50))) - (Int.tmod (rd t174 2) 50))) + 1)) = 0 then (none) else ((impl_PassOff.f bt179.1 bt179.2 (Int.tmod (rd t174 2) 50) (wrap64 ((Int.tmod (rd t174 2) 50) + (Int.tmod (rd t174 3) 50)))).bind fun bt185 => (if 5 < (t174.length : Int) then (if 6 < (t174.length : Int) then ((impl_Synchronize.f bt185.1 bt185.2 (mx 0 (wrap64 ((wrap64 ((wrap64 ((wrap64 (bt171.1 + (Int.tmod (rd t174 0) (wrap64 ((wrap64 (bt171.2 - bt171.1)) + 1))))) + (rd t174 1))) + (wrap64 ((Int.tmod (rd t174 2) 50) + (Int.tmod (rd t174 4) (wrap64 ((wrap64 ((wrap64 ((Int.tmod (rd t174 2) 50) + (Int.tmod (rd t174 3) 50))) - (Int.tmod (rd t174 2) 50))) + 1))))))) - (Int.tmod (rd t174 5) 30)))) (wrap64 ((wrap64 ((wrap64 ((wrap64 (bt171.1 + (Int.tmod (rd t174 0) (wrap64 ((wrap64 (bt171.2 - bt171.1)) + 1))))) + (rd t174 1))) + (wrap64 ((Int.tmod (rd t174 2) 50) + (Int.tmod (rd t174 4) (wrap64 ((wrap64 ((wrap64 ((Int.tmod (rd t174 2) 50) + (Int.tmod (rd t174 3) 50))) - (Int.tmod (rd t174 2) 50))) + 1))))))) + (Int.tmod (rd t174 6) 30)))).bind fun bt192 => ((impl_Holds.f bt171.1 bt171.2 (wrap64 (bt171.1 + (Int.tmod (rd t174 0) (wrap64 ((wrap64 (bt171.2 - bt171.1)) + 1)))))).bind fun t196 => (if t196 = true then ((impl_Holds.f bt179.1 bt179.2 (wrap64 ((wrap64 (bt171.1 + (Int.tmod (rd t174 0) (wrap64 ((wrap64 (bt171.2 - bt171.1)) + 1))))) + (rd t174 1)))).bind fun t198 => (if t198 = true then ((impl_Holds.f bt185.1 bt185.2 (wrap64 ((wrap64 ((wrap64 (bt171.1 + (Int.tmod (rd t174 0) (wrap64 ((wrap64 (bt171.2 - bt171.1)) + 1))))) + (rd t174 1))) + (wrap64 ((Int.tmod (rd t174 2) 50) + (Int.tmod (rd t174 4) (wrap64 ((wrap64 ((wrap64 ((Int.tmod (rd t174 2) 50) + (Int.tmod (rd t174 3) 50))) - (Int.tmod (rd t174 2) 50))) + 1)))))))).bind fun t199 => (if t199 = true then (if bt192.2.2 = true then ((impl_Holds.f bt192.1 bt192.2.1 (wrap64 ((wrap64 ((wrap64 (bt171.1 + (Int.tmod (rd t174 0) (wrap64 ((wrap64 (bt171.2 - bt171.1)) + 1))))) + (rd t174 1))) + (wrap64 ((Int.tmod (rd t174 2) 50) + (Int.tmod (rd t174 4) (wrap64 ((wrap64 ((wrap64 ((Int.tmod (rd t174 2) 50) + (Int.tmod (rd t174 3) 50))) - (Int.tmod (rd t174 2) 50))) + 1)))))))).bind fun t200 => (if t200 = true then ((impl_Uncertainty.f bt192.1 bt192.2.1).bind fun t201 => ((impl_Uncertainty.f bt185.1 bt185.2).bind fun t202 => (if t201 ≤ t202 then ((impl_Uncertainty.f bt185.1 bt185.2).bind fun t203 => ((impl_Uncertainty.f bt171.1 bt171.2).bind fun t204 => (some (t203 == (wrap64 ((wrap64 (t204 + (wrap64 ((Int.tmod (rd t174 2) 50) + (Int.tmod (rd t174 3) 50))))) - (Int.tmod (rd t174 2) 50))))))) else (some false)))) else (some false))) else (some false)) else (some false))) else (some false))) else (some false)))) else (none)) else (none)))) else (none)) else (none)) else (none))) else (none))) else (none)))))) = some r := h
  clear h
  replace H := Option.bind_eq_some_iff.mp H
  obtain ⟨t170, A20, H⟩ := H
  replace H : (if t170 = true then (some true) else ((spec_DrawSpan.f k l0).bind fun bt171 => ((spec_DrawPlaces.f k l0).bind fun t174 => (if 0 < (t174.length : Int) then (if (wrap64 ((wrap64 (bt171.2 - bt171.1)) + 1)) = 0 then (none) else (if 1 < (t174.length : Int) then ((impl_PassOn.f bt171.1 bt171.2 (rd t174 1)).bind fun bt179 => (if 2 < (t174.length : Int) then (if 3 < (t174.length : Int) then (if 4 < (t174.length : Int) then (if (wrap64 ((wrap64 ((wrap64 ((Int.tmod (rd t174 2) 50) + (Int.tmod (rd t174 3) 50))) - (Int.tmod (rd t174 2) 50))) + 1)) = 0 then (none) else ((impl_PassOff.f bt179.1 bt179.2 (Int.tmod (rd t174 2) 50) (wrap64 ((Int.tmod (rd t174 2) 50) + (Int.tmod (rd t174 3) 50)))).bind fun bt185 => (if 5 < (t174.length : Int) then (if 6 < (t174.length : Int) then ((impl_Synchronize.f bt185.1 bt185.2 (mx 0 (wrap64 ((wrap64 ((wrap64 ((wrap64 (bt171.1 + (Int.tmod (rd t174 0) (wrap64 ((wrap64 (bt171.2 - bt171.1)) + 1))))) + (rd t174 1))) + (wrap64 ((Int.tmod (rd t174 2) 50) + (Int.tmod (rd t174 4) (wrap64 ((wrap64 ((wrap64 ((Int.tmod (rd t174 2) 50) + (Int.tmod (rd t174 3) 50))) - (Int.tmod (rd t174 2) 50))) + 1))))))) - (Int.tmod (rd t174 5) 30)))) (wrap64 ((wrap64 ((wrap64 ((wrap64 (bt171.1 + (Int.tmod (rd t174 0) (wrap64 ((wrap64 (bt171.2 - bt171.1)) + 1))))) + (rd t174 1))) + (wrap64 ((Int.tmod (rd t174 2) 50) + (Int.tmod (rd t174 4) (wrap64 ((wrap64 ((wrap64 ((Int.tmod (rd t174 2) 50) + (Int.tmod (rd t174 3) 50))) - (Int.tmod (rd t174 2) 50))) + 1))))))) + (Int.tmod (rd t174 6) 30)))).bind fun bt192 => ((impl_Holds.f bt171.1 bt171.2 (wrap64 (bt171.1 + (Int.tmod (rd t174 0) (wrap64 ((wrap64 (bt171.2 - bt171.1)) + 1)))))).bind fun t196 => (if t196 = true then ((impl_Holds.f bt179.1 bt179.2 (wrap64 ((wrap64 (bt171.1 + (Int.tmod (rd t174 0) (wrap64 ((wrap64 (bt171.2 - bt171.1)) + 1))))) + (rd t174 1)))).bind fun t198 => (if t198 = true then ((impl_Holds.f bt185.1 bt185.2 (wrap64 ((wrap64 ((wrap64 (bt171.1 + (Int.tmod (rd t174 0) (wrap64 ((wrap64 (bt171.2 - bt171.1)) + 1))))) + (rd t174 1))) + (wrap64 ((Int.tmod (rd t174 2) 50) + (Int.tmod (rd t174 4) (wrap64 ((wrap64 ((wrap64 ((Int.tmod (rd t174 2) 50) + (Int.tmod (rd t174 3) 50))) - (Int.tmod (rd t174 2) 50))) + 1)))))))).bind fun t199 => (if t199 = true then (if bt192.2.2 = true then ((impl_Holds.f bt192.1 bt192.2.1 (wrap64 ((wrap64 ((wrap64 (bt171.1 + (Int.tmod (rd t174 0) (wrap64 ((wrap64 (bt171.2 - bt171.1)) + 1))))) + (rd t174 1))) + (wrap64 ((Int.tmod (rd t174 2) 50) + (Int.tmod (rd t174 4) (wrap64 ((wrap64 ((wrap64 ((Int.tmod (rd t174 2) 50) + (Int.tmod (rd t174 3) 50))) - (Int.tmod (rd t174 2) 50))) + 1)))))))).bind fun t200 => (if t200 = true then ((impl_Uncertainty.f bt192.1 bt192.2.1).bind fun t201 => ((impl_Uncertainty.f bt185.1 bt185.2).bind fun t202 => (if t201 ≤ t202 then ((impl_Uncertainty.f bt185.1 bt185.2).bind fun t203 => ((impl_Uncertainty.f bt171.1 bt171.2).bind fun t204 => (some (t203 == (wrap64 ((wrap64 (t204 + (wrap64 ((Int.tmod (rd t174 2) 50) + (Int.tmod (rd t174 3) 50))))) - (Int.tmod (rd t174 2) 50))))))) else (some false)))) else (some false))) else (some false)) else (some false))) else (some false))) else (some false)))) else (none)) else (none)))) else (none)) else (none)) else (none))) else (none))) else (none))))) = some r := H
  have A2 := Aside0.mk A20
  clear A20
  by_cases c3 : t170 = true
  · subst c3
    have H1 : (some true) = some r := by rw [if_pos rfl] at H; exact H
    clear H
    have H := H1
    clear H1
    obtain rfl := Option.some.inj H
    go_enter Try.func15, Try.ntmps15
    go_wp2_with (first | ((with_reducible refine gate_callee (f := 47) rfl ?_); refine goesL_ (some 16) rfl rfl Try.func47 (by kernel_rfl) rfl #[.slice A0 l0.length c0] rfl (by (try simp only [List.map_toArray, List.map_cons, List.map_nil]); first | done | rfl | (simp only [List.length_drop, List.length_take]; rfl)) ?_; (with_reducible refine (laws_big.calls _ _ l0 true _ ?side1 ?side2 A2.out).mono ?_); (case side1 => repeat (first | exact HR0.out | (with_reducible refine Kd.C_alloc ?_ _) | (with_reducible refine Kd.C_drewN ?_ _) | (with_reducible refine Kd.C_drew ?_))); (case side2 => exact HC0.out); rintro e w' ⟨rfl, ⟨nd, rfl⟩⟩; refine ⟨_, rfl, ?_⟩))
    go_ret
    exact ⟨by first | rfl | (simp [errW_none, errW_some] <;> rfl) | (simp [*, errW_none, errW_some] <;> rfl), by repeat (first | (with_reducible first | exact HB.out | apply below_alloc | apply pw_below_drewN | apply below_drew1) | exact HB.out)⟩
  · replace c3 := Bool.eq_false_iff.mpr c3
    subst c3
    have H1 : ((spec_DrawSpan.f k l0).bind fun bt171 => ((spec_DrawPlaces.f k l0).bind fun t174 => (if 0 < (t174.length : Int) then (if (wrap64 ((wrap64 (bt171.2 - bt171.1)) + 1)) = 0 then (none) else (if 1 < (t174.length : Int) then ((impl_PassOn.f bt171.1 bt171.2 (rd t174 1)).bind fun bt179 => (if 2 < (t174.length : Int) then (if 3 < (t174.length : Int) then (if 4 < (t174.length : Int) then (if (wrap64 ((wrap64 ((wrap64 ((Int.tmod (rd t174 2) 50) + (Int.tmod (rd t174 3) 50))) - (Int.tmod (rd t174 2) 50))) + 1)) = 0 then (none) else ((impl_PassOff.f bt179.1 bt179.2 (Int.tmod (rd t174 2) 50) (wrap64 ((Int.tmod (rd t174 2) 50) + (Int.tmod (rd t174 3) 50)))).bind fun bt185 => (if 5 < (t174.length : Int) then (if 6 < (t174.length : Int) then ((impl_Synchronize.f bt185.1 bt185.2 (mx 0 (wrap64 ((wrap64 ((wrap64 ((wrap64 (bt171.1 + (Int.tmod (rd t174 0) (wrap64 ((wrap64 (bt171.2 - bt171.1)) + 1))))) + (rd t174 1))) + (wrap64 ((Int.tmod (rd t174 2) 50) + (Int.tmod (rd t174 4) (wrap64 ((wrap64 ((wrap64 ((Int.tmod (rd t174 2) 50) + (Int.tmod (rd t174 3) 50))) - (Int.tmod (rd t174 2) 50))) + 1))))))) - (Int.tmod (rd t174 5) 30)))) (wrap64 ((wrap64 ((wrap64 ((wrap64 (bt171.1 + (Int.tmod (rd t174 0) (wrap64 ((wrap64 (bt171.2 - bt171.1)) + 1))))) + (rd t174 1))) + (wrap64 ((Int.tmod (rd t174 2) 50) + (Int.tmod (rd t174 4) (wrap64 ((wrap64 ((wrap64 ((Int.tmod (rd t174 2) 50) + (Int.tmod (rd t174 3) 50))) - (Int.tmod (rd t174 2) 50))) + 1))))))) + (Int.tmod (rd t174 6) 30)))).bind fun bt192 => ((impl_Holds.f bt171.1 bt171.2 (wrap64 (bt171.1 + (Int.tmod (rd t174 0) (wrap64 ((wrap64 (bt171.2 - bt171.1)) + 1)))))).bind fun t196 => (if t196 = true then ((impl_Holds.f bt179.1 bt179.2 (wrap64 ((wrap64 (bt171.1 + (Int.tmod (rd t174 0) (wrap64 ((wrap64 (bt171.2 - bt171.1)) + 1))))) + (rd t174 1)))).bind fun t198 => (if t198 = true then ((impl_Holds.f bt185.1 bt185.2 (wrap64 ((wrap64 ((wrap64 (bt171.1 + (Int.tmod (rd t174 0) (wrap64 ((wrap64 (bt171.2 - bt171.1)) + 1))))) + (rd t174 1))) + (wrap64 ((Int.tmod (rd t174 2) 50) + (Int.tmod (rd t174 4) (wrap64 ((wrap64 ((wrap64 ((Int.tmod (rd t174 2) 50) + (Int.tmod (rd t174 3) 50))) - (Int.tmod (rd t174 2) 50))) + 1)))))))).bind fun t199 => (if t199 = true then (if bt192.2.2 = true then ((impl_Holds.f bt192.1 bt192.2.1 (wrap64 ((wrap64 ((wrap64 (bt171.1 + (Int.tmod (rd t174 0) (wrap64 ((wrap64 (bt171.2 - bt171.1)) + 1))))) + (rd t174 1))) + (wrap64 ((Int.tmod (rd t174 2) 50) + (Int.tmod (rd t174 4) (wrap64 ((wrap64 ((wrap64 ((Int.tmod (rd t174 2) 50) + (Int.tmod (rd t174 3) 50))) - (Int.tmod (rd t174 2) 50))) + 1)))))))).bind fun t200 => (if t200 = true then ((impl_Uncertainty.f bt192.1 bt192.2.1).bind fun t201 => ((impl_Uncertainty.f bt185.1 bt185.2).bind fun t202 => (if t201 ≤ t202 then ((impl_Uncertainty.f bt185.1 bt185.2).bind fun t203 => ((impl_Uncertainty.f bt171.1 bt171.2).bind fun t204 => (some (t203 == (wrap64 ((wrap64 (t204 + (wrap64 ((Int.tmod (rd t174 2) 50) + (Int.tmod (rd t174 3) 50))))) - (Int.tmod (rd t174 2) 50))))))) else (some false)))) else (some false))) else (some false)) else (some false))) else (some false))) else (some false)))) else (none)) else (none)))) else (none)) else (none)) else (none))) else (none))) else (none)))) = some r := by rw [if_neg (show ¬ (false = true) by decide)] at H; exact H
    clear H
    have H := H1
    clear H1
    replace H := Option.bind_eq_some_iff.mp H
    obtain ⟨⟨t171, t172⟩, A40, H⟩ := H
    replace H : ((spec_DrawPlaces.f k l0).bind fun t174 => (if 0 < (t174.length : Int) then (if (wrap64 ((wrap64 (t172 - t171)) + 1)) = 0 then (none) else (if 1 < (t174.length : Int) then ((impl_PassOn.f t171 t172 (rd t174 1)).bind fun bt179 => (if 2 < (t174.length : Int) then (if 3 < (t174.length : Int) then (if 4 < (t174.length : Int) then (if (wrap64 ((wrap64 ((wrap64 ((Int.tmod (rd t174 2) 50) + (Int.tmod (rd t174 3) 50))) - (Int.tmod (rd t174 2) 50))) + 1)) = 0 then (none) else ((impl_PassOff.f bt179.1 bt179.2 (Int.tmod (rd t174 2) 50) (wrap64 ((Int.tmod (rd t174 2) 50) + (Int.tmod (rd t174 3) 50)))).bind fun bt185 => (if 5 < (t174.length : Int) then (if 6 < (t174.length : Int) then ((impl_Synchronize.f bt185.1 bt185.2 (mx 0 (wrap64 ((wrap64 ((wrap64 ((wrap64 (t171 + (Int.tmod (rd t174 0) (wrap64 ((wrap64 (t172 - t171)) + 1))))) + (rd t174 1))) + (wrap64 ((Int.tmod (rd t174 2) 50) + (Int.tmod (rd t174 4) (wrap64 ((wrap64 ((wrap64 ((Int.tmod (rd t174 2) 50) + (Int.tmod (rd t174 3) 50))) - (Int.tmod (rd t174 2) 50))) + 1))))))) - (Int.tmod (rd t174 5) 30)))) (wrap64 ((wrap64 ((wrap64 ((wrap64 (t171 + (Int.tmod (rd t174 0) (wrap64 ((wrap64 (t172 - t171)) + 1))))) + (rd t174 1))) + (wrap64 ((Int.tmod (rd t174 2) 50) + (Int.tmod (rd t174 4) (wrap64 ((wrap64 ((wrap64 ((Int.tmod (rd t174 2) 50) + (Int.tmod (rd t174 3) 50))) - (Int.tmod (rd t174 2) 50))) + 1))))))) + (Int.tmod (rd t174 6) 30)))).bind fun bt192 => ((impl_Holds.f t171 t172 (wrap64 (t171 + (Int.tmod (rd t174 0) (wrap64 ((wrap64 (t172 - t171)) + 1)))))).bind fun t196 => (if t196 = true then ((impl_Holds.f bt179.1 bt179.2 (wrap64 ((wrap64 (t171 + (Int.tmod (rd t174 0) (wrap64 ((wrap64 (t172 - t171)) + 1))))) + (rd t174 1)))).bind fun t198 => (if t198 = true then ((impl_Holds.f bt185.1 bt185.2 (wrap64 ((wrap64 ((wrap64 (t171 + (Int.tmod (rd t174 0) (wrap64 ((wrap64 (t172 - t171)) + 1))))) + (rd t174 1))) + (wrap64 ((Int.tmod (rd t174 2) 50) + (Int.tmod (rd t174 4) (wrap64 ((wrap64 ((wrap64 ((Int.tmod (rd t174 2) 50) + (Int.tmod (rd t174 3) 50))) - (Int.tmod (rd t174 2) 50))) + 1)))))))).bind fun t199 => (if t199 = true then (if bt192.2.2 = true then ((impl_Holds.f bt192.1 bt192.2.1 (wrap64 ((wrap64 ((wrap64 (t171 + (Int.tmod (rd t174 0) (wrap64 ((wrap64 (t172 - t171)) + 1))))) + (rd t174 1))) + (wrap64 ((Int.tmod (rd t174 2) 50) + (Int.tmod (rd t174 4) (wrap64 ((wrap64 ((wrap64 ((Int.tmod (rd t174 2) 50) + (Int.tmod (rd t174 3) 50))) - (Int.tmod (rd t174 2) 50))) + 1)))))))).bind fun t200 => (if t200 = true then ((impl_Uncertainty.f bt192.1 bt192.2.1).bind fun t201 => ((impl_Uncertainty.f bt185.1 bt185.2).bind fun t202 => (if t201 ≤ t202 then ((impl_Uncertainty.f bt185.1 bt185.2).bind fun t203 => ((impl_Uncertainty.f t171 t172).bind fun t204 => (some (t203 == (wrap64 ((wrap64 (t204 + (wrap64 ((Int.tmod (rd t174 2) 50) + (Int.tmod (rd t174 3) 50))))) - (Int.tmod (rd t174 2) 50))))))) else (some false)))) else (some false))) else (some false)) else (some false))) else (some false))) else (some false)))) else (none)) else (none)))) else (none)) else (none)) else (none))) else (none))) else (none))) = some r := H
    have A4 := Aside0.mk A40
    clear A40
    replace H := Option.bind_eq_some_iff.mp H
    obtain ⟨t174, A50, H⟩ := H
    replace H : (if 0 < (t174.length : Int) then (if (wrap64 ((wrap64 (t172 - t171)) + 1)) = 0 then (none) else (if 1 < (t174.length : Int) then ((impl_PassOn.f t171 t172 (rd t174 1)).bind fun bt179 => (if 2 < (t174.length : Int) then (if 3 < (t174.length : Int) then (if 4 < (t174.length : Int) then (if (wrap64 ((wrap64 ((wrap64 ((Int.tmod (rd t174 2) 50) + (Int.tmod (rd t174 3) 50))) - (Int.tmod (rd t174 2) 50))) + 1)) = 0 then (none) else ((impl_PassOff.f bt179.1 bt179.2 (Int.tmod (rd t174 2) 50) (wrap64 ((Int.tmod (rd t174 2) 50) + (Int.tmod (rd t174 3) 50)))).bind fun bt185 => (if 5 < (t174.length : Int) then (if 6 < (t174.length : Int) then ((impl_Synchronize.f bt185.1 bt185.2 (mx 0 (wrap64 ((wrap64 ((wrap64 ((wrap64 (t171 + (Int.tmod (rd t174 0) (wrap64 ((wrap64 (t172 - t171)) + 1))))) + (rd t174 1))) + (wrap64 ((Int.tmod (rd t174 2) 50) + (Int.tmod (rd t174 4) (wrap64 ((wrap64 ((wrap64 ((Int.tmod (rd t174 2) 50) + (Int.tmod (rd t174 3) 50))) - (Int.tmod (rd t174 2) 50))) + 1))))))) - (Int.tmod (rd t174 5) 30)))) (wrap64 ((wrap64 ((wrap64 ((wrap64 (t171 + (Int.tmod (rd t174 0) (wrap64 ((wrap64 (t172 - t171)) + 1))))) + (rd t174 1))) + (wrap64 ((Int.tmod (rd t174 2) 50) + (Int.tmod (rd t174 4) (wrap64 ((wrap64 ((wrap64 ((Int.tmod (rd t174 2) 50) + (Int.tmod (rd t174 3) 50))) - (Int.tmod (rd t174 2) 50))) + 1))))))) + (Int.tmod (rd t174 6) 30)))).bind fun bt192 => ((impl_Holds.f t171 t172 (wrap64 (t171 + (Int.tmod (rd t174 0) (wrap64 ((wrap64 (t172 - t171)) + 1)))))).bind fun t196 => (if t196 = true then ((impl_Holds.f bt179.1 bt179.2 (wrap64 ((wrap64 (t171 + (Int.tmod (rd t174 0) (wrap64 ((wrap64 (t172 - t171)) + 1))))) + (rd t174 1)))).bind fun t198 => (if t198 = true then ((impl_Holds.f bt185.1 bt185.2 (wrap64 ((wrap64 ((wrap64 (t171 + (Int.tmod (rd t174 0) (wrap64 ((wrap64 (t172 - t171)) + 1))))) + (rd t174 1))) + (wrap64 ((Int.tmod (rd t174 2) 50) + (Int.tmod (rd t174 4) (wrap64 ((wrap64 ((wrap64 ((Int.tmod (rd t174 2) 50) + (Int.tmod (rd t174 3) 50))) - (Int.tmod (rd t174 2) 50))) + 1)))))))).bind fun t199 => (if t199 = true then (if bt192.2.2 = true then ((impl_Holds.f bt192.1 bt192.2.1 (wrap64 ((wrap64 ((wrap64 (t171 + (Int.tmod (rd t174 0) (wrap64 ((wrap64 (t172 - t171)) + 1))))) + (rd t174 1))) + (wrap64 ((Int.tmod (rd t174 2) 50) + (Int.tmod (rd t174 4) (wrap64 ((wrap64 ((wrap64 ((Int.tmod (rd t174 2) 50) + (Int.tmod (rd t174 3) 50))) - (Int.tmod (rd t174 2) 50))) + 1)))))))).bind fun t200 => (if t200 = true then ((impl_Uncertainty.f bt192.1 bt192.2.1).bind fun t201 => ((impl_Uncertainty.f bt185.1 bt185.2).bind fun t202 => (if t201 ≤ t202 then ((impl_Uncertainty.f bt185.1 bt185.2).bind fun t203 => ((impl_Uncertainty.f t171 t172).bind fun t204 => (some (t203 == (wrap64 ((wrap64 (t204 + (wrap64 ((Int.tmod (rd t174 2) 50) + (Int.tmod (rd t174 3) 50))))) - (Int.tmod (rd t174 2) 50))))))) else (some false)))) else (some false))) else (some false)) else (some false))) else (some false))) else (some false)))) else (none)) else (none)))) else (none)) else (none)) else (none))) else (none))) else (none)) = some r := H
    have A5 := Aside0.mk A50
    clear A50
    by_cases c6 : 0 < (t174.length : Int)
    · rw [if_pos c6] at H
      have c6b0 : decide (0 < (t174.length : Int)) = true := decide_eq_true c6
      have c6b1 : decide (0 < t174.length) = true := decide_eq_true (by omega)
      clear c6
      by_cases c7 : (wrap64 ((wrap64 (t172 - t171)) + 1)) = 0
      · rw [if_pos c7] at H
        exact absurd H (by simp)
      · rw [if_neg c7] at H
        have c7b0 : ((wrap64 ((wrap64 (t172 - t171)) + 1)) == 0) = false := beq_eq_false_iff_ne.mpr c7
        have c7b1 : ((wrap64 ((wrap64 (t172 - t171)) + 1)) != 0) = true := bne_iff_ne.mpr c7
        by_cases c8 : 1 < (t174.length : Int)
        · rw [if_pos c8] at H
          have c8b0 : decide (1 < (t174.length : Int)) = true := decide_eq_true c8
          have c8b1 : decide (1 < t174.length) = true := decide_eq_true (by omega)
          clear c8
          replace H := Option.bind_eq_some_iff.mp H
          obtain ⟨⟨t179, t180⟩, A90, H⟩ := H
          replace H : (if 2 < (t174.length : Int) then (if 3 < (t174.length : Int) then (if 4 < (t174.length : Int) then (if (wrap64 ((wrap64 ((wrap64 ((Int.tmod (rd t174 2) 50) + (Int.tmod (rd t174 3) 50))) - (Int.tmod (rd t174 2) 50))) + 1)) = 0 then (none) else ((impl_PassOff.f t179 t180 (Int.tmod (rd t174 2) 50) (wrap64 ((Int.tmod (rd t174 2) 50) + (Int.tmod (rd t174 3) 50)))).bind fun bt185 => (if 5 < (t174.length : Int) then (if 6 < (t174.length : Int) then ((impl_Synchronize.f bt185.1 bt185.2 (mx 0 (wrap64 ((wrap64 ((wrap64 ((wrap64 (t171 + (Int.tmod (rd t174 0) (wrap64 ((wrap64 (t172 - t171)) + 1))))) + (rd t174 1))) + (wrap64 ((Int.tmod (rd t174 2) 50) + (Int.tmod (rd t174 4) (wrap64 ((wrap64 ((wrap64 ((Int.tmod (rd t174 2) 50) + (Int.tmod (rd t174 3) 50))) - (Int.tmod (rd t174 2) 50))) + 1))))))) - (Int.tmod (rd t174 5) 30)))) (wrap64 ((wrap64 ((wrap64 ((wrap64 (t171 + (Int.tmod (rd t174 0) (wrap64 ((wrap64 (t172 - t171)) + 1))))) + (rd t174 1))) + (wrap64 ((Int.tmod (rd t174 2) 50) + (Int.tmod (rd t174 4) (wrap64 ((wrap64 ((wrap64 ((Int.tmod (rd t174 2) 50) + (Int.tmod (rd t174 3) 50))) - (Int.tmod (rd t174 2) 50))) + 1))))))) + (Int.tmod (rd t174 6) 30)))).bind fun bt192 => ((impl_Holds.f t171 t172 (wrap64 (t171 + (Int.tmod (rd t174 0) (wrap64 ((wrap64 (t172 - t171)) + 1)))))).bind fun t196 => (if t196 = true then ((impl_Holds.f t179 t180 (wrap64 ((wrap64 (t171 + (Int.tmod (rd t174 0) (wrap64 ((wrap64 (t172 - t171)) + 1))))) + (rd t174 1)))).bind fun t198 => (if t198 = true then ((impl_Holds.f bt185.1 bt185.2 (wrap64 ((wrap64 ((wrap64 (t171 + (Int.tmod (rd t174 0) (wrap64 ((wrap64 (t172 - t171)) + 1))))) + (rd t174 1))) + (wrap64 ((Int.tmod (rd t174 2) 50) + (Int.tmod (rd t174 4) (wrap64 ((wrap64 ((wrap64 ((Int.tmod (rd t174 2) 50) + (Int.tmod (rd t174 3) 50))) - (Int.tmod (rd t174 2) 50))) + 1)))))))).bind fun t199 => (if t199 = true then (if bt192.2.2 = true then ((impl_Holds.f bt192.1 bt192.2.1 (wrap64 ((wrap64 ((wrap64 (t171 + (Int.tmod (rd t174 0) (wrap64 ((wrap64 (t172 - t171)) + 1))))) + (rd t174 1))) + (wrap64 ((Int.tmod (rd t174 2) 50) + (Int.tmod (rd t174 4) (wrap64 ((wrap64 ((wrap64 ((Int.tmod (rd t174 2) 50) + (Int.tmod (rd t174 3) 50))) - (Int.tmod (rd t174 2) 50))) + 1)))))))).bind fun t200 => (if t200 = true then ((impl_Uncertainty.f bt192.1 bt192.2.1).bind fun t201 => ((impl_Uncertainty.f bt185.1 bt185.2).bind fun t202 => (if t201 ≤ t202 then ((impl_Uncertainty.f bt185.1 bt185.2).bind fun t203 => ((impl_Uncertainty.f t171 t172).bind fun t204 => (some (t203 == (wrap64 ((wrap64 (t204 + (wrap64 ((Int.tmod (rd t174 2) 50) + (Int.tmod (rd t174 3) 50))))) - (Int.tmod (rd t174 2) 50))))))) else (some false)))) else (some false))) else (some false)) else (some false))) else (some false))) else (some false)))) else (none)) else (none)))) else (none)) else (none)) else (none)) = some r := H
          have A9 := Aside0.mk A90
          clear A90
          by_cases c10 : 2 < (t174.length : Int)
          · rw [if_pos c10] at H
            have c10b0 : decide (2 < (t174.length : Int)) = true := decide_eq_true c10
            have c10b1 : decide (2 < t174.length) = true := decide_eq_true (by omega)
            clear c10
            by_cases c11 : 3 < (t174.length : Int)
            · rw [if_pos c11] at H
              have c11b0 : decide (3 < (t174.length : Int)) = true := decide_eq_true c11
              have c11b1 : decide (3 < t174.length) = true := decide_eq_true (by omega)
              clear c11
              by_cases c12 : 4 < (t174.length : Int)
              · rw [if_pos c12] at H
                have c12b0 : decide (4 < (t174.length : Int)) = true := decide_eq_true c12
                have c12b1 : decide (4 < t174.length) = true := decide_eq_true (by omega)
                clear c12
                by_cases c13 : (wrap64 ((wrap64 ((wrap64 ((Int.tmod (rd t174 2) 50) + (Int.tmod (rd t174 3) 50))) - (Int.tmod (rd t174 2) 50))) + 1)) = 0
                · rw [if_pos c13] at H
                  exact absurd H (by simp)
                · rw [if_neg c13] at H
                  have c13b0 : ((wrap64 ((wrap64 ((wrap64 ((Int.tmod (rd t174 2) 50) + (Int.tmod (rd t174 3) 50))) - (Int.tmod (rd t174 2) 50))) + 1)) == 0) = false := beq_eq_false_iff_ne.mpr c13
                  have c13b1 : ((wrap64 ((wrap64 ((wrap64 ((Int.tmod (rd t174 2) 50) + (Int.tmod (rd t174 3) 50))) - (Int.tmod (rd t174 2) 50))) + 1)) != 0) = true := bne_iff_ne.mpr c13
                  replace H := Option.bind_eq_some_iff.mp H
                  obtain ⟨⟨t185, t186⟩, A140, H⟩ := H
                  replace H : (if 5 < (t174.length : Int) then (if 6 < (t174.length : Int) then ((impl_Synchronize.f t185 t186 (mx 0 (wrap64 ((wrap64 ((wrap64 ((wrap64 (t171 + (Int.tmod (rd t174 0) (wrap64 ((wrap64 (t172 - t171)) + 1))))) + (rd t174 1))) + (wrap64 ((Int.tmod (rd t174 2) 50) + (Int.tmod (rd t174 4) (wrap64 ((wrap64 ((wrap64 ((Int.tmod (rd t174 2) 50) + (Int.tmod (rd t174 3) 50))) - (Int.tmod (rd t174 2) 50))) + 1))))))) - (Int.tmod (rd t174 5) 30)))) (wrap64 ((wrap64 ((wrap64 ((wrap64 (t171 + (Int.tmod (rd t174 0) (wrap64 ((wrap64 (t172 - t171)) + 1))))) + (rd t174 1))) + (wrap64 ((Int.tmod (rd t174 2) 50) + (Int.tmod (rd t174 4) (wrap64 ((wrap64 ((wrap64 ((Int.tmod (rd t174 2) 50) + (Int.tmod (rd t174 3) 50))) - (Int.tmod (rd t174 2) 50))) + 1))))))) + (Int.tmod (rd t174 6) 30)))).bind fun bt192 => ((impl_Holds.f t171 t172 (wrap64 (t171 + (Int.tmod (rd t174 0) (wrap64 ((wrap64 (t172 - t171)) + 1)))))).bind fun t196 => (if t196 = true then ((impl_Holds.f t179 t180 (wrap64 ((wrap64 (t171 + (Int.tmod (rd t174 0) (wrap64 ((wrap64 (t172 - t171)) + 1))))) + (rd t174 1)))).bind fun t198 => (if t198 = true then ((impl_Holds.f t185 t186 (wrap64 ((wrap64 ((wrap64 (t171 + (Int.tmod (rd t174 0) (wrap64 ((wrap64 (t172 - t171)) + 1))))) + (rd t174 1))) + (wrap64 ((Int.tmod (rd t174 2) 50) + (Int.tmod (rd t174 4) (wrap64 ((wrap64 ((wrap64 ((Int.tmod (rd t174 2) 50) + (Int.tmod (rd t174 3) 50))) - (Int.tmod (rd t174 2) 50))) + 1)))))))).bind fun t199 => (if t199 = true then (if bt192.2.2 = true then ((impl_Holds.f bt192.1 bt192.2.1 (wrap64 ((wrap64 ((wrap64 (t171 + (Int.tmod (rd t174 0) (wrap64 ((wrap64 (t172 - t171)) + 1))))) + (rd t174 1))) + (wrap64 ((Int.tmod (rd t174 2) 50) + (Int.tmod (rd t174 4) (wrap64 ((wrap64 ((wrap64 ((Int.tmod (rd t174 2) 50) + (Int.tmod (rd t174 3) 50))) - (Int.tmod (rd t174 2) 50))) + 1)))))))).bind fun t200 => (if t200 = true then ((impl_Uncertainty.f bt192.1 bt192.2.1).bind fun t201 => ((impl_Uncertainty.f t185 t186).bind fun t202 => (if t201 ≤ t202 then ((impl_Uncertainty.f t185 t186).bind fun t203 => ((impl_Uncertainty.f t171 t172).bind fun t204 => (some (t203 == (wrap64 ((wrap64 (t204 + (wrap64 ((Int.tmod (rd t174 2) 50) + (Int.tmod (rd t174 3) 50))))) - (Int.tmod (rd t174 2) 50))))))) else (some false)))) else (some false))) else (some false)) else (some false))) else (some false))) else (some false)))) else (none)) else (none)) = some r := H
                  have A14 := Aside0.mk A140
                  clear A140
                  by_cases c15 : 5 < (t174.length : Int)
                  · rw [if_pos c15] at H
                    have c15b0 : decide (5 < (t174.length : Int)) = true := decide_eq_true c15
                    have c15b1 : decide (5 < t174.length) = true := decide_eq_true (by omega)
                    clear c15
                    obtain ⟨ji16, hji16⟩ : ∃ j_ : Int, (mx 0 (wrap64 ((wrap64 ((wrap64 ((wrap64 (t171 + (Int.tmod (rd t174 0) (wrap64 ((wrap64 (t172 - t171)) + 1))))) + (rd t174 1))) + (wrap64 ((Int.tmod (rd t174 2) 50) + (Int.tmod (rd t174 4) (wrap64 ((wrap64 ((wrap64 ((Int.tmod (rd t174 2) 50) + (Int.tmod (rd t174 3) 50))) - (Int.tmod (rd t174 2) 50))) + 1))))))) - (Int.tmod (rd t174 5) 30)))) = j_ := ⟨_, rfl⟩
                    replace H : (if 6 < (t174.length : Int) then ((impl_Synchronize.f t185 t186 (ji16) (wrap64 ((wrap64 ((wrap64 ((wrap64 (t171 + (Int.tmod (rd t174 0) (wrap64 ((wrap64 (t172 - t171)) + 1))))) + (rd t174 1))) + (wrap64 ((Int.tmod (rd t174 2) 50) + (Int.tmod (rd t174 4) (wrap64 ((wrap64 ((wrap64 ((Int.tmod (rd t174 2) 50) + (Int.tmod (rd t174 3) 50))) - (Int.tmod (rd t174 2) 50))) + 1))))))) + (Int.tmod (rd t174 6) 30)))).bind fun bt192 => ((impl_Holds.f t171 t172 (wrap64 (t171 + (Int.tmod (rd t174 0) (wrap64 ((wrap64 (t172 - t171)) + 1)))))).bind fun t196 => (if t196 = true then ((impl_Holds.f t179 t180 (wrap64 ((wrap64 (t171 + (Int.tmod (rd t174 0) (wrap64 ((wrap64 (t172 - t171)) + 1))))) + (rd t174 1)))).bind fun t198 => (if t198 = true then ((impl_Holds.f t185 t186 (wrap64 ((wrap64 ((wrap64 (t171 + (Int.tmod (rd t174 0) (wrap64 ((wrap64 (t172 - t171)) + 1))))) + (rd t174 1))) + (wrap64 ((Int.tmod (rd t174 2) 50) + (Int.tmod (rd t174 4) (wrap64 ((wrap64 ((wrap64 ((Int.tmod (rd t174 2) 50) + (Int.tmod (rd t174 3) 50))) - (Int.tmod (rd t174 2) 50))) + 1)))))))).bind fun t199 => (if t199 = true then (if bt192.2.2 = true then ((impl_Holds.f bt192.1 bt192.2.1 (wrap64 ((wrap64 ((wrap64 (t171 + (Int.tmod (rd t174 0) (wrap64 ((wrap64 (t172 - t171)) + 1))))) + (rd t174 1))) + (wrap64 ((Int.tmod (rd t174 2) 50) + (Int.tmod (rd t174 4) (wrap64 ((wrap64 ((wrap64 ((Int.tmod (rd t174 2) 50) + (Int.tmod (rd t174 3) 50))) - (Int.tmod (rd t174 2) 50))) + 1)))))))).bind fun t200 => (if t200 = true then ((impl_Uncertainty.f bt192.1 bt192.2.1).bind fun t201 => ((impl_Uncertainty.f t185 t186).bind fun t202 => (if t201 ≤ t202 then ((impl_Uncertainty.f t185 t186).bind fun t203 => ((impl_Uncertainty.f t171 t172).bind fun t204 => (some (t203 == (wrap64 ((wrap64 (t204 + (wrap64 ((Int.tmod (rd t174 2) 50) + (Int.tmod (rd t174 3) 50))))) - (Int.tmod (rd t174 2) 50))))))) else (some false)))) else (some false))) else (some false)) else (some false))) else (some false))) else (some false)))) else (none)) = some r := by first | (rw [hji16] at H; exact H) | (simp only [hji16] at H ⊢; exact H)
                    (try rw [hji16] at A2)
                    (try rw [hji16] at A4)
                    (try rw [hji16] at A5)
                    (try rw [hji16] at A9)
                    (try rw [hji16] at A14)
                    (try (have hji16l : 0 ≤ ji16 := by (rw [← hji16]; unfold mx; (repeat' split) <;> omega)))
                    (try (have hji16m : 0 ≤ ji16 := by omega))
                    have hji16_ : (if 0 < (wrap64 ((wrap64 ((wrap64 ((wrap64 (t171 + (Int.tmod (rd t174 0) (wrap64 ((wrap64 (t172 - t171)) + 1))))) + (rd t174 1))) + (wrap64 ((Int.tmod (rd t174 2) 50) + (Int.tmod (rd t174 4) (wrap64 ((wrap64 ((wrap64 ((Int.tmod (rd t174 2) 50) + (Int.tmod (rd t174 3) 50))) - (Int.tmod (rd t174 2) 50))) + 1))))))) - (Int.tmod (rd t174 5) 30))) then (wrap64 ((wrap64 ((wrap64 ((wrap64 (t171 + (Int.tmod (rd t174 0) (wrap64 ((wrap64 (t172 - t171)) + 1))))) + (rd t174 1))) + (wrap64 ((Int.tmod (rd t174 2) 50) + (Int.tmod (rd t174 4) (wrap64 ((wrap64 ((wrap64 ((Int.tmod (rd t174 2) 50) + (Int.tmod (rd t174 3) 50))) - (Int.tmod (rd t174 2) 50))) + 1))))))) - (Int.tmod (rd t174 5) 30))) else 0) = ji16 := hji16
                    by_cases c17 : 6 < (t174.length : Int)
                    · rw [if_pos c17] at H
                      have c17b0 : decide (6 < (t174.length : Int)) = true := decide_eq_true c17
                      have c17b1 : decide (6 < t174.length) = true := decide_eq_true (by omega)
                      clear c17
                      replace H := Option.bind_eq_some_iff.mp H
                      obtain ⟨⟨t192, t193, t194⟩, A180, H⟩ := H
                      replace H : ((impl_Holds.f t171 t172 (wrap64 (t171 + (Int.tmod (rd t174 0) (wrap64 ((wrap64 (t172 - t171)) + 1)))))).bind fun t196 => (if t196 = true then ((impl_Holds.f t179 t180 (wrap64 ((wrap64 (t171 + (Int.tmod (rd t174 0) (wrap64 ((wrap64 (t172 - t171)) + 1))))) + (rd t174 1)))).bind fun t198 => (if t198 = true then ((impl_Holds.f t185 t186 (wrap64 ((wrap64 ((wrap64 (t171 + (Int.tmod (rd t174 0) (wrap64 ((wrap64 (t172 - t171)) + 1))))) + (rd t174 1))) + (wrap64 ((Int.tmod (rd t174 2) 50) + (Int.tmod (rd t174 4) (wrap64 ((wrap64 ((wrap64 ((Int.tmod (rd t174 2) 50) + (Int.tmod (rd t174 3) 50))) - (Int.tmod (rd t174 2) 50))) + 1)))))))).bind fun t199 => (if t199 = true then (if t194 = true then ((impl_Holds.f t192 t193 (wrap64 ((wrap64 ((wrap64 (t171 + (Int.tmod (rd t174 0) (wrap64 ((wrap64 (t172 - t171)) + 1))))) + (rd t174 1))) + (wrap64 ((Int.tmod (rd t174 2) 50) + (Int.tmod (rd t174 4) (wrap64 ((wrap64 ((wrap64 ((Int.tmod (rd t174 2) 50) + (Int.tmod (rd t174 3) 50))) - (Int.tmod (rd t174 2) 50))) + 1)))))))).bind fun t200 => (if t200 = true then ((impl_Uncertainty.f t192 t193).bind fun t201 => ((impl_Uncertainty.f t185 t186).bind fun t202 => (if t201 ≤ t202 then ((impl_Uncertainty.f t185 t186).bind fun t203 => ((impl_Uncertainty.f t171 t172).bind fun t204 => (some (t203 == (wrap64 ((wrap64 (t204 + (wrap64 ((Int.tmod (rd t174 2) 50) + (Int.tmod (rd t174 3) 50))))) - (Int.tmod (rd t174 2) 50))))))) else (some false)))) else (some false))) else (some false)) else (some false))) else (some false))) else (some false))) = some r := H
                      have A18 := Aside0.mk A180
                      clear A180
                      replace H := Option.bind_eq_some_iff.mp H
                      obtain ⟨t196, A190, H⟩ := H
                      replace H : (if t196 = true then ((impl_Holds.f t179 t180 (wrap64 ((wrap64 (t171 + (Int.tmod (rd t174 0) (wrap64 ((wrap64 (t172 - t171)) + 1))))) + (rd t174 1)))).bind fun t198 => (if t198 = true then ((impl_Holds.f t185 t186 (wrap64 ((wrap64 ((wrap64 (t171 + (Int.tmod (rd t174 0) (wrap64 ((wrap64 (t172 - t171)) + 1))))) + (rd t174 1))) + (wrap64 ((Int.tmod (rd t174 2) 50) + (Int.tmod (rd t174 4) (wrap64 ((wrap64 ((wrap64 ((Int.tmod (rd t174 2) 50) + (Int.tmod (rd t174 3) 50))) - (Int.tmod (rd t174 2) 50))) + 1)))))))).bind fun t199 => (if t199 = true then (if t194 = true then ((impl_Holds.f t192 t193 (wrap64 ((wrap64 ((wrap64 (t171 + (Int.tmod (rd t174 0) (wrap64 ((wrap64 (t172 - t171)) + 1))))) + (rd t174 1))) + (wrap64 ((Int.tmod (rd t174 2) 50) + (Int.tmod (rd t174 4) (wrap64 ((wrap64 ((wrap64 ((Int.tmod (rd t174 2) 50) + (Int.tmod (rd t174 3) 50))) - (Int.tmod (rd t174 2) 50))) + 1)))))))).bind fun t200 => (if t200 = true then ((impl_Uncertainty.f t192 t193).bind fun t201 => ((impl_Uncertainty.f t185 t186).bind fun t202 => (if t201 ≤ t202 then ((impl_Uncertainty.f t185 t186).bind fun t203 => ((impl_Uncertainty.f t171 t172).bind fun t204 => (some (t203 == (wrap64 ((wrap64 (t204 + (wrap64 ((Int.tmod (rd t174 2) 50) + (Int.tmod (rd t174 3) 50))))) - (Int.tmod (rd t174 2) 50))))))) else (some false)))) else (some false))) else (some false)) else (some false))) else (some false))) else (some false)) = some r := H
                      have A19 := Aside0.mk A190
                      clear A190
                      by_cases c20 : t196 = true
                      · subst c20
                        have H1 : ((impl_Holds.f t179 t180 (wrap64 ((wrap64 (t171 + (Int.tmod (rd t174 0) (wrap64 ((wrap64 (t172 - t171)) + 1))))) + (rd t174 1)))).bind fun t198 => (if t198 = true then ((impl_Holds.f t185 t186 (wrap64 ((wrap64 ((wrap64 (t171 + (Int.tmod (rd t174 0) (wrap64 ((wrap64 (t172 - t171)) + 1))))) + (rd t174 1))) + (wrap64 ((Int.tmod (rd t174 2) 50) + (Int.tmod (rd t174 4) (wrap64 ((wrap64 ((wrap64 ((Int.tmod (rd t174 2) 50) + (Int.tmod (rd t174 3) 50))) - (Int.tmod (rd t174 2) 50))) + 1)))))))).bind fun t199 => (if t199 = true then (if t194 = true then ((impl_Holds.f t192 t193 (wrap64 ((wrap64 ((wrap64 (t171 + (Int.tmod (rd t174 0) (wrap64 ((wrap64 (t172 - t171)) + 1))))) + (rd t174 1))) + (wrap64 ((Int.tmod (rd t174 2) 50) + (Int.tmod (rd t174 4) (wrap64 ((wrap64 ((wrap64 ((Int.tmod (rd t174 2) 50) + (Int.tmod (rd t174 3) 50))) - (Int.tmod (rd t174 2) 50))) + 1)))))))).bind fun t200 => (if t200 = true then ((impl_Uncertainty.f t192 t193).bind fun t201 => ((impl_Uncertainty.f t185 t186).bind fun t202 => (if t201 ≤ t202 then ((impl_Uncertainty.f t185 t186).bind fun t203 => ((impl_Uncertainty.f t171 t172).bind fun t204 => (some (t203 == (wrap64 ((wrap64 (t204 + (wrap64 ((Int.tmod (rd t174 2) 50) + (Int.tmod (rd t174 3) 50))))) - (Int.tmod (rd t174 2) 50))))))) else (some false)))) else (some false))) else (some false)) else (some false))) else (some false))) = some r := by rw [if_pos rfl] at H; exact H
                        clear H
                        have H := H1
                        clear H1
                        replace H := Option.bind_eq_some_iff.mp H
                        obtain ⟨t198, A210, H⟩ := H
                        replace H : (if t198 = true then ((impl_Holds.f t185 t186 (wrap64 ((wrap64 ((wrap64 (t171 + (Int.tmod (rd t174 0) (wrap64 ((wrap64 (t172 - t171)) + 1))))) + (rd t174 1))) + (wrap64 ((Int.tmod (rd t174 2) 50) + (Int.tmod (rd t174 4) (wrap64 ((wrap64 ((wrap64 ((Int.tmod (rd t174 2) 50) + (Int.tmod (rd t174 3) 50))) - (Int.tmod (rd t174 2) 50))) + 1)))))))).bind fun t199 => (if t199 = true then (if t194 = true then ((impl_Holds.f t192 t193 (wrap64 ((wrap64 ((wrap64 (t171 + (Int.tmod (rd t174 0) (wrap64 ((wrap64 (t172 - t171)) + 1))))) + (rd t174 1))) + (wrap64 ((Int.tmod (rd t174 2) 50) + (Int.tmod (rd t174 4) (wrap64 ((wrap64 ((wrap64 ((Int.tmod (rd t174 2) 50) + (Int.tmod (rd t174 3) 50))) - (Int.tmod (rd t174 2) 50))) + 1)))))))).bind fun t200 => (if t200 = true then ((impl_Uncertainty.f t192 t193).bind fun t201 => ((impl_Uncertainty.f t185 t186).bind fun t202 => (if t201 ≤ t202 then ((impl_Uncertainty.f t185 t186).bind fun t203 => ((impl_Uncertainty.f t171 t172).bind fun t204 => (some (t203 == (wrap64 ((wrap64 (t204 + (wrap64 ((Int.tmod (rd t174 2) 50) + (Int.tmod (rd t174 3) 50))))) - (Int.tmod (rd t174 2) 50))))))) else (some false)))) else (some false))) else (some false)) else (some false))) else (some false)) = some r := H
                        have A21 := Aside0.mk A210
                        clear A210
                        by_cases c22 : t198 = true
                        · subst c22
                          have H1 : ((impl_Holds.f t185 t186 (wrap64 ((wrap64 ((wrap64 (t171 + (Int.tmod (rd t174 0) (wrap64 ((wrap64 (t172 - t171)) + 1))))) + (rd t174 1))) + (wrap64 ((Int.tmod (rd t174 2) 50) + (Int.tmod (rd t174 4) (wrap64 ((wrap64 ((wrap64 ((Int.tmod (rd t174 2) 50) + (Int.tmod (rd t174 3) 50))) - (Int.tmod (rd t174 2) 50))) + 1)))))))).bind fun t199 => (if t199 = true then (if t194 = true then ((impl_Holds.f t192 t193 (wrap64 ((wrap64 ((wrap64 (t171 + (Int.tmod (rd t174 0) (wrap64 ((wrap64 (t172 - t171)) + 1))))) + (rd t174 1))) + (wrap64 ((Int.tmod (rd t174 2) 50) + (Int.tmod (rd t174 4) (wrap64 ((wrap64 ((wrap64 ((Int.tmod (rd t174 2) 50) + (Int.tmod (rd t174 3) 50))) - (Int.tmod (rd t174 2) 50))) + 1)))))))).bind fun t200 => (if t200 = true then ((impl_Uncertainty.f t192 t193).bind fun t201 => ((impl_Uncertainty.f t185 t186).bind fun t202 => (if t201 ≤ t202 then ((impl_Uncertainty.f t185 t186).bind fun t203 => ((impl_Uncertainty.f t171 t172).bind fun t204 => (some (t203 == (wrap64 ((wrap64 (t204 + (wrap64 ((Int.tmod (rd t174 2) 50) + (Int.tmod (rd t174 3) 50))))) - (Int.tmod (rd t174 2) 50))))))) else (some false)))) else (some false))) else (some false)) else (some false))) = some r := by rw [if_pos rfl] at H; exact H
                          clear H
                          have H := H1
                          clear H1
                          replace H := Option.bind_eq_some_iff.mp H
                          obtain ⟨t199, A230, H⟩ := H
                          replace H : (if t199 = true then (if t194 = true then ((impl_Holds.f t192 t193 (wrap64 ((wrap64 ((wrap64 (t171 + (Int.tmod (rd t174 0) (wrap64 ((wrap64 (t172 - t171)) + 1))))) + (rd t174 1))) + (wrap64 ((Int.tmod (rd t174 2) 50) + (Int.tmod (rd t174 4) (wrap64 ((wrap64 ((wrap64 ((Int.tmod (rd t174 2) 50) + (Int.tmod (rd t174 3) 50))) - (Int.tmod (rd t174 2) 50))) + 1)))))))).bind fun t200 => (if t200 = true then ((impl_Uncertainty.f t192 t193).bind fun t201 => ((impl_Uncertainty.f t185 t186).bind fun t202 => (if t201 ≤ t202 then ((impl_Uncertainty.f t185 t186).bind fun t203 => ((impl_Uncertainty.f t171 t172).bind fun t204 => (some (t203 == (wrap64 ((wrap64 (t204 + (wrap64 ((Int.tmod (rd t174 2) 50) + (Int.tmod (rd t174 3) 50))))) - (Int.tmod (rd t174 2) 50))))))) else (some false)))) else (some false))) else (some false)) else (some false)) = some r := H
                          have A23 := Aside0.mk A230
                          clear A230
                          by_cases c24 : t199 = true
                          · subst c24
                            have H1 : (if t194 = true then ((impl_Holds.f t192 t193 (wrap64 ((wrap64 ((wrap64 (t171 + (Int.tmod (rd t174 0) (wrap64 ((wrap64 (t172 - t171)) + 1))))) + (rd t174 1))) + (wrap64 ((Int.tmod (rd t174 2) 50) + (Int.tmod (rd t174 4) (wrap64 ((wrap64 ((wrap64 ((Int.tmod (rd t174 2) 50) + (Int.tmod (rd t174 3) 50))) - (Int.tmod (rd t174 2) 50))) + 1)))))))).bind fun t200 => (if t200 = true then ((impl_Uncertainty.f t192 t193).bind fun t201 => ((impl_Uncertainty.f t185 t186).bind fun t202 => (if t201 ≤ t202 then ((impl_Uncertainty.f t185 t186).bind fun t203 => ((impl_Uncertainty.f t171 t172).bind fun t204 => (some (t203 == (wrap64 ((wrap64 (t204 + (wrap64 ((Int.tmod (rd t174 2) 50) + (Int.tmod (rd t174 3) 50))))) - (Int.tmod (rd t174 2) 50))))))) else (some false)))) else (some false))) else (some false)) = some r := by rw [if_pos rfl] at H; exact H
                            clear H
                            have H := H1
                            clear H1
                            by_cases c25 : t194 = true
                            · subst c25
                              have H1 : ((impl_Holds.f t192 t193 (wrap64 ((wrap64 ((wrap64 (t171 + (Int.tmod (rd t174 0) (wrap64 ((wrap64 (t172 - t171)) + 1))))) + (rd t174 1))) + (wrap64 ((Int.tmod (rd t174 2) 50) + (Int.tmod (rd t174 4) (wrap64 ((wrap64 ((wrap64 ((Int.tmod (rd t174 2) 50) + (Int.tmod (rd t174 3) 50))) - (Int.tmod (rd t174 2) 50))) + 1)))))))).bind fun t200 => (if t200 = true then ((impl_Uncertainty.f t192 t193).bind fun t201 => ((impl_Uncertainty.f t185 t186).bind fun t202 => (if t201 ≤ t202 then ((impl_Uncertainty.f t185 t186).bind fun t203 => ((impl_Uncertainty.f t171 t172).bind fun t204 => (some (t203 == (wrap64 ((wrap64 (t204 + (wrap64 ((Int.tmod (rd t174 2) 50) + (Int.tmod (rd t174 3) 50))))) - (Int.tmod (rd t174 2) 50))))))) else (some false)))) else (some false))) = some r := by rw [if_pos rfl] at H; exact H
                              clear H
                              have H := H1
                              clear H1
                              replace H := Option.bind_eq_some_iff.mp H
                              obtain ⟨t200, A260, H⟩ := H
                              replace H : (if t200 = true then ((impl_Uncertainty.f t192 t193).bind fun t201 => ((impl_Uncertainty.f t185 t186).bind fun t202 => (if t201 ≤ t202 then ((impl_Uncertainty.f t185 t186).bind fun t203 => ((impl_Uncertainty.f t171 t172).bind fun t204 => (some (t203 == (wrap64 ((wrap64 (t204 + (wrap64 ((Int.tmod (rd t174 2) 50) + (Int.tmod (rd t174 3) 50))))) - (Int.tmod (rd t174 2) 50))))))) else (some false)))) else (some false)) = some r := H
                              have A26 := Aside0.mk A260
                              clear A260
                              by_cases c27 : t200 = true
                              · subst c27
                                have H1 : ((impl_Uncertainty.f t192 t193).bind fun t201 => ((impl_Uncertainty.f t185 t186).bind fun t202 => (if t201 ≤ t202 then ((impl_Uncertainty.f t185 t186).bind fun t203 => ((impl_Uncertainty.f t171 t172).bind fun t204 => (some (t203 == (wrap64 ((wrap64 (t204 + (wrap64 ((Int.tmod (rd t174 2) 50) + (Int.tmod (rd t174 3) 50))))) - (Int.tmod (rd t174 2) 50))))))) else (some false)))) = some r := by rw [if_pos rfl] at H; exact H
                                clear H
                                have H := H1
                                clear H1
                                replace H := Option.bind_eq_some_iff.mp H
                                obtain ⟨t201, A280, H⟩ := H
                                replace H : ((impl_Uncertainty.f t185 t186).bind fun t202 => (if t201 ≤ t202 then ((impl_Uncertainty.f t185 t186).bind fun t203 => ((impl_Uncertainty.f t171 t172).bind fun t204 => (some (t203 == (wrap64 ((wrap64 (t204 + (wrap64 ((Int.tmod (rd t174 2) 50) + (Int.tmod (rd t174 3) 50))))) - (Int.tmod (rd t174 2) 50))))))) else (some false))) = some r := H
                                have A28 := Aside0.mk A280
                                clear A280
                                replace H := Option.bind_eq_some_iff.mp H
                                obtain ⟨t202, A290, H⟩ := H
                                replace H : (if t201 ≤ t202 then ((impl_Uncertainty.f t185 t186).bind fun t203 => ((impl_Uncertainty.f t171 t172).bind fun t204 => (some (t203 == (wrap64 ((wrap64 (t204 + (wrap64 ((Int.tmod (rd t174 2) 50) + (Int.tmod (rd t174 3) 50))))) - (Int.tmod (rd t174 2) 50))))))) else (some false)) = some r := H
                                have A29 := Aside0.mk A290
                                clear A290
                                by_cases c30 : t201 ≤ t202
                                · rw [if_pos c30] at H
                                  have c30b0 : decide (t201 ≤ t202) = true := decide_eq_true c30
                                  clear c30
                                  replace H := Option.bind_eq_some_iff.mp H
                                  obtain ⟨t203, A310, H⟩ := H
                                  replace H : ((impl_Uncertainty.f t171 t172).bind fun t204 => (some (t203 == (wrap64 ((wrap64 (t204 + (wrap64 ((Int.tmod (rd t174 2) 50) + (Int.tmod (rd t174 3) 50))))) - (Int.tmod (rd t174 2) 50)))))) = some r := H
                                  have A31 := Aside0.mk A310
                                  clear A310
                                  replace H := Option.bind_eq_some_iff.mp H
                                  obtain ⟨t204, A320, H⟩ := H
                                  replace H : (some (t203 == (wrap64 ((wrap64 (t204 + (wrap64 ((Int.tmod (rd t174 2) 50) + (Int.tmod (rd t174 3) 50))))) - (Int.tmod (rd t174 2) 50))))) = some r := H
                                  have A32 := Aside0.mk A320
                                  clear A320
                                  obtain rfl := Option.some.inj H
                                  go_enter Try.func15, Try.ntmps15
                                  try go_wp2_with (first | ((with_reducible refine gate_callee (f := 47) rfl ?_); refine goesL_ (some 16) rfl rfl Try.func47 (by kernel_rfl) rfl #[.slice A0 l0.length c0] rfl (by (try simp only [List.map_toArray, List.map_cons, List.map_nil]); first | done | rfl | (simp only [List.length_drop, List.length_take]; rfl)) ?_; (with_reducible refine (laws_big.calls _ _ l0 false _ ?side1 ?side2 A2.out).mono ?_); (case side1 => repeat (first | exact HR0.out | (with_reducible refine Kd.C_alloc ?_ _) | (with_reducible refine Kd.C_drewN ?_ _) | (with_reducible refine Kd.C_drew ?_))); (case side2 => exact HC0.out); rintro e w' ⟨rfl, ⟨nd, rfl⟩⟩; refine ⟨_, rfl, ?_⟩) | ((with_reducible refine gate_callee (f := 48) rfl ?_); refine goesL_ (some 18) rfl rfl Try.func48 (by kernel_rfl) rfl #[.slice A0 l0.length c0] rfl (by (try simp only [List.map_toArray, List.map_cons, List.map_nil]); first | done | rfl | (simp only [List.length_drop, List.length_take]; rfl)) ?_; (with_reducible refine (spec_DrawSpan.calls k _ _ l0 t171 t172 _ ?side1 ?side2 A4.out).mono ?_); (case side1 => repeat (first | exact HR0.out | (with_reducible refine Kd.C_alloc ?_ _) | (with_reducible refine Kd.C_drewN ?_ _) | (with_reducible refine Kd.C_drew ?_))); (case side2 => exact HC0.out); rintro e w33 ⟨rfl, hb⟩; refine ⟨_, rfl, ?_⟩; have n0_ := Aside0.mk (below_step (by repeat (first | (with_reducible first | exact HB.out | apply below_alloc | apply pw_below_drewN | apply below_drew1) | exact HB.out)) hb); clear HB; have HB := n0_; clear n0_; (try clear hb); (try clear hb2); (try clear hk); (try clear hi)) | ((with_reducible refine gate_dst (N := 3) rfl ?_); refine box_event ?hg (N := 3) ?hd (cs := #[.int .i64 0, .int .i64 0]) (t := 25) ?hr ?_; (case hd => rfl); (case hg => rfl); (case hr => first | (go_simp; done) | (go_simp; rfl)); intro gb173 hg w34 hbox hb; have n0_ := Aside0.mk (below_step (by repeat (first | (with_reducible first | exact HB.out | apply below_alloc | apply pw_below_drewN | apply below_drew1) | exact HB.out)) hb); have n1_ := Aside0.mk (hbox); have n2_ := Aside0.mk ((by rw [hg]; exact (below_size (by repeat (first | (with_reducible first | exact HB.out | apply below_alloc | apply pw_below_drewN | apply below_drew1) | exact HB.out))) : w.heap.size ≤ gb173)); have n3_ := Aside0.mk ((by rw [hg]; exact (below_size (by repeat (first | (with_reducible first | exact HB.out | apply below_alloc | apply pw_below_drewN | apply below_drew1) | exact HB.out))) : w.heap.size ≤ gb173)); clear HB; have HB := n0_; have BK173 := n1_; have GW173 := n2_; have GE173 := n3_; clear n0_ n1_ n2_ n3_; clear hb hbox hg; have hcz35_0 : w34.cell? ⟨gb173, 0, none⟩ = some (.int .i64 0) := (blk_cell BK173.out 0).trans rfl; have hcz35_1 : w34.cell? ⟨gb173, 1, none⟩ = some (.int .i64 0) := (blk_cell BK173.out 1).trans rfl; have hfz35_0 := blk_frozen BK173.out 0; have hfz35_1 := blk_frozen BK173.out 1) | ((with_reducible refine gate_callee (f := 49) rfl ?_); refine goesL_ (some 20) rfl rfl Try.func49 (by kernel_rfl) rfl #[.slice A0 l0.length c0] rfl (by (try simp only [List.map_toArray, List.map_cons, List.map_nil]); first | done | rfl | (simp only [List.length_drop, List.length_take]; rfl)) ?_; (with_reducible refine (spec_DrawPlaces.calls k _ _ l0 t174 _ ?side1 ?side2 A5.out).mono ?_); (case side1 => exact Kd.C_below HR0.out (by repeat (first | (with_reducible first | exact HB.out | apply below_alloc | apply pw_below_drewN | apply below_drew1 | refine below_set ?_ GE173.out) | exact HB.out))); (case side2 => exact HC0.out); rintro e w36 ⟨v175, rfl, ho0, hb⟩; refine ⟨_, rfl, ?_⟩; have n0_ := Aside0.mk (Kd.R_lower ho0 (below_size (by repeat (first | (with_reducible first | exact HB.out | apply below_alloc | apply pw_below_drewN | apply below_drew1 | refine below_set ?_ GE173.out) | exact HB.out)))); have n1_ := Aside0.mk (blk_below (g := gb173) (o := .cells #[.int .i64 t171, .int .i64 t172] 25 (0, 0)) (by (with_reducible repeat (first | refine blk_drewN ?_ _ | refine blk_drew ?_ | refine blk_alloc ?_ _)); refine blk_put (cs := #[.int .i64 t171, .int .i64 0]) ?_ 1 _ rfl; (with_reducible repeat (first | refine blk_drewN ?_ _ | refine blk_drew ?_ | refine blk_alloc ?_ _)); refine blk_put (cs := #[.int .i64 0, .int .i64 0]) ?_ 0 _ rfl; (with_reducible repeat (first | refine blk_drewN ?_ _ | refine blk_drew ?_ | refine blk_alloc ?_ _)); exact BK173.out) hb); have n2_ := Aside0.mk (below_step (by repeat (first | (with_reducible first | exact HB.out | apply below_alloc | apply pw_below_drewN | apply below_drew1 | refine below_set ?_ GE173.out) | exact HB.out)) hb); clear BK173; clear HB; have HO176 := n0_; have BK173 := n1_; have HB := n2_; clear n0_ n1_ n2_; (try clear hb); (try clear hb2); (try clear hk); (try clear hi); (try clear ho0)))
                                  have n0_ := Aside0.mk (Kd.R_drew HO176.out)
                                  have n1_ := Aside0.mk (blk_drew BK173.out)
                                  have n2_ := Aside0.mk (below_drew1 HB.out)
                                  clear HO176
                                  clear BK173
                                  clear HB
                                  have HO176 := n0_
                                  have BK173 := n1_
                                  have HB := n2_
                                  clear n0_ n1_ n2_
                                  obtain ⟨Ao38, co38, eo38⟩ := Kd.R_slice HO176.out
                                  (first | subst eo38 | (injection eo38 with f1_ f2_ f3_; have f4_ := f1_.symm; have f5_ := f3_.symm; clear f1_ f2_ f3_; subst f4_; subst f5_))
                                  have p177 : 0 ≤ (0 : Int) := (by omega)
                                  have q177 : 0 < (t174.length : Int) := of_decide_eq_true (by first | (with_reducible assumption) | assumption)
                                  obtain ⟨ad177, e177, hx177_0⟩ := Kd.at_int (Kd.R_reads' HO176.out).2.2 0 p177 q177
                                  cases e177
                                  have qi177 : (0 < t174.length) = True := eq_true (by omega)
                                  (try rw [show ((0 : Int)).toNat = 0 from rfl] at hx177_0)
                                  (try rw [Addr.add_zero'] at hx177_0)
                                  replace p177 := eq_true p177
                                  replace q177 := eq_true q177
                                  refine start_ (n := 14) (S := fun w' => w'.cell? ⟨gb173, 0, none⟩ = some (.int .i64 t171) ∧ w'.cell? ⟨gb173, 1, none⟩ = some (.int .i64 t172) ∧ w'.cell? ad177 = some (.int .i64 (rd t174 0))) (ds := []) #[false, false, false, false, false, false, false, false, false, false, false, false, false, false] (by kernel_rfl) rfl rfl ⟨(blk_cell BK173.out 0).trans rfl, (blk_cell BK173.out 1).trans rfl, hx177_0⟩ (fun hHeld => ?_); refine with_tabW laws_FnClocks.tab5 laws_FnClocks.bits5 (fun HT_ HW_ => ?_)
                                  generalize w36.drew = w37 at HO176 BK173 HB hx177_0 hHeld ⊢
                                  refine pure_ (i := 0) (N := some 21) (v := ?_) (a' := ?_) #[true, false, false, false, false, false, false, false, false, false, false, false, false, false] rfl rfl (any_of HT_.out (by kernel_rfl)) (fun _ _ _ h => h) (Or.inl ⟨by rfl, ?_⟩) ?_ ?_
                                  rotate_left
                                  · intro w'
                                    go_simp
                                    with_reducible rfl
                                  rotate_left
                                  · simp only [Act.put, List.setIfInBounds_toArray, List.set_cons_zero, List.set_cons_succ, i64_w, i32_w]
                                    rfl
                                  refine pure_ (i := 2) (N := some 23) (v := ?_) (a' := ?_) #[true, false, true, false, false, false, false, false, false, false, false, false, false, false] rfl rfl (any_of HT_.out (by kernel_rfl)) (fun _ _ _ h => h) (Or.inl ⟨by rfl, ?_⟩) ?_ ?_
                                  rotate_left
                                  · intro w'
                                    go_simp
                                    with_reducible rfl
                                  rotate_left
                                  · simp only [Act.put, List.setIfInBounds_toArray, List.set_cons_zero, List.set_cons_succ, i64_w, i32_w]
                                    rfl
                                  refine pure_ (i := 3) (N := some 24) (v := ?_) (a' := ?_) #[true, false, true, true, false, false, false, false, false, false, false, false, false, false] rfl rfl (any_of HT_.out (by kernel_rfl)) (fun _ _ _ h => h) (Or.inl ⟨by rfl, ?_⟩) ?_ ?_
                                  rotate_left
                                  · intro w'
                                    go_simp
                                    with_reducible rfl
                                  rotate_left
                                  · simp only [Act.put, List.setIfInBounds_toArray, List.set_cons_zero, List.set_cons_succ, i64_w, i32_w]
                                    rfl
                                  refine pure_ (i := 5) (N := some 26) (v := ?_) (a' := ?_) #[true, false, true, true, false, true, false, false, false, false, false, false, false, false] rfl rfl (any_of HT_.out (by kernel_rfl)) (fun _ _ _ h => h) (Or.inl ⟨by rfl, ?_⟩) ?_ ?_
                                  rotate_left
                                  · intro w'
                                    go_simp
                                    with_reducible rfl
                                  rotate_left
                                  · simp only [Act.put, List.setIfInBounds_toArray, List.set_cons_zero, List.set_cons_succ, i64_w, i32_w]
                                    rfl
                                  refine pure_ (i := 7) (N := some 28) (v := ?_) (a' := ?_) #[true, false, true, true, false, true, false, true, false, false, false, false, false, false] rfl rfl (any_of HT_.out (by kernel_rfl)) (fun _ _ _ h => h) (Or.inl ⟨by rfl, ?_⟩) ?_ ?_
                                  rotate_left
                                  · intro w'
                                    go_simp
                                    with_reducible rfl
                                  rotate_left
                                  · simp only [Act.put, List.setIfInBounds_toArray, List.set_cons_zero, List.set_cons_succ, i64_w, i32_w]
                                    rfl
                                  refine take_ (i := 1) (N := some 22) (v := ?_) (a' := ?_) #[true, true, true, true, false, true, false, true, false, false, false, false, false, false] rfl rfl (take_ofW HT_.out HW_.out (by kernel_rfl)) (fun _ _ _ h => h) (Or.inl ⟨by rfl, ?_⟩) hHeld ?_ ?_
                                  rotate_left
                                  · rintro w' ⟨s0, s1, s2⟩
                                    go_simp
                                    with_reducible rfl
                                  rotate_left
                                  · simp only [Act.put, List.setIfInBounds_toArray, List.set_cons_zero, List.set_cons_succ, i64_w, i32_w]
                                    rfl
                                  refine take_ (i := 4) (N := some 25) (v := ?_) (a' := ?_) #[true, true, true, true, true, true, false, true, false, false, false, false, false, false] rfl rfl (take_ofW HT_.out HW_.out (by kernel_rfl)) (fun _ _ _ h => h) (Or.inl ⟨by rfl, ?_⟩) hHeld ?_ ?_
                                  rotate_left
                                  · rintro w' ⟨s0, s1, s2⟩
                                    go_simp
                                    with_reducible rfl
                                  rotate_left
                                  · simp only [Act.put, List.setIfInBounds_toArray, List.set_cons_zero, List.set_cons_succ, i64_w, i32_w]
                                    rfl
                                  refine take_ (i := 6) (N := some 27) (v := ?_) (a' := ?_) #[true, true, true, true, true, true, true, true, false, false, false, false, false, false] rfl rfl (take_ofW HT_.out HW_.out (by kernel_rfl)) (fun _ _ _ h => h) (Or.inl ⟨by rfl, ?_⟩) hHeld ?_ ?_
                                  rotate_left
                                  · rintro w' ⟨s0, s1, s2⟩
                                    go_simp
                                    with_reducible rfl
                                  rotate_left
                                  · simp only [Act.put, List.setIfInBounds_toArray, List.set_cons_zero, List.set_cons_succ, i64_w, i32_w]
                                    rfl
                                  refine take_ (i := 8) (N := some 29) (v := ?_) (a' := ?_) #[true, true, true, true, true, true, true, true, true, false, false, false, false, false] rfl rfl (take_ofW HT_.out HW_.out (by kernel_rfl)) (fun _ _ _ h => h) (Or.inl ⟨by rfl, ?_⟩) hHeld ?_ ?_
                                  rotate_left
                                  · rintro w' ⟨s0, s1, s2⟩
                                    go_simp
                                    with_reducible rfl
                                  rotate_left
                                  · simp only [Act.put, List.setIfInBounds_toArray, List.set_cons_zero, List.set_cons_succ, i64_w, i32_w]
                                    rfl
                                  refine pure_ (i := 9) (N := some 30) (v := ?_) (a' := ?_) #[true, true, true, true, true, true, true, true, true, true, false, false, false, false] rfl rfl (any_of HT_.out (by kernel_rfl)) (fun _ _ _ h => h) (Or.inl ⟨by rfl, ?_⟩) ?_ ?_
                                  rotate_left
                                  · intro w'
                                    go_simp
                                    with_reducible rfl
                                  rotate_left
                                  · simp only [Act.put, List.setIfInBounds_toArray, List.set_cons_zero, List.set_cons_succ, i64_w, i32_w]
                                    rfl
                                  refine pure_ (i := 10) (N := some 31) (v := ?_) (a' := ?_) #[true, true, true, true, true, true, true, true, true, true, true, false, false, false] rfl rfl (any_of HT_.out (by kernel_rfl)) (fun _ _ _ h => h) (Or.inl ⟨by rfl, ?_⟩) ?_ ?_
                                  rotate_left
                                  · intro w'
                                    go_simp
                                    with_reducible rfl
                                  rotate_left
                                  · simp only [Act.put, List.setIfInBounds_toArray, List.set_cons_zero, List.set_cons_succ, i64_w, i32_w]
                                    rfl
                                  refine pure_ (i := 11) (N := some 32) (v := ?_) (a' := ?_) #[true, true, true, true, true, true, true, true, true, true, true, true, false, false] rfl rfl (any_of HT_.out (by kernel_rfl)) (fun _ _ _ h => h) (Or.inl ⟨by rfl, ?_⟩) ?_ ?_
                                  rotate_left
                                  · intro w'
                                    go_simp
                                    with_reducible rfl
                                  rotate_left
                                  · simp only [Act.put, List.setIfInBounds_toArray, List.set_cons_zero, List.set_cons_succ, i64_w, i32_w]
                                    rfl
                                  refine pure_ (i := 12) (N := some 33) (v := ?_) (a' := ?_) #[true, true, true, true, true, true, true, true, true, true, true, true, true, false] rfl rfl (any_of HT_.out (by kernel_rfl)) (fun _ _ _ h => h) (Or.inl ⟨by rfl, ?_⟩) ?_ ?_
                                  rotate_left
                                  · intro w'
                                    go_simp
                                    with_reducible rfl
                                  rotate_left
                                  · simp only [Act.put, List.setIfInBounds_toArray, List.set_cons_zero, List.set_cons_succ, i64_w, i32_w]
                                    rfl
                                  refine pure_ (i := 13) (N := some 5) (v := ?_) (a' := ?_) #[true, true, true, true, true, true, true, true, true, true, true, true, true, true] rfl rfl (any_of HT_.out (by kernel_rfl)) (fun _ _ _ h => h) (Or.inl ⟨by rfl, ?_⟩) ?_ ?_
                                  rotate_left
                                  · intro w'
                                    go_simp
                                    with_reducible rfl
                                  rotate_left
                                  · simp only [Act.put, List.setIfInBounds_toArray, List.set_cons_zero, List.set_cons_succ, i64_w, i32_w]
                                    rfl
                                  refine done_ (done_of HT_.out (by kernel_rfl)) ?_
                                  try go_wp2
                                  have n0_ := Aside0.mk (Kd.R_drew HO176.out)
                                  have n1_ := Aside0.mk (blk_drew BK173.out)
                                  have n2_ := Aside0.mk (below_drew1 HB.out)
                                  clear HO176
                                  clear BK173
                                  clear HB
                                  have HO176 := n0_
                                  have BK173 := n1_
                                  have HB := n2_
                                  clear n0_ n1_ n2_
                                  have p178 : 0 ≤ (1 : Int) := (by omega)
                                  have q178 : 1 < (t174.length : Int) := of_decide_eq_true (by first | (with_reducible assumption) | assumption)
                                  obtain ⟨ad178, e178, hx178_0⟩ := Kd.at_int (Kd.R_reads' HO176.out).2.2 1 p178 q178
                                  obtain rfl : ad177 = ad178 := (by injection e178)
                                  (try simp only [show (1 : Int).toNat = 1 from rfl, Nat.reduceMul, Nat.reduceEqDiff, Go.Addr.add, ↓reduceIte] at hx178_0)
                                  have qi178 : (1 < t174.length) = True := eq_true (by omega)
                                  (try rw [show ((1 : Int)).toNat = 1 from rfl] at hx178_0)
                                  replace p178 := eq_true p178
                                  replace q178 := eq_true q178
                                  refine start_ (n := 7) (S := fun w' => w'.cell? ⟨gb173, 0, none⟩ = some (.int .i64 t171) ∧ w'.cell? ⟨gb173, 1, none⟩ = some (.int .i64 t172) ∧ w'.cell? ⟨ad177.block, ad177.off + 1, none⟩ = some (.int .i64 (rd t174 1))) (ds := []) #[false, false, false, false, false, false, false] (by kernel_rfl) rfl rfl ⟨(blk_cell BK173.out 0).trans rfl, (blk_cell BK173.out 1).trans rfl, hx178_0⟩ (fun hHeld => ?_)
                                  generalize w37.drew = w39 at HO176 BK173 HB hx178_0 hHeld ⊢
                                  refine pure_ (i := 1) (N := some 35) (v := ?_) (a' := ?_) #[false, true, false, false, false, false, false] rfl rfl (by kernel_rfl) (fun _ _ _ h => h) (Or.inl ⟨by rfl, ?_⟩) ?_ ?_
                                  rotate_left
                                  · intro w'
                                    go_simp
                                    with_reducible rfl
                                  rotate_left
                                  · simp only [Act.put, List.setIfInBounds_toArray, List.set_cons_zero, List.set_cons_succ, i64_w, i32_w]
                                    rfl
                                  refine pure_ (i := 2) (N := some 36) (v := ?_) (a' := ?_) #[false, true, true, false, false, false, false] rfl rfl (by kernel_rfl) (fun _ _ _ h => h) (Or.inl ⟨by rfl, ?_⟩) ?_ ?_
                                  rotate_left
                                  · intro w'
                                    go_simp
                                    with_reducible rfl
                                  rotate_left
                                  · simp only [Act.put, List.setIfInBounds_toArray, List.set_cons_zero, List.set_cons_succ, i64_w, i32_w]
                                    rfl
                                  refine take_ (i := 0) (N := some 34) (v := ?_) (a' := ?_) #[true, true, true, false, false, false, false] rfl rfl (by kernel_rfl) (fun _ _ _ h => h) (Or.inl ⟨by rfl, ?_⟩) hHeld ?_ ?_
                                  rotate_left
                                  · rintro w' ⟨s0, s1, s2⟩
                                    go_simp
                                    with_reducible rfl
                                  rotate_left
                                  · simp only [Act.put, List.setIfInBounds_toArray, List.set_cons_zero, List.set_cons_succ, i64_w, i32_w]
                                    rfl
                                  refine take_ (i := 3) (N := some 37) (v := ?_) (a' := ?_) #[true, true, true, true, false, false, false] rfl rfl (by kernel_rfl) (fun _ _ _ h => h) (Or.inl ⟨by rfl, ?_⟩) hHeld ?_ ?_
                                  rotate_left
                                  · rintro w' ⟨s0, s1, s2⟩
                                    go_simp
                                    with_reducible rfl
                                  rotate_left
                                  · simp only [Act.put, List.setIfInBounds_toArray, List.set_cons_zero, List.set_cons_succ, i64_w, i32_w]
                                    rfl
                                  refine join_ (σ := Nat) 1 #[true, true, true, true, true, true, false] (fun s_ => [(38, .agg #[.int .i64 t179, .int .i64 t180]), (6, .pointer (some ⟨s_, 0, none⟩))]) (fun s_ w' => (w'.cell? ⟨gb173, 0, none⟩ = some (.int .i64 t171) ∧ w'.cell? ⟨gb173, 1, none⟩ = some (.int .i64 t172) ∧ w'.cell? ⟨ad177.block, ad177.off + 1, none⟩ = some (.int .i64 (rd t174 1))) ∧ (Kd.R (Kd.int .i64) 3 w' w.heap.size (fun _ => True) (.slice (some ad177) t174.length co38) t174) ∧ (w'.heap[gb173]? = some (.cells #[.int .i64 t171, .int .i64 t172] 25 (0, 0))) ∧ (w'.heap[s_]? = some (.cells #[.int .i64 0, .int .i64 0] 25 (0, 0))) ∧ (w.heap.size ≤ s_) ∧ (w.heap.size ≤ s_) ∧ (gb173 ≠ s_) ∧ (s_ ≠ gb173) ∧ (Below w.heap.size w w')) ?_ ?_
                                  rotate_left
                                  · intro hCont
                                    refine two_ (i := 4) (j := 5) (Ni := some 38) (Nj := some 6) #[true, true, true, true, true, false, false] #[true, true, true, true, false, true, false] rfl rfl rfl rfl (by kernel_rfl) (by decide) (by decide) (fun K hK => ?_) (fun K hK => ?_)
                                    · skip
                                      refine goes_ Try.func35 (by kernel_rfl) rfl #[.agg #[.int .i64 t171, .int .i64 t172], .int .i64 (rd t174 1)] (by rfl) rfl rfl (by (try simp only [List.map_toArray, List.map_cons, List.map_nil]); first | done | rfl | (simp only [List.length_drop, List.length_take]; rfl)) ?_
                                      with_reducible refine (impl_PassOn.calls t171 t172 (rd t174 1) t179 t180 _ A9.out).mono ?_
                                      rintro e w40 ⟨rfl, hb⟩
                                      have HS2_ := (hb.cell (World.block_lt_of_cell? _ _ (hHeld.2.2))).trans (hHeld.2.2)
                                      refine ⟨_, rfl, ?_⟩
                                      have n0_ := Aside0.mk (Kd.R_below (by (with_reducible repeat (first | apply Kd.R_alloc | apply Kd.R_drewN | apply Kd.R_drew)); exact HO176.out) hb)
                                      have n1_ := Aside0.mk (blk_below (g := gb173) (o := .cells #[.int .i64 t171, .int .i64 t172] 25 (0, 0)) (by (with_reducible repeat (first | refine blk_drewN ?_ _ | refine blk_drew ?_ | refine blk_alloc ?_ _)); exact BK173.out) hb)
                                      have n2_ := Aside0.mk (below_step (by repeat (first | (with_reducible first | exact HB.out | apply below_alloc | apply pw_below_drewN | apply below_drew1 | refine below_set ?_ GE173.out) | exact HB.out)) hb)
                                      clear HO176
                                      clear BK173
                                      clear HB
                                      have HO176 := n0_
                                      have BK173 := n1_
                                      have HB := n2_
                                      clear n0_ n1_ n2_
                                      (try clear hb)
                                      (try clear hb2)
                                      (try clear hk)
                                      (try clear hi)
                                      refine hK.out _ _ ⟨(blk_cell BK173.out 0).trans rfl, (blk_cell BK173.out 1).trans rfl, HS2_⟩ (fun hHeld => ?_)
                                      clear hK K
                                      refine norm_ (a' := ?_) ?_ ?_
                                      rotate_left
                                      · show Act.put _ (some 38) _ = _
                                        simp only [Act.put, List.setIfInBounds_toArray, List.set_cons_zero, List.set_cons_succ, i64_w, i32_w]
                                        rfl
                                      refine one_ (i := 5) (N := some 6) #[true, true, true, true, true, true, false] rfl rfl (by kernel_rfl) (by decide) (fun K hK => ?_)
                                      refine box_step ?hg (N := 6) ?hd (cs := #[.int .i64 0, .int .i64 0]) (t := 25) ?hr ?_; (case hd => rfl); (case hg => rfl); (case hr => first | (go_simp; done) | (go_simp; rfl))
                                      intro gb181 hg w41 hbox hb
                                      have HS2_ := (hb.cell (World.block_lt_of_cell? _ _ (hHeld.2.2))).trans (hHeld.2.2)
                                      have n0_ := Aside0.mk (Kd.R_below (by (with_reducible repeat (first | apply Kd.R_alloc | apply Kd.R_drewN | apply Kd.R_drew)); exact HO176.out) hb)
                                      have n1_ := Aside0.mk (blk_below (g := gb173) (o := .cells #[.int .i64 t171, .int .i64 t172] 25 (0, 0)) (by (with_reducible repeat (first | refine blk_drewN ?_ _ | refine blk_drew ?_ | refine blk_alloc ?_ _)); exact BK173.out) hb)
                                      have n2_ := Aside0.mk (below_step (by repeat (first | (with_reducible first | exact HB.out | apply below_alloc | apply pw_below_drewN | apply below_drew1 | refine below_set ?_ GE173.out) | exact HB.out)) hb)
                                      have n3_ := Aside0.mk (hbox)
                                      have n4_ := Aside0.mk ((by rw [hg]; exact (below_size (by repeat (first | (with_reducible first | exact HB.out | apply below_alloc | apply pw_below_drewN | apply below_drew1 | refine below_set ?_ GE173.out) | exact HB.out))) : w.heap.size ≤ gb181))
                                      have n5_ := Aside0.mk ((by rw [hg]; exact (below_size (by repeat (first | (with_reducible first | exact HB.out | apply below_alloc | apply pw_below_drewN | apply below_drew1 | refine below_set ?_ GE173.out) | exact HB.out))) : w.heap.size ≤ gb181))
                                      have n6_ := Aside0.mk ((by rw [hg]; exact Nat.ne_of_lt (blk_lt (g := gb173) (o := .cells #[.int .i64 t171, .int .i64 t172] 25 (0, 0)) (by (with_reducible repeat (first | refine blk_drewN ?_ _ | refine blk_drew ?_ | refine blk_alloc ?_ _)); exact BK173.out)) : gb173 ≠ gb181))
                                      have n7_ := Aside0.mk ((by rw [hg]; exact Nat.ne_of_gt (blk_lt (g := gb173) (o := .cells #[.int .i64 t171, .int .i64 t172] 25 (0, 0)) (by (with_reducible repeat (first | refine blk_drewN ?_ _ | refine blk_drew ?_ | refine blk_alloc ?_ _)); exact BK173.out)) : gb181 ≠ gb173))
                                      clear HO176
                                      clear BK173
                                      clear HB
                                      have HO176 := n0_
                                      have BK173 := n1_
                                      have HB := n2_
                                      have BK181 := n3_
                                      have GW181 := n4_
                                      have GE181 := n5_
                                      have NB173_181 := n6_
                                      have NB181_173 := n7_
                                      clear n0_ n1_ n2_ n3_ n4_ n5_ n6_ n7_
                                      clear hb hbox hg
                                      refine hK.out _ _ ⟨(blk_cell BK173.out 0).trans rfl, (blk_cell BK173.out 1).trans rfl, HS2_⟩ (fun hHeld => ?_)
                                      clear hK K
                                      refine norm_ (a' := ?_) ?_ ?_
                                      rotate_left
                                      · show Act.put _ (some 6) _ = _
                                        simp only [Act.put, List.setIfInBounds_toArray, List.set_cons_zero, List.set_cons_succ, i64_w, i32_w]
                                        rfl
                                      exact norm_ (by simp only [putAll, Act.put, List.setIfInBounds_toArray, List.set_cons_zero, List.set_cons_succ]) (hCont (gb181) _ ⟨hHeld, (by (with_reducible repeat (first | apply Kd.R_alloc | apply Kd.R_drewN | apply Kd.R_drew)); exact HO176.out), (by (with_reducible repeat (first | refine blk_drewN ?_ _ | refine blk_drew ?_ | refine blk_alloc ?_ _)); exact BK173.out), (by (with_reducible repeat (first | refine blk_drewN ?_ _ | refine blk_drew ?_ | refine blk_alloc ?_ _)); exact BK181.out), GW181.out, GE181.out, NB173_181.out, NB181_173.out, (by repeat (first | (with_reducible first | exact HB.out | apply below_alloc | apply pw_below_drewN | apply below_drew1 | refine below_set ?_ GE173.out | refine below_set ?_ GE181.out) | exact HB.out))⟩)
                                    · skip
                                      refine box_step ?hg (N := 6) ?hd (cs := #[.int .i64 0, .int .i64 0]) (t := 25) ?hr ?_; (case hd => rfl); (case hg => rfl); (case hr => first | (go_simp; done) | (go_simp; rfl))
                                      intro gb181 hg w40 hbox hb
                                      have HS2_ := (hb.cell (World.block_lt_of_cell? _ _ (hHeld.2.2))).trans (hHeld.2.2)
                                      have n0_ := Aside0.mk (Kd.R_below (by (with_reducible repeat (first | apply Kd.R_alloc | apply Kd.R_drewN | apply Kd.R_drew)); exact HO176.out) hb)
                                      have n1_ := Aside0.mk (blk_below (g := gb173) (o := .cells #[.int .i64 t171, .int .i64 t172] 25 (0, 0)) (by (with_reducible repeat (first | refine blk_drewN ?_ _ | refine blk_drew ?_ | refine blk_alloc ?_ _)); exact BK173.out) hb)
                                      have n2_ := Aside0.mk (below_step (by repeat (first | (with_reducible first | exact HB.out | apply below_alloc | apply pw_below_drewN | apply below_drew1 | refine below_set ?_ GE173.out) | exact HB.out)) hb)
                                      have n3_ := Aside0.mk (hbox)
                                      have n4_ := Aside0.mk ((by rw [hg]; exact (below_size (by repeat (first | (with_reducible first | exact HB.out | apply below_alloc | apply pw_below_drewN | apply below_drew1 | refine below_set ?_ GE173.out) | exact HB.out))) : w.heap.size ≤ gb181))
                                      have n5_ := Aside0.mk ((by rw [hg]; exact (below_size (by repeat (first | (with_reducible first | exact HB.out | apply below_alloc | apply pw_below_drewN | apply below_drew1 | refine below_set ?_ GE173.out) | exact HB.out))) : w.heap.size ≤ gb181))
                                      have n6_ := Aside0.mk ((by rw [hg]; exact Nat.ne_of_lt (blk_lt (g := gb173) (o := .cells #[.int .i64 t171, .int .i64 t172] 25 (0, 0)) (by (with_reducible repeat (first | refine blk_drewN ?_ _ | refine blk_drew ?_ | refine blk_alloc ?_ _)); exact BK173.out)) : gb173 ≠ gb181))
                                      have n7_ := Aside0.mk ((by rw [hg]; exact Nat.ne_of_gt (blk_lt (g := gb173) (o := .cells #[.int .i64 t171, .int .i64 t172] 25 (0, 0)) (by (with_reducible repeat (first | refine blk_drewN ?_ _ | refine blk_drew ?_ | refine blk_alloc ?_ _)); exact BK173.out)) : gb181 ≠ gb173))
                                      clear HO176
                                      clear BK173
                                      clear HB
                                      have HO176 := n0_
                                      have BK173 := n1_
                                      have HB := n2_
                                      have BK181 := n3_
                                      have GW181 := n4_
                                      have GE181 := n5_
                                      have NB173_181 := n6_
                                      have NB181_173 := n7_
                                      clear n0_ n1_ n2_ n3_ n4_ n5_ n6_ n7_
                                      clear hb hbox hg
                                      refine hK.out _ _ ⟨(blk_cell BK173.out 0).trans rfl, (blk_cell BK173.out 1).trans rfl, HS2_⟩ (fun hHeld => ?_)
                                      clear hK K
                                      refine norm_ (a' := ?_) ?_ ?_
                                      rotate_left
                                      · show Act.put _ (some 6) _ = _
                                        simp only [Act.put, List.setIfInBounds_toArray, List.set_cons_zero, List.set_cons_succ, i64_w, i32_w]
                                        rfl
                                      refine one_ (i := 4) (N := some 38) #[true, true, true, true, true, true, false] rfl rfl (by kernel_rfl) (by decide) (fun K hK => ?_)
                                      refine goes_ Try.func35 (by kernel_rfl) rfl #[.agg #[.int .i64 t171, .int .i64 t172], .int .i64 (rd t174 1)] (by rfl) rfl rfl (by (try simp only [List.map_toArray, List.map_cons, List.map_nil]); first | done | rfl | (simp only [List.length_drop, List.length_take]; rfl)) ?_
                                      with_reducible refine (impl_PassOn.calls t171 t172 (rd t174 1) t179 t180 _ A9.out).mono ?_
                                      rintro e w41 ⟨rfl, hb⟩
                                      have HS2_ := (hb.cell (World.block_lt_of_cell? _ _ (hHeld.2.2))).trans (hHeld.2.2)
                                      refine ⟨_, rfl, ?_⟩
                                      have n0_ := Aside0.mk (Kd.R_below (by (with_reducible repeat (first | apply Kd.R_alloc | apply Kd.R_drewN | apply Kd.R_drew)); exact HO176.out) hb)
                                      have n1_ := Aside0.mk (blk_below (g := gb173) (o := .cells #[.int .i64 t171, .int .i64 t172] 25 (0, 0)) (by (with_reducible repeat (first | refine blk_drewN ?_ _ | refine blk_drew ?_ | refine blk_alloc ?_ _)); exact BK173.out) hb)
                                      have n2_ := Aside0.mk (blk_below (g := gb181) (o := .cells #[.int .i64 0, .int .i64 0] 25 (0, 0)) (by (with_reducible repeat (first | refine blk_drewN ?_ _ | refine blk_drew ?_ | refine blk_alloc ?_ _)); exact BK181.out) hb)
                                      have n3_ := Aside0.mk (below_step (by repeat (first | (with_reducible first | exact HB.out | apply below_alloc | apply pw_below_drewN | apply below_drew1 | refine below_set ?_ GE173.out | refine below_set ?_ GE181.out) | exact HB.out)) hb)
                                      clear HO176
                                      clear BK173
                                      clear BK181
                                      clear HB
                                      have HO176 := n0_
                                      have BK173 := n1_
                                      have BK181 := n2_
                                      have HB := n3_
                                      clear n0_ n1_ n2_ n3_
                                      (try clear hb)
                                      (try clear hb2)
                                      (try clear hk)
                                      (try clear hi)
                                      refine hK.out _ _ ⟨(blk_cell BK173.out 0).trans rfl, (blk_cell BK173.out 1).trans rfl, HS2_⟩ (fun hHeld => ?_)
                                      clear hK K
                                      refine norm_ (a' := ?_) ?_ ?_
                                      rotate_left
                                      · show Act.put _ (some 38) _ = _
                                        simp only [Act.put, List.setIfInBounds_toArray, List.set_cons_zero, List.set_cons_succ, i64_w, i32_w]
                                        rfl
                                      exact norm_ (by simp only [putAll, Act.put, List.setIfInBounds_toArray, List.set_cons_zero, List.set_cons_succ]) (hCont (gb181) _ ⟨hHeld, (by (with_reducible repeat (first | apply Kd.R_alloc | apply Kd.R_drewN | apply Kd.R_drew)); exact HO176.out), (by (with_reducible repeat (first | refine blk_drewN ?_ _ | refine blk_drew ?_ | refine blk_alloc ?_ _)); exact BK173.out), (by (with_reducible repeat (first | refine blk_drewN ?_ _ | refine blk_drew ?_ | refine blk_alloc ?_ _)); exact BK181.out), GW181.out, GE181.out, NB173_181.out, NB181_173.out, (by repeat (first | (with_reducible first | exact HB.out | apply below_alloc | apply pw_below_drewN | apply below_drew1 | refine below_set ?_ GE173.out | refine below_set ?_ GE181.out) | exact HB.out))⟩)
                                  rintro gb181 w42 ⟨hS_, h0_, h1_, h2_, h3_, h4_, h5_, h6_, h7_⟩
                                  have n0_ : Aside0 (Kd.R (Kd.int .i64) 3 w42 w.heap.size (fun _ => True) (.slice (some ad177) t174.length co38) t174) := ⟨h0_⟩
                                  have n1_ : Aside0 (w42.heap[gb173]? = some (.cells #[.int .i64 t171, .int .i64 t172] 25 (0, 0))) := ⟨h1_⟩
                                  have n2_ : Aside0 (w42.heap[gb181]? = some (.cells #[.int .i64 0, .int .i64 0] 25 (0, 0))) := ⟨h2_⟩
                                  have n3_ : Aside0 (w.heap.size ≤ gb181) := ⟨h3_⟩
                                  have n4_ : Aside0 (w.heap.size ≤ gb181) := ⟨h4_⟩
                                  have n5_ : Aside0 (gb173 ≠ gb181) := ⟨h5_⟩
                                  have n6_ : Aside0 (gb181 ≠ gb173) := ⟨h6_⟩
                                  have n7_ : Aside0 (Below w.heap.size w w42) := ⟨h7_⟩
                                  clear HO176
                                  clear BK173
                                  clear HB
                                  clear h0_ h1_ h2_ h3_ h4_ h5_ h6_ h7_
                                  have HO176 := n0_
                                  have BK173 := n1_
                                  have BK181 := n2_
                                  have GW181 := n3_
                                  have GE181 := n4_
                                  have NB173_181 := n5_
                                  have NB181_173 := n6_
                                  have HB := n7_
                                  clear n0_ n1_ n2_ n3_ n4_ n5_ n6_ n7_
                                  have hHeld : w42.cell? ⟨gb173, 0, none⟩ = some (.int .i64 t171) ∧ w42.cell? ⟨gb173, 1, none⟩ = some (.int .i64 t172) ∧ w42.cell? ⟨ad177.block, ad177.off + 1, none⟩ = some (.int .i64 (rd t174 1)) := hS_
                                  refine norm_ (a' := ?_) ?_ ?_
                                  rotate_left
                                  · simp only [putAll, Act.put, List.setIfInBounds_toArray, List.set_cons_zero, List.set_cons_succ]
                                    rfl
                                  refine one_ (i := 6) (N := none) #[true, true, true, true, true, true, true] rfl rfl (by kernel_rfl) (by decide) (fun K hK => ?_)
                                  have hs43 : w42.cell? ⟨gb181, 0, none⟩ = some (.int .i64 0) := (blk_cell BK181.out 0).trans rfl
                                  have hfs43 := blk_frozen BK181.out 0
                                  have hns43_0 := NB173_181.out
                                  have hms43_0 := NB181_173.out
                                  have hs44 : w42.cell? ⟨gb181, 1, none⟩ = some (.int .i64 0) := (blk_cell BK181.out 1).trans rfl
                                  have hfs44 := blk_frozen BK181.out 1
                                  have hns44_0 := NB173_181.out
                                  have hms44_0 := NB181_173.out
                                  refine skip_ (w1 := ?_) (by rfl) rfl ?_ ?_
                                  rotate_left
                                  · go_simp
                                    rfl
                                  refine hK.out _ _ ⟨((cell_far (p := ⟨gb181, _, none⟩) NB173_181.out _).trans (((cell_far (p := ⟨gb181, _, none⟩) NB173_181.out _).trans (hHeld.1)))), ((cell_far (p := ⟨gb181, _, none⟩) NB173_181.out _).trans (((cell_far (p := ⟨gb181, _, none⟩) NB173_181.out _).trans (hHeld.2.1)))), ((cell_far (p := ⟨gb181, _, none⟩) (by first | exact Kd.own_blk (Kd.R_ne HO176.out BK181.out (by decide)) | (rw [add_block]; exact Kd.own_blk (Kd.R_ne HO176.out BK181.out (by decide))) | (show (Addr.add _ _).block ≠ _; rw [add_block]; exact Kd.own_blk (Kd.R_ne HO176.out BK181.out (by decide))) | (dsimp only; exact Kd.own_blk (Kd.R_ne HO176.out BK181.out (by decide)))) _).trans (((cell_far (p := ⟨gb181, _, none⟩) (by first | exact Kd.own_blk (Kd.R_ne HO176.out BK181.out (by decide)) | (rw [add_block]; exact Kd.own_blk (Kd.R_ne HO176.out BK181.out (by decide))) | (show (Addr.add _ _).block ≠ _; rw [add_block]; exact Kd.own_blk (Kd.R_ne HO176.out BK181.out (by decide))) | (dsimp only; exact Kd.own_blk (Kd.R_ne HO176.out BK181.out (by decide)))) _).trans (hHeld.2.2))))⟩ (fun hHeld => ?_)
                                  clear hK K
                                  refine done_ (by kernel_rfl) ?_
                                  have p182 : 0 ≤ (2 : Int) := (by omega)
                                  have q182 : 2 < (t174.length : Int) := of_decide_eq_true (by first | (with_reducible assumption) | assumption)
                                  obtain ⟨ad182, e182, hx182_0⟩ := Kd.at_int (Kd.R_reads' HO176.out).2.2 2 p182 q182
                                  obtain rfl : ad177 = ad182 := (by injection e182)
                                  (try simp only [show (2 : Int).toNat = 2 from rfl, Nat.reduceMul, Nat.reduceEqDiff, Go.Addr.add, ↓reduceIte] at hx182_0)
                                  have qi182 : (2 < t174.length) = True := eq_true (by omega)
                                  (try rw [show ((2 : Int)).toNat = 2 from rfl] at hx182_0)
                                  have hn182_0 : ad177.block ≠ gb181 := Kd.own_blk (Kd.R_ne HO176.out BK181.out (by decide))
                                  have hn182_1 : ad177.block ≠ gb181 := Kd.own_blk (Kd.R_ne HO176.out BK181.out (by decide))
                                  replace hx182_0 := (cell_far (p := ⟨gb181, 0, none⟩) (by first | (rw [add_block]; exact hn182_0) | (show (Addr.add _ _).block ≠ _; rw [add_block]; exact hn182_0) | exact hn182_0) (.int .i64 t179)).trans hx182_0
                                  replace hx182_0 := (cell_far (p := ⟨gb181, 1, none⟩) (by first | (rw [add_block]; exact hn182_1) | (show (Addr.add _ _).block ≠ _; rw [add_block]; exact hn182_1) | exact hn182_1) (.int .i64 t180)).trans hx182_0
                                  clear hn182_0
                                  clear hn182_1
                                  replace p182 := eq_true p182
                                  replace q182 := eq_true q182
                                  have p183 : 0 ≤ (3 : Int) := (by omega)
                                  have q183 : 3 < (t174.length : Int) := of_decide_eq_true (by first | (with_reducible assumption) | assumption)
                                  obtain ⟨ad183, e183, hx183_0⟩ := Kd.at_int (Kd.R_reads' HO176.out).2.2 3 p183 q183
                                  obtain rfl : ad177 = ad183 := (by injection e183)
                                  (try simp only [show (3 : Int).toNat = 3 from rfl, Nat.reduceMul, Nat.reduceEqDiff, Go.Addr.add, ↓reduceIte] at hx183_0)
                                  have qi183 : (3 < t174.length) = True := eq_true (by omega)
                                  (try rw [show ((3 : Int)).toNat = 3 from rfl] at hx183_0)
                                  have hn183_0 : ad177.block ≠ gb181 := Kd.own_blk (Kd.R_ne HO176.out BK181.out (by decide))
                                  have hn183_1 : ad177.block ≠ gb181 := Kd.own_blk (Kd.R_ne HO176.out BK181.out (by decide))
                                  replace hx183_0 := (cell_far (p := ⟨gb181, 0, none⟩) (by first | (rw [add_block]; exact hn183_0) | (show (Addr.add _ _).block ≠ _; rw [add_block]; exact hn183_0) | exact hn183_0) (.int .i64 t179)).trans hx183_0
                                  replace hx183_0 := (cell_far (p := ⟨gb181, 1, none⟩) (by first | (rw [add_block]; exact hn183_1) | (show (Addr.add _ _).block ≠ _; rw [add_block]; exact hn183_1) | exact hn183_1) (.int .i64 t180)).trans hx183_0
                                  clear hn183_0
                                  clear hn183_1
                                  replace p183 := eq_true p183
                                  replace q183 := eq_true q183
                                  have p184 : 0 ≤ (4 : Int) := (by omega)
                                  have q184 : 4 < (t174.length : Int) := of_decide_eq_true (by first | (with_reducible assumption) | assumption)
                                  obtain ⟨ad184, e184, hx184_0⟩ := Kd.at_int (Kd.R_reads' HO176.out).2.2 4 p184 q184
                                  obtain rfl : ad177 = ad184 := (by injection e184)
                                  (try simp only [show (4 : Int).toNat = 4 from rfl, Nat.reduceMul, Nat.reduceEqDiff, Go.Addr.add, ↓reduceIte] at hx184_0)
                                  have qi184 : (4 < t174.length) = True := eq_true (by omega)
                                  (try rw [show ((4 : Int)).toNat = 4 from rfl] at hx184_0)
                                  have hn184_0 : ad177.block ≠ gb181 := Kd.own_blk (Kd.R_ne HO176.out BK181.out (by decide))
                                  have hn184_1 : ad177.block ≠ gb181 := Kd.own_blk (Kd.R_ne HO176.out BK181.out (by decide))
                                  replace hx184_0 := (cell_far (p := ⟨gb181, 0, none⟩) (by first | (rw [add_block]; exact hn184_0) | (show (Addr.add _ _).block ≠ _; rw [add_block]; exact hn184_0) | exact hn184_0) (.int .i64 t179)).trans hx184_0
                                  replace hx184_0 := (cell_far (p := ⟨gb181, 1, none⟩) (by first | (rw [add_block]; exact hn184_1) | (show (Addr.add _ _).block ≠ _; rw [add_block]; exact hn184_1) | exact hn184_1) (.int .i64 t180)).trans hx184_0
                                  clear hn184_0
                                  clear hn184_1
                                  replace p184 := eq_true p184
                                  replace q184 := eq_true q184
                                  have hnb45 := NB181_173.out
                                  have hnc45 := NB173_181.out
                                  have hcz46_0 : w42.cell? ⟨gb181, 0, none⟩ = some (.int .i64 0) := (blk_cell BK181.out 0).trans rfl
                                  have hcz46_1 : w42.cell? ⟨gb181, 1, none⟩ = some (.int .i64 0) := (blk_cell BK181.out 1).trans rfl
                                  have hfz46_0 := blk_frozen BK181.out 0
                                  have hfz46_1 := blk_frozen BK181.out 1
                                  try go_wp2_with (first | ((with_reducible refine gate_callee (f := 33) rfl ?_); refine goesL_ (some 62) rfl rfl Try.func33 (by kernel_rfl) rfl #[.agg #[.int .i64 t179, .int .i64 t180], .int .i64 (Int.tmod (rd t174 2) 50), .int .i64 (wrap64 ((Int.tmod (rd t174 2) 50) + (Int.tmod (rd t174 3) 50)))] rfl (by (try simp only [List.map_toArray, List.map_cons, List.map_nil]); first | done | rfl | (simp only [List.length_drop, List.length_take]; rfl)) ?_; (with_reducible refine (impl_PassOff.calls t179 t180 (Int.tmod (rd t174 2) 50) (wrap64 ((Int.tmod (rd t174 2) 50) + (Int.tmod (rd t174 3) 50))) t185 t186 _ A14.out).mono ?_); rintro e w47 ⟨rfl, hb⟩; refine ⟨_, rfl, ?_⟩; have n0_ := Aside0.mk (Kd.R_below (by (with_reducible repeat (first | apply Kd.R_alloc | apply Kd.R_drewN | apply Kd.R_drew)); exact (Kd.R_mono (Kd.R_far (p := ⟨gb181, 1, none⟩) (Kd.R_far (p := ⟨gb181, 0, none⟩) (Kd.R_types HO176.out BK181.out (by decide)) (fun _ hk => hk.2) (.int .i64 t179)) (fun _ hk => hk.2) (.int .i64 t180)) (fun _ h_ => h_.1))) hb); have n1_ := Aside0.mk (blk_below (g := gb173) (o := .cells #[.int .i64 t171, .int .i64 t172] 25 (0, 0)) (by (with_reducible repeat (first | refine blk_drewN ?_ _ | refine blk_drew ?_ | refine blk_alloc ?_ _)); refine blk_far ?_ NB173_181.out _; (with_reducible repeat (first | refine blk_drewN ?_ _ | refine blk_drew ?_ | refine blk_alloc ?_ _)); refine blk_far ?_ NB173_181.out _; (with_reducible repeat (first | refine blk_drewN ?_ _ | refine blk_drew ?_ | refine blk_alloc ?_ _)); exact BK173.out) hb); have n2_ := Aside0.mk (blk_below (g := gb181) (o := .cells #[.int .i64 t179, .int .i64 t180] 25 (0, 0)) (by (with_reducible repeat (first | refine blk_drewN ?_ _ | refine blk_drew ?_ | refine blk_alloc ?_ _)); refine blk_put (cs := #[.int .i64 t179, .int .i64 0]) ?_ 1 _ rfl; (with_reducible repeat (first | refine blk_drewN ?_ _ | refine blk_drew ?_ | refine blk_alloc ?_ _)); refine blk_put (cs := #[.int .i64 0, .int .i64 0]) ?_ 0 _ rfl; (with_reducible repeat (first | refine blk_drewN ?_ _ | refine blk_drew ?_ | refine blk_alloc ?_ _)); exact BK181.out) hb); have n3_ := Aside0.mk (below_step (by repeat (first | (with_reducible first | exact HB.out | apply below_alloc | apply pw_below_drewN | apply below_drew1 | refine below_set ?_ GE173.out | refine below_set ?_ GE181.out) | exact HB.out)) hb); clear HO176; clear BK173; clear BK181; clear HB; have HO176 := n0_; have BK173 := n1_; have BK181 := n2_; have HB := n3_; clear n0_ n1_ n2_ n3_; (try clear hb); (try clear hb2); (try clear hk); (try clear hi)) | ((with_reducible refine gate_dst (N := 10) rfl ?_); refine box_event ?hg (N := 10) ?hd (cs := #[.int .i64 0, .int .i64 0]) (t := 25) ?hr ?_; (case hd => rfl); (case hg => rfl); (case hr => first | (go_simp; done) | (go_simp; rfl)); intro gb187 hg w48 hbox hb; have n0_ := Aside0.mk (Kd.R_below (by (with_reducible repeat (first | apply Kd.R_alloc | apply Kd.R_drewN | apply Kd.R_drew)); exact HO176.out) hb); have n1_ := Aside0.mk (blk_below (g := gb173) (o := .cells #[.int .i64 t171, .int .i64 t172] 25 (0, 0)) (by (with_reducible repeat (first | refine blk_drewN ?_ _ | refine blk_drew ?_ | refine blk_alloc ?_ _)); exact BK173.out) hb); have n2_ := Aside0.mk (blk_below (g := gb181) (o := .cells #[.int .i64 t179, .int .i64 t180] 25 (0, 0)) (by (with_reducible repeat (first | refine blk_drewN ?_ _ | refine blk_drew ?_ | refine blk_alloc ?_ _)); exact BK181.out) hb); have n3_ := Aside0.mk (below_step (by repeat (first | (with_reducible first | exact HB.out | apply below_alloc | apply pw_below_drewN | apply below_drew1 | refine below_set ?_ GE173.out | refine below_set ?_ GE181.out) | exact HB.out)) hb); have n4_ := Aside0.mk (hbox); have n5_ := Aside0.mk ((by rw [hg]; exact (below_size (by repeat (first | (with_reducible first | exact HB.out | apply below_alloc | apply pw_below_drewN | apply below_drew1 | refine below_set ?_ GE173.out | refine below_set ?_ GE181.out) | exact HB.out))) : w.heap.size ≤ gb187)); have n6_ := Aside0.mk ((by rw [hg]; exact (below_size (by repeat (first | (with_reducible first | exact HB.out | apply below_alloc | apply pw_below_drewN | apply below_drew1 | refine below_set ?_ GE173.out | refine below_set ?_ GE181.out) | exact HB.out))) : w.heap.size ≤ gb187)); have n7_ := Aside0.mk ((by rw [hg]; exact Nat.ne_of_lt (blk_lt (g := gb173) (o := .cells #[.int .i64 t171, .int .i64 t172] 25 (0, 0)) (by (with_reducible repeat (first | refine blk_drewN ?_ _ | refine blk_drew ?_ | refine blk_alloc ?_ _)); exact BK173.out)) : gb173 ≠ gb187)); have n8_ := Aside0.mk ((by rw [hg]; exact Nat.ne_of_gt (blk_lt (g := gb173) (o := .cells #[.int .i64 t171, .int .i64 t172] 25 (0, 0)) (by (with_reducible repeat (first | refine blk_drewN ?_ _ | refine blk_drew ?_ | refine blk_alloc ?_ _)); exact BK173.out)) : gb187 ≠ gb173)); have n9_ := Aside0.mk ((by rw [hg]; exact Nat.ne_of_lt (blk_lt (g := gb181) (o := .cells #[.int .i64 t179, .int .i64 t180] 25 (0, 0)) (by (with_reducible repeat (first | refine blk_drewN ?_ _ | refine blk_drew ?_ | refine blk_alloc ?_ _)); exact BK181.out)) : gb181 ≠ gb187)); have n10_ := Aside0.mk ((by rw [hg]; exact Nat.ne_of_gt (blk_lt (g := gb181) (o := .cells #[.int .i64 t179, .int .i64 t180] 25 (0, 0)) (by (with_reducible repeat (first | refine blk_drewN ?_ _ | refine blk_drew ?_ | refine blk_alloc ?_ _)); exact BK181.out)) : gb187 ≠ gb181)); clear HO176; clear BK173; clear BK181; clear HB; have HO176 := n0_; have BK173 := n1_; have BK181 := n2_; have HB := n3_; have BK187 := n4_; have GW187 := n5_; have GE187 := n6_; have NB173_187 := n7_; have NB187_173 := n8_; have NB181_187 := n9_; have NB187_181 := n10_; clear n0_ n1_ n2_ n3_ n4_ n5_ n6_ n7_ n8_ n9_ n10_; clear hb hbox hg; have hnb49 := NB187_173.out; have hnc49 := NB173_187.out; have hnb50 := NB187_181.out; have hnc50 := NB181_187.out; have hcz51_0 : w48.cell? ⟨gb187, 0, none⟩ = some (.int .i64 0) := (blk_cell BK187.out 0).trans rfl; have hcz51_1 : w48.cell? ⟨gb187, 1, none⟩ = some (.int .i64 0) := (blk_cell BK187.out 1).trans rfl; have hfz51_0 := blk_frozen BK187.out 0; have hfz51_1 := blk_frozen BK187.out 1; have p188 : 0 ≤ (1 : Int) := (by omega); have q188 : 1 < (t174.length : Int) := of_decide_eq_true (by first | (with_reducible assumption) | assumption); obtain ⟨ad188, e188, hx188_0⟩ := Kd.at_int (Kd.R_reads' HO176.out).2.2 1 p188 q188; obtain rfl : ad177 = ad188 := (by injection e188); (try simp only [show (1 : Int).toNat = 1 from rfl, Nat.reduceMul, Nat.reduceEqDiff, Go.Addr.add, ↓reduceIte] at hx188_0); have qi188 : (1 < t174.length) = True := eq_true (by omega); (try rw [show ((1 : Int)).toNat = 1 from rfl] at hx188_0); have hn188_0 : ad177.block ≠ gb187 := Kd.own_blk (Kd.R_ne HO176.out BK187.out (by decide)); have hn188_1 : ad177.block ≠ gb187 := Kd.own_blk (Kd.R_ne HO176.out BK187.out (by decide)); replace hx188_0 := (cell_far (p := ⟨gb187, 0, none⟩) (by first | (rw [add_block]; exact hn188_0) | (show (Addr.add _ _).block ≠ _; rw [add_block]; exact hn188_0) | exact hn188_0) (.int .i64 t185)).trans hx188_0; replace hx188_0 := (cell_far (p := ⟨gb187, 1, none⟩) (by first | (rw [add_block]; exact hn188_1) | (show (Addr.add _ _).block ≠ _; rw [add_block]; exact hn188_1) | exact hn188_1) (.int .i64 t186)).trans hx188_0; clear hn188_0; clear hn188_1; replace p188 := eq_true p188; replace q188 := eq_true q188))
                                  have n0_ : Aside0 (Kd.R (Kd.int .i64) 3 ((w48.setCell ⟨gb187, 0, none⟩ (.int .i64 t185)).setCell ⟨gb187, 1, none⟩ (.int .i64 t186)) w.heap.size (fun _ => True) (.slice (some ad177) t174.length co38) t174) := ⟨by (with_reducible repeat (first | apply Kd.R_alloc | apply Kd.R_drewN | apply Kd.R_drew)); exact Kd.R_mono (Kd.R_far (p := ⟨gb187, 1, none⟩) (Kd.R_far (p := ⟨gb187, 0, none⟩) (Kd.R_types HO176.out BK187.out (by decide)) (fun _ hk => hk.2) (.int .i64 t185)) (fun _ hk => hk.2) (.int .i64 t186)) (fun _ hk => trivial)⟩
                                  have n1_ : Aside0 (((w48.setCell ⟨gb187, 0, none⟩ (.int .i64 t185)).setCell ⟨gb187, 1, none⟩ (.int .i64 t186)).heap[gb173]? = some (.cells #[.int .i64 t171, .int .i64 t172] 25 (0, 0))) := ⟨by (with_reducible repeat (first | refine blk_drewN ?_ _ | refine blk_drew ?_ | refine blk_alloc ?_ _)); refine blk_far ?_ NB173_187.out _; (with_reducible repeat (first | refine blk_drewN ?_ _ | refine blk_drew ?_ | refine blk_alloc ?_ _)); refine blk_far ?_ NB173_187.out _; (with_reducible repeat (first | refine blk_drewN ?_ _ | refine blk_drew ?_ | refine blk_alloc ?_ _)); exact BK173.out⟩
                                  have n2_ : Aside0 (((w48.setCell ⟨gb187, 0, none⟩ (.int .i64 t185)).setCell ⟨gb187, 1, none⟩ (.int .i64 t186)).heap[gb181]? = some (.cells #[.int .i64 t179, .int .i64 t180] 25 (0, 0))) := ⟨by (with_reducible repeat (first | refine blk_drewN ?_ _ | refine blk_drew ?_ | refine blk_alloc ?_ _)); refine blk_far ?_ NB181_187.out _; (with_reducible repeat (first | refine blk_drewN ?_ _ | refine blk_drew ?_ | refine blk_alloc ?_ _)); refine blk_far ?_ NB181_187.out _; (with_reducible repeat (first | refine blk_drewN ?_ _ | refine blk_drew ?_ | refine blk_alloc ?_ _)); exact BK181.out⟩
                                  have n3_ : Aside0 (((w48.setCell ⟨gb187, 0, none⟩ (.int .i64 t185)).setCell ⟨gb187, 1, none⟩ (.int .i64 t186)).heap[gb187]? = some (.cells #[.int .i64 t185, .int .i64 t186] 25 (0, 0))) := ⟨by (with_reducible repeat (first | refine blk_drewN ?_ _ | refine blk_drew ?_ | refine blk_alloc ?_ _)); refine blk_put (cs := #[.int .i64 t185, .int .i64 0]) ?_ 1 _ rfl; (with_reducible repeat (first | refine blk_drewN ?_ _ | refine blk_drew ?_ | refine blk_alloc ?_ _)); refine blk_put (cs := #[.int .i64 0, .int .i64 0]) ?_ 0 _ rfl; (with_reducible repeat (first | refine blk_drewN ?_ _ | refine blk_drew ?_ | refine blk_alloc ?_ _)); exact BK187.out⟩
                                  have n4_ : Aside0 (Below w.heap.size w ((w48.setCell ⟨gb187, 0, none⟩ (.int .i64 t185)).setCell ⟨gb187, 1, none⟩ (.int .i64 t186))) := ⟨by repeat (first | (with_reducible first | exact HB.out | apply below_alloc | apply pw_below_drewN | apply below_drew1 | refine below_set ?_ GE173.out | refine below_set ?_ GE181.out | refine below_set ?_ GE187.out) | exact HB.out)⟩
                                  (try clear HO176)
                                  (try clear BK173)
                                  (try clear BK181)
                                  (try clear BK187)
                                  (try clear HB)
                                  generalize ((w48.setCell ⟨gb187, 0, none⟩ (.int .i64 t185)).setCell ⟨gb187, 1, none⟩ (.int .i64 t186)) = w52 at n0_ n1_ n2_ n3_ n4_ ⊢
                                  have HO176 := n0_
                                  have BK173 := n1_
                                  have BK181 := n2_
                                  have BK187 := n3_
                                  have HB := n4_
                                  clear n0_ n1_ n2_ n3_ n4_
                                  have n0_ := Aside0.mk (Kd.R_drew HO176.out)
                                  have n1_ := Aside0.mk (blk_drew BK173.out)
                                  have n2_ := Aside0.mk (blk_drew BK181.out)
                                  have n3_ := Aside0.mk (blk_drew BK187.out)
                                  have n4_ := Aside0.mk (below_drew1 HB.out)
                                  clear HO176
                                  clear BK173
                                  clear BK181
                                  clear BK187
                                  clear HB
                                  have HO176 := n0_
                                  have BK173 := n1_
                                  have BK181 := n2_
                                  have BK187 := n3_
                                  have HB := n4_
                                  clear n0_ n1_ n2_ n3_ n4_
                                  have p189 : 0 ≤ (5 : Int) := (by omega)
                                  have q189 : 5 < (t174.length : Int) := of_decide_eq_true (by first | (with_reducible assumption) | assumption)
                                  obtain ⟨ad189, e189, hx189_0⟩ := Kd.at_int (Kd.R_reads' HO176.out).2.2 5 p189 q189
                                  obtain rfl : ad177 = ad189 := (by injection e189)
                                  (try simp only [show (5 : Int).toNat = 5 from rfl, Nat.reduceMul, Nat.reduceEqDiff, Go.Addr.add, ↓reduceIte] at hx189_0)
                                  have qi189 : (5 < t174.length) = True := eq_true (by omega)
                                  (try rw [show ((5 : Int)).toNat = 5 from rfl] at hx189_0)
                                  replace p189 := eq_true p189
                                  replace q189 := eq_true q189
                                  have p190 : 0 ≤ (6 : Int) := (by omega)
                                  have q190 : 6 < (t174.length : Int) := of_decide_eq_true (by first | (with_reducible assumption) | assumption)
                                  obtain ⟨ad190, e190, hx190_0⟩ := Kd.at_int (Kd.R_reads' HO176.out).2.2 6 p190 q190
                                  obtain rfl : ad177 = ad190 := (by injection e190)
                                  (try simp only [show (6 : Int).toNat = 6 from rfl, Nat.reduceMul, Nat.reduceEqDiff, Go.Addr.add, ↓reduceIte] at hx190_0)
                                  have qi190 : (6 < t174.length) = True := eq_true (by omega)
                                  (try rw [show ((6 : Int)).toNat = 6 from rfl] at hx190_0)
                                  replace p190 := eq_true p190
                                  replace q190 := eq_true q190
                                  refine start_ (n := 16) (S := fun w' => w'.cell? ⟨ad177.block, ad177.off + 5, none⟩ = some (.int .i64 (rd t174 5)) ∧ w'.cell? ⟨ad177.block, ad177.off + 6, none⟩ = some (.int .i64 (rd t174 6))) (ds := []) #[false, false, false, false, false, false, false, false, false, false, false, false, false, false, false, false] (by kernel_rfl) rfl rfl ⟨hx189_0, hx190_0⟩ (fun hHeld => ?_); refine with_tabW laws_FnClocks.tab12 laws_FnClocks.bits12 (fun HT_ HW_ => ?_)
                                  generalize w52.drew = w53 at HO176 BK173 BK181 BK187 HB hx189_0 hx190_0 hHeld ⊢
                                  refine pure_ (i := 0) (N := some 70) (v := ?_) (a' := ?_) #[true, false, false, false, false, false, false, false, false, false, false, false, false, false, false, false] rfl rfl (any_of HT_.out (by kernel_rfl)) (fun _ _ _ h => h) (Or.inl ⟨by rfl, ?_⟩) ?_ ?_
                                  rotate_left
                                  · intro w'
                                    go_simp
                                    with_reducible rfl
                                  rotate_left
                                  · simp only [Act.put, List.setIfInBounds_toArray, List.set_cons_zero, List.set_cons_succ, i64_w, i32_w]
                                    rfl
                                  refine pure_ (i := 1) (N := some 71) (v := ?_) (a' := ?_) #[true, true, false, false, false, false, false, false, false, false, false, false, false, false, false, false] rfl rfl (any_of HT_.out (by kernel_rfl)) (fun _ _ _ h => h) (Or.inl ⟨by rfl, ?_⟩) ?_ ?_
                                  rotate_left
                                  · intro w'
                                    go_simp
                                    with_reducible rfl
                                  rotate_left
                                  · simp only [Act.put, List.setIfInBounds_toArray, List.set_cons_zero, List.set_cons_succ, i64_w, i32_w]
                                    rfl
                                  refine pure_ (i := 2) (N := some 72) (v := ?_) (a' := ?_) #[true, true, true, false, false, false, false, false, false, false, false, false, false, false, false, false] rfl rfl (any_of HT_.out (by kernel_rfl)) (fun _ _ _ h => h) (Or.inl ⟨by rfl, ?_⟩) ?_ ?_
                                  rotate_left
                                  · intro w'
                                    go_simp
                                    with_reducible rfl
                                  rotate_left
                                  · simp only [Act.put, List.setIfInBounds_toArray, List.set_cons_zero, List.set_cons_succ, i64_w, i32_w]
                                    rfl
                                  refine pure_ (i := 7) (N := some 77) (v := ?_) (a' := ?_) #[true, true, true, false, false, false, false, true, false, false, false, false, false, false, false, false] rfl rfl (any_of HT_.out (by kernel_rfl)) (fun _ _ _ h => h) (Or.inl ⟨by rfl, ?_⟩) ?_ ?_
                                  rotate_left
                                  · intro w'
                                    go_simp
                                    with_reducible rfl
                                  rotate_left
                                  · simp only [Act.put, List.setIfInBounds_toArray, List.set_cons_zero, List.set_cons_succ, i64_w, i32_w]
                                    rfl
                                  refine pure_ (i := 8) (N := some 78) (v := ?_) (a' := ?_) #[true, true, true, false, false, false, false, true, true, false, false, false, false, false, false, false] rfl rfl (any_of HT_.out (by kernel_rfl)) (fun _ _ _ h => h) (Or.inl ⟨by rfl, ?_⟩) ?_ ?_
                                  rotate_left
                                  · intro w'
                                    go_simp
                                    with_reducible rfl
                                  rotate_left
                                  · simp only [Act.put, List.setIfInBounds_toArray, List.set_cons_zero, List.set_cons_succ, i64_w, i32_w]
                                    rfl
                                  refine pure_ (i := 9) (N := some 79) (v := ?_) (a' := ?_) #[true, true, true, false, false, false, false, true, true, true, false, false, false, false, false, false] rfl rfl (any_of HT_.out (by kernel_rfl)) (fun _ _ _ h => h) (Or.inl ⟨by rfl, ?_⟩) ?_ ?_
                                  rotate_left
                                  · intro w'
                                    go_simp
                                    with_reducible rfl
                                  rotate_left
                                  · simp only [Act.put, List.setIfInBounds_toArray, List.set_cons_zero, List.set_cons_succ, i64_w, i32_w]
                                    rfl
                                  refine take_ (i := 3) (N := some 73) (v := ?_) (a' := ?_) #[true, true, true, true, false, false, false, true, true, true, false, false, false, false, false, false] rfl rfl (take_ofW HT_.out HW_.out (by kernel_rfl)) (fun _ _ _ h => h) (Or.inl ⟨by rfl, ?_⟩) hHeld ?_ ?_
                                  rotate_left
                                  · rintro w' ⟨s0, s1⟩
                                    go_simp
                                    with_reducible rfl
                                  rotate_left
                                  · simp only [Act.put, List.setIfInBounds_toArray, List.set_cons_zero, List.set_cons_succ, i64_w, i32_w]
                                    rfl
                                  refine pure_ (i := 4) (N := some 74) (v := ?_) (a' := ?_) #[true, true, true, true, true, false, false, true, true, true, false, false, false, false, false, false] rfl rfl (any_of HT_.out (by kernel_rfl)) (fun _ _ _ h => h) (Or.inl ⟨by rfl, ?_⟩) ?_ ?_
                                  rotate_left
                                  · intro w'
                                    go_simp
                                    with_reducible rfl
                                  rotate_left
                                  · simp only [Act.put, List.setIfInBounds_toArray, List.set_cons_zero, List.set_cons_succ, i64_w, i32_w]
                                    rfl
                                  refine pure_ (i := 5) (N := some 75) (v := ?_) (a' := ?_) #[true, true, true, true, true, true, false, true, true, true, false, false, false, false, false, false] rfl rfl (any_of HT_.out (by kernel_rfl)) (fun _ _ _ h => h) (Or.inl ⟨by rfl, ?_⟩) ?_ ?_
                                  rotate_left
                                  · intro w'
                                    go_simp
                                    with_reducible rfl
                                  rotate_left
                                  · simp only [Act.put, List.setIfInBounds_toArray, List.set_cons_zero, List.set_cons_succ, i64_w, i32_w]
                                    rfl
                                  refine pure_ (i := 6) (N := some 76) (v := ?_) (a' := ?_) #[true, true, true, true, true, true, true, true, true, true, false, false, false, false, false, false] rfl rfl (any_of HT_.out (by kernel_rfl)) (fun _ _ _ h => h) (Or.inl ⟨by rfl, ?_⟩) ?_ ?_
                                  rotate_left
                                  · intro w'
                                    go_simp
                                    with_reducible rfl
                                  rotate_left
                                  · simp only [Act.put, List.setIfInBounds_toArray, List.set_cons_zero, List.set_cons_succ, i64_w, i32_w]
                                    rfl
                                  refine take_ (i := 10) (N := some 80) (v := ?_) (a' := ?_) #[true, true, true, true, true, true, true, true, true, true, true, false, false, false, false, false] rfl rfl (take_ofW HT_.out HW_.out (by kernel_rfl)) (fun _ _ _ h => h) (Or.inl ⟨by rfl, ?_⟩) hHeld ?_ ?_
                                  rotate_left
                                  · rintro w' ⟨s0, s1⟩
                                    go_simp
                                    with_reducible rfl
                                  rotate_left
                                  · simp only [Act.put, List.setIfInBounds_toArray, List.set_cons_zero, List.set_cons_succ, i64_w, i32_w]
                                    rfl
                                  refine pure_ (i := 11) (N := some 81) (v := ?_) (a' := ?_) #[true, true, true, true, true, true, true, true, true, true, true, true, false, false, false, false] rfl rfl (any_of HT_.out (by kernel_rfl)) (fun _ _ _ h => h) (Or.inl ⟨by rfl, ?_⟩) ?_ ?_
                                  rotate_left
                                  · intro w'
                                    go_simp
                                    with_reducible rfl
                                  rotate_left
                                  · simp only [Act.put, List.setIfInBounds_toArray, List.set_cons_zero, List.set_cons_succ, i64_w, i32_w]
                                    rfl
                                  refine pure_ (i := 12) (N := some 82) (v := ?_) (a' := ?_) #[true, true, true, true, true, true, true, true, true, true, true, true, true, false, false, false] rfl rfl (any_of HT_.out (by kernel_rfl)) (fun _ _ _ h => h) (Or.inl ⟨by rfl, ?_⟩) ?_ ?_
                                  rotate_left
                                  · intro w'
                                    go_simp
                                    with_reducible rfl
                                  rotate_left
                                  · simp only [Act.put, List.setIfInBounds_toArray, List.set_cons_zero, List.set_cons_succ, i64_w, i32_w]
                                    rfl
                                  refine pure_ (i := 13) (N := some 83) (v := ?_) (a' := ?_) #[true, true, true, true, true, true, true, true, true, true, true, true, true, true, false, false] rfl rfl (any_of HT_.out (by kernel_rfl)) (fun _ _ _ h => h) (Or.inl ⟨by rfl, ?_⟩) ?_ ?_
                                  rotate_left
                                  · intro w'
                                    go_simp
                                    with_reducible rfl
                                  rotate_left
                                  · simp only [Act.put, List.setIfInBounds_toArray, List.set_cons_zero, List.set_cons_succ, i64_w, i32_w]
                                    rfl
                                  refine one_ (i := 14) (N := some 12) #[true, true, true, true, true, true, true, true, true, true, true, true, true, true, true, false] rfl rfl (one_of HT_.out (by kernel_rfl)) (by decide) (fun K hK => ?_)
                                  refine box_step ?hg (N := 12) ?hd (cs := #[.int .i64 0, .int .i64 0]) (t := 25) ?hr ?_; (case hd => rfl); (case hg => rfl); (case hr => first | (go_simp; done) | (go_simp; rfl))
                                  intro gb191 hg w54 hbox hb
                                  have HS0_ := (hb.cell (World.block_lt_of_cell? _ _ (hHeld.1))).trans (hHeld.1)
                                  have HS1_ := (hb.cell (World.block_lt_of_cell? _ _ (hHeld.2))).trans (hHeld.2)
                                  have n0_ := Aside0.mk (Kd.R_below (by (with_reducible repeat (first | apply Kd.R_alloc | apply Kd.R_drewN | apply Kd.R_drew)); exact HO176.out) hb)
                                  have n1_ := Aside0.mk (blk_below (g := gb173) (o := .cells #[.int .i64 t171, .int .i64 t172] 25 (0, 0)) (by (with_reducible repeat (first | refine blk_drewN ?_ _ | refine blk_drew ?_ | refine blk_alloc ?_ _)); exact BK173.out) hb)
                                  have n2_ := Aside0.mk (blk_below (g := gb181) (o := .cells #[.int .i64 t179, .int .i64 t180] 25 (0, 0)) (by (with_reducible repeat (first | refine blk_drewN ?_ _ | refine blk_drew ?_ | refine blk_alloc ?_ _)); exact BK181.out) hb)
                                  have n3_ := Aside0.mk (blk_below (g := gb187) (o := .cells #[.int .i64 t185, .int .i64 t186] 25 (0, 0)) (by (with_reducible repeat (first | refine blk_drewN ?_ _ | refine blk_drew ?_ | refine blk_alloc ?_ _)); exact BK187.out) hb)
                                  have n4_ := Aside0.mk (below_step (by repeat (first | (with_reducible first | exact HB.out | apply below_alloc | apply pw_below_drewN | apply below_drew1 | refine below_set ?_ GE173.out | refine below_set ?_ GE181.out | refine below_set ?_ GE187.out) | exact HB.out)) hb)
                                  have n5_ := Aside0.mk (hbox)
                                  have n6_ := Aside0.mk ((by rw [hg]; exact (below_size (by repeat (first | (with_reducible first | exact HB.out | apply below_alloc | apply pw_below_drewN | apply below_drew1 | refine below_set ?_ GE173.out | refine below_set ?_ GE181.out | refine below_set ?_ GE187.out) | exact HB.out))) : w.heap.size ≤ gb191))
                                  have n7_ := Aside0.mk ((by rw [hg]; exact (below_size (by repeat (first | (with_reducible first | exact HB.out | apply below_alloc | apply pw_below_drewN | apply below_drew1 | refine below_set ?_ GE173.out | refine below_set ?_ GE181.out | refine below_set ?_ GE187.out) | exact HB.out))) : w.heap.size ≤ gb191))
                                  have n8_ := Aside0.mk ((by rw [hg]; exact Nat.ne_of_lt (blk_lt (g := gb173) (o := .cells #[.int .i64 t171, .int .i64 t172] 25 (0, 0)) (by (with_reducible repeat (first | refine blk_drewN ?_ _ | refine blk_drew ?_ | refine blk_alloc ?_ _)); exact BK173.out)) : gb173 ≠ gb191))
                                  have n9_ := Aside0.mk ((by rw [hg]; exact Nat.ne_of_gt (blk_lt (g := gb173) (o := .cells #[.int .i64 t171, .int .i64 t172] 25 (0, 0)) (by (with_reducible repeat (first | refine blk_drewN ?_ _ | refine blk_drew ?_ | refine blk_alloc ?_ _)); exact BK173.out)) : gb191 ≠ gb173))
                                  have n10_ := Aside0.mk ((by rw [hg]; exact Nat.ne_of_lt (blk_lt (g := gb181) (o := .cells #[.int .i64 t179, .int .i64 t180] 25 (0, 0)) (by (with_reducible repeat (first | refine blk_drewN ?_ _ | refine blk_drew ?_ | refine blk_alloc ?_ _)); exact BK181.out)) : gb181 ≠ gb191))
                                  have n11_ := Aside0.mk ((by rw [hg]; exact Nat.ne_of_gt (blk_lt (g := gb181) (o := .cells #[.int .i64 t179, .int .i64 t180] 25 (0, 0)) (by (with_reducible repeat (first | refine blk_drewN ?_ _ | refine blk_drew ?_ | refine blk_alloc ?_ _)); exact BK181.out)) : gb191 ≠ gb181))
                                  have n12_ := Aside0.mk ((by rw [hg]; exact Nat.ne_of_lt (blk_lt (g := gb187) (o := .cells #[.int .i64 t185, .int .i64 t186] 25 (0, 0)) (by (with_reducible repeat (first | refine blk_drewN ?_ _ | refine blk_drew ?_ | refine blk_alloc ?_ _)); exact BK187.out)) : gb187 ≠ gb191))
                                  have n13_ := Aside0.mk ((by rw [hg]; exact Nat.ne_of_gt (blk_lt (g := gb187) (o := .cells #[.int .i64 t185, .int .i64 t186] 25 (0, 0)) (by (with_reducible repeat (first | refine blk_drewN ?_ _ | refine blk_drew ?_ | refine blk_alloc ?_ _)); exact BK187.out)) : gb191 ≠ gb187))
                                  clear HO176
                                  clear BK173
                                  clear BK181
                                  clear BK187
                                  clear HB
                                  have HO176 := n0_
                                  have BK173 := n1_
                                  have BK181 := n2_
                                  have BK187 := n3_
                                  have HB := n4_
                                  have BK191 := n5_
                                  have GW191 := n6_
                                  have GE191 := n7_
                                  have NB173_191 := n8_
                                  have NB191_173 := n9_
                                  have NB181_191 := n10_
                                  have NB191_181 := n11_
                                  have NB187_191 := n12_
                                  have NB191_187 := n13_
                                  clear n0_ n1_ n2_ n3_ n4_ n5_ n6_ n7_ n8_ n9_ n10_ n11_ n12_ n13_
                                  clear hb hbox hg
                                  refine hK.out _ _ ⟨HS0_, HS1_⟩ (fun hHeld => ?_)
                                  clear hK K
                                  refine norm_ (a' := ?_) ?_ ?_
                                  rotate_left
                                  · show Act.put _ (some 12) _ = _
                                    simp only [Act.put, List.setIfInBounds_toArray, List.set_cons_zero, List.set_cons_succ, i64_w, i32_w]
                                    rfl
                                  refine one_ (i := 15) (N := none) #[true, true, true, true, true, true, true, true, true, true, true, true, true, true, true, true] rfl rfl (one_of HT_.out (by kernel_rfl)) (by decide) (fun K hK => ?_)
                                  have hs55 : w54.cell? ⟨gb191, 0, none⟩ = some (.int .i64 0) := (blk_cell BK191.out 0).trans rfl
                                  have hfs55 := blk_frozen BK191.out 0
                                  have hns55_0 := NB173_191.out
                                  have hns55_1 := NB181_191.out
                                  have hns55_2 := NB187_191.out
                                  have hms55_0 := NB191_173.out
                                  have hms55_1 := NB191_181.out
                                  have hms55_2 := NB191_187.out
                                  have hs56 : w54.cell? ⟨gb191, 1, none⟩ = some (.int .i64 0) := (blk_cell BK191.out 1).trans rfl
                                  have hfs56 := blk_frozen BK191.out 1
                                  have hns56_0 := NB173_191.out
                                  have hns56_1 := NB181_191.out
                                  have hns56_2 := NB187_191.out
                                  have hms56_0 := NB191_173.out
                                  have hms56_1 := NB191_181.out
                                  have hms56_2 := NB191_187.out
                                  refine skip_ (w1 := ?_) (by rfl) rfl ?_ ?_
                                  rotate_left
                                  · go_simp
                                    rfl
                                  refine hK.out _ _ ⟨((cell_far (p := ⟨gb191, _, none⟩) (by first | exact Kd.own_blk (Kd.R_ne HO176.out BK191.out (by decide)) | (rw [add_block]; exact Kd.own_blk (Kd.R_ne HO176.out BK191.out (by decide))) | (show (Addr.add _ _).block ≠ _; rw [add_block]; exact Kd.own_blk (Kd.R_ne HO176.out BK191.out (by decide))) | (dsimp only; exact Kd.own_blk (Kd.R_ne HO176.out BK191.out (by decide)))) _).trans (((cell_far (p := ⟨gb191, _, none⟩) (by first | exact Kd.own_blk (Kd.R_ne HO176.out BK191.out (by decide)) | (rw [add_block]; exact Kd.own_blk (Kd.R_ne HO176.out BK191.out (by decide))) | (show (Addr.add _ _).block ≠ _; rw [add_block]; exact Kd.own_blk (Kd.R_ne HO176.out BK191.out (by decide))) | (dsimp only; exact Kd.own_blk (Kd.R_ne HO176.out BK191.out (by decide)))) _).trans (hHeld.1)))), ((cell_far (p := ⟨gb191, _, none⟩) (by first | exact Kd.own_blk (Kd.R_ne HO176.out BK191.out (by decide)) | (rw [add_block]; exact Kd.own_blk (Kd.R_ne HO176.out BK191.out (by decide))) | (show (Addr.add _ _).block ≠ _; rw [add_block]; exact Kd.own_blk (Kd.R_ne HO176.out BK191.out (by decide))) | (dsimp only; exact Kd.own_blk (Kd.R_ne HO176.out BK191.out (by decide)))) _).trans (((cell_far (p := ⟨gb191, _, none⟩) (by first | exact Kd.own_blk (Kd.R_ne HO176.out BK191.out (by decide)) | (rw [add_block]; exact Kd.own_blk (Kd.R_ne HO176.out BK191.out (by decide))) | (show (Addr.add _ _).block ≠ _; rw [add_block]; exact Kd.own_blk (Kd.R_ne HO176.out BK191.out (by decide))) | (dsimp only; exact Kd.own_blk (Kd.R_ne HO176.out BK191.out (by decide)))) _).trans (hHeld.2))))⟩ (fun hHeld => ?_)
                                  clear hK K
                                  refine done_ (done_of HT_.out (by kernel_rfl)) ?_
                                  have hnb57 := NB187_191.out
                                  have hnc57 := NB191_187.out
                                  have hcz58_0 : w54.cell? ⟨gb187, 0, none⟩ = some (.int .i64 t185) := (blk_cell BK187.out 0).trans rfl
                                  have hcz58_1 : w54.cell? ⟨gb187, 1, none⟩ = some (.int .i64 t186) := (blk_cell BK187.out 1).trans rfl
                                  have hfz58_0 := blk_frozen BK187.out 0
                                  have hfz58_1 := blk_frozen BK187.out 1
                                  have hnb59 := NB191_173.out
                                  have hnc59 := NB173_191.out
                                  have hnb60 := NB191_181.out
                                  have hnc60 := NB181_191.out
                                  have hcz61_0 : w54.cell? ⟨gb191, 0, none⟩ = some (.int .i64 0) := (blk_cell BK191.out 0).trans rfl
                                  have hcz61_1 : w54.cell? ⟨gb191, 1, none⟩ = some (.int .i64 0) := (blk_cell BK191.out 1).trans rfl
                                  have hfz61_0 := blk_frozen BK191.out 0
                                  have hfz61_1 := blk_frozen BK191.out 1
                                  try go_wp2_with (first | ((with_reducible refine gate_callee (f := 30) rfl ?_); refine goesL_ (some 87) rfl rfl Try.func30 (by kernel_rfl) rfl #[.agg #[.int .i64 t185, .int .i64 t186], .agg #[.int .i64 ji16, .int .i64 (wrap64 ((wrap64 ((wrap64 ((wrap64 (t171 + (Int.tmod (rd t174 0) (wrap64 ((wrap64 (t172 - t171)) + 1))))) + (rd t174 1))) + (wrap64 ((Int.tmod (rd t174 2) 50) + (Int.tmod (rd t174 4) (wrap64 ((wrap64 ((wrap64 ((Int.tmod (rd t174 2) 50) + (Int.tmod (rd t174 3) 50))) - (Int.tmod (rd t174 2) 50))) + 1))))))) + (Int.tmod (rd t174 6) 30)))]] rfl (by (try simp only [List.map_toArray, List.map_cons, List.map_nil]); first | done | (simp only [hji16]; rfl) | rfl | (simp only [List.length_drop, List.length_take]; rfl)) ?_; (with_reducible refine (impl_Synchronize.calls t185 t186 ji16 (wrap64 ((wrap64 ((wrap64 ((wrap64 (t171 + (Int.tmod (rd t174 0) (wrap64 ((wrap64 (t172 - t171)) + 1))))) + (rd t174 1))) + (wrap64 ((Int.tmod (rd t174 2) 50) + (Int.tmod (rd t174 4) (wrap64 ((wrap64 ((wrap64 ((Int.tmod (rd t174 2) 50) + (Int.tmod (rd t174 3) 50))) - (Int.tmod (rd t174 2) 50))) + 1))))))) + (Int.tmod (rd t174 6) 30))) t192 t193 true _ A18.out).mono ?_); rintro e w62 ⟨rfl, hb⟩; refine ⟨_, rfl, ?_⟩; have n0_ := Aside0.mk (Kd.R_below (by (with_reducible repeat (first | apply Kd.R_alloc | apply Kd.R_drewN | apply Kd.R_drew)); exact (Kd.R_mono (Kd.R_far (p := ⟨gb191, 1, none⟩) (Kd.R_far (p := ⟨gb191, 0, none⟩) (Kd.R_types HO176.out BK191.out (by decide)) (fun _ hk => hk.2) (.int .i64 ji16)) (fun _ hk => hk.2) (.int .i64 (wrap64 ((wrap64 ((wrap64 ((wrap64 (t171 + (Int.tmod (rd t174 0) (wrap64 ((wrap64 (t172 - t171)) + 1))))) + (rd t174 1))) + (wrap64 ((Int.tmod (rd t174 2) 50) + (Int.tmod (rd t174 4) (wrap64 ((wrap64 ((wrap64 ((Int.tmod (rd t174 2) 50) + (Int.tmod (rd t174 3) 50))) - (Int.tmod (rd t174 2) 50))) + 1))))))) + (Int.tmod (rd t174 6) 30))))) (fun _ h_ => h_.1))) hb); have n1_ := Aside0.mk (blk_below (g := gb173) (o := .cells #[.int .i64 t171, .int .i64 t172] 25 (0, 0)) (by (with_reducible repeat (first | refine blk_drewN ?_ _ | refine blk_drew ?_ | refine blk_alloc ?_ _)); refine blk_far ?_ NB173_191.out _; (with_reducible repeat (first | refine blk_drewN ?_ _ | refine blk_drew ?_ | refine blk_alloc ?_ _)); refine blk_far ?_ NB173_191.out _; (with_reducible repeat (first | refine blk_drewN ?_ _ | refine blk_drew ?_ | refine blk_alloc ?_ _)); exact BK173.out) hb); have n2_ := Aside0.mk (blk_below (g := gb181) (o := .cells #[.int .i64 t179, .int .i64 t180] 25 (0, 0)) (by (with_reducible repeat (first | refine blk_drewN ?_ _ | refine blk_drew ?_ | refine blk_alloc ?_ _)); refine blk_far ?_ NB181_191.out _; (with_reducible repeat (first | refine blk_drewN ?_ _ | refine blk_drew ?_ | refine blk_alloc ?_ _)); refine blk_far ?_ NB181_191.out _; (with_reducible repeat (first | refine blk_drewN ?_ _ | refine blk_drew ?_ | refine blk_alloc ?_ _)); exact BK181.out) hb); have n3_ := Aside0.mk (blk_below (g := gb187) (o := .cells #[.int .i64 t185, .int .i64 t186] 25 (0, 0)) (by (with_reducible repeat (first | refine blk_drewN ?_ _ | refine blk_drew ?_ | refine blk_alloc ?_ _)); refine blk_far ?_ NB187_191.out _; (with_reducible repeat (first | refine blk_drewN ?_ _ | refine blk_drew ?_ | refine blk_alloc ?_ _)); refine blk_far ?_ NB187_191.out _; (with_reducible repeat (first | refine blk_drewN ?_ _ | refine blk_drew ?_ | refine blk_alloc ?_ _)); exact BK187.out) hb); have n4_ := Aside0.mk (blk_below (g := gb191) (o := .cells #[.int .i64 ji16, .int .i64 (wrap64 ((wrap64 ((wrap64 ((wrap64 (t171 + (Int.tmod (rd t174 0) (wrap64 ((wrap64 (t172 - t171)) + 1))))) + (rd t174 1))) + (wrap64 ((Int.tmod (rd t174 2) 50) + (Int.tmod (rd t174 4) (wrap64 ((wrap64 ((wrap64 ((Int.tmod (rd t174 2) 50) + (Int.tmod (rd t174 3) 50))) - (Int.tmod (rd t174 2) 50))) + 1))))))) + (Int.tmod (rd t174 6) 30)))] 25 (0, 0)) (by (with_reducible repeat (first | refine blk_drewN ?_ _ | refine blk_drew ?_ | refine blk_alloc ?_ _)); refine blk_put (cs := #[.int .i64 ji16, .int .i64 0]) ?_ 1 _ rfl; (with_reducible repeat (first | refine blk_drewN ?_ _ | refine blk_drew ?_ | refine blk_alloc ?_ _)); refine blk_put (cs := #[.int .i64 0, .int .i64 0]) ?_ 0 _ rfl; (with_reducible repeat (first | refine blk_drewN ?_ _ | refine blk_drew ?_ | refine blk_alloc ?_ _)); exact BK191.out) hb); have n5_ := Aside0.mk (below_step (by repeat (first | (with_reducible first | exact HB.out | apply below_alloc | apply pw_below_drewN | apply below_drew1 | refine below_set ?_ GE173.out | refine below_set ?_ GE181.out | refine below_set ?_ GE187.out | refine below_set ?_ GE191.out) | exact HB.out)) hb); clear HO176; clear BK173; clear BK181; clear BK187; clear BK191; clear HB; have HO176 := n0_; have BK173 := n1_; have BK181 := n2_; have BK187 := n3_; have BK191 := n4_; have HB := n5_; clear n0_ n1_ n2_ n3_ n4_ n5_; (try clear hb); (try clear hb2); (try clear hk); (try clear hi)) | ((with_reducible refine gate_dst (N := 13) rfl ?_); refine box_event ?hg (N := 13) ?hd (cs := #[.int .i64 0, .int .i64 0]) (t := 25) ?hr ?_; (case hd => rfl); (case hg => rfl); (case hr => first | (go_simp; done) | (go_simp; rfl)); intro gb195 hg w63 hbox hb; have n0_ := Aside0.mk (Kd.R_below (by (with_reducible repeat (first | apply Kd.R_alloc | apply Kd.R_drewN | apply Kd.R_drew)); exact HO176.out) hb); have n1_ := Aside0.mk (blk_below (g := gb173) (o := .cells #[.int .i64 t171, .int .i64 t172] 25 (0, 0)) (by (with_reducible repeat (first | refine blk_drewN ?_ _ | refine blk_drew ?_ | refine blk_alloc ?_ _)); exact BK173.out) hb); have n2_ := Aside0.mk (blk_below (g := gb181) (o := .cells #[.int .i64 t179, .int .i64 t180] 25 (0, 0)) (by (with_reducible repeat (first | refine blk_drewN ?_ _ | refine blk_drew ?_ | refine blk_alloc ?_ _)); exact BK181.out) hb); have n3_ := Aside0.mk (blk_below (g := gb187) (o := .cells #[.int .i64 t185, .int .i64 t186] 25 (0, 0)) (by (with_reducible repeat (first | refine blk_drewN ?_ _ | refine blk_drew ?_ | refine blk_alloc ?_ _)); exact BK187.out) hb); have n4_ := Aside0.mk (blk_below (g := gb191) (o := .cells #[.int .i64 ji16, .int .i64 (wrap64 ((wrap64 ((wrap64 ((wrap64 (t171 + (Int.tmod (rd t174 0) (wrap64 ((wrap64 (t172 - t171)) + 1))))) + (rd t174 1))) + (wrap64 ((Int.tmod (rd t174 2) 50) + (Int.tmod (rd t174 4) (wrap64 ((wrap64 ((wrap64 ((Int.tmod (rd t174 2) 50) + (Int.tmod (rd t174 3) 50))) - (Int.tmod (rd t174 2) 50))) + 1))))))) + (Int.tmod (rd t174 6) 30)))] 25 (0, 0)) (by (with_reducible repeat (first | refine blk_drewN ?_ _ | refine blk_drew ?_ | refine blk_alloc ?_ _)); exact BK191.out) hb); have n5_ := Aside0.mk (below_step (by repeat (first | (with_reducible first | exact HB.out | apply below_alloc | apply pw_below_drewN | apply below_drew1 | refine below_set ?_ GE173.out | refine below_set ?_ GE181.out | refine below_set ?_ GE187.out | refine below_set ?_ GE191.out) | exact HB.out)) hb); have n6_ := Aside0.mk (hbox); have n7_ := Aside0.mk ((by rw [hg]; exact (below_size (by repeat (first | (with_reducible first | exact HB.out | apply below_alloc | apply pw_below_drewN | apply below_drew1 | refine below_set ?_ GE173.out | refine below_set ?_ GE181.out | refine below_set ?_ GE187.out | refine below_set ?_ GE191.out) | exact HB.out))) : w.heap.size ≤ gb195)); have n8_ := Aside0.mk ((by rw [hg]; exact (below_size (by repeat (first | (with_reducible first | exact HB.out | apply below_alloc | apply pw_below_drewN | apply below_drew1 | refine below_set ?_ GE173.out | refine below_set ?_ GE181.out | refine below_set ?_ GE187.out | refine below_set ?_ GE191.out) | exact HB.out))) : w.heap.size ≤ gb195)); have n9_ := Aside0.mk ((by rw [hg]; exact Nat.ne_of_lt (blk_lt (g := gb173) (o := .cells #[.int .i64 t171, .int .i64 t172] 25 (0, 0)) (by (with_reducible repeat (first | refine blk_drewN ?_ _ | refine blk_drew ?_ | refine blk_alloc ?_ _)); exact BK173.out)) : gb173 ≠ gb195)); have n10_ := Aside0.mk ((by rw [hg]; exact Nat.ne_of_gt (blk_lt (g := gb173) (o := .cells #[.int .i64 t171, .int .i64 t172] 25 (0, 0)) (by (with_reducible repeat (first | refine blk_drewN ?_ _ | refine blk_drew ?_ | refine blk_alloc ?_ _)); exact BK173.out)) : gb195 ≠ gb173)); have n11_ := Aside0.mk ((by rw [hg]; exact Nat.ne_of_lt (blk_lt (g := gb181) (o := .cells #[.int .i64 t179, .int .i64 t180] 25 (0, 0)) (by (with_reducible repeat (first | refine blk_drewN ?_ _ | refine blk_drew ?_ | refine blk_alloc ?_ _)); exact BK181.out)) : gb181 ≠ gb195)); have n12_ := Aside0.mk ((by rw [hg]; exact Nat.ne_of_gt (blk_lt (g := gb181) (o := .cells #[.int .i64 t179, .int .i64 t180] 25 (0, 0)) (by (with_reducible repeat (first | refine blk_drewN ?_ _ | refine blk_drew ?_ | refine blk_alloc ?_ _)); exact BK181.out)) : gb195 ≠ gb181)); have n13_ := Aside0.mk ((by rw [hg]; exact Nat.ne_of_lt (blk_lt (g := gb187) (o := .cells #[.int .i64 t185, .int .i64 t186] 25 (0, 0)) (by (with_reducible repeat (first | refine blk_drewN ?_ _ | refine blk_drew ?_ | refine blk_alloc ?_ _)); exact BK187.out)) : gb187 ≠ gb195)); have n14_ := Aside0.mk ((by rw [hg]; exact Nat.ne_of_gt (blk_lt (g := gb187) (o := .cells #[.int .i64 t185, .int .i64 t186] 25 (0, 0)) (by (with_reducible repeat (first | refine blk_drewN ?_ _ | refine blk_drew ?_ | refine blk_alloc ?_ _)); exact BK187.out)) : gb195 ≠ gb187)); have n15_ := Aside0.mk ((by rw [hg]; exact Nat.ne_of_lt (blk_lt (g := gb191) (o := .cells #[.int .i64 ji16, .int .i64 (wrap64 ((wrap64 ((wrap64 ((wrap64 (t171 + (Int.tmod (rd t174 0) (wrap64 ((wrap64 (t172 - t171)) + 1))))) + (rd t174 1))) + (wrap64 ((Int.tmod (rd t174 2) 50) + (Int.tmod (rd t174 4) (wrap64 ((wrap64 ((wrap64 ((Int.tmod (rd t174 2) 50) + (Int.tmod (rd t174 3) 50))) - (Int.tmod (rd t174 2) 50))) + 1))))))) + (Int.tmod (rd t174 6) 30)))] 25 (0, 0)) (by (with_reducible repeat (first | refine blk_drewN ?_ _ | refine blk_drew ?_ | refine blk_alloc ?_ _)); exact BK191.out)) : gb191 ≠ gb195)); have n16_ := Aside0.mk ((by rw [hg]; exact Nat.ne_of_gt (blk_lt (g := gb191) (o := .cells #[.int .i64 ji16, .int .i64 (wrap64 ((wrap64 ((wrap64 ((wrap64 (t171 + (Int.tmod (rd t174 0) (wrap64 ((wrap64 (t172 - t171)) + 1))))) + (rd t174 1))) + (wrap64 ((Int.tmod (rd t174 2) 50) + (Int.tmod (rd t174 4) (wrap64 ((wrap64 ((wrap64 ((Int.tmod (rd t174 2) 50) + (Int.tmod (rd t174 3) 50))) - (Int.tmod (rd t174 2) 50))) + 1))))))) + (Int.tmod (rd t174 6) 30)))] 25 (0, 0)) (by (with_reducible repeat (first | refine blk_drewN ?_ _ | refine blk_drew ?_ | refine blk_alloc ?_ _)); exact BK191.out)) : gb195 ≠ gb191)); clear HO176; clear BK173; clear BK181; clear BK187; clear BK191; clear HB; have HO176 := n0_; have BK173 := n1_; have BK181 := n2_; have BK187 := n3_; have BK191 := n4_; have HB := n5_; have BK195 := n6_; have GW195 := n7_; have GE195 := n8_; have NB173_195 := n9_; have NB195_173 := n10_; have NB181_195 := n11_; have NB195_181 := n12_; have NB187_195 := n13_; have NB195_187 := n14_; have NB191_195 := n15_; have NB195_191 := n16_; clear n0_ n1_ n2_ n3_ n4_ n5_ n6_ n7_ n8_ n9_ n10_ n11_ n12_ n13_ n14_ n15_ n16_; clear hb hbox hg; have hnb64 := NB195_173.out; have hnc64 := NB173_195.out; have hnb65 := NB195_181.out; have hnc65 := NB181_195.out; have hnb66 := NB195_187.out; have hnc66 := NB187_195.out; have hnb67 := NB195_191.out; have hnc67 := NB191_195.out; have hcz68_0 : w63.cell? ⟨gb195, 0, none⟩ = some (.int .i64 0) := (blk_cell BK195.out 0).trans rfl; have hcz68_1 : w63.cell? ⟨gb195, 1, none⟩ = some (.int .i64 0) := (blk_cell BK195.out 1).trans rfl; have hfz68_0 := blk_frozen BK195.out 0; have hfz68_1 := blk_frozen BK195.out 1))
                                  have n0_ : Aside0 (Kd.R (Kd.int .i64) 3 ((w63.setCell ⟨gb195, 0, none⟩ (.int .i64 t192)).setCell ⟨gb195, 1, none⟩ (.int .i64 t193)) w.heap.size (fun _ => True) (.slice (some ad177) t174.length co38) t174) := ⟨by (with_reducible repeat (first | apply Kd.R_alloc | apply Kd.R_drewN | apply Kd.R_drew)); exact Kd.R_mono (Kd.R_far (p := ⟨gb195, 1, none⟩) (Kd.R_far (p := ⟨gb195, 0, none⟩) (Kd.R_types HO176.out BK195.out (by decide)) (fun _ hk => hk.2) (.int .i64 t192)) (fun _ hk => hk.2) (.int .i64 t193)) (fun _ hk => trivial)⟩
                                  have n1_ : Aside0 (((w63.setCell ⟨gb195, 0, none⟩ (.int .i64 t192)).setCell ⟨gb195, 1, none⟩ (.int .i64 t193)).heap[gb173]? = some (.cells #[.int .i64 t171, .int .i64 t172] 25 (0, 0))) := ⟨by (with_reducible repeat (first | refine blk_drewN ?_ _ | refine blk_drew ?_ | refine blk_alloc ?_ _)); refine blk_far ?_ NB173_195.out _; (with_reducible repeat (first | refine blk_drewN ?_ _ | refine blk_drew ?_ | refine blk_alloc ?_ _)); refine blk_far ?_ NB173_195.out _; (with_reducible repeat (first | refine blk_drewN ?_ _ | refine blk_drew ?_ | refine blk_alloc ?_ _)); exact BK173.out⟩
                                  have n2_ : Aside0 (((w63.setCell ⟨gb195, 0, none⟩ (.int .i64 t192)).setCell ⟨gb195, 1, none⟩ (.int .i64 t193)).heap[gb181]? = some (.cells #[.int .i64 t179, .int .i64 t180] 25 (0, 0))) := ⟨by (with_reducible repeat (first | refine blk_drewN ?_ _ | refine blk_drew ?_ | refine blk_alloc ?_ _)); refine blk_far ?_ NB181_195.out _; (with_reducible repeat (first | refine blk_drewN ?_ _ | refine blk_drew ?_ | refine blk_alloc ?_ _)); refine blk_far ?_ NB181_195.out _; (with_reducible repeat (first | refine blk_drewN ?_ _ | refine blk_drew ?_ | refine blk_alloc ?_ _)); exact BK181.out⟩
                                  have n3_ : Aside0 (((w63.setCell ⟨gb195, 0, none⟩ (.int .i64 t192)).setCell ⟨gb195, 1, none⟩ (.int .i64 t193)).heap[gb187]? = some (.cells #[.int .i64 t185, .int .i64 t186] 25 (0, 0))) := ⟨by (with_reducible repeat (first | refine blk_drewN ?_ _ | refine blk_drew ?_ | refine blk_alloc ?_ _)); refine blk_far ?_ NB187_195.out _; (with_reducible repeat (first | refine blk_drewN ?_ _ | refine blk_drew ?_ | refine blk_alloc ?_ _)); refine blk_far ?_ NB187_195.out _; (with_reducible repeat (first | refine blk_drewN ?_ _ | refine blk_drew ?_ | refine blk_alloc ?_ _)); exact BK187.out⟩
                                  have n4_ : Aside0 (((w63.setCell ⟨gb195, 0, none⟩ (.int .i64 t192)).setCell ⟨gb195, 1, none⟩ (.int .i64 t193)).heap[gb191]? = some (.cells #[.int .i64 ji16, .int .i64 (wrap64 ((wrap64 ((wrap64 ((wrap64 (t171 + (Int.tmod (rd t174 0) (wrap64 ((wrap64 (t172 - t171)) + 1))))) + (rd t174 1))) + (wrap64 ((Int.tmod (rd t174 2) 50) + (Int.tmod (rd t174 4) (wrap64 ((wrap64 ((wrap64 ((Int.tmod (rd t174 2) 50) + (Int.tmod (rd t174 3) 50))) - (Int.tmod (rd t174 2) 50))) + 1))))))) + (Int.tmod (rd t174 6) 30)))] 25 (0, 0))) := ⟨by (with_reducible repeat (first | refine blk_drewN ?_ _ | refine blk_drew ?_ | refine blk_alloc ?_ _)); refine blk_far ?_ NB191_195.out _; (with_reducible repeat (first | refine blk_drewN ?_ _ | refine blk_drew ?_ | refine blk_alloc ?_ _)); refine blk_far ?_ NB191_195.out _; (with_reducible repeat (first | refine blk_drewN ?_ _ | refine blk_drew ?_ | refine blk_alloc ?_ _)); exact BK191.out⟩
                                  have n5_ : Aside0 (((w63.setCell ⟨gb195, 0, none⟩ (.int .i64 t192)).setCell ⟨gb195, 1, none⟩ (.int .i64 t193)).heap[gb195]? = some (.cells #[.int .i64 t192, .int .i64 t193] 25 (0, 0))) := ⟨by (with_reducible repeat (first | refine blk_drewN ?_ _ | refine blk_drew ?_ | refine blk_alloc ?_ _)); refine blk_put (cs := #[.int .i64 t192, .int .i64 0]) ?_ 1 _ rfl; (with_reducible repeat (first | refine blk_drewN ?_ _ | refine blk_drew ?_ | refine blk_alloc ?_ _)); refine blk_put (cs := #[.int .i64 0, .int .i64 0]) ?_ 0 _ rfl; (with_reducible repeat (first | refine blk_drewN ?_ _ | refine blk_drew ?_ | refine blk_alloc ?_ _)); exact BK195.out⟩
                                  have n6_ : Aside0 (Below w.heap.size w ((w63.setCell ⟨gb195, 0, none⟩ (.int .i64 t192)).setCell ⟨gb195, 1, none⟩ (.int .i64 t193))) := ⟨by repeat (first | (with_reducible first | exact HB.out | apply below_alloc | apply pw_below_drewN | apply below_drew1 | refine below_set ?_ GE173.out | refine below_set ?_ GE181.out | refine below_set ?_ GE187.out | refine below_set ?_ GE191.out | refine below_set ?_ GE195.out) | exact HB.out)⟩
                                  (try clear HO176)
                                  (try clear BK173)
                                  (try clear BK181)
                                  (try clear BK187)
                                  (try clear BK191)
                                  (try clear BK195)
                                  (try clear HB)
                                  generalize ((w63.setCell ⟨gb195, 0, none⟩ (.int .i64 t192)).setCell ⟨gb195, 1, none⟩ (.int .i64 t193)) = w69 at n0_ n1_ n2_ n3_ n4_ n5_ n6_ ⊢
                                  have HO176 := n0_
                                  have BK173 := n1_
                                  have BK181 := n2_
                                  have BK187 := n3_
                                  have BK191 := n4_
                                  have BK195 := n5_
                                  have HB := n6_
                                  clear n0_ n1_ n2_ n3_ n4_ n5_ n6_
                                  have n0_ := Aside0.mk (Kd.R_drew HO176.out)
                                  have n1_ := Aside0.mk (blk_drew BK173.out)
                                  have n2_ := Aside0.mk (blk_drew BK181.out)
                                  have n3_ := Aside0.mk (blk_drew BK187.out)
                                  have n4_ := Aside0.mk (blk_drew BK191.out)
                                  have n5_ := Aside0.mk (blk_drew BK195.out)
                                  have n6_ := Aside0.mk (below_drew1 HB.out)
                                  clear HO176
                                  clear BK173
                                  clear BK181
                                  clear BK187
                                  clear BK191
                                  clear BK195
                                  clear HB
                                  have HO176 := n0_
                                  have BK173 := n1_
                                  have BK181 := n2_
                                  have BK187 := n3_
                                  have BK191 := n4_
                                  have BK195 := n5_
                                  have HB := n6_
                                  clear n0_ n1_ n2_ n3_ n4_ n5_ n6_
                                  have p197 : 0 ≤ (1 : Int) := (by omega)
                                  have q197 : 1 < (t174.length : Int) := of_decide_eq_true (by first | (with_reducible assumption) | assumption)
                                  obtain ⟨ad197, e197, hx197_0⟩ := Kd.at_int (Kd.R_reads' HO176.out).2.2 1 p197 q197
                                  obtain rfl : ad177 = ad197 := (by injection e197)
                                  (try simp only [show (1 : Int).toNat = 1 from rfl, Nat.reduceMul, Nat.reduceEqDiff, Go.Addr.add, ↓reduceIte] at hx197_0)
                                  have qi197 : (1 < t174.length) = True := eq_true (by omega)
                                  (try rw [show ((1 : Int)).toNat = 1 from rfl] at hx197_0)
                                  replace p197 := eq_true p197
                                  replace q197 := eq_true q197
                                  refine start_ (n := 44) (S := fun w' => w'.cell? ⟨gb173, 0, none⟩ = some (.int .i64 t171) ∧ w'.cell? ⟨gb173, 1, none⟩ = some (.int .i64 t172) ∧ w'.cell? ⟨gb181, 0, none⟩ = some (.int .i64 t179) ∧ w'.cell? ⟨gb181, 1, none⟩ = some (.int .i64 t180) ∧ w'.cell? ⟨gb187, 0, none⟩ = some (.int .i64 t185) ∧ w'.cell? ⟨gb187, 1, none⟩ = some (.int .i64 t186) ∧ w'.cell? ⟨gb195, 0, none⟩ = some (.int .i64 t192) ∧ w'.cell? ⟨gb195, 1, none⟩ = some (.int .i64 t193) ∧ w'.cell? ⟨ad177.block, ad177.off + 1, none⟩ = some (.int .i64 (rd t174 1))) (ds := []) #[false, false, false, false, false, false, false, false, false, false, false, false, false, false, false, false, false, false, false, false, false, false, false, false, false, false, false, false, false, false, false, false, false, false, false, false, false, false, false, false, false, false, false, false] (by kernel_rfl) rfl rfl ⟨(blk_cell BK173.out 0).trans rfl, (blk_cell BK173.out 1).trans rfl, (blk_cell BK181.out 0).trans rfl, (blk_cell BK181.out 1).trans rfl, (blk_cell BK187.out 0).trans rfl, (blk_cell BK187.out 1).trans rfl, (blk_cell BK195.out 0).trans rfl, (blk_cell BK195.out 1).trans rfl, hx197_0⟩ (fun hHeld => ?_); refine with_tabW laws_FnClocks.tab14 laws_FnClocks.bits14 (fun HT_ HW_ => ?_)
                                  generalize w69.drew = w70 at HO176 BK173 BK181 BK187 BK191 BK195 HB hx197_0 hHeld ⊢
                                  refine pure_ (i := 1) (N := some 91) (v := ?_) (a' := ?_) #[false, true, false, false, false, false, false, false, false, false, false, false, false, false, false, false, false, false, false, false, false, false, false, false, false, false, false, false, false, false, false, false, false, false, false, false, false, false, false, false, false, false, false, false] rfl rfl (any_of HT_.out (by kernel_rfl)) (fun _ _ _ h => h) (Or.inl ⟨by rfl, ?_⟩) ?_ ?_
                                  rotate_left
                                  · intro w'
                                    go_simp
                                    with_reducible rfl
                                  rotate_left
                                  · simp only [Act.put, List.setIfInBounds_toArray, List.set_cons_zero, List.set_cons_succ, i64_w, i32_w]
                                    rfl
                                  refine take_ (i := 0) (N := some 90) (v := ?_) (a' := ?_) #[true, true, false, false, false, false, false, false, false, false, false, false, false, false, false, false, false, false, false, false, false, false, false, false, false, false, false, false, false, false, false, false, false, false, false, false, false, false, false, false, false, false, false, false] rfl rfl (take_ofW HT_.out HW_.out (by kernel_rfl)) (fun _ _ _ h => h) (Or.inl ⟨by rfl, ?_⟩) hHeld ?_ ?_
                                  rotate_left
                                  · rintro w' ⟨s0, s1, s2, s3, s4, s5, s6, s7, s8⟩
                                    go_simp
                                    with_reducible rfl
                                  rotate_left
                                  · simp only [Act.put, List.setIfInBounds_toArray, List.set_cons_zero, List.set_cons_succ, i64_w, i32_w]
                                    rfl
                                  refine one_ (i := 2) (N := some 92) #[true, true, true, false, false, false, false, false, false, false, false, false, false, false, false, false, false, false, false, false, false, false, false, false, false, false, false, false, false, false, false, false, false, false, false, false, false, false, false, false, false, false, false, false] rfl rfl (one_of HT_.out (by kernel_rfl)) (by decide) (fun K hK => ?_)
                                  refine goes_ Try.func23 (by kernel_rfl) rfl #[.agg #[.int .i64 t171, .int .i64 t172], .int .i64 (wrap64 (t171 + (Int.tmod (rd t174 0) (wrap64 ((wrap64 (t172 - t171)) + 1)))))] (by rfl) rfl rfl (by (try simp only [List.map_toArray, List.map_cons, List.map_nil]); first | done | rfl | (simp only [List.length_drop, List.length_take]; rfl)) ?_
                                  with_reducible refine (impl_Holds.calls t171 t172 (wrap64 (t171 + (Int.tmod (rd t174 0) (wrap64 ((wrap64 (t172 - t171)) + 1))))) true _ A19.out).mono ?_
                                  rintro e w71 ⟨rfl, hb⟩
                                  have HS8_ := (hb.cell (World.block_lt_of_cell? _ _ (hHeld.2.2.2.2.2.2.2.2))).trans (hHeld.2.2.2.2.2.2.2.2)
                                  refine ⟨_, rfl, ?_⟩
                                  have n0_ := Aside0.mk (Kd.R_below (by (with_reducible repeat (first | apply Kd.R_alloc | apply Kd.R_drewN | apply Kd.R_drew)); exact HO176.out) hb)
                                  have n1_ := Aside0.mk (blk_below (g := gb173) (o := .cells #[.int .i64 t171, .int .i64 t172] 25 (0, 0)) (by (with_reducible repeat (first | refine blk_drewN ?_ _ | refine blk_drew ?_ | refine blk_alloc ?_ _)); exact BK173.out) hb)
                                  have n2_ := Aside0.mk (blk_below (g := gb181) (o := .cells #[.int .i64 t179, .int .i64 t180] 25 (0, 0)) (by (with_reducible repeat (first | refine blk_drewN ?_ _ | refine blk_drew ?_ | refine blk_alloc ?_ _)); exact BK181.out) hb)
                                  have n3_ := Aside0.mk (blk_below (g := gb187) (o := .cells #[.int .i64 t185, .int .i64 t186] 25 (0, 0)) (by (with_reducible repeat (first | refine blk_drewN ?_ _ | refine blk_drew ?_ | refine blk_alloc ?_ _)); exact BK187.out) hb)
                                  have n4_ := Aside0.mk (blk_below (g := gb191) (o := .cells #[.int .i64 ji16, .int .i64 (wrap64 ((wrap64 ((wrap64 ((wrap64 (t171 + (Int.tmod (rd t174 0) (wrap64 ((wrap64 (t172 - t171)) + 1))))) + (rd t174 1))) + (wrap64 ((Int.tmod (rd t174 2) 50) + (Int.tmod (rd t174 4) (wrap64 ((wrap64 ((wrap64 ((Int.tmod (rd t174 2) 50) + (Int.tmod (rd t174 3) 50))) - (Int.tmod (rd t174 2) 50))) + 1))))))) + (Int.tmod (rd t174 6) 30)))] 25 (0, 0)) (by (with_reducible repeat (first | refine blk_drewN ?_ _ | refine blk_drew ?_ | refine blk_alloc ?_ _)); exact BK191.out) hb)
                                  have n5_ := Aside0.mk (blk_below (g := gb195) (o := .cells #[.int .i64 t192, .int .i64 t193] 25 (0, 0)) (by (with_reducible repeat (first | refine blk_drewN ?_ _ | refine blk_drew ?_ | refine blk_alloc ?_ _)); exact BK195.out) hb)
                                  have n6_ := Aside0.mk (below_step (by repeat (first | (with_reducible first | exact HB.out | apply below_alloc | apply pw_below_drewN | apply below_drew1 | refine below_set ?_ GE173.out | refine below_set ?_ GE181.out | refine below_set ?_ GE187.out | refine below_set ?_ GE191.out | refine below_set ?_ GE195.out) | exact HB.out)) hb)
                                  clear HO176
                                  clear BK173
                                  clear BK181
                                  clear BK187
                                  clear BK191
                                  clear BK195
                                  clear HB
                                  have HO176 := n0_
                                  have BK173 := n1_
                                  have BK181 := n2_
                                  have BK187 := n3_
                                  have BK191 := n4_
                                  have BK195 := n5_
                                  have HB := n6_
                                  clear n0_ n1_ n2_ n3_ n4_ n5_ n6_
                                  (try clear hb)
                                  (try clear hb2)
                                  (try clear hk)
                                  (try clear hi)
                                  refine hK.out _ _ ⟨(blk_cell BK173.out 0).trans rfl, (blk_cell BK173.out 1).trans rfl, (blk_cell BK181.out 0).trans rfl, (blk_cell BK181.out 1).trans rfl, (blk_cell BK187.out 0).trans rfl, (blk_cell BK187.out 1).trans rfl, (blk_cell BK195.out 0).trans rfl, (blk_cell BK195.out 1).trans rfl, HS8_⟩ (fun hHeld => ?_)
                                  clear hK K
                                  refine norm_ (a' := ?_) ?_ ?_
                                  rotate_left
                                  · show Act.put _ (some 92) _ = _
                                    simp only [Act.put, List.setIfInBounds_toArray, List.set_cons_zero, List.set_cons_succ, i64_w, i32_w]
                                    rfl
                                  refine pure_ (i := 3) (N := some 93) (v := ?_) (a' := ?_) #[true, true, true, true, false, false, false, false, false, false, false, false, false, false, false, false, false, false, false, false, false, false, false, false, false, false, false, false, false, false, false, false, false, false, false, false, false, false, false, false, false, false, false, false] rfl rfl (any_of HT_.out (by kernel_rfl)) (fun _ _ _ h => h) (Or.inl ⟨by rfl, ?_⟩) ?_ ?_
                                  rotate_left
                                  · intro w'
                                    go_simp
                                    with_reducible rfl
                                  rotate_left
                                  · simp only [Act.put, List.setIfInBounds_toArray, List.set_cons_zero, List.set_cons_succ, i64_w, i32_w]
                                    rfl
                                  refine pure_ (i := 5) (N := some 95) (v := ?_) (a' := ?_) #[true, true, true, true, false, true, false, false, false, false, false, false, false, false, false, false, false, false, false, false, false, false, false, false, false, false, false, false, false, false, false, false, false, false, false, false, false, false, false, false, false, false, false, false] rfl rfl (any_of HT_.out (by kernel_rfl)) (fun _ _ _ h => h) (Or.inl ⟨by rfl, ?_⟩) ?_ ?_
                                  rotate_left
                                  · intro w'
                                    go_simp
                                    with_reducible rfl
                                  rotate_left
                                  · simp only [Act.put, List.setIfInBounds_toArray, List.set_cons_zero, List.set_cons_succ, i64_w, i32_w]
                                    rfl
                                  refine pure_ (i := 6) (N := some 96) (v := ?_) (a' := ?_) #[true, true, true, true, false, true, true, false, false, false, false, false, false, false, false, false, false, false, false, false, false, false, false, false, false, false, false, false, false, false, false, false, false, false, false, false, false, false, false, false, false, false, false, false] rfl rfl (any_of HT_.out (by kernel_rfl)) (fun _ _ _ h => h) (Or.inl ⟨by rfl, ?_⟩) ?_ ?_
                                  rotate_left
                                  · intro w'
                                    go_simp
                                    with_reducible rfl
                                  rotate_left
                                  · simp only [Act.put, List.setIfInBounds_toArray, List.set_cons_zero, List.set_cons_succ, i64_w, i32_w]
                                    rfl
                                  refine pure_ (i := 7) (N := some 97) (v := ?_) (a' := ?_) #[true, true, true, true, false, true, true, true, false, false, false, false, false, false, false, false, false, false, false, false, false, false, false, false, false, false, false, false, false, false, false, false, false, false, false, false, false, false, false, false, false, false, false, false] rfl rfl (any_of HT_.out (by kernel_rfl)) (fun _ _ _ h => h) (Or.inl ⟨by rfl, ?_⟩) ?_ ?_
                                  rotate_left
                                  · intro w'
                                    go_simp
                                    with_reducible rfl
                                  rotate_left
                                  · simp only [Act.put, List.setIfInBounds_toArray, List.set_cons_zero, List.set_cons_succ, i64_w, i32_w]
                                    rfl
                                  refine take_ (i := 4) (N := some 94) (v := ?_) (a' := ?_) #[true, true, true, true, true, true, true, true, false, false, false, false, false, false, false, false, false, false, false, false, false, false, false, false, false, false, false, false, false, false, false, false, false, false, false, false, false, false, false, false, false, false, false, false] rfl rfl (take_ofW HT_.out HW_.out (by kernel_rfl)) (fun _ _ _ h => h) (Or.inl ⟨by rfl, ?_⟩) hHeld ?_ ?_
                                  rotate_left
                                  · rintro w' ⟨s0, s1, s2, s3, s4, s5, s6, s7, s8⟩
                                    go_simp
                                    with_reducible rfl
                                  rotate_left
                                  · simp only [Act.put, List.setIfInBounds_toArray, List.set_cons_zero, List.set_cons_succ, i64_w, i32_w]
                                    rfl
                                  refine take_ (i := 8) (N := some 98) (v := ?_) (a' := ?_) #[true, true, true, true, true, true, true, true, true, false, false, false, false, false, false, false, false, false, false, false, false, false, false, false, false, false, false, false, false, false, false, false, false, false, false, false, false, false, false, false, false, false, false, false] rfl rfl (take_ofW HT_.out HW_.out (by kernel_rfl)) (fun _ _ _ h => h) (Or.inl ⟨by rfl, ?_⟩) hHeld ?_ ?_
                                  rotate_left
                                  · rintro w' ⟨s0, s1, s2, s3, s4, s5, s6, s7, s8⟩
                                    go_simp
                                    with_reducible rfl
                                  rotate_left
                                  · simp only [Act.put, List.setIfInBounds_toArray, List.set_cons_zero, List.set_cons_succ, i64_w, i32_w]
                                    rfl
                                  refine pure_ (i := 9) (N := some 99) (v := ?_) (a' := ?_) #[true, true, true, true, true, true, true, true, true, true, false, false, false, false, false, false, false, false, false, false, false, false, false, false, false, false, false, false, false, false, false, false, false, false, false, false, false, false, false, false, false, false, false, false] rfl rfl (any_of HT_.out (by kernel_rfl)) (fun _ _ _ h => h) (Or.inl ⟨by rfl, ?_⟩) ?_ ?_
                                  rotate_left
                                  · intro w'
                                    go_simp
                                    with_reducible rfl
                                  rotate_left
                                  · simp only [Act.put, List.setIfInBounds_toArray, List.set_cons_zero, List.set_cons_succ, i64_w, i32_w]
                                    rfl
                                  refine one_ (i := 10) (N := some 100) #[true, true, true, true, true, true, true, true, true, true, true, false, false, false, false, false, false, false, false, false, false, false, false, false, false, false, false, false, false, false, false, false, false, false, false, false, false, false, false, false, false, false, false, false] rfl rfl (one_of HT_.out (by kernel_rfl)) (by decide) (fun K hK => ?_)
                                  refine goes_ Try.func23 (by kernel_rfl) rfl #[.agg #[.int .i64 t179, .int .i64 t180], .int .i64 (wrap64 ((wrap64 (t171 + (Int.tmod (rd t174 0) (wrap64 ((wrap64 (t172 - t171)) + 1))))) + (rd t174 1)))] (by rfl) rfl rfl (by (try simp only [List.map_toArray, List.map_cons, List.map_nil]); first | done | rfl | (simp only [List.length_drop, List.length_take]; rfl)) ?_
                                  with_reducible refine (impl_Holds.calls t179 t180 (wrap64 ((wrap64 (t171 + (Int.tmod (rd t174 0) (wrap64 ((wrap64 (t172 - t171)) + 1))))) + (rd t174 1))) true _ A21.out).mono ?_
                                  rintro e w72 ⟨rfl, hb⟩
                                  have HS8_ := (hb.cell (World.block_lt_of_cell? _ _ (hHeld.2.2.2.2.2.2.2.2))).trans (hHeld.2.2.2.2.2.2.2.2)
                                  refine ⟨_, rfl, ?_⟩
                                  have n0_ := Aside0.mk (Kd.R_below (by (with_reducible repeat (first | apply Kd.R_alloc | apply Kd.R_drewN | apply Kd.R_drew)); exact HO176.out) hb)
                                  have n1_ := Aside0.mk (blk_below (g := gb173) (o := .cells #[.int .i64 t171, .int .i64 t172] 25 (0, 0)) (by (with_reducible repeat (first | refine blk_drewN ?_ _ | refine blk_drew ?_ | refine blk_alloc ?_ _)); exact BK173.out) hb)
                                  have n2_ := Aside0.mk (blk_below (g := gb181) (o := .cells #[.int .i64 t179, .int .i64 t180] 25 (0, 0)) (by (with_reducible repeat (first | refine blk_drewN ?_ _ | refine blk_drew ?_ | refine blk_alloc ?_ _)); exact BK181.out) hb)
                                  have n3_ := Aside0.mk (blk_below (g := gb187) (o := .cells #[.int .i64 t185, .int .i64 t186] 25 (0, 0)) (by (with_reducible repeat (first | refine blk_drewN ?_ _ | refine blk_drew ?_ | refine blk_alloc ?_ _)); exact BK187.out) hb)
                                  have n4_ := Aside0.mk (blk_below (g := gb191) (o := .cells #[.int .i64 ji16, .int .i64 (wrap64 ((wrap64 ((wrap64 ((wrap64 (t171 + (Int.tmod (rd t174 0) (wrap64 ((wrap64 (t172 - t171)) + 1))))) + (rd t174 1))) + (wrap64 ((Int.tmod (rd t174 2) 50) + (Int.tmod (rd t174 4) (wrap64 ((wrap64 ((wrap64 ((Int.tmod (rd t174 2) 50) + (Int.tmod (rd t174 3) 50))) - (Int.tmod (rd t174 2) 50))) + 1))))))) + (Int.tmod (rd t174 6) 30)))] 25 (0, 0)) (by (with_reducible repeat (first | refine blk_drewN ?_ _ | refine blk_drew ?_ | refine blk_alloc ?_ _)); exact BK191.out) hb)
                                  have n5_ := Aside0.mk (blk_below (g := gb195) (o := .cells #[.int .i64 t192, .int .i64 t193] 25 (0, 0)) (by (with_reducible repeat (first | refine blk_drewN ?_ _ | refine blk_drew ?_ | refine blk_alloc ?_ _)); exact BK195.out) hb)
                                  have n6_ := Aside0.mk (below_step (by repeat (first | (with_reducible first | exact HB.out | apply below_alloc | apply pw_below_drewN | apply below_drew1 | refine below_set ?_ GE173.out | refine below_set ?_ GE181.out | refine below_set ?_ GE187.out | refine below_set ?_ GE191.out | refine below_set ?_ GE195.out) | exact HB.out)) hb)
                                  clear HO176
                                  clear BK173
                                  clear BK181
                                  clear BK187
                                  clear BK191
                                  clear BK195
                                  clear HB
                                  have HO176 := n0_
                                  have BK173 := n1_
                                  have BK181 := n2_
                                  have BK187 := n3_
                                  have BK191 := n4_
                                  have BK195 := n5_
                                  have HB := n6_
                                  clear n0_ n1_ n2_ n3_ n4_ n5_ n6_
                                  (try clear hb)
                                  (try clear hb2)
                                  (try clear hk)
                                  (try clear hi)
                                  refine hK.out _ _ ⟨(blk_cell BK173.out 0).trans rfl, (blk_cell BK173.out 1).trans rfl, (blk_cell BK181.out 0).trans rfl, (blk_cell BK181.out 1).trans rfl, (blk_cell BK187.out 0).trans rfl, (blk_cell BK187.out 1).trans rfl, (blk_cell BK195.out 0).trans rfl, (blk_cell BK195.out 1).trans rfl, HS8_⟩ (fun hHeld => ?_)
                                  clear hK K
                                  refine norm_ (a' := ?_) ?_ ?_
                                  rotate_left
                                  · show Act.put _ (some 100) _ = _
                                    simp only [Act.put, List.setIfInBounds_toArray, List.set_cons_zero, List.set_cons_succ, i64_w, i32_w]
                                    rfl
                                  refine pure_ (i := 11) (N := some 101) (v := ?_) (a' := ?_) #[true, true, true, true, true, true, true, true, true, true, true, true, false, false, false, false, false, false, false, false, false, false, false, false, false, false, false, false, false, false, false, false, false, false, false, false, false, false, false, false, false, false, false, false] rfl rfl (any_of HT_.out (by kernel_rfl)) (fun _ _ _ h => h) (Or.inl ⟨by rfl, ?_⟩) ?_ ?_
                                  rotate_left
                                  · intro w'
                                    go_simp
                                    with_reducible rfl
                                  rotate_left
                                  · simp only [Act.put, List.setIfInBounds_toArray, List.set_cons_zero, List.set_cons_succ, i64_w, i32_w]
                                    rfl
                                  refine pure_ (i := 12) (N := some 102) (v := ?_) (a' := ?_) #[true, true, true, true, true, true, true, true, true, true, true, true, true, false, false, false, false, false, false, false, false, false, false, false, false, false, false, false, false, false, false, false, false, false, false, false, false, false, false, false, false, false, false, false] rfl rfl (any_of HT_.out (by kernel_rfl)) (fun _ _ _ h => h) (Or.inl ⟨by rfl, ?_⟩) ?_ ?_
                                  rotate_left
                                  · intro w'
                                    go_simp
                                    with_reducible rfl
                                  rotate_left
                                  · simp only [Act.put, List.setIfInBounds_toArray, List.set_cons_zero, List.set_cons_succ, i64_w, i32_w]
                                    rfl
                                  refine pure_ (i := 14) (N := some 104) (v := ?_) (a' := ?_) #[true, true, true, true, true, true, true, true, true, true, true, true, true, false, true, false, false, false, false, false, false, false, false, false, false, false, false, false, false, false, false, false, false, false, false, false, false, false, false, false, false, false, false, false] rfl rfl (any_of HT_.out (by kernel_rfl)) (fun _ _ _ h => h) (Or.inl ⟨by rfl, ?_⟩) ?_ ?_
                                  rotate_left
                                  · intro w'
                                    go_simp
                                    with_reducible rfl
                                  rotate_left
                                  · simp only [Act.put, List.setIfInBounds_toArray, List.set_cons_zero, List.set_cons_succ, i64_w, i32_w]
                                    rfl
                                  refine take_ (i := 13) (N := some 103) (v := ?_) (a' := ?_) #[true, true, true, true, true, true, true, true, true, true, true, true, true, true, true, false, false, false, false, false, false, false, false, false, false, false, false, false, false, false, false, false, false, false, false, false, false, false, false, false, false, false, false, false] rfl rfl (take_ofW HT_.out HW_.out (by kernel_rfl)) (fun _ _ _ h => h) (Or.inl ⟨by rfl, ?_⟩) hHeld ?_ ?_
                                  rotate_left
                                  · rintro w' ⟨s0, s1, s2, s3, s4, s5, s6, s7, s8⟩
                                    go_simp
                                    with_reducible rfl
                                  rotate_left
                                  · simp only [Act.put, List.setIfInBounds_toArray, List.set_cons_zero, List.set_cons_succ, i64_w, i32_w]
                                    rfl
                                  refine one_ (i := 15) (N := some 105) #[true, true, true, true, true, true, true, true, true, true, true, true, true, true, true, true, false, false, false, false, false, false, false, false, false, false, false, false, false, false, false, false, false, false, false, false, false, false, false, false, false, false, false, false] rfl rfl (one_of HT_.out (by kernel_rfl)) (by decide) (fun K hK => ?_)
                                  refine goes_ Try.func23 (by kernel_rfl) rfl #[.agg #[.int .i64 t185, .int .i64 t186], .int .i64 (wrap64 ((wrap64 ((wrap64 (t171 + (Int.tmod (rd t174 0) (wrap64 ((wrap64 (t172 - t171)) + 1))))) + (rd t174 1))) + (wrap64 ((Int.tmod (rd t174 2) 50) + (Int.tmod (rd t174 4) (wrap64 ((wrap64 ((wrap64 ((Int.tmod (rd t174 2) 50) + (Int.tmod (rd t174 3) 50))) - (Int.tmod (rd t174 2) 50))) + 1)))))))] (by rfl) rfl rfl (by (try simp only [List.map_toArray, List.map_cons, List.map_nil]); first | done | rfl | (simp only [List.length_drop, List.length_take]; rfl)) ?_
                                  with_reducible refine (impl_Holds.calls t185 t186 (wrap64 ((wrap64 ((wrap64 (t171 + (Int.tmod (rd t174 0) (wrap64 ((wrap64 (t172 - t171)) + 1))))) + (rd t174 1))) + (wrap64 ((Int.tmod (rd t174 2) 50) + (Int.tmod (rd t174 4) (wrap64 ((wrap64 ((wrap64 ((Int.tmod (rd t174 2) 50) + (Int.tmod (rd t174 3) 50))) - (Int.tmod (rd t174 2) 50))) + 1))))))) true _ A23.out).mono ?_
                                  rintro e w73 ⟨rfl, hb⟩
                                  have HS8_ := (hb.cell (World.block_lt_of_cell? _ _ (hHeld.2.2.2.2.2.2.2.2))).trans (hHeld.2.2.2.2.2.2.2.2)
                                  refine ⟨_, rfl, ?_⟩
                                  have n0_ := Aside0.mk (Kd.R_below (by (with_reducible repeat (first | apply Kd.R_alloc | apply Kd.R_drewN | apply Kd.R_drew)); exact HO176.out) hb)
                                  have n1_ := Aside0.mk (blk_below (g := gb173) (o := .cells #[.int .i64 t171, .int .i64 t172] 25 (0, 0)) (by (with_reducible repeat (first | refine blk_drewN ?_ _ | refine blk_drew ?_ | refine blk_alloc ?_ _)); exact BK173.out) hb)
                                  have n2_ := Aside0.mk (blk_below (g := gb181) (o := .cells #[.int .i64 t179, .int .i64 t180] 25 (0, 0)) (by (with_reducible repeat (first | refine blk_drewN ?_ _ | refine blk_drew ?_ | refine blk_alloc ?_ _)); exact BK181.out) hb)
                                  have n3_ := Aside0.mk (blk_below (g := gb187) (o := .cells #[.int .i64 t185, .int .i64 t186] 25 (0, 0)) (by (with_reducible repeat (first | refine blk_drewN ?_ _ | refine blk_drew ?_ | refine blk_alloc ?_ _)); exact BK187.out) hb)
                                  have n4_ := Aside0.mk (blk_below (g := gb191) (o := .cells #[.int .i64 ji16, .int .i64 (wrap64 ((wrap64 ((wrap64 ((wrap64 (t171 + (Int.tmod (rd t174 0) (wrap64 ((wrap64 (t172 - t171)) + 1))))) + (rd t174 1))) + (wrap64 ((Int.tmod (rd t174 2) 50) + (Int.tmod (rd t174 4) (wrap64 ((wrap64 ((wrap64 ((Int.tmod (rd t174 2) 50) + (Int.tmod (rd t174 3) 50))) - (Int.tmod (rd t174 2) 50))) + 1))))))) + (Int.tmod (rd t174 6) 30)))] 25 (0, 0)) (by (with_reducible repeat (first | refine blk_drewN ?_ _ | refine blk_drew ?_ | refine blk_alloc ?_ _)); exact BK191.out) hb)
                                  have n5_ := Aside0.mk (blk_below (g := gb195) (o := .cells #[.int .i64 t192, .int .i64 t193] 25 (0, 0)) (by (with_reducible repeat (first | refine blk_drewN ?_ _ | refine blk_drew ?_ | refine blk_alloc ?_ _)); exact BK195.out) hb)
                                  have n6_ := Aside0.mk (below_step (by repeat (first | (with_reducible first | exact HB.out | apply below_alloc | apply pw_below_drewN | apply below_drew1 | refine below_set ?_ GE173.out | refine below_set ?_ GE181.out | refine below_set ?_ GE187.out | refine below_set ?_ GE191.out | refine below_set ?_ GE195.out) | exact HB.out)) hb)
                                  clear HO176
                                  clear BK173
                                  clear BK181
                                  clear BK187
                                  clear BK191
                                  clear BK195
                                  clear HB
                                  have HO176 := n0_
                                  have BK173 := n1_
                                  have BK181 := n2_
                                  have BK187 := n3_
                                  have BK191 := n4_
                                  have BK195 := n5_
                                  have HB := n6_
                                  clear n0_ n1_ n2_ n3_ n4_ n5_ n6_
                                  (try clear hb)
                                  (try clear hb2)
                                  (try clear hk)
                                  (try clear hi)
                                  refine hK.out _ _ ⟨(blk_cell BK173.out 0).trans rfl, (blk_cell BK173.out 1).trans rfl, (blk_cell BK181.out 0).trans rfl, (blk_cell BK181.out 1).trans rfl, (blk_cell BK187.out 0).trans rfl, (blk_cell BK187.out 1).trans rfl, (blk_cell BK195.out 0).trans rfl, (blk_cell BK195.out 1).trans rfl, HS8_⟩ (fun hHeld => ?_)
                                  clear hK K
                                  refine norm_ (a' := ?_) ?_ ?_
                                  rotate_left
                                  · show Act.put _ (some 105) _ = _
                                    simp only [Act.put, List.setIfInBounds_toArray, List.set_cons_zero, List.set_cons_succ, i64_w, i32_w]
                                    rfl
                                  refine pure_ (i := 16) (N := some 106) (v := ?_) (a' := ?_) #[true, true, true, true, true, true, true, true, true, true, true, true, true, true, true, true, true, false, false, false, false, false, false, false, false, false, false, false, false, false, false, false, false, false, false, false, false, false, false, false, false, false, false, false] rfl rfl (any_of HT_.out (by kernel_rfl)) (fun _ _ _ h => h) (Or.inl ⟨by rfl, ?_⟩) ?_ ?_
                                  rotate_left
                                  · intro w'
                                    go_simp
                                    with_reducible rfl
                                  rotate_left
                                  · simp only [Act.put, List.setIfInBounds_toArray, List.set_cons_zero, List.set_cons_succ, i64_w, i32_w]
                                    rfl
                                  refine pure_ (i := 17) (N := some 107) (v := ?_) (a' := ?_) #[true, true, true, true, true, true, true, true, true, true, true, true, true, true, true, true, true, true, false, false, false, false, false, false, false, false, false, false, false, false, false, false, false, false, false, false, false, false, false, false, false, false, false, false] rfl rfl (any_of HT_.out (by kernel_rfl)) (fun _ _ _ h => h) (Or.inl ⟨by rfl, ?_⟩) ?_ ?_
                                  rotate_left
                                  · intro w'
                                    go_simp
                                    with_reducible rfl
                                  rotate_left
                                  · simp only [Act.put, List.setIfInBounds_toArray, List.set_cons_zero, List.set_cons_succ, i64_w, i32_w]
                                    rfl
                                  refine pure_ (i := 18) (N := some 108) (v := ?_) (a' := ?_) #[true, true, true, true, true, true, true, true, true, true, true, true, true, true, true, true, true, true, true, false, false, false, false, false, false, false, false, false, false, false, false, false, false, false, false, false, false, false, false, false, false, false, false, false] rfl rfl (any_of HT_.out (by kernel_rfl)) (fun _ _ _ h => h) (Or.inl ⟨by rfl, ?_⟩) ?_ ?_
                                  rotate_left
                                  · intro w'
                                    go_simp
                                    with_reducible rfl
                                  rotate_left
                                  · simp only [Act.put, List.setIfInBounds_toArray, List.set_cons_zero, List.set_cons_succ, i64_w, i32_w]
                                    rfl
                                  refine pure_ (i := 19) (N := some 109) (v := ?_) (a' := ?_) #[true, true, true, true, true, true, true, true, true, true, true, true, true, true, true, true, true, true, true, true, false, false, false, false, false, false, false, false, false, false, false, false, false, false, false, false, false, false, false, false, false, false, false, false] rfl rfl (any_of HT_.out (by kernel_rfl)) (fun _ _ _ h => h) (Or.inl ⟨by rfl, ?_⟩) ?_ ?_
                                  rotate_left
                                  · intro w'
                                    go_simp
                                    with_reducible rfl
                                  rotate_left
                                  · simp only [Act.put, List.setIfInBounds_toArray, List.set_cons_zero, List.set_cons_succ, i64_w, i32_w]
                                    rfl
                                  refine pure_ (i := 20) (N := some 110) (v := ?_) (a' := ?_) #[true, true, true, true, true, true, true, true, true, true, true, true, true, true, true, true, true, true, true, true, true, false, false, false, false, false, false, false, false, false, false, false, false, false, false, false, false, false, false, false, false, false, false, false] rfl rfl (any_of HT_.out (by kernel_rfl)) (fun _ _ _ h => h) (Or.inl ⟨by rfl, ?_⟩) ?_ ?_
                                  rotate_left
                                  · intro w'
                                    go_simp
                                    with_reducible rfl
                                  rotate_left
                                  · simp only [Act.put, List.setIfInBounds_toArray, List.set_cons_zero, List.set_cons_succ, i64_w, i32_w]
                                    rfl
                                  refine pure_ (i := 22) (N := some 112) (v := ?_) (a' := ?_) #[true, true, true, true, true, true, true, true, true, true, true, true, true, true, true, true, true, true, true, true, true, false, true, false, false, false, false, false, false, false, false, false, false, false, false, false, false, false, false, false, false, false, false, false] rfl rfl (any_of HT_.out (by kernel_rfl)) (fun _ _ _ h => h) (Or.inl ⟨by rfl, ?_⟩) ?_ ?_
                                  rotate_left
                                  · intro w'
                                    go_simp
                                    with_reducible rfl
                                  rotate_left
                                  · simp only [Act.put, List.setIfInBounds_toArray, List.set_cons_zero, List.set_cons_succ, i64_w, i32_w]
                                    rfl
                                  refine take_ (i := 21) (N := some 111) (v := ?_) (a' := ?_) #[true, true, true, true, true, true, true, true, true, true, true, true, true, true, true, true, true, true, true, true, true, true, true, false, false, false, false, false, false, false, false, false, false, false, false, false, false, false, false, false, false, false, false, false] rfl rfl (take_ofW HT_.out HW_.out (by kernel_rfl)) (fun _ _ _ h => h) (Or.inl ⟨by rfl, ?_⟩) hHeld ?_ ?_
                                  rotate_left
                                  · rintro w' ⟨s0, s1, s2, s3, s4, s5, s6, s7, s8⟩
                                    go_simp
                                    with_reducible rfl
                                  rotate_left
                                  · simp only [Act.put, List.setIfInBounds_toArray, List.set_cons_zero, List.set_cons_succ, i64_w, i32_w]
                                    rfl
                                  refine one_ (i := 23) (N := some 113) #[true, true, true, true, true, true, true, true, true, true, true, true, true, true, true, true, true, true, true, true, true, true, true, true, false, false, false, false, false, false, false, false, false, false, false, false, false, false, false, false, false, false, false, false] rfl rfl (one_of HT_.out (by kernel_rfl)) (by decide) (fun K hK => ?_)
                                  refine goes_ Try.func23 (by kernel_rfl) rfl #[.agg #[.int .i64 t192, .int .i64 t193], .int .i64 (wrap64 ((wrap64 ((wrap64 (t171 + (Int.tmod (rd t174 0) (wrap64 ((wrap64 (t172 - t171)) + 1))))) + (rd t174 1))) + (wrap64 ((Int.tmod (rd t174 2) 50) + (Int.tmod (rd t174 4) (wrap64 ((wrap64 ((wrap64 ((Int.tmod (rd t174 2) 50) + (Int.tmod (rd t174 3) 50))) - (Int.tmod (rd t174 2) 50))) + 1)))))))] (by rfl) rfl rfl (by (try simp only [List.map_toArray, List.map_cons, List.map_nil]); first | done | rfl | (simp only [List.length_drop, List.length_take]; rfl)) ?_
                                  with_reducible refine (impl_Holds.calls t192 t193 (wrap64 ((wrap64 ((wrap64 (t171 + (Int.tmod (rd t174 0) (wrap64 ((wrap64 (t172 - t171)) + 1))))) + (rd t174 1))) + (wrap64 ((Int.tmod (rd t174 2) 50) + (Int.tmod (rd t174 4) (wrap64 ((wrap64 ((wrap64 ((Int.tmod (rd t174 2) 50) + (Int.tmod (rd t174 3) 50))) - (Int.tmod (rd t174 2) 50))) + 1))))))) true _ A26.out).mono ?_
                                  rintro e w74 ⟨rfl, hb⟩
                                  have HS8_ := (hb.cell (World.block_lt_of_cell? _ _ (hHeld.2.2.2.2.2.2.2.2))).trans (hHeld.2.2.2.2.2.2.2.2)
                                  refine ⟨_, rfl, ?_⟩
                                  have n0_ := Aside0.mk (Kd.R_below (by (with_reducible repeat (first | apply Kd.R_alloc | apply Kd.R_drewN | apply Kd.R_drew)); exact HO176.out) hb)
                                  have n1_ := Aside0.mk (blk_below (g := gb173) (o := .cells #[.int .i64 t171, .int .i64 t172] 25 (0, 0)) (by (with_reducible repeat (first | refine blk_drewN ?_ _ | refine blk_drew ?_ | refine blk_alloc ?_ _)); exact BK173.out) hb)
                                  have n2_ := Aside0.mk (blk_below (g := gb181) (o := .cells #[.int .i64 t179, .int .i64 t180] 25 (0, 0)) (by (with_reducible repeat (first | refine blk_drewN ?_ _ | refine blk_drew ?_ | refine blk_alloc ?_ _)); exact BK181.out) hb)
                                  have n3_ := Aside0.mk (blk_below (g := gb187) (o := .cells #[.int .i64 t185, .int .i64 t186] 25 (0, 0)) (by (with_reducible repeat (first | refine blk_drewN ?_ _ | refine blk_drew ?_ | refine blk_alloc ?_ _)); exact BK187.out) hb)
                                  have n4_ := Aside0.mk (blk_below (g := gb191) (o := .cells #[.int .i64 ji16, .int .i64 (wrap64 ((wrap64 ((wrap64 ((wrap64 (t171 + (Int.tmod (rd t174 0) (wrap64 ((wrap64 (t172 - t171)) + 1))))) + (rd t174 1))) + (wrap64 ((Int.tmod (rd t174 2) 50) + (Int.tmod (rd t174 4) (wrap64 ((wrap64 ((wrap64 ((Int.tmod (rd t174 2) 50) + (Int.tmod (rd t174 3) 50))) - (Int.tmod (rd t174 2) 50))) + 1))))))) + (Int.tmod (rd t174 6) 30)))] 25 (0, 0)) (by (with_reducible repeat (first | refine blk_drewN ?_ _ | refine blk_drew ?_ | refine blk_alloc ?_ _)); exact BK191.out) hb)
                                  have n5_ := Aside0.mk (blk_below (g := gb195) (o := .cells #[.int .i64 t192, .int .i64 t193] 25 (0, 0)) (by (with_reducible repeat (first | refine blk_drewN ?_ _ | refine blk_drew ?_ | refine blk_alloc ?_ _)); exact BK195.out) hb)
                                  have n6_ := Aside0.mk (below_step (by repeat (first | (with_reducible first | exact HB.out | apply below_alloc | apply pw_below_drewN | apply below_drew1 | refine below_set ?_ GE173.out | refine below_set ?_ GE181.out | refine below_set ?_ GE187.out | refine below_set ?_ GE191.out | refine below_set ?_ GE195.out) | exact HB.out)) hb)
                                  clear HO176
                                  clear BK173
                                  clear BK181
                                  clear BK187
                                  clear BK191
                                  clear BK195
                                  clear HB
                                  have HO176 := n0_
                                  have BK173 := n1_
                                  have BK181 := n2_
                                  have BK187 := n3_
                                  have BK191 := n4_
                                  have BK195 := n5_
                                  have HB := n6_
                                  clear n0_ n1_ n2_ n3_ n4_ n5_ n6_
                                  (try clear hb)
                                  (try clear hb2)
                                  (try clear hk)
                                  (try clear hi)
                                  refine hK.out _ _ ⟨(blk_cell BK173.out 0).trans rfl, (blk_cell BK173.out 1).trans rfl, (blk_cell BK181.out 0).trans rfl, (blk_cell BK181.out 1).trans rfl, (blk_cell BK187.out 0).trans rfl, (blk_cell BK187.out 1).trans rfl, (blk_cell BK195.out 0).trans rfl, (blk_cell BK195.out 1).trans rfl, HS8_⟩ (fun hHeld => ?_)
                                  clear hK K
                                  refine norm_ (a' := ?_) ?_ ?_
                                  rotate_left
                                  · show Act.put _ (some 113) _ = _
                                    simp only [Act.put, List.setIfInBounds_toArray, List.set_cons_zero, List.set_cons_succ, i64_w, i32_w]
                                    rfl
                                  refine pure_ (i := 24) (N := some 114) (v := ?_) (a' := ?_) #[true, true, true, true, true, true, true, true, true, true, true, true, true, true, true, true, true, true, true, true, true, true, true, true, true, false, false, false, false, false, false, false, false, false, false, false, false, false, false, false, false, false, false, false] rfl rfl (any_of HT_.out (by kernel_rfl)) (fun _ _ _ h => h) (Or.inl ⟨by rfl, ?_⟩) ?_ ?_
                                  rotate_left
                                  · intro w'
                                    go_simp
                                    with_reducible rfl
                                  rotate_left
                                  · simp only [Act.put, List.setIfInBounds_toArray, List.set_cons_zero, List.set_cons_succ, i64_w, i32_w]
                                    rfl
                                  refine pure_ (i := 25) (N := some 115) (v := ?_) (a' := ?_) #[true, true, true, true, true, true, true, true, true, true, true, true, true, true, true, true, true, true, true, true, true, true, true, true, true, true, false, false, false, false, false, false, false, false, false, false, false, false, false, false, false, false, false, false] rfl rfl (any_of HT_.out (by kernel_rfl)) (fun _ _ _ h => h) (Or.inl ⟨by rfl, ?_⟩) ?_ ?_
                                  rotate_left
                                  · intro w'
                                    go_simp
                                    with_reducible rfl
                                  rotate_left
                                  · simp only [Act.put, List.setIfInBounds_toArray, List.set_cons_zero, List.set_cons_succ, i64_w, i32_w]
                                    rfl
                                  refine take_ (i := 26) (N := some 116) (v := ?_) (a' := ?_) #[true, true, true, true, true, true, true, true, true, true, true, true, true, true, true, true, true, true, true, true, true, true, true, true, true, true, true, false, false, false, false, false, false, false, false, false, false, false, false, false, false, false, false, false] rfl rfl (take_ofW HT_.out HW_.out (by kernel_rfl)) (fun _ _ _ h => h) (Or.inl ⟨by rfl, ?_⟩) hHeld ?_ ?_
                                  rotate_left
                                  · rintro w' ⟨s0, s1, s2, s3, s4, s5, s6, s7, s8⟩
                                    go_simp
                                    with_reducible rfl
                                  rotate_left
                                  · simp only [Act.put, List.setIfInBounds_toArray, List.set_cons_zero, List.set_cons_succ, i64_w, i32_w]
                                    rfl
                                  refine take_ (i := 28) (N := some 118) (v := ?_) (a' := ?_) #[true, true, true, true, true, true, true, true, true, true, true, true, true, true, true, true, true, true, true, true, true, true, true, true, true, true, true, false, true, false, false, false, false, false, false, false, false, false, false, false, false, false, false, false] rfl rfl (take_ofW HT_.out HW_.out (by kernel_rfl)) (fun _ _ _ h => h) (Or.inl ⟨by rfl, ?_⟩) hHeld ?_ ?_
                                  rotate_left
                                  · rintro w' ⟨s0, s1, s2, s3, s4, s5, s6, s7, s8⟩
                                    go_simp
                                    with_reducible rfl
                                  rotate_left
                                  · simp only [Act.put, List.setIfInBounds_toArray, List.set_cons_zero, List.set_cons_succ, i64_w, i32_w]
                                    rfl
                                  refine one_ (i := 27) (N := some 117) #[true, true, true, true, true, true, true, true, true, true, true, true, true, true, true, true, true, true, true, true, true, true, true, true, true, true, true, true, true, false, false, false, false, false, false, false, false, false, false, false, false, false, false, false] rfl rfl (one_of HT_.out (by kernel_rfl)) (by decide) (fun K hK => ?_)
                                  refine goes_ Try.func28 (by kernel_rfl) rfl #[.agg #[.int .i64 t192, .int .i64 t193]] (by rfl) rfl rfl (by (try simp only [List.map_toArray, List.map_cons, List.map_nil]); first | done | rfl | (simp only [List.length_drop, List.length_take]; rfl)) ?_
                                  with_reducible refine (impl_Uncertainty.calls t192 t193 t201 _ A28.out).mono ?_
                                  rintro e w75 ⟨rfl, hb⟩
                                  have HS8_ := (hb.cell (World.block_lt_of_cell? _ _ (hHeld.2.2.2.2.2.2.2.2))).trans (hHeld.2.2.2.2.2.2.2.2)
                                  refine ⟨_, rfl, ?_⟩
                                  have n0_ := Aside0.mk (Kd.R_below (by (with_reducible repeat (first | apply Kd.R_alloc | apply Kd.R_drewN | apply Kd.R_drew)); exact HO176.out) hb)
                                  have n1_ := Aside0.mk (blk_below (g := gb173) (o := .cells #[.int .i64 t171, .int .i64 t172] 25 (0, 0)) (by (with_reducible repeat (first | refine blk_drewN ?_ _ | refine blk_drew ?_ | refine blk_alloc ?_ _)); exact BK173.out) hb)
                                  have n2_ := Aside0.mk (blk_below (g := gb181) (o := .cells #[.int .i64 t179, .int .i64 t180] 25 (0, 0)) (by (with_reducible repeat (first | refine blk_drewN ?_ _ | refine blk_drew ?_ | refine blk_alloc ?_ _)); exact BK181.out) hb)
                                  have n3_ := Aside0.mk (blk_below (g := gb187) (o := .cells #[.int .i64 t185, .int .i64 t186] 25 (0, 0)) (by (with_reducible repeat (first | refine blk_drewN ?_ _ | refine blk_drew ?_ | refine blk_alloc ?_ _)); exact BK187.out) hb)
                                  have n4_ := Aside0.mk (blk_below (g := gb191) (o := .cells #[.int .i64 ji16, .int .i64 (wrap64 ((wrap64 ((wrap64 ((wrap64 (t171 + (Int.tmod (rd t174 0) (wrap64 ((wrap64 (t172 - t171)) + 1))))) + (rd t174 1))) + (wrap64 ((Int.tmod (rd t174 2) 50) + (Int.tmod (rd t174 4) (wrap64 ((wrap64 ((wrap64 ((Int.tmod (rd t174 2) 50) + (Int.tmod (rd t174 3) 50))) - (Int.tmod (rd t174 2) 50))) + 1))))))) + (Int.tmod (rd t174 6) 30)))] 25 (0, 0)) (by (with_reducible repeat (first | refine blk_drewN ?_ _ | refine blk_drew ?_ | refine blk_alloc ?_ _)); exact BK191.out) hb)
                                  have n5_ := Aside0.mk (blk_below (g := gb195) (o := .cells #[.int .i64 t192, .int .i64 t193] 25 (0, 0)) (by (with_reducible repeat (first | refine blk_drewN ?_ _ | refine blk_drew ?_ | refine blk_alloc ?_ _)); exact BK195.out) hb)
                                  have n6_ := Aside0.mk (below_step (by repeat (first | (with_reducible first | exact HB.out | apply below_alloc | apply pw_below_drewN | apply below_drew1 | refine below_set ?_ GE173.out | refine below_set ?_ GE181.out | refine below_set ?_ GE187.out | refine below_set ?_ GE191.out | refine below_set ?_ GE195.out) | exact HB.out)) hb)
                                  clear HO176
                                  clear BK173
                                  clear BK181
                                  clear BK187
                                  clear BK191
                                  clear BK195
                                  clear HB
                                  have HO176 := n0_
                                  have BK173 := n1_
                                  have BK181 := n2_
                                  have BK187 := n3_
                                  have BK191 := n4_
                                  have BK195 := n5_
                                  have HB := n6_
                                  clear n0_ n1_ n2_ n3_ n4_ n5_ n6_
                                  (try clear hb)
                                  (try clear hb2)
                                  (try clear hk)
                                  (try clear hi)
                                  refine hK.out _ _ ⟨(blk_cell BK173.out 0).trans rfl, (blk_cell BK173.out 1).trans rfl, (blk_cell BK181.out 0).trans rfl, (blk_cell BK181.out 1).trans rfl, (blk_cell BK187.out 0).trans rfl, (blk_cell BK187.out 1).trans rfl, (blk_cell BK195.out 0).trans rfl, (blk_cell BK195.out 1).trans rfl, HS8_⟩ (fun hHeld => ?_)
                                  clear hK K
                                  refine norm_ (a' := ?_) ?_ ?_
                                  rotate_left
                                  · show Act.put _ (some 117) _ = _
                                    simp only [Act.put, List.setIfInBounds_toArray, List.set_cons_zero, List.set_cons_succ, i64_w, i32_w]
                                    rfl
                                  refine one_ (i := 29) (N := some 119) #[true, true, true, true, true, true, true, true, true, true, true, true, true, true, true, true, true, true, true, true, true, true, true, true, true, true, true, true, true, true, false, false, false, false, false, false, false, false, false, false, false, false, false, false] rfl rfl (one_of HT_.out (by kernel_rfl)) (by decide) (fun K hK => ?_)
                                  refine goes_ Try.func28 (by kernel_rfl) rfl #[.agg #[.int .i64 t185, .int .i64 t186]] (by rfl) rfl rfl (by (try simp only [List.map_toArray, List.map_cons, List.map_nil]); first | done | rfl | (simp only [List.length_drop, List.length_take]; rfl)) ?_
                                  with_reducible refine (impl_Uncertainty.calls t185 t186 t202 _ A29.out).mono ?_
                                  rintro e w76 ⟨rfl, hb⟩
                                  have HS8_ := (hb.cell (World.block_lt_of_cell? _ _ (hHeld.2.2.2.2.2.2.2.2))).trans (hHeld.2.2.2.2.2.2.2.2)
                                  refine ⟨_, rfl, ?_⟩
                                  have n0_ := Aside0.mk (Kd.R_below (by (with_reducible repeat (first | apply Kd.R_alloc | apply Kd.R_drewN | apply Kd.R_drew)); exact HO176.out) hb)
                                  have n1_ := Aside0.mk (blk_below (g := gb173) (o := .cells #[.int .i64 t171, .int .i64 t172] 25 (0, 0)) (by (with_reducible repeat (first | refine blk_drewN ?_ _ | refine blk_drew ?_ | refine blk_alloc ?_ _)); exact BK173.out) hb)
                                  have n2_ := Aside0.mk (blk_below (g := gb181) (o := .cells #[.int .i64 t179, .int .i64 t180] 25 (0, 0)) (by (with_reducible repeat (first | refine blk_drewN ?_ _ | refine blk_drew ?_ | refine blk_alloc ?_ _)); exact BK181.out) hb)
                                  have n3_ := Aside0.mk (blk_below (g := gb187) (o := .cells #[.int .i64 t185, .int .i64 t186] 25 (0, 0)) (by (with_reducible repeat (first | refine blk_drewN ?_ _ | refine blk_drew ?_ | refine blk_alloc ?_ _)); exact BK187.out) hb)
                                  have n4_ := Aside0.mk (blk_below (g := gb191) (o := .cells #[.int .i64 ji16, .int .i64 (wrap64 ((wrap64 ((wrap64 ((wrap64 (t171 + (Int.tmod (rd t174 0) (wrap64 ((wrap64 (t172 - t171)) + 1))))) + (rd t174 1))) + (wrap64 ((Int.tmod (rd t174 2) 50) + (Int.tmod (rd t174 4) (wrap64 ((wrap64 ((wrap64 ((Int.tmod (rd t174 2) 50) + (Int.tmod (rd t174 3) 50))) - (Int.tmod (rd t174 2) 50))) + 1))))))) + (Int.tmod (rd t174 6) 30)))] 25 (0, 0)) (by (with_reducible repeat (first | refine blk_drewN ?_ _ | refine blk_drew ?_ | refine blk_alloc ?_ _)); exact BK191.out) hb)
                                  have n5_ := Aside0.mk (blk_below (g := gb195) (o := .cells #[.int .i64 t192, .int .i64 t193] 25 (0, 0)) (by (with_reducible repeat (first | refine blk_drewN ?_ _ | refine blk_drew ?_ | refine blk_alloc ?_ _)); exact BK195.out) hb)
                                  have n6_ := Aside0.mk (below_step (by repeat (first | (with_reducible first | exact HB.out | apply below_alloc | apply pw_below_drewN | apply below_drew1 | refine below_set ?_ GE173.out | refine below_set ?_ GE181.out | refine below_set ?_ GE187.out | refine below_set ?_ GE191.out | refine below_set ?_ GE195.out) | exact HB.out)) hb)
                                  clear HO176
                                  clear BK173
                                  clear BK181
                                  clear BK187
                                  clear BK191
                                  clear BK195
                                  clear HB
                                  have HO176 := n0_
                                  have BK173 := n1_
                                  have BK181 := n2_
                                  have BK187 := n3_
                                  have BK191 := n4_
                                  have BK195 := n5_
                                  have HB := n6_
                                  clear n0_ n1_ n2_ n3_ n4_ n5_ n6_
                                  (try clear hb)
                                  (try clear hb2)
                                  (try clear hk)
                                  (try clear hi)
                                  refine hK.out _ _ ⟨(blk_cell BK173.out 0).trans rfl, (blk_cell BK173.out 1).trans rfl, (blk_cell BK181.out 0).trans rfl, (blk_cell BK181.out 1).trans rfl, (blk_cell BK187.out 0).trans rfl, (blk_cell BK187.out 1).trans rfl, (blk_cell BK195.out 0).trans rfl, (blk_cell BK195.out 1).trans rfl, HS8_⟩ (fun hHeld => ?_)
                                  clear hK K
                                  refine norm_ (a' := ?_) ?_ ?_
                                  rotate_left
                                  · show Act.put _ (some 119) _ = _
                                    simp only [Act.put, List.setIfInBounds_toArray, List.set_cons_zero, List.set_cons_succ, i64_w, i32_w]
                                    rfl
                                  refine pure_ (i := 30) (N := some 120) (v := ?_) (a' := ?_) #[true, true, true, true, true, true, true, true, true, true, true, true, true, true, true, true, true, true, true, true, true, true, true, true, true, true, true, true, true, true, true, false, false, false, false, false, false, false, false, false, false, false, false, false] rfl rfl (any_of HT_.out (by kernel_rfl)) (fun _ _ _ h => h) (Or.inl ⟨by rfl, ?_⟩) ?_ ?_
                                  rotate_left
                                  · intro w'
                                    go_simp
                                    with_reducible rfl
                                  rotate_left
                                  · simp only [Act.put, List.setIfInBounds_toArray, List.set_cons_zero, List.set_cons_succ, i64_w, i32_w]
                                    rfl
                                  refine pure_ (i := 31) (N := some 121) (v := ?_) (a' := ?_) #[true, true, true, true, true, true, true, true, true, true, true, true, true, true, true, true, true, true, true, true, true, true, true, true, true, true, true, true, true, true, true, true, false, false, false, false, false, false, false, false, false, false, false, false] rfl rfl (any_of HT_.out (by kernel_rfl)) (fun _ _ _ h => h) (Or.inl ⟨by rfl, ?_⟩) ?_ ?_
                                  rotate_left
                                  · intro w'
                                    go_simp
                                    with_reducible rfl
                                  rotate_left
                                  · simp only [Act.put, List.setIfInBounds_toArray, List.set_cons_zero, List.set_cons_succ, i64_w, i32_w]
                                    rfl
                                  refine pure_ (i := 32) (N := some 122) (v := ?_) (a' := ?_) #[true, true, true, true, true, true, true, true, true, true, true, true, true, true, true, true, true, true, true, true, true, true, true, true, true, true, true, true, true, true, true, true, true, false, false, false, false, false, false, false, false, false, false, false] rfl rfl (any_of HT_.out (by kernel_rfl)) (fun _ _ _ h => h) (Or.inl ⟨by rfl, ?_⟩) ?_ ?_
                                  rotate_left
                                  · intro w'
                                    go_simp
                                    with_reducible rfl
                                  rotate_left
                                  · simp only [Act.put, List.setIfInBounds_toArray, List.set_cons_zero, List.set_cons_succ, i64_w, i32_w]
                                    rfl
                                  refine pure_ (i := 37) (N := some 127) (v := ?_) (a' := ?_) #[true, true, true, true, true, true, true, true, true, true, true, true, true, true, true, true, true, true, true, true, true, true, true, true, true, true, true, true, true, true, true, true, true, false, false, false, false, true, false, false, false, false, false, false] rfl rfl (any_of HT_.out (by kernel_rfl)) (fun _ _ _ h => h) (Or.inl ⟨by rfl, ?_⟩) ?_ ?_
                                  rotate_left
                                  · intro w'
                                    go_simp
                                    with_reducible rfl
                                  rotate_left
                                  · simp only [Act.put, List.setIfInBounds_toArray, List.set_cons_zero, List.set_cons_succ, i64_w, i32_w]
                                    rfl
                                  refine pure_ (i := 39) (N := some 129) (v := ?_) (a' := ?_) #[true, true, true, true, true, true, true, true, true, true, true, true, true, true, true, true, true, true, true, true, true, true, true, true, true, true, true, true, true, true, true, true, true, false, false, false, false, true, false, true, false, false, false, false] rfl rfl (any_of HT_.out (by kernel_rfl)) (fun _ _ _ h => h) (Or.inl ⟨by rfl, ?_⟩) ?_ ?_
                                  rotate_left
                                  · intro w'
                                    go_simp
                                    with_reducible rfl
                                  rotate_left
                                  · simp only [Act.put, List.setIfInBounds_toArray, List.set_cons_zero, List.set_cons_succ, i64_w, i32_w]
                                    rfl
                                  refine take_ (i := 33) (N := some 123) (v := ?_) (a' := ?_) #[true, true, true, true, true, true, true, true, true, true, true, true, true, true, true, true, true, true, true, true, true, true, true, true, true, true, true, true, true, true, true, true, true, true, false, false, false, true, false, true, false, false, false, false] rfl rfl (take_ofW HT_.out HW_.out (by kernel_rfl)) (fun _ _ _ h => h) (Or.inl ⟨by rfl, ?_⟩) hHeld ?_ ?_
                                  rotate_left
                                  · rintro w' ⟨s0, s1, s2, s3, s4, s5, s6, s7, s8⟩
                                    go_simp
                                    with_reducible rfl
                                  rotate_left
                                  · simp only [Act.put, List.setIfInBounds_toArray, List.set_cons_zero, List.set_cons_succ, i64_w, i32_w]
                                    rfl
                                  refine take_ (i := 35) (N := some 125) (v := ?_) (a' := ?_) #[true, true, true, true, true, true, true, true, true, true, true, true, true, true, true, true, true, true, true, true, true, true, true, true, true, true, true, true, true, true, true, true, true, true, false, true, false, true, false, true, false, false, false, false] rfl rfl (take_ofW HT_.out HW_.out (by kernel_rfl)) (fun _ _ _ h => h) (Or.inl ⟨by rfl, ?_⟩) hHeld ?_ ?_
                                  rotate_left
                                  · rintro w' ⟨s0, s1, s2, s3, s4, s5, s6, s7, s8⟩
                                    go_simp
                                    with_reducible rfl
                                  rotate_left
                                  · simp only [Act.put, List.setIfInBounds_toArray, List.set_cons_zero, List.set_cons_succ, i64_w, i32_w]
                                    rfl
                                  refine one_ (i := 34) (N := some 124) #[true, true, true, true, true, true, true, true, true, true, true, true, true, true, true, true, true, true, true, true, true, true, true, true, true, true, true, true, true, true, true, true, true, true, true, true, false, true, false, true, false, false, false, false] rfl rfl (one_of HT_.out (by kernel_rfl)) (by decide) (fun K hK => ?_)
                                  refine goes_ Try.func28 (by kernel_rfl) rfl #[.agg #[.int .i64 t185, .int .i64 t186]] (by rfl) rfl rfl (by (try simp only [List.map_toArray, List.map_cons, List.map_nil]); first | done | rfl | (simp only [List.length_drop, List.length_take]; rfl)) ?_
                                  with_reducible refine (impl_Uncertainty.calls t185 t186 t203 _ A31.out).mono ?_
                                  rintro e w77 ⟨rfl, hb⟩
                                  have HS8_ := (hb.cell (World.block_lt_of_cell? _ _ (hHeld.2.2.2.2.2.2.2.2))).trans (hHeld.2.2.2.2.2.2.2.2)
                                  refine ⟨_, rfl, ?_⟩
                                  have n0_ := Aside0.mk (Kd.R_below (by (with_reducible repeat (first | apply Kd.R_alloc | apply Kd.R_drewN | apply Kd.R_drew)); exact HO176.out) hb)
                                  have n1_ := Aside0.mk (blk_below (g := gb173) (o := .cells #[.int .i64 t171, .int .i64 t172] 25 (0, 0)) (by (with_reducible repeat (first | refine blk_drewN ?_ _ | refine blk_drew ?_ | refine blk_alloc ?_ _)); exact BK173.out) hb)
                                  have n2_ := Aside0.mk (blk_below (g := gb181) (o := .cells #[.int .i64 t179, .int .i64 t180] 25 (0, 0)) (by (with_reducible repeat (first | refine blk_drewN ?_ _ | refine blk_drew ?_ | refine blk_alloc ?_ _)); exact BK181.out) hb)
                                  have n3_ := Aside0.mk (blk_below (g := gb187) (o := .cells #[.int .i64 t185, .int .i64 t186] 25 (0, 0)) (by (with_reducible repeat (first | refine blk_drewN ?_ _ | refine blk_drew ?_ | refine blk_alloc ?_ _)); exact BK187.out) hb)
                                  have n4_ := Aside0.mk (blk_below (g := gb191) (o := .cells #[.int .i64 ji16, .int .i64 (wrap64 ((wrap64 ((wrap64 ((wrap64 (t171 + (Int.tmod (rd t174 0) (wrap64 ((wrap64 (t172 - t171)) + 1))))) + (rd t174 1))) + (wrap64 ((Int.tmod (rd t174 2) 50) + (Int.tmod (rd t174 4) (wrap64 ((wrap64 ((wrap64 ((Int.tmod (rd t174 2) 50) + (Int.tmod (rd t174 3) 50))) - (Int.tmod (rd t174 2) 50))) + 1))))))) + (Int.tmod (rd t174 6) 30)))] 25 (0, 0)) (by (with_reducible repeat (first | refine blk_drewN ?_ _ | refine blk_drew ?_ | refine blk_alloc ?_ _)); exact BK191.out) hb)
                                  have n5_ := Aside0.mk (blk_below (g := gb195) (o := .cells #[.int .i64 t192, .int .i64 t193] 25 (0, 0)) (by (with_reducible repeat (first | refine blk_drewN ?_ _ | refine blk_drew ?_ | refine blk_alloc ?_ _)); exact BK195.out) hb)
                                  have n6_ := Aside0.mk (below_step (by repeat (first | (with_reducible first | exact HB.out | apply below_alloc | apply pw_below_drewN | apply below_drew1 | refine below_set ?_ GE173.out | refine below_set ?_ GE181.out | refine below_set ?_ GE187.out | refine below_set ?_ GE191.out | refine below_set ?_ GE195.out) | exact HB.out)) hb)
                                  clear HO176
                                  clear BK173
                                  clear BK181
                                  clear BK187
                                  clear BK191
                                  clear BK195
                                  clear HB
                                  have HO176 := n0_
                                  have BK173 := n1_
                                  have BK181 := n2_
                                  have BK187 := n3_
                                  have BK191 := n4_
                                  have BK195 := n5_
                                  have HB := n6_
                                  clear n0_ n1_ n2_ n3_ n4_ n5_ n6_
                                  (try clear hb)
                                  (try clear hb2)
                                  (try clear hk)
                                  (try clear hi)
                                  refine hK.out _ _ ⟨(blk_cell BK173.out 0).trans rfl, (blk_cell BK173.out 1).trans rfl, (blk_cell BK181.out 0).trans rfl, (blk_cell BK181.out 1).trans rfl, (blk_cell BK187.out 0).trans rfl, (blk_cell BK187.out 1).trans rfl, (blk_cell BK195.out 0).trans rfl, (blk_cell BK195.out 1).trans rfl, HS8_⟩ (fun hHeld => ?_)
                                  clear hK K
                                  refine norm_ (a' := ?_) ?_ ?_
                                  rotate_left
                                  · show Act.put _ (some 124) _ = _
                                    simp only [Act.put, List.setIfInBounds_toArray, List.set_cons_zero, List.set_cons_succ, i64_w, i32_w]
                                    rfl
                                  refine one_ (i := 36) (N := some 126) #[true, true, true, true, true, true, true, true, true, true, true, true, true, true, true, true, true, true, true, true, true, true, true, true, true, true, true, true, true, true, true, true, true, true, true, true, true, true, false, true, false, false, false, false] rfl rfl (one_of HT_.out (by kernel_rfl)) (by decide) (fun K hK => ?_)
                                  refine goes_ Try.func28 (by kernel_rfl) rfl #[.agg #[.int .i64 t171, .int .i64 t172]] (by rfl) rfl rfl (by (try simp only [List.map_toArray, List.map_cons, List.map_nil]); first | done | rfl | (simp only [List.length_drop, List.length_take]; rfl)) ?_
                                  with_reducible refine (impl_Uncertainty.calls t171 t172 t204 _ A32.out).mono ?_
                                  rintro e w78 ⟨rfl, hb⟩
                                  have HS8_ := (hb.cell (World.block_lt_of_cell? _ _ (hHeld.2.2.2.2.2.2.2.2))).trans (hHeld.2.2.2.2.2.2.2.2)
                                  refine ⟨_, rfl, ?_⟩
                                  have n0_ := Aside0.mk (Kd.R_below (by (with_reducible repeat (first | apply Kd.R_alloc | apply Kd.R_drewN | apply Kd.R_drew)); exact HO176.out) hb)
                                  have n1_ := Aside0.mk (blk_below (g := gb173) (o := .cells #[.int .i64 t171, .int .i64 t172] 25 (0, 0)) (by (with_reducible repeat (first | refine blk_drewN ?_ _ | refine blk_drew ?_ | refine blk_alloc ?_ _)); exact BK173.out) hb)
                                  have n2_ := Aside0.mk (blk_below (g := gb181) (o := .cells #[.int .i64 t179, .int .i64 t180] 25 (0, 0)) (by (with_reducible repeat (first | refine blk_drewN ?_ _ | refine blk_drew ?_ | refine blk_alloc ?_ _)); exact BK181.out) hb)
                                  have n3_ := Aside0.mk (blk_below (g := gb187) (o := .cells #[.int .i64 t185, .int .i64 t186] 25 (0, 0)) (by (with_reducible repeat (first | refine blk_drewN ?_ _ | refine blk_drew ?_ | refine blk_alloc ?_ _)); exact BK187.out) hb)
                                  have n4_ := Aside0.mk (blk_below (g := gb191) (o := .cells #[.int .i64 ji16, .int .i64 (wrap64 ((wrap64 ((wrap64 ((wrap64 (t171 + (Int.tmod (rd t174 0) (wrap64 ((wrap64 (t172 - t171)) + 1))))) + (rd t174 1))) + (wrap64 ((Int.tmod (rd t174 2) 50) + (Int.tmod (rd t174 4) (wrap64 ((wrap64 ((wrap64 ((Int.tmod (rd t174 2) 50) + (Int.tmod (rd t174 3) 50))) - (Int.tmod (rd t174 2) 50))) + 1))))))) + (Int.tmod (rd t174 6) 30)))] 25 (0, 0)) (by (with_reducible repeat (first | refine blk_drewN ?_ _ | refine blk_drew ?_ | refine blk_alloc ?_ _)); exact BK191.out) hb)
                                  have n5_ := Aside0.mk (blk_below (g := gb195) (o := .cells #[.int .i64 t192, .int .i64 t193] 25 (0, 0)) (by (with_reducible repeat (first | refine blk_drewN ?_ _ | refine blk_drew ?_ | refine blk_alloc ?_ _)); exact BK195.out) hb)
                                  have n6_ := Aside0.mk (below_step (by repeat (first | (with_reducible first | exact HB.out | apply below_alloc | apply pw_below_drewN | apply below_drew1 | refine below_set ?_ GE173.out | refine below_set ?_ GE181.out | refine below_set ?_ GE187.out | refine below_set ?_ GE191.out | refine below_set ?_ GE195.out) | exact HB.out)) hb)
                                  clear HO176
                                  clear BK173
                                  clear BK181
                                  clear BK187
                                  clear BK191
                                  clear BK195
                                  clear HB
                                  have HO176 := n0_
                                  have BK173 := n1_
                                  have BK181 := n2_
                                  have BK187 := n3_
                                  have BK191 := n4_
                                  have BK195 := n5_
                                  have HB := n6_
                                  clear n0_ n1_ n2_ n3_ n4_ n5_ n6_
                                  (try clear hb)
                                  (try clear hb2)
                                  (try clear hk)
                                  (try clear hi)
                                  refine hK.out _ _ ⟨(blk_cell BK173.out 0).trans rfl, (blk_cell BK173.out 1).trans rfl, (blk_cell BK181.out 0).trans rfl, (blk_cell BK181.out 1).trans rfl, (blk_cell BK187.out 0).trans rfl, (blk_cell BK187.out 1).trans rfl, (blk_cell BK195.out 0).trans rfl, (blk_cell BK195.out 1).trans rfl, HS8_⟩ (fun hHeld => ?_)
                                  clear hK K
                                  refine norm_ (a' := ?_) ?_ ?_
                                  rotate_left
                                  · show Act.put _ (some 126) _ = _
                                    simp only [Act.put, List.setIfInBounds_toArray, List.set_cons_zero, List.set_cons_succ, i64_w, i32_w]
                                    rfl
                                  refine pure_ (i := 38) (N := some 128) (v := ?_) (a' := ?_) #[true, true, true, true, true, true, true, true, true, true, true, true, true, true, true, true, true, true, true, true, true, true, true, true, true, true, true, true, true, true, true, true, true, true, true, true, true, true, true, true, false, false, false, false] rfl rfl (any_of HT_.out (by kernel_rfl)) (fun _ _ _ h => h) (Or.inl ⟨by rfl, ?_⟩) ?_ ?_
                                  rotate_left
                                  · intro w'
                                    go_simp
                                    with_reducible rfl
                                  rotate_left
                                  · simp only [Act.put, List.setIfInBounds_toArray, List.set_cons_zero, List.set_cons_succ, i64_w, i32_w]
                                    rfl
                                  refine pure_ (i := 40) (N := some 130) (v := ?_) (a' := ?_) #[true, true, true, true, true, true, true, true, true, true, true, true, true, true, true, true, true, true, true, true, true, true, true, true, true, true, true, true, true, true, true, true, true, true, true, true, true, true, true, true, true, false, false, false] rfl rfl (any_of HT_.out (by kernel_rfl)) (fun _ _ _ h => h) (Or.inl ⟨by rfl, ?_⟩) ?_ ?_
                                  rotate_left
                                  · intro w'
                                    go_simp
                                    with_reducible rfl
                                  rotate_left
                                  · simp only [Act.put, List.setIfInBounds_toArray, List.set_cons_zero, List.set_cons_succ, i64_w, i32_w]
                                    rfl
                                  refine pure_ (i := 41) (N := some 131) (v := ?_) (a' := ?_) #[true, true, true, true, true, true, true, true, true, true, true, true, true, true, true, true, true, true, true, true, true, true, true, true, true, true, true, true, true, true, true, true, true, true, true, true, true, true, true, true, true, true, false, false] rfl rfl (any_of HT_.out (by kernel_rfl)) (fun _ _ _ h => h) (Or.inl ⟨by rfl, ?_⟩) ?_ ?_
                                  rotate_left
                                  · intro w'
                                    go_simp
                                    with_reducible rfl
                                  rotate_left
                                  · simp only [Act.put, List.setIfInBounds_toArray, List.set_cons_zero, List.set_cons_succ, i64_w, i32_w]
                                    rfl
                                  refine pure_ (i := 42) (N := some 132) (v := ?_) (a' := ?_) #[true, true, true, true, true, true, true, true, true, true, true, true, true, true, true, true, true, true, true, true, true, true, true, true, true, true, true, true, true, true, true, true, true, true, true, true, true, true, true, true, true, true, true, false] rfl rfl (any_of HT_.out (by kernel_rfl)) (fun _ _ _ h => h) (Or.inl ⟨by rfl, ?_⟩) ?_ ?_
                                  rotate_left
                                  · intro w'
                                    go_simp
                                    with_reducible rfl
                                  rotate_left
                                  · simp only [Act.put, List.setIfInBounds_toArray, List.set_cons_zero, List.set_cons_succ, i64_w, i32_w]
                                    rfl
                                  refine pure_ (i := 43) (N := some 2) (v := ?_) (a' := ?_) #[true, true, true, true, true, true, true, true, true, true, true, true, true, true, true, true, true, true, true, true, true, true, true, true, true, true, true, true, true, true, true, true, true, true, true, true, true, true, true, true, true, true, true, true] rfl rfl (any_of HT_.out (by kernel_rfl)) (fun _ _ _ h => h) (Or.inl ⟨by rfl, ?_⟩) ?_ ?_
                                  rotate_left
                                  · intro w'
                                    go_simp
                                    with_reducible rfl
                                  rotate_left
                                  · simp only [Act.put, List.setIfInBounds_toArray, List.set_cons_zero, List.set_cons_succ, i64_w, i32_w]
                                    rfl
                                  refine done_ (done_of HT_.out (by kernel_rfl)) ?_
                                  try go_wp2
                                  go_ret
                                  exact ⟨by first | rfl | (simp [errW_none, errW_some] <;> rfl) | (simp only [← hji16]; first | rfl | (simp [errW_none, errW_some] <;> rfl)) | (simp [*, errW_none, errW_some] <;> rfl), by repeat (first | (with_reducible first | exact HB.out | apply below_alloc | apply pw_below_drewN | apply below_drew1 | refine below_set ?_ GE173.out | refine below_set ?_ GE181.out | refine below_set ?_ GE187.out | refine below_set ?_ GE191.out | refine below_set ?_ GE195.out) | exact HB.out)⟩
                                · rw [if_neg c30] at H
                                  have c30b0 : decide (t201 ≤ t202) = false := decide_eq_false c30
                                  clear c30
                                  obtain rfl := Option.some.inj H
                                  exact absurd hr.out (by decide)
                              · replace c27 := Bool.eq_false_iff.mpr c27
                                subst c27
                                have H1 : (some false) = some r := by rw [if_neg (show ¬ (false = true) by decide)] at H; exact H
                                clear H
                                have H := H1
                                clear H1
                                obtain rfl := Option.some.inj H
                                exact absurd hr.out (by decide)
                            · replace c25 := Bool.eq_false_iff.mpr c25
                              subst c25
                              have H1 : (some false) = some r := by rw [if_neg (show ¬ (false = true) by decide)] at H; exact H
                              clear H
                              have H := H1
                              clear H1
                              obtain rfl := Option.some.inj H
                              exact absurd hr.out (by decide)
                          · replace c24 := Bool.eq_false_iff.mpr c24
                            subst c24
                            have H1 : (some false) = some r := by rw [if_neg (show ¬ (false = true) by decide)] at H; exact H
                            clear H
                            have H := H1
                            clear H1
                            obtain rfl := Option.some.inj H
                            exact absurd hr.out (by decide)
                        · replace c22 := Bool.eq_false_iff.mpr c22
                          subst c22
                          have H1 : (some false) = some r := by rw [if_neg (show ¬ (false = true) by decide)] at H; exact H
                          clear H
                          have H := H1
                          clear H1
                          obtain rfl := Option.some.inj H
                          exact absurd hr.out (by decide)
                      · replace c20 := Bool.eq_false_iff.mpr c20
                        subst c20
                        have H1 : (some false) = some r := by rw [if_neg (show ¬ (false = true) by decide)] at H; exact H
                        clear H
                        have H := H1
                        clear H1
                        obtain rfl := Option.some.inj H
                        exact absurd hr.out (by decide)
                    · rw [if_neg c17] at H
                      exact absurd H (by simp)
                  · rw [if_neg c15] at H
                    exact absurd H (by simp)
              · rw [if_neg c12] at H
                exact absurd H (by simp)
            · rw [if_neg c11] at H
              exact absurd H (by simp)
          · rw [if_neg c10] at H
            exact absurd H (by simp)
        · rw [if_neg c8] at H
          exact absurd H (by simp)
    · rw [if_neg c6] at H
      exact absurd H (by simp)


/-- THE ONE PURE STATEMENT of laws_FnClocks: yours. -/
def laws_FnClocks.Pure : Prop := ∀ (l0 : List Int), l0.length ≤ maxLen → l0.length * 1 ≤ 140737488351232 → (∀ x ∈ l0, (Lit.int .u8 x).wf = true) → ∃ k, laws_FnClocks.f k l0 = some true
theorem laws_FnClocks.walk (P : laws_FnClocks.Pure) (a0 : Option Addr) (len0 cap0 : Nat) (z0 : List Int) (w : World) (w0 : (a0 = none ∧ len0 = 0 ∧ cap0 = 0 ∧ z0 = []) ∨ ∃ x, a0 = some x ∧ len0 ≤ cap0 ∧ cap0 ≤ maxLen ∧ z0.length = cap0 ∧ (∀ i, i < z0.length → w.cell? (x.add i) = some (.int .u8 (z0.getD i 0))) ∧ ∀ n ∈ z0, (Lit.int .u8 n).wf = true) (y0 : len0 * 1 ≤ 140737488351232) :
    Calls Try.prog 15 #[.slice a0 len0 cap0] w fun e w' => e = .returned (.bool true) ∧ Below w.heap.size w w' := by
  obtain ⟨l0, rfl, hr0, hm0, hw0, hc0⟩ := ReadsInt.ofRowC w0
  obtain ⟨k, h⟩ := P l0 hm0 y0 hw0
  refine (laws_FnClocks.calls k _ _ l0 true w (Kd.C_of_reads (d := (0 : Int)) (h1 := fun _ => rfl) hr0) hc0 ⟨rfl⟩ h).mono ?_
  rintro e w' ⟨rfl, hd⟩
  exact ⟨rfl, hd⟩

end Go.Proofs.Ytkpaglomidgilaa.QFnClocks
