/- Functions that the law FnFreshFor reaches: of each a Lean function and the proof that a call comes to just its answer. Laid by program. -/
import Derived.Test.YtkpaglomidgilaaQFnFreshFor1
namespace Go.Proofs.Ytkpaglomidgilaa.QFnFreshFor
open Go.RowKit Go.Proofs.YtkpaglomidgilaaW.PrintWords Go.Proofs.YtkpaglomidgilaaW.PrintLast Go.Proofs.YtkpaglomidgilaaW.PrintMore
attribute [local go_sem] max2_int min2_int max_two min_two max_three min_three max_four min_four   -- for this text's walks alone
set_option linter.unusedVariables false
set_option linter.unusedSimpArgs false


/-! ### laws_FnFreshFor: function 18 -/
def laws_FnFreshFor.f (k : Nat) (l0 : List Int) : Option (Bool) := (laws_big.f l0).bind fun t176 => (if t176 = true then (some true) else ((spec_DrawSpan.f k l0).bind fun bt177 => ((spec_DrawPlaces.f k l0).bind fun t180 => (if 0 < (t180.length : Int) then (if 1 < (t180.length : Int) then (if 2 < (t180.length : Int) then ((impl_FreshFor.f bt177.1 bt177.2 5 (Int.tmod (rd t180 0) 200) (wrap64 ((Int.tmod (rd t180 0) 200) + (Int.tmod (rd t180 1) 40))) (Int.tmod (rd t180 2) 300)).bind fun t189 => (if t189 < 0 then ((impl_FreshState.f bt177.1 bt177.2 5 (Int.tmod (rd t180 0) 200) (wrap64 ((Int.tmod (rd t180 0) 200) + (Int.tmod (rd t180 1) 40))) (Int.tmod (rd t180 2) 300)).bind fun t190 => (some (t190 != 1))) else ((impl_PassOn.f bt177.1 bt177.2 t189).bind fun bt191 => ((impl_FreshState.f bt191.1 bt191.2 5 (Int.tmod (rd t180 0) 200) (wrap64 ((Int.tmod (rd t180 0) 200) + (Int.tmod (rd t180 1) 40))) (Int.tmod (rd t180 2) 300)).bind fun t193 => (if t193 = 1 then ((impl_PassOn.f bt177.1 bt177.2 (wrap64 (t189 + 1))).bind fun bt194 => ((impl_FreshState.f bt194.1 bt194.2 5 (Int.tmod (rd t180 0) 200) (wrap64 ((Int.tmod (rd t180 0) 200) + (Int.tmod (rd t180 1) 40))) (Int.tmod (rd t180 2) 300)).bind fun t196 => (if t196 = 1 then (some false) else ((impl_NewestOf.f k (([(⟨5, (⟨Int.tmod (rd t180 0) 200, wrap64 ((Int.tmod (rd t180 0) 200) + (Int.tmod (rd t180 1) 40))⟩ : S25)⟩ : S50), (⟨5, (⟨Int.tmod (rd t180 0) 200, wrap64 ((Int.tmod (rd t180 0) 200) + (Int.tmod (rd t180 1) 40))⟩ : S25)⟩ : S50)] : List (S50)))).bind fun t200 => (some (t200 == 0)))))) else (some false)))))) else (none)) else (none)) else (none)))))
theorem laws_FnFreshFor.mono : ∀ a0 k, LeO (laws_FnFreshFor.f k a0) (laws_FnFreshFor.f (k + 1) a0) := by
  intro a0 k
  unfold laws_FnFreshFor.f
  repeat' first
      | (with_reducible exact impl_NewestOf.mono _ _)
      | (with_reducible exact spec_DrawPlaces.mono _ _)
      | (with_reducible exact spec_DrawSpan.mono _ _)
      | (with_reducible exact LeO.refl _)
      | (with_reducible exact LeO.none _)
      | (with_reducible refine LeO.ite ?_ ?_)
      | (with_reducible refine LeO.bind ?_ (fun _ => ?_))
      | exact impl_NewestOf.mono _ _
      | exact spec_DrawPlaces.mono _ _
      | exact spec_DrawSpan.mono _ _
      | exact LeO.none _
      | refine LeO.ite ?_ ?_
      | refine LeO.bind ?_ (fun _ => ?_)
def laws_FnFreshFor.T5 : Bool × List (List Nat × List Nat) := (true, [([], []), ([0], [0]), ([1], [1]), ([2], [2]), ([], []), ([4], [4]), ([5], [5]), ([6], [6]), ([], []), ([8], [8]), ([9], [9]), ([10], [10]), ([7, 11], [7, 11]), ([3, 12], [3, 12]), ([], []), ([14, 13, 0, 1, 2, 3, 4, 5, 6, 7, 8, 9, 10, 11, 12, 13, 14], [13, 14])])
def laws_FnFreshFor.B5 : List Nat := [0, 1, 3, 7, 0, 16, 48, 112, 0, 256, 768, 1792, 4080, 8191, 0, 32767]
theorem laws_FnFreshFor.tab5 : rtab .any (opsOf Try.f18 5) = laws_FnFreshFor.T5 := by kernel_rfl
theorem laws_FnFreshFor.bits5 : waitsOk laws_FnFreshFor.T5.2 laws_FnFreshFor.B5 = true := by kernel_rfl
def laws_FnFreshFor.T11 : Bool × List (List Nat × List Nat) := (true, [([], []), ([], []), ([0, 1], [0, 1]), ([], []), ([], []), ([2, 3, 4, 2], [2, 3, 4]), ([5], [5]), ([6, 5], [6]), ([7], [7]), ([7], [7]), ([9, 7], [7, 9]), ([8, 10, 7, 7], [7, 8, 10]), ([7], [7]), ([7], [7]), ([11, 12, 13, 11, 7], [7, 11, 12, 13]), ([14, 7], [7, 14]), ([7, 15], [7, 15]), ([16, 14], [16]), ([17], [17]), ([17], [17]), ([18, 19, 17], [17, 18, 19]), ([20, 17, 17], [17, 20]), ([21, 17], [17, 21]), ([17, 22], [17, 22]), ([23, 21, 0, 1, 2, 3, 4, 5, 6, 7, 8, 9, 10, 11, 12, 13, 14, 15, 16, 17, 18, 19, 20, 21, 22, 23], [23])])
def laws_FnFreshFor.B11 : List Nat := [0, 0, 3, 0, 0, 31, 63, 127, 255, 255, 767, 2047, 255, 255, 16383, 32767, 65535, 131071, 262143, 262143, 1048575, 2097151, 4194303, 8388607, 16777215]
theorem laws_FnFreshFor.tab11 : rtab .any (opsOf Try.f18 11) = laws_FnFreshFor.T11 := by kernel_rfl
theorem laws_FnFreshFor.bits11 : waitsOk laws_FnFreshFor.T11.2 laws_FnFreshFor.B11 = true := by kernel_rfl
set_option maxHeartbeats 8000000 in
set_option maxRecDepth 100000 in
theorem laws_FnFreshFor.calls (k : Nat) (A0 : Option Addr) (c0 : Nat) (l0 : List Int) (r : Bool) (w : World) (hr0 : Kd.C (Kd.int .u8) w A0 l0.length l0) (hc0 : l0.length ≤ c0) (hr : Aside0 (r = true)) (h : laws_FnFreshFor.f k l0 = some r) :
    Calls Try.prog 18 #[.slice A0 l0.length c0] w fun e w' => e = .returned (.bool r) ∧ Below w.heap.size w w' := by
  have hu25 := Try.underlying25
  have hu50 := Try.underlying50
  have HR0 := Aside0.mk hr0
  have HC0 := Aside0.mk hc0
  clear hr0 hc0
  have HB := Aside0.mk (Below.refl w.heap.size w)
  have H : ((laws_big.f l0).bind fun t176 => (if t176 = true then (some true) else ((spec_DrawSpan.f k l0).bind fun bt177 => ((spec_DrawPlaces.f k l0).bind fun t180 => (if 0 < (t180.length : Int) then (if 1 < (t180.length : Int) then (if 2 < (t180.length : Int) then ((impl_FreshFor.f bt177.1 bt177.2 5 (Int.tmod (rd t180 0) 200) (wrap64 ((Int.tmod (rd t180 0) 200) + (Int.tmod (rd t180 1) 40))) (Int.tmod (rd t180 2) 300)).bind fun t189 => (if t189 < 0 then ((impl_FreshState.f bt177.1 bt177.2 5 (Int.tmod (rd t180 0) 200) (wrap64 ((Int.tmod (rd t180 0) 200) + (Int.tmod (rd t180 1) 40))) (Int.tmod (rd t180 2) 300)).bind fun t190 => (some (t190 != 1))) else ((impl_PassOn.f bt177.1 bt177.2 t189).bind fun bt191 => ((impl_FreshState.f bt191.1 bt191.2 5 (Int.tmod (rd t180 0) 200) (wrap64 ((Int.tmod (rd t180 0) 200) + (Int.tmod (rd t180 1) 40))) (Int.tmod (rd t180 2) 300)).bind fun t193 => (if t193 = 1 then ((impl_PassOn.f bt177.1 bt177.2 (wrap64 (t189 + 1))).bind fun bt194 => ((impl_FreshState.f bt194.1 bt194.2 5 (Int.tmod (rd t180 0) 200) (wrap64 ((Int.tmod (rd t180 0) 200) + (Int.tmod (rd t180 1) 40))) (Int.tmod (rd t180 2) 300)).bind fun t196 => (if t196 = 1 then (some false) else ((impl_NewestOf.f k (([(⟨5, (⟨Int.tmod (rd t180 0) 200, wrap64 ((Int.tmod (rd t180 0) 200) + (Int.tmod (rd t180 1) 40))⟩ : S25)⟩ : S50), (⟨5, (⟨Int.tmod (rd t180 0) 200, wrap64 ((Int.tmod (rd t180 0) 200) + (Int.tmod (rd t180 1) 40))⟩ : S25)⟩ : S50)] : List (S50)))).bind fun t200 => (some (t200 == 0)))))) else (some false)))))) else (none)) else (none)) else (none)))))) = some r := h
  clear h
  replace H := Option.bind_eq_some_iff.mp H
  obtain ⟨t176, A20, H⟩ := H
  replace H : (if t176 = true then (some true) else ((spec_DrawSpan.f k l0).bind fun bt177 => ((spec_DrawPlaces.f k l0).bind fun t180 => (if 0 < (t180.length : Int) then (if 1 < (t180.length : Int) then (if 2 < (t180.length : Int) then ((impl_FreshFor.f bt177.1 bt177.2 5 (Int.tmod (rd t180 0) 200) (wrap64 ((Int.tmod (rd t180 0) 200) + (Int.tmod (rd t180 1) 40))) (Int.tmod (rd t180 2) 300)).bind fun t189 => (if t189 < 0 then ((impl_FreshState.f bt177.1 bt177.2 5 (Int.tmod (rd t180 0) 200) (wrap64 ((Int.tmod (rd t180 0) 200) + (Int.tmod (rd t180 1) 40))) (Int.tmod (rd t180 2) 300)).bind fun t190 => (some (t190 != 1))) else ((impl_PassOn.f bt177.1 bt177.2 t189).bind fun bt191 => ((impl_FreshState.f bt191.1 bt191.2 5 (Int.tmod (rd t180 0) 200) (wrap64 ((Int.tmod (rd t180 0) 200) + (Int.tmod (rd t180 1) 40))) (Int.tmod (rd t180 2) 300)).bind fun t193 => (if t193 = 1 then ((impl_PassOn.f bt177.1 bt177.2 (wrap64 (t189 + 1))).bind fun bt194 => ((impl_FreshState.f bt194.1 bt194.2 5 (Int.tmod (rd t180 0) 200) (wrap64 ((Int.tmod (rd t180 0) 200) + (Int.tmod (rd t180 1) 40))) (Int.tmod (rd t180 2) 300)).bind fun t196 => (if t196 = 1 then (some false) else ((impl_NewestOf.f k (([(⟨5, (⟨Int.tmod (rd t180 0) 200, wrap64 ((Int.tmod (rd t180 0) 200) + (Int.tmod (rd t180 1) 40))⟩ : S25)⟩ : S50), (⟨5, (⟨Int.tmod (rd t180 0) 200, wrap64 ((Int.tmod (rd t180 0) 200) + (Int.tmod (rd t180 1) 40))⟩ : S25)⟩ : S50)] : List (S50)))).bind fun t200 => (some (t200 == 0)))))) else (some false)))))) else (none)) else (none)) else (none))))) = some r := H
  have A2 := Aside0.mk A20
  clear A20
  by_cases c3 : t176 = true
  · subst c3
    have H1 : (some true) = some r := by rw [if_pos rfl] at H; exact H
    clear H
    have H := H1
    clear H1
    obtain rfl := Option.some.inj H
    go_enter Try.func18, Try.ntmps18
    go_wp2_with (first | ((with_reducible refine gate_callee (f := 47) rfl ?_); refine goesL_ (some 10) rfl rfl Try.func47 (by kernel_rfl) rfl #[.slice A0 l0.length c0] rfl (by (try simp only [List.map_toArray, List.map_cons, List.map_nil]); first | done | rfl | (simp only [List.length_drop, List.length_take]; rfl)) ?_; (with_reducible refine (laws_big.calls _ _ l0 true _ ?side1 ?side2 A2.out).mono ?_); (case side1 => repeat (first | exact HR0.out | (with_reducible refine Kd.C_alloc ?_ _) | (with_reducible refine Kd.C_drewN ?_ _) | (with_reducible refine Kd.C_drew ?_))); (case side2 => exact HC0.out); rintro e w' ⟨rfl, ⟨nd, rfl⟩⟩; refine ⟨_, rfl, ?_⟩))
    go_ret
    exact ⟨by first | rfl | (simp [errW_none, errW_some] <;> rfl) | (simp [*, errW_none, errW_some] <;> rfl), by repeat (first | (with_reducible first | exact HB.out | apply below_alloc | apply pw_below_drewN | apply below_drew1) | exact HB.out)⟩
  · replace c3 := Bool.eq_false_iff.mpr c3
    subst c3
    have H1 : ((spec_DrawSpan.f k l0).bind fun bt177 => ((spec_DrawPlaces.f k l0).bind fun t180 => (if 0 < (t180.length : Int) then (if 1 < (t180.length : Int) then (if 2 < (t180.length : Int) then ((impl_FreshFor.f bt177.1 bt177.2 5 (Int.tmod (rd t180 0) 200) (wrap64 ((Int.tmod (rd t180 0) 200) + (Int.tmod (rd t180 1) 40))) (Int.tmod (rd t180 2) 300)).bind fun t189 => (if t189 < 0 then ((impl_FreshState.f bt177.1 bt177.2 5 (Int.tmod (rd t180 0) 200) (wrap64 ((Int.tmod (rd t180 0) 200) + (Int.tmod (rd t180 1) 40))) (Int.tmod (rd t180 2) 300)).bind fun t190 => (some (t190 != 1))) else ((impl_PassOn.f bt177.1 bt177.2 t189).bind fun bt191 => ((impl_FreshState.f bt191.1 bt191.2 5 (Int.tmod (rd t180 0) 200) (wrap64 ((Int.tmod (rd t180 0) 200) + (Int.tmod (rd t180 1) 40))) (Int.tmod (rd t180 2) 300)).bind fun t193 => (if t193 = 1 then ((impl_PassOn.f bt177.1 bt177.2 (wrap64 (t189 + 1))).bind fun bt194 => ((impl_FreshState.f bt194.1 bt194.2 5 (Int.tmod (rd t180 0) 200) (wrap64 ((Int.tmod (rd t180 0) 200) + (Int.tmod (rd t180 1) 40))) (Int.tmod (rd t180 2) 300)).bind fun t196 => (if t196 = 1 then (some false) else ((impl_NewestOf.f k (([(⟨5, (⟨Int.tmod (rd t180 0) 200, wrap64 ((Int.tmod (rd t180 0) 200) + (Int.tmod (rd t180 1) 40))⟩ : S25)⟩ : S50), (⟨5, (⟨Int.tmod (rd t180 0) 200, wrap64 ((Int.tmod (rd t180 0) 200) + (Int.tmod (rd t180 1) 40))⟩ : S25)⟩ : S50)] : List (S50)))).bind fun t200 => (some (t200 == 0)))))) else (some false)))))) else (none)) else (none)) else (none)))) = some r := by rw [if_neg (show ¬ (false = true) by decide)] at H; exact H
    clear H
    have H := H1
    clear H1
    replace H := Option.bind_eq_some_iff.mp H
    obtain ⟨⟨t177, t178⟩, A40, H⟩ := H
    replace H : ((spec_DrawPlaces.f k l0).bind fun t180 => (if 0 < (t180.length : Int) then (if 1 < (t180.length : Int) then (if 2 < (t180.length : Int) then ((impl_FreshFor.f t177 t178 5 (Int.tmod (rd t180 0) 200) (wrap64 ((Int.tmod (rd t180 0) 200) + (Int.tmod (rd t180 1) 40))) (Int.tmod (rd t180 2) 300)).bind fun t189 => (if t189 < 0 then ((impl_FreshState.f t177 t178 5 (Int.tmod (rd t180 0) 200) (wrap64 ((Int.tmod (rd t180 0) 200) + (Int.tmod (rd t180 1) 40))) (Int.tmod (rd t180 2) 300)).bind fun t190 => (some (t190 != 1))) else ((impl_PassOn.f t177 t178 t189).bind fun bt191 => ((impl_FreshState.f bt191.1 bt191.2 5 (Int.tmod (rd t180 0) 200) (wrap64 ((Int.tmod (rd t180 0) 200) + (Int.tmod (rd t180 1) 40))) (Int.tmod (rd t180 2) 300)).bind fun t193 => (if t193 = 1 then ((impl_PassOn.f t177 t178 (wrap64 (t189 + 1))).bind fun bt194 => ((impl_FreshState.f bt194.1 bt194.2 5 (Int.tmod (rd t180 0) 200) (wrap64 ((Int.tmod (rd t180 0) 200) + (Int.tmod (rd t180 1) 40))) (Int.tmod (rd t180 2) 300)).bind fun t196 => (if t196 = 1 then (some false) else ((impl_NewestOf.f k (([(⟨5, (⟨Int.tmod (rd t180 0) 200, wrap64 ((Int.tmod (rd t180 0) 200) + (Int.tmod (rd t180 1) 40))⟩ : S25)⟩ : S50), (⟨5, (⟨Int.tmod (rd t180 0) 200, wrap64 ((Int.tmod (rd t180 0) 200) + (Int.tmod (rd t180 1) 40))⟩ : S25)⟩ : S50)] : List (S50)))).bind fun t200 => (some (t200 == 0)))))) else (some false)))))) else (none)) else (none)) else (none))) = some r := H
    have A4 := Aside0.mk A40
    clear A40
    replace H := Option.bind_eq_some_iff.mp H
    obtain ⟨t180, A50, H⟩ := H
    replace H : (if 0 < (t180.length : Int) then (if 1 < (t180.length : Int) then (if 2 < (t180.length : Int) then ((impl_FreshFor.f t177 t178 5 (Int.tmod (rd t180 0) 200) (wrap64 ((Int.tmod (rd t180 0) 200) + (Int.tmod (rd t180 1) 40))) (Int.tmod (rd t180 2) 300)).bind fun t189 => (if t189 < 0 then ((impl_FreshState.f t177 t178 5 (Int.tmod (rd t180 0) 200) (wrap64 ((Int.tmod (rd t180 0) 200) + (Int.tmod (rd t180 1) 40))) (Int.tmod (rd t180 2) 300)).bind fun t190 => (some (t190 != 1))) else ((impl_PassOn.f t177 t178 t189).bind fun bt191 => ((impl_FreshState.f bt191.1 bt191.2 5 (Int.tmod (rd t180 0) 200) (wrap64 ((Int.tmod (rd t180 0) 200) + (Int.tmod (rd t180 1) 40))) (Int.tmod (rd t180 2) 300)).bind fun t193 => (if t193 = 1 then ((impl_PassOn.f t177 t178 (wrap64 (t189 + 1))).bind fun bt194 => ((impl_FreshState.f bt194.1 bt194.2 5 (Int.tmod (rd t180 0) 200) (wrap64 ((Int.tmod (rd t180 0) 200) + (Int.tmod (rd t180 1) 40))) (Int.tmod (rd t180 2) 300)).bind fun t196 => (if t196 = 1 then (some false) else ((impl_NewestOf.f k (([(⟨5, (⟨Int.tmod (rd t180 0) 200, wrap64 ((Int.tmod (rd t180 0) 200) + (Int.tmod (rd t180 1) 40))⟩ : S25)⟩ : S50), (⟨5, (⟨Int.tmod (rd t180 0) 200, wrap64 ((Int.tmod (rd t180 0) 200) + (Int.tmod (rd t180 1) 40))⟩ : S25)⟩ : S50)] : List (S50)))).bind fun t200 => (some (t200 == 0)))))) else (some false)))))) else (none)) else (none)) else (none)) = some r := H
    have A5 := Aside0.mk A50
    clear A50
    by_cases c6 : 0 < (t180.length : Int)
    · rw [if_pos c6] at H
      have c6b0 : decide (0 < (t180.length : Int)) = true := decide_eq_true c6
      have c6b1 : decide (0 < t180.length) = true := decide_eq_true (by omega)
      clear c6
      by_cases c7 : 1 < (t180.length : Int)
      · rw [if_pos c7] at H
        have c7b0 : decide (1 < (t180.length : Int)) = true := decide_eq_true c7
        have c7b1 : decide (1 < t180.length) = true := decide_eq_true (by omega)
        clear c7
        by_cases c8 : 2 < (t180.length : Int)
        · rw [if_pos c8] at H
          have c8b0 : decide (2 < (t180.length : Int)) = true := decide_eq_true c8
          have c8b1 : decide (2 < t180.length) = true := decide_eq_true (by omega)
          clear c8
          replace H := Option.bind_eq_some_iff.mp H
          obtain ⟨t189, A90, H⟩ := H
          replace H : (if t189 < 0 then ((impl_FreshState.f t177 t178 5 (Int.tmod (rd t180 0) 200) (wrap64 ((Int.tmod (rd t180 0) 200) + (Int.tmod (rd t180 1) 40))) (Int.tmod (rd t180 2) 300)).bind fun t190 => (some (t190 != 1))) else ((impl_PassOn.f t177 t178 t189).bind fun bt191 => ((impl_FreshState.f bt191.1 bt191.2 5 (Int.tmod (rd t180 0) 200) (wrap64 ((Int.tmod (rd t180 0) 200) + (Int.tmod (rd t180 1) 40))) (Int.tmod (rd t180 2) 300)).bind fun t193 => (if t193 = 1 then ((impl_PassOn.f t177 t178 (wrap64 (t189 + 1))).bind fun bt194 => ((impl_FreshState.f bt194.1 bt194.2 5 (Int.tmod (rd t180 0) 200) (wrap64 ((Int.tmod (rd t180 0) 200) + (Int.tmod (rd t180 1) 40))) (Int.tmod (rd t180 2) 300)).bind fun t196 => (if t196 = 1 then (some false) else ((impl_NewestOf.f k (([(⟨5, (⟨Int.tmod (rd t180 0) 200, wrap64 ((Int.tmod (rd t180 0) 200) + (Int.tmod (rd t180 1) 40))⟩ : S25)⟩ : S50), (⟨5, (⟨Int.tmod (rd t180 0) 200, wrap64 ((Int.tmod (rd t180 0) 200) + (Int.tmod (rd t180 1) 40))⟩ : S25)⟩ : S50)] : List (S50)))).bind fun t200 => (some (t200 == 0)))))) else (some false))))) = some r := H
          have A9 := Aside0.mk A90
          clear A90
          by_cases c10 : t189 < 0
          · rw [if_pos c10] at H
            have c10b0 : decide (t189 < 0) = true := decide_eq_true c10
            clear c10
            replace H := Option.bind_eq_some_iff.mp H
            obtain ⟨t190, A110, H⟩ := H
            replace H : (some (t190 != 1)) = some r := H
            have A11 := Aside0.mk A110
            clear A110
            obtain rfl := Option.some.inj H
            go_enter Try.func18, Try.ntmps18
            try go_wp2_with (first | ((with_reducible refine gate_callee (f := 47) rfl ?_); refine goesL_ (some 10) rfl rfl Try.func47 (by kernel_rfl) rfl #[.slice A0 l0.length c0] rfl (by (try simp only [List.map_toArray, List.map_cons, List.map_nil]); first | done | rfl | (simp only [List.length_drop, List.length_take]; rfl)) ?_; (with_reducible refine (laws_big.calls _ _ l0 false _ ?side1 ?side2 A2.out).mono ?_); (case side1 => repeat (first | exact HR0.out | (with_reducible refine Kd.C_alloc ?_ _) | (with_reducible refine Kd.C_drewN ?_ _) | (with_reducible refine Kd.C_drew ?_))); (case side2 => exact HC0.out); rintro e w' ⟨rfl, ⟨nd, rfl⟩⟩; refine ⟨_, rfl, ?_⟩) | ((with_reducible refine gate_callee (f := 48) rfl ?_); refine goesL_ (some 12) rfl rfl Try.func48 (by kernel_rfl) rfl #[.slice A0 l0.length c0] rfl (by (try simp only [List.map_toArray, List.map_cons, List.map_nil]); first | done | rfl | (simp only [List.length_drop, List.length_take]; rfl)) ?_; (with_reducible refine (spec_DrawSpan.calls k _ _ l0 t177 t178 _ ?side1 ?side2 A4.out).mono ?_); (case side1 => repeat (first | exact HR0.out | (with_reducible refine Kd.C_alloc ?_ _) | (with_reducible refine Kd.C_drewN ?_ _) | (with_reducible refine Kd.C_drew ?_))); (case side2 => exact HC0.out); rintro e w12 ⟨rfl, hb⟩; refine ⟨_, rfl, ?_⟩; have n0_ := Aside0.mk (below_step (by repeat (first | (with_reducible first | exact HB.out | apply below_alloc | apply pw_below_drewN | apply below_drew1) | exact HB.out)) hb); clear HB; have HB := n0_; clear n0_; (try clear hb); (try clear hb2); (try clear hk); (try clear hi)) | ((with_reducible refine gate_dst (N := 3) rfl ?_); (try (refine gate_guard (by rfl) ?_; dsimp only)); refine box_event ?hg (N := 3) ?hd (cs := #[.int .i64 0, .int .i64 0]) (t := 25) ?hr ?_; (case hd => rfl); (case hg => rfl); (case hr => first | (go_simp; done) | (go_simp; rfl)); intro gb179 hg w13 hbox hb; have n0_ := Aside0.mk (below_step (by repeat (first | (with_reducible first | exact HB.out | apply below_alloc | apply pw_below_drewN | apply below_drew1) | exact HB.out)) hb); have n1_ := Aside0.mk (hbox); have n2_ := Aside0.mk ((by rw [hg]; exact (below_size (by repeat (first | (with_reducible first | exact HB.out | apply below_alloc | apply pw_below_drewN | apply below_drew1) | exact HB.out))) : w.heap.size ≤ gb179)); have n3_ := Aside0.mk ((by rw [hg]; exact (below_size (by repeat (first | (with_reducible first | exact HB.out | apply below_alloc | apply pw_below_drewN | apply below_drew1) | exact HB.out))) : w.heap.size ≤ gb179)); clear HB; have HB := n0_; have BK179 := n1_; have GW179 := n2_; have GE179 := n3_; clear n0_ n1_ n2_ n3_; clear hb hbox hg; have hcz14_0 : w13.cell? ⟨gb179, 0, none⟩ = some (.int .i64 0) := (blk_cell BK179.out 0).trans rfl; have hcz14_1 : w13.cell? ⟨gb179, 1, none⟩ = some (.int .i64 0) := (blk_cell BK179.out 1).trans rfl; have hfz14_0 := blk_frozen BK179.out 0; have hfz14_1 := blk_frozen BK179.out 1) | ((with_reducible refine gate_callee (f := 49) rfl ?_); refine goesL_ (some 14) rfl rfl Try.func49 (by kernel_rfl) rfl #[.slice A0 l0.length c0] rfl (by (try simp only [List.map_toArray, List.map_cons, List.map_nil]); first | done | rfl | (simp only [List.length_drop, List.length_take]; rfl)) ?_; (with_reducible refine (spec_DrawPlaces.calls k _ _ l0 t180 _ ?side1 ?side2 A5.out).mono ?_); (case side1 => exact Kd.C_below HR0.out (by repeat (first | (with_reducible first | exact HB.out | apply below_alloc | apply pw_below_drewN | apply below_drew1 | refine below_set ?_ GE179.out) | exact HB.out))); (case side2 => exact HC0.out); rintro e w15 ⟨v181, rfl, ho0, hb⟩; refine ⟨_, rfl, ?_⟩; have n0_ := Aside0.mk (Kd.R_lower ho0 (below_size (by repeat (first | (with_reducible first | exact HB.out | apply below_alloc | apply pw_below_drewN | apply below_drew1 | refine below_set ?_ GE179.out) | exact HB.out)))); have n1_ := Aside0.mk (blk_below (g := gb179) (o := .cells #[.int .i64 t177, .int .i64 t178] 25 (0, 0)) (by (with_reducible repeat (first | refine blk_drewN ?_ _ | refine blk_drew ?_ | refine blk_alloc ?_ _)); refine blk_put (cs := #[.int .i64 t177, .int .i64 0]) ?_ 1 _ rfl; (with_reducible repeat (first | refine blk_drewN ?_ _ | refine blk_drew ?_ | refine blk_alloc ?_ _)); refine blk_put (cs := #[.int .i64 0, .int .i64 0]) ?_ 0 _ rfl; (with_reducible repeat (first | refine blk_drewN ?_ _ | refine blk_drew ?_ | refine blk_alloc ?_ _)); exact BK179.out) hb); have n2_ := Aside0.mk (below_step (by repeat (first | (with_reducible first | exact HB.out | apply below_alloc | apply pw_below_drewN | apply below_drew1 | refine below_set ?_ GE179.out) | exact HB.out)) hb); clear BK179; clear HB; have HO182 := n0_; have BK179 := n1_; have HB := n2_; clear n0_ n1_ n2_; (try clear hb); (try clear hb2); (try clear hk); (try clear hi); (try clear ho0)))
            have n0_ := Aside0.mk (Kd.R_drew HO182.out)
            have n1_ := Aside0.mk (blk_drew BK179.out)
            have n2_ := Aside0.mk (below_drew1 HB.out)
            clear HO182
            clear BK179
            clear HB
            have HO182 := n0_
            have BK179 := n1_
            have HB := n2_
            clear n0_ n1_ n2_
            obtain ⟨Ao17, co17, eo17⟩ := Kd.R_slice HO182.out
            (first | subst eo17 | (injection eo17 with f1_ f2_ f3_; have f4_ := f1_.symm; have f5_ := f3_.symm; clear f1_ f2_ f3_; subst f4_; subst f5_))
            have p183 : 0 ≤ (0 : Int) := (by omega)
            have q183 : 0 < (t180.length : Int) := of_decide_eq_true (by first | (with_reducible assumption) | assumption)
            obtain ⟨ad183, e183, hx183_0⟩ := Kd.at_int (Kd.R_reads' HO182.out).2.2 0 p183 q183
            cases e183
            have qi183 : (0 < t180.length) = True := eq_true (by omega)
            (try rw [show ((0 : Int)).toNat = 0 from rfl] at hx183_0)
            (try rw [Addr.add_zero'] at hx183_0)
            replace p183 := eq_true p183
            replace q183 := eq_true q183
            have p184 : 0 ≤ (0 : Int) := (by omega)
            have q184 : 0 < (t180.length : Int) := of_decide_eq_true (by first | (with_reducible assumption) | assumption)
            obtain ⟨ad184, e184, hx184_0⟩ := Kd.at_int (Kd.R_reads' HO182.out).2.2 0 p184 q184
            obtain rfl : ad183 = ad184 := (by injection e184)
            have qi184 : (0 < t180.length) = True := eq_true (by omega)
            (try rw [show ((0 : Int)).toNat = 0 from rfl] at hx184_0)
            (try rw [Addr.add_zero'] at hx184_0)
            replace p184 := eq_true p184
            replace q184 := eq_true q184
            have p185 : 0 ≤ (1 : Int) := (by omega)
            have q185 : 1 < (t180.length : Int) := of_decide_eq_true (by first | (with_reducible assumption) | assumption)
            obtain ⟨ad185, e185, hx185_0⟩ := Kd.at_int (Kd.R_reads' HO182.out).2.2 1 p185 q185
            obtain rfl : ad183 = ad185 := (by injection e185)
            (try simp only [show (1 : Int).toNat = 1 from rfl, Nat.reduceMul, Nat.reduceEqDiff, Go.Addr.add, ↓reduceIte] at hx185_0)
            have qi185 : (1 < t180.length) = True := eq_true (by omega)
            (try rw [show ((1 : Int)).toNat = 1 from rfl] at hx185_0)
            replace p185 := eq_true p185
            replace q185 := eq_true q185
            refine start_ (n := 16) (S := fun w' => w'.cell? ad183 = some (.int .i64 (rd t180 0)) ∧ w'.cell? ad183 = some (.int .i64 (rd t180 0)) ∧ w'.cell? ⟨ad183.block, ad183.off + 1, none⟩ = some (.int .i64 (rd t180 1))) (ds := []) #[false, false, false, false, false, false, false, false, false, false, false, false, false, false, false, false] (by kernel_rfl) rfl rfl ⟨hx183_0, hx184_0, hx185_0⟩ (fun hHeld => ?_); refine with_tabW laws_FnFreshFor.tab5 laws_FnFreshFor.bits5 (fun HT_ HW_ => ?_)
            generalize w15.drew = w16 at HO182 BK179 HB hx183_0 hx184_0 hx185_0 hHeld ⊢
            refine pure_ (i := 0) (N := some 15) (v := ?_) (a' := ?_) #[true, false, false, false, false, false, false, false, false, false, false, false, false, false, false, false] rfl rfl (any_of HT_.out (by kernel_rfl)) (fun _ _ _ h => h) (Or.inl ⟨by rfl, ?_⟩) ?_ ?_
            rotate_left
            · intro w'
              go_simp
              with_reducible rfl
            rotate_left
            · simp only [Act.put, List.setIfInBounds_toArray, List.set_cons_zero, List.set_cons_succ, i64_w, i32_w]
              rfl
            refine pure_ (i := 1) (N := some 16) (v := ?_) (a' := ?_) #[true, true, false, false, false, false, false, false, false, false, false, false, false, false, false, false] rfl rfl (any_of HT_.out (by kernel_rfl)) (fun _ _ _ h => h) (Or.inl ⟨by rfl, ?_⟩) ?_ ?_
            rotate_left
            · intro w'
              go_simp
              with_reducible rfl
            rotate_left
            · simp only [Act.put, List.setIfInBounds_toArray, List.set_cons_zero, List.set_cons_succ, i64_w, i32_w]
              rfl
            refine pure_ (i := 4) (N := some 19) (v := ?_) (a' := ?_) #[true, true, false, false, true, false, false, false, false, false, false, false, false, false, false, false] rfl rfl (any_of HT_.out (by kernel_rfl)) (fun _ _ _ h => h) (Or.inl ⟨by rfl, ?_⟩) ?_ ?_
            rotate_left
            · intro w'
              go_simp
              with_reducible rfl
            rotate_left
            · simp only [Act.put, List.setIfInBounds_toArray, List.set_cons_zero, List.set_cons_succ, i64_w, i32_w]
              rfl
            refine pure_ (i := 5) (N := some 20) (v := ?_) (a' := ?_) #[true, true, false, false, true, true, false, false, false, false, false, false, false, false, false, false] rfl rfl (any_of HT_.out (by kernel_rfl)) (fun _ _ _ h => h) (Or.inl ⟨by rfl, ?_⟩) ?_ ?_
            rotate_left
            · intro w'
              go_simp
              with_reducible rfl
            rotate_left
            · simp only [Act.put, List.setIfInBounds_toArray, List.set_cons_zero, List.set_cons_succ, i64_w, i32_w]
              rfl
            refine pure_ (i := 8) (N := some 23) (v := ?_) (a' := ?_) #[true, true, false, false, true, true, false, false, true, false, false, false, false, false, false, false] rfl rfl (any_of HT_.out (by kernel_rfl)) (fun _ _ _ h => h) (Or.inl ⟨by rfl, ?_⟩) ?_ ?_
            rotate_left
            · intro w'
              go_simp
              with_reducible rfl
            rotate_left
            · simp only [Act.put, List.setIfInBounds_toArray, List.set_cons_zero, List.set_cons_succ, i64_w, i32_w]
              rfl
            refine pure_ (i := 9) (N := some 24) (v := ?_) (a' := ?_) #[true, true, false, false, true, true, false, false, true, true, false, false, false, false, false, false] rfl rfl (any_of HT_.out (by kernel_rfl)) (fun _ _ _ h => h) (Or.inl ⟨by rfl, ?_⟩) ?_ ?_
            rotate_left
            · intro w'
              go_simp
              with_reducible rfl
            rotate_left
            · simp only [Act.put, List.setIfInBounds_toArray, List.set_cons_zero, List.set_cons_succ, i64_w, i32_w]
              rfl
            refine take_ (i := 2) (N := some 17) (v := ?_) (a' := ?_) #[true, true, true, false, true, true, false, false, true, true, false, false, false, false, false, false] rfl rfl (take_ofW HT_.out HW_.out (by kernel_rfl)) (fun _ _ _ h => h) (Or.inl ⟨by rfl, ?_⟩) hHeld ?_ ?_
            rotate_left
            · rintro w' ⟨s0, s1, s2⟩
              go_simp
              with_reducible rfl
            rotate_left
            · simp only [Act.put, List.setIfInBounds_toArray, List.set_cons_zero, List.set_cons_succ, i64_w, i32_w]
              rfl
            refine pure_ (i := 3) (N := some 18) (v := ?_) (a' := ?_) #[true, true, true, true, true, true, false, false, true, true, false, false, false, false, false, false] rfl rfl (any_of HT_.out (by kernel_rfl)) (fun _ _ _ h => h) (Or.inl ⟨by rfl, ?_⟩) ?_ ?_
            rotate_left
            · intro w'
              go_simp
              with_reducible rfl
            rotate_left
            · simp only [Act.put, List.setIfInBounds_toArray, List.set_cons_zero, List.set_cons_succ, i64_w, i32_w]
              rfl
            refine take_ (i := 6) (N := some 21) (v := ?_) (a' := ?_) #[true, true, true, true, true, true, true, false, true, true, false, false, false, false, false, false] rfl rfl (take_ofW HT_.out HW_.out (by kernel_rfl)) (fun _ _ _ h => h) (Or.inl ⟨by rfl, ?_⟩) hHeld ?_ ?_
            rotate_left
            · rintro w' ⟨s0, s1, s2⟩
              go_simp
              with_reducible rfl
            rotate_left
            · simp only [Act.put, List.setIfInBounds_toArray, List.set_cons_zero, List.set_cons_succ, i64_w, i32_w]
              rfl
            refine pure_ (i := 7) (N := some 22) (v := ?_) (a' := ?_) #[true, true, true, true, true, true, true, true, true, true, false, false, false, false, false, false] rfl rfl (any_of HT_.out (by kernel_rfl)) (fun _ _ _ h => h) (Or.inl ⟨by rfl, ?_⟩) ?_ ?_
            rotate_left
            · intro w'
              go_simp
              with_reducible rfl
            rotate_left
            · simp only [Act.put, List.setIfInBounds_toArray, List.set_cons_zero, List.set_cons_succ, i64_w, i32_w]
              rfl
            refine take_ (i := 10) (N := some 25) (v := ?_) (a' := ?_) #[true, true, true, true, true, true, true, true, true, true, true, false, false, false, false, false] rfl rfl (take_ofW HT_.out HW_.out (by kernel_rfl)) (fun _ _ _ h => h) (Or.inl ⟨by rfl, ?_⟩) hHeld ?_ ?_
            rotate_left
            · rintro w' ⟨s0, s1, s2⟩
              go_simp
              with_reducible rfl
            rotate_left
            · simp only [Act.put, List.setIfInBounds_toArray, List.set_cons_zero, List.set_cons_succ, i64_w, i32_w]
              rfl
            refine pure_ (i := 11) (N := some 26) (v := ?_) (a' := ?_) #[true, true, true, true, true, true, true, true, true, true, true, true, false, false, false, false] rfl rfl (any_of HT_.out (by kernel_rfl)) (fun _ _ _ h => h) (Or.inl ⟨by rfl, ?_⟩) ?_ ?_
            rotate_left
            · intro w'
              go_simp
              with_reducible rfl
            rotate_left
            · simp only [Act.put, List.setIfInBounds_toArray, List.set_cons_zero, List.set_cons_succ, i64_w, i32_w]
              rfl
            refine pure_ (i := 12) (N := some 27) (v := ?_) (a' := ?_) #[true, true, true, true, true, true, true, true, true, true, true, true, true, false, false, false] rfl rfl (any_of HT_.out (by kernel_rfl)) (fun _ _ _ h => h) (Or.inl ⟨by rfl, ?_⟩) ?_ ?_
            rotate_left
            · intro w'
              go_simp
              with_reducible rfl
            rotate_left
            · simp only [Act.put, List.setIfInBounds_toArray, List.set_cons_zero, List.set_cons_succ, i64_w, i32_w]
              rfl
            refine pure_ (i := 13) (N := some 28) (v := ?_) (a' := ?_) #[true, true, true, true, true, true, true, true, true, true, true, true, true, true, false, false] rfl rfl (any_of HT_.out (by kernel_rfl)) (fun _ _ _ h => h) (Or.inl ⟨by rfl, ?_⟩) ?_ ?_
            rotate_left
            · intro w'
              go_simp
              with_reducible rfl
            rotate_left
            · simp only [Act.put, List.setIfInBounds_toArray, List.set_cons_zero, List.set_cons_succ, i64_w, i32_w]
              rfl
            refine one_ (i := 14) (N := some 5) #[true, true, true, true, true, true, true, true, true, true, true, true, true, true, true, false] rfl rfl (one_of HT_.out (by kernel_rfl)) (by decide) (fun K hK => ?_)
            refine box_step ?hg (N := 5) ?hd (cs := #[.int .i64 0, .int .i64 0]) (t := 25) ?hr ?_; (case hd => rfl); (case hg => rfl); (case hr => first | (go_simp; done) | (go_simp; rfl))
            intro gb186 hg w18 hbox hb
            have HS0_ := (hb.cell (World.block_lt_of_cell? _ _ (hHeld.1))).trans (hHeld.1)
            have HS1_ := (hb.cell (World.block_lt_of_cell? _ _ (hHeld.2.1))).trans (hHeld.2.1)
            have HS2_ := (hb.cell (World.block_lt_of_cell? _ _ (hHeld.2.2))).trans (hHeld.2.2)
            have n0_ := Aside0.mk (Kd.R_below (by (with_reducible repeat (first | apply Kd.R_alloc | apply Kd.R_drewN | apply Kd.R_drew)); exact HO182.out) hb)
            have n1_ := Aside0.mk (blk_below (g := gb179) (o := .cells #[.int .i64 t177, .int .i64 t178] 25 (0, 0)) (by (with_reducible repeat (first | refine blk_drewN ?_ _ | refine blk_drew ?_ | refine blk_alloc ?_ _)); exact BK179.out) hb)
            have n2_ := Aside0.mk (below_step (by repeat (first | (with_reducible first | exact HB.out | apply below_alloc | apply pw_below_drewN | apply below_drew1 | refine below_set ?_ GE179.out) | exact HB.out)) hb)
            have n3_ := Aside0.mk (hbox)
            have n4_ := Aside0.mk ((by rw [hg]; exact (below_size (by repeat (first | (with_reducible first | exact HB.out | apply below_alloc | apply pw_below_drewN | apply below_drew1 | refine below_set ?_ GE179.out) | exact HB.out))) : w.heap.size ≤ gb186))
            have n5_ := Aside0.mk ((by rw [hg]; exact (below_size (by repeat (first | (with_reducible first | exact HB.out | apply below_alloc | apply pw_below_drewN | apply below_drew1 | refine below_set ?_ GE179.out) | exact HB.out))) : w.heap.size ≤ gb186))
            have n6_ := Aside0.mk ((by rw [hg]; exact Nat.ne_of_lt (blk_lt (g := gb179) (o := .cells #[.int .i64 t177, .int .i64 t178] 25 (0, 0)) (by (with_reducible repeat (first | refine blk_drewN ?_ _ | refine blk_drew ?_ | refine blk_alloc ?_ _)); exact BK179.out)) : gb179 ≠ gb186))
            have n7_ := Aside0.mk ((by rw [hg]; exact Nat.ne_of_gt (blk_lt (g := gb179) (o := .cells #[.int .i64 t177, .int .i64 t178] 25 (0, 0)) (by (with_reducible repeat (first | refine blk_drewN ?_ _ | refine blk_drew ?_ | refine blk_alloc ?_ _)); exact BK179.out)) : gb186 ≠ gb179))
            clear HO182
            clear BK179
            clear HB
            have HO182 := n0_
            have BK179 := n1_
            have HB := n2_
            have BK186 := n3_
            have GW186 := n4_
            have GE186 := n5_
            have NB179_186 := n6_
            have NB186_179 := n7_
            clear n0_ n1_ n2_ n3_ n4_ n5_ n6_ n7_
            clear hb hbox hg
            refine hK.out _ _ ⟨HS0_, HS1_, HS2_⟩ (fun hHeld => ?_)
            clear hK K
            refine norm_ (a' := ?_) ?_ ?_
            rotate_left
            · show Act.put _ (some 5) _ = _
              simp only [Act.put, List.setIfInBounds_toArray, List.set_cons_zero, List.set_cons_succ, i64_w, i32_w]
              rfl
            refine one_ (i := 15) (N := none) #[true, true, true, true, true, true, true, true, true, true, true, true, true, true, true, true] rfl rfl (one_of HT_.out (by kernel_rfl)) (by decide) (fun K hK => ?_)
            have hs19 : w18.cell? ⟨gb186, 0, none⟩ = some (.int .i64 0) := (blk_cell BK186.out 0).trans rfl
            have hfs19 := blk_frozen BK186.out 0
            have hns19_0 := NB179_186.out
            have hms19_0 := NB186_179.out
            have hs20 : w18.cell? ⟨gb186, 1, none⟩ = some (.int .i64 0) := (blk_cell BK186.out 1).trans rfl
            have hfs20 := blk_frozen BK186.out 1
            have hns20_0 := NB179_186.out
            have hms20_0 := NB186_179.out
            refine skip_ (w1 := ?_) (by rfl) rfl ?_ ?_
            rotate_left
            · go_simp
              rfl
            refine hK.out _ _ ⟨((cell_far (p := ⟨gb186, _, none⟩) (by first | exact Kd.own_blk (Kd.R_ne HO182.out BK186.out (by decide)) | (rw [add_block]; exact Kd.own_blk (Kd.R_ne HO182.out BK186.out (by decide))) | (show (Addr.add _ _).block ≠ _; rw [add_block]; exact Kd.own_blk (Kd.R_ne HO182.out BK186.out (by decide))) | (dsimp only; exact Kd.own_blk (Kd.R_ne HO182.out BK186.out (by decide)))) _).trans (((cell_far (p := ⟨gb186, _, none⟩) (by first | exact Kd.own_blk (Kd.R_ne HO182.out BK186.out (by decide)) | (rw [add_block]; exact Kd.own_blk (Kd.R_ne HO182.out BK186.out (by decide))) | (show (Addr.add _ _).block ≠ _; rw [add_block]; exact Kd.own_blk (Kd.R_ne HO182.out BK186.out (by decide))) | (dsimp only; exact Kd.own_blk (Kd.R_ne HO182.out BK186.out (by decide)))) _).trans (hHeld.1)))), ((cell_far (p := ⟨gb186, _, none⟩) (by first | exact Kd.own_blk (Kd.R_ne HO182.out BK186.out (by decide)) | (rw [add_block]; exact Kd.own_blk (Kd.R_ne HO182.out BK186.out (by decide))) | (show (Addr.add _ _).block ≠ _; rw [add_block]; exact Kd.own_blk (Kd.R_ne HO182.out BK186.out (by decide))) | (dsimp only; exact Kd.own_blk (Kd.R_ne HO182.out BK186.out (by decide)))) _).trans (((cell_far (p := ⟨gb186, _, none⟩) (by first | exact Kd.own_blk (Kd.R_ne HO182.out BK186.out (by decide)) | (rw [add_block]; exact Kd.own_blk (Kd.R_ne HO182.out BK186.out (by decide))) | (show (Addr.add _ _).block ≠ _; rw [add_block]; exact Kd.own_blk (Kd.R_ne HO182.out BK186.out (by decide))) | (dsimp only; exact Kd.own_blk (Kd.R_ne HO182.out BK186.out (by decide)))) _).trans (hHeld.2.1)))), ((cell_far (p := ⟨gb186, _, none⟩) (by first | exact Kd.own_blk (Kd.R_ne HO182.out BK186.out (by decide)) | (rw [add_block]; exact Kd.own_blk (Kd.R_ne HO182.out BK186.out (by decide))) | (show (Addr.add _ _).block ≠ _; rw [add_block]; exact Kd.own_blk (Kd.R_ne HO182.out BK186.out (by decide))) | (dsimp only; exact Kd.own_blk (Kd.R_ne HO182.out BK186.out (by decide)))) _).trans (((cell_far (p := ⟨gb186, _, none⟩) (by first | exact Kd.own_blk (Kd.R_ne HO182.out BK186.out (by decide)) | (rw [add_block]; exact Kd.own_blk (Kd.R_ne HO182.out BK186.out (by decide))) | (show (Addr.add _ _).block ≠ _; rw [add_block]; exact Kd.own_blk (Kd.R_ne HO182.out BK186.out (by decide))) | (dsimp only; exact Kd.own_blk (Kd.R_ne HO182.out BK186.out (by decide)))) _).trans (hHeld.2.2))))⟩ (fun hHeld => ?_)
            clear hK K
            refine done_ (done_of HT_.out (by kernel_rfl)) ?_
            have hnb21 := NB186_179.out
            have hnc21 := NB179_186.out
            have hcz22_0 : w18.cell? ⟨gb186, 0, none⟩ = some (.int .i64 0) := (blk_cell BK186.out 0).trans rfl
            have hcz22_1 : w18.cell? ⟨gb186, 1, none⟩ = some (.int .i64 0) := (blk_cell BK186.out 1).trans rfl
            have hfz22_0 := blk_frozen BK186.out 0
            have hfz22_1 := blk_frozen BK186.out 1
            try go_wp2_with (first | ((with_reducible refine gate_dst (N := 6) rfl ?_); (try (refine gate_guard (by rfl) ?_; dsimp only)); refine box_event ?hg (N := 6) ?hd (cs := #[.int .i64 0, .int .i64 0, .int .i64 0]) (t := 50) ?hr ?_; (case hd => rfl); (case hg => rfl); (case hr => first | (go_simp; done) | (go_simp; rfl)); intro gb187 hg w23 hbox hb; have n0_ := Aside0.mk (Kd.R_below (by (with_reducible repeat (first | apply Kd.R_alloc | apply Kd.R_drewN | apply Kd.R_drew)); exact (Kd.R_mono (Kd.R_far (p := ⟨gb186, 1, none⟩) (Kd.R_far (p := ⟨gb186, 0, none⟩) (Kd.R_types HO182.out BK186.out (by decide)) (fun _ hk => hk.2) (.int .i64 (Int.tmod (rd t180 0) 200))) (fun _ hk => hk.2) (.int .i64 (wrap64 ((Int.tmod (rd t180 0) 200) + (Int.tmod (rd t180 1) 40))))) (fun _ h_ => h_.1))) hb); have n1_ := Aside0.mk (blk_below (g := gb179) (o := .cells #[.int .i64 t177, .int .i64 t178] 25 (0, 0)) (by (with_reducible repeat (first | refine blk_drewN ?_ _ | refine blk_drew ?_ | refine blk_alloc ?_ _)); refine blk_far ?_ NB179_186.out _; (with_reducible repeat (first | refine blk_drewN ?_ _ | refine blk_drew ?_ | refine blk_alloc ?_ _)); refine blk_far ?_ NB179_186.out _; (with_reducible repeat (first | refine blk_drewN ?_ _ | refine blk_drew ?_ | refine blk_alloc ?_ _)); exact BK179.out) hb); have n2_ := Aside0.mk (blk_below (g := gb186) (o := .cells #[.int .i64 (Int.tmod (rd t180 0) 200), .int .i64 (wrap64 ((Int.tmod (rd t180 0) 200) + (Int.tmod (rd t180 1) 40)))] 25 (0, 0)) (by (with_reducible repeat (first | refine blk_drewN ?_ _ | refine blk_drew ?_ | refine blk_alloc ?_ _)); refine blk_put (cs := #[.int .i64 (Int.tmod (rd t180 0) 200), .int .i64 0]) ?_ 1 _ rfl; (with_reducible repeat (first | refine blk_drewN ?_ _ | refine blk_drew ?_ | refine blk_alloc ?_ _)); refine blk_put (cs := #[.int .i64 0, .int .i64 0]) ?_ 0 _ rfl; (with_reducible repeat (first | refine blk_drewN ?_ _ | refine blk_drew ?_ | refine blk_alloc ?_ _)); exact BK186.out) hb); have n3_ := Aside0.mk (below_step (by repeat (first | (with_reducible first | exact HB.out | apply below_alloc | apply pw_below_drewN | apply below_drew1 | refine below_set ?_ GE179.out | refine below_set ?_ GE186.out) | exact HB.out)) hb); have n4_ := Aside0.mk (hbox); have n5_ := Aside0.mk ((by rw [hg]; exact (below_size (by repeat (first | (with_reducible first | exact HB.out | apply below_alloc | apply pw_below_drewN | apply below_drew1 | refine below_set ?_ GE179.out | refine below_set ?_ GE186.out) | exact HB.out))) : w.heap.size ≤ gb187)); have n6_ := Aside0.mk ((by rw [hg]; exact (below_size (by repeat (first | (with_reducible first | exact HB.out | apply below_alloc | apply pw_below_drewN | apply below_drew1 | refine below_set ?_ GE179.out | refine below_set ?_ GE186.out) | exact HB.out))) : w.heap.size ≤ gb187)); have n7_ := Aside0.mk ((by rw [hg]; exact Nat.ne_of_lt (blk_lt (g := gb179) (o := .cells #[.int .i64 t177, .int .i64 t178] 25 (0, 0)) (by (with_reducible repeat (first | refine blk_drewN ?_ _ | refine blk_drew ?_ | refine blk_alloc ?_ _)); refine blk_far ?_ NB179_186.out _; (with_reducible repeat (first | refine blk_drewN ?_ _ | refine blk_drew ?_ | refine blk_alloc ?_ _)); refine blk_far ?_ NB179_186.out _; (with_reducible repeat (first | refine blk_drewN ?_ _ | refine blk_drew ?_ | refine blk_alloc ?_ _)); exact BK179.out)) : gb179 ≠ gb187)); have n8_ := Aside0.mk ((by rw [hg]; exact Nat.ne_of_gt (blk_lt (g := gb179) (o := .cells #[.int .i64 t177, .int .i64 t178] 25 (0, 0)) (by (with_reducible repeat (first | refine blk_drewN ?_ _ | refine blk_drew ?_ | refine blk_alloc ?_ _)); refine blk_far ?_ NB179_186.out _; (with_reducible repeat (first | refine blk_drewN ?_ _ | refine blk_drew ?_ | refine blk_alloc ?_ _)); refine blk_far ?_ NB179_186.out _; (with_reducible repeat (first | refine blk_drewN ?_ _ | refine blk_drew ?_ | refine blk_alloc ?_ _)); exact BK179.out)) : gb187 ≠ gb179)); have n9_ := Aside0.mk ((by rw [hg]; exact Nat.ne_of_lt (blk_lt (g := gb186) (o := .cells #[.int .i64 (Int.tmod (rd t180 0) 200), .int .i64 (wrap64 ((Int.tmod (rd t180 0) 200) + (Int.tmod (rd t180 1) 40)))] 25 (0, 0)) (by (with_reducible repeat (first | refine blk_drewN ?_ _ | refine blk_drew ?_ | refine blk_alloc ?_ _)); refine blk_put (cs := #[.int .i64 (Int.tmod (rd t180 0) 200), .int .i64 0]) ?_ 1 _ rfl; (with_reducible repeat (first | refine blk_drewN ?_ _ | refine blk_drew ?_ | refine blk_alloc ?_ _)); refine blk_put (cs := #[.int .i64 0, .int .i64 0]) ?_ 0 _ rfl; (with_reducible repeat (first | refine blk_drewN ?_ _ | refine blk_drew ?_ | refine blk_alloc ?_ _)); exact BK186.out)) : gb186 ≠ gb187)); have n10_ := Aside0.mk ((by rw [hg]; exact Nat.ne_of_gt (blk_lt (g := gb186) (o := .cells #[.int .i64 (Int.tmod (rd t180 0) 200), .int .i64 (wrap64 ((Int.tmod (rd t180 0) 200) + (Int.tmod (rd t180 1) 40)))] 25 (0, 0)) (by (with_reducible repeat (first | refine blk_drewN ?_ _ | refine blk_drew ?_ | refine blk_alloc ?_ _)); refine blk_put (cs := #[.int .i64 (Int.tmod (rd t180 0) 200), .int .i64 0]) ?_ 1 _ rfl; (with_reducible repeat (first | refine blk_drewN ?_ _ | refine blk_drew ?_ | refine blk_alloc ?_ _)); refine blk_put (cs := #[.int .i64 0, .int .i64 0]) ?_ 0 _ rfl; (with_reducible repeat (first | refine blk_drewN ?_ _ | refine blk_drew ?_ | refine blk_alloc ?_ _)); exact BK186.out)) : gb187 ≠ gb186)); clear HO182; clear BK179; clear BK186; clear HB; have HO182 := n0_; have BK179 := n1_; have BK186 := n2_; have HB := n3_; have BK187 := n4_; have GW187 := n5_; have GE187 := n6_; have NB179_187 := n7_; have NB187_179 := n8_; have NB186_187 := n9_; have NB187_186 := n10_; clear n0_ n1_ n2_ n3_ n4_ n5_ n6_ n7_ n8_ n9_ n10_; clear hb hbox hg; have hnb24 := NB187_179.out; have hnc24 := NB179_187.out; have hnb25 := NB187_186.out; have hnc25 := NB186_187.out; have hcz26_0 : w23.cell? ⟨gb187, 0, none⟩ = some (.int .i64 0) := (blk_cell BK187.out 0).trans rfl; have hcz26_1 : w23.cell? ⟨gb187, 1, none⟩ = some (.int .i64 0) := (blk_cell BK187.out 1).trans rfl; have hcz26_2 : w23.cell? ⟨gb187, 2, none⟩ = some (.int .i64 0) := (blk_cell BK187.out 2).trans rfl; have hfz26_0 := blk_frozen BK187.out 0; have hfz26_1 := blk_frozen BK187.out 1; have hfz26_2 := blk_frozen BK187.out 2; have p188 : 0 ≤ (2 : Int) := (by omega); have q188 : 2 < (t180.length : Int) := of_decide_eq_true (by first | (with_reducible assumption) | assumption); obtain ⟨ad188, e188, hx188_0⟩ := Kd.at_int (Kd.R_reads' HO182.out).2.2 2 p188 q188; obtain rfl : ad183 = ad188 := (by injection e188); (try simp only [show (2 : Int).toNat = 2 from rfl, Nat.reduceMul, Nat.reduceEqDiff, Go.Addr.add, ↓reduceIte] at hx188_0); have qi188 : (2 < t180.length) = True := eq_true (by omega); (try rw [show ((2 : Int)).toNat = 2 from rfl] at hx188_0); have hn188_0 : ad183.block ≠ gb187 := Kd.own_blk (Kd.R_ne HO182.out BK187.out (by decide)); have hn188_1 : ad183.block ≠ gb187 := Kd.own_blk (Kd.R_ne HO182.out BK187.out (by decide)); have hn188_2 : ad183.block ≠ gb187 := Kd.own_blk (Kd.R_ne HO182.out BK187.out (by decide)); replace hx188_0 := (cell_far (p := ⟨gb187, 0, none⟩) (by first | (rw [add_block]; exact hn188_0) | (show (Addr.add _ _).block ≠ _; rw [add_block]; exact hn188_0) | exact hn188_0) (.int .i64 5)).trans hx188_0; replace hx188_0 := (cell_far (p := ⟨gb187, 1, none⟩) (by first | (rw [add_block]; exact hn188_1) | (show (Addr.add _ _).block ≠ _; rw [add_block]; exact hn188_1) | exact hn188_1) (.int .i64 (Int.tmod (rd t180 0) 200))).trans hx188_0; replace hx188_0 := (cell_far (p := ⟨gb187, 2, none⟩) (by first | (rw [add_block]; exact hn188_2) | (show (Addr.add _ _).block ≠ _; rw [add_block]; exact hn188_2) | exact hn188_2) (.int .i64 (wrap64 ((Int.tmod (rd t180 0) 200) + (Int.tmod (rd t180 1) 40))))).trans hx188_0; clear hn188_0; clear hn188_1; clear hn188_2; replace p188 := eq_true p188; replace q188 := eq_true q188; have hcz27_0 : w23.cell? ⟨gb179, 0, none⟩ = some (.int .i64 t177) := (blk_cell BK179.out 0).trans rfl; have hcz27_1 : w23.cell? ⟨gb179, 1, none⟩ = some (.int .i64 t178) := (blk_cell BK179.out 1).trans rfl; have hfz27_0 := blk_frozen BK179.out 0; have hfz27_1 := blk_frozen BK179.out 1) | ((with_reducible refine gate_callee (f := 42) rfl ?_); refine goesL_ (some 38) rfl rfl Try.func42 (by kernel_rfl) rfl #[.agg #[.int .i64 t177, .int .i64 t178], .agg #[.int .i64 5, .int .i64 (Int.tmod (rd t180 0) 200), .int .i64 (wrap64 ((Int.tmod (rd t180 0) 200) + (Int.tmod (rd t180 1) 40)))], .int .i64 (Int.tmod (rd t180 2) 300)] rfl (by (try simp only [List.map_toArray, List.map_cons, List.map_nil]); first | done | rfl | (simp only [List.length_drop, List.length_take]; rfl)) ?_; (with_reducible refine (impl_FreshFor.calls t177 t178 5 (Int.tmod (rd t180 0) 200) (wrap64 ((Int.tmod (rd t180 0) 200) + (Int.tmod (rd t180 1) 40))) (Int.tmod (rd t180 2) 300) t189 _ A9.out).mono ?_); rintro e w28 ⟨rfl, hb⟩; refine ⟨_, rfl, ?_⟩; have n0_ := Aside0.mk (Kd.R_below (by (with_reducible repeat (first | apply Kd.R_alloc | apply Kd.R_drewN | apply Kd.R_drew)); exact (Kd.R_mono (Kd.R_far (p := ⟨gb187, 2, none⟩) (Kd.R_far (p := ⟨gb187, 1, none⟩) (Kd.R_far (p := ⟨gb187, 0, none⟩) (Kd.R_types HO182.out BK187.out (by decide)) (fun _ hk => hk.2) (.int .i64 5)) (fun _ hk => hk.2) (.int .i64 (Int.tmod (rd t180 0) 200))) (fun _ hk => hk.2) (.int .i64 (wrap64 ((Int.tmod (rd t180 0) 200) + (Int.tmod (rd t180 1) 40))))) (fun _ h_ => h_.1))) hb); have n1_ := Aside0.mk (blk_below (g := gb179) (o := .cells #[.int .i64 t177, .int .i64 t178] 25 (0, 0)) (by (with_reducible repeat (first | refine blk_drewN ?_ _ | refine blk_drew ?_ | refine blk_alloc ?_ _)); refine blk_far ?_ NB179_187.out _; (with_reducible repeat (first | refine blk_drewN ?_ _ | refine blk_drew ?_ | refine blk_alloc ?_ _)); refine blk_far ?_ NB179_187.out _; (with_reducible repeat (first | refine blk_drewN ?_ _ | refine blk_drew ?_ | refine blk_alloc ?_ _)); refine blk_far ?_ NB179_187.out _; (with_reducible repeat (first | refine blk_drewN ?_ _ | refine blk_drew ?_ | refine blk_alloc ?_ _)); exact BK179.out) hb); have n2_ := Aside0.mk (blk_below (g := gb186) (o := .cells #[.int .i64 (Int.tmod (rd t180 0) 200), .int .i64 (wrap64 ((Int.tmod (rd t180 0) 200) + (Int.tmod (rd t180 1) 40)))] 25 (0, 0)) (by (with_reducible repeat (first | refine blk_drewN ?_ _ | refine blk_drew ?_ | refine blk_alloc ?_ _)); refine blk_far ?_ NB186_187.out _; (with_reducible repeat (first | refine blk_drewN ?_ _ | refine blk_drew ?_ | refine blk_alloc ?_ _)); refine blk_far ?_ NB186_187.out _; (with_reducible repeat (first | refine blk_drewN ?_ _ | refine blk_drew ?_ | refine blk_alloc ?_ _)); refine blk_far ?_ NB186_187.out _; (with_reducible repeat (first | refine blk_drewN ?_ _ | refine blk_drew ?_ | refine blk_alloc ?_ _)); exact BK186.out) hb); have n3_ := Aside0.mk (blk_below (g := gb187) (o := .cells #[.int .i64 5, .int .i64 (Int.tmod (rd t180 0) 200), .int .i64 (wrap64 ((Int.tmod (rd t180 0) 200) + (Int.tmod (rd t180 1) 40)))] 50 (0, 0)) (by (with_reducible repeat (first | refine blk_drewN ?_ _ | refine blk_drew ?_ | refine blk_alloc ?_ _)); refine blk_put (cs := #[.int .i64 5, .int .i64 (Int.tmod (rd t180 0) 200), .int .i64 0]) ?_ 2 _ rfl; (with_reducible repeat (first | refine blk_drewN ?_ _ | refine blk_drew ?_ | refine blk_alloc ?_ _)); refine blk_put (cs := #[.int .i64 5, .int .i64 0, .int .i64 0]) ?_ 1 _ rfl; (with_reducible repeat (first | refine blk_drewN ?_ _ | refine blk_drew ?_ | refine blk_alloc ?_ _)); refine blk_put (cs := #[.int .i64 0, .int .i64 0, .int .i64 0]) ?_ 0 _ rfl; (with_reducible repeat (first | refine blk_drewN ?_ _ | refine blk_drew ?_ | refine blk_alloc ?_ _)); exact BK187.out) hb); have n4_ := Aside0.mk (below_step (by repeat (first | (with_reducible first | exact HB.out | apply below_alloc | apply pw_below_drewN | apply below_drew1 | refine below_set ?_ GE179.out | refine below_set ?_ GE186.out | refine below_set ?_ GE187.out) | exact HB.out)) hb); clear HO182; clear BK179; clear BK186; clear BK187; clear HB; have HO182 := n0_; have BK179 := n1_; have BK186 := n2_; have BK187 := n3_; have HB := n4_; clear n0_ n1_ n2_ n3_ n4_; (try clear hb); (try clear hb2); (try clear hk); (try clear hi); have hcz29_0 : w28.cell? ⟨gb179, 0, none⟩ = some (.int .i64 t177) := (blk_cell BK179.out 0).trans rfl; have hcz29_1 : w28.cell? ⟨gb179, 1, none⟩ = some (.int .i64 t178) := (blk_cell BK179.out 1).trans rfl; have hfz29_0 := blk_frozen BK179.out 0; have hfz29_1 := blk_frozen BK179.out 1; have hcz30_0 : w28.cell? ⟨gb187, 0, none⟩ = some (.int .i64 5) := (blk_cell BK187.out 0).trans rfl; have hcz30_1 : w28.cell? ⟨gb187, 1, none⟩ = some (.int .i64 (Int.tmod (rd t180 0) 200)) := (blk_cell BK187.out 1).trans rfl; have hcz30_2 : w28.cell? ⟨gb187, 2, none⟩ = some (.int .i64 (wrap64 ((Int.tmod (rd t180 0) 200) + (Int.tmod (rd t180 1) 40)))) := (blk_cell BK187.out 2).trans rfl; have hfz30_0 := blk_frozen BK187.out 0; have hfz30_1 := blk_frozen BK187.out 1; have hfz30_2 := blk_frozen BK187.out 2) | ((with_reducible refine gate_callee (f := 40) rfl ?_); refine goesL_ (some 44) rfl rfl Try.func40 (by kernel_rfl) rfl #[.agg #[.int .i64 t177, .int .i64 t178], .agg #[.int .i64 5, .int .i64 (Int.tmod (rd t180 0) 200), .int .i64 (wrap64 ((Int.tmod (rd t180 0) 200) + (Int.tmod (rd t180 1) 40)))], .int .i64 (Int.tmod (rd t180 2) 300)] rfl (by (try simp only [List.map_toArray, List.map_cons, List.map_nil]); first | done | rfl | (simp only [List.length_drop, List.length_take]; rfl)) ?_; (with_reducible refine (impl_FreshState.calls t177 t178 5 (Int.tmod (rd t180 0) 200) (wrap64 ((Int.tmod (rd t180 0) 200) + (Int.tmod (rd t180 1) 40))) (Int.tmod (rd t180 2) 300) t190 _ A11.out).mono ?_); rintro e w31 ⟨rfl, hb⟩; refine ⟨_, rfl, ?_⟩; have n0_ := Aside0.mk (Kd.R_below (by (with_reducible repeat (first | apply Kd.R_alloc | apply Kd.R_drewN | apply Kd.R_drew)); exact HO182.out) hb); have n1_ := Aside0.mk (blk_below (g := gb179) (o := .cells #[.int .i64 t177, .int .i64 t178] 25 (0, 0)) (by (with_reducible repeat (first | refine blk_drewN ?_ _ | refine blk_drew ?_ | refine blk_alloc ?_ _)); exact BK179.out) hb); have n2_ := Aside0.mk (blk_below (g := gb186) (o := .cells #[.int .i64 (Int.tmod (rd t180 0) 200), .int .i64 (wrap64 ((Int.tmod (rd t180 0) 200) + (Int.tmod (rd t180 1) 40)))] 25 (0, 0)) (by (with_reducible repeat (first | refine blk_drewN ?_ _ | refine blk_drew ?_ | refine blk_alloc ?_ _)); exact BK186.out) hb); have n3_ := Aside0.mk (blk_below (g := gb187) (o := .cells #[.int .i64 5, .int .i64 (Int.tmod (rd t180 0) 200), .int .i64 (wrap64 ((Int.tmod (rd t180 0) 200) + (Int.tmod (rd t180 1) 40)))] 50 (0, 0)) (by (with_reducible repeat (first | refine blk_drewN ?_ _ | refine blk_drew ?_ | refine blk_alloc ?_ _)); exact BK187.out) hb); have n4_ := Aside0.mk (below_step (by repeat (first | (with_reducible first | exact HB.out | apply below_alloc | apply pw_below_drewN | apply below_drew1 | refine below_set ?_ GE179.out | refine below_set ?_ GE186.out | refine below_set ?_ GE187.out) | exact HB.out)) hb); clear HO182; clear BK179; clear BK186; clear BK187; clear HB; have HO182 := n0_; have BK179 := n1_; have BK186 := n2_; have BK187 := n3_; have HB := n4_; clear n0_ n1_ n2_ n3_ n4_; (try clear hb); (try clear hb2); (try clear hk); (try clear hi)))
            go_ret
            exact ⟨by first | rfl | (simp [errW_none, errW_some] <;> rfl) | (simp [*, errW_none, errW_some] <;> rfl), by repeat (first | (with_reducible first | exact HB.out | apply below_alloc | apply pw_below_drewN | apply below_drew1 | refine below_set ?_ GE179.out | refine below_set ?_ GE186.out | refine below_set ?_ GE187.out) | exact HB.out)⟩
          · rw [if_neg c10] at H
            have c10b0 : decide (t189 < 0) = false := decide_eq_false c10
            clear c10
            replace H := Option.bind_eq_some_iff.mp H
            obtain ⟨⟨t191, t192⟩, A320, H⟩ := H
            replace H : ((impl_FreshState.f t191 t192 5 (Int.tmod (rd t180 0) 200) (wrap64 ((Int.tmod (rd t180 0) 200) + (Int.tmod (rd t180 1) 40))) (Int.tmod (rd t180 2) 300)).bind fun t193 => (if t193 = 1 then ((impl_PassOn.f t177 t178 (wrap64 (t189 + 1))).bind fun bt194 => ((impl_FreshState.f bt194.1 bt194.2 5 (Int.tmod (rd t180 0) 200) (wrap64 ((Int.tmod (rd t180 0) 200) + (Int.tmod (rd t180 1) 40))) (Int.tmod (rd t180 2) 300)).bind fun t196 => (if t196 = 1 then (some false) else ((impl_NewestOf.f k (([(⟨5, (⟨Int.tmod (rd t180 0) 200, wrap64 ((Int.tmod (rd t180 0) 200) + (Int.tmod (rd t180 1) 40))⟩ : S25)⟩ : S50), (⟨5, (⟨Int.tmod (rd t180 0) 200, wrap64 ((Int.tmod (rd t180 0) 200) + (Int.tmod (rd t180 1) 40))⟩ : S25)⟩ : S50)] : List (S50)))).bind fun t200 => (some (t200 == 0)))))) else (some false))) = some r := H
            have A32 := Aside0.mk A320
            clear A320
            replace H := Option.bind_eq_some_iff.mp H
            obtain ⟨t193, A330, H⟩ := H
            replace H : (if t193 = 1 then ((impl_PassOn.f t177 t178 (wrap64 (t189 + 1))).bind fun bt194 => ((impl_FreshState.f bt194.1 bt194.2 5 (Int.tmod (rd t180 0) 200) (wrap64 ((Int.tmod (rd t180 0) 200) + (Int.tmod (rd t180 1) 40))) (Int.tmod (rd t180 2) 300)).bind fun t196 => (if t196 = 1 then (some false) else ((impl_NewestOf.f k (([(⟨5, (⟨Int.tmod (rd t180 0) 200, wrap64 ((Int.tmod (rd t180 0) 200) + (Int.tmod (rd t180 1) 40))⟩ : S25)⟩ : S50), (⟨5, (⟨Int.tmod (rd t180 0) 200, wrap64 ((Int.tmod (rd t180 0) 200) + (Int.tmod (rd t180 1) 40))⟩ : S25)⟩ : S50)] : List (S50)))).bind fun t200 => (some (t200 == 0)))))) else (some false)) = some r := H
            have A33 := Aside0.mk A330
            clear A330
            by_cases c34 : t193 = 1
            · rw [if_pos c34] at H
              have c34b0 : (t193 == 1) = true := beq_iff_eq.mpr c34
              have c34b1 : (t193 != 1) = false := bne_eq_false_iff_eq.mpr c34
              clear c34
              replace H := Option.bind_eq_some_iff.mp H
              obtain ⟨⟨t194, t195⟩, A350, H⟩ := H
              replace H : ((impl_FreshState.f t194 t195 5 (Int.tmod (rd t180 0) 200) (wrap64 ((Int.tmod (rd t180 0) 200) + (Int.tmod (rd t180 1) 40))) (Int.tmod (rd t180 2) 300)).bind fun t196 => (if t196 = 1 then (some false) else ((impl_NewestOf.f k (([(⟨5, (⟨Int.tmod (rd t180 0) 200, wrap64 ((Int.tmod (rd t180 0) 200) + (Int.tmod (rd t180 1) 40))⟩ : S25)⟩ : S50), (⟨5, (⟨Int.tmod (rd t180 0) 200, wrap64 ((Int.tmod (rd t180 0) 200) + (Int.tmod (rd t180 1) 40))⟩ : S25)⟩ : S50)] : List (S50)))).bind fun t200 => (some (t200 == 0))))) = some r := H
              have A35 := Aside0.mk A350
              clear A350
              replace H := Option.bind_eq_some_iff.mp H
              obtain ⟨t196, A360, H⟩ := H
              replace H : (if t196 = 1 then (some false) else ((impl_NewestOf.f k (([(⟨5, (⟨Int.tmod (rd t180 0) 200, wrap64 ((Int.tmod (rd t180 0) 200) + (Int.tmod (rd t180 1) 40))⟩ : S25)⟩ : S50), (⟨5, (⟨Int.tmod (rd t180 0) 200, wrap64 ((Int.tmod (rd t180 0) 200) + (Int.tmod (rd t180 1) 40))⟩ : S25)⟩ : S50)] : List (S50)))).bind fun t200 => (some (t200 == 0)))) = some r := H
              have A36 := Aside0.mk A360
              clear A360
              by_cases c37 : t196 = 1
              · rw [if_pos c37] at H
                have c37b0 : (t196 == 1) = true := beq_iff_eq.mpr c37
                have c37b1 : (t196 != 1) = false := bne_eq_false_iff_eq.mpr c37
                clear c37
                obtain rfl := Option.some.inj H
                exact absurd hr.out (by decide)
              · rw [if_neg c37] at H
                have c37b0 : (t196 == 1) = false := beq_eq_false_iff_ne.mpr c37
                have c37b1 : (t196 != 1) = true := bne_iff_ne.mpr c37
                obtain ⟨y197, hy197⟩ : ∃ y_ : List (S50), y_ = (([(⟨5, (⟨Int.tmod (rd t180 0) 200, wrap64 ((Int.tmod (rd t180 0) 200) + (Int.tmod (rd t180 1) 40))⟩ : S25)⟩ : S50), (⟨5, (⟨Int.tmod (rd t180 0) 200, wrap64 ((Int.tmod (rd t180 0) 200) + (Int.tmod (rd t180 1) 40))⟩ : S25)⟩ : S50)] : List (S50))) := ⟨_, rfl⟩
                replace H : ((impl_NewestOf.f k y197).bind fun t200 => (some (t200 == 0))) = some r := by first | (rw [hy197]; with_reducible exact H) | (have H2_ := (Option.bind_some _ _).symm.trans H; rw [hy197]; with_reducible exact H2_) | (have H2_ := (Option.bind_some _ _).symm.trans H; with_reducible exact H2_) | with_reducible exact H | (rw [hy197]; exact H) | exact H
                have Ny197 := Aside0.mk hy197
                clear hy197
                replace H := Option.bind_eq_some_iff.mp H
                obtain ⟨t200, A600, H⟩ := H
                replace H : (some (t200 == 0)) = some r := H
                have A60 := Aside0.mk A600
                clear A600
                obtain rfl := Option.some.inj H
                go_enter Try.func18, Try.ntmps18
                try go_wp2_with (first | ((with_reducible refine gate_callee (f := 47) rfl ?_); refine goesL_ (some 10) rfl rfl Try.func47 (by kernel_rfl) rfl #[.slice A0 l0.length c0] rfl (by (try simp only [List.map_toArray, List.map_cons, List.map_nil]); first | done | rfl | (simp only [List.length_drop, List.length_take]; rfl)) ?_; (with_reducible refine (laws_big.calls _ _ l0 false _ ?side1 ?side2 A2.out).mono ?_); (case side1 => repeat (first | exact HR0.out | (with_reducible refine Kd.C_alloc ?_ _) | (with_reducible refine Kd.C_drewN ?_ _) | (with_reducible refine Kd.C_drew ?_))); (case side2 => exact HC0.out); rintro e w' ⟨rfl, ⟨nd, rfl⟩⟩; refine ⟨_, rfl, ?_⟩) | ((with_reducible refine gate_callee (f := 48) rfl ?_); refine goesL_ (some 12) rfl rfl Try.func48 (by kernel_rfl) rfl #[.slice A0 l0.length c0] rfl (by (try simp only [List.map_toArray, List.map_cons, List.map_nil]); first | done | rfl | (simp only [List.length_drop, List.length_take]; rfl)) ?_; (with_reducible refine (spec_DrawSpan.calls k _ _ l0 t177 t178 _ ?side1 ?side2 A4.out).mono ?_); (case side1 => repeat (first | exact HR0.out | (with_reducible refine Kd.C_alloc ?_ _) | (with_reducible refine Kd.C_drewN ?_ _) | (with_reducible refine Kd.C_drew ?_))); (case side2 => exact HC0.out); rintro e w61 ⟨rfl, hb⟩; refine ⟨_, rfl, ?_⟩; have n0_ := Aside0.mk (below_step (by repeat (first | (with_reducible first | exact HB.out | apply below_alloc | apply pw_below_drewN | apply below_drew1) | exact HB.out)) hb); clear HB; have HB := n0_; clear n0_; (try clear hb); (try clear hb2); (try clear hk); (try clear hi)) | ((with_reducible refine gate_dst (N := 3) rfl ?_); (try (refine gate_guard (by rfl) ?_; dsimp only)); refine box_event ?hg (N := 3) ?hd (cs := #[.int .i64 0, .int .i64 0]) (t := 25) ?hr ?_; (case hd => rfl); (case hg => rfl); (case hr => first | (go_simp; done) | (go_simp; rfl)); intro gb179 hg w62 hbox hb; have n0_ := Aside0.mk (below_step (by repeat (first | (with_reducible first | exact HB.out | apply below_alloc | apply pw_below_drewN | apply below_drew1) | exact HB.out)) hb); have n1_ := Aside0.mk (hbox); have n2_ := Aside0.mk ((by rw [hg]; exact (below_size (by repeat (first | (with_reducible first | exact HB.out | apply below_alloc | apply pw_below_drewN | apply below_drew1) | exact HB.out))) : w.heap.size ≤ gb179)); have n3_ := Aside0.mk ((by rw [hg]; exact (below_size (by repeat (first | (with_reducible first | exact HB.out | apply below_alloc | apply pw_below_drewN | apply below_drew1) | exact HB.out))) : w.heap.size ≤ gb179)); clear HB; have HB := n0_; have BK179 := n1_; have GW179 := n2_; have GE179 := n3_; clear n0_ n1_ n2_ n3_; clear hb hbox hg; have hcz63_0 : w62.cell? ⟨gb179, 0, none⟩ = some (.int .i64 0) := (blk_cell BK179.out 0).trans rfl; have hcz63_1 : w62.cell? ⟨gb179, 1, none⟩ = some (.int .i64 0) := (blk_cell BK179.out 1).trans rfl; have hfz63_0 := blk_frozen BK179.out 0; have hfz63_1 := blk_frozen BK179.out 1) | ((with_reducible refine gate_callee (f := 49) rfl ?_); refine goesL_ (some 14) rfl rfl Try.func49 (by kernel_rfl) rfl #[.slice A0 l0.length c0] rfl (by (try simp only [List.map_toArray, List.map_cons, List.map_nil]); first | done | rfl | (simp only [List.length_drop, List.length_take]; rfl)) ?_; (with_reducible refine (spec_DrawPlaces.calls k _ _ l0 t180 _ ?side1 ?side2 A5.out).mono ?_); (case side1 => exact Kd.C_below HR0.out (by repeat (first | (with_reducible first | exact HB.out | apply below_alloc | apply pw_below_drewN | apply below_drew1 | refine below_set ?_ GE179.out) | exact HB.out))); (case side2 => exact HC0.out); rintro e w64 ⟨v181, rfl, ho0, hb⟩; refine ⟨_, rfl, ?_⟩; have n0_ := Aside0.mk (Kd.R_lower ho0 (below_size (by repeat (first | (with_reducible first | exact HB.out | apply below_alloc | apply pw_below_drewN | apply below_drew1 | refine below_set ?_ GE179.out) | exact HB.out)))); have n1_ := Aside0.mk (blk_below (g := gb179) (o := .cells #[.int .i64 t177, .int .i64 t178] 25 (0, 0)) (by (with_reducible repeat (first | refine blk_drewN ?_ _ | refine blk_drew ?_ | refine blk_alloc ?_ _)); refine blk_put (cs := #[.int .i64 t177, .int .i64 0]) ?_ 1 _ rfl; (with_reducible repeat (first | refine blk_drewN ?_ _ | refine blk_drew ?_ | refine blk_alloc ?_ _)); refine blk_put (cs := #[.int .i64 0, .int .i64 0]) ?_ 0 _ rfl; (with_reducible repeat (first | refine blk_drewN ?_ _ | refine blk_drew ?_ | refine blk_alloc ?_ _)); exact BK179.out) hb); have n2_ := Aside0.mk (below_step (by repeat (first | (with_reducible first | exact HB.out | apply below_alloc | apply pw_below_drewN | apply below_drew1 | refine below_set ?_ GE179.out) | exact HB.out)) hb); clear BK179; clear HB; have HO182 := n0_; have BK179 := n1_; have HB := n2_; clear n0_ n1_ n2_; (try clear hb); (try clear hb2); (try clear hk); (try clear hi); (try clear ho0)))
                have n0_ := Aside0.mk (Kd.R_drew HO182.out)
                have n1_ := Aside0.mk (blk_drew BK179.out)
                have n2_ := Aside0.mk (below_drew1 HB.out)
                clear HO182
                clear BK179
                clear HB
                have HO182 := n0_
                have BK179 := n1_
                have HB := n2_
                clear n0_ n1_ n2_
                obtain ⟨Ao66, co66, eo66⟩ := Kd.R_slice HO182.out
                (first | subst eo66 | (injection eo66 with f1_ f2_ f3_; have f4_ := f1_.symm; have f5_ := f3_.symm; clear f1_ f2_ f3_; subst f4_; subst f5_))
                have p183 : 0 ≤ (0 : Int) := (by omega)
                have q183 : 0 < (t180.length : Int) := of_decide_eq_true (by first | (with_reducible assumption) | assumption)
                obtain ⟨ad183, e183, hx183_0⟩ := Kd.at_int (Kd.R_reads' HO182.out).2.2 0 p183 q183
                cases e183
                have qi183 : (0 < t180.length) = True := eq_true (by omega)
                (try rw [show ((0 : Int)).toNat = 0 from rfl] at hx183_0)
                (try rw [Addr.add_zero'] at hx183_0)
                replace p183 := eq_true p183
                replace q183 := eq_true q183
                have p184 : 0 ≤ (0 : Int) := (by omega)
                have q184 : 0 < (t180.length : Int) := of_decide_eq_true (by first | (with_reducible assumption) | assumption)
                obtain ⟨ad184, e184, hx184_0⟩ := Kd.at_int (Kd.R_reads' HO182.out).2.2 0 p184 q184
                obtain rfl : ad183 = ad184 := (by injection e184)
                have qi184 : (0 < t180.length) = True := eq_true (by omega)
                (try rw [show ((0 : Int)).toNat = 0 from rfl] at hx184_0)
                (try rw [Addr.add_zero'] at hx184_0)
                replace p184 := eq_true p184
                replace q184 := eq_true q184
                have p185 : 0 ≤ (1 : Int) := (by omega)
                have q185 : 1 < (t180.length : Int) := of_decide_eq_true (by first | (with_reducible assumption) | assumption)
                obtain ⟨ad185, e185, hx185_0⟩ := Kd.at_int (Kd.R_reads' HO182.out).2.2 1 p185 q185
                obtain rfl : ad183 = ad185 := (by injection e185)
                (try simp only [show (1 : Int).toNat = 1 from rfl, Nat.reduceMul, Nat.reduceEqDiff, Go.Addr.add, ↓reduceIte] at hx185_0)
                have qi185 : (1 < t180.length) = True := eq_true (by omega)
                (try rw [show ((1 : Int)).toNat = 1 from rfl] at hx185_0)
                replace p185 := eq_true p185
                replace q185 := eq_true q185
                refine start_ (n := 16) (S := fun w' => w'.cell? ad183 = some (.int .i64 (rd t180 0)) ∧ w'.cell? ad183 = some (.int .i64 (rd t180 0)) ∧ w'.cell? ⟨ad183.block, ad183.off + 1, none⟩ = some (.int .i64 (rd t180 1))) (ds := []) #[false, false, false, false, false, false, false, false, false, false, false, false, false, false, false, false] (by kernel_rfl) rfl rfl ⟨hx183_0, hx184_0, hx185_0⟩ (fun hHeld => ?_); refine with_tabW laws_FnFreshFor.tab5 laws_FnFreshFor.bits5 (fun HT_ HW_ => ?_)
                generalize w64.drew = w65 at HO182 BK179 HB hx183_0 hx184_0 hx185_0 hHeld ⊢
                refine pure_ (i := 0) (N := some 15) (v := ?_) (a' := ?_) #[true, false, false, false, false, false, false, false, false, false, false, false, false, false, false, false] rfl rfl (any_of HT_.out (by kernel_rfl)) (fun _ _ _ h => h) (Or.inl ⟨by rfl, ?_⟩) ?_ ?_
                rotate_left
                · intro w'
                  go_simp
                  with_reducible rfl
                rotate_left
                · simp only [Act.put, List.setIfInBounds_toArray, List.set_cons_zero, List.set_cons_succ, i64_w, i32_w]
                  rfl
                refine pure_ (i := 1) (N := some 16) (v := ?_) (a' := ?_) #[true, true, false, false, false, false, false, false, false, false, false, false, false, false, false, false] rfl rfl (any_of HT_.out (by kernel_rfl)) (fun _ _ _ h => h) (Or.inl ⟨by rfl, ?_⟩) ?_ ?_
                rotate_left
                · intro w'
                  go_simp
                  with_reducible rfl
                rotate_left
                · simp only [Act.put, List.setIfInBounds_toArray, List.set_cons_zero, List.set_cons_succ, i64_w, i32_w]
                  rfl
                refine pure_ (i := 4) (N := some 19) (v := ?_) (a' := ?_) #[true, true, false, false, true, false, false, false, false, false, false, false, false, false, false, false] rfl rfl (any_of HT_.out (by kernel_rfl)) (fun _ _ _ h => h) (Or.inl ⟨by rfl, ?_⟩) ?_ ?_
                rotate_left
                · intro w'
                  go_simp
                  with_reducible rfl
                rotate_left
                · simp only [Act.put, List.setIfInBounds_toArray, List.set_cons_zero, List.set_cons_succ, i64_w, i32_w]
                  rfl
                refine pure_ (i := 5) (N := some 20) (v := ?_) (a' := ?_) #[true, true, false, false, true, true, false, false, false, false, false, false, false, false, false, false] rfl rfl (any_of HT_.out (by kernel_rfl)) (fun _ _ _ h => h) (Or.inl ⟨by rfl, ?_⟩) ?_ ?_
                rotate_left
                · intro w'
                  go_simp
                  with_reducible rfl
                rotate_left
                · simp only [Act.put, List.setIfInBounds_toArray, List.set_cons_zero, List.set_cons_succ, i64_w, i32_w]
                  rfl
                refine pure_ (i := 8) (N := some 23) (v := ?_) (a' := ?_) #[true, true, false, false, true, true, false, false, true, false, false, false, false, false, false, false] rfl rfl (any_of HT_.out (by kernel_rfl)) (fun _ _ _ h => h) (Or.inl ⟨by rfl, ?_⟩) ?_ ?_
                rotate_left
                · intro w'
                  go_simp
                  with_reducible rfl
                rotate_left
                · simp only [Act.put, List.setIfInBounds_toArray, List.set_cons_zero, List.set_cons_succ, i64_w, i32_w]
                  rfl
                refine pure_ (i := 9) (N := some 24) (v := ?_) (a' := ?_) #[true, true, false, false, true, true, false, false, true, true, false, false, false, false, false, false] rfl rfl (any_of HT_.out (by kernel_rfl)) (fun _ _ _ h => h) (Or.inl ⟨by rfl, ?_⟩) ?_ ?_
                rotate_left
                · intro w'
                  go_simp
                  with_reducible rfl
                rotate_left
                · simp only [Act.put, List.setIfInBounds_toArray, List.set_cons_zero, List.set_cons_succ, i64_w, i32_w]
                  rfl
                refine take_ (i := 2) (N := some 17) (v := ?_) (a' := ?_) #[true, true, true, false, true, true, false, false, true, true, false, false, false, false, false, false] rfl rfl (take_ofW HT_.out HW_.out (by kernel_rfl)) (fun _ _ _ h => h) (Or.inl ⟨by rfl, ?_⟩) hHeld ?_ ?_
                rotate_left
                · rintro w' ⟨s0, s1, s2⟩
                  go_simp
                  with_reducible rfl
                rotate_left
                · simp only [Act.put, List.setIfInBounds_toArray, List.set_cons_zero, List.set_cons_succ, i64_w, i32_w]
                  rfl
                refine pure_ (i := 3) (N := some 18) (v := ?_) (a' := ?_) #[true, true, true, true, true, true, false, false, true, true, false, false, false, false, false, false] rfl rfl (any_of HT_.out (by kernel_rfl)) (fun _ _ _ h => h) (Or.inl ⟨by rfl, ?_⟩) ?_ ?_
                rotate_left
                · intro w'
                  go_simp
                  with_reducible rfl
                rotate_left
                · simp only [Act.put, List.setIfInBounds_toArray, List.set_cons_zero, List.set_cons_succ, i64_w, i32_w]
                  rfl
                refine take_ (i := 6) (N := some 21) (v := ?_) (a' := ?_) #[true, true, true, true, true, true, true, false, true, true, false, false, false, false, false, false] rfl rfl (take_ofW HT_.out HW_.out (by kernel_rfl)) (fun _ _ _ h => h) (Or.inl ⟨by rfl, ?_⟩) hHeld ?_ ?_
                rotate_left
                · rintro w' ⟨s0, s1, s2⟩
                  go_simp
                  with_reducible rfl
                rotate_left
                · simp only [Act.put, List.setIfInBounds_toArray, List.set_cons_zero, List.set_cons_succ, i64_w, i32_w]
                  rfl
                refine pure_ (i := 7) (N := some 22) (v := ?_) (a' := ?_) #[true, true, true, true, true, true, true, true, true, true, false, false, false, false, false, false] rfl rfl (any_of HT_.out (by kernel_rfl)) (fun _ _ _ h => h) (Or.inl ⟨by rfl, ?_⟩) ?_ ?_
                rotate_left
                · intro w'
                  go_simp
                  with_reducible rfl
                rotate_left
                · simp only [Act.put, List.setIfInBounds_toArray, List.set_cons_zero, List.set_cons_succ, i64_w, i32_w]
                  rfl
                refine take_ (i := 10) (N := some 25) (v := ?_) (a' := ?_) #[true, true, true, true, true, true, true, true, true, true, true, false, false, false, false, false] rfl rfl (take_ofW HT_.out HW_.out (by kernel_rfl)) (fun _ _ _ h => h) (Or.inl ⟨by rfl, ?_⟩) hHeld ?_ ?_
                rotate_left
                · rintro w' ⟨s0, s1, s2⟩
                  go_simp
                  with_reducible rfl
                rotate_left
                · simp only [Act.put, List.setIfInBounds_toArray, List.set_cons_zero, List.set_cons_succ, i64_w, i32_w]
                  rfl
                refine pure_ (i := 11) (N := some 26) (v := ?_) (a' := ?_) #[true, true, true, true, true, true, true, true, true, true, true, true, false, false, false, false] rfl rfl (any_of HT_.out (by kernel_rfl)) (fun _ _ _ h => h) (Or.inl ⟨by rfl, ?_⟩) ?_ ?_
                rotate_left
                · intro w'
                  go_simp
                  with_reducible rfl
                rotate_left
                · simp only [Act.put, List.setIfInBounds_toArray, List.set_cons_zero, List.set_cons_succ, i64_w, i32_w]
                  rfl
                refine pure_ (i := 12) (N := some 27) (v := ?_) (a' := ?_) #[true, true, true, true, true, true, true, true, true, true, true, true, true, false, false, false] rfl rfl (any_of HT_.out (by kernel_rfl)) (fun _ _ _ h => h) (Or.inl ⟨by rfl, ?_⟩) ?_ ?_
                rotate_left
                · intro w'
                  go_simp
                  with_reducible rfl
                rotate_left
                · simp only [Act.put, List.setIfInBounds_toArray, List.set_cons_zero, List.set_cons_succ, i64_w, i32_w]
                  rfl
                refine pure_ (i := 13) (N := some 28) (v := ?_) (a' := ?_) #[true, true, true, true, true, true, true, true, true, true, true, true, true, true, false, false] rfl rfl (any_of HT_.out (by kernel_rfl)) (fun _ _ _ h => h) (Or.inl ⟨by rfl, ?_⟩) ?_ ?_
                rotate_left
                · intro w'
                  go_simp
                  with_reducible rfl
                rotate_left
                · simp only [Act.put, List.setIfInBounds_toArray, List.set_cons_zero, List.set_cons_succ, i64_w, i32_w]
                  rfl
                refine one_ (i := 14) (N := some 5) #[true, true, true, true, true, true, true, true, true, true, true, true, true, true, true, false] rfl rfl (one_of HT_.out (by kernel_rfl)) (by decide) (fun K hK => ?_)
                refine box_step ?hg (N := 5) ?hd (cs := #[.int .i64 0, .int .i64 0]) (t := 25) ?hr ?_; (case hd => rfl); (case hg => rfl); (case hr => first | (go_simp; done) | (go_simp; rfl))
                intro gb186 hg w67 hbox hb
                have HS0_ := (hb.cell (World.block_lt_of_cell? _ _ (hHeld.1))).trans (hHeld.1)
                have HS1_ := (hb.cell (World.block_lt_of_cell? _ _ (hHeld.2.1))).trans (hHeld.2.1)
                have HS2_ := (hb.cell (World.block_lt_of_cell? _ _ (hHeld.2.2))).trans (hHeld.2.2)
                have n0_ := Aside0.mk (Kd.R_below (by (with_reducible repeat (first | apply Kd.R_alloc | apply Kd.R_drewN | apply Kd.R_drew)); exact HO182.out) hb)
                have n1_ := Aside0.mk (blk_below (g := gb179) (o := .cells #[.int .i64 t177, .int .i64 t178] 25 (0, 0)) (by (with_reducible repeat (first | refine blk_drewN ?_ _ | refine blk_drew ?_ | refine blk_alloc ?_ _)); exact BK179.out) hb)
                have n2_ := Aside0.mk (below_step (by repeat (first | (with_reducible first | exact HB.out | apply below_alloc | apply pw_below_drewN | apply below_drew1 | refine below_set ?_ GE179.out) | exact HB.out)) hb)
                have n3_ := Aside0.mk (hbox)
                have n4_ := Aside0.mk ((by rw [hg]; exact (below_size (by repeat (first | (with_reducible first | exact HB.out | apply below_alloc | apply pw_below_drewN | apply below_drew1 | refine below_set ?_ GE179.out) | exact HB.out))) : w.heap.size ≤ gb186))
                have n5_ := Aside0.mk ((by rw [hg]; exact (below_size (by repeat (first | (with_reducible first | exact HB.out | apply below_alloc | apply pw_below_drewN | apply below_drew1 | refine below_set ?_ GE179.out) | exact HB.out))) : w.heap.size ≤ gb186))
                have n6_ := Aside0.mk ((by rw [hg]; exact Nat.ne_of_lt (blk_lt (g := gb179) (o := .cells #[.int .i64 t177, .int .i64 t178] 25 (0, 0)) (by (with_reducible repeat (first | refine blk_drewN ?_ _ | refine blk_drew ?_ | refine blk_alloc ?_ _)); exact BK179.out)) : gb179 ≠ gb186))
                have n7_ := Aside0.mk ((by rw [hg]; exact Nat.ne_of_gt (blk_lt (g := gb179) (o := .cells #[.int .i64 t177, .int .i64 t178] 25 (0, 0)) (by (with_reducible repeat (first | refine blk_drewN ?_ _ | refine blk_drew ?_ | refine blk_alloc ?_ _)); exact BK179.out)) : gb186 ≠ gb179))
                clear HO182
                clear BK179
                clear HB
                have HO182 := n0_
                have BK179 := n1_
                have HB := n2_
                have BK186 := n3_
                have GW186 := n4_
                have GE186 := n5_
                have NB179_186 := n6_
                have NB186_179 := n7_
                clear n0_ n1_ n2_ n3_ n4_ n5_ n6_ n7_
                clear hb hbox hg
                refine hK.out _ _ ⟨HS0_, HS1_, HS2_⟩ (fun hHeld => ?_)
                clear hK K
                refine norm_ (a' := ?_) ?_ ?_
                rotate_left
                · show Act.put _ (some 5) _ = _
                  simp only [Act.put, List.setIfInBounds_toArray, List.set_cons_zero, List.set_cons_succ, i64_w, i32_w]
                  rfl
                refine one_ (i := 15) (N := none) #[true, true, true, true, true, true, true, true, true, true, true, true, true, true, true, true] rfl rfl (one_of HT_.out (by kernel_rfl)) (by decide) (fun K hK => ?_)
                have hs68 : w67.cell? ⟨gb186, 0, none⟩ = some (.int .i64 0) := (blk_cell BK186.out 0).trans rfl
                have hfs68 := blk_frozen BK186.out 0
                have hns68_0 := NB179_186.out
                have hms68_0 := NB186_179.out
                have hs69 : w67.cell? ⟨gb186, 1, none⟩ = some (.int .i64 0) := (blk_cell BK186.out 1).trans rfl
                have hfs69 := blk_frozen BK186.out 1
                have hns69_0 := NB179_186.out
                have hms69_0 := NB186_179.out
                refine skip_ (w1 := ?_) (by rfl) rfl ?_ ?_
                rotate_left
                · go_simp
                  rfl
                refine hK.out _ _ ⟨((cell_far (p := ⟨gb186, _, none⟩) (by first | exact Kd.own_blk (Kd.R_ne HO182.out BK186.out (by decide)) | (rw [add_block]; exact Kd.own_blk (Kd.R_ne HO182.out BK186.out (by decide))) | (show (Addr.add _ _).block ≠ _; rw [add_block]; exact Kd.own_blk (Kd.R_ne HO182.out BK186.out (by decide))) | (dsimp only; exact Kd.own_blk (Kd.R_ne HO182.out BK186.out (by decide)))) _).trans (((cell_far (p := ⟨gb186, _, none⟩) (by first | exact Kd.own_blk (Kd.R_ne HO182.out BK186.out (by decide)) | (rw [add_block]; exact Kd.own_blk (Kd.R_ne HO182.out BK186.out (by decide))) | (show (Addr.add _ _).block ≠ _; rw [add_block]; exact Kd.own_blk (Kd.R_ne HO182.out BK186.out (by decide))) | (dsimp only; exact Kd.own_blk (Kd.R_ne HO182.out BK186.out (by decide)))) _).trans (hHeld.1)))), ((cell_far (p := ⟨gb186, _, none⟩) (by first | exact Kd.own_blk (Kd.R_ne HO182.out BK186.out (by decide)) | (rw [add_block]; exact Kd.own_blk (Kd.R_ne HO182.out BK186.out (by decide))) | (show (Addr.add _ _).block ≠ _; rw [add_block]; exact Kd.own_blk (Kd.R_ne HO182.out BK186.out (by decide))) | (dsimp only; exact Kd.own_blk (Kd.R_ne HO182.out BK186.out (by decide)))) _).trans (((cell_far (p := ⟨gb186, _, none⟩) (by first | exact Kd.own_blk (Kd.R_ne HO182.out BK186.out (by decide)) | (rw [add_block]; exact Kd.own_blk (Kd.R_ne HO182.out BK186.out (by decide))) | (show (Addr.add _ _).block ≠ _; rw [add_block]; exact Kd.own_blk (Kd.R_ne HO182.out BK186.out (by decide))) | (dsimp only; exact Kd.own_blk (Kd.R_ne HO182.out BK186.out (by decide)))) _).trans (hHeld.2.1)))), ((cell_far (p := ⟨gb186, _, none⟩) (by first | exact Kd.own_blk (Kd.R_ne HO182.out BK186.out (by decide)) | (rw [add_block]; exact Kd.own_blk (Kd.R_ne HO182.out BK186.out (by decide))) | (show (Addr.add _ _).block ≠ _; rw [add_block]; exact Kd.own_blk (Kd.R_ne HO182.out BK186.out (by decide))) | (dsimp only; exact Kd.own_blk (Kd.R_ne HO182.out BK186.out (by decide)))) _).trans (((cell_far (p := ⟨gb186, _, none⟩) (by first | exact Kd.own_blk (Kd.R_ne HO182.out BK186.out (by decide)) | (rw [add_block]; exact Kd.own_blk (Kd.R_ne HO182.out BK186.out (by decide))) | (show (Addr.add _ _).block ≠ _; rw [add_block]; exact Kd.own_blk (Kd.R_ne HO182.out BK186.out (by decide))) | (dsimp only; exact Kd.own_blk (Kd.R_ne HO182.out BK186.out (by decide)))) _).trans (hHeld.2.2))))⟩ (fun hHeld => ?_)
                clear hK K
                refine done_ (done_of HT_.out (by kernel_rfl)) ?_
                have hnb70 := NB186_179.out
                have hnc70 := NB179_186.out
                have hcz71_0 : w67.cell? ⟨gb186, 0, none⟩ = some (.int .i64 0) := (blk_cell BK186.out 0).trans rfl
                have hcz71_1 : w67.cell? ⟨gb186, 1, none⟩ = some (.int .i64 0) := (blk_cell BK186.out 1).trans rfl
                have hfz71_0 := blk_frozen BK186.out 0
                have hfz71_1 := blk_frozen BK186.out 1
                try go_wp2_with (first | ((with_reducible refine gate_dst (N := 6) rfl ?_); (try (refine gate_guard (by rfl) ?_; dsimp only)); refine box_event ?hg (N := 6) ?hd (cs := #[.int .i64 0, .int .i64 0, .int .i64 0]) (t := 50) ?hr ?_; (case hd => rfl); (case hg => rfl); (case hr => first | (go_simp; done) | (go_simp; rfl)); intro gb187 hg w72 hbox hb; have n0_ := Aside0.mk (Kd.R_below (by (with_reducible repeat (first | apply Kd.R_alloc | apply Kd.R_drewN | apply Kd.R_drew)); exact (Kd.R_mono (Kd.R_far (p := ⟨gb186, 1, none⟩) (Kd.R_far (p := ⟨gb186, 0, none⟩) (Kd.R_types HO182.out BK186.out (by decide)) (fun _ hk => hk.2) (.int .i64 (Int.tmod (rd t180 0) 200))) (fun _ hk => hk.2) (.int .i64 (wrap64 ((Int.tmod (rd t180 0) 200) + (Int.tmod (rd t180 1) 40))))) (fun _ h_ => h_.1))) hb); have n1_ := Aside0.mk (blk_below (g := gb179) (o := .cells #[.int .i64 t177, .int .i64 t178] 25 (0, 0)) (by (with_reducible repeat (first | refine blk_drewN ?_ _ | refine blk_drew ?_ | refine blk_alloc ?_ _)); refine blk_far ?_ NB179_186.out _; (with_reducible repeat (first | refine blk_drewN ?_ _ | refine blk_drew ?_ | refine blk_alloc ?_ _)); refine blk_far ?_ NB179_186.out _; (with_reducible repeat (first | refine blk_drewN ?_ _ | refine blk_drew ?_ | refine blk_alloc ?_ _)); exact BK179.out) hb); have n2_ := Aside0.mk (blk_below (g := gb186) (o := .cells #[.int .i64 (Int.tmod (rd t180 0) 200), .int .i64 (wrap64 ((Int.tmod (rd t180 0) 200) + (Int.tmod (rd t180 1) 40)))] 25 (0, 0)) (by (with_reducible repeat (first | refine blk_drewN ?_ _ | refine blk_drew ?_ | refine blk_alloc ?_ _)); refine blk_put (cs := #[.int .i64 (Int.tmod (rd t180 0) 200), .int .i64 0]) ?_ 1 _ rfl; (with_reducible repeat (first | refine blk_drewN ?_ _ | refine blk_drew ?_ | refine blk_alloc ?_ _)); refine blk_put (cs := #[.int .i64 0, .int .i64 0]) ?_ 0 _ rfl; (with_reducible repeat (first | refine blk_drewN ?_ _ | refine blk_drew ?_ | refine blk_alloc ?_ _)); exact BK186.out) hb); have n3_ := Aside0.mk (below_step (by repeat (first | (with_reducible first | exact HB.out | apply below_alloc | apply pw_below_drewN | apply below_drew1 | refine below_set ?_ GE179.out | refine below_set ?_ GE186.out) | exact HB.out)) hb); have n4_ := Aside0.mk (hbox); have n5_ := Aside0.mk ((by rw [hg]; exact (below_size (by repeat (first | (with_reducible first | exact HB.out | apply below_alloc | apply pw_below_drewN | apply below_drew1 | refine below_set ?_ GE179.out | refine below_set ?_ GE186.out) | exact HB.out))) : w.heap.size ≤ gb187)); have n6_ := Aside0.mk ((by rw [hg]; exact (below_size (by repeat (first | (with_reducible first | exact HB.out | apply below_alloc | apply pw_below_drewN | apply below_drew1 | refine below_set ?_ GE179.out | refine below_set ?_ GE186.out) | exact HB.out))) : w.heap.size ≤ gb187)); have n7_ := Aside0.mk ((by rw [hg]; exact Nat.ne_of_lt (blk_lt (g := gb179) (o := .cells #[.int .i64 t177, .int .i64 t178] 25 (0, 0)) (by (with_reducible repeat (first | refine blk_drewN ?_ _ | refine blk_drew ?_ | refine blk_alloc ?_ _)); refine blk_far ?_ NB179_186.out _; (with_reducible repeat (first | refine blk_drewN ?_ _ | refine blk_drew ?_ | refine blk_alloc ?_ _)); refine blk_far ?_ NB179_186.out _; (with_reducible repeat (first | refine blk_drewN ?_ _ | refine blk_drew ?_ | refine blk_alloc ?_ _)); exact BK179.out)) : gb179 ≠ gb187)); have n8_ := Aside0.mk ((by rw [hg]; exact Nat.ne_of_gt (blk_lt (g := gb179) (o := .cells #[.int .i64 t177, .int .i64 t178] 25 (0, 0)) (by (with_reducible repeat (first | refine blk_drewN ?_ _ | refine blk_drew ?_ | refine blk_alloc ?_ _)); refine blk_far ?_ NB179_186.out _; (with_reducible repeat (first | refine blk_drewN ?_ _ | refine blk_drew ?_ | refine blk_alloc ?_ _)); refine blk_far ?_ NB179_186.out _; (with_reducible repeat (first | refine blk_drewN ?_ _ | refine blk_drew ?_ | refine blk_alloc ?_ _)); exact BK179.out)) : gb187 ≠ gb179)); have n9_ := Aside0.mk ((by rw [hg]; exact Nat.ne_of_lt (blk_lt (g := gb186) (o := .cells #[.int .i64 (Int.tmod (rd t180 0) 200), .int .i64 (wrap64 ((Int.tmod (rd t180 0) 200) + (Int.tmod (rd t180 1) 40)))] 25 (0, 0)) (by (with_reducible repeat (first | refine blk_drewN ?_ _ | refine blk_drew ?_ | refine blk_alloc ?_ _)); refine blk_put (cs := #[.int .i64 (Int.tmod (rd t180 0) 200), .int .i64 0]) ?_ 1 _ rfl; (with_reducible repeat (first | refine blk_drewN ?_ _ | refine blk_drew ?_ | refine blk_alloc ?_ _)); refine blk_put (cs := #[.int .i64 0, .int .i64 0]) ?_ 0 _ rfl; (with_reducible repeat (first | refine blk_drewN ?_ _ | refine blk_drew ?_ | refine blk_alloc ?_ _)); exact BK186.out)) : gb186 ≠ gb187)); have n10_ := Aside0.mk ((by rw [hg]; exact Nat.ne_of_gt (blk_lt (g := gb186) (o := .cells #[.int .i64 (Int.tmod (rd t180 0) 200), .int .i64 (wrap64 ((Int.tmod (rd t180 0) 200) + (Int.tmod (rd t180 1) 40)))] 25 (0, 0)) (by (with_reducible repeat (first | refine blk_drewN ?_ _ | refine blk_drew ?_ | refine blk_alloc ?_ _)); refine blk_put (cs := #[.int .i64 (Int.tmod (rd t180 0) 200), .int .i64 0]) ?_ 1 _ rfl; (with_reducible repeat (first | refine blk_drewN ?_ _ | refine blk_drew ?_ | refine blk_alloc ?_ _)); refine blk_put (cs := #[.int .i64 0, .int .i64 0]) ?_ 0 _ rfl; (with_reducible repeat (first | refine blk_drewN ?_ _ | refine blk_drew ?_ | refine blk_alloc ?_ _)); exact BK186.out)) : gb187 ≠ gb186)); clear HO182; clear BK179; clear BK186; clear HB; have HO182 := n0_; have BK179 := n1_; have BK186 := n2_; have HB := n3_; have BK187 := n4_; have GW187 := n5_; have GE187 := n6_; have NB179_187 := n7_; have NB187_179 := n8_; have NB186_187 := n9_; have NB187_186 := n10_; clear n0_ n1_ n2_ n3_ n4_ n5_ n6_ n7_ n8_ n9_ n10_; clear hb hbox hg; have hnb73 := NB187_179.out; have hnc73 := NB179_187.out; have hnb74 := NB187_186.out; have hnc74 := NB186_187.out; have hcz75_0 : w72.cell? ⟨gb187, 0, none⟩ = some (.int .i64 0) := (blk_cell BK187.out 0).trans rfl; have hcz75_1 : w72.cell? ⟨gb187, 1, none⟩ = some (.int .i64 0) := (blk_cell BK187.out 1).trans rfl; have hcz75_2 : w72.cell? ⟨gb187, 2, none⟩ = some (.int .i64 0) := (blk_cell BK187.out 2).trans rfl; have hfz75_0 := blk_frozen BK187.out 0; have hfz75_1 := blk_frozen BK187.out 1; have hfz75_2 := blk_frozen BK187.out 2; have p188 : 0 ≤ (2 : Int) := (by omega); have q188 : 2 < (t180.length : Int) := of_decide_eq_true (by first | (with_reducible assumption) | assumption); obtain ⟨ad188, e188, hx188_0⟩ := Kd.at_int (Kd.R_reads' HO182.out).2.2 2 p188 q188; obtain rfl : ad183 = ad188 := (by injection e188); (try simp only [show (2 : Int).toNat = 2 from rfl, Nat.reduceMul, Nat.reduceEqDiff, Go.Addr.add, ↓reduceIte] at hx188_0); have qi188 : (2 < t180.length) = True := eq_true (by omega); (try rw [show ((2 : Int)).toNat = 2 from rfl] at hx188_0); have hn188_0 : ad183.block ≠ gb187 := Kd.own_blk (Kd.R_ne HO182.out BK187.out (by decide)); have hn188_1 : ad183.block ≠ gb187 := Kd.own_blk (Kd.R_ne HO182.out BK187.out (by decide)); have hn188_2 : ad183.block ≠ gb187 := Kd.own_blk (Kd.R_ne HO182.out BK187.out (by decide)); replace hx188_0 := (cell_far (p := ⟨gb187, 0, none⟩) (by first | (rw [add_block]; exact hn188_0) | (show (Addr.add _ _).block ≠ _; rw [add_block]; exact hn188_0) | exact hn188_0) (.int .i64 5)).trans hx188_0; replace hx188_0 := (cell_far (p := ⟨gb187, 1, none⟩) (by first | (rw [add_block]; exact hn188_1) | (show (Addr.add _ _).block ≠ _; rw [add_block]; exact hn188_1) | exact hn188_1) (.int .i64 (Int.tmod (rd t180 0) 200))).trans hx188_0; replace hx188_0 := (cell_far (p := ⟨gb187, 2, none⟩) (by first | (rw [add_block]; exact hn188_2) | (show (Addr.add _ _).block ≠ _; rw [add_block]; exact hn188_2) | exact hn188_2) (.int .i64 (wrap64 ((Int.tmod (rd t180 0) 200) + (Int.tmod (rd t180 1) 40))))).trans hx188_0; clear hn188_0; clear hn188_1; clear hn188_2; replace p188 := eq_true p188; replace q188 := eq_true q188; have hcz76_0 : w72.cell? ⟨gb179, 0, none⟩ = some (.int .i64 t177) := (blk_cell BK179.out 0).trans rfl; have hcz76_1 : w72.cell? ⟨gb179, 1, none⟩ = some (.int .i64 t178) := (blk_cell BK179.out 1).trans rfl; have hfz76_0 := blk_frozen BK179.out 0; have hfz76_1 := blk_frozen BK179.out 1) | ((with_reducible refine gate_callee (f := 42) rfl ?_); refine goesL_ (some 38) rfl rfl Try.func42 (by kernel_rfl) rfl #[.agg #[.int .i64 t177, .int .i64 t178], .agg #[.int .i64 5, .int .i64 (Int.tmod (rd t180 0) 200), .int .i64 (wrap64 ((Int.tmod (rd t180 0) 200) + (Int.tmod (rd t180 1) 40)))], .int .i64 (Int.tmod (rd t180 2) 300)] rfl (by (try simp only [List.map_toArray, List.map_cons, List.map_nil]); first | done | rfl | (simp only [List.length_drop, List.length_take]; rfl)) ?_; (with_reducible refine (impl_FreshFor.calls t177 t178 5 (Int.tmod (rd t180 0) 200) (wrap64 ((Int.tmod (rd t180 0) 200) + (Int.tmod (rd t180 1) 40))) (Int.tmod (rd t180 2) 300) t189 _ A9.out).mono ?_); rintro e w77 ⟨rfl, hb⟩; refine ⟨_, rfl, ?_⟩; have n0_ := Aside0.mk (Kd.R_below (by (with_reducible repeat (first | apply Kd.R_alloc | apply Kd.R_drewN | apply Kd.R_drew)); exact (Kd.R_mono (Kd.R_far (p := ⟨gb187, 2, none⟩) (Kd.R_far (p := ⟨gb187, 1, none⟩) (Kd.R_far (p := ⟨gb187, 0, none⟩) (Kd.R_types HO182.out BK187.out (by decide)) (fun _ hk => hk.2) (.int .i64 5)) (fun _ hk => hk.2) (.int .i64 (Int.tmod (rd t180 0) 200))) (fun _ hk => hk.2) (.int .i64 (wrap64 ((Int.tmod (rd t180 0) 200) + (Int.tmod (rd t180 1) 40))))) (fun _ h_ => h_.1))) hb); have n1_ := Aside0.mk (blk_below (g := gb179) (o := .cells #[.int .i64 t177, .int .i64 t178] 25 (0, 0)) (by (with_reducible repeat (first | refine blk_drewN ?_ _ | refine blk_drew ?_ | refine blk_alloc ?_ _)); refine blk_far ?_ NB179_187.out _; (with_reducible repeat (first | refine blk_drewN ?_ _ | refine blk_drew ?_ | refine blk_alloc ?_ _)); refine blk_far ?_ NB179_187.out _; (with_reducible repeat (first | refine blk_drewN ?_ _ | refine blk_drew ?_ | refine blk_alloc ?_ _)); refine blk_far ?_ NB179_187.out _; (with_reducible repeat (first | refine blk_drewN ?_ _ | refine blk_drew ?_ | refine blk_alloc ?_ _)); exact BK179.out) hb); have n2_ := Aside0.mk (blk_below (g := gb186) (o := .cells #[.int .i64 (Int.tmod (rd t180 0) 200), .int .i64 (wrap64 ((Int.tmod (rd t180 0) 200) + (Int.tmod (rd t180 1) 40)))] 25 (0, 0)) (by (with_reducible repeat (first | refine blk_drewN ?_ _ | refine blk_drew ?_ | refine blk_alloc ?_ _)); refine blk_far ?_ NB186_187.out _; (with_reducible repeat (first | refine blk_drewN ?_ _ | refine blk_drew ?_ | refine blk_alloc ?_ _)); refine blk_far ?_ NB186_187.out _; (with_reducible repeat (first | refine blk_drewN ?_ _ | refine blk_drew ?_ | refine blk_alloc ?_ _)); refine blk_far ?_ NB186_187.out _; (with_reducible repeat (first | refine blk_drewN ?_ _ | refine blk_drew ?_ | refine blk_alloc ?_ _)); exact BK186.out) hb); have n3_ := Aside0.mk (blk_below (g := gb187) (o := .cells #[.int .i64 5, .int .i64 (Int.tmod (rd t180 0) 200), .int .i64 (wrap64 ((Int.tmod (rd t180 0) 200) + (Int.tmod (rd t180 1) 40)))] 50 (0, 0)) (by (with_reducible repeat (first | refine blk_drewN ?_ _ | refine blk_drew ?_ | refine blk_alloc ?_ _)); refine blk_put (cs := #[.int .i64 5, .int .i64 (Int.tmod (rd t180 0) 200), .int .i64 0]) ?_ 2 _ rfl; (with_reducible repeat (first | refine blk_drewN ?_ _ | refine blk_drew ?_ | refine blk_alloc ?_ _)); refine blk_put (cs := #[.int .i64 5, .int .i64 0, .int .i64 0]) ?_ 1 _ rfl; (with_reducible repeat (first | refine blk_drewN ?_ _ | refine blk_drew ?_ | refine blk_alloc ?_ _)); refine blk_put (cs := #[.int .i64 0, .int .i64 0, .int .i64 0]) ?_ 0 _ rfl; (with_reducible repeat (first | refine blk_drewN ?_ _ | refine blk_drew ?_ | refine blk_alloc ?_ _)); exact BK187.out) hb); have n4_ := Aside0.mk (below_step (by repeat (first | (with_reducible first | exact HB.out | apply below_alloc | apply pw_below_drewN | apply below_drew1 | refine below_set ?_ GE179.out | refine below_set ?_ GE186.out | refine below_set ?_ GE187.out) | exact HB.out)) hb); clear HO182; clear BK179; clear BK186; clear BK187; clear HB; have HO182 := n0_; have BK179 := n1_; have BK186 := n2_; have BK187 := n3_; have HB := n4_; clear n0_ n1_ n2_ n3_ n4_; (try clear hb); (try clear hb2); (try clear hk); (try clear hi)))
                have n0_ := Aside0.mk (Kd.R_drew HO182.out)
                have n1_ := Aside0.mk (blk_drew BK179.out)
                have n2_ := Aside0.mk (blk_drew BK186.out)
                have n3_ := Aside0.mk (blk_drew BK187.out)
                have n4_ := Aside0.mk (below_drew1 HB.out)
                clear HO182
                clear BK179
                clear BK186
                clear BK187
                clear HB
                have HO182 := n0_
                have BK179 := n1_
                have BK186 := n2_
                have BK187 := n3_
                have HB := n4_
                clear n0_ n1_ n2_ n3_ n4_
                refine start_ (n := 25) (S := fun w' => w'.cell? ⟨gb179, 0, none⟩ = some (.int .i64 t177) ∧ w'.cell? ⟨gb179, 1, none⟩ = some (.int .i64 t178) ∧ w'.cell? ⟨gb187, 0, none⟩ = some (.int .i64 5) ∧ w'.cell? ⟨gb187, 1, none⟩ = some (.int .i64 (Int.tmod (rd t180 0) 200)) ∧ w'.cell? ⟨gb187, 2, none⟩ = some (.int .i64 (wrap64 ((Int.tmod (rd t180 0) 200) + (Int.tmod (rd t180 1) 40))))) (ds := []) #[false, false, false, false, false, false, false, false, false, false, false, false, false, false, false, false, false, false, false, false, false, false, false, false, false] (by kernel_rfl) rfl rfl ⟨(blk_cell BK179.out 0).trans rfl, (blk_cell BK179.out 1).trans rfl, (blk_cell BK187.out 0).trans rfl, (blk_cell BK187.out 1).trans rfl, (blk_cell BK187.out 2).trans rfl⟩ (fun hHeld => ?_); refine with_tabW laws_FnFreshFor.tab11 laws_FnFreshFor.bits11 (fun HT_ HW_ => ?_)
                generalize w77.drew = w78 at HO182 BK179 BK186 BK187 HB hHeld ⊢
                refine pure_ (i := 1) (N := some 47) (v := ?_) (a' := ?_) #[false, true, false, false, false, false, false, false, false, false, false, false, false, false, false, false, false, false, false, false, false, false, false, false, false] rfl rfl (any_of HT_.out (by kernel_rfl)) (fun _ _ _ h => h) (Or.inl ⟨by rfl, ?_⟩) ?_ ?_
                rotate_left
                · intro w'
                  go_simp
                  with_reducible rfl
                rotate_left
                · simp only [Act.put, List.setIfInBounds_toArray, List.set_cons_zero, List.set_cons_succ, i64_w, i32_w]
                  rfl
                refine pure_ (i := 4) (N := some 50) (v := ?_) (a' := ?_) #[false, true, false, false, true, false, false, false, false, false, false, false, false, false, false, false, false, false, false, false, false, false, false, false, false] rfl rfl (any_of HT_.out (by kernel_rfl)) (fun _ _ _ h => h) (Or.inl ⟨by rfl, ?_⟩) ?_ ?_
                rotate_left
                · intro w'
                  go_simp
                  with_reducible rfl
                rotate_left
                · simp only [Act.put, List.setIfInBounds_toArray, List.set_cons_zero, List.set_cons_succ, i64_w, i32_w]
                  rfl
                refine take_ (i := 0) (N := some 46) (v := ?_) (a' := ?_) #[true, true, false, false, true, false, false, false, false, false, false, false, false, false, false, false, false, false, false, false, false, false, false, false, false] rfl rfl (take_ofW HT_.out HW_.out (by kernel_rfl)) (fun _ _ _ h => h) (Or.inl ⟨by rfl, ?_⟩) hHeld ?_ ?_
                rotate_left
                · rintro w' ⟨s0, s1, s2, s3, s4⟩
                  go_simp
                  with_reducible rfl
                rotate_left
                · simp only [Act.put, List.setIfInBounds_toArray, List.set_cons_zero, List.set_cons_succ, i64_w, i32_w]
                  rfl
                refine take_ (i := 3) (N := some 49) (v := ?_) (a' := ?_) #[true, true, false, true, true, false, false, false, false, false, false, false, false, false, false, false, false, false, false, false, false, false, false, false, false] rfl rfl (take_ofW HT_.out HW_.out (by kernel_rfl)) (fun _ _ _ h => h) (Or.inl ⟨by rfl, ?_⟩) hHeld ?_ ?_
                rotate_left
                · rintro w' ⟨s0, s1, s2, s3, s4⟩
                  go_simp
                  with_reducible rfl
                rotate_left
                · simp only [Act.put, List.setIfInBounds_toArray, List.set_cons_zero, List.set_cons_succ, i64_w, i32_w]
                  rfl
                refine one_ (i := 2) (N := some 48) #[true, true, true, true, true, false, false, false, false, false, false, false, false, false, false, false, false, false, false, false, false, false, false, false, false] rfl rfl (one_of HT_.out (by kernel_rfl)) (by decide) (fun K hK => ?_)
                refine goes_ Try.func35 (by kernel_rfl) rfl #[.agg #[.int .i64 t177, .int .i64 t178], .int .i64 t189] (by rfl) rfl rfl (by (try simp only [List.map_toArray, List.map_cons, List.map_nil]); first | done | rfl | (simp only [List.length_drop, List.length_take]; rfl)) ?_
                with_reducible refine (impl_PassOn.calls t177 t178 t189 t191 t192 _ A32.out).mono ?_
                rintro e w79 ⟨rfl, hb⟩
                refine ⟨_, rfl, ?_⟩
                have n0_ := Aside0.mk (Kd.R_below (by (with_reducible repeat (first | apply Kd.R_alloc | apply Kd.R_drewN | apply Kd.R_drew)); exact HO182.out) hb)
                have n1_ := Aside0.mk (blk_below (g := gb179) (o := .cells #[.int .i64 t177, .int .i64 t178] 25 (0, 0)) (by (with_reducible repeat (first | refine blk_drewN ?_ _ | refine blk_drew ?_ | refine blk_alloc ?_ _)); exact BK179.out) hb)
                have n2_ := Aside0.mk (blk_below (g := gb186) (o := .cells #[.int .i64 (Int.tmod (rd t180 0) 200), .int .i64 (wrap64 ((Int.tmod (rd t180 0) 200) + (Int.tmod (rd t180 1) 40)))] 25 (0, 0)) (by (with_reducible repeat (first | refine blk_drewN ?_ _ | refine blk_drew ?_ | refine blk_alloc ?_ _)); exact BK186.out) hb)
                have n3_ := Aside0.mk (blk_below (g := gb187) (o := .cells #[.int .i64 5, .int .i64 (Int.tmod (rd t180 0) 200), .int .i64 (wrap64 ((Int.tmod (rd t180 0) 200) + (Int.tmod (rd t180 1) 40)))] 50 (0, 0)) (by (with_reducible repeat (first | refine blk_drewN ?_ _ | refine blk_drew ?_ | refine blk_alloc ?_ _)); exact BK187.out) hb)
                have n4_ := Aside0.mk (below_step (by repeat (first | (with_reducible first | exact HB.out | apply below_alloc | apply pw_below_drewN | apply below_drew1 | refine below_set ?_ GE179.out | refine below_set ?_ GE186.out | refine below_set ?_ GE187.out) | exact HB.out)) hb)
                clear HO182
                clear BK179
                clear BK186
                clear BK187
                clear HB
                have HO182 := n0_
                have BK179 := n1_
                have BK186 := n2_
                have BK187 := n3_
                have HB := n4_
                clear n0_ n1_ n2_ n3_ n4_
                (try clear hb)
                (try clear hb2)
                (try clear hk)
                (try clear hi)
                refine hK.out _ _ ⟨(blk_cell BK179.out 0).trans rfl, (blk_cell BK179.out 1).trans rfl, (blk_cell BK187.out 0).trans rfl, (blk_cell BK187.out 1).trans rfl, (blk_cell BK187.out 2).trans rfl⟩ (fun hHeld => ?_)
                clear hK K
                refine norm_ (a' := ?_) ?_ ?_
                rotate_left
                · show Act.put _ (some 48) _ = _
                  simp only [Act.put, List.setIfInBounds_toArray, List.set_cons_zero, List.set_cons_succ, i64_w, i32_w]
                  rfl
                refine one_ (i := 5) (N := some 51) #[true, true, true, true, true, true, false, false, false, false, false, false, false, false, false, false, false, false, false, false, false, false, false, false, false] rfl rfl (one_of HT_.out (by kernel_rfl)) (by decide) (fun K hK => ?_)
                refine goes_ Try.func40 (by kernel_rfl) rfl #[.agg #[.int .i64 t191, .int .i64 t192], .agg #[.int .i64 5, .int .i64 (Int.tmod (rd t180 0) 200), .int .i64 (wrap64 ((Int.tmod (rd t180 0) 200) + (Int.tmod (rd t180 1) 40)))], .int .i64 (Int.tmod (rd t180 2) 300)] (by rfl) rfl rfl (by (try simp only [List.map_toArray, List.map_cons, List.map_nil]); first | done | rfl | (simp only [List.length_drop, List.length_take]; rfl)) ?_
                with_reducible refine (impl_FreshState.calls t191 t192 5 (Int.tmod (rd t180 0) 200) (wrap64 ((Int.tmod (rd t180 0) 200) + (Int.tmod (rd t180 1) 40))) (Int.tmod (rd t180 2) 300) t193 _ A33.out).mono ?_
                rintro e w80 ⟨rfl, hb⟩
                refine ⟨_, rfl, ?_⟩
                have n0_ := Aside0.mk (Kd.R_below (by (with_reducible repeat (first | apply Kd.R_alloc | apply Kd.R_drewN | apply Kd.R_drew)); exact HO182.out) hb)
                have n1_ := Aside0.mk (blk_below (g := gb179) (o := .cells #[.int .i64 t177, .int .i64 t178] 25 (0, 0)) (by (with_reducible repeat (first | refine blk_drewN ?_ _ | refine blk_drew ?_ | refine blk_alloc ?_ _)); exact BK179.out) hb)
                have n2_ := Aside0.mk (blk_below (g := gb186) (o := .cells #[.int .i64 (Int.tmod (rd t180 0) 200), .int .i64 (wrap64 ((Int.tmod (rd t180 0) 200) + (Int.tmod (rd t180 1) 40)))] 25 (0, 0)) (by (with_reducible repeat (first | refine blk_drewN ?_ _ | refine blk_drew ?_ | refine blk_alloc ?_ _)); exact BK186.out) hb)
                have n3_ := Aside0.mk (blk_below (g := gb187) (o := .cells #[.int .i64 5, .int .i64 (Int.tmod (rd t180 0) 200), .int .i64 (wrap64 ((Int.tmod (rd t180 0) 200) + (Int.tmod (rd t180 1) 40)))] 50 (0, 0)) (by (with_reducible repeat (first | refine blk_drewN ?_ _ | refine blk_drew ?_ | refine blk_alloc ?_ _)); exact BK187.out) hb)
                have n4_ := Aside0.mk (below_step (by repeat (first | (with_reducible first | exact HB.out | apply below_alloc | apply pw_below_drewN | apply below_drew1 | refine below_set ?_ GE179.out | refine below_set ?_ GE186.out | refine below_set ?_ GE187.out) | exact HB.out)) hb)
                clear HO182
                clear BK179
                clear BK186
                clear BK187
                clear HB
                have HO182 := n0_
                have BK179 := n1_
                have BK186 := n2_
                have BK187 := n3_
                have HB := n4_
                clear n0_ n1_ n2_ n3_ n4_
                (try clear hb)
                (try clear hb2)
                (try clear hk)
                (try clear hi)
                refine hK.out _ _ ⟨(blk_cell BK179.out 0).trans rfl, (blk_cell BK179.out 1).trans rfl, (blk_cell BK187.out 0).trans rfl, (blk_cell BK187.out 1).trans rfl, (blk_cell BK187.out 2).trans rfl⟩ (fun hHeld => ?_)
                clear hK K
                refine norm_ (a' := ?_) ?_ ?_
                rotate_left
                · show Act.put _ (some 51) _ = _
                  simp only [Act.put, List.setIfInBounds_toArray, List.set_cons_zero, List.set_cons_succ, i64_w, i32_w]
                  rfl
                refine pure_ (i := 6) (N := some 52) (v := ?_) (a' := ?_) #[true, true, true, true, true, true, true, false, false, false, false, false, false, false, false, false, false, false, false, false, false, false, false, false, false] rfl rfl (any_of HT_.out (by kernel_rfl)) (fun _ _ _ h => h) (Or.inl ⟨by rfl, ?_⟩) ?_ ?_
                rotate_left
                · intro w'
                  go_simp
                  with_reducible rfl
                rotate_left
                · simp only [Act.put, List.setIfInBounds_toArray, List.set_cons_zero, List.set_cons_succ, i64_w, i32_w]
                  rfl
                refine pure_ (i := 7) (N := some 53) (v := ?_) (a' := ?_) #[true, true, true, true, true, true, true, true, false, false, false, false, false, false, false, false, false, false, false, false, false, false, false, false, false] rfl rfl (any_of HT_.out (by kernel_rfl)) (fun _ _ _ h => h) (Or.inl ⟨by rfl, ?_⟩) ?_ ?_
                rotate_left
                · intro w'
                  go_simp
                  with_reducible rfl
                rotate_left
                · simp only [Act.put, List.setIfInBounds_toArray, List.set_cons_zero, List.set_cons_succ, i64_w, i32_w]
                  rfl
                refine pure_ (i := 9) (N := some 55) (v := ?_) (a' := ?_) #[true, true, true, true, true, true, true, true, false, true, false, false, false, false, false, false, false, false, false, false, false, false, false, false, false] rfl rfl (any_of HT_.out (by kernel_rfl)) (fun _ _ _ h => h) (Or.inl ⟨by rfl, ?_⟩) ?_ ?_
                rotate_left
                · intro w'
                  go_simp
                  with_reducible rfl
                rotate_left
                · simp only [Act.put, List.setIfInBounds_toArray, List.set_cons_zero, List.set_cons_succ, i64_w, i32_w]
                  rfl
                refine pure_ (i := 10) (N := some 56) (v := ?_) (a' := ?_) #[true, true, true, true, true, true, true, true, false, true, true, false, false, false, false, false, false, false, false, false, false, false, false, false, false] rfl rfl (any_of HT_.out (by kernel_rfl)) (fun _ _ _ h => h) (Or.inl ⟨by rfl, ?_⟩) ?_ ?_
                rotate_left
                · intro w'
                  go_simp
                  with_reducible rfl
                rotate_left
                · simp only [Act.put, List.setIfInBounds_toArray, List.set_cons_zero, List.set_cons_succ, i64_w, i32_w]
                  rfl
                refine pure_ (i := 13) (N := some 59) (v := ?_) (a' := ?_) #[true, true, true, true, true, true, true, true, false, true, true, false, false, true, false, false, false, false, false, false, false, false, false, false, false] rfl rfl (any_of HT_.out (by kernel_rfl)) (fun _ _ _ h => h) (Or.inl ⟨by rfl, ?_⟩) ?_ ?_
                rotate_left
                · intro w'
                  go_simp
                  with_reducible rfl
                rotate_left
                · simp only [Act.put, List.setIfInBounds_toArray, List.set_cons_zero, List.set_cons_succ, i64_w, i32_w]
                  rfl
                refine take_ (i := 8) (N := some 54) (v := ?_) (a' := ?_) #[true, true, true, true, true, true, true, true, true, true, true, false, false, true, false, false, false, false, false, false, false, false, false, false, false] rfl rfl (take_ofW HT_.out HW_.out (by kernel_rfl)) (fun _ _ _ h => h) (Or.inl ⟨by rfl, ?_⟩) hHeld ?_ ?_
                rotate_left
                · rintro w' ⟨s0, s1, s2, s3, s4⟩
                  go_simp
                  with_reducible rfl
                rotate_left
                · simp only [Act.put, List.setIfInBounds_toArray, List.set_cons_zero, List.set_cons_succ, i64_w, i32_w]
                  rfl
                refine take_ (i := 12) (N := some 58) (v := ?_) (a' := ?_) #[true, true, true, true, true, true, true, true, true, true, true, false, true, true, false, false, false, false, false, false, false, false, false, false, false] rfl rfl (take_ofW HT_.out HW_.out (by kernel_rfl)) (fun _ _ _ h => h) (Or.inl ⟨by rfl, ?_⟩) hHeld ?_ ?_
                rotate_left
                · rintro w' ⟨s0, s1, s2, s3, s4⟩
                  go_simp
                  with_reducible rfl
                rotate_left
                · simp only [Act.put, List.setIfInBounds_toArray, List.set_cons_zero, List.set_cons_succ, i64_w, i32_w]
                  rfl
                refine one_ (i := 11) (N := some 57) #[true, true, true, true, true, true, true, true, true, true, true, true, true, true, false, false, false, false, false, false, false, false, false, false, false] rfl rfl (one_of HT_.out (by kernel_rfl)) (by decide) (fun K hK => ?_)
                refine goes_ Try.func35 (by kernel_rfl) rfl #[.agg #[.int .i64 t177, .int .i64 t178], .int .i64 (wrap64 (t189 + 1))] (by rfl) rfl rfl (by (try simp only [List.map_toArray, List.map_cons, List.map_nil]); first | done | rfl | (simp only [List.length_drop, List.length_take]; rfl)) ?_
                with_reducible refine (impl_PassOn.calls t177 t178 (wrap64 (t189 + 1)) t194 t195 _ A35.out).mono ?_
                rintro e w81 ⟨rfl, hb⟩
                refine ⟨_, rfl, ?_⟩
                have n0_ := Aside0.mk (Kd.R_below (by (with_reducible repeat (first | apply Kd.R_alloc | apply Kd.R_drewN | apply Kd.R_drew)); exact HO182.out) hb)
                have n1_ := Aside0.mk (blk_below (g := gb179) (o := .cells #[.int .i64 t177, .int .i64 t178] 25 (0, 0)) (by (with_reducible repeat (first | refine blk_drewN ?_ _ | refine blk_drew ?_ | refine blk_alloc ?_ _)); exact BK179.out) hb)
                have n2_ := Aside0.mk (blk_below (g := gb186) (o := .cells #[.int .i64 (Int.tmod (rd t180 0) 200), .int .i64 (wrap64 ((Int.tmod (rd t180 0) 200) + (Int.tmod (rd t180 1) 40)))] 25 (0, 0)) (by (with_reducible repeat (first | refine blk_drewN ?_ _ | refine blk_drew ?_ | refine blk_alloc ?_ _)); exact BK186.out) hb)
                have n3_ := Aside0.mk (blk_below (g := gb187) (o := .cells #[.int .i64 5, .int .i64 (Int.tmod (rd t180 0) 200), .int .i64 (wrap64 ((Int.tmod (rd t180 0) 200) + (Int.tmod (rd t180 1) 40)))] 50 (0, 0)) (by (with_reducible repeat (first | refine blk_drewN ?_ _ | refine blk_drew ?_ | refine blk_alloc ?_ _)); exact BK187.out) hb)
                have n4_ := Aside0.mk (below_step (by repeat (first | (with_reducible first | exact HB.out | apply below_alloc | apply pw_below_drewN | apply below_drew1 | refine below_set ?_ GE179.out | refine below_set ?_ GE186.out | refine below_set ?_ GE187.out) | exact HB.out)) hb)
                clear HO182
                clear BK179
                clear BK186
                clear BK187
                clear HB
                have HO182 := n0_
                have BK179 := n1_
                have BK186 := n2_
                have BK187 := n3_
                have HB := n4_
                clear n0_ n1_ n2_ n3_ n4_
                (try clear hb)
                (try clear hb2)
                (try clear hk)
                (try clear hi)
                refine hK.out _ _ ⟨(blk_cell BK179.out 0).trans rfl, (blk_cell BK179.out 1).trans rfl, (blk_cell BK187.out 0).trans rfl, (blk_cell BK187.out 1).trans rfl, (blk_cell BK187.out 2).trans rfl⟩ (fun hHeld => ?_)
                clear hK K
                refine norm_ (a' := ?_) ?_ ?_
                rotate_left
                · show Act.put _ (some 57) _ = _
                  simp only [Act.put, List.setIfInBounds_toArray, List.set_cons_zero, List.set_cons_succ, i64_w, i32_w]
                  rfl
                refine one_ (i := 14) (N := some 60) #[true, true, true, true, true, true, true, true, true, true, true, true, true, true, true, false, false, false, false, false, false, false, false, false, false] rfl rfl (one_of HT_.out (by kernel_rfl)) (by decide) (fun K hK => ?_)
                refine goes_ Try.func40 (by kernel_rfl) rfl #[.agg #[.int .i64 t194, .int .i64 t195], .agg #[.int .i64 5, .int .i64 (Int.tmod (rd t180 0) 200), .int .i64 (wrap64 ((Int.tmod (rd t180 0) 200) + (Int.tmod (rd t180 1) 40)))], .int .i64 (Int.tmod (rd t180 2) 300)] (by rfl) rfl rfl (by (try simp only [List.map_toArray, List.map_cons, List.map_nil]); first | done | rfl | (simp only [List.length_drop, List.length_take]; rfl)) ?_
                with_reducible refine (impl_FreshState.calls t194 t195 5 (Int.tmod (rd t180 0) 200) (wrap64 ((Int.tmod (rd t180 0) 200) + (Int.tmod (rd t180 1) 40))) (Int.tmod (rd t180 2) 300) t196 _ A36.out).mono ?_
                rintro e w82 ⟨rfl, hb⟩
                refine ⟨_, rfl, ?_⟩
                have n0_ := Aside0.mk (Kd.R_below (by (with_reducible repeat (first | apply Kd.R_alloc | apply Kd.R_drewN | apply Kd.R_drew)); exact HO182.out) hb)
                have n1_ := Aside0.mk (blk_below (g := gb179) (o := .cells #[.int .i64 t177, .int .i64 t178] 25 (0, 0)) (by (with_reducible repeat (first | refine blk_drewN ?_ _ | refine blk_drew ?_ | refine blk_alloc ?_ _)); exact BK179.out) hb)
                have n2_ := Aside0.mk (blk_below (g := gb186) (o := .cells #[.int .i64 (Int.tmod (rd t180 0) 200), .int .i64 (wrap64 ((Int.tmod (rd t180 0) 200) + (Int.tmod (rd t180 1) 40)))] 25 (0, 0)) (by (with_reducible repeat (first | refine blk_drewN ?_ _ | refine blk_drew ?_ | refine blk_alloc ?_ _)); exact BK186.out) hb)
                have n3_ := Aside0.mk (blk_below (g := gb187) (o := .cells #[.int .i64 5, .int .i64 (Int.tmod (rd t180 0) 200), .int .i64 (wrap64 ((Int.tmod (rd t180 0) 200) + (Int.tmod (rd t180 1) 40)))] 50 (0, 0)) (by (with_reducible repeat (first | refine blk_drewN ?_ _ | refine blk_drew ?_ | refine blk_alloc ?_ _)); exact BK187.out) hb)
                have n4_ := Aside0.mk (below_step (by repeat (first | (with_reducible first | exact HB.out | apply below_alloc | apply pw_below_drewN | apply below_drew1 | refine below_set ?_ GE179.out | refine below_set ?_ GE186.out | refine below_set ?_ GE187.out) | exact HB.out)) hb)
                clear HO182
                clear BK179
                clear BK186
                clear BK187
                clear HB
                have HO182 := n0_
                have BK179 := n1_
                have BK186 := n2_
                have BK187 := n3_
                have HB := n4_
                clear n0_ n1_ n2_ n3_ n4_
                (try clear hb)
                (try clear hb2)
                (try clear hk)
                (try clear hi)
                refine hK.out _ _ ⟨(blk_cell BK179.out 0).trans rfl, (blk_cell BK179.out 1).trans rfl, (blk_cell BK187.out 0).trans rfl, (blk_cell BK187.out 1).trans rfl, (blk_cell BK187.out 2).trans rfl⟩ (fun hHeld => ?_)
                clear hK K
                refine norm_ (a' := ?_) ?_ ?_
                rotate_left
                · show Act.put _ (some 60) _ = _
                  simp only [Act.put, List.setIfInBounds_toArray, List.set_cons_zero, List.set_cons_succ, i64_w, i32_w]
                  rfl
                refine pure_ (i := 15) (N := some 61) (v := ?_) (a' := ?_) #[true, true, true, true, true, true, true, true, true, true, true, true, true, true, true, true, false, false, false, false, false, false, false, false, false] rfl rfl (any_of HT_.out (by kernel_rfl)) (fun _ _ _ h => h) (Or.inl ⟨by rfl, ?_⟩) ?_ ?_
                rotate_left
                · intro w'
                  go_simp
                  with_reducible rfl
                rotate_left
                · simp only [Act.put, List.setIfInBounds_toArray, List.set_cons_zero, List.set_cons_succ, i64_w, i32_w]
                  rfl
                refine pure_ (i := 16) (N := some 62) (v := ?_) (a' := ?_) #[true, true, true, true, true, true, true, true, true, true, true, true, true, true, true, true, true, false, false, false, false, false, false, false, false] rfl rfl (any_of HT_.out (by kernel_rfl)) (fun _ _ _ h => h) (Or.inl ⟨by rfl, ?_⟩) ?_ ?_
                rotate_left
                · intro w'
                  go_simp
                  with_reducible rfl
                rotate_left
                · simp only [Act.put, List.setIfInBounds_toArray, List.set_cons_zero, List.set_cons_succ, i64_w, i32_w]
                  rfl
                refine pure_ (i := 17) (N := some 63) (v := ?_) (a' := ?_) #[true, true, true, true, true, true, true, true, true, true, true, true, true, true, true, true, true, true, false, false, false, false, false, false, false] rfl rfl (any_of HT_.out (by kernel_rfl)) (fun _ _ _ h => h) (Or.inl ⟨by rfl, ?_⟩) ?_ ?_
                rotate_left
                · intro w'
                  go_simp
                  with_reducible rfl
                rotate_left
                · simp only [Act.put, List.setIfInBounds_toArray, List.set_cons_zero, List.set_cons_succ, i64_w, i32_w]
                  rfl
                refine take_ (i := 18) (N := some 64) (v := ?_) (a' := ?_) #[true, true, true, true, true, true, true, true, true, true, true, true, true, true, true, true, true, true, true, false, false, false, false, false, false] rfl rfl (take_ofW HT_.out HW_.out (by kernel_rfl)) (fun _ _ _ h => h) (Or.inl ⟨by rfl, ?_⟩) hHeld ?_ ?_
                rotate_left
                · rintro w' ⟨s0, s1, s2, s3, s4⟩
                  go_simp
                  with_reducible rfl
                rotate_left
                · simp only [Act.put, List.setIfInBounds_toArray, List.set_cons_zero, List.set_cons_succ, i64_w, i32_w]
                  rfl
                refine take_ (i := 19) (N := some 65) (v := ?_) (a' := ?_) #[true, true, true, true, true, true, true, true, true, true, true, true, true, true, true, true, true, true, true, true, false, false, false, false, false] rfl rfl (take_ofW HT_.out HW_.out (by kernel_rfl)) (fun _ _ _ h => h) (Or.inl ⟨by rfl, ?_⟩) hHeld ?_ ?_
                rotate_left
                · rintro w' ⟨s0, s1, s2, s3, s4⟩
                  go_simp
                  with_reducible rfl
                rotate_left
                · simp only [Act.put, List.setIfInBounds_toArray, List.set_cons_zero, List.set_cons_succ, i64_w, i32_w]
                  rfl
                refine one_ (i := 20) (N := some 66) #[true, true, true, true, true, true, true, true, true, true, true, true, true, true, true, true, true, true, true, true, true, false, false, false, false] rfl rfl (one_of HT_.out (by kernel_rfl)) (by decide) (fun K hK => ?_)
                refine Kd.R_lit_step k50 _ 50 ?hg (N := 66) ?hd (xs := ([(⟨5, (⟨Int.tmod (rd t180 0) 200, wrap64 ((Int.tmod (rd t180 0) 200) + (Int.tmod (rd t180 1) 40))⟩ : S25)⟩ : S50), (⟨5, (⟨Int.tmod (rd t180 0) 200, wrap64 ((Int.tmod (rd t180 0) 200) + (Int.tmod (rd t180 1) 40))⟩ : S25)⟩ : S50)] : List (S50))) (inner := [.int .i64 5, .int .i64 (Int.tmod (rd t180 0) 200), .int .i64 (wrap64 ((Int.tmod (rd t180 0) 200) + (Int.tmod (rd t180 1) 40))), .int .i64 5, .int .i64 (Int.tmod (rd t180 0) 200), .int .i64 (wrap64 ((Int.tmod (rd t180 0) 200) + (Int.tmod (rd t180 1) 40)))]) (ok := fun _ => True) (okp := fun _ => True) ?hr ?hp (fun _ hk => hk) trivial (Below.refl _ _) (Nat.le_refl _) (by simp) ?_; (case hd => rfl); (case hg => rfl); (case hr => first | (go_simp; done) | (go_simp; rfl)); (case hp => exact (Reps.c3 (show Kd.M k50 _ _ _ (⟨5, (⟨Int.tmod (rd t180 0) 200, wrap64 ((Int.tmod (rd t180 0) 200) + (Int.tmod (rd t180 1) 40))⟩ : S25)⟩ : S50) [.int .i64 5, .int .i64 (Int.tmod (rd t180 0) 200), .int .i64 (wrap64 ((Int.tmod (rd t180 0) 200) + (Int.tmod (rd t180 1) 40)))] from (k50_mkM _ _ _ (⟨5, (⟨Int.tmod (rd t180 0) 200, wrap64 ((Int.tmod (rd t180 0) 200) + (Int.tmod (rd t180 1) 40))⟩ : S25)⟩ : S50) )) (Reps.c3 (show Kd.M k50 _ _ _ (⟨5, (⟨Int.tmod (rd t180 0) 200, wrap64 ((Int.tmod (rd t180 0) 200) + (Int.tmod (rd t180 1) 40))⟩ : S25)⟩ : S50) [.int .i64 5, .int .i64 (Int.tmod (rd t180 0) 200), .int .i64 (wrap64 ((Int.tmod (rd t180 0) 200) + (Int.tmod (rd t180 1) 40)))] from (k50_mkM _ _ _ (⟨5, (⟨Int.tmod (rd t180 0) 200, wrap64 ((Int.tmod (rd t180 0) 200) + (Int.tmod (rd t180 1) 40))⟩ : S25)⟩ : S50) )) (Reps.none _ _))))
                intro v198 w83 ho84 hb hg_ hnew_
                clear hg_ hnew_
                (first | rw [← Ny197.out] at ho84 | (simp only [Int.reduceToNat] at ho84; rw [← Ny197.out] at ho84))
                have n0_ := Aside0.mk (Kd.R_below (by (with_reducible repeat (first | apply Kd.R_alloc | apply Kd.R_drewN | apply Kd.R_drew)); exact HO182.out) hb)
                have n1_ := Aside0.mk (Kd.R_lower (Kd.R_newB ho84 (g := gb187) (o := .cells #[.int .i64 5, .int .i64 (Int.tmod (rd t180 0) 200), .int .i64 (wrap64 ((Int.tmod (rd t180 0) 200) + (Int.tmod (rd t180 1) 40)))] 50 (0, 0)) (by (with_reducible repeat (first | refine blk_drewN ?_ _ | refine blk_drew ?_ | refine blk_alloc ?_ _)); exact BK187.out)) (below_size (by repeat (first | (with_reducible first | exact HB.out | apply below_alloc | apply pw_below_drewN | apply below_drew1 | refine below_set ?_ GE179.out | refine below_set ?_ GE186.out | refine below_set ?_ GE187.out) | exact HB.out))))
                have n2_ := Aside0.mk (blk_below (g := gb179) (o := .cells #[.int .i64 t177, .int .i64 t178] 25 (0, 0)) (by (with_reducible repeat (first | refine blk_drewN ?_ _ | refine blk_drew ?_ | refine blk_alloc ?_ _)); exact BK179.out) hb)
                have n3_ := Aside0.mk (blk_below (g := gb186) (o := .cells #[.int .i64 (Int.tmod (rd t180 0) 200), .int .i64 (wrap64 ((Int.tmod (rd t180 0) 200) + (Int.tmod (rd t180 1) 40)))] 25 (0, 0)) (by (with_reducible repeat (first | refine blk_drewN ?_ _ | refine blk_drew ?_ | refine blk_alloc ?_ _)); exact BK186.out) hb)
                have n4_ := Aside0.mk (blk_below (g := gb187) (o := .cells #[.int .i64 5, .int .i64 (Int.tmod (rd t180 0) 200), .int .i64 (wrap64 ((Int.tmod (rd t180 0) 200) + (Int.tmod (rd t180 1) 40)))] 50 (0, 0)) (by (with_reducible repeat (first | refine blk_drewN ?_ _ | refine blk_drew ?_ | refine blk_alloc ?_ _)); exact BK187.out) hb)
                have n5_ := Aside0.mk (below_step (by repeat (first | (with_reducible first | exact HB.out | apply below_alloc | apply pw_below_drewN | apply below_drew1 | refine below_set ?_ GE179.out | refine below_set ?_ GE186.out | refine below_set ?_ GE187.out) | exact HB.out)) hb)
                clear HO182
                clear BK179
                clear BK186
                clear BK187
                clear HB
                have HO182 := n0_
                have HO199 := n1_
                have BK179 := n2_
                have BK186 := n3_
                have BK187 := n4_
                have HB := n5_
                clear n0_ n1_ n2_ n3_ n4_ n5_
                clear hb ho84
                obtain ⟨Ao85, co85, eo85⟩ := Kd.R_slice HO199.out
                (first | subst eo85 | (injection eo85 with f1_ f2_ f3_; have f4_ := f1_.symm; have f5_ := f3_.symm; clear f1_ f2_ f3_; subst f4_; subst f5_))
                refine hK.out _ _ ⟨(blk_cell BK179.out 0).trans rfl, (blk_cell BK179.out 1).trans rfl, (blk_cell BK187.out 0).trans rfl, (blk_cell BK187.out 1).trans rfl, (blk_cell BK187.out 2).trans rfl⟩ (fun hHeld => ?_)
                clear hK K
                refine norm_ (a' := ?_) ?_ ?_
                rotate_left
                · show Act.put _ (some 66) _ = _
                  simp only [Act.put, List.setIfInBounds_toArray, List.set_cons_zero, List.set_cons_succ, i64_w, i32_w]
                  rfl
                refine one_ (i := 21) (N := some 67) #[true, true, true, true, true, true, true, true, true, true, true, true, true, true, true, true, true, true, true, true, true, true, false, false, false] rfl rfl (one_of HT_.out (by kernel_rfl)) (by decide) (fun K hK => ?_)
                refine goes_ Try.func52 (by kernel_rfl) rfl #[.slice Ao85 y197.length co85] (by rfl) rfl rfl (by (try simp only [List.map_toArray, List.map_cons, List.map_nil]); first | done | rfl | (simp only [List.length_drop, List.length_take]; rfl)) ?_
                with_reducible refine (impl_NewestOf.calls k _ _ y197 t200 _ ?side1 ?side2 A60.out).mono ?_
                (case side1 => repeat (first | exact (Kd.R_reads' HO199.out).2.2 | (with_reducible refine Kd.C_alloc ?_ _) | (with_reducible refine Kd.C_drewN ?_ _) | (with_reducible refine Kd.C_drew ?_)))
                (case side2 => exact (Kd.R_reads' HO199.out).2.1)
                rintro e w86 ⟨rfl, hb⟩
                refine ⟨_, rfl, ?_⟩
                have n0_ := Aside0.mk (Kd.R_below (by (with_reducible repeat (first | apply Kd.R_alloc | apply Kd.R_drewN | apply Kd.R_drew)); exact HO182.out) hb)
                have n1_ := Aside0.mk (Kd.R_below (by (with_reducible repeat (first | apply Kd.R_alloc | apply Kd.R_drewN | apply Kd.R_drew)); exact HO199.out) hb)
                have n2_ := Aside0.mk (blk_below (g := gb179) (o := .cells #[.int .i64 t177, .int .i64 t178] 25 (0, 0)) (by (with_reducible repeat (first | refine blk_drewN ?_ _ | refine blk_drew ?_ | refine blk_alloc ?_ _)); exact BK179.out) hb)
                have n3_ := Aside0.mk (blk_below (g := gb186) (o := .cells #[.int .i64 (Int.tmod (rd t180 0) 200), .int .i64 (wrap64 ((Int.tmod (rd t180 0) 200) + (Int.tmod (rd t180 1) 40)))] 25 (0, 0)) (by (with_reducible repeat (first | refine blk_drewN ?_ _ | refine blk_drew ?_ | refine blk_alloc ?_ _)); exact BK186.out) hb)
                have n4_ := Aside0.mk (blk_below (g := gb187) (o := .cells #[.int .i64 5, .int .i64 (Int.tmod (rd t180 0) 200), .int .i64 (wrap64 ((Int.tmod (rd t180 0) 200) + (Int.tmod (rd t180 1) 40)))] 50 (0, 0)) (by (with_reducible repeat (first | refine blk_drewN ?_ _ | refine blk_drew ?_ | refine blk_alloc ?_ _)); exact BK187.out) hb)
                have n5_ := Aside0.mk (below_step (by repeat (first | (with_reducible first | exact HB.out | apply below_alloc | apply pw_below_drewN | apply below_drew1 | refine below_set ?_ GE179.out | refine below_set ?_ GE186.out | refine below_set ?_ GE187.out) | exact HB.out)) hb)
                clear HO182
                clear HO199
                clear BK179
                clear BK186
                clear BK187
                clear HB
                have HO182 := n0_
                have HO199 := n1_
                have BK179 := n2_
                have BK186 := n3_
                have BK187 := n4_
                have HB := n5_
                clear n0_ n1_ n2_ n3_ n4_ n5_
                (try clear hb)
                (try clear hb2)
                (try clear hk)
                (try clear hi)
                refine hK.out _ _ ⟨(blk_cell BK179.out 0).trans rfl, (blk_cell BK179.out 1).trans rfl, (blk_cell BK187.out 0).trans rfl, (blk_cell BK187.out 1).trans rfl, (blk_cell BK187.out 2).trans rfl⟩ (fun hHeld => ?_)
                clear hK K
                refine norm_ (a' := ?_) ?_ ?_
                rotate_left
                · show Act.put _ (some 67) _ = _
                  simp only [Act.put, List.setIfInBounds_toArray, List.set_cons_zero, List.set_cons_succ, i64_w, i32_w]
                  rfl
                refine pure_ (i := 22) (N := some 68) (v := ?_) (a' := ?_) #[true, true, true, true, true, true, true, true, true, true, true, true, true, true, true, true, true, true, true, true, true, true, true, false, false] rfl rfl (any_of HT_.out (by kernel_rfl)) (fun _ _ _ h => h) (Or.inl ⟨by rfl, ?_⟩) ?_ ?_
                rotate_left
                · intro w'
                  go_simp
                  with_reducible rfl
                rotate_left
                · simp only [Act.put, List.setIfInBounds_toArray, List.set_cons_zero, List.set_cons_succ, i64_w, i32_w]
                  rfl
                refine pure_ (i := 23) (N := some 69) (v := ?_) (a' := ?_) #[true, true, true, true, true, true, true, true, true, true, true, true, true, true, true, true, true, true, true, true, true, true, true, true, false] rfl rfl (any_of HT_.out (by kernel_rfl)) (fun _ _ _ h => h) (Or.inl ⟨by rfl, ?_⟩) ?_ ?_
                rotate_left
                · intro w'
                  go_simp
                  with_reducible rfl
                rotate_left
                · simp only [Act.put, List.setIfInBounds_toArray, List.set_cons_zero, List.set_cons_succ, i64_w, i32_w]
                  rfl
                refine pure_ (i := 24) (N := some 2) (v := ?_) (a' := ?_) #[true, true, true, true, true, true, true, true, true, true, true, true, true, true, true, true, true, true, true, true, true, true, true, true, true] rfl rfl (any_of HT_.out (by kernel_rfl)) (fun _ _ _ h => h) (Or.inl ⟨by rfl, ?_⟩) ?_ ?_
                rotate_left
                · intro w'
                  go_simp
                  with_reducible rfl
                rotate_left
                · simp only [Act.put, List.setIfInBounds_toArray, List.set_cons_zero, List.set_cons_succ, i64_w, i32_w]
                  rfl
                refine done_ (done_of HT_.out (by kernel_rfl)) ?_
                try go_wp2
                go_ret
                exact ⟨by first | rfl | (simp [errW_none, errW_some] <;> rfl) | (simp [*, errW_none, errW_some] <;> rfl), by repeat (first | (with_reducible first | exact HB.out | apply below_alloc | apply pw_below_drewN | apply below_drew1 | refine below_set ?_ GE179.out | refine below_set ?_ GE186.out | refine below_set ?_ GE187.out) | exact HB.out)⟩
            · rw [if_neg c34] at H
              have c34b0 : (t193 == 1) = false := beq_eq_false_iff_ne.mpr c34
              have c34b1 : (t193 != 1) = true := bne_iff_ne.mpr c34
              obtain rfl := Option.some.inj H
              exact absurd hr.out (by decide)
        · rw [if_neg c8] at H
          exact absurd H (by simp)
      · rw [if_neg c7] at H
        exact absurd H (by simp)
    · rw [if_neg c6] at H
      exact absurd H (by simp)


/-- THE ONE PURE STATEMENT of laws_FnFreshFor: yours. -/
def laws_FnFreshFor.Pure : Prop := ∀ (l0 : List Int), l0.length ≤ maxLen → l0.length * 1 ≤ 140737488351232 → (∀ x ∈ l0, (Lit.int .u8 x).wf = true) → ∃ k, laws_FnFreshFor.f k l0 = some true
theorem laws_FnFreshFor.walk (P : laws_FnFreshFor.Pure) (a0 : Option Addr) (len0 cap0 : Nat) (z0 : List Int) (w : World) (w0 : (a0 = none ∧ len0 = 0 ∧ cap0 = 0 ∧ z0 = []) ∨ ∃ x, a0 = some x ∧ len0 ≤ cap0 ∧ cap0 ≤ maxLen ∧ z0.length = cap0 ∧ (∀ i, i < z0.length → w.cell? (x.add i) = some (.int .u8 (z0.getD i 0))) ∧ ∀ n ∈ z0, (Lit.int .u8 n).wf = true) (y0 : len0 * 1 ≤ 140737488351232) :
    Calls Try.prog 18 #[.slice a0 len0 cap0] w fun e w' => e = .returned (.bool true) ∧ Below w.heap.size w w' := by
  obtain ⟨l0, rfl, hr0, hm0, hw0, hc0⟩ := ReadsInt.ofRowC w0
  obtain ⟨k, h⟩ := P l0 hm0 y0 hw0
  refine (laws_FnFreshFor.calls k _ _ l0 true w (Kd.C_of_reads (d := (0 : Int)) (h1 := fun _ => rfl) hr0) hc0 ⟨rfl⟩ h).mono ?_
  rintro e w' ⟨rfl, hd⟩
  exact ⟨rfl, hd⟩

end Go.Proofs.Ytkpaglomidgilaa.QFnFreshFor
