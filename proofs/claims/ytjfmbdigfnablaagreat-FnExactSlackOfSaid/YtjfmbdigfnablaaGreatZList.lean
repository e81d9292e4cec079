/- slices.Sort, Compact, DeleteFunc, Index over whole numbers. No condition. -/
import Derived.Test.YtjfmbdigfnablaaGreatCpDepth3
import Derived.Test.YtjfmbdigfnablaaGreatAv26
import Derived.Shelf.Sort.Plain
import Derived.Shelf.Slices.In.SortNone
namespace Go.Av
open Go.Proofs Go.RowKit Go.Shelf
set_option linter.unusedVariables false
set_option linter.unusedSimpArgs false
set_option maxRecDepth 100000
set_option maxHeartbeats 4000000
def sortRen : Go.Shelf.Ren := ⟨fun | 189 => 194 | 125 => 236 | 257 => 235 | 128 => 262 | 129 => 263 | 294 => 253 | 295 => 254 | 296 => 255 | 297 => 256 | 298 => 257 | 299 => 258 | 216 => 259 | 300 => 260 | 301 => 261 | 328 => 271 | 329 => 272 | 330 => 273 | 331 => 274 | 332 => 275 | 215 => 276 | 343 => 279 | n => n, fun | 28 => 27 | 3 => 3 | 46 => 175 | 0 => 0 | 51 => 222 | 53 => 224 | 4 => 4 | 183 => 214 | 182 => 213 | 131 => 219 | 5 => 5 | 9 => 9 | 218 => 233 | 222 => 237 | 228 => 241 | 229 => 242 | n => n, fun n => n⟩
theorem sortLays : Lays.n189 Tryz.prog sortRen where
  mixed := by kernel_rfl
  f125 := Tryz.func236.trans (congrArg some (by kernel_rfl))
  f128 := Tryz.func262.trans (congrArg some (by kernel_rfl))
  f129 := Tryz.func263.trans (congrArg some (by kernel_rfl))
  f189 := Tryz.func194.trans (congrArg some (by kernel_rfl))
  f215 := Tryz.func276.trans (congrArg some (by kernel_rfl))
  f216 := Tryz.func259.trans (congrArg some (by kernel_rfl))
  f257 := Tryz.func235.trans (congrArg some (by kernel_rfl))
  f294 := Tryz.func253.trans (congrArg some (by kernel_rfl))
  f295 := Tryz.func254.trans (congrArg some (by kernel_rfl))
  f296 := Tryz.func255.trans (congrArg some (by kernel_rfl))
  f297 := Tryz.func256.trans (congrArg some (by kernel_rfl))
  f298 := Tryz.func257.trans (congrArg some (by kernel_rfl))
  f299 := Tryz.func258.trans (congrArg some (by kernel_rfl))
  f300 := Tryz.func260.trans (congrArg some (by kernel_rfl))
  f301 := Tryz.func261.trans (congrArg some (by kernel_rfl))
  f328 := Tryz.func271.trans (congrArg some (by kernel_rfl))
  f329 := Tryz.func272.trans (congrArg some (by kernel_rfl))
  f330 := Tryz.func273.trans (congrArg some (by kernel_rfl))
  f331 := Tryz.func274.trans (congrArg some (by kernel_rfl))
  f332 := Tryz.func275.trans (congrArg some (by kernel_rfl))
  f343 := Tryz.func279.trans (congrArg some (by kernel_rfl))
  t0 := Tryz.underlying0
  a0 := Tryz.isAgg0
  z0 := Tryz.sizeOf0
  v0 := Tryz.zeroValue0
  t3 := Tryz.underlying3
  a3 := Tryz.isAgg3
  z3 := Tryz.sizeOf3
  v3 := Tryz.zeroValue3
  t4 := Tryz.underlying4
  a4 := Tryz.isAgg4
  z4 := Tryz.sizeOf4
  v4 := Tryz.zeroValue4
  t5 := Tryz.underlying5
  a5 := Tryz.isAgg5
  z5 := Tryz.sizeOf5
  v5 := Tryz.zeroValue5
  t9 := Tryz.underlying9
  a9 := Tryz.isAgg9
  z9 := Tryz.sizeOf9
  v9 := Tryz.zeroValue9
  t28 := Tryz.underlying27
  a28 := Tryz.isAgg27
  z28 := Tryz.sizeOf27
  v28 := Tryz.zeroValue27
  t46 := Tryz.underlying175
  a46 := Tryz.isAgg175
  z46 := Tryz.sizeOf175
  v46 := Tryz.zeroValue175
  t51 := Tryz.underlying222
  a51 := Tryz.isAgg222
  z51 := Tryz.sizeOf222
  v51 := Tryz.zeroValue222
  t53 := Tryz.underlying224
  a53 := Tryz.isAgg224
  z53 := Tryz.sizeOf224
  v53 := Tryz.zeroValue224
  t131 := Tryz.underlying219
  a131 := Tryz.isAgg219
  z131 := Tryz.sizeOf219
  v131 := Tryz.zeroValue219
  t182 := Tryz.underlying213
  a182 := Tryz.isAgg213
  z182 := Tryz.sizeOf213
  v182 := Tryz.zeroValue213
  t183 := Tryz.underlying214
  a183 := Tryz.isAgg214
  z183 := Tryz.sizeOf214
  v183 := Tryz.zeroValue214
  t218 := Tryz.underlying233
  a218 := Tryz.isAgg233
  z218 := Tryz.sizeOf233
  v218 := Tryz.zeroValue233
  t222 := Tryz.underlying237
  a222 := Tryz.isAgg237
  z222 := Tryz.sizeOf237
  v222 := Tryz.zeroValue237
  t228 := Tryz.underlying241
  a228 := Tryz.isAgg241
  z228 := Tryz.sizeOf241
  v228 := Tryz.zeroValue241
  t229 := Tryz.underlying242
  a229 := Tryz.isAgg242
  z229 := Tryz.sizeOf242
  v229 := Tryz.zeroValue242
theorem sort_c {h : Heap} {id n : Nat} {zs : List Int} (hb : h[id]? = some (zs.map encI)) (hn : zs.length = n) (hm : n ≤ 1048576) : C Tryz.prog 194 [.own id 1 0 n n] h (fun r h' => r = .tup [] ∧ h' = h.set id ((srt zs).map encI)) :=
  sort_own (f := 194) (fun args w => by
      have hb : (Tryz.f194.name == "runtime.NumGoroutine") = false := by kernel_rfl
      have hb' : ¬ Tryz.f194.name = "runtime.NumGoroutine" := by simpa using hb
      have hc : Tryz.f194.body.isSome = true := by kernel_rfl
      obtain ⟨c, hc⟩ := Option.isSome_iff_exists.1 hc
      simp [callFunc, Tryz.func194, hb', hc])
    (fun blk off cap zs w h1 h2 h3 => Any.slices_Sort_int sortLays blk off cap zs w h1 h2 h3) (fun p cap w => Any.slices_Sort_int_none sortLays p cap w) hb hn (by omega)
/-- A list without what equals the one ahead of it. -/
def ddStep (acc : List Int) (z : Int) : List Int := if acc.getLast? = some z then acc else acc ++ [z]
def ddup (zs : List Int) : List Int := zs.foldl ddStep []
theorem ddup_succ {zs : List Int} {q : Nat} (h : q < zs.length) : ddup (zs.take (q + 1)) = ddStep (ddup (zs.take q)) zs[q] := by
  unfold ddup
  rw [List.take_succ_eq_append_getElem h, List.foldl_append]; rfl
theorem ddStep_last (acc : List Int) (z : Int) : (ddStep acc z).getLast? = some z := by
  unfold ddStep
  split
  · assumption
  · simp
theorem ddup_last {zs : List Int} {q : Nat} (h : q < zs.length) : (ddup (zs.take (q + 1))).getLast? = some zs[q] := by rw [ddup_succ h]; exact ddStep_last _ _
theorem ddup_next {zs : List Int} {q : Nat} (h : q + 1 < zs.length) : ddup (zs.take (q + 1 + 1)) = if zs[q + 1] = zs[q] then ddup (zs.take (q + 1)) else ddup (zs.take (q + 1)) ++ [zs[q + 1]] := by
  rw [ddup_succ h, ddStep, ddup_last (by omega)]
  by_cases e : zs[q + 1] = zs[q]
  · rw [if_pos (by rw [e]), if_pos e]
  · rw [if_neg (fun c => e (by simpa using c.symm)), if_neg e]
theorem ddup_len : ∀ (q : Nat) (zs : List Int), q ≤ zs.length → (ddup (zs.take q)).length ≤ q
  | 0, zs, _ => by simp [ddup]
  | q + 1, zs, h => by
    have := ddup_len q zs (by omega)
    rw [ddup_succ (by omega), ddStep]
    split
    · omega
    · simp; omega
theorem ddup_le (zs : List Int) : (ddup zs).length ≤ zs.length := by
  have := ddup_len zs.length zs (Nat.le_refl _)
  rwa [List.take_length] at this
theorem mem_ddStep {acc : List Int} {z x : Int} : x ∈ ddStep acc z ↔ x ∈ acc ∨ x = z := by
  unfold ddStep
  split
  · rename_i h
    have : z ∈ acc := List.mem_of_getLast? h
    constructor
    · exact .inl
    · rintro (h | rfl) <;> assumption
  · simp
theorem mem_ddFold {x : Int} : ∀ (zs acc : List Int), x ∈ zs.foldl ddStep acc ↔ x ∈ acc ∨ x ∈ zs
  | [], acc => by simp
  | z :: zs, acc => by rw [List.foldl_cons, mem_ddFold zs, mem_ddStep]; simp [or_assoc]
theorem mem_ddup {x : Int} {zs : List Int} : x ∈ ddup zs ↔ x ∈ zs := by simp [ddup, mem_ddFold]
theorem mem_srt {x : Int} {zs : List Int} : x ∈ srt zs ↔ x ∈ zs := List.mem_mergeSort
theorem storeH_row {h : Heap} {id n i sz : Nat} {b : Blk} {x : V} (hb : h[id]? = some b) (hn : b.length = n) (hi : i < n) (he : ∀ e ∈ b, e.length = sz) (hf : fit sz x.cells = true) : storeH h sz (.ptr id n i 0) x = some (h.set id (b.set i x.cells)) := by
  subst hn
  have h1 : b[i]? = some b[i] := List.getElem?_eq_getElem hi
  have h2 := he b[i] (List.getElem_mem hi)
  simp only [fit, Bool.and_eq_true, decide_eq_true_eq] at hf
  have h3 : splice b[i] 0 x.cells = x.cells := by
    have : b[i].drop x.cells.length = [] := List.drop_eq_nil_of_le (by omega)
    simp [splice, this]
  simp [storeH, storeB, hb, h1, hf.1, h2, h3]
  simpa using hf.2
theorem storeH_cell {h : Heap} {id n i j : Nat} {b : Blk} {e : List V} {v : V} (hb : h[id]? = some b) (hn : b.length = n) (he : b[i]? = some e) (hj : j < e.length) (hv : v.one = true) (hc : v.cells = [v]) : storeH h 1 (.ptr id n i j) v = some (h.set id (b.set i (e.set j v))) := by
  subst hn
  have h3 : splice e j [v] = e.set j v := by
    rw [List.set_eq_take_append_cons_drop, if_pos hj]
    simp [splice]
  simp [storeH, storeB, hb, he, hc, hv, h3]
  omega
def gtI (zs : List Int) (i : Nat) : Int := (zs[i]?).getD 0
theorem gtI_some {zs : List Int} {i : Nat} (h : i < zs.length) : zs[i]? = some (gtI zs i) := by simp [gtI, h]
theorem gtI_get {zs : List Int} {i : Nat} (h : i < zs.length) : zs[i] = gtI zs i := by simp [gtI, h]
theorem set_set_self {h : Heap} {id : Nat} {b c : Blk} (hb : h[id]? = some b) : (h.set id c)[id]? = some c := heap_set c hb
/-- One place of a slice of numbers is written. -/
theorem store_at {h : Heap} {id n i : Nat} {b c : Blk} {z : Int} (hb : h[id]? = some b) (hn : c.length = n) (hi : i < n) (hf : ∀ e ∈ c, e.length = 1) : storeH (h.set id c) 1 (.ptr id n i 0) (.int .i64 z) = some (h.set id (c.set i (encI z))) := by
  rw [storeH_row (heap_set c hb) hn hi hf rfl, List.set_set]; rfl
theorem compact_c {h : Heap} {id n : Nat} {zs : List Int} (hb : h[id]? = some (zs.map encI)) (hn : zs.length = n) (hm : n ≤ 1048576) : C Tryz.prog 195 [.own id 1 0 n n] h (fun r h' => r = .own id 1 0 (ddup zs).length n ∧ h' = h.set id ((ddup zs).map encI ++ List.replicate (n - (ddup zs).length) (encI 0))) := by
  subst hn
  have hself : h = h.set id (zs.map encI) := by
    obtain ⟨hl, he⟩ := List.getElem?_eq_some_iff.1 hb
    rw [← he, List.set_getElem_self]
  have hfull : ddup zs = zs → h = h.set id ((ddup zs).map encI ++ List.replicate (zs.length - (ddup zs).length) (encI 0)) := fun e => by rw [e]; simpa using hself
  refine C.by mixed (cfn_ok Tryz.func195 ok195) rfl ?_
  simp (disch := omega) only [s195, go_sem]
  refine condP_dec (fun hlt => ?_) (fun hlt => ?_)
  · simp (disch := omega) only [go_sem]
    have e : ddup zs = zs := by
      match zs, hlt with
      | [], _ => rfl
      | [x], _ => rfl
      | x :: y :: r, h => simp at h; omega
    rw [e]
    refine ⟨rfl, ?_⟩
    have := hfull e
    rwa [e] at this
  simp (disch := omega) only [go_sem]
  refine loopP_intro (fun m s => ∃ k : Nat, 1 ≤ k ∧ k ≤ zs.length ∧ m = zs.length - k ∧ s.e 0 = .own id 1 0 zs.length zs.length ∧ s.e 3 = .int .i64 k ∧ s.h = h ∧ ddup (zs.take k) = zs.take k) (zs.length - 1) ⟨1, by omega, by omega, by omega, by simp (disch := omega) only [go_sem], by simp (disch := omega) only [go_sem]; rfl, rfl, ?_⟩ ?_
  · match zs, hlt with
    | [], h => simp at h
    | x :: r, _ => rfl
  rintro m e hp ⟨k, hk1, hk2, rfl, e0, e3, rfl, hdd⟩
  simp only at e0 e3
  simp (disch := omega) only [go_sem, e0, e3]
  refine condP_dec (fun hlk => ?_) (fun hlk => ?_)
  · have hlk' : k < zs.length := by omega
    have hgk := gtI_some hlk'
    have hgk1 := gtI_some (zs := zs) (i := k - 1) (by omega)
    have tk1 : ((k : Int) - 1).toNat = k - 1 := by omega
    have hbl : (zs.map encI).length = zs.length := by simp
    simp (disch := omega) only [go_sem, e0, e3, hb, hgk, hgk1, tk1, hbl, List.getElem?_map, encI]
    refine condP_dec (fun heq => ?_) (fun heq => ?_)
    case' refine_2 =>
      simp (disch := omega) only [go_sem, e0, e3, hb, hgk, hgk1, tk1, hbl, List.getElem?_map, encI]
      refine nextP_intro (zs.length - (k + 1)) (by omega) ⟨k + 1, by omega, by omega, rfl, by simp (disch := omega) only [go_sem, e0, e3, hb, hgk, hgk1, tk1, hbl, List.getElem?_map, encI], by simp (disch := omega) only [go_sem, e0, e3, hb, hgk, hgk1, tk1, hbl, List.getElem?_map, encI]; rfl, rfl, ?_⟩
      obtain ⟨q, rfl⟩ : ∃ q, k = q + 1 := ⟨k - 1, by omega⟩
      rw [ddup_next hlk', if_neg (by rw [gtI_get, gtI_get]; exact heq), hdd, List.take_succ_eq_append_getElem hlk']
    simp (disch := omega) only [go_sem, e0, e3, hb, hgk, hgk1, tk1, hbl, List.getElem?_map, encI]
    refine loopP_intro (fun m s => ∃ (q i : Nat) (c : Blk), k + 1 ≤ q ∧ q ≤ zs.length ∧ m = zs.length - q ∧ i ≤ q - 1 ∧ i = (ddup (zs.take q)).length ∧ s.e 0 = .own id 1 0 zs.length zs.length ∧ s.e 3 = .int .i64 i ∧ s.e 4 = .own id 1 k (zs.length - k) zs.length ∧ s.e 5 = .int .i64 ((q : Int) - k) ∧ s.h = hp.set id c ∧ c.length = zs.length ∧ (∀ e ∈ c, e.length = 1) ∧ c.take i = (ddup (zs.take q)).map encI ∧ ∀ j, i ≤ j → j < zs.length → c[j]? = some (encI (gtI zs j))) (zs.length - (k + 1)) ⟨k + 1, k, zs.map encI, by omega, by omega, rfl, by omega, ?_, by simp (disch := omega) only [go_sem, e0, e3, hb, hgk, hgk1, tk1, hbl, List.getElem?_map, encI], by simp (disch := omega) only [go_sem, e0, e3, hb, hgk, hgk1, tk1, hbl, List.getElem?_map, encI], by simp (disch := omega) only [go_sem, e0, e3, hb, hgk, hgk1, tk1, hbl, List.getElem?_map, encI], ?_, hself, hbl, fun e he => by obtain ⟨x, _, rfl⟩ := List.mem_map.1 he; rfl, ?_, fun j _ hj => by rw [List.getElem?_map, gtI_some hj]; rfl⟩ ?_
    · obtain ⟨q, rfl⟩ : ∃ q, k = q + 1 := ⟨k - 1, by omega⟩
      rw [ddup_next hlk', if_pos (by rw [gtI_get, gtI_get]; exact heq), hdd]; simp; omega
    · simp (disch := omega) only [go_sem, e0, e3, hb, hgk, hgk1, tk1, hbl, List.getElem?_map, encI]
      exact congrArg (V.int .i64) (by omega)
    · obtain ⟨q, rfl⟩ : ∃ q, k = q + 1 := ⟨k - 1, by omega⟩
      rw [ddup_next hlk', if_pos (by rw [gtI_get, gtI_get]; exact heq), hdd, List.map_take]
    rintro m e h' ⟨q, i, c, hq1, hq2, rfl, hi1, hi2, e0, e3, e4, e5, rfl, hcn, hce, hct, hcj⟩
    simp only at e0 e3 e4 e5
    have hc := heap_set c hb
    simp (disch := omega) only [go_sem, e0, e3, e4, e5, hc]
    refine condP_dec (fun hlq => ?_) (fun hlq => ?_)
    · have hlq' : q < zs.length := by omega
      have hcq := hcj q (by omega) hlq'
      have hcq1 := hcj (q - 1) (by omega) (by omega)
      have tq : k + ((q : Int) - k).toNat = q := by omega
      have tq1 : k + ((q : Int) - k - 1).toNat = q - 1 := by omega
      have st := store_at (z := gtI zs q) hb hcn (show i < zs.length by omega) hce
      simp (disch := omega) only [go_sem, e0, e3, e4, e5, hc, hcq, hcq1, tq, tq1, hcn, st, encI]
      have hnx : ddup (zs.take (q + 1)) = if gtI zs q = gtI zs (q - 1) then ddup (zs.take q) else ddup (zs.take q) ++ [gtI zs q] := by
        obtain ⟨p, rfl⟩ : ∃ p, q = p + 1 := ⟨q - 1, by omega⟩
        rw [ddup_next hlq', gtI_get, gtI_get]; rfl
      have t5 : (q : Int) - k + 1 = ((q + 1 : Nat) : Int) - k := by omega
      refine condP_dec (fun hne => ?_) (fun hne => ?_)
      · rw [if_pos hne] at hnx
        simp (disch := omega) only [go_sem, e0, e3, e4, e5, hc, hcq, hcq1, tq, tq1, hcn, st, encI]
        refine nextP_intro (zs.length - (q + 1)) (by omega) ⟨q + 1, i, c, by omega, by omega, rfl, by omega, by rw [hnx]; exact hi2, by simp (disch := omega) only [go_sem, e0, e3, e4, e5, hc, hcq, hcq1, tq, tq1, hcn, st, encI], by simp (disch := omega) only [go_sem, e0, e3, e4, e5, hc, hcq, hcq1, tq, tq1, hcn, st, encI], by simp (disch := omega) only [go_sem, e0, e3, e4, e5, hc, hcq, hcq1, tq, tq1, hcn, st, encI], ?_, rfl, hcn, hce, by rw [hnx]; exact hct, hcj⟩
        simp (disch := omega) only [go_sem, e0, e3, e4, e5, hc, hcq, hcq1, tq, tq1, hcn, st, encI]
        exact congrArg (V.int .i64) t5
      · rw [if_neg hne] at hnx
        simp (disch := omega) only [go_sem, e0, e3, e4, e5, hc, hcq, hcq1, tq, tq1, hcn, st, encI]
        refine nextP_intro (zs.length - (q + 1)) (by omega) ⟨q + 1, i + 1, c.set i [.int .i64 (gtI zs q)], by omega, by omega, rfl, by omega, by rw [hnx]; simp [← hi2], by simp (disch := omega) only [go_sem, e0, e3, e4, e5, hc, hcq, hcq1, tq, tq1, hcn, st, encI], by simp (disch := omega) only [go_sem, e0, e3, e4, e5, hc, hcq, hcq1, tq, tq1, hcn, st, encI] <;> rfl, by simp (disch := omega) only [go_sem, e0, e3, e4, e5, hc, hcq, hcq1, tq, tq1, hcn, st, encI], ?_, rfl, by simpa using hcn, fun e he => ?_, ?_, fun j hj1 hj2 => ?_⟩
        · simp (disch := omega) only [go_sem, e0, e3, e4, e5, hc, hcq, hcq1, tq, tq1, hcn, st, encI]
          exact congrArg (V.int .i64) t5
        · rcases List.mem_or_eq_of_mem_set he with h4 | h4
          · exact hce e h4
          · rw [h4]; rfl
        · rw [hnx, List.map_append, ← hct, List.take_set, List.take_succ_eq_append_getElem (by omega), List.set_append_right _ _ (by simp; omega)]
          simp [hcn]
          have : min i zs.length = i := by omega
          rw [this]; simp [encI]
        · rw [List.getElem?_set_ne (by omega)]
          exact hcj j (by omega) hj2
    · simp (disch := omega) only [go_sem, e0, e3, e4, e5, hc]
      have hqe : q = zs.length := by omega
      subst hqe
      rw [List.take_length] at hi2 hct
      subst hi2
      have hdl := ddup_le zs
      have hcl : (ddup zs).length + (zs.length - (ddup zs).length) ≤ zs.length := by omega
      have hdr : c.drop ((ddup zs).length + (zs.length - (ddup zs).length)) = [] := List.drop_eq_nil_of_le (by omega)
      simp (disch := omega) only [go_sem, e0, e3, e4, e5, hc, hcn, hcl, hdr, hct, List.set_set]
      first | rfl | exact ⟨rfl, rfl⟩
  · simp (disch := omega) only [go_sem, e0, e3]
    have : k = zs.length := by omega
    subst this
    rw [List.take_length] at hdd
    rw [hdd]
    refine ⟨rfl, ?_⟩
    have := hfull hdd
    rwa [hdd] at this
def idxI {α : Type} (p : α → Bool) (ts : List α) : Int := if ts.any p = true then (ts.findIdx p : Int) else -1
theorem idxI_found {α : Type} {p : α → Bool} {ts : List α} {k : Nat} (hk : k < ts.length) (h : p ts[k] = true) (ha : ∀ j (hj : j < ts.length), j < k → p ts[j] = false) : idxI p ts = k := by
  have h1 : ts.findIdx p = k := (List.findIdx_eq hk).2 ⟨h, fun j hj => ha j (by omega) hj⟩
  have h2 : ts.any p = true := List.any_eq_true.2 ⟨ts[k], List.getElem_mem hk, h⟩
  rw [idxI, if_pos h2, h1]
theorem idxI_none {α : Type} {p : α → Bool} {ts : List α} (ha : ∀ j (hj : j < ts.length), p ts[j] = false) : idxI p ts = -1 := by
  rw [idxI, if_neg (fun c => by
    obtain ⟨t, ht, hn⟩ := List.any_eq_true.1 c
    obtain ⟨j, hj, rfl⟩ := List.getElem_of_mem ht
    rw [ha j hj] at hn; cases hn)]
theorem idxI_ge {α : Type} (p : α → Bool) (ts : List α) : decide (0 ≤ idxI p ts) = ts.any p := by
  unfold idxI
  cases h : ts.any p <;> simp
/-- The head of a block, as a call finds it. -/
structure Hd (h : Heap) (id n : Nat) (b : Blk) (zs : List Int) : Prop where
  hb : h[id]? = some b
  hn : b.length = n
  hz : zs.length ≤ n
  ht : b.take zs.length = zs.map encI
  hf : flat b = true
  he : ∀ e ∈ b, e.length = 1
theorem Hd.at {h : Heap} {id n : Nat} {b : Blk} {zs : List Int} (H : Hd h id n b zs) {i : Nat} (hi : i < zs.length) : b[i]? = some (encI (gtI zs i)) := by
  have : (b.take zs.length)[i]? = some (encI (gtI zs i)) := by rw [H.ht, List.getElem?_map, gtI_some hi]; rfl
  rwa [List.getElem?_take_of_lt hi] at this
theorem indexF_c {h : Heap} {id n : Nat} {b : Blk} {zs : List Int} (g : Nat) (caps : List V) (p : Int → Bool) (H : Hd h id n b zs) (hm : zs.length ≤ 1048576) (hg : ∀ z ∈ zs, C Tryz.prog g (.int .i64 z :: caps) h (fun r h' => r = .bool (p z) ∧ h' = h)) :
    C Tryz.prog 179 [.own id 1 0 zs.length n, .fn g caps] h (fun r h' => r = .int .i64 (idxI p zs) ∧ h' = h) := by
  have hz := H.hz
  have hn := H.hn
  have hb := H.hb
  refine C.by mixed (cfn_ok Tryz.func179 ok179) rfl ?_
  simp (disch := omega) only [s179, go_sem]
  refine loopP_intro (fun m s => ∃ k : Nat, k ≤ zs.length ∧ m = zs.length - k ∧ s.e 0 = .own id 1 0 zs.length n ∧ s.e 1 = .fn g caps ∧ s.e 7 = .int .i64 zs.length ∧ s.e 8 = .int .i64 k ∧ s.h = h ∧ ∀ j (hj : j < zs.length), j < k → p zs[j] = false) zs.length ⟨0, by omega, by omega, rfl, rfl, by simp (disch := omega) only [go_sem], rfl, rfl, fun j _ h => absurd h (by omega)⟩ ?_
  rintro m e hp ⟨k, hk, rfl, e0, e1, e7, e8, rfl, hall⟩
  simp only at e0 e1 e7 e8
  simp (disch := omega) only [go_sem, e0, e1, e7, e8]
  refine condP_dec (fun hlt => ?_) (fun hlt => ?_)
  · have hlt' : k < zs.length := by omega
    have hbk := H.at hlt'
    have hgk := hg _ (List.getElem_mem hlt')
    rw [gtI_get hlt'] at hgk
    simp (disch := omega) only [go_sem, e0, e1, e7, e8, hb, hn, hbk, encI]
    refine C.go hgk ?_
    rintro r h' ⟨rfl, rfl⟩
    simp (disch := omega) only [go_sem, e0, e1, e7, e8, hb, hn, hbk, encI]
    refine condP_split (fun h => ?_) (fun h => ?_)
    · simp (disch := omega) only [go_sem, e0, e1, e7, e8, hb, hn, hbk, encI]
      rw [idxI_found hlt' (by rw [gtI_get]; exact h) hall]
    · simp (disch := omega) only [go_sem, e0, e1, e7, e8, hb, hn, hbk, encI]
      refine nextP_intro (zs.length - (k + 1)) (by omega) ⟨k + 1, by omega, rfl, ?_, ?_, ?_, ?_, rfl, fun j hj hjk => ?_⟩
      · simp (disch := omega) only [go_sem, e0, e1, e7, e8, hb, hn, hbk, encI]
      · simp (disch := omega) only [go_sem, e0, e1, e7, e8, hb, hn, hbk, encI]
      · simp (disch := omega) only [go_sem, e0, e1, e7, e8, hb, hn, hbk, encI]
      · simp (disch := omega) only [go_sem, e0, e1, e7, e8, hb, hn, hbk, encI]; rfl
      · by_cases e : j = k
        · subst e; rw [gtI_get]; exact h
        · exact hall j hj (by omega)
  · simp (disch := omega) only [go_sem, e0, e1, e7, e8]
    rw [idxI_none (fun j hj => hall j hj (by omega))]
theorem filter_take {p : Int → Bool} {zs : List Int} {q : Nat} (h : q < zs.length) : (zs.take (q + 1)).filter p = (zs.take q).filter p ++ (if p (gtI zs q) = true then [gtI zs q] else []) := by
  rw [List.take_succ_eq_append_getElem h, List.filter_append, gtI_get]
  simp only [List.filter_cons, List.filter_nil]
theorem filter_all {p : Int → Bool} {zs : List Int} {k : Nat} (ha : ∀ j (hj : j < zs.length), j < k → p zs[j] = false) : (zs.take k).filter (fun z => !p z) = zs.take k := by
  refine List.filter_eq_self.2 fun z hz => ?_
  obtain ⟨j, hj, rfl⟩ := List.getElem_of_mem hz
  simp only [List.length_take] at hj
  rw [List.getElem_take, ha j (by omega) (by omega)]; rfl
theorem idxI_cases {p : Int → Bool} {zs : List Int} : (idxI p zs = -1 ∧ ∀ j (hj : j < zs.length), p zs[j] = false) ∨ ∃ k : Nat, ∃ hk : k < zs.length, idxI p zs = k ∧ p zs[k] = true ∧ ∀ j (hj : j < zs.length), j < k → p zs[j] = false := by
  by_cases h : zs.any p = true
  · right
    obtain ⟨x, hx, hpx⟩ := List.any_eq_true.1 h
    have hlt : zs.findIdx p < zs.length := List.findIdx_lt_length_of_exists ⟨x, hx, hpx⟩
    refine ⟨zs.findIdx p, hlt, by rw [idxI, if_pos h], List.findIdx_getElem, fun j hj hjk => ?_⟩
    have := List.not_of_lt_findIdx hjk
    simpa using this
  · left
    refine ⟨by rw [idxI, if_neg h], fun j hj => ?_⟩
    have h' : zs.any p = false := by simpa using h
    have := List.any_eq_false.1 h' _ (List.getElem_mem hj)
    simpa using this
theorem deleteF_c {h : Heap} {id n : Nat} {b : Blk} {zs : List Int} (g : Nat) (caps : List V) (p : Int → Bool) (H : Hd h id n b zs) (hm : zs.length ≤ 1048576) (hcap : (V.fn g caps).noHole = true) (hg : ∀ z ∈ zs, ∀ h' : Heap, (∀ j, j ≠ id → h'[j]? = h[j]?) → C Tryz.prog g (.int .i64 z :: caps) h' (fun r h'' => r = .bool (p z) ∧ h'' = h')) :
    C Tryz.prog 164 [.own id 1 0 zs.length n, .fn g caps] h (fun r h' => ∃ b', r = .own id 1 0 (zs.filter fun z => !p z).length n ∧ h' = h.set id b' ∧ Hd (h.set id b') id n b' (zs.filter fun z => !p z)) := by
  have hz := H.hz
  have hn := H.hn
  have hb := H.hb
  have hself : h = h.set id b := by
    obtain ⟨hl, he⟩ := List.getElem?_eq_some_iff.1 hb
    rw [← he, List.set_getElem_self]
  refine C.by mixed (cfn_ok Tryz.func164 ok164) rfl ?_
  simp (disch := omega) only [s164, go_sem]
  refine C.go (indexF_c g caps p H hm (fun z hz => hg z hz h (fun _ _ => rfl))) ?_
  rintro r h' ⟨rfl, rfl⟩
  simp (disch := omega) only [go_sem]
  rcases idxI_cases (p := p) (zs := zs) with ⟨e, hall⟩ | ⟨k, hk, e, hpk, hall⟩
  · simp (disch := omega) only [go_sem, e]
    have hfe : zs.filter (fun z => !p z) = zs := by
      have := filter_all (p := p) (zs := zs) (k := zs.length) (fun j hj _ => hall j hj)
      rwa [List.take_length] at this
    rw [hfe]
    exact ⟨b, rfl, hself, by rw [← hself]; exact H⟩
  have hne : ¬ (k : Int) = -1 := by omega
  simp (disch := omega) only [go_sem, e, hne]
  refine loopP_intro (fun m s => ∃ (q i : Nat) (c : Blk), k + 1 ≤ q ∧ q ≤ zs.length ∧ m = zs.length - q ∧ i < q ∧ i = ((zs.take q).filter fun z => !p z).length ∧ s.e 0 = .own id 1 0 zs.length n ∧ s.e 1 = .fn g caps ∧ s.e 5 = .int .i64 i ∧ s.e 6 = .int .i64 q ∧ s.h = h'.set id c ∧ c.length = n ∧ (∀ e ∈ c, e.length = 1) ∧ flat c = true ∧ c.take i = ((zs.take q).filter fun z => !p z).map encI ∧ ∀ j, i ≤ j → j < zs.length → c[j]? = some (encI (gtI zs j))) (zs.length - (k + 1)) ⟨k + 1, k, b, by omega, by omega, rfl, by omega, ?_, by simp (disch := omega) only [go_sem, e, hne], by simp (disch := omega) only [go_sem, e, hne], by simp (disch := omega) only [go_sem, e, hne], by simp (disch := omega) only [go_sem, e, hne]; rfl, hself, hn, H.he, H.hf, ?_, fun j _ hj => H.at hj⟩ ?_
  · rw [filter_take hk, filter_all hall, ← gtI_get hk, hpk]; simp; omega
  · rw [filter_take hk, filter_all hall, ← gtI_get hk, hpk]
    have : b.take k = (b.take zs.length).take k := by rw [List.take_take]; congr 1; omega
    rw [this, H.ht, ← List.map_take]; simp
  rintro m e' h2 ⟨q, i, c, hq1, hq2, rfl, hi1, hi2, e0, e1, e5, e6, rfl, hcn, hce, hcf, hct, hcj⟩
  simp only at e0 e1 e5 e6
  have hc := heap_set c hb
  simp (disch := omega) only [go_sem, e0, e1, e5, e6, hc]
  refine condP_dec (fun hlq => ?_) (fun hlq => ?_)
  · have hlq' : q < zs.length := by omega
    have hcq := hcj q (by omega) hlq'
    have hgq := hg _ (List.getElem_mem hlq') (h'.set id c) (fun j hj => List.getElem?_set_ne (Ne.symm hj))
    rw [gtI_get hlq'] at hgq
    have hft := filter_take (p := fun z => !p z) hlq'
    have st := store_at (z := gtI zs q) hb hcn (show i < n by omega) hce
    simp (disch := omega) only [go_sem, e0, e1, e5, e6, hc, hcn, hcq, encI]
    refine C.go hgq ?_
    rintro r h3 ⟨rfl, rfl⟩
    simp (disch := omega) only [go_sem, e0, e1, e5, e6, hc, hcn, hcq, encI]
    refine condP_split (fun hpq => ?_) (fun hpq => ?_)
    · rw [if_neg (by simp [hpq]), List.append_nil] at hft
      simp (disch := omega) only [go_sem, e0, e1, e5, e6, hc, hcn, hcq, encI]
      refine nextP_intro (zs.length - (q + 1)) (by omega) ⟨q + 1, i, c, by omega, by omega, rfl, by omega, by rw [hft]; exact hi2, by simp (disch := omega) only [go_sem, e0, e1, e5, e6, hc, hcn, hcq, encI], by simp (disch := omega) only [go_sem, e0, e1, e5, e6, hc, hcn, hcq, encI], by simp (disch := omega) only [go_sem, e0, e1, e5, e6, hc, hcn, hcq, encI], by simp (disch := omega) only [go_sem, e0, e1, e5, e6, hc, hcn, hcq, encI]; rfl, rfl, hcn, hce, hcf, by rw [hft]; exact hct, hcj⟩
    · rw [if_pos (by simp [hpq])] at hft
      simp (disch := omega) only [go_sem, e0, e1, e5, e6, hc, hcn, hcq, st, encI]
      refine nextP_intro (zs.length - (q + 1)) (by omega) ⟨q + 1, i + 1, c.set i [.int .i64 (gtI zs q)], by omega, by omega, rfl, by omega, by rw [hft]; simp [← hi2], by simp (disch := omega) only [go_sem, e0, e1, e5, e6, hc, hcn, hcq, st, encI], by simp (disch := omega) only [go_sem, e0, e1, e5, e6, hc, hcn, hcq, st, encI], by simp (disch := omega) only [go_sem, e0, e1, e5, e6, hc, hcn, hcq, st, encI] <;> rfl, by simp (disch := omega) only [go_sem, e0, e1, e5, e6, hc, hcn, hcq, st, encI]; rfl, rfl, by simpa using hcn, fun e he => ?_, ?_, ?_, fun j hj1 hj2 => ?_⟩
      · rcases List.mem_or_eq_of_mem_set he with h4 | h4
        · exact hce e h4
        · rw [h4]; rfl
      · simp only [flat, List.all_eq_true] at hcf ⊢
        intro e he
        rcases List.mem_or_eq_of_mem_set he with h4 | h4
        · exact hcf e h4
        · rw [h4]; simp [V.scalar]
      · rw [hft, List.map_append, ← hct, List.take_set, List.take_succ_eq_append_getElem (by omega), List.set_append_right _ _ (by simp; omega)]
        simp [hcn]
        have : min i n = i := by omega
        rw [this]; simp [encI]
      · rw [List.getElem?_set_ne (by omega)]
        exact hcj j (by omega) hj2
  · simp (disch := omega) only [go_sem, e0, e1, e5, e6, hc]
    have hqe : q = zs.length := by omega
    subst hqe
    rw [List.take_length] at hi2 hct
    subst hi2
    have hwl : (zs.filter fun z => !p z).length ≤ zs.length := List.length_filter_le _ _
    have hdr : ((zs.filter fun z => !p z).length + (zs.length - (zs.filter fun z => !p z).length)) = zs.length := by omega
    have hcl : (zs.filter fun z => !p z).length + (zs.length - (zs.filter fun z => !p z).length) ≤ n := by omega
    simp (disch := omega) only [go_sem, e0, e1, e5, e6, hc, hcn, hct, hcl, hdr, hz, List.set_set]
    refine ⟨_, rfl, heap_set _ hb, ?_, by omega, ?_, ?_, fun e he => ?_⟩
    · simp [hcn]; omega
    · rw [List.take_left' (by simp)]
    · simp only [flat, List.all_eq_true] at hcf ⊢
      intro e he
      rcases List.mem_append.1 he with h1 | h1
      · exact List.all_eq_true.1 (List.all_eq_true.1 (flat_encI _) e h1)
      · rcases List.mem_append.1 h1 with h1 | h1
        · rw [(List.mem_replicate.1 h1).2]; simp [V.scalar]
        · exact hcf e (List.mem_of_mem_drop h1)
    · rcases List.mem_append.1 he with h1 | h1
      · obtain ⟨x, _, rfl⟩ := List.mem_map.1 h1; rfl
      · rcases List.mem_append.1 h1 with h1 | h1
        · rw [(List.mem_replicate.1 h1).2]; rfl
        · exact hce e (List.mem_of_mem_drop h1)
theorem refs_intsx (n : Nat) (zs : List Int) (x : V) (hx : V.refs n x = true) : V.refsL n [.lst 1 (zs.map encI), x] = true := by simp [V.refsL, V.refs, refsLL_map encI (fun _ => rfl) zs, hx]
theorem contains_c (zs : List Int) (x : Int) (hl : zs.length ≤ 9223372036854775807) : CP Tryz.prog 80 [.lst 1 (zs.map encI), .int .i64 x] (.bool (decide (x ∈ zs))) [] := by
  have ix : CP Tryz.prog 138 [.lst 1 (zs.map encI), .int .i64 x] (.int .i64 (idxI (fun z => decide (x = z)) zs)) [] := by
    refine CP.by rfl mixed (cfn_ok Tryz.func138 ok138) rfl ?_
    simp (disch := omega) only [s138, go_sem]
    refine loopP_intro (fun m s => ∃ k : Nat, k ≤ zs.length ∧ m = zs.length - k ∧ s.e 0 = .lst 1 (zs.map encI) ∧ s.e 1 = .int .i64 x ∧ s.e 7 = .int .i64 zs.length ∧ s.e 8 = .int .i64 k ∧ ∀ j (hj : j < zs.length), j < k → decide (x = zs[j]) = false) zs.length ⟨0, by omega, by omega, rfl, rfl, by simp (disch := omega) only [go_sem], rfl, fun j _ h => absurd h (by omega)⟩ ?_
    rintro m e hp ⟨k, hk, rfl, e0, e1, e7, e8, hall⟩
    simp only at e0 e1 e7 e8
    simp (disch := omega) only [go_sem, e0, e1, e7, e8, encI]
    refine condP_dec (fun hlt => ?_) (fun hlt => ?_)
    · have hlt' : k < zs.length := by omega
      simp (disch := omega) only [go_sem, e0, e1, e7, e8, encI]
      refine condP_dec (fun h => ?_) (fun h => ?_)
      · simp (disch := omega) only [go_sem, e0, e1, e7, e8, encI]
        rw [idxI_found hlt' (by simpa using h) hall]
      · simp (disch := omega) only [go_sem, e0, e1, e7, e8, encI]
        refine nextP_intro (zs.length - (k + 1)) (by omega) ⟨k + 1, by omega, rfl, ?_, ?_, ?_, ?_, fun j hj hjk => ?_⟩
        · simp (disch := omega) only [go_sem, e0, e1, e7, e8, encI]
        · simp (disch := omega) only [go_sem, e0, e1, e7, e8, encI]
        · simp (disch := omega) only [go_sem, e0, e1, e7, e8, encI]
        · simp (disch := omega) only [go_sem, e0, e1, e7, e8, encI]; rfl
        · by_cases e : j = k
          · subst e; simpa using h
          · exact hall j hj (by omega)
    · simp (disch := omega) only [go_sem, e0, e1, e7, e8, encI]
      rw [idxI_none (fun j hj => hall j hj (by omega))]
  refine CP.by rfl mixed (cfn_ok Tryz.func80 ok80) rfl ?_
  simp (disch := omega) only [s80, go_sem]
  refine CP.go ix rfl (refs_intsx _ _ _ rfl) ?_
  simp (disch := omega) only [go_sem, idxI_ge]
  have : zs.any (fun z => decide (x = z)) = decide (x ∈ zs) := by
    rw [Bool.eq_iff_iff]; simp
  rw [this]
theorem hasVar_c' (zs : List Int) (x : Int) (hl : zs.length ≤ 9223372036854775807) : CP Tryz.prog 167 [.lst 1 (zs.map encI), .int .i64 x] (.bool (decide (x ∈ zs))) [] := by
  refine CP.by rfl mixed (cfn_ok Tryz.func167 ok167) rfl ?_
  simp (disch := omega) only [s167, go_sem]
  refine CP.go (contains_c zs x hl) rfl (refs_intsx _ _ _ rfl) ?_
  simp (disch := omega) only [go_sem]
theorem hasVar_s (zs : List Int) (x : Int) (hl : zs.length ≤ 9223372036854775807) : CP Tryz.prog 100 [.lst 1 (zs.map encI), .int .i64 x] (.bool (decide (x ∈ zs))) [] := by
  refine CP.by rfl mixed (cfn_ok Tryz.func100 ok100) rfl ?_
  simp (disch := omega) only [s100, go_sem]
  refine loopP_intro (fun m s => ∃ k : Nat, k ≤ zs.length ∧ m = zs.length - k ∧ s.e 0 = .lst 1 (zs.map encI) ∧ s.e 1 = .int .i64 x ∧ s.e 5 = .int .i64 k ∧ ∀ j (hj : j < zs.length), j < k → zs[j] ≠ x) zs.length ⟨0, by omega, by omega, rfl, rfl, rfl, fun j _ h => absurd h (by omega)⟩ ?_
  rintro m e hp ⟨k, hk, rfl, e0, e1, e5, hall⟩
  simp only at e0 e1 e5
  simp (disch := omega) only [go_sem, e0, e1, e5, encI]
  refine condP_dec (fun hlt => ?_) (fun hlt => ?_)
  · have hlt' : k < zs.length := by omega
    simp (disch := omega) only [go_sem, e0, e1, e5, encI]
    refine condP_dec (fun h => ?_) (fun h => ?_)
    · simp (disch := omega) only [go_sem, e0, e1, e5, encI]
      have : x ∈ zs := by rw [← h]; exact List.getElem_mem hlt'
      simp [this]
    · simp (disch := omega) only [go_sem, e0, e1, e5, encI]
      refine nextP_intro (zs.length - (k + 1)) (by omega) ⟨k + 1, by omega, rfl, ?_, ?_, ?_, fun j hj hjk => ?_⟩
      · simp (disch := omega) only [go_sem, e0, e1, e5, encI]
      · simp (disch := omega) only [go_sem, e0, e1, e5, encI]
      · simp (disch := omega) only [go_sem, e0, e1, e5, encI]; rfl
      · by_cases e : j = k
        · subst e; exact h
        · exact hall j hj (by omega)
  · simp (disch := omega) only [go_sem, e0, e1, e5, encI]
    have : x ∉ zs := fun c => by
      obtain ⟨j, hj, rfl⟩ := List.getElem_of_mem c
      exact hall j hj (by omega) rfl
    simp [this]
end Go.Av
