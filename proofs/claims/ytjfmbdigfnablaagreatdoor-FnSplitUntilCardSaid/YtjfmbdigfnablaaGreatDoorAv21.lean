/- Values that own values: read through row by row; heaps that grow. No condition. -/
import Derived.Test.YtjfmbdigfnablaaGreatDoorAv20
namespace Go.Av
open Go.RowKit
set_option linter.unusedVariables false
set_option linter.unusedSimpArgs false

theorem Snap.rows {h : Heap} {id sz n : Nat} {b ys : Blk} (hb : h[id]? = some b) (hn : b.length = n) (hy : ys.length = n) (hr : ∀ (i : Nat) (e d : List V), b[i]? = some e → ys[i]? = some d → Snaps h e d) : Snap h (.own id sz 0 n n) (.lst sz ys) := by
  refine .own hb (by omega) (by omega) hy (fun i e d h1 h2 => ?_) (fun i e d j c x h1 h2 h3 h4 => ?_)
  · rw [Nat.zero_add] at h1
    exact (hr i e d h1 h2).1
  · rw [Nat.zero_add] at h1
    exact (hr i e d h1 h2).2 j c x h3 h4
theorem Snap.ext {h : Heap} {v x : V} (t : Heap) (H : Snap h v x) : Snap (h ++ t) v x := by
  induction H with
  | int k n => exact .int k n
  | bool b => exact .bool b
  | str s => exact .str s
  | agg hl hc ih => exact .agg hl ih
  | lst sz xs hr => exact .lst sz xs hr
  | nils sz => exact .nils sz
  | same v hr => exact .same v hr
  | own hb ht hl hy he hc ih => exact .own (heap_app hb) ht hl hy he ih
theorem Snaps.ext {h : Heap} {vs xs : List V} (t : Heap) (H : Snaps h vs xs) : Snaps (h ++ t) vs xs := ⟨H.1, fun j c d hc hd => (H.2 j c d hc hd).ext t⟩
theorem Snaps.scalars {h : Heap} {cs : List V} (hc : cs.all V.scalar = true) : Snaps h cs cs := ⟨rfl, fun j c d h1 h2 => by
  rw [h1] at h2; cases h2
  exact Snap.of_scalar h (List.all_eq_true.1 hc c (List.mem_of_getElem? h1))⟩
theorem Snap.ofSnaps {h : Heap} {cs ds : List V} (H : Snaps h cs ds) : Snap h (.agg cs) (.agg ds) := .agg H.1 H.2
end Go.Av
