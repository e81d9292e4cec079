/-
  No cell of these rows narrows 'for every input' (looked for: loops, veiled, ifaces, maps, wideKeys, modest, calm, conditions, laid).
  DERIVED. THE GIVEN ROWS OF THIS SEAT. 10 by the template 'for every input the law returns true; each argument reads behind the call as it read before'; 0 by the template 'total and deterministic' (their statements: YtjfmbdigfnablaaGreatTotals.lean).
  GIVEN WITH THE SEED: the statements are not yours to turn. If you find one false, say at which input.
  Laid BY PROGRAM, IN A SANDBOX (cutbox-rows.mjs): the forced cells as the released guide's own fill.sh prints them over the translation 6a1b7c407924792d… (all of the seat's roots in one cut). By AI agents, Wed Nov 11 2026. No macro, syntax, notation, axiom, sorry.
-/
import Derived.Test.YtjfmbdigfnablaaGreatChecked
import GoSem.Claim
import GoSem.ClaimJoined
import GoSem.ClaimMapViews
import Derived.JoinedTies
import Derived.KernelRfl
namespace Go.Proofs.YtjfmbdigfnablaaGreat
/- THE CELL 'sum', in the pinned program and in every row, IS THE sha256 OF THE DUMP (.gsa) THAT YtjfmbdigfnablaaGreatProg.lean LOADS. Nothing in Lean hashes anything: it is a label: what it is worth is what the hold of that sum in a sandbox is worth. -/
noncomputable def Tryz.pinned : Pinned := { name := "ytjfmbdigfnablaagreat", sum := "6a1b7c407924792d5159a2baf3d97e0581d2ca06c5ae65b227fed3acea5c5d65", checked := Tryz.checked }
namespace Rows
def none {H : Type} : Left H := { results := [], args := [] }

/-- 'laws.FnProgress': WHATEVER THE INPUT: true; the input reads as it did. -/
def fnProgressSpec : ChangeSpec := { name := "fnProgress", fn := fun _ => fun
  | [d] => { results := [.lit (.bool true)], args := [d] }
  | _ => none }
def fnProgressRow : OpenClaim := { program := "ytjfmbdigfnablaagreat", sum := "6a1b7c407924792d5159a2baf3d97e0581d2ca06c5ae65b227fed3acea5c5d65", func := "loop.example/g00983/laws.FnProgress", spec := "fnProgress", unfollowed := true, recurses := true, apart := false }
def FnProgressSaid : Prop := fnProgressRow.holds Tryz.pinned (OpenSpec.ofChange fnProgressSpec)

/-- ITS FALSE NEIGHBOUR: 'it returns false'. Refute it at one input. -/
def fnProgressWrong : ChangeSpec := { name := "fnProgress", fn := fun _ => fun
  | [d] => { results := [.lit (.bool false)], args := [d] }
  | _ => none }
def FnProgressWrongFalsely : Prop := fnProgressRow.holds Tryz.pinned (OpenSpec.ofChange fnProgressWrong)

/-- 'laws.FnSplits': WHATEVER THE INPUT: true; the input reads as it did. -/
def fnSplitsSpec : ChangeSpec := { name := "fnSplits", fn := fun _ => fun
  | [d] => { results := [.lit (.bool true)], args := [d] }
  | _ => none }
def fnSplitsRow : OpenClaim := { program := "ytjfmbdigfnablaagreat", sum := "6a1b7c407924792d5159a2baf3d97e0581d2ca06c5ae65b227fed3acea5c5d65", func := "loop.example/g00983/laws.FnSplits", spec := "fnSplits", unfollowed := true, recurses := true, apart := false }
def FnSplitsSaid : Prop := fnSplitsRow.holds Tryz.pinned (OpenSpec.ofChange fnSplitsSpec)

/-- ITS FALSE NEIGHBOUR: 'it returns false'. Refute it at one input. -/
def fnSplitsWrong : ChangeSpec := { name := "fnSplits", fn := fun _ => fun
  | [d] => { results := [.lit (.bool false)], args := [d] }
  | _ => none }
def FnSplitsWrongFalsely : Prop := fnSplitsRow.holds Tryz.pinned (OpenSpec.ofChange fnSplitsWrong)

/-- 'laws.FnBounds': WHATEVER THE INPUT: true; the input reads as it did. -/
def fnBoundsSpec : ChangeSpec := { name := "fnBounds", fn := fun _ => fun
  | [d] => { results := [.lit (.bool true)], args := [d] }
  | _ => none }
def fnBoundsRow : OpenClaim := { program := "ytjfmbdigfnablaagreat", sum := "6a1b7c407924792d5159a2baf3d97e0581d2ca06c5ae65b227fed3acea5c5d65", func := "loop.example/g00983/laws.FnBounds", spec := "fnBounds", unfollowed := true, recurses := true, apart := false }
def FnBoundsSaid : Prop := fnBoundsRow.holds Tryz.pinned (OpenSpec.ofChange fnBoundsSpec)

/-- ITS FALSE NEIGHBOUR: 'it returns false'. Refute it at one input. -/
def fnBoundsWrong : ChangeSpec := { name := "fnBounds", fn := fun _ => fun
  | [d] => { results := [.lit (.bool false)], args := [d] }
  | _ => none }
def FnBoundsWrongFalsely : Prop := fnBoundsRow.holds Tryz.pinned (OpenSpec.ofChange fnBoundsWrong)

/-- 'laws.FnExactSplitTask': WHATEVER THE INPUT: true; the input reads as it did. -/
def fnExactSplitTaskSpec : ChangeSpec := { name := "fnExactSplitTask", fn := fun _ => fun
  | [d1, d2, d3] => { results := [.lit (.bool true)], args := [d1, d2, d3] }
  | _ => none }
def fnExactSplitTaskRow : OpenClaim := { program := "ytjfmbdigfnablaagreat", sum := "6a1b7c407924792d5159a2baf3d97e0581d2ca06c5ae65b227fed3acea5c5d65", func := "loop.example/g00983/laws.FnExactSplitTask", spec := "fnExactSplitTask", unfollowed := true, recurses := true, apart := false }
def FnExactSplitTaskSaid : Prop := fnExactSplitTaskRow.holds Tryz.pinned (OpenSpec.ofChange fnExactSplitTaskSpec)

/-- ITS FALSE NEIGHBOUR: 'it returns false'. Refute it at one input. -/
def fnExactSplitTaskWrong : ChangeSpec := { name := "fnExactSplitTask", fn := fun _ => fun
  | [d1, d2, d3] => { results := [.lit (.bool false)], args := [d1, d2, d3] }
  | _ => none }
def FnExactSplitTaskWrongFalsely : Prop := fnExactSplitTaskRow.holds Tryz.pinned (OpenSpec.ofChange fnExactSplitTaskWrong)

/-- 'laws.FnSlack': WHATEVER THE INPUT: true; the input reads as it did. -/
def fnSlackSpec : ChangeSpec := { name := "fnSlack", fn := fun _ => fun
  | [d] => { results := [.lit (.bool true)], args := [d] }
  | _ => none }
def fnSlackRow : OpenClaim := { program := "ytjfmbdigfnablaagreat", sum := "6a1b7c407924792d5159a2baf3d97e0581d2ca06c5ae65b227fed3acea5c5d65", func := "loop.example/g00983/laws.FnSlack", spec := "fnSlack", unfollowed := true, recurses := true, apart := false }
def FnSlackSaid : Prop := fnSlackRow.holds Tryz.pinned (OpenSpec.ofChange fnSlackSpec)

/-- ITS FALSE NEIGHBOUR: 'it returns false'. Refute it at one input. -/
def fnSlackWrong : ChangeSpec := { name := "fnSlack", fn := fun _ => fun
  | [d] => { results := [.lit (.bool false)], args := [d] }
  | _ => none }
def FnSlackWrongFalsely : Prop := fnSlackRow.holds Tryz.pinned (OpenSpec.ofChange fnSlackWrong)

/-- 'laws.FnExactIsCertified': WHATEVER THE INPUT: true; the input reads as it did. -/
def fnExactIsCertifiedSpec : ChangeSpec := { name := "fnExactIsCertified", fn := fun _ => fun
  | [d1, d2] => { results := [.lit (.bool true)], args := [d1, d2] }
  | _ => none }
def fnExactIsCertifiedRow : OpenClaim := { program := "ytjfmbdigfnablaagreat", sum := "6a1b7c407924792d5159a2baf3d97e0581d2ca06c5ae65b227fed3acea5c5d65", func := "loop.example/g00983/laws.FnExactIsCertified", spec := "fnExactIsCertified", unfollowed := true, recurses := true, apart := false }
def FnExactIsCertifiedSaid : Prop := fnExactIsCertifiedRow.holds Tryz.pinned (OpenSpec.ofChange fnExactIsCertifiedSpec)

/-- ITS FALSE NEIGHBOUR: 'it returns false'. Refute it at one input. -/
def fnExactIsCertifiedWrong : ChangeSpec := { name := "fnExactIsCertified", fn := fun _ => fun
  | [d1, d2] => { results := [.lit (.bool false)], args := [d1, d2] }
  | _ => none }
def FnExactIsCertifiedWrongFalsely : Prop := fnExactIsCertifiedRow.holds Tryz.pinned (OpenSpec.ofChange fnExactIsCertifiedWrong)

/-- 'laws.FnBootBounds': WHATEVER THE INPUT: true; the input reads as it did. -/
def fnBootBoundsSpec : ChangeSpec := { name := "fnBootBounds", fn := fun _ => fun
  | [d] => { results := [.lit (.bool true)], args := [d] }
  | _ => none }
def fnBootBoundsRow : OpenClaim := { program := "ytjfmbdigfnablaagreat", sum := "6a1b7c407924792d5159a2baf3d97e0581d2ca06c5ae65b227fed3acea5c5d65", func := "loop.example/g00983/laws.FnBootBounds", spec := "fnBootBounds", unfollowed := true, recurses := true, apart := false }
def FnBootBoundsSaid : Prop := fnBootBoundsRow.holds Tryz.pinned (OpenSpec.ofChange fnBootBoundsSpec)

/-- ITS FALSE NEIGHBOUR: 'it returns false'. Refute it at one input. -/
def fnBootBoundsWrong : ChangeSpec := { name := "fnBootBounds", fn := fun _ => fun
  | [d] => { results := [.lit (.bool false)], args := [d] }
  | _ => none }
def FnBootBoundsWrongFalsely : Prop := fnBootBoundsRow.holds Tryz.pinned (OpenSpec.ofChange fnBootBoundsWrong)

/-- 'laws.FnExactSlackOf': WHATEVER THE INPUT: true; the input reads as it did. -/
def fnExactSlackOfSpec : ChangeSpec := { name := "fnExactSlackOf", fn := fun _ => fun
  | [d1, d2] => { results := [.lit (.bool true)], args := [d1, d2] }
  | _ => none }
def fnExactSlackOfRow : OpenClaim := { program := "ytjfmbdigfnablaagreat", sum := "6a1b7c407924792d5159a2baf3d97e0581d2ca06c5ae65b227fed3acea5c5d65", func := "loop.example/g00983/laws.FnExactSlackOf", spec := "fnExactSlackOf", unfollowed := true, recurses := true, apart := false }
def FnExactSlackOfSaid : Prop := fnExactSlackOfRow.holds Tryz.pinned (OpenSpec.ofChange fnExactSlackOfSpec)

/-- ITS FALSE NEIGHBOUR: 'it returns false'. Refute it at one input. -/
def fnExactSlackOfWrong : ChangeSpec := { name := "fnExactSlackOf", fn := fun _ => fun
  | [d1, d2] => { results := [.lit (.bool false)], args := [d1, d2] }
  | _ => none }
def FnExactSlackOfWrongFalsely : Prop := fnExactSlackOfRow.holds Tryz.pinned (OpenSpec.ofChange fnExactSlackOfWrong)

/-- 'laws.FnExactSplitUntil': WHATEVER THE INPUT: true; the input reads as it did. -/
def fnExactSplitUntilSpec : ChangeSpec := { name := "fnExactSplitUntil", fn := fun _ => fun
  | [d1, d2] => { results := [.lit (.bool true)], args := [d1, d2] }
  | _ => none }
def fnExactSplitUntilRow : OpenClaim := { program := "ytjfmbdigfnablaagreat", sum := "6a1b7c407924792d5159a2baf3d97e0581d2ca06c5ae65b227fed3acea5c5d65", func := "loop.example/g00983/laws.FnExactSplitUntil", spec := "fnExactSplitUntil", unfollowed := true, recurses := true, apart := false }
def FnExactSplitUntilSaid : Prop := fnExactSplitUntilRow.holds Tryz.pinned (OpenSpec.ofChange fnExactSplitUntilSpec)

/-- ITS FALSE NEIGHBOUR: 'it returns false'. Refute it at one input. -/
def fnExactSplitUntilWrong : ChangeSpec := { name := "fnExactSplitUntil", fn := fun _ => fun
  | [d1, d2] => { results := [.lit (.bool false)], args := [d1, d2] }
  | _ => none }
def FnExactSplitUntilWrongFalsely : Prop := fnExactSplitUntilRow.holds Tryz.pinned (OpenSpec.ofChange fnExactSplitUntilWrong)

/-- 'laws.FnExactCertifiedRun': WHATEVER THE INPUT: true; the input reads as it did. -/
def fnExactCertifiedRunSpec : ChangeSpec := { name := "fnExactCertifiedRun", fn := fun _ => fun
  | [d1, d2, d3, d4, d5] => { results := [.lit (.bool true)], args := [d1, d2, d3, d4, d5] }
  | _ => none }
def fnExactCertifiedRunRow : OpenClaim := { program := "ytjfmbdigfnablaagreat", sum := "6a1b7c407924792d5159a2baf3d97e0581d2ca06c5ae65b227fed3acea5c5d65", func := "loop.example/g00983/laws.FnExactCertifiedRun", spec := "fnExactCertifiedRun", unfollowed := true, recurses := true, apart := false }
def FnExactCertifiedRunSaid : Prop := fnExactCertifiedRunRow.holds Tryz.pinned (OpenSpec.ofChange fnExactCertifiedRunSpec)

/-- ITS FALSE NEIGHBOUR: 'it returns false'. Refute it at one input. -/
def fnExactCertifiedRunWrong : ChangeSpec := { name := "fnExactCertifiedRun", fn := fun _ => fun
  | [d1, d2, d3, d4, d5] => { results := [.lit (.bool false)], args := [d1, d2, d3, d4, d5] }
  | _ => none }
def FnExactCertifiedRunWrongFalsely : Prop := fnExactCertifiedRunRow.holds Tryz.pinned (OpenSpec.ofChange fnExactCertifiedRunWrong)

/- THE SECOND FORM. 'bulk': how many values and letters a reading holds, each counted each time it is reached (what is shared counts as often as it is met; a slice's spare places count too). A statement '..UptoSaid' is the law's where the arguments, and the package variables that the reading takes, are together of bulk at most 1048576: NARROWER than '..Said'. Prove '..Said' where nothing that the law and all that it calls make is longer than what came in: it says more and counts as full. Else prove '..UptoSaid'. A law counts once. -/
mutual
def uptoBulk {H : Type} : DataW H → Nat
  | .lit (.string bytes) => bytes.length + 1
  | .lit _ => 1
  | .nil => 1
  | .ptr d => uptoBulk d + 1
  | .slice elems spare => uptoBulkAll elems + uptoBulkAll spare + 1
  | .agg parts => uptoBulkAll parts + 1
  | .iface _ d => uptoBulk d + 1
  | .map entries => uptoBulkEntries entries + 1
  | .held _ => 1
def uptoBulkAll {H : Type} : List (DataW H) → Nat
  | [] => 0
  | d :: r => uptoBulk d + uptoBulkAll r
def uptoBulkEntries {H : Type} : List (Lit × DataW H) → Nat
  | [] => 0
  | x :: r => uptoBulkEntry x + uptoBulkEntries r
def uptoBulkEntry {H : Type} : Lit × DataW H → Nat
  | (.string bytes, d) => bytes.length + uptoBulk d + 1
  | (_, d) => uptoBulk d + 1
 end
def uptoSmall : (H : Type) → List (DataW H) → Bool := fun _ ds => decide (uptoBulkAll ds ≤ 1048576)
def OpenSpec.upto (s : _root_.Go.ChangeSpec) : _root_.Go.OpenSpec := { _root_.Go.OpenSpec.ofChange s with cond := some uptoSmall }

/-- 'laws.FnProgress', WHERE WHAT IT READS IS OF BULK AT MOST 1048576: true; the input reads as it did. -/
def fnProgressUptoRow : OpenClaim := { program := "ytjfmbdigfnablaagreat", sum := "6a1b7c407924792d5159a2baf3d97e0581d2ca06c5ae65b227fed3acea5c5d65", func := "loop.example/g00983/laws.FnProgress", spec := "fnProgress", unfollowed := true, recurses := true, apart := false, narrowed := true }
def FnProgressUptoSaid : Prop := fnProgressUptoRow.holds Tryz.pinned (OpenSpec.upto fnProgressSpec)

/-- 'laws.FnSplits', WHERE WHAT IT READS IS OF BULK AT MOST 1048576: true; the input reads as it did. -/
def fnSplitsUptoRow : OpenClaim := { program := "ytjfmbdigfnablaagreat", sum := "6a1b7c407924792d5159a2baf3d97e0581d2ca06c5ae65b227fed3acea5c5d65", func := "loop.example/g00983/laws.FnSplits", spec := "fnSplits", unfollowed := true, recurses := true, apart := false, narrowed := true }
def FnSplitsUptoSaid : Prop := fnSplitsUptoRow.holds Tryz.pinned (OpenSpec.upto fnSplitsSpec)

/-- 'laws.FnBounds', WHERE WHAT IT READS IS OF BULK AT MOST 1048576: true; the input reads as it did. -/
def fnBoundsUptoRow : OpenClaim := { program := "ytjfmbdigfnablaagreat", sum := "6a1b7c407924792d5159a2baf3d97e0581d2ca06c5ae65b227fed3acea5c5d65", func := "loop.example/g00983/laws.FnBounds", spec := "fnBounds", unfollowed := true, recurses := true, apart := false, narrowed := true }
def FnBoundsUptoSaid : Prop := fnBoundsUptoRow.holds Tryz.pinned (OpenSpec.upto fnBoundsSpec)

/-- 'laws.FnExactSplitTask', WHERE WHAT IT READS IS OF BULK AT MOST 1048576: true; the input reads as it did. -/
def fnExactSplitTaskUptoRow : OpenClaim := { program := "ytjfmbdigfnablaagreat", sum := "6a1b7c407924792d5159a2baf3d97e0581d2ca06c5ae65b227fed3acea5c5d65", func := "loop.example/g00983/laws.FnExactSplitTask", spec := "fnExactSplitTask", unfollowed := true, recurses := true, apart := false, narrowed := true }
def FnExactSplitTaskUptoSaid : Prop := fnExactSplitTaskUptoRow.holds Tryz.pinned (OpenSpec.upto fnExactSplitTaskSpec)

/-- 'laws.FnSlack', WHERE WHAT IT READS IS OF BULK AT MOST 1048576: true; the input reads as it did. -/
def fnSlackUptoRow : OpenClaim := { program := "ytjfmbdigfnablaagreat", sum := "6a1b7c407924792d5159a2baf3d97e0581d2ca06c5ae65b227fed3acea5c5d65", func := "loop.example/g00983/laws.FnSlack", spec := "fnSlack", unfollowed := true, recurses := true, apart := false, narrowed := true }
def FnSlackUptoSaid : Prop := fnSlackUptoRow.holds Tryz.pinned (OpenSpec.upto fnSlackSpec)

/-- 'laws.FnExactIsCertified', WHERE WHAT IT READS IS OF BULK AT MOST 1048576: true; the input reads as it did. -/
def fnExactIsCertifiedUptoRow : OpenClaim := { program := "ytjfmbdigfnablaagreat", sum := "6a1b7c407924792d5159a2baf3d97e0581d2ca06c5ae65b227fed3acea5c5d65", func := "loop.example/g00983/laws.FnExactIsCertified", spec := "fnExactIsCertified", unfollowed := true, recurses := true, apart := false, narrowed := true }
def FnExactIsCertifiedUptoSaid : Prop := fnExactIsCertifiedUptoRow.holds Tryz.pinned (OpenSpec.upto fnExactIsCertifiedSpec)

/-- 'laws.FnBootBounds', WHERE WHAT IT READS IS OF BULK AT MOST 1048576: true; the input reads as it did. -/
def fnBootBoundsUptoRow : OpenClaim := { program := "ytjfmbdigfnablaagreat", sum := "6a1b7c407924792d5159a2baf3d97e0581d2ca06c5ae65b227fed3acea5c5d65", func := "loop.example/g00983/laws.FnBootBounds", spec := "fnBootBounds", unfollowed := true, recurses := true, apart := false, narrowed := true }
def FnBootBoundsUptoSaid : Prop := fnBootBoundsUptoRow.holds Tryz.pinned (OpenSpec.upto fnBootBoundsSpec)

/-- 'laws.FnExactSlackOf', WHERE WHAT IT READS IS OF BULK AT MOST 1048576: true; the input reads as it did. -/
def fnExactSlackOfUptoRow : OpenClaim := { program := "ytjfmbdigfnablaagreat", sum := "6a1b7c407924792d5159a2baf3d97e0581d2ca06c5ae65b227fed3acea5c5d65", func := "loop.example/g00983/laws.FnExactSlackOf", spec := "fnExactSlackOf", unfollowed := true, recurses := true, apart := false, narrowed := true }
def FnExactSlackOfUptoSaid : Prop := fnExactSlackOfUptoRow.holds Tryz.pinned (OpenSpec.upto fnExactSlackOfSpec)

/-- 'laws.FnExactSplitUntil', WHERE WHAT IT READS IS OF BULK AT MOST 1048576: true; the input reads as it did. -/
def fnExactSplitUntilUptoRow : OpenClaim := { program := "ytjfmbdigfnablaagreat", sum := "6a1b7c407924792d5159a2baf3d97e0581d2ca06c5ae65b227fed3acea5c5d65", func := "loop.example/g00983/laws.FnExactSplitUntil", spec := "fnExactSplitUntil", unfollowed := true, recurses := true, apart := false, narrowed := true }
def FnExactSplitUntilUptoSaid : Prop := fnExactSplitUntilUptoRow.holds Tryz.pinned (OpenSpec.upto fnExactSplitUntilSpec)

/-- 'laws.FnExactCertifiedRun', WHERE WHAT IT READS IS OF BULK AT MOST 1048576: true; the input reads as it did. -/
def fnExactCertifiedRunUptoRow : OpenClaim := { program := "ytjfmbdigfnablaagreat", sum := "6a1b7c407924792d5159a2baf3d97e0581d2ca06c5ae65b227fed3acea5c5d65", func := "loop.example/g00983/laws.FnExactCertifiedRun", spec := "fnExactCertifiedRun", unfollowed := true, recurses := true, apart := false, narrowed := true }
def FnExactCertifiedRunUptoSaid : Prop := fnExactCertifiedRunUptoRow.holds Tryz.pinned (OpenSpec.upto fnExactCertifiedRunSpec)

end Rows
end Go.Proofs.YtjfmbdigfnablaaGreat
