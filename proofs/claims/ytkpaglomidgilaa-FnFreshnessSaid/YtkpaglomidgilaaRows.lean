/-
  No cell of these rows narrows 'for every input' (looked for: loops, veiled, ifaces, maps, wideKeys, modest, calm, conditions, laid).
  DERIVED. THE GIVEN ROWS OF THIS SEAT. 16 by the template 'for every input the law returns true; each argument reads behind the call as it read before'; 0 by the template 'total and deterministic' (their statements: YtkpaglomidgilaaTotals.lean).
  GIVEN WITH THE SEED: the statements are not yours to turn. If you find one false, say at which input.
  Laid BY PROGRAM, IN A SANDBOX (cutbox-rows.mjs): the forced cells as the released guide's own fill.sh prints them over the translation c32cabb00ff4d248… (all of the seat's roots in one cut). By AI agents, Wed Nov 11 2026. No macro, syntax, notation, axiom, sorry.
-/
import Derived.Test.YtkpaglomidgilaaChecked
import GoSem.Claim
import GoSem.ClaimJoined
import GoSem.ClaimMapViews
import Derived.JoinedTies
import Derived.KernelRfl
namespace Go.Proofs.Ytkpaglomidgilaa
/- THE CELL 'sum', in the pinned program and in every row, IS THE sha256 OF THE DUMP (.gsa) THAT YtkpaglomidgilaaProg.lean LOADS. Nothing in Lean hashes anything: it is a label: what it is worth is what the hold of that sum in a sandbox is worth. -/
noncomputable def Try.pinned : Pinned := { name := "ytkpaglomidgilaa", sum := "c32cabb00ff4d24817197e6f7e99a2640a92938c9d80b80cefee0b4546f19537", checked := Try.checked }
namespace Rows
def none {H : Type} : Left H := { results := [], args := [] }

/-- 'laws.FnExactSpanOk': WHATEVER THE INPUT: true; the input reads as it did. -/
def fnExactSpanOkSpec : ChangeSpec := { name := "fnExactSpanOk", fn := fun _ => fun
  | [d] => { results := [.lit (.bool true)], args := [d] }
  | _ => none }
def fnExactSpanOkRow : OpenClaim := { program := "ytkpaglomidgilaa", sum := "c32cabb00ff4d24817197e6f7e99a2640a92938c9d80b80cefee0b4546f19537", func := "loop.example/g00983/laws.FnExactSpanOk", spec := "fnExactSpanOk", apart := false }
def FnExactSpanOkSaid : Prop := fnExactSpanOkRow.holds Try.pinned (OpenSpec.ofChange fnExactSpanOkSpec)

/-- ITS FALSE NEIGHBOUR: 'it returns false'. Refute it at one input. -/
def fnExactSpanOkWrong : ChangeSpec := { name := "fnExactSpanOk", fn := fun _ => fun
  | [d] => { results := [.lit (.bool false)], args := [d] }
  | _ => none }
def FnExactSpanOkWrongFalsely : Prop := fnExactSpanOkRow.holds Try.pinned (OpenSpec.ofChange fnExactSpanOkWrong)

/-- 'laws.FnExactHolds': WHATEVER THE INPUT: true; the input reads as it did. -/
def fnExactHoldsSpec : ChangeSpec := { name := "fnExactHolds", fn := fun _ => fun
  | [d1, d2] => { results := [.lit (.bool true)], args := [d1, d2] }
  | _ => none }
def fnExactHoldsRow : OpenClaim := { program := "ytkpaglomidgilaa", sum := "c32cabb00ff4d24817197e6f7e99a2640a92938c9d80b80cefee0b4546f19537", func := "loop.example/g00983/laws.FnExactHolds", spec := "fnExactHolds", apart := false }
def FnExactHoldsSaid : Prop := fnExactHoldsRow.holds Try.pinned (OpenSpec.ofChange fnExactHoldsSpec)

/-- ITS FALSE NEIGHBOUR: 'it returns false'. Refute it at one input. -/
def fnExactHoldsWrong : ChangeSpec := { name := "fnExactHolds", fn := fun _ => fun
  | [d1, d2] => { results := [.lit (.bool false)], args := [d1, d2] }
  | _ => none }
def FnExactHoldsWrongFalsely : Prop := fnExactHoldsRow.holds Try.pinned (OpenSpec.ofChange fnExactHoldsWrong)

/-- 'laws.FnExactDecayOk': WHATEVER THE INPUT: true; the input reads as it did. -/
def fnExactDecayOkSpec : ChangeSpec := { name := "fnExactDecayOk", fn := fun _ => fun
  | [d] => { results := [.lit (.bool true)], args := [d] }
  | _ => none }
def fnExactDecayOkRow : OpenClaim := { program := "ytkpaglomidgilaa", sum := "c32cabb00ff4d24817197e6f7e99a2640a92938c9d80b80cefee0b4546f19537", func := "loop.example/g00983/laws.FnExactDecayOk", spec := "fnExactDecayOk", apart := false }
def FnExactDecayOkSaid : Prop := fnExactDecayOkRow.holds Try.pinned (OpenSpec.ofChange fnExactDecayOkSpec)

/-- ITS FALSE NEIGHBOUR: 'it returns false'. Refute it at one input. -/
def fnExactDecayOkWrong : ChangeSpec := { name := "fnExactDecayOk", fn := fun _ => fun
  | [d] => { results := [.lit (.bool false)], args := [d] }
  | _ => none }
def FnExactDecayOkWrongFalsely : Prop := fnExactDecayOkRow.holds Try.pinned (OpenSpec.ofChange fnExactDecayOkWrong)

/-- 'laws.FnExactUncertainty': WHATEVER THE INPUT: true; the input reads as it did. -/
def fnExactUncertaintySpec : ChangeSpec := { name := "fnExactUncertainty", fn := fun _ => fun
  | [d] => { results := [.lit (.bool true)], args := [d] }
  | _ => none }
def fnExactUncertaintyRow : OpenClaim := { program := "ytkpaglomidgilaa", sum := "c32cabb00ff4d24817197e6f7e99a2640a92938c9d80b80cefee0b4546f19537", func := "loop.example/g00983/laws.FnExactUncertainty", spec := "fnExactUncertainty", apart := false }
def FnExactUncertaintySaid : Prop := fnExactUncertaintyRow.holds Try.pinned (OpenSpec.ofChange fnExactUncertaintySpec)

/-- ITS FALSE NEIGHBOUR: 'it returns false'. Refute it at one input. -/
def fnExactUncertaintyWrong : ChangeSpec := { name := "fnExactUncertainty", fn := fun _ => fun
  | [d] => { results := [.lit (.bool false)], args := [d] }
  | _ => none }
def FnExactUncertaintyWrongFalsely : Prop := fnExactUncertaintyRow.holds Try.pinned (OpenSpec.ofChange fnExactUncertaintyWrong)

/-- 'laws.FnExactSynchronize': WHATEVER THE INPUT: true; the input reads as it did. -/
def fnExactSynchronizeSpec : ChangeSpec := { name := "fnExactSynchronize", fn := fun _ => fun
  | [d1, d2] => { results := [.lit (.bool true)], args := [d1, d2] }
  | _ => none }
def fnExactSynchronizeRow : OpenClaim := { program := "ytkpaglomidgilaa", sum := "c32cabb00ff4d24817197e6f7e99a2640a92938c9d80b80cefee0b4546f19537", func := "loop.example/g00983/laws.FnExactSynchronize", spec := "fnExactSynchronize", apart := false }
def FnExactSynchronizeSaid : Prop := fnExactSynchronizeRow.holds Try.pinned (OpenSpec.ofChange fnExactSynchronizeSpec)

/-- ITS FALSE NEIGHBOUR: 'it returns false'. Refute it at one input. -/
def fnExactSynchronizeWrong : ChangeSpec := { name := "fnExactSynchronize", fn := fun _ => fun
  | [d1, d2] => { results := [.lit (.bool false)], args := [d1, d2] }
  | _ => none }
def FnExactSynchronizeWrongFalsely : Prop := fnExactSynchronizeRow.holds Try.pinned (OpenSpec.ofChange fnExactSynchronizeWrong)

/-- 'laws.FnExactPassOff': WHATEVER THE INPUT: true; the input reads as it did. -/
def fnExactPassOffSpec : ChangeSpec := { name := "fnExactPassOff", fn := fun _ => fun
  | [d1, d2, d3] => { results := [.lit (.bool true)], args := [d1, d2, d3] }
  | _ => none }
def fnExactPassOffRow : OpenClaim := { program := "ytkpaglomidgilaa", sum := "c32cabb00ff4d24817197e6f7e99a2640a92938c9d80b80cefee0b4546f19537", func := "loop.example/g00983/laws.FnExactPassOff", spec := "fnExactPassOff", apart := false }
def FnExactPassOffSaid : Prop := fnExactPassOffRow.holds Try.pinned (OpenSpec.ofChange fnExactPassOffSpec)

/-- ITS FALSE NEIGHBOUR: 'it returns false'. Refute it at one input. -/
def fnExactPassOffWrong : ChangeSpec := { name := "fnExactPassOff", fn := fun _ => fun
  | [d1, d2, d3] => { results := [.lit (.bool false)], args := [d1, d2, d3] }
  | _ => none }
def FnExactPassOffWrongFalsely : Prop := fnExactPassOffRow.holds Try.pinned (OpenSpec.ofChange fnExactPassOffWrong)

/-- 'laws.FnExactPassOn': WHATEVER THE INPUT: true; the input reads as it did. -/
def fnExactPassOnSpec : ChangeSpec := { name := "fnExactPassOn", fn := fun _ => fun
  | [d1, d2] => { results := [.lit (.bool true)], args := [d1, d2] }
  | _ => none }
def fnExactPassOnRow : OpenClaim := { program := "ytkpaglomidgilaa", sum := "c32cabb00ff4d24817197e6f7e99a2640a92938c9d80b80cefee0b4546f19537", func := "loop.example/g00983/laws.FnExactPassOn", spec := "fnExactPassOn", apart := false }
def FnExactPassOnSaid : Prop := fnExactPassOnRow.holds Try.pinned (OpenSpec.ofChange fnExactPassOnSpec)

/-- ITS FALSE NEIGHBOUR: 'it returns false'. Refute it at one input. -/
def fnExactPassOnWrong : ChangeSpec := { name := "fnExactPassOn", fn := fun _ => fun
  | [d1, d2] => { results := [.lit (.bool false)], args := [d1, d2] }
  | _ => none }
def FnExactPassOnWrongFalsely : Prop := fnExactPassOnRow.holds Try.pinned (OpenSpec.ofChange fnExactPassOnWrong)

/-- 'laws.FnExactLevelAfter': WHATEVER THE INPUT: true; the input reads as it did. -/
def fnExactLevelAfterSpec : ChangeSpec := { name := "fnExactLevelAfter", fn := fun _ => fun
  | [d1, d2] => { results := [.lit (.bool true)], args := [d1, d2] }
  | _ => none }
def fnExactLevelAfterRow : OpenClaim := { program := "ytkpaglomidgilaa", sum := "c32cabb00ff4d24817197e6f7e99a2640a92938c9d80b80cefee0b4546f19537", func := "loop.example/g00983/laws.FnExactLevelAfter", spec := "fnExactLevelAfter", apart := false }
def FnExactLevelAfterSaid : Prop := fnExactLevelAfterRow.holds Try.pinned (OpenSpec.ofChange fnExactLevelAfterSpec)

/-- ITS FALSE NEIGHBOUR: 'it returns false'. Refute it at one input. -/
def fnExactLevelAfterWrong : ChangeSpec := { name := "fnExactLevelAfter", fn := fun _ => fun
  | [d1, d2] => { results := [.lit (.bool false)], args := [d1, d2] }
  | _ => none }
def FnExactLevelAfterWrongFalsely : Prop := fnExactLevelAfterRow.holds Try.pinned (OpenSpec.ofChange fnExactLevelAfterWrong)

/-- 'laws.FnExactFreshState': WHATEVER THE INPUT: true; the input reads as it did. -/
def fnExactFreshStateSpec : ChangeSpec := { name := "fnExactFreshState", fn := fun _ => fun
  | [d1, d2, d3] => { results := [.lit (.bool true)], args := [d1, d2, d3] }
  | _ => none }
def fnExactFreshStateRow : OpenClaim := { program := "ytkpaglomidgilaa", sum := "c32cabb00ff4d24817197e6f7e99a2640a92938c9d80b80cefee0b4546f19537", func := "loop.example/g00983/laws.FnExactFreshState", spec := "fnExactFreshState", apart := false }
def FnExactFreshStateSaid : Prop := fnExactFreshStateRow.holds Try.pinned (OpenSpec.ofChange fnExactFreshStateSpec)

/-- ITS FALSE NEIGHBOUR: 'it returns false'. Refute it at one input. -/
def fnExactFreshStateWrong : ChangeSpec := { name := "fnExactFreshState", fn := fun _ => fun
  | [d1, d2, d3] => { results := [.lit (.bool false)], args := [d1, d2, d3] }
  | _ => none }
def FnExactFreshStateWrongFalsely : Prop := fnExactFreshStateRow.holds Try.pinned (OpenSpec.ofChange fnExactFreshStateWrong)

/-- 'laws.FnExactFreshFor': WHATEVER THE INPUT: true; the input reads as it did. -/
def fnExactFreshForSpec : ChangeSpec := { name := "fnExactFreshFor", fn := fun _ => fun
  | [d1, d2, d3] => { results := [.lit (.bool true)], args := [d1, d2, d3] }
  | _ => none }
def fnExactFreshForRow : OpenClaim := { program := "ytkpaglomidgilaa", sum := "c32cabb00ff4d24817197e6f7e99a2640a92938c9d80b80cefee0b4546f19537", func := "loop.example/g00983/laws.FnExactFreshFor", spec := "fnExactFreshFor", apart := false }
def FnExactFreshForSaid : Prop := fnExactFreshForRow.holds Try.pinned (OpenSpec.ofChange fnExactFreshForSpec)

/-- ITS FALSE NEIGHBOUR: 'it returns false'. Refute it at one input. -/
def fnExactFreshForWrong : ChangeSpec := { name := "fnExactFreshFor", fn := fun _ => fun
  | [d1, d2, d3] => { results := [.lit (.bool false)], args := [d1, d2, d3] }
  | _ => none }
def FnExactFreshForWrongFalsely : Prop := fnExactFreshForRow.holds Try.pinned (OpenSpec.ofChange fnExactFreshForWrong)

/-- 'laws.FnExactUseFresh': WHATEVER THE INPUT: true; the input reads as it did. -/
def fnExactUseFreshSpec : ChangeSpec := { name := "fnExactUseFresh", fn := fun _ => fun
  | [d1, d2, d3, d4] => { results := [.lit (.bool true)], args := [d1, d2, d3, d4] }
  | _ => none }
def fnExactUseFreshRow : OpenClaim := { program := "ytkpaglomidgilaa", sum := "c32cabb00ff4d24817197e6f7e99a2640a92938c9d80b80cefee0b4546f19537", func := "loop.example/g00983/laws.FnExactUseFresh", spec := "fnExactUseFresh", apart := false }
def FnExactUseFreshSaid : Prop := fnExactUseFreshRow.holds Try.pinned (OpenSpec.ofChange fnExactUseFreshSpec)

/-- ITS FALSE NEIGHBOUR: 'it returns false'. Refute it at one input. -/
def fnExactUseFreshWrong : ChangeSpec := { name := "fnExactUseFresh", fn := fun _ => fun
  | [d1, d2, d3, d4] => { results := [.lit (.bool false)], args := [d1, d2, d3, d4] }
  | _ => none }
def FnExactUseFreshWrongFalsely : Prop := fnExactUseFreshRow.holds Try.pinned (OpenSpec.ofChange fnExactUseFreshWrong)

/-- 'laws.FnExactOffRange': WHATEVER THE INPUT: true; the input reads as it did. -/
def fnExactOffRangeSpec : ChangeSpec := { name := "fnExactOffRange", fn := fun _ => fun
  | [d1, d2, d3] => { results := [.lit (.bool true)], args := [d1, d2, d3] }
  | _ => none }
def fnExactOffRangeRow : OpenClaim := { program := "ytkpaglomidgilaa", sum := "c32cabb00ff4d24817197e6f7e99a2640a92938c9d80b80cefee0b4546f19537", func := "loop.example/g00983/laws.FnExactOffRange", spec := "fnExactOffRange", apart := false }
def FnExactOffRangeSaid : Prop := fnExactOffRangeRow.holds Try.pinned (OpenSpec.ofChange fnExactOffRangeSpec)

/-- ITS FALSE NEIGHBOUR: 'it returns false'. Refute it at one input. -/
def fnExactOffRangeWrong : ChangeSpec := { name := "fnExactOffRange", fn := fun _ => fun
  | [d1, d2, d3] => { results := [.lit (.bool false)], args := [d1, d2, d3] }
  | _ => none }
def FnExactOffRangeWrongFalsely : Prop := fnExactOffRangeRow.holds Try.pinned (OpenSpec.ofChange fnExactOffRangeWrong)

/-- 'laws.FnClocks': WHATEVER THE INPUT: true; the input reads as it did. -/
def fnClocksSpec : ChangeSpec := { name := "fnClocks", fn := fun _ => fun
  | [d] => { results := [.lit (.bool true)], args := [d] }
  | _ => none }
def fnClocksRow : OpenClaim := { program := "ytkpaglomidgilaa", sum := "c32cabb00ff4d24817197e6f7e99a2640a92938c9d80b80cefee0b4546f19537", func := "loop.example/g00983/laws.FnClocks", spec := "fnClocks", apart := false }
def FnClocksSaid : Prop := fnClocksRow.holds Try.pinned (OpenSpec.ofChange fnClocksSpec)

/-- ITS FALSE NEIGHBOUR: 'it returns false'. Refute it at one input. -/
def fnClocksWrong : ChangeSpec := { name := "fnClocks", fn := fun _ => fun
  | [d] => { results := [.lit (.bool false)], args := [d] }
  | _ => none }
def FnClocksWrongFalsely : Prop := fnClocksRow.holds Try.pinned (OpenSpec.ofChange fnClocksWrong)

/-- 'laws.FnFreshness': WHATEVER THE INPUT: true; the input reads as it did. -/
def fnFreshnessSpec : ChangeSpec := { name := "fnFreshness", fn := fun _ => fun
  | [d] => { results := [.lit (.bool true)], args := [d] }
  | _ => none }
def fnFreshnessRow : OpenClaim := { program := "ytkpaglomidgilaa", sum := "c32cabb00ff4d24817197e6f7e99a2640a92938c9d80b80cefee0b4546f19537", func := "loop.example/g00983/laws.FnFreshness", spec := "fnFreshness", apart := false }
def FnFreshnessSaid : Prop := fnFreshnessRow.holds Try.pinned (OpenSpec.ofChange fnFreshnessSpec)

/-- ITS FALSE NEIGHBOUR: 'it returns false'. Refute it at one input. -/
def fnFreshnessWrong : ChangeSpec := { name := "fnFreshness", fn := fun _ => fun
  | [d] => { results := [.lit (.bool false)], args := [d] }
  | _ => none }
def FnFreshnessWrongFalsely : Prop := fnFreshnessRow.holds Try.pinned (OpenSpec.ofChange fnFreshnessWrong)

/-- 'laws.FnOutages': WHATEVER THE INPUT: true; the input reads as it did. -/
def fnOutagesSpec : ChangeSpec := { name := "fnOutages", fn := fun _ => fun
  | [d] => { results := [.lit (.bool true)], args := [d] }
  | _ => none }
def fnOutagesRow : OpenClaim := { program := "ytkpaglomidgilaa", sum := "c32cabb00ff4d24817197e6f7e99a2640a92938c9d80b80cefee0b4546f19537", func := "loop.example/g00983/laws.FnOutages", spec := "fnOutages", apart := false }
def FnOutagesSaid : Prop := fnOutagesRow.holds Try.pinned (OpenSpec.ofChange fnOutagesSpec)

/-- ITS FALSE NEIGHBOUR: 'it returns false'. Refute it at one input. -/
def fnOutagesWrong : ChangeSpec := { name := "fnOutages", fn := fun _ => fun
  | [d] => { results := [.lit (.bool false)], args := [d] }
  | _ => none }
def FnOutagesWrongFalsely : Prop := fnOutagesRow.holds Try.pinned (OpenSpec.ofChange fnOutagesWrong)

/-- 'laws.FnFreshFor': WHATEVER THE INPUT: true; the input reads as it did. -/
def fnFreshForSpec : ChangeSpec := { name := "fnFreshFor", fn := fun _ => fun
  | [d] => { results := [.lit (.bool true)], args := [d] }
  | _ => none }
def fnFreshForRow : OpenClaim := { program := "ytkpaglomidgilaa", sum := "c32cabb00ff4d24817197e6f7e99a2640a92938c9d80b80cefee0b4546f19537", func := "loop.example/g00983/laws.FnFreshFor", spec := "fnFreshFor", apart := false }
def FnFreshForSaid : Prop := fnFreshForRow.holds Try.pinned (OpenSpec.ofChange fnFreshForSpec)

/-- ITS FALSE NEIGHBOUR: 'it returns false'. Refute it at one input. -/
def fnFreshForWrong : ChangeSpec := { name := "fnFreshFor", fn := fun _ => fun
  | [d] => { results := [.lit (.bool false)], args := [d] }
  | _ => none }
def FnFreshForWrongFalsely : Prop := fnFreshForRow.holds Try.pinned (OpenSpec.ofChange fnFreshForWrong)

/- THE SECOND FORM. 'bulk': how many values and letters a reading holds, each counted each time it is reached (what is shared counts as often as it is met; a slice's spare places count too). A statement '..UptoSaid' is the law's where the arguments, and the package variables that the reading takes, are together of bulk at most 1048576: NARROWER than '..Said'. Prove '..Said' where nothing that the law and all that it calls make is longer than what came in: it says more and counts as full. Else prove '..UptoSaid'. A law counts once. -/
mutual
def uptoBulk {H : Type} : DataW H → Nat
  | .lit (.string bytes) => bytes.length + 1
  | .lit _ => 1
  | .nil => 1
  | .ptr d => uptoBulk d + 1
  | .slice elems spare => uptoBulkAll elems + uptoBulkAll spare + 1
  | .agg parts => uptoBulkAll parts + 1
  | .iface _ d => uptoBulk d + 1
  | .map entries => uptoBulkEntries entries + 1
  | .held _ => 1
def uptoBulkAll {H : Type} : List (DataW H) → Nat
  | [] => 0
  | d :: r => uptoBulk d + uptoBulkAll r
def uptoBulkEntries {H : Type} : List (Lit × DataW H) → Nat
  | [] => 0
  | x :: r => uptoBulkEntry x + uptoBulkEntries r
def uptoBulkEntry {H : Type} : Lit × DataW H → Nat
  | (.string bytes, d) => bytes.length + uptoBulk d + 1
  | (_, d) => uptoBulk d + 1
 end
def uptoSmall : (H : Type) → List (DataW H) → Bool := fun _ ds => decide (uptoBulkAll ds ≤ 1048576)
def OpenSpec.upto (s : _root_.Go.ChangeSpec) : _root_.Go.OpenSpec := { _root_.Go.OpenSpec.ofChange s with cond := some uptoSmall }

/-- 'laws.FnExactSpanOk', WHERE WHAT IT READS IS OF BULK AT MOST 1048576: true; the input reads as it did. -/
def fnExactSpanOkUptoRow : OpenClaim := { program := "ytkpaglomidgilaa", sum := "c32cabb00ff4d24817197e6f7e99a2640a92938c9d80b80cefee0b4546f19537", func := "loop.example/g00983/laws.FnExactSpanOk", spec := "fnExactSpanOk", apart := false, narrowed := true }
def FnExactSpanOkUptoSaid : Prop := fnExactSpanOkUptoRow.holds Try.pinned (OpenSpec.upto fnExactSpanOkSpec)

/-- 'laws.FnExactHolds', WHERE WHAT IT READS IS OF BULK AT MOST 1048576: true; the input reads as it did. -/
def fnExactHoldsUptoRow : OpenClaim := { program := "ytkpaglomidgilaa", sum := "c32cabb00ff4d24817197e6f7e99a2640a92938c9d80b80cefee0b4546f19537", func := "loop.example/g00983/laws.FnExactHolds", spec := "fnExactHolds", apart := false, narrowed := true }
def FnExactHoldsUptoSaid : Prop := fnExactHoldsUptoRow.holds Try.pinned (OpenSpec.upto fnExactHoldsSpec)

/-- 'laws.FnExactDecayOk', WHERE WHAT IT READS IS OF BULK AT MOST 1048576: true; the input reads as it did. -/
def fnExactDecayOkUptoRow : OpenClaim := { program := "ytkpaglomidgilaa", sum := "c32cabb00ff4d24817197e6f7e99a2640a92938c9d80b80cefee0b4546f19537", func := "loop.example/g00983/laws.FnExactDecayOk", spec := "fnExactDecayOk", apart := false, narrowed := true }
def FnExactDecayOkUptoSaid : Prop := fnExactDecayOkUptoRow.holds Try.pinned (OpenSpec.upto fnExactDecayOkSpec)

/-- 'laws.FnExactUncertainty', WHERE WHAT IT READS IS OF BULK AT MOST 1048576: true; the input reads as it did. -/
def fnExactUncertaintyUptoRow : OpenClaim := { program := "ytkpaglomidgilaa", sum := "c32cabb00ff4d24817197e6f7e99a2640a92938c9d80b80cefee0b4546f19537", func := "loop.example/g00983/laws.FnExactUncertainty", spec := "fnExactUncertainty", apart := false, narrowed := true }
def FnExactUncertaintyUptoSaid : Prop := fnExactUncertaintyUptoRow.holds Try.pinned (OpenSpec.upto fnExactUncertaintySpec)

/-- 'laws.FnExactSynchronize', WHERE WHAT IT READS IS OF BULK AT MOST 1048576: true; the input reads as it did. -/
def fnExactSynchronizeUptoRow : OpenClaim := { program := "ytkpaglomidgilaa", sum := "c32cabb00ff4d24817197e6f7e99a2640a92938c9d80b80cefee0b4546f19537", func := "loop.example/g00983/laws.FnExactSynchronize", spec := "fnExactSynchronize", apart := false, narrowed := true }
def FnExactSynchronizeUptoSaid : Prop := fnExactSynchronizeUptoRow.holds Try.pinned (OpenSpec.upto fnExactSynchronizeSpec)

/-- 'laws.FnExactPassOff', WHERE WHAT IT READS IS OF BULK AT MOST 1048576: true; the input reads as it did. -/
def fnExactPassOffUptoRow : OpenClaim := { program := "ytkpaglomidgilaa", sum := "c32cabb00ff4d24817197e6f7e99a2640a92938c9d80b80cefee0b4546f19537", func := "loop.example/g00983/laws.FnExactPassOff", spec := "fnExactPassOff", apart := false, narrowed := true }
def FnExactPassOffUptoSaid : Prop := fnExactPassOffUptoRow.holds Try.pinned (OpenSpec.upto fnExactPassOffSpec)

/-- 'laws.FnExactPassOn', WHERE WHAT IT READS IS OF BULK AT MOST 1048576: true; the input reads as it did. -/
def fnExactPassOnUptoRow : OpenClaim := { program := "ytkpaglomidgilaa", sum := "c32cabb00ff4d24817197e6f7e99a2640a92938c9d80b80cefee0b4546f19537", func := "loop.example/g00983/laws.FnExactPassOn", spec := "fnExactPassOn", apart := false, narrowed := true }
def FnExactPassOnUptoSaid : Prop := fnExactPassOnUptoRow.holds Try.pinned (OpenSpec.upto fnExactPassOnSpec)

/-- 'laws.FnExactLevelAfter', WHERE WHAT IT READS IS OF BULK AT MOST 1048576: true; the input reads as it did. -/
def fnExactLevelAfterUptoRow : OpenClaim := { program := "ytkpaglomidgilaa", sum := "c32cabb00ff4d24817197e6f7e99a2640a92938c9d80b80cefee0b4546f19537", func := "loop.example/g00983/laws.FnExactLevelAfter", spec := "fnExactLevelAfter", apart := false, narrowed := true }
def FnExactLevelAfterUptoSaid : Prop := fnExactLevelAfterUptoRow.holds Try.pinned (OpenSpec.upto fnExactLevelAfterSpec)

/-- 'laws.FnExactFreshState', WHERE WHAT IT READS IS OF BULK AT MOST 1048576: true; the input reads as it did. -/
def fnExactFreshStateUptoRow : OpenClaim := { program := "ytkpaglomidgilaa", sum := "c32cabb00ff4d24817197e6f7e99a2640a92938c9d80b80cefee0b4546f19537", func := "loop.example/g00983/laws.FnExactFreshState", spec := "fnExactFreshState", apart := false, narrowed := true }
def FnExactFreshStateUptoSaid : Prop := fnExactFreshStateUptoRow.holds Try.pinned (OpenSpec.upto fnExactFreshStateSpec)

/-- 'laws.FnExactFreshFor', WHERE WHAT IT READS IS OF BULK AT MOST 1048576: true; the input reads as it did. -/
def fnExactFreshForUptoRow : OpenClaim := { program := "ytkpaglomidgilaa", sum := "c32cabb00ff4d24817197e6f7e99a2640a92938c9d80b80cefee0b4546f19537", func := "loop.example/g00983/laws.FnExactFreshFor", spec := "fnExactFreshFor", apart := false, narrowed := true }
def FnExactFreshForUptoSaid : Prop := fnExactFreshForUptoRow.holds Try.pinned (OpenSpec.upto fnExactFreshForSpec)

/-- 'laws.FnExactUseFresh', WHERE WHAT IT READS IS OF BULK AT MOST 1048576: true; the input reads as it did. -/
def fnExactUseFreshUptoRow : OpenClaim := { program := "ytkpaglomidgilaa", sum := "c32cabb00ff4d24817197e6f7e99a2640a92938c9d80b80cefee0b4546f19537", func := "loop.example/g00983/laws.FnExactUseFresh", spec := "fnExactUseFresh", apart := false, narrowed := true }
def FnExactUseFreshUptoSaid : Prop := fnExactUseFreshUptoRow.holds Try.pinned (OpenSpec.upto fnExactUseFreshSpec)

/-- 'laws.FnExactOffRange', WHERE WHAT IT READS IS OF BULK AT MOST 1048576: true; the input reads as it did. -/
def fnExactOffRangeUptoRow : OpenClaim := { program := "ytkpaglomidgilaa", sum := "c32cabb00ff4d24817197e6f7e99a2640a92938c9d80b80cefee0b4546f19537", func := "loop.example/g00983/laws.FnExactOffRange", spec := "fnExactOffRange", apart := false, narrowed := true }
def FnExactOffRangeUptoSaid : Prop := fnExactOffRangeUptoRow.holds Try.pinned (OpenSpec.upto fnExactOffRangeSpec)

/-- 'laws.FnClocks', WHERE WHAT IT READS IS OF BULK AT MOST 1048576: true; the input reads as it did. -/
def fnClocksUptoRow : OpenClaim := { program := "ytkpaglomidgilaa", sum := "c32cabb00ff4d24817197e6f7e99a2640a92938c9d80b80cefee0b4546f19537", func := "loop.example/g00983/laws.FnClocks", spec := "fnClocks", apart := false, narrowed := true }
def FnClocksUptoSaid : Prop := fnClocksUptoRow.holds Try.pinned (OpenSpec.upto fnClocksSpec)

/-- 'laws.FnFreshness', WHERE WHAT IT READS IS OF BULK AT MOST 1048576: true; the input reads as it did. -/
def fnFreshnessUptoRow : OpenClaim := { program := "ytkpaglomidgilaa", sum := "c32cabb00ff4d24817197e6f7e99a2640a92938c9d80b80cefee0b4546f19537", func := "loop.example/g00983/laws.FnFreshness", spec := "fnFreshness", apart := false, narrowed := true }
def FnFreshnessUptoSaid : Prop := fnFreshnessUptoRow.holds Try.pinned (OpenSpec.upto fnFreshnessSpec)

/-- 'laws.FnOutages', WHERE WHAT IT READS IS OF BULK AT MOST 1048576: true; the input reads as it did. -/
def fnOutagesUptoRow : OpenClaim := { program := "ytkpaglomidgilaa", sum := "c32cabb00ff4d24817197e6f7e99a2640a92938c9d80b80cefee0b4546f19537", func := "loop.example/g00983/laws.FnOutages", spec := "fnOutages", apart := false, narrowed := true }
def FnOutagesUptoSaid : Prop := fnOutagesUptoRow.holds Try.pinned (OpenSpec.upto fnOutagesSpec)

/-- 'laws.FnFreshFor', WHERE WHAT IT READS IS OF BULK AT MOST 1048576: true; the input reads as it did. -/
def fnFreshForUptoRow : OpenClaim := { program := "ytkpaglomidgilaa", sum := "c32cabb00ff4d24817197e6f7e99a2640a92938c9d80b80cefee0b4546f19537", func := "loop.example/g00983/laws.FnFreshFor", spec := "fnFreshFor", apart := false, narrowed := true }
def FnFreshForUptoSaid : Prop := fnFreshForUptoRow.holds Try.pinned (OpenSpec.upto fnFreshForSpec)

end Rows
end Go.Proofs.Ytkpaglomidgilaa
