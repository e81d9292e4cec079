/-
  No cell of these rows narrows 'for every input' (looked for: loops, veiled, ifaces, maps, wideKeys, modest, calm, conditions, laid).
  DERIVED. THE GIVEN ROWS OF THIS SEAT. 9 by the template 'for every input the law returns true; each argument reads behind the call as it read before'; 0 by the template 'total and deterministic' (their statements: YtboidohbhoehgaaTotals.lean).
  GIVEN WITH THE SEED: the statements are not yours to turn. If you find one false, say at which input.
  Laid BY PROGRAM, IN A SANDBOX (cutbox-rows.mjs): the forced cells as the released guide's own fill.sh prints them over the translation c93897db0a8a212d… (all of the seat's roots in one cut). By AI agents, Wed Nov 11 2026. No macro, syntax, notation, axiom, sorry.
-/
import Derived.Test.YtboidohbhoehgaaChecked
import GoSem.Claim
import GoSem.ClaimJoined
import GoSem.ClaimMapViews
import Derived.JoinedTies
import Derived.KernelRfl
namespace Go.Proofs.Ytboidohbhoehgaa
/- THE CELL 'sum', in the pinned program and in every row, IS THE sha256 OF THE DUMP (.gsa) THAT YtboidohbhoehgaaProg.lean LOADS. Nothing in Lean hashes anything: it is a label: what it is worth is what the hold of that sum in a sandbox is worth. -/
noncomputable def Try.pinned : Pinned := { name := "ytboidohbhoehgaa", sum := "c93897db0a8a212d2fe1084aa394ce4c45ca27b5e833228e30410183137825dc", checked := Try.checked }
namespace Rows
def none {H : Type} : Left H := { results := [], args := [] }

/-- 'laws.FnTornSaves': WHATEVER THE INPUT: true; the input reads as it did. -/
def fnTornSavesSpec : ChangeSpec := { name := "fnTornSaves", fn := fun _ => fun
  | [d] => { results := [.lit (.bool true)], args := [d] }
  | _ => none }
def fnTornSavesRow : OpenClaim := { program := "ytboidohbhoehgaa", sum := "c93897db0a8a212d2fe1084aa394ce4c45ca27b5e833228e30410183137825dc", func := "loop.example/g00983/laws.FnTornSaves", spec := "fnTornSaves", apart := false }
def FnTornSavesSaid : Prop := fnTornSavesRow.holds Try.pinned (OpenSpec.ofChange fnTornSavesSpec)

/-- ITS FALSE NEIGHBOUR: 'it returns false'. Refute it at one input. -/
def fnTornSavesWrong : ChangeSpec := { name := "fnTornSaves", fn := fun _ => fun
  | [d] => { results := [.lit (.bool false)], args := [d] }
  | _ => none }
def FnTornSavesWrongFalsely : Prop := fnTornSavesRow.holds Try.pinned (OpenSpec.ofChange fnTornSavesWrong)

/-- 'laws.FnExactNewest': WHATEVER THE INPUT: true; the input reads as it did. -/
def fnExactNewestSpec : ChangeSpec := { name := "fnExactNewest", fn := fun _ => fun
  | [d] => { results := [.lit (.bool true)], args := [d] }
  | _ => none }
def fnExactNewestRow : OpenClaim := { program := "ytboidohbhoehgaa", sum := "c93897db0a8a212d2fe1084aa394ce4c45ca27b5e833228e30410183137825dc", func := "loop.example/g00983/laws.FnExactNewest", spec := "fnExactNewest", apart := false }
def FnExactNewestSaid : Prop := fnExactNewestRow.holds Try.pinned (OpenSpec.ofChange fnExactNewestSpec)

/-- ITS FALSE NEIGHBOUR: 'it returns false'. Refute it at one input. -/
def fnExactNewestWrong : ChangeSpec := { name := "fnExactNewest", fn := fun _ => fun
  | [d] => { results := [.lit (.bool false)], args := [d] }
  | _ => none }
def FnExactNewestWrongFalsely : Prop := fnExactNewestRow.holds Try.pinned (OpenSpec.ofChange fnExactNewestWrong)

/-- 'laws.FnExactSaveWrites': WHATEVER THE INPUT: true; the input reads as it did. -/
def fnExactSaveWritesSpec : ChangeSpec := { name := "fnExactSaveWrites", fn := fun _ => fun
  | [d1, d2] => { results := [.lit (.bool true)], args := [d1, d2] }
  | _ => none }
def fnExactSaveWritesRow : OpenClaim := { program := "ytboidohbhoehgaa", sum := "c93897db0a8a212d2fe1084aa394ce4c45ca27b5e833228e30410183137825dc", func := "loop.example/g00983/laws.FnExactSaveWrites", spec := "fnExactSaveWrites", apart := false }
def FnExactSaveWritesSaid : Prop := fnExactSaveWritesRow.holds Try.pinned (OpenSpec.ofChange fnExactSaveWritesSpec)

/-- ITS FALSE NEIGHBOUR: 'it returns false'. Refute it at one input. -/
def fnExactSaveWritesWrong : ChangeSpec := { name := "fnExactSaveWrites", fn := fun _ => fun
  | [d1, d2] => { results := [.lit (.bool false)], args := [d1, d2] }
  | _ => none }
def FnExactSaveWritesWrongFalsely : Prop := fnExactSaveWritesRow.holds Try.pinned (OpenSpec.ofChange fnExactSaveWritesWrong)

/-- 'laws.FnExactStepCode': WHATEVER THE INPUT: true; the input reads as it did. -/
def fnExactStepCodeSpec : ChangeSpec := { name := "fnExactStepCode", fn := fun _ => fun
  | [d1, d2] => { results := [.lit (.bool true)], args := [d1, d2] }
  | _ => none }
def fnExactStepCodeRow : OpenClaim := { program := "ytboidohbhoehgaa", sum := "c93897db0a8a212d2fe1084aa394ce4c45ca27b5e833228e30410183137825dc", func := "loop.example/g00983/laws.FnExactStepCode", spec := "fnExactStepCode", unfollowed := true, recurses := true, apart := false }
def FnExactStepCodeSaid : Prop := fnExactStepCodeRow.holds Try.pinned (OpenSpec.ofChange fnExactStepCodeSpec)

/-- ITS FALSE NEIGHBOUR: 'it returns false'. Refute it at one input. -/
def fnExactStepCodeWrong : ChangeSpec := { name := "fnExactStepCode", fn := fun _ => fun
  | [d1, d2] => { results := [.lit (.bool false)], args := [d1, d2] }
  | _ => none }
def FnExactStepCodeWrongFalsely : Prop := fnExactStepCodeRow.holds Try.pinned (OpenSpec.ofChange fnExactStepCodeWrong)

/-- 'laws.FnExactStateAfter': WHATEVER THE INPUT: true; the input reads as it did. -/
def fnExactStateAfterSpec : ChangeSpec := { name := "fnExactStateAfter", fn := fun _ => fun
  | [d1, d2] => { results := [.lit (.bool true)], args := [d1, d2] }
  | _ => none }
def fnExactStateAfterRow : OpenClaim := { program := "ytboidohbhoehgaa", sum := "c93897db0a8a212d2fe1084aa394ce4c45ca27b5e833228e30410183137825dc", func := "loop.example/g00983/laws.FnExactStateAfter", spec := "fnExactStateAfter", unfollowed := true, recurses := true, apart := false }
def FnExactStateAfterSaid : Prop := fnExactStateAfterRow.holds Try.pinned (OpenSpec.ofChange fnExactStateAfterSpec)

/-- ITS FALSE NEIGHBOUR: 'it returns false'. Refute it at one input. -/
def fnExactStateAfterWrong : ChangeSpec := { name := "fnExactStateAfter", fn := fun _ => fun
  | [d1, d2] => { results := [.lit (.bool false)], args := [d1, d2] }
  | _ => none }
def FnExactStateAfterWrongFalsely : Prop := fnExactStateAfterRow.holds Try.pinned (OpenSpec.ofChange fnExactStateAfterWrong)

/-- 'laws.FnJitWhole': WHATEVER THE INPUT: true; the input reads as it did. -/
def fnJitWholeSpec : ChangeSpec := { name := "fnJitWhole", fn := fun _ => fun
  | [d] => { results := [.lit (.bool true)], args := [d] }
  | _ => none }
def fnJitWholeRow : OpenClaim := { program := "ytboidohbhoehgaa", sum := "c93897db0a8a212d2fe1084aa394ce4c45ca27b5e833228e30410183137825dc", func := "loop.example/g00983/laws.FnJitWhole", spec := "fnJitWhole", unfollowed := true, recurses := true, apart := false }
def FnJitWholeSaid : Prop := fnJitWholeRow.holds Try.pinned (OpenSpec.ofChange fnJitWholeSpec)

/-- ITS FALSE NEIGHBOUR: 'it returns false'. Refute it at one input. -/
def fnJitWholeWrong : ChangeSpec := { name := "fnJitWhole", fn := fun _ => fun
  | [d] => { results := [.lit (.bool false)], args := [d] }
  | _ => none }
def FnJitWholeWrongFalsely : Prop := fnJitWholeRow.holds Try.pinned (OpenSpec.ofChange fnJitWholeWrong)

/-- 'laws.FnJit': WHATEVER THE INPUT: true; the input reads as it did. -/
def fnJitSpec : ChangeSpec := { name := "fnJit", fn := fun _ => fun
  | [d] => { results := [.lit (.bool true)], args := [d] }
  | _ => none }
def fnJitRow : OpenClaim := { program := "ytboidohbhoehgaa", sum := "c93897db0a8a212d2fe1084aa394ce4c45ca27b5e833228e30410183137825dc", func := "loop.example/g00983/laws.FnJit", spec := "fnJit", unfollowed := true, recurses := true, apart := false }
def FnJitSaid : Prop := fnJitRow.holds Try.pinned (OpenSpec.ofChange fnJitSpec)

/-- ITS FALSE NEIGHBOUR: 'it returns false'. Refute it at one input. -/
def fnJitWrong : ChangeSpec := { name := "fnJit", fn := fun _ => fun
  | [d] => { results := [.lit (.bool false)], args := [d] }
  | _ => none }
def FnJitWrongFalsely : Prop := fnJitRow.holds Try.pinned (OpenSpec.ofChange fnJitWrong)

/-- 'laws.FnExactSaveSome': WHATEVER THE INPUT: true; the input reads as it did. -/
def fnExactSaveSomeSpec : ChangeSpec := { name := "fnExactSaveSome", fn := fun _ => fun
  | [d1, d2, d3] => { results := [.lit (.bool true)], args := [d1, d2, d3] }
  | _ => none }
def fnExactSaveSomeRow : OpenClaim := { program := "ytboidohbhoehgaa", sum := "c93897db0a8a212d2fe1084aa394ce4c45ca27b5e833228e30410183137825dc", func := "loop.example/g00983/laws.FnExactSaveSome", spec := "fnExactSaveSome", apart := false }
def FnExactSaveSomeSaid : Prop := fnExactSaveSomeRow.holds Try.pinned (OpenSpec.ofChange fnExactSaveSomeSpec)

/-- ITS FALSE NEIGHBOUR: 'it returns false'. Refute it at one input. -/
def fnExactSaveSomeWrong : ChangeSpec := { name := "fnExactSaveSome", fn := fun _ => fun
  | [d1, d2, d3] => { results := [.lit (.bool false)], args := [d1, d2, d3] }
  | _ => none }
def FnExactSaveSomeWrongFalsely : Prop := fnExactSaveSomeRow.holds Try.pinned (OpenSpec.ofChange fnExactSaveSomeWrong)

/-- 'laws.FnExactJitRun': WHATEVER THE INPUT: true; the input reads as it did. -/
def fnExactJitRunSpec : ChangeSpec := { name := "fnExactJitRun", fn := fun _ => fun
  | [d1, d2] => { results := [.lit (.bool true)], args := [d1, d2] }
  | _ => none }
def fnExactJitRunRow : OpenClaim := { program := "ytboidohbhoehgaa", sum := "c93897db0a8a212d2fe1084aa394ce4c45ca27b5e833228e30410183137825dc", func := "loop.example/g00983/laws.FnExactJitRun", spec := "fnExactJitRun", unfollowed := true, recurses := true, apart := false }
def FnExactJitRunSaid : Prop := fnExactJitRunRow.holds Try.pinned (OpenSpec.ofChange fnExactJitRunSpec)

/-- ITS FALSE NEIGHBOUR: 'it returns false'. Refute it at one input. -/
def fnExactJitRunWrong : ChangeSpec := { name := "fnExactJitRun", fn := fun _ => fun
  | [d1, d2] => { results := [.lit (.bool false)], args := [d1, d2] }
  | _ => none }
def FnExactJitRunWrongFalsely : Prop := fnExactJitRunRow.holds Try.pinned (OpenSpec.ofChange fnExactJitRunWrong)

/- THE SECOND FORM. 'bulk': how many values and letters a reading holds, each counted each time it is reached (what is shared counts as often as it is met; a slice's spare places count too). A statement '..UptoSaid' is the law's where the arguments, and the package variables that the reading takes, are together of bulk at most 1048576: NARROWER than '..Said'. Prove '..Said' where nothing that the law and all that it calls make is longer than what came in: it says more and counts as full. Else prove '..UptoSaid'. A law counts once. -/
mutual
def uptoBulk {H : Type} : DataW H → Nat
  | .lit (.string bytes) => bytes.length + 1
  | .lit _ => 1
  | .nil => 1
  | .ptr d => uptoBulk d + 1
  | .slice elems spare => uptoBulkAll elems + uptoBulkAll spare + 1
  | .agg parts => uptoBulkAll parts + 1
  | .iface _ d => uptoBulk d + 1
  | .map entries => uptoBulkEntries entries + 1
  | .held _ => 1
def uptoBulkAll {H : Type} : List (DataW H) → Nat
  | [] => 0
  | d :: r => uptoBulk d + uptoBulkAll r
def uptoBulkEntries {H : Type} : List (Lit × DataW H) → Nat
  | [] => 0
  | x :: r => uptoBulkEntry x + uptoBulkEntries r
def uptoBulkEntry {H : Type} : Lit × DataW H → Nat
  | (.string bytes, d) => bytes.length + uptoBulk d + 1
  | (_, d) => uptoBulk d + 1
 end
def uptoSmall : (H : Type) → List (DataW H) → Bool := fun _ ds => decide (uptoBulkAll ds ≤ 1048576)
def OpenSpec.upto (s : _root_.Go.ChangeSpec) : _root_.Go.OpenSpec := { _root_.Go.OpenSpec.ofChange s with cond := some uptoSmall }

/-- 'laws.FnTornSaves', WHERE WHAT IT READS IS OF BULK AT MOST 1048576: true; the input reads as it did. -/
def fnTornSavesUptoRow : OpenClaim := { program := "ytboidohbhoehgaa", sum := "c93897db0a8a212d2fe1084aa394ce4c45ca27b5e833228e30410183137825dc", func := "loop.example/g00983/laws.FnTornSaves", spec := "fnTornSaves", apart := false, narrowed := true }
def FnTornSavesUptoSaid : Prop := fnTornSavesUptoRow.holds Try.pinned (OpenSpec.upto fnTornSavesSpec)

/-- 'laws.FnExactNewest', WHERE WHAT IT READS IS OF BULK AT MOST 1048576: true; the input reads as it did. -/
def fnExactNewestUptoRow : OpenClaim := { program := "ytboidohbhoehgaa", sum := "c93897db0a8a212d2fe1084aa394ce4c45ca27b5e833228e30410183137825dc", func := "loop.example/g00983/laws.FnExactNewest", spec := "fnExactNewest", apart := false, narrowed := true }
def FnExactNewestUptoSaid : Prop := fnExactNewestUptoRow.holds Try.pinned (OpenSpec.upto fnExactNewestSpec)

/-- 'laws.FnExactSaveWrites', WHERE WHAT IT READS IS OF BULK AT MOST 1048576: true; the input reads as it did. -/
def fnExactSaveWritesUptoRow : OpenClaim := { program := "ytboidohbhoehgaa", sum := "c93897db0a8a212d2fe1084aa394ce4c45ca27b5e833228e30410183137825dc", func := "loop.example/g00983/laws.FnExactSaveWrites", spec := "fnExactSaveWrites", apart := false, narrowed := true }
def FnExactSaveWritesUptoSaid : Prop := fnExactSaveWritesUptoRow.holds Try.pinned (OpenSpec.upto fnExactSaveWritesSpec)

/-- 'laws.FnExactStepCode', WHERE WHAT IT READS IS OF BULK AT MOST 1048576: true; the input reads as it did. -/
def fnExactStepCodeUptoRow : OpenClaim := { program := "ytboidohbhoehgaa", sum := "c93897db0a8a212d2fe1084aa394ce4c45ca27b5e833228e30410183137825dc", func := "loop.example/g00983/laws.FnExactStepCode", spec := "fnExactStepCode", unfollowed := true, recurses := true, apart := false, narrowed := true }
def FnExactStepCodeUptoSaid : Prop := fnExactStepCodeUptoRow.holds Try.pinned (OpenSpec.upto fnExactStepCodeSpec)

/-- 'laws.FnExactStateAfter', WHERE WHAT IT READS IS OF BULK AT MOST 1048576: true; the input reads as it did. -/
def fnExactStateAfterUptoRow : OpenClaim := { program := "ytboidohbhoehgaa", sum := "c93897db0a8a212d2fe1084aa394ce4c45ca27b5e833228e30410183137825dc", func := "loop.example/g00983/laws.FnExactStateAfter", spec := "fnExactStateAfter", unfollowed := true, recurses := true, apart := false, narrowed := true }
def FnExactStateAfterUptoSaid : Prop := fnExactStateAfterUptoRow.holds Try.pinned (OpenSpec.upto fnExactStateAfterSpec)

/-- 'laws.FnJitWhole', WHERE WHAT IT READS IS OF BULK AT MOST 1048576: true; the input reads as it did. -/
def fnJitWholeUptoRow : OpenClaim := { program := "ytboidohbhoehgaa", sum := "c93897db0a8a212d2fe1084aa394ce4c45ca27b5e833228e30410183137825dc", func := "loop.example/g00983/laws.FnJitWhole", spec := "fnJitWhole", unfollowed := true, recurses := true, apart := false, narrowed := true }
def FnJitWholeUptoSaid : Prop := fnJitWholeUptoRow.holds Try.pinned (OpenSpec.upto fnJitWholeSpec)

/-- 'laws.FnJit', WHERE WHAT IT READS IS OF BULK AT MOST 1048576: true; the input reads as it did. -/
def fnJitUptoRow : OpenClaim := { program := "ytboidohbhoehgaa", sum := "c93897db0a8a212d2fe1084aa394ce4c45ca27b5e833228e30410183137825dc", func := "loop.example/g00983/laws.FnJit", spec := "fnJit", unfollowed := true, recurses := true, apart := false, narrowed := true }
def FnJitUptoSaid : Prop := fnJitUptoRow.holds Try.pinned (OpenSpec.upto fnJitSpec)

/-- 'laws.FnExactSaveSome', WHERE WHAT IT READS IS OF BULK AT MOST 1048576: true; the input reads as it did. -/
def fnExactSaveSomeUptoRow : OpenClaim := { program := "ytboidohbhoehgaa", sum := "c93897db0a8a212d2fe1084aa394ce4c45ca27b5e833228e30410183137825dc", func := "loop.example/g00983/laws.FnExactSaveSome", spec := "fnExactSaveSome", apart := false, narrowed := true }
def FnExactSaveSomeUptoSaid : Prop := fnExactSaveSomeUptoRow.holds Try.pinned (OpenSpec.upto fnExactSaveSomeSpec)

/-- 'laws.FnExactJitRun', WHERE WHAT IT READS IS OF BULK AT MOST 1048576: true; the input reads as it did. -/
def fnExactJitRunUptoRow : OpenClaim := { program := "ytboidohbhoehgaa", sum := "c93897db0a8a212d2fe1084aa394ce4c45ca27b5e833228e30410183137825dc", func := "loop.example/g00983/laws.FnExactJitRun", spec := "fnExactJitRun", unfollowed := true, recurses := true, apart := false, narrowed := true }
def FnExactJitRunUptoSaid : Prop := fnExactJitRunUptoRow.holds Try.pinned (OpenSpec.upto fnExactJitRunSpec)

end Rows
end Go.Proofs.Ytboidohbhoehgaa
