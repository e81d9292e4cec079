/-
  No cell of these rows narrows 'for every input' (looked for: loops, veiled, ifaces, maps, wideKeys, modest, calm, conditions, laid).
  DERIVED. THE GIVEN ROWS OF THIS SEAT. 14 by the template 'for every input the law returns true; each argument reads behind the call as it read before'; 0 by the template 'total and deterministic' (their statements: YtfbndpgbebbljaaTotals.lean).
  GIVEN WITH THE SEED: the statements are not yours to turn. If you find one false, say at which input.
  Laid BY PROGRAM, IN A SANDBOX (cutbox-rows.mjs): the forced cells as the released guide's own fill.sh prints them over the translation 3f89764482d04a26… (all of the seat's roots in one cut). By AI agents, Wed Nov 11 2026. No macro, syntax, notation, axiom, sorry.
-/
import Derived.Test.YtfbndpgbebbljaaChecked
import GoSem.Claim
import GoSem.ClaimJoined
import GoSem.ClaimMapViews
import Derived.JoinedTies
import Derived.KernelRfl
namespace Go.Proofs.Ytfbndpgbebbljaa
/- THE CELL 'sum', in the pinned program and in every row, IS THE sha256 OF THE DUMP (.gsa) THAT YtfbndpgbebbljaaProg.lean LOADS. Nothing in Lean hashes anything: it is a label: what it is worth is what the hold of that sum in a sandbox is worth. -/
noncomputable def Try.pinned : Pinned := { name := "ytfbndpgbebbljaa", sum := "3f89764482d04a2654aea2f55325d3058a4d63dcdf9b3f2b398ed0b97f77971b", checked := Try.checked }
namespace Rows
def none {H : Type} : Left H := { results := [], args := [] }

/-- 'laws.FnExactIsPrefixOf': WHATEVER THE INPUT: true; the input reads as it did. -/
def fnExactIsPrefixOfSpec : ChangeSpec := { name := "fnExactIsPrefixOf", fn := fun _ => fun
  | [d1, d2] => { results := [.lit (.bool true)], args := [d1, d2] }
  | _ => none }
def fnExactIsPrefixOfRow : OpenClaim := { program := "ytfbndpgbebbljaa", sum := "3f89764482d04a2654aea2f55325d3058a4d63dcdf9b3f2b398ed0b97f77971b", func := "loop.example/g00983/laws.FnExactIsPrefixOf", spec := "fnExactIsPrefixOf", apart := false }
def FnExactIsPrefixOfSaid : Prop := fnExactIsPrefixOfRow.holds Try.pinned (OpenSpec.ofChange fnExactIsPrefixOfSpec)

/-- ITS FALSE NEIGHBOUR: 'it returns false'. Refute it at one input. -/
def fnExactIsPrefixOfWrong : ChangeSpec := { name := "fnExactIsPrefixOf", fn := fun _ => fun
  | [d1, d2] => { results := [.lit (.bool false)], args := [d1, d2] }
  | _ => none }
def FnExactIsPrefixOfWrongFalsely : Prop := fnExactIsPrefixOfRow.holds Try.pinned (OpenSpec.ofChange fnExactIsPrefixOfWrong)

/-- 'laws.FnExactSumOf': WHATEVER THE INPUT: true; the input reads as it did. -/
def fnExactSumOfSpec : ChangeSpec := { name := "fnExactSumOf", fn := fun _ => fun
  | [d1, d2] => { results := [.lit (.bool true)], args := [d1, d2] }
  | _ => none }
def fnExactSumOfRow : OpenClaim := { program := "ytfbndpgbebbljaa", sum := "3f89764482d04a2654aea2f55325d3058a4d63dcdf9b3f2b398ed0b97f77971b", func := "loop.example/g00983/laws.FnExactSumOf", spec := "fnExactSumOf", apart := false }
def FnExactSumOfSaid : Prop := fnExactSumOfRow.holds Try.pinned (OpenSpec.ofChange fnExactSumOfSpec)

/-- ITS FALSE NEIGHBOUR: 'it returns false'. Refute it at one input. -/
def fnExactSumOfWrong : ChangeSpec := { name := "fnExactSumOf", fn := fun _ => fun
  | [d1, d2] => { results := [.lit (.bool false)], args := [d1, d2] }
  | _ => none }
def FnExactSumOfWrongFalsely : Prop := fnExactSumOfRow.holds Try.pinned (OpenSpec.ofChange fnExactSumOfWrong)

/-- 'laws.FnExactSendCost': WHATEVER THE INPUT: true; the input reads as it did. -/
def fnExactSendCostSpec : ChangeSpec := { name := "fnExactSendCost", fn := fun _ => fun
  | [d] => { results := [.lit (.bool true)], args := [d] }
  | _ => none }
def fnExactSendCostRow : OpenClaim := { program := "ytfbndpgbebbljaa", sum := "3f89764482d04a2654aea2f55325d3058a4d63dcdf9b3f2b398ed0b97f77971b", func := "loop.example/g00983/laws.FnExactSendCost", spec := "fnExactSendCost", apart := false }
def FnExactSendCostSaid : Prop := fnExactSendCostRow.holds Try.pinned (OpenSpec.ofChange fnExactSendCostSpec)

/-- ITS FALSE NEIGHBOUR: 'it returns false'. Refute it at one input. -/
def fnExactSendCostWrong : ChangeSpec := { name := "fnExactSendCost", fn := fun _ => fun
  | [d] => { results := [.lit (.bool false)], args := [d] }
  | _ => none }
def FnExactSendCostWrongFalsely : Prop := fnExactSendCostRow.holds Try.pinned (OpenSpec.ofChange fnExactSendCostWrong)

/-- 'laws.FnExactPacketBits': WHATEVER THE INPUT: true; the input reads as it did. -/
def fnExactPacketBitsSpec : ChangeSpec := { name := "fnExactPacketBits", fn := fun _ => fun
  | [d] => { results := [.lit (.bool true)], args := [d] }
  | _ => none }
def fnExactPacketBitsRow : OpenClaim := { program := "ytfbndpgbebbljaa", sum := "3f89764482d04a2654aea2f55325d3058a4d63dcdf9b3f2b398ed0b97f77971b", func := "loop.example/g00983/laws.FnExactPacketBits", spec := "fnExactPacketBits", apart := false }
def FnExactPacketBitsSaid : Prop := fnExactPacketBitsRow.holds Try.pinned (OpenSpec.ofChange fnExactPacketBitsSpec)

/-- ITS FALSE NEIGHBOUR: 'it returns false'. Refute it at one input. -/
def fnExactPacketBitsWrong : ChangeSpec := { name := "fnExactPacketBits", fn := fun _ => fun
  | [d] => { results := [.lit (.bool false)], args := [d] }
  | _ => none }
def FnExactPacketBitsWrongFalsely : Prop := fnExactPacketBitsRow.holds Try.pinned (OpenSpec.ofChange fnExactPacketBitsWrong)

/-- 'laws.FnExactCodeOk': WHATEVER THE INPUT: true; the input reads as it did. -/
def fnExactCodeOkSpec : ChangeSpec := { name := "fnExactCodeOk", fn := fun _ => fun
  | [d] => { results := [.lit (.bool true)], args := [d] }
  | _ => none }
def fnExactCodeOkRow : OpenClaim := { program := "ytfbndpgbebbljaa", sum := "3f89764482d04a2654aea2f55325d3058a4d63dcdf9b3f2b398ed0b97f77971b", func := "loop.example/g00983/laws.FnExactCodeOk", spec := "fnExactCodeOk", apart := false }
def FnExactCodeOkSaid : Prop := fnExactCodeOkRow.holds Try.pinned (OpenSpec.ofChange fnExactCodeOkSpec)

/-- ITS FALSE NEIGHBOUR: 'it returns false'. Refute it at one input. -/
def fnExactCodeOkWrong : ChangeSpec := { name := "fnExactCodeOk", fn := fun _ => fun
  | [d] => { results := [.lit (.bool false)], args := [d] }
  | _ => none }
def FnExactCodeOkWrongFalsely : Prop := fnExactCodeOkRow.holds Try.pinned (OpenSpec.ofChange fnExactCodeOkWrong)

/-- 'laws.FnExactNewestOf': WHATEVER THE INPUT: true; the input reads as it did. -/
def fnExactNewestOfSpec : ChangeSpec := { name := "fnExactNewestOf", fn := fun _ => fun
  | [d] => { results := [.lit (.bool true)], args := [d] }
  | _ => none }
def fnExactNewestOfRow : OpenClaim := { program := "ytfbndpgbebbljaa", sum := "3f89764482d04a2654aea2f55325d3058a4d63dcdf9b3f2b398ed0b97f77971b", func := "loop.example/g00983/laws.FnExactNewestOf", spec := "fnExactNewestOf", apart := false }
def FnExactNewestOfSaid : Prop := fnExactNewestOfRow.holds Try.pinned (OpenSpec.ofChange fnExactNewestOfSpec)

/-- ITS FALSE NEIGHBOUR: 'it returns false'. Refute it at one input. -/
def fnExactNewestOfWrong : ChangeSpec := { name := "fnExactNewestOf", fn := fun _ => fun
  | [d] => { results := [.lit (.bool false)], args := [d] }
  | _ => none }
def FnExactNewestOfWrongFalsely : Prop := fnExactNewestOfRow.holds Try.pinned (OpenSpec.ofChange fnExactNewestOfWrong)

/-- 'laws.FnBitErrors': WHATEVER THE INPUT: true; the input reads as it did. -/
def fnBitErrorsSpec : ChangeSpec := { name := "fnBitErrors", fn := fun _ => fun
  | [d] => { results := [.lit (.bool true)], args := [d] }
  | _ => none }
def fnBitErrorsRow : OpenClaim := { program := "ytfbndpgbebbljaa", sum := "3f89764482d04a2654aea2f55325d3058a4d63dcdf9b3f2b398ed0b97f77971b", func := "loop.example/g00983/laws.FnBitErrors", spec := "fnBitErrors", apart := false }
def FnBitErrorsSaid : Prop := fnBitErrorsRow.holds Try.pinned (OpenSpec.ofChange fnBitErrorsSpec)

/-- ITS FALSE NEIGHBOUR: 'it returns false'. Refute it at one input. -/
def fnBitErrorsWrong : ChangeSpec := { name := "fnBitErrors", fn := fun _ => fun
  | [d] => { results := [.lit (.bool false)], args := [d] }
  | _ => none }
def FnBitErrorsWrongFalsely : Prop := fnBitErrorsRow.holds Try.pinned (OpenSpec.ofChange fnBitErrorsWrong)

/-- 'laws.FnExactSlotOk': WHATEVER THE INPUT: true; the input reads as it did. -/
def fnExactSlotOkSpec : ChangeSpec := { name := "fnExactSlotOk", fn := fun _ => fun
  | [d] => { results := [.lit (.bool true)], args := [d] }
  | _ => none }
def fnExactSlotOkRow : OpenClaim := { program := "ytfbndpgbebbljaa", sum := "3f89764482d04a2654aea2f55325d3058a4d63dcdf9b3f2b398ed0b97f77971b", func := "loop.example/g00983/laws.FnExactSlotOk", spec := "fnExactSlotOk", apart := false }
def FnExactSlotOkSaid : Prop := fnExactSlotOkRow.holds Try.pinned (OpenSpec.ofChange fnExactSlotOkSpec)

/-- ITS FALSE NEIGHBOUR: 'it returns false'. Refute it at one input. -/
def fnExactSlotOkWrong : ChangeSpec := { name := "fnExactSlotOk", fn := fun _ => fun
  | [d] => { results := [.lit (.bool false)], args := [d] }
  | _ => none }
def FnExactSlotOkWrongFalsely : Prop := fnExactSlotOkRow.holds Try.pinned (OpenSpec.ofChange fnExactSlotOkWrong)

/-- 'laws.FnPackets': WHATEVER THE INPUT: true; the input reads as it did. -/
def fnPacketsSpec : ChangeSpec := { name := "fnPackets", fn := fun _ => fun
  | [d] => { results := [.lit (.bool true)], args := [d] }
  | _ => none }
def fnPacketsRow : OpenClaim := { program := "ytfbndpgbebbljaa", sum := "3f89764482d04a2654aea2f55325d3058a4d63dcdf9b3f2b398ed0b97f77971b", func := "loop.example/g00983/laws.FnPackets", spec := "fnPackets", apart := false }
def FnPacketsSaid : Prop := fnPacketsRow.holds Try.pinned (OpenSpec.ofChange fnPacketsSpec)

/-- ITS FALSE NEIGHBOUR: 'it returns false'. Refute it at one input. -/
def fnPacketsWrong : ChangeSpec := { name := "fnPackets", fn := fun _ => fun
  | [d] => { results := [.lit (.bool false)], args := [d] }
  | _ => none }
def FnPacketsWrongFalsely : Prop := fnPacketsRow.holds Try.pinned (OpenSpec.ofChange fnPacketsWrong)

/-- 'laws.FnExactIsTold': WHATEVER THE INPUT: true; the input reads as it did. -/
def fnExactIsToldSpec : ChangeSpec := { name := "fnExactIsTold", fn := fun _ => fun
  | [d1, d2, d3] => { results := [.lit (.bool true)], args := [d1, d2, d3] }
  | _ => none }
def fnExactIsToldRow : OpenClaim := { program := "ytfbndpgbebbljaa", sum := "3f89764482d04a2654aea2f55325d3058a4d63dcdf9b3f2b398ed0b97f77971b", func := "loop.example/g00983/laws.FnExactIsTold", spec := "fnExactIsTold", apart := false }
def FnExactIsToldSaid : Prop := fnExactIsToldRow.holds Try.pinned (OpenSpec.ofChange fnExactIsToldSpec)

/-- ITS FALSE NEIGHBOUR: 'it returns false'. Refute it at one input. -/
def fnExactIsToldWrong : ChangeSpec := { name := "fnExactIsTold", fn := fun _ => fun
  | [d1, d2, d3] => { results := [.lit (.bool false)], args := [d1, d2, d3] }
  | _ => none }
def FnExactIsToldWrongFalsely : Prop := fnExactIsToldRow.holds Try.pinned (OpenSpec.ofChange fnExactIsToldWrong)

/-- 'laws.FnSums': WHATEVER THE INPUT: true; the input reads as it did. -/
def fnSumsSpec : ChangeSpec := { name := "fnSums", fn := fun _ => fun
  | [d] => { results := [.lit (.bool true)], args := [d] }
  | _ => none }
def fnSumsRow : OpenClaim := { program := "ytfbndpgbebbljaa", sum := "3f89764482d04a2654aea2f55325d3058a4d63dcdf9b3f2b398ed0b97f77971b", func := "loop.example/g00983/laws.FnSums", spec := "fnSums", apart := false }
def FnSumsSaid : Prop := fnSumsRow.holds Try.pinned (OpenSpec.ofChange fnSumsSpec)

/-- ITS FALSE NEIGHBOUR: 'it returns false'. Refute it at one input. -/
def fnSumsWrong : ChangeSpec := { name := "fnSums", fn := fun _ => fun
  | [d] => { results := [.lit (.bool false)], args := [d] }
  | _ => none }
def FnSumsWrongFalsely : Prop := fnSumsRow.holds Try.pinned (OpenSpec.ofChange fnSumsWrong)

/-- 'laws.FnExactDeviceNew': WHATEVER THE INPUT: true; the input reads as it did. -/
def fnExactDeviceNewSpec : ChangeSpec := { name := "fnExactDeviceNew", fn := fun _ => fun
  | [] => { results := [.lit (.bool true)], args := [] }
  | _ => none }
def fnExactDeviceNewRow : OpenClaim := { program := "ytfbndpgbebbljaa", sum := "3f89764482d04a2654aea2f55325d3058a4d63dcdf9b3f2b398ed0b97f77971b", func := "loop.example/g00983/laws.FnExactDeviceNew", spec := "fnExactDeviceNew", apart := false }
def FnExactDeviceNewSaid : Prop := fnExactDeviceNewRow.holds Try.pinned (OpenSpec.ofChange fnExactDeviceNewSpec)

/-- ITS FALSE NEIGHBOUR: 'it returns false'. Refute it at one input. -/
def fnExactDeviceNewWrong : ChangeSpec := { name := "fnExactDeviceNew", fn := fun _ => fun
  | [] => { results := [.lit (.bool false)], args := [] }
  | _ => none }
def FnExactDeviceNewWrongFalsely : Prop := fnExactDeviceNewRow.holds Try.pinned (OpenSpec.ofChange fnExactDeviceNewWrong)

/-- 'laws.FnExactGaps': WHATEVER THE INPUT: true; the input reads as it did. -/
def fnExactGapsSpec : ChangeSpec := { name := "fnExactGaps", fn := fun _ => fun
  | [d] => { results := [.lit (.bool true)], args := [d] }
  | _ => none }
def fnExactGapsRow : OpenClaim := { program := "ytfbndpgbebbljaa", sum := "3f89764482d04a2654aea2f55325d3058a4d63dcdf9b3f2b398ed0b97f77971b", func := "loop.example/g00983/laws.FnExactGaps", spec := "fnExactGaps", apart := false }
def FnExactGapsSaid : Prop := fnExactGapsRow.holds Try.pinned (OpenSpec.ofChange fnExactGapsSpec)

/-- ITS FALSE NEIGHBOUR: 'it returns false'. Refute it at one input. -/
def fnExactGapsWrong : ChangeSpec := { name := "fnExactGaps", fn := fun _ => fun
  | [d] => { results := [.lit (.bool false)], args := [d] }
  | _ => none }
def FnExactGapsWrongFalsely : Prop := fnExactGapsRow.holds Try.pinned (OpenSpec.ofChange fnExactGapsWrong)

/-- 'laws.FnExactPacketOf': WHATEVER THE INPUT: true; the input reads as it did. -/
def fnExactPacketOfSpec : ChangeSpec := { name := "fnExactPacketOf", fn := fun _ => fun
  | [d] => { results := [.lit (.bool true)], args := [d] }
  | _ => none }
def fnExactPacketOfRow : OpenClaim := { program := "ytfbndpgbebbljaa", sum := "3f89764482d04a2654aea2f55325d3058a4d63dcdf9b3f2b398ed0b97f77971b", func := "loop.example/g00983/laws.FnExactPacketOf", spec := "fnExactPacketOf", apart := false }
def FnExactPacketOfSaid : Prop := fnExactPacketOfRow.holds Try.pinned (OpenSpec.ofChange fnExactPacketOfSpec)

/-- ITS FALSE NEIGHBOUR: 'it returns false'. Refute it at one input. -/
def fnExactPacketOfWrong : ChangeSpec := { name := "fnExactPacketOf", fn := fun _ => fun
  | [d] => { results := [.lit (.bool false)], args := [d] }
  | _ => none }
def FnExactPacketOfWrongFalsely : Prop := fnExactPacketOfRow.holds Try.pinned (OpenSpec.ofChange fnExactPacketOfWrong)

/- THE SECOND FORM. 'bulk': how many values and letters a reading holds, each counted each time it is reached (what is shared counts as often as it is met; a slice's spare places count too). A statement '..UptoSaid' is the law's where the arguments, and the package variables that the reading takes, are together of bulk at most 1048576: NARROWER than '..Said'. Prove '..Said' where nothing that the law and all that it calls make is longer than what came in: it says more and counts as full. Else prove '..UptoSaid'. A law counts once. -/
mutual
def uptoBulk {H : Type} : DataW H → Nat
  | .lit (.string bytes) => bytes.length + 1
  | .lit _ => 1
  | .nil => 1
  | .ptr d => uptoBulk d + 1
  | .slice elems spare => uptoBulkAll elems + uptoBulkAll spare + 1
  | .agg parts => uptoBulkAll parts + 1
  | .iface _ d => uptoBulk d + 1
  | .map entries => uptoBulkEntries entries + 1
  | .held _ => 1
def uptoBulkAll {H : Type} : List (DataW H) → Nat
  | [] => 0
  | d :: r => uptoBulk d + uptoBulkAll r
def uptoBulkEntries {H : Type} : List (Lit × DataW H) → Nat
  | [] => 0
  | x :: r => uptoBulkEntry x + uptoBulkEntries r
def uptoBulkEntry {H : Type} : Lit × DataW H → Nat
  | (.string bytes, d) => bytes.length + uptoBulk d + 1
  | (_, d) => uptoBulk d + 1
 end
def uptoSmall : (H : Type) → List (DataW H) → Bool := fun _ ds => decide (uptoBulkAll ds ≤ 1048576)
def OpenSpec.upto (s : _root_.Go.ChangeSpec) : _root_.Go.OpenSpec := { _root_.Go.OpenSpec.ofChange s with cond := some uptoSmall }

/-- 'laws.FnExactIsPrefixOf', WHERE WHAT IT READS IS OF BULK AT MOST 1048576: true; the input reads as it did. -/
def fnExactIsPrefixOfUptoRow : OpenClaim := { program := "ytfbndpgbebbljaa", sum := "3f89764482d04a2654aea2f55325d3058a4d63dcdf9b3f2b398ed0b97f77971b", func := "loop.example/g00983/laws.FnExactIsPrefixOf", spec := "fnExactIsPrefixOf", apart := false, narrowed := true }
def FnExactIsPrefixOfUptoSaid : Prop := fnExactIsPrefixOfUptoRow.holds Try.pinned (OpenSpec.upto fnExactIsPrefixOfSpec)

/-- 'laws.FnExactSumOf', WHERE WHAT IT READS IS OF BULK AT MOST 1048576: true; the input reads as it did. -/
def fnExactSumOfUptoRow : OpenClaim := { program := "ytfbndpgbebbljaa", sum := "3f89764482d04a2654aea2f55325d3058a4d63dcdf9b3f2b398ed0b97f77971b", func := "loop.example/g00983/laws.FnExactSumOf", spec := "fnExactSumOf", apart := false, narrowed := true }
def FnExactSumOfUptoSaid : Prop := fnExactSumOfUptoRow.holds Try.pinned (OpenSpec.upto fnExactSumOfSpec)

/-- 'laws.FnExactSendCost', WHERE WHAT IT READS IS OF BULK AT MOST 1048576: true; the input reads as it did. -/
def fnExactSendCostUptoRow : OpenClaim := { program := "ytfbndpgbebbljaa", sum := "3f89764482d04a2654aea2f55325d3058a4d63dcdf9b3f2b398ed0b97f77971b", func := "loop.example/g00983/laws.FnExactSendCost", spec := "fnExactSendCost", apart := false, narrowed := true }
def FnExactSendCostUptoSaid : Prop := fnExactSendCostUptoRow.holds Try.pinned (OpenSpec.upto fnExactSendCostSpec)

/-- 'laws.FnExactPacketBits', WHERE WHAT IT READS IS OF BULK AT MOST 1048576: true; the input reads as it did. -/
def fnExactPacketBitsUptoRow : OpenClaim := { program := "ytfbndpgbebbljaa", sum := "3f89764482d04a2654aea2f55325d3058a4d63dcdf9b3f2b398ed0b97f77971b", func := "loop.example/g00983/laws.FnExactPacketBits", spec := "fnExactPacketBits", apart := false, narrowed := true }
def FnExactPacketBitsUptoSaid : Prop := fnExactPacketBitsUptoRow.holds Try.pinned (OpenSpec.upto fnExactPacketBitsSpec)

/-- 'laws.FnExactCodeOk', WHERE WHAT IT READS IS OF BULK AT MOST 1048576: true; the input reads as it did. -/
def fnExactCodeOkUptoRow : OpenClaim := { program := "ytfbndpgbebbljaa", sum := "3f89764482d04a2654aea2f55325d3058a4d63dcdf9b3f2b398ed0b97f77971b", func := "loop.example/g00983/laws.FnExactCodeOk", spec := "fnExactCodeOk", apart := false, narrowed := true }
def FnExactCodeOkUptoSaid : Prop := fnExactCodeOkUptoRow.holds Try.pinned (OpenSpec.upto fnExactCodeOkSpec)

/-- 'laws.FnExactNewestOf', WHERE WHAT IT READS IS OF BULK AT MOST 1048576: true; the input reads as it did. -/
def fnExactNewestOfUptoRow : OpenClaim := { program := "ytfbndpgbebbljaa", sum := "3f89764482d04a2654aea2f55325d3058a4d63dcdf9b3f2b398ed0b97f77971b", func := "loop.example/g00983/laws.FnExactNewestOf", spec := "fnExactNewestOf", apart := false, narrowed := true }
def FnExactNewestOfUptoSaid : Prop := fnExactNewestOfUptoRow.holds Try.pinned (OpenSpec.upto fnExactNewestOfSpec)

/-- 'laws.FnBitErrors', WHERE WHAT IT READS IS OF BULK AT MOST 1048576: true; the input reads as it did. -/
def fnBitErrorsUptoRow : OpenClaim := { program := "ytfbndpgbebbljaa", sum := "3f89764482d04a2654aea2f55325d3058a4d63dcdf9b3f2b398ed0b97f77971b", func := "loop.example/g00983/laws.FnBitErrors", spec := "fnBitErrors", apart := false, narrowed := true }
def FnBitErrorsUptoSaid : Prop := fnBitErrorsUptoRow.holds Try.pinned (OpenSpec.upto fnBitErrorsSpec)

/-- 'laws.FnExactSlotOk', WHERE WHAT IT READS IS OF BULK AT MOST 1048576: true; the input reads as it did. -/
def fnExactSlotOkUptoRow : OpenClaim := { program := "ytfbndpgbebbljaa", sum := "3f89764482d04a2654aea2f55325d3058a4d63dcdf9b3f2b398ed0b97f77971b", func := "loop.example/g00983/laws.FnExactSlotOk", spec := "fnExactSlotOk", apart := false, narrowed := true }
def FnExactSlotOkUptoSaid : Prop := fnExactSlotOkUptoRow.holds Try.pinned (OpenSpec.upto fnExactSlotOkSpec)

/-- 'laws.FnPackets', WHERE WHAT IT READS IS OF BULK AT MOST 1048576: true; the input reads as it did. -/
def fnPacketsUptoRow : OpenClaim := { program := "ytfbndpgbebbljaa", sum := "3f89764482d04a2654aea2f55325d3058a4d63dcdf9b3f2b398ed0b97f77971b", func := "loop.example/g00983/laws.FnPackets", spec := "fnPackets", apart := false, narrowed := true }
def FnPacketsUptoSaid : Prop := fnPacketsUptoRow.holds Try.pinned (OpenSpec.upto fnPacketsSpec)

/-- 'laws.FnExactIsTold', WHERE WHAT IT READS IS OF BULK AT MOST 1048576: true; the input reads as it did. -/
def fnExactIsToldUptoRow : OpenClaim := { program := "ytfbndpgbebbljaa", sum := "3f89764482d04a2654aea2f55325d3058a4d63dcdf9b3f2b398ed0b97f77971b", func := "loop.example/g00983/laws.FnExactIsTold", spec := "fnExactIsTold", apart := false, narrowed := true }
def FnExactIsToldUptoSaid : Prop := fnExactIsToldUptoRow.holds Try.pinned (OpenSpec.upto fnExactIsToldSpec)

/-- 'laws.FnSums', WHERE WHAT IT READS IS OF BULK AT MOST 1048576: true; the input reads as it did. -/
def fnSumsUptoRow : OpenClaim := { program := "ytfbndpgbebbljaa", sum := "3f89764482d04a2654aea2f55325d3058a4d63dcdf9b3f2b398ed0b97f77971b", func := "loop.example/g00983/laws.FnSums", spec := "fnSums", apart := false, narrowed := true }
def FnSumsUptoSaid : Prop := fnSumsUptoRow.holds Try.pinned (OpenSpec.upto fnSumsSpec)

/-- 'laws.FnExactDeviceNew', WHERE WHAT IT READS IS OF BULK AT MOST 1048576: true; the input reads as it did. -/
def fnExactDeviceNewUptoRow : OpenClaim := { program := "ytfbndpgbebbljaa", sum := "3f89764482d04a2654aea2f55325d3058a4d63dcdf9b3f2b398ed0b97f77971b", func := "loop.example/g00983/laws.FnExactDeviceNew", spec := "fnExactDeviceNew", apart := false, narrowed := true }
def FnExactDeviceNewUptoSaid : Prop := fnExactDeviceNewUptoRow.holds Try.pinned (OpenSpec.upto fnExactDeviceNewSpec)

/-- 'laws.FnExactGaps', WHERE WHAT IT READS IS OF BULK AT MOST 1048576: true; the input reads as it did. -/
def fnExactGapsUptoRow : OpenClaim := { program := "ytfbndpgbebbljaa", sum := "3f89764482d04a2654aea2f55325d3058a4d63dcdf9b3f2b398ed0b97f77971b", func := "loop.example/g00983/laws.FnExactGaps", spec := "fnExactGaps", apart := false, narrowed := true }
def FnExactGapsUptoSaid : Prop := fnExactGapsUptoRow.holds Try.pinned (OpenSpec.upto fnExactGapsSpec)

/-- 'laws.FnExactPacketOf', WHERE WHAT IT READS IS OF BULK AT MOST 1048576: true; the input reads as it did. -/
def fnExactPacketOfUptoRow : OpenClaim := { program := "ytfbndpgbebbljaa", sum := "3f89764482d04a2654aea2f55325d3058a4d63dcdf9b3f2b398ed0b97f77971b", func := "loop.example/g00983/laws.FnExactPacketOf", spec := "fnExactPacketOf", apart := false, narrowed := true }
def FnExactPacketOfUptoSaid : Prop := fnExactPacketOfUptoRow.holds Try.pinned (OpenSpec.upto fnExactPacketOfSpec)

end Rows
end Go.Proofs.Ytfbndpgbebbljaa
