/-
  No cell of these rows narrows 'for every input' (looked for: loops, veiled, ifaces, maps, wideKeys, modest, calm, conditions, laid).
  DERIVED. THE GIVEN ROWS OF THIS SEAT. 9 by the template 'for every input the law returns true; each argument reads behind the call as it read before'; 0 by the template 'total and deterministic' (their statements: YtmifaijfogipgaaTotals.lean).
  GIVEN WITH THE SEED: the statements are not yours to turn. If you find one false, say at which input.
  Laid BY PROGRAM, IN A SANDBOX (cutbox-rows.mjs): the forced cells as the released guide's own fill.sh prints them over the translation eaf2c5f56869b122… (all of the seat's roots in one cut). By AI agents, Wed Nov 11 2026. No macro, syntax, notation, axiom, sorry.
-/
import Derived.Test.YtmifaijfogipgaaChecked
import GoSem.Claim
import GoSem.ClaimJoined
import GoSem.ClaimMapViews
import Derived.JoinedTies
import Derived.KernelRfl
namespace Go.Proofs.Ytmifaijfogipgaa
/- THE CELL 'sum', in the pinned program and in every row, IS THE sha256 OF THE DUMP (.gsa) THAT YtmifaijfogipgaaProg.lean LOADS. Nothing in Lean hashes anything: it is a label: what it is worth is what the hold of that sum in a sandbox is worth. -/
noncomputable def Try.pinned : Pinned := { name := "ytmifaijfogipgaa", sum := "eaf2c5f56869b12269c0492c24b199a5d94de5a7e9d5ea8ece7b9c0077fe24a3", checked := Try.checked }
namespace Rows
def none {H : Type} : Left H := { results := [], args := [] }

/-- 'laws.FnExactCommitsAtLeast': WHATEVER THE INPUT: true; the input reads as it did. -/
def fnExactCommitsAtLeastSpec : ChangeSpec := { name := "fnExactCommitsAtLeast", fn := fun _ => fun
  | [d1, d2] => { results := [.lit (.bool true)], args := [d1, d2] }
  | _ => none }
def fnExactCommitsAtLeastRow : OpenClaim := { program := "ytmifaijfogipgaa", sum := "eaf2c5f56869b12269c0492c24b199a5d94de5a7e9d5ea8ece7b9c0077fe24a3", func := "loop.example/g00983/laws.FnExactCommitsAtLeast", spec := "fnExactCommitsAtLeast", unfollowed := true, recurses := true, apart := false }
def FnExactCommitsAtLeastSaid : Prop := fnExactCommitsAtLeastRow.holds Try.pinned (OpenSpec.ofChange fnExactCommitsAtLeastSpec)

/-- ITS FALSE NEIGHBOUR: 'it returns false'. Refute it at one input. -/
def fnExactCommitsAtLeastWrong : ChangeSpec := { name := "fnExactCommitsAtLeast", fn := fun _ => fun
  | [d1, d2] => { results := [.lit (.bool false)], args := [d1, d2] }
  | _ => none }
def FnExactCommitsAtLeastWrongFalsely : Prop := fnExactCommitsAtLeastRow.holds Try.pinned (OpenSpec.ofChange fnExactCommitsAtLeastWrong)

/-- 'laws.FnExactDeviceOk': WHATEVER THE INPUT: true; the input reads as it did. -/
def fnExactDeviceOkSpec : ChangeSpec := { name := "fnExactDeviceOk", fn := fun _ => fun
  | [d] => { results := [.lit (.bool true)], args := [d] }
  | _ => none }
def fnExactDeviceOkRow : OpenClaim := { program := "ytmifaijfogipgaa", sum := "eaf2c5f56869b12269c0492c24b199a5d94de5a7e9d5ea8ece7b9c0077fe24a3", func := "loop.example/g00983/laws.FnExactDeviceOk", spec := "fnExactDeviceOk", unfollowed := true, recurses := true, apart := false }
def FnExactDeviceOkSaid : Prop := fnExactDeviceOkRow.holds Try.pinned (OpenSpec.ofChange fnExactDeviceOkSpec)

/-- ITS FALSE NEIGHBOUR: 'it returns false'. Refute it at one input. -/
def fnExactDeviceOkWrong : ChangeSpec := { name := "fnExactDeviceOk", fn := fun _ => fun
  | [d] => { results := [.lit (.bool false)], args := [d] }
  | _ => none }
def FnExactDeviceOkWrongFalsely : Prop := fnExactDeviceOkRow.holds Try.pinned (OpenSpec.ofChange fnExactDeviceOkWrong)

/-- 'laws.FnExactPacketsOf': WHATEVER THE INPUT: true; the input reads as it did. -/
def fnExactPacketsOfSpec : ChangeSpec := { name := "fnExactPacketsOf", fn := fun _ => fun
  | [d1, d2] => { results := [.lit (.bool true)], args := [d1, d2] }
  | _ => none }
def fnExactPacketsOfRow : OpenClaim := { program := "ytmifaijfogipgaa", sum := "eaf2c5f56869b12269c0492c24b199a5d94de5a7e9d5ea8ece7b9c0077fe24a3", func := "loop.example/g00983/laws.FnExactPacketsOf", spec := "fnExactPacketsOf", apart := false }
def FnExactPacketsOfSaid : Prop := fnExactPacketsOfRow.holds Try.pinned (OpenSpec.ofChange fnExactPacketsOfSpec)

/-- ITS FALSE NEIGHBOUR: 'it returns false'. Refute it at one input. -/
def fnExactPacketsOfWrong : ChangeSpec := { name := "fnExactPacketsOf", fn := fun _ => fun
  | [d1, d2] => { results := [.lit (.bool false)], args := [d1, d2] }
  | _ => none }
def FnExactPacketsOfWrongFalsely : Prop := fnExactPacketsOfRow.holds Try.pinned (OpenSpec.ofChange fnExactPacketsOfWrong)

/-- 'laws.FnDevices': WHATEVER THE INPUT: true; the input reads as it did. -/
def fnDevicesSpec : ChangeSpec := { name := "fnDevices", fn := fun _ => fun
  | [d] => { results := [.lit (.bool true)], args := [d] }
  | _ => none }
def fnDevicesRow : OpenClaim := { program := "ytmifaijfogipgaa", sum := "eaf2c5f56869b12269c0492c24b199a5d94de5a7e9d5ea8ece7b9c0077fe24a3", func := "loop.example/g00983/laws.FnDevices", spec := "fnDevices", unfollowed := true, recurses := true, apart := false }
def FnDevicesSaid : Prop := fnDevicesRow.holds Try.pinned (OpenSpec.ofChange fnDevicesSpec)

/-- ITS FALSE NEIGHBOUR: 'it returns false'. Refute it at one input. -/
def fnDevicesWrong : ChangeSpec := { name := "fnDevices", fn := fun _ => fun
  | [d] => { results := [.lit (.bool false)], args := [d] }
  | _ => none }
def FnDevicesWrongFalsely : Prop := fnDevicesRow.holds Try.pinned (OpenSpec.ofChange fnDevicesWrong)

/-- 'laws.FnExactIsRestored': WHATEVER THE INPUT: true; the input reads as it did. -/
def fnExactIsRestoredSpec : ChangeSpec := { name := "fnExactIsRestored", fn := fun _ => fun
  | [d] => { results := [.lit (.bool true)], args := [d] }
  | _ => none }
def fnExactIsRestoredRow : OpenClaim := { program := "ytmifaijfogipgaa", sum := "eaf2c5f56869b12269c0492c24b199a5d94de5a7e9d5ea8ece7b9c0077fe24a3", func := "loop.example/g00983/laws.FnExactIsRestored", spec := "fnExactIsRestored", unfollowed := true, recurses := true, apart := false }
def FnExactIsRestoredSaid : Prop := fnExactIsRestoredRow.holds Try.pinned (OpenSpec.ofChange fnExactIsRestoredSpec)

/-- ITS FALSE NEIGHBOUR: 'it returns false'. Refute it at one input. -/
def fnExactIsRestoredWrong : ChangeSpec := { name := "fnExactIsRestored", fn := fun _ => fun
  | [d] => { results := [.lit (.bool false)], args := [d] }
  | _ => none }
def FnExactIsRestoredWrongFalsely : Prop := fnExactIsRestoredRow.holds Try.pinned (OpenSpec.ofChange fnExactIsRestoredWrong)

/-- 'laws.FnExactPowerFail': WHATEVER THE INPUT: true; the input reads as it did. -/
def fnExactPowerFailSpec : ChangeSpec := { name := "fnExactPowerFail", fn := fun _ => fun
  | [d] => { results := [.lit (.bool true)], args := [d] }
  | _ => none }
def fnExactPowerFailRow : OpenClaim := { program := "ytmifaijfogipgaa", sum := "eaf2c5f56869b12269c0492c24b199a5d94de5a7e9d5ea8ece7b9c0077fe24a3", func := "loop.example/g00983/laws.FnExactPowerFail", spec := "fnExactPowerFail", unfollowed := true, recurses := true, apart := false }
def FnExactPowerFailSaid : Prop := fnExactPowerFailRow.holds Try.pinned (OpenSpec.ofChange fnExactPowerFailSpec)

/-- ITS FALSE NEIGHBOUR: 'it returns false'. Refute it at one input. -/
def fnExactPowerFailWrong : ChangeSpec := { name := "fnExactPowerFail", fn := fun _ => fun
  | [d] => { results := [.lit (.bool false)], args := [d] }
  | _ => none }
def FnExactPowerFailWrongFalsely : Prop := fnExactPowerFailRow.holds Try.pinned (OpenSpec.ofChange fnExactPowerFailWrong)

/-- 'laws.FnExactRestore': WHATEVER THE INPUT: true; the input reads as it did. -/
def fnExactRestoreSpec : ChangeSpec := { name := "fnExactRestore", fn := fun _ => fun
  | [d] => { results := [.lit (.bool true)], args := [d] }
  | _ => none }
def fnExactRestoreRow : OpenClaim := { program := "ytmifaijfogipgaa", sum := "eaf2c5f56869b12269c0492c24b199a5d94de5a7e9d5ea8ece7b9c0077fe24a3", func := "loop.example/g00983/laws.FnExactRestore", spec := "fnExactRestore", unfollowed := true, recurses := true, apart := false }
def FnExactRestoreSaid : Prop := fnExactRestoreRow.holds Try.pinned (OpenSpec.ofChange fnExactRestoreSpec)

/-- ITS FALSE NEIGHBOUR: 'it returns false'. Refute it at one input. -/
def fnExactRestoreWrong : ChangeSpec := { name := "fnExactRestore", fn := fun _ => fun
  | [d] => { results := [.lit (.bool false)], args := [d] }
  | _ => none }
def FnExactRestoreWrongFalsely : Prop := fnExactRestoreRow.holds Try.pinned (OpenSpec.ofChange fnExactRestoreWrong)

/-- 'laws.FnConfigured': WHATEVER THE INPUT: true; the input reads as it did. -/
def fnConfiguredSpec : ChangeSpec := { name := "fnConfigured", fn := fun _ => fun
  | [d] => { results := [.lit (.bool true)], args := [d] }
  | _ => none }
def fnConfiguredRow : OpenClaim := { program := "ytmifaijfogipgaa", sum := "eaf2c5f56869b12269c0492c24b199a5d94de5a7e9d5ea8ece7b9c0077fe24a3", func := "loop.example/g00983/laws.FnConfigured", spec := "fnConfigured", inPlace := ["slices.overlaps[loop.example/g00983/impl.Setting]"], unfollowed := true, recurses := true, apart := false }
def FnConfiguredSaid : Prop := fnConfiguredRow.holds Try.pinned (OpenSpec.ofChange fnConfiguredSpec)

/-- ITS FALSE NEIGHBOUR: 'it returns false'. Refute it at one input. -/
def fnConfiguredWrong : ChangeSpec := { name := "fnConfigured", fn := fun _ => fun
  | [d] => { results := [.lit (.bool false)], args := [d] }
  | _ => none }
def FnConfiguredWrongFalsely : Prop := fnConfiguredRow.holds Try.pinned (OpenSpec.ofChange fnConfiguredWrong)

/-- 'laws.FnExactConfigure': WHATEVER THE INPUT: true; the input reads as it did. -/
def fnExactConfigureSpec : ChangeSpec := { name := "fnExactConfigure", fn := fun _ => fun
  | [d1, d2, d3] => { results := [.lit (.bool true)], args := [d1, d2, d3] }
  | _ => none }
def fnExactConfigureRow : OpenClaim := { program := "ytmifaijfogipgaa", sum := "eaf2c5f56869b12269c0492c24b199a5d94de5a7e9d5ea8ece7b9c0077fe24a3", func := "loop.example/g00983/laws.FnExactConfigure", spec := "fnExactConfigure", inPlace := ["slices.overlaps[loop.example/g00983/impl.Setting]"], unfollowed := true, recurses := true, apart := false }
def FnExactConfigureSaid : Prop := fnExactConfigureRow.holds Try.pinned (OpenSpec.ofChange fnExactConfigureSpec)

/-- ITS FALSE NEIGHBOUR: 'it returns false'. Refute it at one input. -/
def fnExactConfigureWrong : ChangeSpec := { name := "fnExactConfigure", fn := fun _ => fun
  | [d1, d2, d3] => { results := [.lit (.bool false)], args := [d1, d2, d3] }
  | _ => none }
def FnExactConfigureWrongFalsely : Prop := fnExactConfigureRow.holds Try.pinned (OpenSpec.ofChange fnExactConfigureWrong)

/- THE SECOND FORM. 'bulk': how many values and letters a reading holds, each counted each time it is reached (what is shared counts as often as it is met; a slice's spare places count too). A statement '..UptoSaid' is the law's where the arguments, and the package variables that the reading takes, are together of bulk at most 1048576: NARROWER than '..Said'. Prove '..Said' where nothing that the law and all that it calls make is longer than what came in: it says more and counts as full. Else prove '..UptoSaid'. A law counts once. -/
mutual
def uptoBulk {H : Type} : DataW H → Nat
  | .lit (.string bytes) => bytes.length + 1
  | .lit _ => 1
  | .nil => 1
  | .ptr d => uptoBulk d + 1
  | .slice elems spare => uptoBulkAll elems + uptoBulkAll spare + 1
  | .agg parts => uptoBulkAll parts + 1
  | .iface _ d => uptoBulk d + 1
  | .map entries => uptoBulkEntries entries + 1
  | .held _ => 1
def uptoBulkAll {H : Type} : List (DataW H) → Nat
  | [] => 0
  | d :: r => uptoBulk d + uptoBulkAll r
def uptoBulkEntries {H : Type} : List (Lit × DataW H) → Nat
  | [] => 0
  | x :: r => uptoBulkEntry x + uptoBulkEntries r
def uptoBulkEntry {H : Type} : Lit × DataW H → Nat
  | (.string bytes, d) => bytes.length + uptoBulk d + 1
  | (_, d) => uptoBulk d + 1
 end
def uptoSmall : (H : Type) → List (DataW H) → Bool := fun _ ds => decide (uptoBulkAll ds ≤ 1048576)
def OpenSpec.upto (s : _root_.Go.ChangeSpec) : _root_.Go.OpenSpec := { _root_.Go.OpenSpec.ofChange s with cond := some uptoSmall }

/-- 'laws.FnExactCommitsAtLeast', WHERE WHAT IT READS IS OF BULK AT MOST 1048576: true; the input reads as it did. -/
def fnExactCommitsAtLeastUptoRow : OpenClaim := { program := "ytmifaijfogipgaa", sum := "eaf2c5f56869b12269c0492c24b199a5d94de5a7e9d5ea8ece7b9c0077fe24a3", func := "loop.example/g00983/laws.FnExactCommitsAtLeast", spec := "fnExactCommitsAtLeast", unfollowed := true, recurses := true, apart := false, narrowed := true }
def FnExactCommitsAtLeastUptoSaid : Prop := fnExactCommitsAtLeastUptoRow.holds Try.pinned (OpenSpec.upto fnExactCommitsAtLeastSpec)

/-- 'laws.FnExactDeviceOk', WHERE WHAT IT READS IS OF BULK AT MOST 1048576: true; the input reads as it did. -/
def fnExactDeviceOkUptoRow : OpenClaim := { program := "ytmifaijfogipgaa", sum := "eaf2c5f56869b12269c0492c24b199a5d94de5a7e9d5ea8ece7b9c0077fe24a3", func := "loop.example/g00983/laws.FnExactDeviceOk", spec := "fnExactDeviceOk", unfollowed := true, recurses := true, apart := false, narrowed := true }
def FnExactDeviceOkUptoSaid : Prop := fnExactDeviceOkUptoRow.holds Try.pinned (OpenSpec.upto fnExactDeviceOkSpec)

/-- 'laws.FnExactPacketsOf', WHERE WHAT IT READS IS OF BULK AT MOST 1048576: true; the input reads as it did. -/
def fnExactPacketsOfUptoRow : OpenClaim := { program := "ytmifaijfogipgaa", sum := "eaf2c5f56869b12269c0492c24b199a5d94de5a7e9d5ea8ece7b9c0077fe24a3", func := "loop.example/g00983/laws.FnExactPacketsOf", spec := "fnExactPacketsOf", apart := false, narrowed := true }
def FnExactPacketsOfUptoSaid : Prop := fnExactPacketsOfUptoRow.holds Try.pinned (OpenSpec.upto fnExactPacketsOfSpec)

/-- 'laws.FnDevices', WHERE WHAT IT READS IS OF BULK AT MOST 1048576: true; the input reads as it did. -/
def fnDevicesUptoRow : OpenClaim := { program := "ytmifaijfogipgaa", sum := "eaf2c5f56869b12269c0492c24b199a5d94de5a7e9d5ea8ece7b9c0077fe24a3", func := "loop.example/g00983/laws.FnDevices", spec := "fnDevices", unfollowed := true, recurses := true, apart := false, narrowed := true }
def FnDevicesUptoSaid : Prop := fnDevicesUptoRow.holds Try.pinned (OpenSpec.upto fnDevicesSpec)

/-- 'laws.FnExactIsRestored', WHERE WHAT IT READS IS OF BULK AT MOST 1048576: true; the input reads as it did. -/
def fnExactIsRestoredUptoRow : OpenClaim := { program := "ytmifaijfogipgaa", sum := "eaf2c5f56869b12269c0492c24b199a5d94de5a7e9d5ea8ece7b9c0077fe24a3", func := "loop.example/g00983/laws.FnExactIsRestored", spec := "fnExactIsRestored", unfollowed := true, recurses := true, apart := false, narrowed := true }
def FnExactIsRestoredUptoSaid : Prop := fnExactIsRestoredUptoRow.holds Try.pinned (OpenSpec.upto fnExactIsRestoredSpec)

/-- 'laws.FnExactPowerFail', WHERE WHAT IT READS IS OF BULK AT MOST 1048576: true; the input reads as it did. -/
def fnExactPowerFailUptoRow : OpenClaim := { program := "ytmifaijfogipgaa", sum := "eaf2c5f56869b12269c0492c24b199a5d94de5a7e9d5ea8ece7b9c0077fe24a3", func := "loop.example/g00983/laws.FnExactPowerFail", spec := "fnExactPowerFail", unfollowed := true, recurses := true, apart := false, narrowed := true }
def FnExactPowerFailUptoSaid : Prop := fnExactPowerFailUptoRow.holds Try.pinned (OpenSpec.upto fnExactPowerFailSpec)

/-- 'laws.FnExactRestore', WHERE WHAT IT READS IS OF BULK AT MOST 1048576: true; the input reads as it did. -/
def fnExactRestoreUptoRow : OpenClaim := { program := "ytmifaijfogipgaa", sum := "eaf2c5f56869b12269c0492c24b199a5d94de5a7e9d5ea8ece7b9c0077fe24a3", func := "loop.example/g00983/laws.FnExactRestore", spec := "fnExactRestore", unfollowed := true, recurses := true, apart := false, narrowed := true }
def FnExactRestoreUptoSaid : Prop := fnExactRestoreUptoRow.holds Try.pinned (OpenSpec.upto fnExactRestoreSpec)

/-- 'laws.FnConfigured', WHERE WHAT IT READS IS OF BULK AT MOST 1048576: true; the input reads as it did. -/
def fnConfiguredUptoRow : OpenClaim := { program := "ytmifaijfogipgaa", sum := "eaf2c5f56869b12269c0492c24b199a5d94de5a7e9d5ea8ece7b9c0077fe24a3", func := "loop.example/g00983/laws.FnConfigured", spec := "fnConfigured", inPlace := ["slices.overlaps[loop.example/g00983/impl.Setting]"], unfollowed := true, recurses := true, apart := false, narrowed := true }
def FnConfiguredUptoSaid : Prop := fnConfiguredUptoRow.holds Try.pinned (OpenSpec.upto fnConfiguredSpec)

/-- 'laws.FnExactConfigure', WHERE WHAT IT READS IS OF BULK AT MOST 1048576: true; the input reads as it did. -/
def fnExactConfigureUptoRow : OpenClaim := { program := "ytmifaijfogipgaa", sum := "eaf2c5f56869b12269c0492c24b199a5d94de5a7e9d5ea8ece7b9c0077fe24a3", func := "loop.example/g00983/laws.FnExactConfigure", spec := "fnExactConfigure", inPlace := ["slices.overlaps[loop.example/g00983/impl.Setting]"], unfollowed := true, recurses := true, apart := false, narrowed := true }
def FnExactConfigureUptoSaid : Prop := fnExactConfigureUptoRow.holds Try.pinned (OpenSpec.upto fnExactConfigureSpec)

end Rows
end Go.Proofs.Ytmifaijfogipgaa
