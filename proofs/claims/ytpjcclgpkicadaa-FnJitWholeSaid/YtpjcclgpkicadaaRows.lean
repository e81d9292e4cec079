/-
  No cell of these rows narrows 'for every input' (looked for: loops, veiled, ifaces, maps, wideKeys, modest, calm, conditions, laid).
  DERIVED. THE GIVEN ROWS OF THIS SEAT. 9 by the template 'for every input the law returns true; each argument reads behind the call as it read before'; 0 by the template 'total and deterministic' (their statements: YtpjcclgpkicadaaTotals.lean).
  GIVEN WITH THE SEED: the statements are not yours to turn. If you find one false, say at which input.
  Laid BY PROGRAM, IN A SANDBOX (cutbox-rows.mjs): the forced cells as the released guide's own fill.sh prints them over the translation 5d5835bbee5abc09… (all of the seat's roots in one cut). By AI agents, Wed Nov 11 2026. No macro, syntax, notation, axiom, sorry.
-/
import Derived.Test.YtpjcclgpkicadaaChecked
import GoSem.Claim
import GoSem.ClaimJoined
import GoSem.ClaimMapViews
import Derived.JoinedTies
import Derived.KernelRfl
namespace Go.Proofs.Ytpjcclgpkicadaa
/- THE CELL 'sum', in the pinned program and in every row, IS THE sha256 OF THE DUMP (.gsa) THAT YtpjcclgpkicadaaProg.lean LOADS. Nothing in Lean hashes anything: it is a label: what it is worth is what the hold of that sum in a sandbox is worth. -/
noncomputable def Try.pinned : Pinned := { name := "ytpjcclgpkicadaa", sum := "5d5835bbee5abc09d7bd3c41f5ebeecf0baa741264db4641697c2aa3c88ca817", checked := Try.checked }
namespace Rows
def none {H : Type} : Left H := { results := [], args := [] }

/-- 'laws.FnSums': WHATEVER THE INPUT: true; the input reads as it did. -/
def fnSumsSpec : ChangeSpec := { name := "fnSums", fn := fun _ => fun
  | [d] => { results := [.lit (.bool true)], args := [d] }
  | _ => none }
def fnSumsRow : OpenClaim := { program := "ytpjcclgpkicadaa", sum := "5d5835bbee5abc09d7bd3c41f5ebeecf0baa741264db4641697c2aa3c88ca817", func := "loop.example/g00983/laws.FnSums", spec := "fnSums", apart := false }
def FnSumsSaid : Prop := fnSumsRow.holds Try.pinned (OpenSpec.ofChange fnSumsSpec)

/-- ITS FALSE NEIGHBOUR: 'it returns false'. Refute it at one input. -/
def fnSumsWrong : ChangeSpec := { name := "fnSums", fn := fun _ => fun
  | [d] => { results := [.lit (.bool false)], args := [d] }
  | _ => none }
def FnSumsWrongFalsely : Prop := fnSumsRow.holds Try.pinned (OpenSpec.ofChange fnSumsWrong)

/-- 'laws.FnExactCommitsAtLeast': WHATEVER THE INPUT: true; the input reads as it did. -/
def fnExactCommitsAtLeastSpec : ChangeSpec := { name := "fnExactCommitsAtLeast", fn := fun _ => fun
  | [d1, d2] => { results := [.lit (.bool true)], args := [d1, d2] }
  | _ => none }
def fnExactCommitsAtLeastRow : OpenClaim := { program := "ytpjcclgpkicadaa", sum := "5d5835bbee5abc09d7bd3c41f5ebeecf0baa741264db4641697c2aa3c88ca817", func := "loop.example/g00983/laws.FnExactCommitsAtLeast", spec := "fnExactCommitsAtLeast", unfollowed := true, recurses := true, apart := false }
def FnExactCommitsAtLeastSaid : Prop := fnExactCommitsAtLeastRow.holds Try.pinned (OpenSpec.ofChange fnExactCommitsAtLeastSpec)

/-- ITS FALSE NEIGHBOUR: 'it returns false'. Refute it at one input. -/
def fnExactCommitsAtLeastWrong : ChangeSpec := { name := "fnExactCommitsAtLeast", fn := fun _ => fun
  | [d1, d2] => { results := [.lit (.bool false)], args := [d1, d2] }
  | _ => none }
def FnExactCommitsAtLeastWrongFalsely : Prop := fnExactCommitsAtLeastRow.holds Try.pinned (OpenSpec.ofChange fnExactCommitsAtLeastWrong)

/-- 'laws.FnTornSaves': WHATEVER THE INPUT: true; the input reads as it did. -/
def fnTornSavesSpec : ChangeSpec := { name := "fnTornSaves", fn := fun _ => fun
  | [d] => { results := [.lit (.bool true)], args := [d] }
  | _ => none }
def fnTornSavesRow : OpenClaim := { program := "ytpjcclgpkicadaa", sum := "5d5835bbee5abc09d7bd3c41f5ebeecf0baa741264db4641697c2aa3c88ca817", func := "loop.example/g00983/laws.FnTornSaves", spec := "fnTornSaves", apart := false }
def FnTornSavesSaid : Prop := fnTornSavesRow.holds Try.pinned (OpenSpec.ofChange fnTornSavesSpec)

/-- ITS FALSE NEIGHBOUR: 'it returns false'. Refute it at one input. -/
def fnTornSavesWrong : ChangeSpec := { name := "fnTornSaves", fn := fun _ => fun
  | [d] => { results := [.lit (.bool false)], args := [d] }
  | _ => none }
def FnTornSavesWrongFalsely : Prop := fnTornSavesRow.holds Try.pinned (OpenSpec.ofChange fnTornSavesWrong)

/-- 'laws.FnJitWhole': WHATEVER THE INPUT: true; the input reads as it did. -/
def fnJitWholeSpec : ChangeSpec := { name := "fnJitWhole", fn := fun _ => fun
  | [d] => { results := [.lit (.bool true)], args := [d] }
  | _ => none }
def fnJitWholeRow : OpenClaim := { program := "ytpjcclgpkicadaa", sum := "5d5835bbee5abc09d7bd3c41f5ebeecf0baa741264db4641697c2aa3c88ca817", func := "loop.example/g00983/laws.FnJitWhole", spec := "fnJitWhole", unfollowed := true, recurses := true, apart := false }
def FnJitWholeSaid : Prop := fnJitWholeRow.holds Try.pinned (OpenSpec.ofChange fnJitWholeSpec)

/-- ITS FALSE NEIGHBOUR: 'it returns false'. Refute it at one input. -/
def fnJitWholeWrong : ChangeSpec := { name := "fnJitWhole", fn := fun _ => fun
  | [d] => { results := [.lit (.bool false)], args := [d] }
  | _ => none }
def FnJitWholeWrongFalsely : Prop := fnJitWholeRow.holds Try.pinned (OpenSpec.ofChange fnJitWholeWrong)

/-- 'laws.FnJit': WHATEVER THE INPUT: true; the input reads as it did. -/
def fnJitSpec : ChangeSpec := { name := "fnJit", fn := fun _ => fun
  | [d] => { results := [.lit (.bool true)], args := [d] }
  | _ => none }
def fnJitRow : OpenClaim := { program := "ytpjcclgpkicadaa", sum := "5d5835bbee5abc09d7bd3c41f5ebeecf0baa741264db4641697c2aa3c88ca817", func := "loop.example/g00983/laws.FnJit", spec := "fnJit", unfollowed := true, recurses := true, apart := false }
def FnJitSaid : Prop := fnJitRow.holds Try.pinned (OpenSpec.ofChange fnJitSpec)

/-- ITS FALSE NEIGHBOUR: 'it returns false'. Refute it at one input. -/
def fnJitWrong : ChangeSpec := { name := "fnJit", fn := fun _ => fun
  | [d] => { results := [.lit (.bool false)], args := [d] }
  | _ => none }
def FnJitWrongFalsely : Prop := fnJitRow.holds Try.pinned (OpenSpec.ofChange fnJitWrong)

/-- 'laws.FnConfigured': WHATEVER THE INPUT: true; the input reads as it did. -/
def fnConfiguredSpec : ChangeSpec := { name := "fnConfigured", fn := fun _ => fun
  | [d] => { results := [.lit (.bool true)], args := [d] }
  | _ => none }
def fnConfiguredRow : OpenClaim := { program := "ytpjcclgpkicadaa", sum := "5d5835bbee5abc09d7bd3c41f5ebeecf0baa741264db4641697c2aa3c88ca817", func := "loop.example/g00983/laws.FnConfigured", spec := "fnConfigured", inPlace := ["slices.overlaps[loop.example/g00983/impl.Setting]"], unfollowed := true, recurses := true, apart := false }
def FnConfiguredSaid : Prop := fnConfiguredRow.holds Try.pinned (OpenSpec.ofChange fnConfiguredSpec)

/-- ITS FALSE NEIGHBOUR: 'it returns false'. Refute it at one input. -/
def fnConfiguredWrong : ChangeSpec := { name := "fnConfigured", fn := fun _ => fun
  | [d] => { results := [.lit (.bool false)], args := [d] }
  | _ => none }
def FnConfiguredWrongFalsely : Prop := fnConfiguredRow.holds Try.pinned (OpenSpec.ofChange fnConfiguredWrong)

/-- 'laws.FnExactSaveSome': WHATEVER THE INPUT: true; the input reads as it did. -/
def fnExactSaveSomeSpec : ChangeSpec := { name := "fnExactSaveSome", fn := fun _ => fun
  | [d1, d2, d3] => { results := [.lit (.bool true)], args := [d1, d2, d3] }
  | _ => none }
def fnExactSaveSomeRow : OpenClaim := { program := "ytpjcclgpkicadaa", sum := "5d5835bbee5abc09d7bd3c41f5ebeecf0baa741264db4641697c2aa3c88ca817", func := "loop.example/g00983/laws.FnExactSaveSome", spec := "fnExactSaveSome", apart := false }
def FnExactSaveSomeSaid : Prop := fnExactSaveSomeRow.holds Try.pinned (OpenSpec.ofChange fnExactSaveSomeSpec)

/-- ITS FALSE NEIGHBOUR: 'it returns false'. Refute it at one input. -/
def fnExactSaveSomeWrong : ChangeSpec := { name := "fnExactSaveSome", fn := fun _ => fun
  | [d1, d2, d3] => { results := [.lit (.bool false)], args := [d1, d2, d3] }
  | _ => none }
def FnExactSaveSomeWrongFalsely : Prop := fnExactSaveSomeRow.holds Try.pinned (OpenSpec.ofChange fnExactSaveSomeWrong)

/-- 'laws.FnExactConfigure': WHATEVER THE INPUT: true; the input reads as it did. -/
def fnExactConfigureSpec : ChangeSpec := { name := "fnExactConfigure", fn := fun _ => fun
  | [d1, d2, d3] => { results := [.lit (.bool true)], args := [d1, d2, d3] }
  | _ => none }
def fnExactConfigureRow : OpenClaim := { program := "ytpjcclgpkicadaa", sum := "5d5835bbee5abc09d7bd3c41f5ebeecf0baa741264db4641697c2aa3c88ca817", func := "loop.example/g00983/laws.FnExactConfigure", spec := "fnExactConfigure", inPlace := ["slices.overlaps[loop.example/g00983/impl.Setting]"], unfollowed := true, recurses := true, apart := false }
def FnExactConfigureSaid : Prop := fnExactConfigureRow.holds Try.pinned (OpenSpec.ofChange fnExactConfigureSpec)

/-- ITS FALSE NEIGHBOUR: 'it returns false'. Refute it at one input. -/
def fnExactConfigureWrong : ChangeSpec := { name := "fnExactConfigure", fn := fun _ => fun
  | [d1, d2, d3] => { results := [.lit (.bool false)], args := [d1, d2, d3] }
  | _ => none }
def FnExactConfigureWrongFalsely : Prop := fnExactConfigureRow.holds Try.pinned (OpenSpec.ofChange fnExactConfigureWrong)

/-- 'laws.FnExactJitRun': WHATEVER THE INPUT: true; the input reads as it did. -/
def fnExactJitRunSpec : ChangeSpec := { name := "fnExactJitRun", fn := fun _ => fun
  | [d1, d2] => { results := [.lit (.bool true)], args := [d1, d2] }
  | _ => none }
def fnExactJitRunRow : OpenClaim := { program := "ytpjcclgpkicadaa", sum := "5d5835bbee5abc09d7bd3c41f5ebeecf0baa741264db4641697c2aa3c88ca817", func := "loop.example/g00983/laws.FnExactJitRun", spec := "fnExactJitRun", unfollowed := true, recurses := true, apart := false }
def FnExactJitRunSaid : Prop := fnExactJitRunRow.holds Try.pinned (OpenSpec.ofChange fnExactJitRunSpec)

/-- ITS FALSE NEIGHBOUR: 'it returns false'. Refute it at one input. -/
def fnExactJitRunWrong : ChangeSpec := { name := "fnExactJitRun", fn := fun _ => fun
  | [d1, d2] => { results := [.lit (.bool false)], args := [d1, d2] }
  | _ => none }
def FnExactJitRunWrongFalsely : Prop := fnExactJitRunRow.holds Try.pinned (OpenSpec.ofChange fnExactJitRunWrong)

/- THE SECOND FORM. 'bulk': how many values and letters a reading holds, each counted each time it is reached (what is shared counts as often as it is met; a slice's spare places count too). A statement '..UptoSaid' is the law's where the arguments, and the package variables that the reading takes, are together of bulk at most 1048576: NARROWER than '..Said'. Prove '..Said' where nothing that the law and all that it calls make is longer than what came in: it says more and counts as full. Else prove '..UptoSaid'. A law counts once. -/
mutual
def uptoBulk {H : Type} : DataW H → Nat
  | .lit (.string bytes) => bytes.length + 1
  | .lit _ => 1
  | .nil => 1
  | .ptr d => uptoBulk d + 1
  | .slice elems spare => uptoBulkAll elems + uptoBulkAll spare + 1
  | .agg parts => uptoBulkAll parts + 1
  | .iface _ d => uptoBulk d + 1
  | .map entries => uptoBulkEntries entries + 1
  | .held _ => 1
def uptoBulkAll {H : Type} : List (DataW H) → Nat
  | [] => 0
  | d :: r => uptoBulk d + uptoBulkAll r
def uptoBulkEntries {H : Type} : List (Lit × DataW H) → Nat
  | [] => 0
  | x :: r => uptoBulkEntry x + uptoBulkEntries r
def uptoBulkEntry {H : Type} : Lit × DataW H → Nat
  | (.string bytes, d) => bytes.length + uptoBulk d + 1
  | (_, d) => uptoBulk d + 1
 end
def uptoSmall : (H : Type) → List (DataW H) → Bool := fun _ ds => decide (uptoBulkAll ds ≤ 1048576)
def OpenSpec.upto (s : _root_.Go.ChangeSpec) : _root_.Go.OpenSpec := { _root_.Go.OpenSpec.ofChange s with cond := some uptoSmall }

/-- 'laws.FnSums', WHERE WHAT IT READS IS OF BULK AT MOST 1048576: true; the input reads as it did. -/
def fnSumsUptoRow : OpenClaim := { program := "ytpjcclgpkicadaa", sum := "5d5835bbee5abc09d7bd3c41f5ebeecf0baa741264db4641697c2aa3c88ca817", func := "loop.example/g00983/laws.FnSums", spec := "fnSums", apart := false, narrowed := true }
def FnSumsUptoSaid : Prop := fnSumsUptoRow.holds Try.pinned (OpenSpec.upto fnSumsSpec)

/-- 'laws.FnExactCommitsAtLeast', WHERE WHAT IT READS IS OF BULK AT MOST 1048576: true; the input reads as it did. -/
def fnExactCommitsAtLeastUptoRow : OpenClaim := { program := "ytpjcclgpkicadaa", sum := "5d5835bbee5abc09d7bd3c41f5ebeecf0baa741264db4641697c2aa3c88ca817", func := "loop.example/g00983/laws.FnExactCommitsAtLeast", spec := "fnExactCommitsAtLeast", unfollowed := true, recurses := true, apart := false, narrowed := true }
def FnExactCommitsAtLeastUptoSaid : Prop := fnExactCommitsAtLeastUptoRow.holds Try.pinned (OpenSpec.upto fnExactCommitsAtLeastSpec)

/-- 'laws.FnTornSaves', WHERE WHAT IT READS IS OF BULK AT MOST 1048576: true; the input reads as it did. -/
def fnTornSavesUptoRow : OpenClaim := { program := "ytpjcclgpkicadaa", sum := "5d5835bbee5abc09d7bd3c41f5ebeecf0baa741264db4641697c2aa3c88ca817", func := "loop.example/g00983/laws.FnTornSaves", spec := "fnTornSaves", apart := false, narrowed := true }
def FnTornSavesUptoSaid : Prop := fnTornSavesUptoRow.holds Try.pinned (OpenSpec.upto fnTornSavesSpec)

/-- 'laws.FnJitWhole', WHERE WHAT IT READS IS OF BULK AT MOST 1048576: true; the input reads as it did. -/
def fnJitWholeUptoRow : OpenClaim := { program := "ytpjcclgpkicadaa", sum := "5d5835bbee5abc09d7bd3c41f5ebeecf0baa741264db4641697c2aa3c88ca817", func := "loop.example/g00983/laws.FnJitWhole", spec := "fnJitWhole", unfollowed := true, recurses := true, apart := false, narrowed := true }
def FnJitWholeUptoSaid : Prop := fnJitWholeUptoRow.holds Try.pinned (OpenSpec.upto fnJitWholeSpec)

/-- 'laws.FnJit', WHERE WHAT IT READS IS OF BULK AT MOST 1048576: true; the input reads as it did. -/
def fnJitUptoRow : OpenClaim := { program := "ytpjcclgpkicadaa", sum := "5d5835bbee5abc09d7bd3c41f5ebeecf0baa741264db4641697c2aa3c88ca817", func := "loop.example/g00983/laws.FnJit", spec := "fnJit", unfollowed := true, recurses := true, apart := false, narrowed := true }
def FnJitUptoSaid : Prop := fnJitUptoRow.holds Try.pinned (OpenSpec.upto fnJitSpec)

/-- 'laws.FnConfigured', WHERE WHAT IT READS IS OF BULK AT MOST 1048576: true; the input reads as it did. -/
def fnConfiguredUptoRow : OpenClaim := { program := "ytpjcclgpkicadaa", sum := "5d5835bbee5abc09d7bd3c41f5ebeecf0baa741264db4641697c2aa3c88ca817", func := "loop.example/g00983/laws.FnConfigured", spec := "fnConfigured", inPlace := ["slices.overlaps[loop.example/g00983/impl.Setting]"], unfollowed := true, recurses := true, apart := false, narrowed := true }
def FnConfiguredUptoSaid : Prop := fnConfiguredUptoRow.holds Try.pinned (OpenSpec.upto fnConfiguredSpec)

/-- 'laws.FnExactSaveSome', WHERE WHAT IT READS IS OF BULK AT MOST 1048576: true; the input reads as it did. -/
def fnExactSaveSomeUptoRow : OpenClaim := { program := "ytpjcclgpkicadaa", sum := "5d5835bbee5abc09d7bd3c41f5ebeecf0baa741264db4641697c2aa3c88ca817", func := "loop.example/g00983/laws.FnExactSaveSome", spec := "fnExactSaveSome", apart := false, narrowed := true }
def FnExactSaveSomeUptoSaid : Prop := fnExactSaveSomeUptoRow.holds Try.pinned (OpenSpec.upto fnExactSaveSomeSpec)

/-- 'laws.FnExactConfigure', WHERE WHAT IT READS IS OF BULK AT MOST 1048576: true; the input reads as it did. -/
def fnExactConfigureUptoRow : OpenClaim := { program := "ytpjcclgpkicadaa", sum := "5d5835bbee5abc09d7bd3c41f5ebeecf0baa741264db4641697c2aa3c88ca817", func := "loop.example/g00983/laws.FnExactConfigure", spec := "fnExactConfigure", inPlace := ["slices.overlaps[loop.example/g00983/impl.Setting]"], unfollowed := true, recurses := true, apart := false, narrowed := true }
def FnExactConfigureUptoSaid : Prop := fnExactConfigureUptoRow.holds Try.pinned (OpenSpec.upto fnExactConfigureSpec)

/-- 'laws.FnExactJitRun', WHERE WHAT IT READS IS OF BULK AT MOST 1048576: true; the input reads as it did. -/
def fnExactJitRunUptoRow : OpenClaim := { program := "ytpjcclgpkicadaa", sum := "5d5835bbee5abc09d7bd3c41f5ebeecf0baa741264db4641697c2aa3c88ca817", func := "loop.example/g00983/laws.FnExactJitRun", spec := "fnExactJitRun", unfollowed := true, recurses := true, apart := false, narrowed := true }
def FnExactJitRunUptoSaid : Prop := fnExactJitRunUptoRow.holds Try.pinned (OpenSpec.upto fnExactJitRunSpec)

end Rows
end Go.Proofs.Ytpjcclgpkicadaa
