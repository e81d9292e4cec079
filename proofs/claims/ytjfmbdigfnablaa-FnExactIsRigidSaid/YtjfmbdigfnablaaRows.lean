/-
  No cell of these rows narrows 'for every input' (looked for: loops, veiled, ifaces, maps, wideKeys, modest, calm, conditions, laid).
  DERIVED. THE GIVEN ROWS OF THIS SEAT. 2 by the template 'for every input the law returns true; each argument reads behind the call as it read before'; 0 by the template 'total and deterministic' (their statements: YtjfmbdigfnablaaTotals.lean).
  GIVEN WITH THE SEED: the statements are not yours to turn. If you find one false, say at which input.
  Laid BY PROGRAM, IN A SANDBOX (cutbox-rows.mjs): the forced cells as the released guide's own fill.sh prints them over the translation f452e8be2e0362dc… (all of the seat's roots in one cut). By AI agents, Wed Nov 11 2026. No macro, syntax, notation, axiom, sorry.
-/
import Derived.Test.YtjfmbdigfnablaaChecked
import GoSem.Claim
import GoSem.ClaimJoined
import GoSem.ClaimMapViews
import Derived.JoinedTies
import Derived.KernelRfl
namespace Go.Proofs.Ytjfmbdigfnablaa
/- THE CELL 'sum', in the pinned program and in every row, IS THE sha256 OF THE DUMP (.gsa) THAT YtjfmbdigfnablaaProg.lean LOADS. Nothing in Lean hashes anything: it is a label: what it is worth is what the hold of that sum in a sandbox is worth. -/
noncomputable def Try.pinned : Pinned := { name := "ytjfmbdigfnablaa", sum := "f452e8be2e0362dcf18d055ad960bcebdcbf0acad3cc7d069737c75493d9ea2c", checked := Try.checked }
namespace Rows
def none {H : Type} : Left H := { results := [], args := [] }

/-- 'laws.FnExactCutPoints': WHATEVER THE INPUT: true; the input reads as it did. -/
def fnExactCutPointsSpec : ChangeSpec := { name := "fnExactCutPoints", fn := fun _ => fun
  | [d] => { results := [.lit (.bool true)], args := [d] }
  | _ => none }
def fnExactCutPointsRow : OpenClaim := { program := "ytjfmbdigfnablaa", sum := "f452e8be2e0362dcf18d055ad960bcebdcbf0acad3cc7d069737c75493d9ea2c", func := "loop.example/g00983/laws.FnExactCutPoints", spec := "fnExactCutPoints", apart := false }
def FnExactCutPointsSaid : Prop := fnExactCutPointsRow.holds Try.pinned (OpenSpec.ofChange fnExactCutPointsSpec)

/-- ITS FALSE NEIGHBOUR: 'it returns false'. Refute it at one input. -/
def fnExactCutPointsWrong : ChangeSpec := { name := "fnExactCutPoints", fn := fun _ => fun
  | [d] => { results := [.lit (.bool false)], args := [d] }
  | _ => none }
def FnExactCutPointsWrongFalsely : Prop := fnExactCutPointsRow.holds Try.pinned (OpenSpec.ofChange fnExactCutPointsWrong)

/-- 'laws.FnExactIsRigid': WHATEVER THE INPUT: true; the input reads as it did. -/
def fnExactIsRigidSpec : ChangeSpec := { name := "fnExactIsRigid", fn := fun _ => fun
  | [d] => { results := [.lit (.bool true)], args := [d] }
  | _ => none }
def fnExactIsRigidRow : OpenClaim := { program := "ytjfmbdigfnablaa", sum := "f452e8be2e0362dcf18d055ad960bcebdcbf0acad3cc7d069737c75493d9ea2c", func := "loop.example/g00983/laws.FnExactIsRigid", spec := "fnExactIsRigid", unfollowed := true, recurses := true, apart := false }
def FnExactIsRigidSaid : Prop := fnExactIsRigidRow.holds Try.pinned (OpenSpec.ofChange fnExactIsRigidSpec)

/-- ITS FALSE NEIGHBOUR: 'it returns false'. Refute it at one input. -/
def fnExactIsRigidWrong : ChangeSpec := { name := "fnExactIsRigid", fn := fun _ => fun
  | [d] => { results := [.lit (.bool false)], args := [d] }
  | _ => none }
def FnExactIsRigidWrongFalsely : Prop := fnExactIsRigidRow.holds Try.pinned (OpenSpec.ofChange fnExactIsRigidWrong)

/- THE SECOND FORM. 'bulk': how many values and letters a reading holds, each counted each time it is reached (what is shared counts as often as it is met; a slice's spare places count too). A statement '..UptoSaid' is the law's where the arguments, and the package variables that the reading takes, are together of bulk at most 1048576: NARROWER than '..Said'. Prove '..Said' where nothing that the law and all that it calls make is longer than what came in: it says more and counts as full. Else prove '..UptoSaid'. A law counts once. -/
mutual
def uptoBulk {H : Type} : DataW H → Nat
  | .lit (.string bytes) => bytes.length + 1
  | .lit _ => 1
  | .nil => 1
  | .ptr d => uptoBulk d + 1
  | .slice elems spare => uptoBulkAll elems + uptoBulkAll spare + 1
  | .agg parts => uptoBulkAll parts + 1
  | .iface _ d => uptoBulk d + 1
  | .map entries => uptoBulkEntries entries + 1
  | .held _ => 1
def uptoBulkAll {H : Type} : List (DataW H) → Nat
  | [] => 0
  | d :: r => uptoBulk d + uptoBulkAll r
def uptoBulkEntries {H : Type} : List (Lit × DataW H) → Nat
  | [] => 0
  | x :: r => uptoBulkEntry x + uptoBulkEntries r
def uptoBulkEntry {H : Type} : Lit × DataW H → Nat
  | (.string bytes, d) => bytes.length + uptoBulk d + 1
  | (_, d) => uptoBulk d + 1
 end
def uptoSmall : (H : Type) → List (DataW H) → Bool := fun _ ds => decide (uptoBulkAll ds ≤ 1048576)
def OpenSpec.upto (s : _root_.Go.ChangeSpec) : _root_.Go.OpenSpec := { _root_.Go.OpenSpec.ofChange s with cond := some uptoSmall }

/-- 'laws.FnExactCutPoints', WHERE WHAT IT READS IS OF BULK AT MOST 1048576: true; the input reads as it did. -/
def fnExactCutPointsUptoRow : OpenClaim := { program := "ytjfmbdigfnablaa", sum := "f452e8be2e0362dcf18d055ad960bcebdcbf0acad3cc7d069737c75493d9ea2c", func := "loop.example/g00983/laws.FnExactCutPoints", spec := "fnExactCutPoints", apart := false, narrowed := true }
def FnExactCutPointsUptoSaid : Prop := fnExactCutPointsUptoRow.holds Try.pinned (OpenSpec.upto fnExactCutPointsSpec)

/-- 'laws.FnExactIsRigid', WHERE WHAT IT READS IS OF BULK AT MOST 1048576: true; the input reads as it did. -/
def fnExactIsRigidUptoRow : OpenClaim := { program := "ytjfmbdigfnablaa", sum := "f452e8be2e0362dcf18d055ad960bcebdcbf0acad3cc7d069737c75493d9ea2c", func := "loop.example/g00983/laws.FnExactIsRigid", spec := "fnExactIsRigid", unfollowed := true, recurses := true, apart := false, narrowed := true }
def FnExactIsRigidUptoSaid : Prop := fnExactIsRigidUptoRow.holds Try.pinned (OpenSpec.upto fnExactIsRigidSpec)

end Rows
end Go.Proofs.Ytjfmbdigfnablaa
