/-
  No cell of these rows narrows 'for every input' (looked for: loops, veiled, ifaces, maps, wideKeys, modest, calm, conditions, laid).
  DERIVED. THE GIVEN ROWS OF THIS SEAT. 12 by the template 'for every input the law returns true; each argument reads behind the call as it read before'; 0 by the template 'total and deterministic' (their statements: YtpahljbcffmaaaaTotals.lean).
  GIVEN WITH THE SEED: the statements are not yours to turn. If you find one false, say at which input.
  Laid BY PROGRAM, IN A SANDBOX (cutbox-rows.mjs): the forced cells as the released guide's own fill.sh prints them over the translation f98110e14258faf0… (all of the seat's roots in one cut). By AI agents, Wed Nov 11 2026. No macro, syntax, notation, axiom, sorry.
-/
import Derived.Test.YtpahljbcffmaaaaChecked
import GoSem.Claim
import GoSem.ClaimJoined
import GoSem.ClaimMapViews
import Derived.JoinedTies
import Derived.KernelRfl
namespace Go.Proofs.Ytpahljbcffmaaaa
/- THE CELL 'sum', in the pinned program and in every row, IS THE sha256 OF THE DUMP (.gsa) THAT YtpahljbcffmaaaaProg.lean LOADS. Nothing in Lean hashes anything: it is a label: what it is worth is what the hold of that sum in a sandbox is worth. -/
noncomputable def Try.pinned : Pinned := { name := "ytpahljbcffmaaaa", sum := "f98110e14258faf0e3d39411a5e5bb8784442f08ca7d9e794e64137365990dc8", checked := Try.checked }
namespace Rows
def none {H : Type} : Left H := { results := [], args := [] }

/-- 'laws.FnExactCountIn': WHATEVER THE INPUT: true; the input reads as it did. -/
def fnExactCountInSpec : ChangeSpec := { name := "fnExactCountIn", fn := fun _ => fun
  | [d1, d2] => { results := [.lit (.bool true)], args := [d1, d2] }
  | _ => none }
def fnExactCountInRow : OpenClaim := { program := "ytpahljbcffmaaaa", sum := "f98110e14258faf0e3d39411a5e5bb8784442f08ca7d9e794e64137365990dc8", func := "loop.example/flexlayout/laws.FnExactCountIn", spec := "fnExactCountIn", apart := false }
def FnExactCountInSaid : Prop := fnExactCountInRow.holds Try.pinned (OpenSpec.ofChange fnExactCountInSpec)

/-- ITS FALSE NEIGHBOUR: 'it returns false'. Refute it at one input. -/
def fnExactCountInWrong : ChangeSpec := { name := "fnExactCountIn", fn := fun _ => fun
  | [d1, d2] => { results := [.lit (.bool false)], args := [d1, d2] }
  | _ => none }
def FnExactCountInWrongFalsely : Prop := fnExactCountInRow.holds Try.pinned (OpenSpec.ofChange fnExactCountInWrong)

/-- 'laws.FnValidTree': WHATEVER THE INPUT: true; the input reads as it did. -/
def fnValidTreeSpec : ChangeSpec := { name := "fnValidTree", fn := fun _ => fun
  | [d] => { results := [.lit (.bool true)], args := [d] }
  | _ => none }
def fnValidTreeRow : OpenClaim := { program := "ytpahljbcffmaaaa", sum := "f98110e14258faf0e3d39411a5e5bb8784442f08ca7d9e794e64137365990dc8", func := "loop.example/flexlayout/laws.FnValidTree", spec := "fnValidTree", apart := false }
def FnValidTreeSaid : Prop := fnValidTreeRow.holds Try.pinned (OpenSpec.ofChange fnValidTreeSpec)

/-- ITS FALSE NEIGHBOUR: 'it returns false'. Refute it at one input. -/
def fnValidTreeWrong : ChangeSpec := { name := "fnValidTree", fn := fun _ => fun
  | [d] => { results := [.lit (.bool false)], args := [d] }
  | _ => none }
def FnValidTreeWrongFalsely : Prop := fnValidTreeRow.holds Try.pinned (OpenSpec.ofChange fnValidTreeWrong)

/-- 'laws.FnKidsOf': WHATEVER THE INPUT: true; the input reads as it did. -/
def fnKidsOfSpec : ChangeSpec := { name := "fnKidsOf", fn := fun _ => fun
  | [d] => { results := [.lit (.bool true)], args := [d] }
  | _ => none }
def fnKidsOfRow : OpenClaim := { program := "ytpahljbcffmaaaa", sum := "f98110e14258faf0e3d39411a5e5bb8784442f08ca7d9e794e64137365990dc8", func := "loop.example/flexlayout/laws.FnKidsOf", spec := "fnKidsOf", apart := false }
def FnKidsOfSaid : Prop := fnKidsOfRow.holds Try.pinned (OpenSpec.ofChange fnKidsOfSpec)

/-- ITS FALSE NEIGHBOUR: 'it returns false'. Refute it at one input. -/
def fnKidsOfWrong : ChangeSpec := { name := "fnKidsOf", fn := fun _ => fun
  | [d] => { results := [.lit (.bool false)], args := [d] }
  | _ => none }
def FnKidsOfWrongFalsely : Prop := fnKidsOfRow.holds Try.pinned (OpenSpec.ofChange fnKidsOfWrong)

/-- 'laws.FnDepthOf': WHATEVER THE INPUT: true; the input reads as it did. -/
def fnDepthOfSpec : ChangeSpec := { name := "fnDepthOf", fn := fun _ => fun
  | [d] => { results := [.lit (.bool true)], args := [d] }
  | _ => none }
def fnDepthOfRow : OpenClaim := { program := "ytpahljbcffmaaaa", sum := "f98110e14258faf0e3d39411a5e5bb8784442f08ca7d9e794e64137365990dc8", func := "loop.example/flexlayout/laws.FnDepthOf", spec := "fnDepthOf", apart := false }
def FnDepthOfSaid : Prop := fnDepthOfRow.holds Try.pinned (OpenSpec.ofChange fnDepthOfSpec)

/-- ITS FALSE NEIGHBOUR: 'it returns false'. Refute it at one input. -/
def fnDepthOfWrong : ChangeSpec := { name := "fnDepthOf", fn := fun _ => fun
  | [d] => { results := [.lit (.bool false)], args := [d] }
  | _ => none }
def FnDepthOfWrongFalsely : Prop := fnDepthOfRow.holds Try.pinned (OpenSpec.ofChange fnDepthOfWrong)

/-- 'laws.FnIsAround': WHATEVER THE INPUT: true; the input reads as it did. -/
def fnIsAroundSpec : ChangeSpec := { name := "fnIsAround", fn := fun _ => fun
  | [d] => { results := [.lit (.bool true)], args := [d] }
  | _ => none }
def fnIsAroundRow : OpenClaim := { program := "ytpahljbcffmaaaa", sum := "f98110e14258faf0e3d39411a5e5bb8784442f08ca7d9e794e64137365990dc8", func := "loop.example/flexlayout/laws.FnIsAround", spec := "fnIsAround", apart := false }
def FnIsAroundSaid : Prop := fnIsAroundRow.holds Try.pinned (OpenSpec.ofChange fnIsAroundSpec)

/-- ITS FALSE NEIGHBOUR: 'it returns false'. Refute it at one input. -/
def fnIsAroundWrong : ChangeSpec := { name := "fnIsAround", fn := fun _ => fun
  | [d] => { results := [.lit (.bool false)], args := [d] }
  | _ => none }
def FnIsAroundWrongFalsely : Prop := fnIsAroundRow.holds Try.pinned (OpenSpec.ofChange fnIsAroundWrong)

/-- 'laws.FnIsAroundBoth': WHATEVER THE INPUT: true; the input reads as it did. -/
def fnIsAroundBothSpec : ChangeSpec := { name := "fnIsAroundBoth", fn := fun _ => fun
  | [d] => { results := [.lit (.bool true)], args := [d] }
  | _ => none }
def fnIsAroundBothRow : OpenClaim := { program := "ytpahljbcffmaaaa", sum := "f98110e14258faf0e3d39411a5e5bb8784442f08ca7d9e794e64137365990dc8", func := "loop.example/flexlayout/laws.FnIsAroundBoth", spec := "fnIsAroundBoth", apart := false }
def FnIsAroundBothSaid : Prop := fnIsAroundBothRow.holds Try.pinned (OpenSpec.ofChange fnIsAroundBothSpec)

/-- ITS FALSE NEIGHBOUR: 'it returns false'. Refute it at one input. -/
def fnIsAroundBothWrong : ChangeSpec := { name := "fnIsAroundBoth", fn := fun _ => fun
  | [d] => { results := [.lit (.bool false)], args := [d] }
  | _ => none }
def FnIsAroundBothWrongFalsely : Prop := fnIsAroundBothRow.holds Try.pinned (OpenSpec.ofChange fnIsAroundBothWrong)

/-- 'laws.FnCountIn': WHATEVER THE INPUT: true; the input reads as it did. -/
def fnCountInSpec : ChangeSpec := { name := "fnCountIn", fn := fun _ => fun
  | [d] => { results := [.lit (.bool true)], args := [d] }
  | _ => none }
def fnCountInRow : OpenClaim := { program := "ytpahljbcffmaaaa", sum := "f98110e14258faf0e3d39411a5e5bb8784442f08ca7d9e794e64137365990dc8", func := "loop.example/flexlayout/laws.FnCountIn", spec := "fnCountIn", apart := false }
def FnCountInSaid : Prop := fnCountInRow.holds Try.pinned (OpenSpec.ofChange fnCountInSpec)

/-- ITS FALSE NEIGHBOUR: 'it returns false'. Refute it at one input. -/
def fnCountInWrong : ChangeSpec := { name := "fnCountIn", fn := fun _ => fun
  | [d] => { results := [.lit (.bool false)], args := [d] }
  | _ => none }
def FnCountInWrongFalsely : Prop := fnCountInRow.holds Try.pinned (OpenSpec.ofChange fnCountInWrong)

/-- 'laws.FnCountInAround': WHATEVER THE INPUT: true; the input reads as it did. -/
def fnCountInAroundSpec : ChangeSpec := { name := "fnCountInAround", fn := fun _ => fun
  | [d] => { results := [.lit (.bool true)], args := [d] }
  | _ => none }
def fnCountInAroundRow : OpenClaim := { program := "ytpahljbcffmaaaa", sum := "f98110e14258faf0e3d39411a5e5bb8784442f08ca7d9e794e64137365990dc8", func := "loop.example/flexlayout/laws.FnCountInAround", spec := "fnCountInAround", apart := false }
def FnCountInAroundSaid : Prop := fnCountInAroundRow.holds Try.pinned (OpenSpec.ofChange fnCountInAroundSpec)

/-- ITS FALSE NEIGHBOUR: 'it returns false'. Refute it at one input. -/
def fnCountInAroundWrong : ChangeSpec := { name := "fnCountInAround", fn := fun _ => fun
  | [d] => { results := [.lit (.bool false)], args := [d] }
  | _ => none }
def FnCountInAroundWrongFalsely : Prop := fnCountInAroundRow.holds Try.pinned (OpenSpec.ofChange fnCountInAroundWrong)

/-- 'laws.FnKidsOfDepth': WHATEVER THE INPUT: true; the input reads as it did. -/
def fnKidsOfDepthSpec : ChangeSpec := { name := "fnKidsOfDepth", fn := fun _ => fun
  | [d] => { results := [.lit (.bool true)], args := [d] }
  | _ => none }
def fnKidsOfDepthRow : OpenClaim := { program := "ytpahljbcffmaaaa", sum := "f98110e14258faf0e3d39411a5e5bb8784442f08ca7d9e794e64137365990dc8", func := "loop.example/flexlayout/laws.FnKidsOfDepth", spec := "fnKidsOfDepth", apart := false }
def FnKidsOfDepthSaid : Prop := fnKidsOfDepthRow.holds Try.pinned (OpenSpec.ofChange fnKidsOfDepthSpec)

/-- ITS FALSE NEIGHBOUR: 'it returns false'. Refute it at one input. -/
def fnKidsOfDepthWrong : ChangeSpec := { name := "fnKidsOfDepth", fn := fun _ => fun
  | [d] => { results := [.lit (.bool false)], args := [d] }
  | _ => none }
def FnKidsOfDepthWrongFalsely : Prop := fnKidsOfDepthRow.holds Try.pinned (OpenSpec.ofChange fnKidsOfDepthWrong)

/-- 'laws.FnKidsOfNext': WHATEVER THE INPUT: true; the input reads as it did. -/
def fnKidsOfNextSpec : ChangeSpec := { name := "fnKidsOfNext", fn := fun _ => fun
  | [d] => { results := [.lit (.bool true)], args := [d] }
  | _ => none }
def fnKidsOfNextRow : OpenClaim := { program := "ytpahljbcffmaaaa", sum := "f98110e14258faf0e3d39411a5e5bb8784442f08ca7d9e794e64137365990dc8", func := "loop.example/flexlayout/laws.FnKidsOfNext", spec := "fnKidsOfNext", apart := false }
def FnKidsOfNextSaid : Prop := fnKidsOfNextRow.holds Try.pinned (OpenSpec.ofChange fnKidsOfNextSpec)

/-- ITS FALSE NEIGHBOUR: 'it returns false'. Refute it at one input. -/
def fnKidsOfNextWrong : ChangeSpec := { name := "fnKidsOfNext", fn := fun _ => fun
  | [d] => { results := [.lit (.bool false)], args := [d] }
  | _ => none }
def FnKidsOfNextWrongFalsely : Prop := fnKidsOfNextRow.holds Try.pinned (OpenSpec.ofChange fnKidsOfNextWrong)

/-- 'laws.FnDepthOfPath': WHATEVER THE INPUT: true; the input reads as it did. -/
def fnDepthOfPathSpec : ChangeSpec := { name := "fnDepthOfPath", fn := fun _ => fun
  | [d] => { results := [.lit (.bool true)], args := [d] }
  | _ => none }
def fnDepthOfPathRow : OpenClaim := { program := "ytpahljbcffmaaaa", sum := "f98110e14258faf0e3d39411a5e5bb8784442f08ca7d9e794e64137365990dc8", func := "loop.example/flexlayout/laws.FnDepthOfPath", spec := "fnDepthOfPath", apart := false }
def FnDepthOfPathSaid : Prop := fnDepthOfPathRow.holds Try.pinned (OpenSpec.ofChange fnDepthOfPathSpec)

/-- ITS FALSE NEIGHBOUR: 'it returns false'. Refute it at one input. -/
def fnDepthOfPathWrong : ChangeSpec := { name := "fnDepthOfPath", fn := fun _ => fun
  | [d] => { results := [.lit (.bool false)], args := [d] }
  | _ => none }
def FnDepthOfPathWrongFalsely : Prop := fnDepthOfPathRow.holds Try.pinned (OpenSpec.ofChange fnDepthOfPathWrong)

/-- 'laws.FnPathTo': WHATEVER THE INPUT: true; the input reads as it did. -/
def fnPathToSpec : ChangeSpec := { name := "fnPathTo", fn := fun _ => fun
  | [d] => { results := [.lit (.bool true)], args := [d] }
  | _ => none }
def fnPathToRow : OpenClaim := { program := "ytpahljbcffmaaaa", sum := "f98110e14258faf0e3d39411a5e5bb8784442f08ca7d9e794e64137365990dc8", func := "loop.example/flexlayout/laws.FnPathTo", spec := "fnPathTo", apart := false }
def FnPathToSaid : Prop := fnPathToRow.holds Try.pinned (OpenSpec.ofChange fnPathToSpec)

/-- ITS FALSE NEIGHBOUR: 'it returns false'. Refute it at one input. -/
def fnPathToWrong : ChangeSpec := { name := "fnPathTo", fn := fun _ => fun
  | [d] => { results := [.lit (.bool false)], args := [d] }
  | _ => none }
def FnPathToWrongFalsely : Prop := fnPathToRow.holds Try.pinned (OpenSpec.ofChange fnPathToWrong)

/- THE SECOND FORM. 'bulk': how many values and letters a reading holds, each counted each time it is reached (what is shared counts as often as it is met; a slice's spare places count too). A statement '..UptoSaid' is the law's where the arguments, and the package variables that the reading takes, are together of bulk at most 1048576: NARROWER than '..Said'. Prove '..Said' where nothing that the law and all that it calls make is longer than what came in: it says more and counts as full. Else prove '..UptoSaid'. A law counts once. -/
mutual
def uptoBulk {H : Type} : DataW H → Nat
  | .lit (.string bytes) => bytes.length + 1
  | .lit _ => 1
  | .nil => 1
  | .ptr d => uptoBulk d + 1
  | .slice elems spare => uptoBulkAll elems + uptoBulkAll spare + 1
  | .agg parts => uptoBulkAll parts + 1
  | .iface _ d => uptoBulk d + 1
  | .map entries => uptoBulkEntries entries + 1
  | .held _ => 1
def uptoBulkAll {H : Type} : List (DataW H) → Nat
  | [] => 0
  | d :: r => uptoBulk d + uptoBulkAll r
def uptoBulkEntries {H : Type} : List (Lit × DataW H) → Nat
  | [] => 0
  | x :: r => uptoBulkEntry x + uptoBulkEntries r
def uptoBulkEntry {H : Type} : Lit × DataW H → Nat
  | (.string bytes, d) => bytes.length + uptoBulk d + 1
  | (_, d) => uptoBulk d + 1
 end
def uptoSmall : (H : Type) → List (DataW H) → Bool := fun _ ds => decide (uptoBulkAll ds ≤ 1048576)
def OpenSpec.upto (s : _root_.Go.ChangeSpec) : _root_.Go.OpenSpec := { _root_.Go.OpenSpec.ofChange s with cond := some uptoSmall }

/-- 'laws.FnExactCountIn', WHERE WHAT IT READS IS OF BULK AT MOST 1048576: true; the input reads as it did. -/
def fnExactCountInUptoRow : OpenClaim := { program := "ytpahljbcffmaaaa", sum := "f98110e14258faf0e3d39411a5e5bb8784442f08ca7d9e794e64137365990dc8", func := "loop.example/flexlayout/laws.FnExactCountIn", spec := "fnExactCountIn", apart := false, narrowed := true }
def FnExactCountInUptoSaid : Prop := fnExactCountInUptoRow.holds Try.pinned (OpenSpec.upto fnExactCountInSpec)

/-- 'laws.FnValidTree', WHERE WHAT IT READS IS OF BULK AT MOST 1048576: true; the input reads as it did. -/
def fnValidTreeUptoRow : OpenClaim := { program := "ytpahljbcffmaaaa", sum := "f98110e14258faf0e3d39411a5e5bb8784442f08ca7d9e794e64137365990dc8", func := "loop.example/flexlayout/laws.FnValidTree", spec := "fnValidTree", apart := false, narrowed := true }
def FnValidTreeUptoSaid : Prop := fnValidTreeUptoRow.holds Try.pinned (OpenSpec.upto fnValidTreeSpec)

/-- 'laws.FnKidsOf', WHERE WHAT IT READS IS OF BULK AT MOST 1048576: true; the input reads as it did. -/
def fnKidsOfUptoRow : OpenClaim := { program := "ytpahljbcffmaaaa", sum := "f98110e14258faf0e3d39411a5e5bb8784442f08ca7d9e794e64137365990dc8", func := "loop.example/flexlayout/laws.FnKidsOf", spec := "fnKidsOf", apart := false, narrowed := true }
def FnKidsOfUptoSaid : Prop := fnKidsOfUptoRow.holds Try.pinned (OpenSpec.upto fnKidsOfSpec)

/-- 'laws.FnDepthOf', WHERE WHAT IT READS IS OF BULK AT MOST 1048576: true; the input reads as it did. -/
def fnDepthOfUptoRow : OpenClaim := { program := "ytpahljbcffmaaaa", sum := "f98110e14258faf0e3d39411a5e5bb8784442f08ca7d9e794e64137365990dc8", func := "loop.example/flexlayout/laws.FnDepthOf", spec := "fnDepthOf", apart := false, narrowed := true }
def FnDepthOfUptoSaid : Prop := fnDepthOfUptoRow.holds Try.pinned (OpenSpec.upto fnDepthOfSpec)

/-- 'laws.FnIsAround', WHERE WHAT IT READS IS OF BULK AT MOST 1048576: true; the input reads as it did. -/
def fnIsAroundUptoRow : OpenClaim := { program := "ytpahljbcffmaaaa", sum := "f98110e14258faf0e3d39411a5e5bb8784442f08ca7d9e794e64137365990dc8", func := "loop.example/flexlayout/laws.FnIsAround", spec := "fnIsAround", apart := false, narrowed := true }
def FnIsAroundUptoSaid : Prop := fnIsAroundUptoRow.holds Try.pinned (OpenSpec.upto fnIsAroundSpec)

/-- 'laws.FnIsAroundBoth', WHERE WHAT IT READS IS OF BULK AT MOST 1048576: true; the input reads as it did. -/
def fnIsAroundBothUptoRow : OpenClaim := { program := "ytpahljbcffmaaaa", sum := "f98110e14258faf0e3d39411a5e5bb8784442f08ca7d9e794e64137365990dc8", func := "loop.example/flexlayout/laws.FnIsAroundBoth", spec := "fnIsAroundBoth", apart := false, narrowed := true }
def FnIsAroundBothUptoSaid : Prop := fnIsAroundBothUptoRow.holds Try.pinned (OpenSpec.upto fnIsAroundBothSpec)

/-- 'laws.FnCountIn', WHERE WHAT IT READS IS OF BULK AT MOST 1048576: true; the input reads as it did. -/
def fnCountInUptoRow : OpenClaim := { program := "ytpahljbcffmaaaa", sum := "f98110e14258faf0e3d39411a5e5bb8784442f08ca7d9e794e64137365990dc8", func := "loop.example/flexlayout/laws.FnCountIn", spec := "fnCountIn", apart := false, narrowed := true }
def FnCountInUptoSaid : Prop := fnCountInUptoRow.holds Try.pinned (OpenSpec.upto fnCountInSpec)

/-- 'laws.FnCountInAround', WHERE WHAT IT READS IS OF BULK AT MOST 1048576: true; the input reads as it did. -/
def fnCountInAroundUptoRow : OpenClaim := { program := "ytpahljbcffmaaaa", sum := "f98110e14258faf0e3d39411a5e5bb8784442f08ca7d9e794e64137365990dc8", func := "loop.example/flexlayout/laws.FnCountInAround", spec := "fnCountInAround", apart := false, narrowed := true }
def FnCountInAroundUptoSaid : Prop := fnCountInAroundUptoRow.holds Try.pinned (OpenSpec.upto fnCountInAroundSpec)

/-- 'laws.FnKidsOfDepth', WHERE WHAT IT READS IS OF BULK AT MOST 1048576: true; the input reads as it did. -/
def fnKidsOfDepthUptoRow : OpenClaim := { program := "ytpahljbcffmaaaa", sum := "f98110e14258faf0e3d39411a5e5bb8784442f08ca7d9e794e64137365990dc8", func := "loop.example/flexlayout/laws.FnKidsOfDepth", spec := "fnKidsOfDepth", apart := false, narrowed := true }
def FnKidsOfDepthUptoSaid : Prop := fnKidsOfDepthUptoRow.holds Try.pinned (OpenSpec.upto fnKidsOfDepthSpec)

/-- 'laws.FnKidsOfNext', WHERE WHAT IT READS IS OF BULK AT MOST 1048576: true; the input reads as it did. -/
def fnKidsOfNextUptoRow : OpenClaim := { program := "ytpahljbcffmaaaa", sum := "f98110e14258faf0e3d39411a5e5bb8784442f08ca7d9e794e64137365990dc8", func := "loop.example/flexlayout/laws.FnKidsOfNext", spec := "fnKidsOfNext", apart := false, narrowed := true }
def FnKidsOfNextUptoSaid : Prop := fnKidsOfNextUptoRow.holds Try.pinned (OpenSpec.upto fnKidsOfNextSpec)

/-- 'laws.FnDepthOfPath', WHERE WHAT IT READS IS OF BULK AT MOST 1048576: true; the input reads as it did. -/
def fnDepthOfPathUptoRow : OpenClaim := { program := "ytpahljbcffmaaaa", sum := "f98110e14258faf0e3d39411a5e5bb8784442f08ca7d9e794e64137365990dc8", func := "loop.example/flexlayout/laws.FnDepthOfPath", spec := "fnDepthOfPath", apart := false, narrowed := true }
def FnDepthOfPathUptoSaid : Prop := fnDepthOfPathUptoRow.holds Try.pinned (OpenSpec.upto fnDepthOfPathSpec)

/-- 'laws.FnPathTo', WHERE WHAT IT READS IS OF BULK AT MOST 1048576: true; the input reads as it did. -/
def fnPathToUptoRow : OpenClaim := { program := "ytpahljbcffmaaaa", sum := "f98110e14258faf0e3d39411a5e5bb8784442f08ca7d9e794e64137365990dc8", func := "loop.example/flexlayout/laws.FnPathTo", spec := "fnPathTo", apart := false, narrowed := true }
def FnPathToUptoSaid : Prop := fnPathToUptoRow.holds Try.pinned (OpenSpec.upto fnPathToSpec)

end Rows
end Go.Proofs.Ytpahljbcffmaaaa
