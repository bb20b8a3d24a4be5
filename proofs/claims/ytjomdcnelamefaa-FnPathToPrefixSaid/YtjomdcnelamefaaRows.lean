/-
  No cell of these rows narrows 'for every input' (looked for: loops, veiled, ifaces, maps, wideKeys, modest, calm, conditions, laid).
  DERIVED. THE GIVEN ROWS OF THIS SEAT. 10 by the template 'for every input the law returns true; each argument reads behind the call as it read before'; 0 by the template 'total and deterministic' (their statements: YtjomdcnelamefaaTotals.lean).
  GIVEN WITH THE SEED: the statements are not yours to turn. If you find one false, say at which input.
  Laid BY PROGRAM, IN A SANDBOX (cutbox-rows.mjs): the forced cells as the released guide's own fill.sh prints them over the translation bcc8702b01e2be95… (all of the seat's roots in one cut). By AI agents, Wed Nov 11 2026. No macro, syntax, notation, axiom, sorry.
-/
import Derived.Test.YtjomdcnelamefaaChecked
import GoSem.Claim
import GoSem.ClaimJoined
import GoSem.ClaimMapViews
import Derived.JoinedTies
import Derived.KernelRfl
namespace Go.Proofs.Ytjomdcnelamefaa
/- THE CELL 'sum', in the pinned program and in every row, IS THE sha256 OF THE DUMP (.gsa) THAT YtjomdcnelamefaaProg.lean LOADS. Nothing in Lean hashes anything: it is a label: what it is worth is what the hold of that sum in a sandbox is worth. -/
noncomputable def Try.pinned : Pinned := { name := "ytjomdcnelamefaa", sum := "bcc8702b01e2be955f313a99a544829ec3e0e998f53b2e30cff82e7c7501b3a3", checked := Try.checked }
namespace Rows
def none {H : Type} : Left H := { results := [], args := [] }

/-- 'laws.FnPathToAround': WHATEVER THE INPUT: true; the input reads as it did. -/
def fnPathToAroundSpec : ChangeSpec := { name := "fnPathToAround", fn := fun _ => fun
  | [d] => { results := [.lit (.bool true)], args := [d] }
  | _ => none }
def fnPathToAroundRow : OpenClaim := { program := "ytjomdcnelamefaa", sum := "bcc8702b01e2be955f313a99a544829ec3e0e998f53b2e30cff82e7c7501b3a3", func := "loop.example/flexlayout/laws.FnPathToAround", spec := "fnPathToAround", apart := false }
def FnPathToAroundSaid : Prop := fnPathToAroundRow.holds Try.pinned (OpenSpec.ofChange fnPathToAroundSpec)

/-- ITS FALSE NEIGHBOUR: 'it returns false'. Refute it at one input. -/
def fnPathToAroundWrong : ChangeSpec := { name := "fnPathToAround", fn := fun _ => fun
  | [d] => { results := [.lit (.bool false)], args := [d] }
  | _ => none }
def FnPathToAroundWrongFalsely : Prop := fnPathToAroundRow.holds Try.pinned (OpenSpec.ofChange fnPathToAroundWrong)

/-- 'laws.FnPathToPrefix': WHATEVER THE INPUT: true; the input reads as it did. -/
def fnPathToPrefixSpec : ChangeSpec := { name := "fnPathToPrefix", fn := fun _ => fun
  | [d] => { results := [.lit (.bool true)], args := [d] }
  | _ => none }
def fnPathToPrefixRow : OpenClaim := { program := "ytjomdcnelamefaa", sum := "bcc8702b01e2be955f313a99a544829ec3e0e998f53b2e30cff82e7c7501b3a3", func := "loop.example/flexlayout/laws.FnPathToPrefix", spec := "fnPathToPrefix", apart := false }
def FnPathToPrefixSaid : Prop := fnPathToPrefixRow.holds Try.pinned (OpenSpec.ofChange fnPathToPrefixSpec)

/-- ITS FALSE NEIGHBOUR: 'it returns false'. Refute it at one input. -/
def fnPathToPrefixWrong : ChangeSpec := { name := "fnPathToPrefix", fn := fun _ => fun
  | [d] => { results := [.lit (.bool false)], args := [d] }
  | _ => none }
def FnPathToPrefixWrongFalsely : Prop := fnPathToPrefixRow.holds Try.pinned (OpenSpec.ofChange fnPathToPrefixWrong)

/-- 'laws.FnNextLeaf': WHATEVER THE INPUT: true; the input reads as it did. -/
def fnNextLeafSpec : ChangeSpec := { name := "fnNextLeaf", fn := fun _ => fun
  | [d] => { results := [.lit (.bool true)], args := [d] }
  | _ => none }
def fnNextLeafRow : OpenClaim := { program := "ytjomdcnelamefaa", sum := "bcc8702b01e2be955f313a99a544829ec3e0e998f53b2e30cff82e7c7501b3a3", func := "loop.example/flexlayout/laws.FnNextLeaf", spec := "fnNextLeaf", apart := false }
def FnNextLeafSaid : Prop := fnNextLeafRow.holds Try.pinned (OpenSpec.ofChange fnNextLeafSpec)

/-- ITS FALSE NEIGHBOUR: 'it returns false'. Refute it at one input. -/
def fnNextLeafWrong : ChangeSpec := { name := "fnNextLeaf", fn := fun _ => fun
  | [d] => { results := [.lit (.bool false)], args := [d] }
  | _ => none }
def FnNextLeafWrongFalsely : Prop := fnNextLeafRow.holds Try.pinned (OpenSpec.ofChange fnNextLeafWrong)

/-- 'laws.FnNextLeafAll': WHATEVER THE INPUT: true; the input reads as it did. -/
def fnNextLeafAllSpec : ChangeSpec := { name := "fnNextLeafAll", fn := fun _ => fun
  | [d] => { results := [.lit (.bool true)], args := [d] }
  | _ => none }
def fnNextLeafAllRow : OpenClaim := { program := "ytjomdcnelamefaa", sum := "bcc8702b01e2be955f313a99a544829ec3e0e998f53b2e30cff82e7c7501b3a3", func := "loop.example/flexlayout/laws.FnNextLeafAll", spec := "fnNextLeafAll", apart := false }
def FnNextLeafAllSaid : Prop := fnNextLeafAllRow.holds Try.pinned (OpenSpec.ofChange fnNextLeafAllSpec)

/-- ITS FALSE NEIGHBOUR: 'it returns false'. Refute it at one input. -/
def fnNextLeafAllWrong : ChangeSpec := { name := "fnNextLeafAll", fn := fun _ => fun
  | [d] => { results := [.lit (.bool false)], args := [d] }
  | _ => none }
def FnNextLeafAllWrongFalsely : Prop := fnNextLeafAllRow.holds Try.pinned (OpenSpec.ofChange fnNextLeafAllWrong)

/-- 'laws.FnNextLeafNone': WHATEVER THE INPUT: true; the input reads as it did. -/
def fnNextLeafNoneSpec : ChangeSpec := { name := "fnNextLeafNone", fn := fun _ => fun
  | [d] => { results := [.lit (.bool true)], args := [d] }
  | _ => none }
def fnNextLeafNoneRow : OpenClaim := { program := "ytjomdcnelamefaa", sum := "bcc8702b01e2be955f313a99a544829ec3e0e998f53b2e30cff82e7c7501b3a3", func := "loop.example/flexlayout/laws.FnNextLeafNone", spec := "fnNextLeafNone", apart := false }
def FnNextLeafNoneSaid : Prop := fnNextLeafNoneRow.holds Try.pinned (OpenSpec.ofChange fnNextLeafNoneSpec)

/-- ITS FALSE NEIGHBOUR: 'it returns false'. Refute it at one input. -/
def fnNextLeafNoneWrong : ChangeSpec := { name := "fnNextLeafNone", fn := fun _ => fun
  | [d] => { results := [.lit (.bool false)], args := [d] }
  | _ => none }
def FnNextLeafNoneWrongFalsely : Prop := fnNextLeafNoneRow.holds Try.pinned (OpenSpec.ofChange fnNextLeafNoneWrong)

/-- 'laws.FnLayoutRoot': WHATEVER THE INPUT: true; the input reads as it did. -/
def fnLayoutRootSpec : ChangeSpec := { name := "fnLayoutRoot", fn := fun _ => fun
  | [d] => { results := [.lit (.bool true)], args := [d] }
  | _ => none }
def fnLayoutRootRow : OpenClaim := { program := "ytjomdcnelamefaa", sum := "bcc8702b01e2be955f313a99a544829ec3e0e998f53b2e30cff82e7c7501b3a3", func := "loop.example/flexlayout/laws.FnLayoutRoot", spec := "fnLayoutRoot", apart := false }
def FnLayoutRootSaid : Prop := fnLayoutRootRow.holds Try.pinned (OpenSpec.ofChange fnLayoutRootSpec)

/-- ITS FALSE NEIGHBOUR: 'it returns false'. Refute it at one input. -/
def fnLayoutRootWrong : ChangeSpec := { name := "fnLayoutRoot", fn := fun _ => fun
  | [d] => { results := [.lit (.bool false)], args := [d] }
  | _ => none }
def FnLayoutRootWrongFalsely : Prop := fnLayoutRootRow.holds Try.pinned (OpenSpec.ofChange fnLayoutRootWrong)

/-- 'laws.FnLayoutRootKid': WHATEVER THE INPUT: true; the input reads as it did. -/
def fnLayoutRootKidSpec : ChangeSpec := { name := "fnLayoutRootKid", fn := fun _ => fun
  | [d] => { results := [.lit (.bool true)], args := [d] }
  | _ => none }
def fnLayoutRootKidRow : OpenClaim := { program := "ytjomdcnelamefaa", sum := "bcc8702b01e2be955f313a99a544829ec3e0e998f53b2e30cff82e7c7501b3a3", func := "loop.example/flexlayout/laws.FnLayoutRootKid", spec := "fnLayoutRootKid", apart := false }
def FnLayoutRootKidSaid : Prop := fnLayoutRootKidRow.holds Try.pinned (OpenSpec.ofChange fnLayoutRootKidSpec)

/-- ITS FALSE NEIGHBOUR: 'it returns false'. Refute it at one input. -/
def fnLayoutRootKidWrong : ChangeSpec := { name := "fnLayoutRootKid", fn := fun _ => fun
  | [d] => { results := [.lit (.bool false)], args := [d] }
  | _ => none }
def FnLayoutRootKidWrongFalsely : Prop := fnLayoutRootKidRow.holds Try.pinned (OpenSpec.ofChange fnLayoutRootKidWrong)

/-- 'laws.FnCommonBox': WHATEVER THE INPUT: true; the input reads as it did. -/
def fnCommonBoxSpec : ChangeSpec := { name := "fnCommonBox", fn := fun _ => fun
  | [d] => { results := [.lit (.bool true)], args := [d] }
  | _ => none }
def fnCommonBoxRow : OpenClaim := { program := "ytjomdcnelamefaa", sum := "bcc8702b01e2be955f313a99a544829ec3e0e998f53b2e30cff82e7c7501b3a3", func := "loop.example/flexlayout/laws.FnCommonBox", spec := "fnCommonBox", unfollowed := true, recurses := true, apart := false }
def FnCommonBoxSaid : Prop := fnCommonBoxRow.holds Try.pinned (OpenSpec.ofChange fnCommonBoxSpec)

/-- ITS FALSE NEIGHBOUR: 'it returns false'. Refute it at one input. -/
def fnCommonBoxWrong : ChangeSpec := { name := "fnCommonBox", fn := fun _ => fun
  | [d] => { results := [.lit (.bool false)], args := [d] }
  | _ => none }
def FnCommonBoxWrongFalsely : Prop := fnCommonBoxRow.holds Try.pinned (OpenSpec.ofChange fnCommonBoxWrong)

/-- 'laws.FnCommonBoxOrder': WHATEVER THE INPUT: true; the input reads as it did. -/
def fnCommonBoxOrderSpec : ChangeSpec := { name := "fnCommonBoxOrder", fn := fun _ => fun
  | [d] => { results := [.lit (.bool true)], args := [d] }
  | _ => none }
def fnCommonBoxOrderRow : OpenClaim := { program := "ytjomdcnelamefaa", sum := "bcc8702b01e2be955f313a99a544829ec3e0e998f53b2e30cff82e7c7501b3a3", func := "loop.example/flexlayout/laws.FnCommonBoxOrder", spec := "fnCommonBoxOrder", unfollowed := true, recurses := true, apart := false }
def FnCommonBoxOrderSaid : Prop := fnCommonBoxOrderRow.holds Try.pinned (OpenSpec.ofChange fnCommonBoxOrderSpec)

/-- ITS FALSE NEIGHBOUR: 'it returns false'. Refute it at one input. -/
def fnCommonBoxOrderWrong : ChangeSpec := { name := "fnCommonBoxOrder", fn := fun _ => fun
  | [d] => { results := [.lit (.bool false)], args := [d] }
  | _ => none }
def FnCommonBoxOrderWrongFalsely : Prop := fnCommonBoxOrderRow.holds Try.pinned (OpenSpec.ofChange fnCommonBoxOrderWrong)

/-- 'laws.FnCommonBoxPath': WHATEVER THE INPUT: true; the input reads as it did. -/
def fnCommonBoxPathSpec : ChangeSpec := { name := "fnCommonBoxPath", fn := fun _ => fun
  | [d] => { results := [.lit (.bool true)], args := [d] }
  | _ => none }
def fnCommonBoxPathRow : OpenClaim := { program := "ytjomdcnelamefaa", sum := "bcc8702b01e2be955f313a99a544829ec3e0e998f53b2e30cff82e7c7501b3a3", func := "loop.example/flexlayout/laws.FnCommonBoxPath", spec := "fnCommonBoxPath", unfollowed := true, recurses := true, apart := false }
def FnCommonBoxPathSaid : Prop := fnCommonBoxPathRow.holds Try.pinned (OpenSpec.ofChange fnCommonBoxPathSpec)

/-- ITS FALSE NEIGHBOUR: 'it returns false'. Refute it at one input. -/
def fnCommonBoxPathWrong : ChangeSpec := { name := "fnCommonBoxPath", fn := fun _ => fun
  | [d] => { results := [.lit (.bool false)], args := [d] }
  | _ => none }
def FnCommonBoxPathWrongFalsely : Prop := fnCommonBoxPathRow.holds Try.pinned (OpenSpec.ofChange fnCommonBoxPathWrong)

/- THE SECOND FORM. 'bulk': how many values and letters a reading holds, each counted each time it is reached (what is shared counts as often as it is met; a slice's spare places count too). A statement '..UptoSaid' is the law's where the arguments, and the package variables that the reading takes, are together of bulk at most 1048576: NARROWER than '..Said'. Prove '..Said' where nothing that the law and all that it calls make is longer than what came in: it says more and counts as full. Else prove '..UptoSaid'. A law counts once. -/
mutual
def uptoBulk {H : Type} : DataW H → Nat
  | .lit (.string bytes) => bytes.length + 1
  | .lit _ => 1
  | .nil => 1
  | .ptr d => uptoBulk d + 1
  | .slice elems spare => uptoBulkAll elems + uptoBulkAll spare + 1
  | .agg parts => uptoBulkAll parts + 1
  | .iface _ d => uptoBulk d + 1
  | .map entries => uptoBulkEntries entries + 1
  | .held _ => 1
def uptoBulkAll {H : Type} : List (DataW H) → Nat
  | [] => 0
  | d :: r => uptoBulk d + uptoBulkAll r
def uptoBulkEntries {H : Type} : List (Lit × DataW H) → Nat
  | [] => 0
  | x :: r => uptoBulkEntry x + uptoBulkEntries r
def uptoBulkEntry {H : Type} : Lit × DataW H → Nat
  | (.string bytes, d) => bytes.length + uptoBulk d + 1
  | (_, d) => uptoBulk d + 1
 end
def uptoSmall : (H : Type) → List (DataW H) → Bool := fun _ ds => decide (uptoBulkAll ds ≤ 1048576)
def OpenSpec.upto (s : _root_.Go.ChangeSpec) : _root_.Go.OpenSpec := { _root_.Go.OpenSpec.ofChange s with cond := some uptoSmall }

/-- 'laws.FnPathToAround', WHERE WHAT IT READS IS OF BULK AT MOST 1048576: true; the input reads as it did. -/
def fnPathToAroundUptoRow : OpenClaim := { program := "ytjomdcnelamefaa", sum := "bcc8702b01e2be955f313a99a544829ec3e0e998f53b2e30cff82e7c7501b3a3", func := "loop.example/flexlayout/laws.FnPathToAround", spec := "fnPathToAround", apart := false, narrowed := true }
def FnPathToAroundUptoSaid : Prop := fnPathToAroundUptoRow.holds Try.pinned (OpenSpec.upto fnPathToAroundSpec)

/-- 'laws.FnPathToPrefix', WHERE WHAT IT READS IS OF BULK AT MOST 1048576: true; the input reads as it did. -/
def fnPathToPrefixUptoRow : OpenClaim := { program := "ytjomdcnelamefaa", sum := "bcc8702b01e2be955f313a99a544829ec3e0e998f53b2e30cff82e7c7501b3a3", func := "loop.example/flexlayout/laws.FnPathToPrefix", spec := "fnPathToPrefix", apart := false, narrowed := true }
def FnPathToPrefixUptoSaid : Prop := fnPathToPrefixUptoRow.holds Try.pinned (OpenSpec.upto fnPathToPrefixSpec)

/-- 'laws.FnNextLeaf', WHERE WHAT IT READS IS OF BULK AT MOST 1048576: true; the input reads as it did. -/
def fnNextLeafUptoRow : OpenClaim := { program := "ytjomdcnelamefaa", sum := "bcc8702b01e2be955f313a99a544829ec3e0e998f53b2e30cff82e7c7501b3a3", func := "loop.example/flexlayout/laws.FnNextLeaf", spec := "fnNextLeaf", apart := false, narrowed := true }
def FnNextLeafUptoSaid : Prop := fnNextLeafUptoRow.holds Try.pinned (OpenSpec.upto fnNextLeafSpec)

/-- 'laws.FnNextLeafAll', WHERE WHAT IT READS IS OF BULK AT MOST 1048576: true; the input reads as it did. -/
def fnNextLeafAllUptoRow : OpenClaim := { program := "ytjomdcnelamefaa", sum := "bcc8702b01e2be955f313a99a544829ec3e0e998f53b2e30cff82e7c7501b3a3", func := "loop.example/flexlayout/laws.FnNextLeafAll", spec := "fnNextLeafAll", apart := false, narrowed := true }
def FnNextLeafAllUptoSaid : Prop := fnNextLeafAllUptoRow.holds Try.pinned (OpenSpec.upto fnNextLeafAllSpec)

/-- 'laws.FnNextLeafNone', WHERE WHAT IT READS IS OF BULK AT MOST 1048576: true; the input reads as it did. -/
def fnNextLeafNoneUptoRow : OpenClaim := { program := "ytjomdcnelamefaa", sum := "bcc8702b01e2be955f313a99a544829ec3e0e998f53b2e30cff82e7c7501b3a3", func := "loop.example/flexlayout/laws.FnNextLeafNone", spec := "fnNextLeafNone", apart := false, narrowed := true }
def FnNextLeafNoneUptoSaid : Prop := fnNextLeafNoneUptoRow.holds Try.pinned (OpenSpec.upto fnNextLeafNoneSpec)

/-- 'laws.FnLayoutRoot', WHERE WHAT IT READS IS OF BULK AT MOST 1048576: true; the input reads as it did. -/
def fnLayoutRootUptoRow : OpenClaim := { program := "ytjomdcnelamefaa", sum := "bcc8702b01e2be955f313a99a544829ec3e0e998f53b2e30cff82e7c7501b3a3", func := "loop.example/flexlayout/laws.FnLayoutRoot", spec := "fnLayoutRoot", apart := false, narrowed := true }
def FnLayoutRootUptoSaid : Prop := fnLayoutRootUptoRow.holds Try.pinned (OpenSpec.upto fnLayoutRootSpec)

/-- 'laws.FnLayoutRootKid', WHERE WHAT IT READS IS OF BULK AT MOST 1048576: true; the input reads as it did. -/
def fnLayoutRootKidUptoRow : OpenClaim := { program := "ytjomdcnelamefaa", sum := "bcc8702b01e2be955f313a99a544829ec3e0e998f53b2e30cff82e7c7501b3a3", func := "loop.example/flexlayout/laws.FnLayoutRootKid", spec := "fnLayoutRootKid", apart := false, narrowed := true }
def FnLayoutRootKidUptoSaid : Prop := fnLayoutRootKidUptoRow.holds Try.pinned (OpenSpec.upto fnLayoutRootKidSpec)

/-- 'laws.FnCommonBox', WHERE WHAT IT READS IS OF BULK AT MOST 1048576: true; the input reads as it did. -/
def fnCommonBoxUptoRow : OpenClaim := { program := "ytjomdcnelamefaa", sum := "bcc8702b01e2be955f313a99a544829ec3e0e998f53b2e30cff82e7c7501b3a3", func := "loop.example/flexlayout/laws.FnCommonBox", spec := "fnCommonBox", unfollowed := true, recurses := true, apart := false, narrowed := true }
def FnCommonBoxUptoSaid : Prop := fnCommonBoxUptoRow.holds Try.pinned (OpenSpec.upto fnCommonBoxSpec)

/-- 'laws.FnCommonBoxOrder', WHERE WHAT IT READS IS OF BULK AT MOST 1048576: true; the input reads as it did. -/
def fnCommonBoxOrderUptoRow : OpenClaim := { program := "ytjomdcnelamefaa", sum := "bcc8702b01e2be955f313a99a544829ec3e0e998f53b2e30cff82e7c7501b3a3", func := "loop.example/flexlayout/laws.FnCommonBoxOrder", spec := "fnCommonBoxOrder", unfollowed := true, recurses := true, apart := false, narrowed := true }
def FnCommonBoxOrderUptoSaid : Prop := fnCommonBoxOrderUptoRow.holds Try.pinned (OpenSpec.upto fnCommonBoxOrderSpec)

/-- 'laws.FnCommonBoxPath', WHERE WHAT IT READS IS OF BULK AT MOST 1048576: true; the input reads as it did. -/
def fnCommonBoxPathUptoRow : OpenClaim := { program := "ytjomdcnelamefaa", sum := "bcc8702b01e2be955f313a99a544829ec3e0e998f53b2e30cff82e7c7501b3a3", func := "loop.example/flexlayout/laws.FnCommonBoxPath", spec := "fnCommonBoxPath", unfollowed := true, recurses := true, apart := false, narrowed := true }
def FnCommonBoxPathUptoSaid : Prop := fnCommonBoxPathUptoRow.holds Try.pinned (OpenSpec.upto fnCommonBoxPathSpec)

end Rows
end Go.Proofs.Ytjomdcnelamefaa
