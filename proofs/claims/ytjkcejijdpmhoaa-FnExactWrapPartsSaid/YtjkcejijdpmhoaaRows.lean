/-
  No cell of these rows narrows 'for every input' (looked for: loops, veiled, ifaces, maps, wideKeys, modest, calm, conditions, laid).
  DERIVED. THE GIVEN ROWS OF THIS SEAT. 15 by the template 'for every input the law returns true; each argument reads behind the call as it read before'; 0 by the template 'total and deterministic' (their statements: YtjkcejijdpmhoaaTotals.lean).
  GIVEN WITH THE SEED: the statements are not yours to turn. If you find one false, say at which input.
  Laid BY PROGRAM, IN A SANDBOX (cutbox-rows.mjs): the forced cells as the released guide's own fill.sh prints them over the translation 7f6dac4156a9d1d9… (all of the seat's roots in one cut). By AI agents, Wed Nov 11 2026. No macro, syntax, notation, axiom, sorry.
-/
import Derived.Test.YtjkcejijdpmhoaaChecked
import GoSem.Claim
import GoSem.ClaimJoined
import GoSem.ClaimMapViews
import Derived.JoinedTies
import Derived.KernelRfl
namespace Go.Proofs.Ytjkcejijdpmhoaa
/- THE CELL 'sum', in the pinned program and in every row, IS THE sha256 OF THE DUMP (.gsa) THAT YtjkcejijdpmhoaaProg.lean LOADS. Nothing in Lean hashes anything: it is a label: what it is worth is what the hold of that sum in a sandbox is worth. -/
noncomputable def Try.pinned : Pinned := { name := "ytjkcejijdpmhoaa", sum := "7f6dac4156a9d1d936dfec2cfbf1f3be07dc05f59bf9f7f0f1886f6dcd0f34d0", checked := Try.checked }
namespace Rows
def none {H : Type} : Left H := { results := [], args := [] }

/-- 'laws.FnValidParts': WHATEVER THE INPUT: true; the input reads as it did. -/
def fnValidPartsSpec : ChangeSpec := { name := "fnValidParts", fn := fun _ => fun
  | [d] => { results := [.lit (.bool true)], args := [d] }
  | _ => none }
def fnValidPartsRow : OpenClaim := { program := "ytjkcejijdpmhoaa", sum := "7f6dac4156a9d1d936dfec2cfbf1f3be07dc05f59bf9f7f0f1886f6dcd0f34d0", func := "loop.example/flexlayout/laws.FnValidParts", spec := "fnValidParts", unfollowed := true, recurses := true, apart := false }
def FnValidPartsSaid : Prop := fnValidPartsRow.holds Try.pinned (OpenSpec.ofChange fnValidPartsSpec)

/-- ITS FALSE NEIGHBOUR: 'it returns false'. Refute it at one input. -/
def fnValidPartsWrong : ChangeSpec := { name := "fnValidParts", fn := fun _ => fun
  | [d] => { results := [.lit (.bool false)], args := [d] }
  | _ => none }
def FnValidPartsWrongFalsely : Prop := fnValidPartsRow.holds Try.pinned (OpenSpec.ofChange fnValidPartsWrong)

/-- 'laws.FnExactValidParts': WHATEVER THE INPUT: true; the input reads as it did. -/
def fnExactValidPartsSpec : ChangeSpec := { name := "fnExactValidParts", fn := fun _ => fun
  | [d] => { results := [.lit (.bool true)], args := [d] }
  | _ => none }
def fnExactValidPartsRow : OpenClaim := { program := "ytjkcejijdpmhoaa", sum := "7f6dac4156a9d1d936dfec2cfbf1f3be07dc05f59bf9f7f0f1886f6dcd0f34d0", func := "loop.example/flexlayout/laws.FnExactValidParts", spec := "fnExactValidParts", unfollowed := true, recurses := true, apart := false }
def FnExactValidPartsSaid : Prop := fnExactValidPartsRow.holds Try.pinned (OpenSpec.ofChange fnExactValidPartsSpec)

/-- ITS FALSE NEIGHBOUR: 'it returns false'. Refute it at one input. -/
def fnExactValidPartsWrong : ChangeSpec := { name := "fnExactValidParts", fn := fun _ => fun
  | [d] => { results := [.lit (.bool false)], args := [d] }
  | _ => none }
def FnExactValidPartsWrongFalsely : Prop := fnExactValidPartsRow.holds Try.pinned (OpenSpec.ofChange fnExactValidPartsWrong)

/-- 'laws.FnLineCountsOne': WHATEVER THE INPUT: true; the input reads as it did. -/
def fnLineCountsOneSpec : ChangeSpec := { name := "fnLineCountsOne", fn := fun _ => fun
  | [d] => { results := [.lit (.bool true)], args := [d] }
  | _ => none }
def fnLineCountsOneRow : OpenClaim := { program := "ytjkcejijdpmhoaa", sum := "7f6dac4156a9d1d936dfec2cfbf1f3be07dc05f59bf9f7f0f1886f6dcd0f34d0", func := "loop.example/flexlayout/laws.FnLineCountsOne", spec := "fnLineCountsOne", unfollowed := true, recurses := true, apart := false }
def FnLineCountsOneSaid : Prop := fnLineCountsOneRow.holds Try.pinned (OpenSpec.ofChange fnLineCountsOneSpec)

/-- ITS FALSE NEIGHBOUR: 'it returns false'. Refute it at one input. -/
def fnLineCountsOneWrong : ChangeSpec := { name := "fnLineCountsOne", fn := fun _ => fun
  | [d] => { results := [.lit (.bool false)], args := [d] }
  | _ => none }
def FnLineCountsOneWrongFalsely : Prop := fnLineCountsOneRow.holds Try.pinned (OpenSpec.ofChange fnLineCountsOneWrong)

/-- 'laws.FnLineCounts': WHATEVER THE INPUT: true; the input reads as it did. -/
def fnLineCountsSpec : ChangeSpec := { name := "fnLineCounts", fn := fun _ => fun
  | [d] => { results := [.lit (.bool true)], args := [d] }
  | _ => none }
def fnLineCountsRow : OpenClaim := { program := "ytjkcejijdpmhoaa", sum := "7f6dac4156a9d1d936dfec2cfbf1f3be07dc05f59bf9f7f0f1886f6dcd0f34d0", func := "loop.example/flexlayout/laws.FnLineCounts", spec := "fnLineCounts", unfollowed := true, recurses := true, apart := false }
def FnLineCountsSaid : Prop := fnLineCountsRow.holds Try.pinned (OpenSpec.ofChange fnLineCountsSpec)

/-- ITS FALSE NEIGHBOUR: 'it returns false'. Refute it at one input. -/
def fnLineCountsWrong : ChangeSpec := { name := "fnLineCounts", fn := fun _ => fun
  | [d] => { results := [.lit (.bool false)], args := [d] }
  | _ => none }
def FnLineCountsWrongFalsely : Prop := fnLineCountsRow.holds Try.pinned (OpenSpec.ofChange fnLineCountsWrong)

/-- 'laws.FnLineCountsFull': WHATEVER THE INPUT: true; the input reads as it did. -/
def fnLineCountsFullSpec : ChangeSpec := { name := "fnLineCountsFull", fn := fun _ => fun
  | [d] => { results := [.lit (.bool true)], args := [d] }
  | _ => none }
def fnLineCountsFullRow : OpenClaim := { program := "ytjkcejijdpmhoaa", sum := "7f6dac4156a9d1d936dfec2cfbf1f3be07dc05f59bf9f7f0f1886f6dcd0f34d0", func := "loop.example/flexlayout/laws.FnLineCountsFull", spec := "fnLineCountsFull", unfollowed := true, recurses := true, apart := false }
def FnLineCountsFullSaid : Prop := fnLineCountsFullRow.holds Try.pinned (OpenSpec.ofChange fnLineCountsFullSpec)

/-- ITS FALSE NEIGHBOUR: 'it returns false'. Refute it at one input. -/
def fnLineCountsFullWrong : ChangeSpec := { name := "fnLineCountsFull", fn := fun _ => fun
  | [d] => { results := [.lit (.bool false)], args := [d] }
  | _ => none }
def FnLineCountsFullWrongFalsely : Prop := fnLineCountsFullRow.holds Try.pinned (OpenSpec.ofChange fnLineCountsFullWrong)

/-- 'laws.FnExactLineCounts': WHATEVER THE INPUT: true; the input reads as it did. -/
def fnExactLineCountsSpec : ChangeSpec := { name := "fnExactLineCounts", fn := fun _ => fun
  | [d1, d2, d3] => { results := [.lit (.bool true)], args := [d1, d2, d3] }
  | _ => none }
def fnExactLineCountsRow : OpenClaim := { program := "ytjkcejijdpmhoaa", sum := "7f6dac4156a9d1d936dfec2cfbf1f3be07dc05f59bf9f7f0f1886f6dcd0f34d0", func := "loop.example/flexlayout/laws.FnExactLineCounts", spec := "fnExactLineCounts", unfollowed := true, recurses := true, apart := false }
def FnExactLineCountsSaid : Prop := fnExactLineCountsRow.holds Try.pinned (OpenSpec.ofChange fnExactLineCountsSpec)

/-- ITS FALSE NEIGHBOUR: 'it returns false'. Refute it at one input. -/
def fnExactLineCountsWrong : ChangeSpec := { name := "fnExactLineCounts", fn := fun _ => fun
  | [d1, d2, d3] => { results := [.lit (.bool false)], args := [d1, d2, d3] }
  | _ => none }
def FnExactLineCountsWrongFalsely : Prop := fnExactLineCountsRow.holds Try.pinned (OpenSpec.ofChange fnExactLineCountsWrong)

/-- 'laws.FnExactWrapHeight': WHATEVER THE INPUT: true; the input reads as it did. -/
def fnExactWrapHeightSpec : ChangeSpec := { name := "fnExactWrapHeight", fn := fun _ => fun
  | [d1, d2, d3] => { results := [.lit (.bool true)], args := [d1, d2, d3] }
  | _ => none }
def fnExactWrapHeightRow : OpenClaim := { program := "ytjkcejijdpmhoaa", sum := "7f6dac4156a9d1d936dfec2cfbf1f3be07dc05f59bf9f7f0f1886f6dcd0f34d0", func := "loop.example/flexlayout/laws.FnExactWrapHeight", spec := "fnExactWrapHeight", unfollowed := true, recurses := true, apart := false }
def FnExactWrapHeightSaid : Prop := fnExactWrapHeightRow.holds Try.pinned (OpenSpec.ofChange fnExactWrapHeightSpec)

/-- ITS FALSE NEIGHBOUR: 'it returns false'. Refute it at one input. -/
def fnExactWrapHeightWrong : ChangeSpec := { name := "fnExactWrapHeight", fn := fun _ => fun
  | [d1, d2, d3] => { results := [.lit (.bool false)], args := [d1, d2, d3] }
  | _ => none }
def FnExactWrapHeightWrongFalsely : Prop := fnExactWrapHeightRow.holds Try.pinned (OpenSpec.ofChange fnExactWrapHeightWrong)

/-- 'laws.FnWrapHeightWide': WHATEVER THE INPUT: true; the input reads as it did. -/
def fnWrapHeightWideSpec : ChangeSpec := { name := "fnWrapHeightWide", fn := fun _ => fun
  | [d] => { results := [.lit (.bool true)], args := [d] }
  | _ => none }
def fnWrapHeightWideRow : OpenClaim := { program := "ytjkcejijdpmhoaa", sum := "7f6dac4156a9d1d936dfec2cfbf1f3be07dc05f59bf9f7f0f1886f6dcd0f34d0", func := "loop.example/flexlayout/laws.FnWrapHeightWide", spec := "fnWrapHeightWide", unfollowed := true, recurses := true, apart := false }
def FnWrapHeightWideSaid : Prop := fnWrapHeightWideRow.holds Try.pinned (OpenSpec.ofChange fnWrapHeightWideSpec)

/-- ITS FALSE NEIGHBOUR: 'it returns false'. Refute it at one input. -/
def fnWrapHeightWideWrong : ChangeSpec := { name := "fnWrapHeightWide", fn := fun _ => fun
  | [d] => { results := [.lit (.bool false)], args := [d] }
  | _ => none }
def FnWrapHeightWideWrongFalsely : Prop := fnWrapHeightWideRow.holds Try.pinned (OpenSpec.ofChange fnWrapHeightWideWrong)

/-- 'laws.FnExactLineHeights': WHATEVER THE INPUT: true; the input reads as it did. -/
def fnExactLineHeightsSpec : ChangeSpec := { name := "fnExactLineHeights", fn := fun _ => fun
  | [d1, d2, d3] => { results := [.lit (.bool true)], args := [d1, d2, d3] }
  | _ => none }
def fnExactLineHeightsRow : OpenClaim := { program := "ytjkcejijdpmhoaa", sum := "7f6dac4156a9d1d936dfec2cfbf1f3be07dc05f59bf9f7f0f1886f6dcd0f34d0", func := "loop.example/flexlayout/laws.FnExactLineHeights", spec := "fnExactLineHeights", unfollowed := true, recurses := true, apart := false }
def FnExactLineHeightsSaid : Prop := fnExactLineHeightsRow.holds Try.pinned (OpenSpec.ofChange fnExactLineHeightsSpec)

/-- ITS FALSE NEIGHBOUR: 'it returns false'. Refute it at one input. -/
def fnExactLineHeightsWrong : ChangeSpec := { name := "fnExactLineHeights", fn := fun _ => fun
  | [d1, d2, d3] => { results := [.lit (.bool false)], args := [d1, d2, d3] }
  | _ => none }
def FnExactLineHeightsWrongFalsely : Prop := fnExactLineHeightsRow.holds Try.pinned (OpenSpec.ofChange fnExactLineHeightsWrong)

/-- 'laws.FnLineHeights': WHATEVER THE INPUT: true; the input reads as it did. -/
def fnLineHeightsSpec : ChangeSpec := { name := "fnLineHeights", fn := fun _ => fun
  | [d] => { results := [.lit (.bool true)], args := [d] }
  | _ => none }
def fnLineHeightsRow : OpenClaim := { program := "ytjkcejijdpmhoaa", sum := "7f6dac4156a9d1d936dfec2cfbf1f3be07dc05f59bf9f7f0f1886f6dcd0f34d0", func := "loop.example/flexlayout/laws.FnLineHeights", spec := "fnLineHeights", unfollowed := true, recurses := true, apart := false }
def FnLineHeightsSaid : Prop := fnLineHeightsRow.holds Try.pinned (OpenSpec.ofChange fnLineHeightsSpec)

/-- ITS FALSE NEIGHBOUR: 'it returns false'. Refute it at one input. -/
def fnLineHeightsWrong : ChangeSpec := { name := "fnLineHeights", fn := fun _ => fun
  | [d] => { results := [.lit (.bool false)], args := [d] }
  | _ => none }
def FnLineHeightsWrongFalsely : Prop := fnLineHeightsRow.holds Try.pinned (OpenSpec.ofChange fnLineHeightsWrong)

/-- 'laws.FnWrapHeightMore': WHATEVER THE INPUT: true; the input reads as it did. -/
def fnWrapHeightMoreSpec : ChangeSpec := { name := "fnWrapHeightMore", fn := fun _ => fun
  | [d] => { results := [.lit (.bool true)], args := [d] }
  | _ => none }
def fnWrapHeightMoreRow : OpenClaim := { program := "ytjkcejijdpmhoaa", sum := "7f6dac4156a9d1d936dfec2cfbf1f3be07dc05f59bf9f7f0f1886f6dcd0f34d0", func := "loop.example/flexlayout/laws.FnWrapHeightMore", spec := "fnWrapHeightMore", unfollowed := true, recurses := true, apart := false }
def FnWrapHeightMoreSaid : Prop := fnWrapHeightMoreRow.holds Try.pinned (OpenSpec.ofChange fnWrapHeightMoreSpec)

/-- ITS FALSE NEIGHBOUR: 'it returns false'. Refute it at one input. -/
def fnWrapHeightMoreWrong : ChangeSpec := { name := "fnWrapHeightMore", fn := fun _ => fun
  | [d] => { results := [.lit (.bool false)], args := [d] }
  | _ => none }
def FnWrapHeightMoreWrongFalsely : Prop := fnWrapHeightMoreRow.holds Try.pinned (OpenSpec.ofChange fnWrapHeightMoreWrong)

/-- 'laws.FnWrapHeight': WHATEVER THE INPUT: true; the input reads as it did. -/
def fnWrapHeightSpec : ChangeSpec := { name := "fnWrapHeight", fn := fun _ => fun
  | [d] => { results := [.lit (.bool true)], args := [d] }
  | _ => none }
def fnWrapHeightRow : OpenClaim := { program := "ytjkcejijdpmhoaa", sum := "7f6dac4156a9d1d936dfec2cfbf1f3be07dc05f59bf9f7f0f1886f6dcd0f34d0", func := "loop.example/flexlayout/laws.FnWrapHeight", spec := "fnWrapHeight", unfollowed := true, recurses := true, apart := false }
def FnWrapHeightSaid : Prop := fnWrapHeightRow.holds Try.pinned (OpenSpec.ofChange fnWrapHeightSpec)

/-- ITS FALSE NEIGHBOUR: 'it returns false'. Refute it at one input. -/
def fnWrapHeightWrong : ChangeSpec := { name := "fnWrapHeight", fn := fun _ => fun
  | [d] => { results := [.lit (.bool false)], args := [d] }
  | _ => none }
def FnWrapHeightWrongFalsely : Prop := fnWrapHeightRow.holds Try.pinned (OpenSpec.ofChange fnWrapHeightWrong)

/-- 'laws.FnWrapPartsWidth': WHATEVER THE INPUT: true; the input reads as it did. -/
def fnWrapPartsWidthSpec : ChangeSpec := { name := "fnWrapPartsWidth", fn := fun _ => fun
  | [d] => { results := [.lit (.bool true)], args := [d] }
  | _ => none }
def fnWrapPartsWidthRow : OpenClaim := { program := "ytjkcejijdpmhoaa", sum := "7f6dac4156a9d1d936dfec2cfbf1f3be07dc05f59bf9f7f0f1886f6dcd0f34d0", func := "loop.example/flexlayout/laws.FnWrapPartsWidth", spec := "fnWrapPartsWidth", unfollowed := true, recurses := true, apart := false }
def FnWrapPartsWidthSaid : Prop := fnWrapPartsWidthRow.holds Try.pinned (OpenSpec.ofChange fnWrapPartsWidthSpec)

/-- ITS FALSE NEIGHBOUR: 'it returns false'. Refute it at one input. -/
def fnWrapPartsWidthWrong : ChangeSpec := { name := "fnWrapPartsWidth", fn := fun _ => fun
  | [d] => { results := [.lit (.bool false)], args := [d] }
  | _ => none }
def FnWrapPartsWidthWrongFalsely : Prop := fnWrapPartsWidthRow.holds Try.pinned (OpenSpec.ofChange fnWrapPartsWidthWrong)

/-- 'laws.FnWrapParts': WHATEVER THE INPUT: true; the input reads as it did. -/
def fnWrapPartsSpec : ChangeSpec := { name := "fnWrapParts", fn := fun _ => fun
  | [d] => { results := [.lit (.bool true)], args := [d] }
  | _ => none }
def fnWrapPartsRow : OpenClaim := { program := "ytjkcejijdpmhoaa", sum := "7f6dac4156a9d1d936dfec2cfbf1f3be07dc05f59bf9f7f0f1886f6dcd0f34d0", func := "loop.example/flexlayout/laws.FnWrapParts", spec := "fnWrapParts", unfollowed := true, recurses := true, apart := false }
def FnWrapPartsSaid : Prop := fnWrapPartsRow.holds Try.pinned (OpenSpec.ofChange fnWrapPartsSpec)

/-- ITS FALSE NEIGHBOUR: 'it returns false'. Refute it at one input. -/
def fnWrapPartsWrong : ChangeSpec := { name := "fnWrapParts", fn := fun _ => fun
  | [d] => { results := [.lit (.bool false)], args := [d] }
  | _ => none }
def FnWrapPartsWrongFalsely : Prop := fnWrapPartsRow.holds Try.pinned (OpenSpec.ofChange fnWrapPartsWrong)

/-- 'laws.FnExactWrapParts': WHATEVER THE INPUT: true; the input reads as it did. -/
def fnExactWrapPartsSpec : ChangeSpec := { name := "fnExactWrapParts", fn := fun _ => fun
  | [d1, d2, d3] => { results := [.lit (.bool true)], args := [d1, d2, d3] }
  | _ => none }
def fnExactWrapPartsRow : OpenClaim := { program := "ytjkcejijdpmhoaa", sum := "7f6dac4156a9d1d936dfec2cfbf1f3be07dc05f59bf9f7f0f1886f6dcd0f34d0", func := "loop.example/flexlayout/laws.FnExactWrapParts", spec := "fnExactWrapParts", unfollowed := true, recurses := true, apart := false }
def FnExactWrapPartsSaid : Prop := fnExactWrapPartsRow.holds Try.pinned (OpenSpec.ofChange fnExactWrapPartsSpec)

/-- ITS FALSE NEIGHBOUR: 'it returns false'. Refute it at one input. -/
def fnExactWrapPartsWrong : ChangeSpec := { name := "fnExactWrapParts", fn := fun _ => fun
  | [d1, d2, d3] => { results := [.lit (.bool false)], args := [d1, d2, d3] }
  | _ => none }
def FnExactWrapPartsWrongFalsely : Prop := fnExactWrapPartsRow.holds Try.pinned (OpenSpec.ofChange fnExactWrapPartsWrong)

/- THE SECOND FORM. 'bulk': how many values and letters a reading holds, each counted each time it is reached (what is shared counts as often as it is met; a slice's spare places count too). A statement '..UptoSaid' is the law's where the arguments, and the package variables that the reading takes, are together of bulk at most 1048576: NARROWER than '..Said'. Prove '..Said' where nothing that the law and all that it calls make is longer than what came in: it says more and counts as full. Else prove '..UptoSaid'. A law counts once. -/
mutual
def uptoBulk {H : Type} : DataW H → Nat
  | .lit (.string bytes) => bytes.length + 1
  | .lit _ => 1
  | .nil => 1
  | .ptr d => uptoBulk d + 1
  | .slice elems spare => uptoBulkAll elems + uptoBulkAll spare + 1
  | .agg parts => uptoBulkAll parts + 1
  | .iface _ d => uptoBulk d + 1
  | .map entries => uptoBulkEntries entries + 1
  | .held _ => 1
def uptoBulkAll {H : Type} : List (DataW H) → Nat
  | [] => 0
  | d :: r => uptoBulk d + uptoBulkAll r
def uptoBulkEntries {H : Type} : List (Lit × DataW H) → Nat
  | [] => 0
  | x :: r => uptoBulkEntry x + uptoBulkEntries r
def uptoBulkEntry {H : Type} : Lit × DataW H → Nat
  | (.string bytes, d) => bytes.length + uptoBulk d + 1
  | (_, d) => uptoBulk d + 1
 end
def uptoSmall : (H : Type) → List (DataW H) → Bool := fun _ ds => decide (uptoBulkAll ds ≤ 1048576)
def OpenSpec.upto (s : _root_.Go.ChangeSpec) : _root_.Go.OpenSpec := { _root_.Go.OpenSpec.ofChange s with cond := some uptoSmall }

/-- 'laws.FnValidParts', WHERE WHAT IT READS IS OF BULK AT MOST 1048576: true; the input reads as it did. -/
def fnValidPartsUptoRow : OpenClaim := { program := "ytjkcejijdpmhoaa", sum := "7f6dac4156a9d1d936dfec2cfbf1f3be07dc05f59bf9f7f0f1886f6dcd0f34d0", func := "loop.example/flexlayout/laws.FnValidParts", spec := "fnValidParts", unfollowed := true, recurses := true, apart := false, narrowed := true }
def FnValidPartsUptoSaid : Prop := fnValidPartsUptoRow.holds Try.pinned (OpenSpec.upto fnValidPartsSpec)

/-- 'laws.FnExactValidParts', WHERE WHAT IT READS IS OF BULK AT MOST 1048576: true; the input reads as it did. -/
def fnExactValidPartsUptoRow : OpenClaim := { program := "ytjkcejijdpmhoaa", sum := "7f6dac4156a9d1d936dfec2cfbf1f3be07dc05f59bf9f7f0f1886f6dcd0f34d0", func := "loop.example/flexlayout/laws.FnExactValidParts", spec := "fnExactValidParts", unfollowed := true, recurses := true, apart := false, narrowed := true }
def FnExactValidPartsUptoSaid : Prop := fnExactValidPartsUptoRow.holds Try.pinned (OpenSpec.upto fnExactValidPartsSpec)

/-- 'laws.FnLineCountsOne', WHERE WHAT IT READS IS OF BULK AT MOST 1048576: true; the input reads as it did. -/
def fnLineCountsOneUptoRow : OpenClaim := { program := "ytjkcejijdpmhoaa", sum := "7f6dac4156a9d1d936dfec2cfbf1f3be07dc05f59bf9f7f0f1886f6dcd0f34d0", func := "loop.example/flexlayout/laws.FnLineCountsOne", spec := "fnLineCountsOne", unfollowed := true, recurses := true, apart := false, narrowed := true }
def FnLineCountsOneUptoSaid : Prop := fnLineCountsOneUptoRow.holds Try.pinned (OpenSpec.upto fnLineCountsOneSpec)

/-- 'laws.FnLineCounts', WHERE WHAT IT READS IS OF BULK AT MOST 1048576: true; the input reads as it did. -/
def fnLineCountsUptoRow : OpenClaim := { program := "ytjkcejijdpmhoaa", sum := "7f6dac4156a9d1d936dfec2cfbf1f3be07dc05f59bf9f7f0f1886f6dcd0f34d0", func := "loop.example/flexlayout/laws.FnLineCounts", spec := "fnLineCounts", unfollowed := true, recurses := true, apart := false, narrowed := true }
def FnLineCountsUptoSaid : Prop := fnLineCountsUptoRow.holds Try.pinned (OpenSpec.upto fnLineCountsSpec)

/-- 'laws.FnLineCountsFull', WHERE WHAT IT READS IS OF BULK AT MOST 1048576: true; the input reads as it did. -/
def fnLineCountsFullUptoRow : OpenClaim := { program := "ytjkcejijdpmhoaa", sum := "7f6dac4156a9d1d936dfec2cfbf1f3be07dc05f59bf9f7f0f1886f6dcd0f34d0", func := "loop.example/flexlayout/laws.FnLineCountsFull", spec := "fnLineCountsFull", unfollowed := true, recurses := true, apart := false, narrowed := true }
def FnLineCountsFullUptoSaid : Prop := fnLineCountsFullUptoRow.holds Try.pinned (OpenSpec.upto fnLineCountsFullSpec)

/-- 'laws.FnExactLineCounts', WHERE WHAT IT READS IS OF BULK AT MOST 1048576: true; the input reads as it did. -/
def fnExactLineCountsUptoRow : OpenClaim := { program := "ytjkcejijdpmhoaa", sum := "7f6dac4156a9d1d936dfec2cfbf1f3be07dc05f59bf9f7f0f1886f6dcd0f34d0", func := "loop.example/flexlayout/laws.FnExactLineCounts", spec := "fnExactLineCounts", unfollowed := true, recurses := true, apart := false, narrowed := true }
def FnExactLineCountsUptoSaid : Prop := fnExactLineCountsUptoRow.holds Try.pinned (OpenSpec.upto fnExactLineCountsSpec)

/-- 'laws.FnExactWrapHeight', WHERE WHAT IT READS IS OF BULK AT MOST 1048576: true; the input reads as it did. -/
def fnExactWrapHeightUptoRow : OpenClaim := { program := "ytjkcejijdpmhoaa", sum := "7f6dac4156a9d1d936dfec2cfbf1f3be07dc05f59bf9f7f0f1886f6dcd0f34d0", func := "loop.example/flexlayout/laws.FnExactWrapHeight", spec := "fnExactWrapHeight", unfollowed := true, recurses := true, apart := false, narrowed := true }
def FnExactWrapHeightUptoSaid : Prop := fnExactWrapHeightUptoRow.holds Try.pinned (OpenSpec.upto fnExactWrapHeightSpec)

/-- 'laws.FnWrapHeightWide', WHERE WHAT IT READS IS OF BULK AT MOST 1048576: true; the input reads as it did. -/
def fnWrapHeightWideUptoRow : OpenClaim := { program := "ytjkcejijdpmhoaa", sum := "7f6dac4156a9d1d936dfec2cfbf1f3be07dc05f59bf9f7f0f1886f6dcd0f34d0", func := "loop.example/flexlayout/laws.FnWrapHeightWide", spec := "fnWrapHeightWide", unfollowed := true, recurses := true, apart := false, narrowed := true }
def FnWrapHeightWideUptoSaid : Prop := fnWrapHeightWideUptoRow.holds Try.pinned (OpenSpec.upto fnWrapHeightWideSpec)

/-- 'laws.FnExactLineHeights', WHERE WHAT IT READS IS OF BULK AT MOST 1048576: true; the input reads as it did. -/
def fnExactLineHeightsUptoRow : OpenClaim := { program := "ytjkcejijdpmhoaa", sum := "7f6dac4156a9d1d936dfec2cfbf1f3be07dc05f59bf9f7f0f1886f6dcd0f34d0", func := "loop.example/flexlayout/laws.FnExactLineHeights", spec := "fnExactLineHeights", unfollowed := true, recurses := true, apart := false, narrowed := true }
def FnExactLineHeightsUptoSaid : Prop := fnExactLineHeightsUptoRow.holds Try.pinned (OpenSpec.upto fnExactLineHeightsSpec)

/-- 'laws.FnLineHeights', WHERE WHAT IT READS IS OF BULK AT MOST 1048576: true; the input reads as it did. -/
def fnLineHeightsUptoRow : OpenClaim := { program := "ytjkcejijdpmhoaa", sum := "7f6dac4156a9d1d936dfec2cfbf1f3be07dc05f59bf9f7f0f1886f6dcd0f34d0", func := "loop.example/flexlayout/laws.FnLineHeights", spec := "fnLineHeights", unfollowed := true, recurses := true, apart := false, narrowed := true }
def FnLineHeightsUptoSaid : Prop := fnLineHeightsUptoRow.holds Try.pinned (OpenSpec.upto fnLineHeightsSpec)

/-- 'laws.FnWrapHeightMore', WHERE WHAT IT READS IS OF BULK AT MOST 1048576: true; the input reads as it did. -/
def fnWrapHeightMoreUptoRow : OpenClaim := { program := "ytjkcejijdpmhoaa", sum := "7f6dac4156a9d1d936dfec2cfbf1f3be07dc05f59bf9f7f0f1886f6dcd0f34d0", func := "loop.example/flexlayout/laws.FnWrapHeightMore", spec := "fnWrapHeightMore", unfollowed := true, recurses := true, apart := false, narrowed := true }
def FnWrapHeightMoreUptoSaid : Prop := fnWrapHeightMoreUptoRow.holds Try.pinned (OpenSpec.upto fnWrapHeightMoreSpec)

/-- 'laws.FnWrapHeight', WHERE WHAT IT READS IS OF BULK AT MOST 1048576: true; the input reads as it did. -/
def fnWrapHeightUptoRow : OpenClaim := { program := "ytjkcejijdpmhoaa", sum := "7f6dac4156a9d1d936dfec2cfbf1f3be07dc05f59bf9f7f0f1886f6dcd0f34d0", func := "loop.example/flexlayout/laws.FnWrapHeight", spec := "fnWrapHeight", unfollowed := true, recurses := true, apart := false, narrowed := true }
def FnWrapHeightUptoSaid : Prop := fnWrapHeightUptoRow.holds Try.pinned (OpenSpec.upto fnWrapHeightSpec)

/-- 'laws.FnWrapPartsWidth', WHERE WHAT IT READS IS OF BULK AT MOST 1048576: true; the input reads as it did. -/
def fnWrapPartsWidthUptoRow : OpenClaim := { program := "ytjkcejijdpmhoaa", sum := "7f6dac4156a9d1d936dfec2cfbf1f3be07dc05f59bf9f7f0f1886f6dcd0f34d0", func := "loop.example/flexlayout/laws.FnWrapPartsWidth", spec := "fnWrapPartsWidth", unfollowed := true, recurses := true, apart := false, narrowed := true }
def FnWrapPartsWidthUptoSaid : Prop := fnWrapPartsWidthUptoRow.holds Try.pinned (OpenSpec.upto fnWrapPartsWidthSpec)

/-- 'laws.FnWrapParts', WHERE WHAT IT READS IS OF BULK AT MOST 1048576: true; the input reads as it did. -/
def fnWrapPartsUptoRow : OpenClaim := { program := "ytjkcejijdpmhoaa", sum := "7f6dac4156a9d1d936dfec2cfbf1f3be07dc05f59bf9f7f0f1886f6dcd0f34d0", func := "loop.example/flexlayout/laws.FnWrapParts", spec := "fnWrapParts", unfollowed := true, recurses := true, apart := false, narrowed := true }
def FnWrapPartsUptoSaid : Prop := fnWrapPartsUptoRow.holds Try.pinned (OpenSpec.upto fnWrapPartsSpec)

/-- 'laws.FnExactWrapParts', WHERE WHAT IT READS IS OF BULK AT MOST 1048576: true; the input reads as it did. -/
def fnExactWrapPartsUptoRow : OpenClaim := { program := "ytjkcejijdpmhoaa", sum := "7f6dac4156a9d1d936dfec2cfbf1f3be07dc05f59bf9f7f0f1886f6dcd0f34d0", func := "loop.example/flexlayout/laws.FnExactWrapParts", spec := "fnExactWrapParts", unfollowed := true, recurses := true, apart := false, narrowed := true }
def FnExactWrapPartsUptoSaid : Prop := fnExactWrapPartsUptoRow.holds Try.pinned (OpenSpec.upto fnExactWrapPartsSpec)

end Rows
end Go.Proofs.Ytjkcejijdpmhoaa
