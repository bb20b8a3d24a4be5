/-
  No cell of these rows narrows 'for every input' (looked for: loops, veiled, ifaces, maps, wideKeys, modest, calm, conditions, laid).
  DERIVED. THE GIVEN ROWS OF THIS SEAT. 12 by the template 'for every input the law returns true; each argument reads behind the call as it read before'; 0 by the template 'total and deterministic' (their statements: YthejkmdodjchiaaTotals.lean).
  GIVEN WITH THE SEED: the statements are not yours to turn. If you find one false, say at which input.
  Laid BY PROGRAM, IN A SANDBOX (cutbox-rows.mjs): the forced cells as the released guide's own fill.sh prints them over the translation 41b7469aac881a1b… (all of the seat's roots in one cut). By AI agents, Wed Nov 11 2026. No macro, syntax, notation, axiom, sorry.
-/
import Derived.Test.YthejkmdodjchiaaChecked
import GoSem.Claim
import GoSem.ClaimJoined
import GoSem.ClaimMapViews
import Derived.JoinedTies
import Derived.KernelRfl
namespace Go.Proofs.Ythejkmdodjchiaa
/- THE CELL 'sum', in the pinned program and in every row, IS THE sha256 OF THE DUMP (.gsa) THAT YthejkmdodjchiaaProg.lean LOADS. Nothing in Lean hashes anything: it is a label: what it is worth is what the hold of that sum in a sandbox is worth. -/
noncomputable def Try.pinned : Pinned := { name := "ythejkmdodjchiaa", sum := "41b7469aac881a1bff2c0f4ae187d0be46745a969cb1f4e2b31d0b8aaaf33cca", checked := Try.checked }
namespace Rows
def none {H : Type} : Left H := { results := [], args := [] }

/-- 'laws.FnPaintArea': WHATEVER THE INPUT: true; the input reads as it did. -/
def fnPaintAreaSpec : ChangeSpec := { name := "fnPaintArea", fn := fun _ => fun
  | [d] => { results := [.lit (.bool true)], args := [d] }
  | _ => none }
def fnPaintAreaRow : OpenClaim := { program := "ythejkmdodjchiaa", sum := "41b7469aac881a1bff2c0f4ae187d0be46745a969cb1f4e2b31d0b8aaaf33cca", func := "loop.example/flexlayout/laws.FnPaintArea", spec := "fnPaintArea", unfollowed := true, recurses := true, plainKeys := false, apart := false }
def FnPaintAreaSaid : Prop := fnPaintAreaRow.holds Try.pinned (OpenSpec.ofChange fnPaintAreaSpec)

/-- ITS FALSE NEIGHBOUR: 'it returns false'. Refute it at one input. -/
def fnPaintAreaWrong : ChangeSpec := { name := "fnPaintArea", fn := fun _ => fun
  | [d] => { results := [.lit (.bool false)], args := [d] }
  | _ => none }
def FnPaintAreaWrongFalsely : Prop := fnPaintAreaRow.holds Try.pinned (OpenSpec.ofChange fnPaintAreaWrong)

/-- 'laws.FnExactPaintArea': WHATEVER THE INPUT: true; the input reads as it did. -/
def fnExactPaintAreaSpec : ChangeSpec := { name := "fnExactPaintArea", fn := fun _ => fun
  | [d] => { results := [.lit (.bool true)], args := [d] }
  | _ => none }
def fnExactPaintAreaRow : OpenClaim := { program := "ythejkmdodjchiaa", sum := "41b7469aac881a1bff2c0f4ae187d0be46745a969cb1f4e2b31d0b8aaaf33cca", func := "loop.example/flexlayout/laws.FnExactPaintArea", spec := "fnExactPaintArea", unfollowed := true, recurses := true, plainKeys := false, apart := false }
def FnExactPaintAreaSaid : Prop := fnExactPaintAreaRow.holds Try.pinned (OpenSpec.ofChange fnExactPaintAreaSpec)

/-- ITS FALSE NEIGHBOUR: 'it returns false'. Refute it at one input. -/
def fnExactPaintAreaWrong : ChangeSpec := { name := "fnExactPaintArea", fn := fun _ => fun
  | [d] => { results := [.lit (.bool false)], args := [d] }
  | _ => none }
def FnExactPaintAreaWrongFalsely : Prop := fnExactPaintAreaRow.holds Try.pinned (OpenSpec.ofChange fnExactPaintAreaWrong)

/-- 'laws.FnPaintAreaTwo': WHATEVER THE INPUT: true; the input reads as it did. -/
def fnPaintAreaTwoSpec : ChangeSpec := { name := "fnPaintAreaTwo", fn := fun _ => fun
  | [d] => { results := [.lit (.bool true)], args := [d] }
  | _ => none }
def fnPaintAreaTwoRow : OpenClaim := { program := "ythejkmdodjchiaa", sum := "41b7469aac881a1bff2c0f4ae187d0be46745a969cb1f4e2b31d0b8aaaf33cca", func := "loop.example/flexlayout/laws.FnPaintAreaTwo", spec := "fnPaintAreaTwo", unfollowed := true, recurses := true, plainKeys := false, apart := false }
def FnPaintAreaTwoSaid : Prop := fnPaintAreaTwoRow.holds Try.pinned (OpenSpec.ofChange fnPaintAreaTwoSpec)

/-- ITS FALSE NEIGHBOUR: 'it returns false'. Refute it at one input. -/
def fnPaintAreaTwoWrong : ChangeSpec := { name := "fnPaintAreaTwo", fn := fun _ => fun
  | [d] => { results := [.lit (.bool false)], args := [d] }
  | _ => none }
def FnPaintAreaTwoWrongFalsely : Prop := fnPaintAreaTwoRow.holds Try.pinned (OpenSpec.ofChange fnPaintAreaTwoWrong)

/-- 'laws.FnChangedRects': WHATEVER THE INPUT: true; the input reads as it did. -/
def fnChangedRectsSpec : ChangeSpec := { name := "fnChangedRects", fn := fun _ => fun
  | [d] => { results := [.lit (.bool true)], args := [d] }
  | _ => none }
def fnChangedRectsRow : OpenClaim := { program := "ythejkmdodjchiaa", sum := "41b7469aac881a1bff2c0f4ae187d0be46745a969cb1f4e2b31d0b8aaaf33cca", func := "loop.example/flexlayout/laws.FnChangedRects", spec := "fnChangedRects", unfollowed := true, recurses := true, plainKeys := false, apart := false }
def FnChangedRectsSaid : Prop := fnChangedRectsRow.holds Try.pinned (OpenSpec.ofChange fnChangedRectsSpec)

/-- ITS FALSE NEIGHBOUR: 'it returns false'. Refute it at one input. -/
def fnChangedRectsWrong : ChangeSpec := { name := "fnChangedRects", fn := fun _ => fun
  | [d] => { results := [.lit (.bool false)], args := [d] }
  | _ => none }
def FnChangedRectsWrongFalsely : Prop := fnChangedRectsRow.holds Try.pinned (OpenSpec.ofChange fnChangedRectsWrong)

/-- 'laws.FnExactDamageOf': WHATEVER THE INPUT: true; the input reads as it did. -/
def fnExactDamageOfSpec : ChangeSpec := { name := "fnExactDamageOf", fn := fun _ => fun
  | [d1, d2] => { results := [.lit (.bool true)], args := [d1, d2] }
  | _ => none }
def fnExactDamageOfRow : OpenClaim := { program := "ythejkmdodjchiaa", sum := "41b7469aac881a1bff2c0f4ae187d0be46745a969cb1f4e2b31d0b8aaaf33cca", func := "loop.example/flexlayout/laws.FnExactDamageOf", spec := "fnExactDamageOf", unfollowed := true, recurses := true, plainKeys := false, apart := false }
def FnExactDamageOfSaid : Prop := fnExactDamageOfRow.holds Try.pinned (OpenSpec.ofChange fnExactDamageOfSpec)

/-- ITS FALSE NEIGHBOUR: 'it returns false'. Refute it at one input. -/
def fnExactDamageOfWrong : ChangeSpec := { name := "fnExactDamageOf", fn := fun _ => fun
  | [d1, d2] => { results := [.lit (.bool false)], args := [d1, d2] }
  | _ => none }
def FnExactDamageOfWrongFalsely : Prop := fnExactDamageOfRow.holds Try.pinned (OpenSpec.ofChange fnExactDamageOfWrong)

/-- 'laws.FnExactChangedRects': WHATEVER THE INPUT: true; the input reads as it did. -/
def fnExactChangedRectsSpec : ChangeSpec := { name := "fnExactChangedRects", fn := fun _ => fun
  | [d1, d2] => { results := [.lit (.bool true)], args := [d1, d2] }
  | _ => none }
def fnExactChangedRectsRow : OpenClaim := { program := "ythejkmdodjchiaa", sum := "41b7469aac881a1bff2c0f4ae187d0be46745a969cb1f4e2b31d0b8aaaf33cca", func := "loop.example/flexlayout/laws.FnExactChangedRects", spec := "fnExactChangedRects", unfollowed := true, recurses := true, plainKeys := false, apart := false }
def FnExactChangedRectsSaid : Prop := fnExactChangedRectsRow.holds Try.pinned (OpenSpec.ofChange fnExactChangedRectsSpec)

/-- ITS FALSE NEIGHBOUR: 'it returns false'. Refute it at one input. -/
def fnExactChangedRectsWrong : ChangeSpec := { name := "fnExactChangedRects", fn := fun _ => fun
  | [d1, d2] => { results := [.lit (.bool false)], args := [d1, d2] }
  | _ => none }
def FnExactChangedRectsWrongFalsely : Prop := fnExactChangedRectsRow.holds Try.pinned (OpenSpec.ofChange fnExactChangedRectsWrong)

/-- 'laws.FnDamageOfTight': WHATEVER THE INPUT: true; the input reads as it did. -/
def fnDamageOfTightSpec : ChangeSpec := { name := "fnDamageOfTight", fn := fun _ => fun
  | [d] => { results := [.lit (.bool true)], args := [d] }
  | _ => none }
def fnDamageOfTightRow : OpenClaim := { program := "ythejkmdodjchiaa", sum := "41b7469aac881a1bff2c0f4ae187d0be46745a969cb1f4e2b31d0b8aaaf33cca", func := "loop.example/flexlayout/laws.FnDamageOfTight", spec := "fnDamageOfTight", unfollowed := true, recurses := true, plainKeys := false, apart := false }
def FnDamageOfTightSaid : Prop := fnDamageOfTightRow.holds Try.pinned (OpenSpec.ofChange fnDamageOfTightSpec)

/-- ITS FALSE NEIGHBOUR: 'it returns false'. Refute it at one input. -/
def fnDamageOfTightWrong : ChangeSpec := { name := "fnDamageOfTight", fn := fun _ => fun
  | [d] => { results := [.lit (.bool false)], args := [d] }
  | _ => none }
def FnDamageOfTightWrongFalsely : Prop := fnDamageOfTightRow.holds Try.pinned (OpenSpec.ofChange fnDamageOfTightWrong)

/-- 'laws.FnPaintAreaJoin': WHATEVER THE INPUT: true; the input reads as it did. -/
def fnPaintAreaJoinSpec : ChangeSpec := { name := "fnPaintAreaJoin", fn := fun _ => fun
  | [d] => { results := [.lit (.bool true)], args := [d] }
  | _ => none }
def fnPaintAreaJoinRow : OpenClaim := { program := "ythejkmdodjchiaa", sum := "41b7469aac881a1bff2c0f4ae187d0be46745a969cb1f4e2b31d0b8aaaf33cca", func := "loop.example/flexlayout/laws.FnPaintAreaJoin", spec := "fnPaintAreaJoin", unfollowed := true, recurses := true, plainKeys := false, apart := false }
def FnPaintAreaJoinSaid : Prop := fnPaintAreaJoinRow.holds Try.pinned (OpenSpec.ofChange fnPaintAreaJoinSpec)

/-- ITS FALSE NEIGHBOUR: 'it returns false'. Refute it at one input. -/
def fnPaintAreaJoinWrong : ChangeSpec := { name := "fnPaintAreaJoin", fn := fun _ => fun
  | [d] => { results := [.lit (.bool false)], args := [d] }
  | _ => none }
def FnPaintAreaJoinWrongFalsely : Prop := fnPaintAreaJoinRow.holds Try.pinned (OpenSpec.ofChange fnPaintAreaJoinWrong)

/-- 'laws.FnDamageOf': WHATEVER THE INPUT: true; the input reads as it did. -/
def fnDamageOfSpec : ChangeSpec := { name := "fnDamageOf", fn := fun _ => fun
  | [d] => { results := [.lit (.bool true)], args := [d] }
  | _ => none }
def fnDamageOfRow : OpenClaim := { program := "ythejkmdodjchiaa", sum := "41b7469aac881a1bff2c0f4ae187d0be46745a969cb1f4e2b31d0b8aaaf33cca", func := "loop.example/flexlayout/laws.FnDamageOf", spec := "fnDamageOf", unfollowed := true, recurses := true, plainKeys := false, apart := false }
def FnDamageOfSaid : Prop := fnDamageOfRow.holds Try.pinned (OpenSpec.ofChange fnDamageOfSpec)

/-- ITS FALSE NEIGHBOUR: 'it returns false'. Refute it at one input. -/
def fnDamageOfWrong : ChangeSpec := { name := "fnDamageOf", fn := fun _ => fun
  | [d] => { results := [.lit (.bool false)], args := [d] }
  | _ => none }
def FnDamageOfWrongFalsely : Prop := fnDamageOfRow.holds Try.pinned (OpenSpec.ofChange fnDamageOfWrong)

/-- 'laws.FnJoinPaint': WHATEVER THE INPUT: true; the input reads as it did. -/
def fnJoinPaintSpec : ChangeSpec := { name := "fnJoinPaint", fn := fun _ => fun
  | [d] => { results := [.lit (.bool true)], args := [d] }
  | _ => none }
def fnJoinPaintRow : OpenClaim := { program := "ythejkmdodjchiaa", sum := "41b7469aac881a1bff2c0f4ae187d0be46745a969cb1f4e2b31d0b8aaaf33cca", func := "loop.example/flexlayout/laws.FnJoinPaint", spec := "fnJoinPaint", unfollowed := true, recurses := true, plainKeys := false, apart := false }
def FnJoinPaintSaid : Prop := fnJoinPaintRow.holds Try.pinned (OpenSpec.ofChange fnJoinPaintSpec)

/-- ITS FALSE NEIGHBOUR: 'it returns false'. Refute it at one input. -/
def fnJoinPaintWrong : ChangeSpec := { name := "fnJoinPaint", fn := fun _ => fun
  | [d] => { results := [.lit (.bool false)], args := [d] }
  | _ => none }
def FnJoinPaintWrongFalsely : Prop := fnJoinPaintRow.holds Try.pinned (OpenSpec.ofChange fnJoinPaintWrong)

/-- 'laws.FnJoinPaintApart': WHATEVER THE INPUT: true; the input reads as it did. -/
def fnJoinPaintApartSpec : ChangeSpec := { name := "fnJoinPaintApart", fn := fun _ => fun
  | [d] => { results := [.lit (.bool true)], args := [d] }
  | _ => none }
def fnJoinPaintApartRow : OpenClaim := { program := "ythejkmdodjchiaa", sum := "41b7469aac881a1bff2c0f4ae187d0be46745a969cb1f4e2b31d0b8aaaf33cca", func := "loop.example/flexlayout/laws.FnJoinPaintApart", spec := "fnJoinPaintApart", unfollowed := true, recurses := true, plainKeys := false, apart := false }
def FnJoinPaintApartSaid : Prop := fnJoinPaintApartRow.holds Try.pinned (OpenSpec.ofChange fnJoinPaintApartSpec)

/-- ITS FALSE NEIGHBOUR: 'it returns false'. Refute it at one input. -/
def fnJoinPaintApartWrong : ChangeSpec := { name := "fnJoinPaintApart", fn := fun _ => fun
  | [d] => { results := [.lit (.bool false)], args := [d] }
  | _ => none }
def FnJoinPaintApartWrongFalsely : Prop := fnJoinPaintApartRow.holds Try.pinned (OpenSpec.ofChange fnJoinPaintApartWrong)

/-- 'laws.FnExactJoinPaint': WHATEVER THE INPUT: true; the input reads as it did. -/
def fnExactJoinPaintSpec : ChangeSpec := { name := "fnExactJoinPaint", fn := fun _ => fun
  | [d] => { results := [.lit (.bool true)], args := [d] }
  | _ => none }
def fnExactJoinPaintRow : OpenClaim := { program := "ythejkmdodjchiaa", sum := "41b7469aac881a1bff2c0f4ae187d0be46745a969cb1f4e2b31d0b8aaaf33cca", func := "loop.example/flexlayout/laws.FnExactJoinPaint", spec := "fnExactJoinPaint", unfollowed := true, recurses := true, plainKeys := false, apart := false }
def FnExactJoinPaintSaid : Prop := fnExactJoinPaintRow.holds Try.pinned (OpenSpec.ofChange fnExactJoinPaintSpec)

/-- ITS FALSE NEIGHBOUR: 'it returns false'. Refute it at one input. -/
def fnExactJoinPaintWrong : ChangeSpec := { name := "fnExactJoinPaint", fn := fun _ => fun
  | [d] => { results := [.lit (.bool false)], args := [d] }
  | _ => none }
def FnExactJoinPaintWrongFalsely : Prop := fnExactJoinPaintRow.holds Try.pinned (OpenSpec.ofChange fnExactJoinPaintWrong)

/- THE SECOND FORM. 'bulk': how many values and letters a reading holds, each counted each time it is reached (what is shared counts as often as it is met; a slice's spare places count too). A statement '..UptoSaid' is the law's where the arguments, and the package variables that the reading takes, are together of bulk at most 1048576: NARROWER than '..Said'. Prove '..Said' where nothing that the law and all that it calls make is longer than what came in: it says more and counts as full. Else prove '..UptoSaid'. A law counts once. -/
mutual
def uptoBulk {H : Type} : DataW H → Nat
  | .lit (.string bytes) => bytes.length + 1
  | .lit _ => 1
  | .nil => 1
  | .ptr d => uptoBulk d + 1
  | .slice elems spare => uptoBulkAll elems + uptoBulkAll spare + 1
  | .agg parts => uptoBulkAll parts + 1
  | .iface _ d => uptoBulk d + 1
  | .map entries => uptoBulkEntries entries + 1
  | .held _ => 1
def uptoBulkAll {H : Type} : List (DataW H) → Nat
  | [] => 0
  | d :: r => uptoBulk d + uptoBulkAll r
def uptoBulkEntries {H : Type} : List (Lit × DataW H) → Nat
  | [] => 0
  | x :: r => uptoBulkEntry x + uptoBulkEntries r
def uptoBulkEntry {H : Type} : Lit × DataW H → Nat
  | (.string bytes, d) => bytes.length + uptoBulk d + 1
  | (_, d) => uptoBulk d + 1
 end
def uptoSmall : (H : Type) → List (DataW H) → Bool := fun _ ds => decide (uptoBulkAll ds ≤ 1048576)
def OpenSpec.upto (s : _root_.Go.ChangeSpec) : _root_.Go.OpenSpec := { _root_.Go.OpenSpec.ofChange s with cond := some uptoSmall }

/-- 'laws.FnPaintArea', WHERE WHAT IT READS IS OF BULK AT MOST 1048576: true; the input reads as it did. -/
def fnPaintAreaUptoRow : OpenClaim := { program := "ythejkmdodjchiaa", sum := "41b7469aac881a1bff2c0f4ae187d0be46745a969cb1f4e2b31d0b8aaaf33cca", func := "loop.example/flexlayout/laws.FnPaintArea", spec := "fnPaintArea", unfollowed := true, recurses := true, plainKeys := false, apart := false, narrowed := true }
def FnPaintAreaUptoSaid : Prop := fnPaintAreaUptoRow.holds Try.pinned (OpenSpec.upto fnPaintAreaSpec)

/-- 'laws.FnExactPaintArea', WHERE WHAT IT READS IS OF BULK AT MOST 1048576: true; the input reads as it did. -/
def fnExactPaintAreaUptoRow : OpenClaim := { program := "ythejkmdodjchiaa", sum := "41b7469aac881a1bff2c0f4ae187d0be46745a969cb1f4e2b31d0b8aaaf33cca", func := "loop.example/flexlayout/laws.FnExactPaintArea", spec := "fnExactPaintArea", unfollowed := true, recurses := true, plainKeys := false, apart := false, narrowed := true }
def FnExactPaintAreaUptoSaid : Prop := fnExactPaintAreaUptoRow.holds Try.pinned (OpenSpec.upto fnExactPaintAreaSpec)

/-- 'laws.FnPaintAreaTwo', WHERE WHAT IT READS IS OF BULK AT MOST 1048576: true; the input reads as it did. -/
def fnPaintAreaTwoUptoRow : OpenClaim := { program := "ythejkmdodjchiaa", sum := "41b7469aac881a1bff2c0f4ae187d0be46745a969cb1f4e2b31d0b8aaaf33cca", func := "loop.example/flexlayout/laws.FnPaintAreaTwo", spec := "fnPaintAreaTwo", unfollowed := true, recurses := true, plainKeys := false, apart := false, narrowed := true }
def FnPaintAreaTwoUptoSaid : Prop := fnPaintAreaTwoUptoRow.holds Try.pinned (OpenSpec.upto fnPaintAreaTwoSpec)

/-- 'laws.FnChangedRects', WHERE WHAT IT READS IS OF BULK AT MOST 1048576: true; the input reads as it did. -/
def fnChangedRectsUptoRow : OpenClaim := { program := "ythejkmdodjchiaa", sum := "41b7469aac881a1bff2c0f4ae187d0be46745a969cb1f4e2b31d0b8aaaf33cca", func := "loop.example/flexlayout/laws.FnChangedRects", spec := "fnChangedRects", unfollowed := true, recurses := true, plainKeys := false, apart := false, narrowed := true }
def FnChangedRectsUptoSaid : Prop := fnChangedRectsUptoRow.holds Try.pinned (OpenSpec.upto fnChangedRectsSpec)

/-- 'laws.FnExactDamageOf', WHERE WHAT IT READS IS OF BULK AT MOST 1048576: true; the input reads as it did. -/
def fnExactDamageOfUptoRow : OpenClaim := { program := "ythejkmdodjchiaa", sum := "41b7469aac881a1bff2c0f4ae187d0be46745a969cb1f4e2b31d0b8aaaf33cca", func := "loop.example/flexlayout/laws.FnExactDamageOf", spec := "fnExactDamageOf", unfollowed := true, recurses := true, plainKeys := false, apart := false, narrowed := true }
def FnExactDamageOfUptoSaid : Prop := fnExactDamageOfUptoRow.holds Try.pinned (OpenSpec.upto fnExactDamageOfSpec)

/-- 'laws.FnExactChangedRects', WHERE WHAT IT READS IS OF BULK AT MOST 1048576: true; the input reads as it did. -/
def fnExactChangedRectsUptoRow : OpenClaim := { program := "ythejkmdodjchiaa", sum := "41b7469aac881a1bff2c0f4ae187d0be46745a969cb1f4e2b31d0b8aaaf33cca", func := "loop.example/flexlayout/laws.FnExactChangedRects", spec := "fnExactChangedRects", unfollowed := true, recurses := true, plainKeys := false, apart := false, narrowed := true }
def FnExactChangedRectsUptoSaid : Prop := fnExactChangedRectsUptoRow.holds Try.pinned (OpenSpec.upto fnExactChangedRectsSpec)

/-- 'laws.FnDamageOfTight', WHERE WHAT IT READS IS OF BULK AT MOST 1048576: true; the input reads as it did. -/
def fnDamageOfTightUptoRow : OpenClaim := { program := "ythejkmdodjchiaa", sum := "41b7469aac881a1bff2c0f4ae187d0be46745a969cb1f4e2b31d0b8aaaf33cca", func := "loop.example/flexlayout/laws.FnDamageOfTight", spec := "fnDamageOfTight", unfollowed := true, recurses := true, plainKeys := false, apart := false, narrowed := true }
def FnDamageOfTightUptoSaid : Prop := fnDamageOfTightUptoRow.holds Try.pinned (OpenSpec.upto fnDamageOfTightSpec)

/-- 'laws.FnPaintAreaJoin', WHERE WHAT IT READS IS OF BULK AT MOST 1048576: true; the input reads as it did. -/
def fnPaintAreaJoinUptoRow : OpenClaim := { program := "ythejkmdodjchiaa", sum := "41b7469aac881a1bff2c0f4ae187d0be46745a969cb1f4e2b31d0b8aaaf33cca", func := "loop.example/flexlayout/laws.FnPaintAreaJoin", spec := "fnPaintAreaJoin", unfollowed := true, recurses := true, plainKeys := false, apart := false, narrowed := true }
def FnPaintAreaJoinUptoSaid : Prop := fnPaintAreaJoinUptoRow.holds Try.pinned (OpenSpec.upto fnPaintAreaJoinSpec)

/-- 'laws.FnDamageOf', WHERE WHAT IT READS IS OF BULK AT MOST 1048576: true; the input reads as it did. -/
def fnDamageOfUptoRow : OpenClaim := { program := "ythejkmdodjchiaa", sum := "41b7469aac881a1bff2c0f4ae187d0be46745a969cb1f4e2b31d0b8aaaf33cca", func := "loop.example/flexlayout/laws.FnDamageOf", spec := "fnDamageOf", unfollowed := true, recurses := true, plainKeys := false, apart := false, narrowed := true }
def FnDamageOfUptoSaid : Prop := fnDamageOfUptoRow.holds Try.pinned (OpenSpec.upto fnDamageOfSpec)

/-- 'laws.FnJoinPaint', WHERE WHAT IT READS IS OF BULK AT MOST 1048576: true; the input reads as it did. -/
def fnJoinPaintUptoRow : OpenClaim := { program := "ythejkmdodjchiaa", sum := "41b7469aac881a1bff2c0f4ae187d0be46745a969cb1f4e2b31d0b8aaaf33cca", func := "loop.example/flexlayout/laws.FnJoinPaint", spec := "fnJoinPaint", unfollowed := true, recurses := true, plainKeys := false, apart := false, narrowed := true }
def FnJoinPaintUptoSaid : Prop := fnJoinPaintUptoRow.holds Try.pinned (OpenSpec.upto fnJoinPaintSpec)

/-- 'laws.FnJoinPaintApart', WHERE WHAT IT READS IS OF BULK AT MOST 1048576: true; the input reads as it did. -/
def fnJoinPaintApartUptoRow : OpenClaim := { program := "ythejkmdodjchiaa", sum := "41b7469aac881a1bff2c0f4ae187d0be46745a969cb1f4e2b31d0b8aaaf33cca", func := "loop.example/flexlayout/laws.FnJoinPaintApart", spec := "fnJoinPaintApart", unfollowed := true, recurses := true, plainKeys := false, apart := false, narrowed := true }
def FnJoinPaintApartUptoSaid : Prop := fnJoinPaintApartUptoRow.holds Try.pinned (OpenSpec.upto fnJoinPaintApartSpec)

/-- 'laws.FnExactJoinPaint', WHERE WHAT IT READS IS OF BULK AT MOST 1048576: true; the input reads as it did. -/
def fnExactJoinPaintUptoRow : OpenClaim := { program := "ythejkmdodjchiaa", sum := "41b7469aac881a1bff2c0f4ae187d0be46745a969cb1f4e2b31d0b8aaaf33cca", func := "loop.example/flexlayout/laws.FnExactJoinPaint", spec := "fnExactJoinPaint", unfollowed := true, recurses := true, plainKeys := false, apart := false, narrowed := true }
def FnExactJoinPaintUptoSaid : Prop := fnExactJoinPaintUptoRow.holds Try.pinned (OpenSpec.upto fnExactJoinPaintSpec)

end Rows
end Go.Proofs.Ythejkmdodjchiaa
