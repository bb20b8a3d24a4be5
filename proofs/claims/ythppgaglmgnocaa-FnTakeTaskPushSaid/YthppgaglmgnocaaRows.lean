/-
  No cell of these rows narrows 'for every input' (looked for: loops, veiled, ifaces, maps, wideKeys, modest, calm, conditions, laid).
  DERIVED. THE GIVEN ROWS OF THIS SEAT. 10 by the template 'for every input the law returns true; each argument reads behind the call as it read before'; 0 by the template 'total and deterministic' (their statements: YthppgaglmgnocaaTotals.lean).
  GIVEN WITH THE SEED: the statements are not yours to turn. If you find one false, say at which input.
  Laid BY PROGRAM, IN A SANDBOX (cutbox-rows.mjs): the forced cells as the released guide's own fill.sh prints them over the translation cd6ee188e4eb197d… (all of the seat's roots in one cut). By AI agents, Wed Nov 11 2026. No macro, syntax, notation, axiom, sorry.
-/
import Derived.Test.YthppgaglmgnocaaChecked
import GoSem.Claim
import GoSem.ClaimJoined
import GoSem.ClaimMapViews
import Derived.JoinedTies
import Derived.KernelRfl
namespace Go.Proofs.Ythppgaglmgnocaa
/- THE CELL 'sum', in the pinned program and in every row, IS THE sha256 OF THE DUMP (.gsa) THAT YthppgaglmgnocaaProg.lean LOADS. Nothing in Lean hashes anything: it is a label: what it is worth is what the hold of that sum in a sandbox is worth. -/
noncomputable def Try.pinned : Pinned := { name := "ythppgaglmgnocaa", sum := "cd6ee188e4eb197d2609adac27aaec99e37389f0127076f6895108be7dbf257e", checked := Try.checked }
namespace Rows
def none {H : Type} : Left H := { results := [], args := [] }

/-- 'laws.FnTakeTaskPush': WHATEVER THE INPUT: true; the input reads as it did. -/
def fnTakeTaskPushSpec : ChangeSpec := { name := "fnTakeTaskPush", fn := fun _ => fun
  | [d] => { results := [.lit (.bool true)], args := [d] }
  | _ => none }
def fnTakeTaskPushRow : OpenClaim := { program := "ythppgaglmgnocaa", sum := "cd6ee188e4eb197d2609adac27aaec99e37389f0127076f6895108be7dbf257e", func := "loop.example/flexlayout/laws.FnTakeTaskPush", spec := "fnTakeTaskPush", inPlace := ["slices.overlaps[loop.example/flexlayout/impl.Task]"], unfollowed := true, recurses := true, apart := false }
def FnTakeTaskPushSaid : Prop := fnTakeTaskPushRow.holds Try.pinned (OpenSpec.ofChange fnTakeTaskPushSpec)

/-- ITS FALSE NEIGHBOUR: 'it returns false'. Refute it at one input. -/
def fnTakeTaskPushWrong : ChangeSpec := { name := "fnTakeTaskPush", fn := fun _ => fun
  | [d] => { results := [.lit (.bool false)], args := [d] }
  | _ => none }
def FnTakeTaskPushWrongFalsely : Prop := fnTakeTaskPushRow.holds Try.pinned (OpenSpec.ofChange fnTakeTaskPushWrong)

/-- 'laws.FnExactNextTask': WHATEVER THE INPUT: true; the input reads as it did. -/
def fnExactNextTaskSpec : ChangeSpec := { name := "fnExactNextTask", fn := fun _ => fun
  | [d] => { results := [.lit (.bool true)], args := [d] }
  | _ => none }
def fnExactNextTaskRow : OpenClaim := { program := "ythppgaglmgnocaa", sum := "cd6ee188e4eb197d2609adac27aaec99e37389f0127076f6895108be7dbf257e", func := "loop.example/flexlayout/laws.FnExactNextTask", spec := "fnExactNextTask", unfollowed := true, recurses := true, apart := false }
def FnExactNextTaskSaid : Prop := fnExactNextTaskRow.holds Try.pinned (OpenSpec.ofChange fnExactNextTaskSpec)

/-- ITS FALSE NEIGHBOUR: 'it returns false'. Refute it at one input. -/
def fnExactNextTaskWrong : ChangeSpec := { name := "fnExactNextTask", fn := fun _ => fun
  | [d] => { results := [.lit (.bool false)], args := [d] }
  | _ => none }
def FnExactNextTaskWrongFalsely : Prop := fnExactNextTaskRow.holds Try.pinned (OpenSpec.ofChange fnExactNextTaskWrong)

/-- 'laws.FnNextTask': WHATEVER THE INPUT: true; the input reads as it did. -/
def fnNextTaskSpec : ChangeSpec := { name := "fnNextTask", fn := fun _ => fun
  | [d] => { results := [.lit (.bool true)], args := [d] }
  | _ => none }
def fnNextTaskRow : OpenClaim := { program := "ythppgaglmgnocaa", sum := "cd6ee188e4eb197d2609adac27aaec99e37389f0127076f6895108be7dbf257e", func := "loop.example/flexlayout/laws.FnNextTask", spec := "fnNextTask", unfollowed := true, recurses := true, apart := false }
def FnNextTaskSaid : Prop := fnNextTaskRow.holds Try.pinned (OpenSpec.ofChange fnNextTaskSpec)

/-- ITS FALSE NEIGHBOUR: 'it returns false'. Refute it at one input. -/
def fnNextTaskWrong : ChangeSpec := { name := "fnNextTask", fn := fun _ => fun
  | [d] => { results := [.lit (.bool false)], args := [d] }
  | _ => none }
def FnNextTaskWrongFalsely : Prop := fnNextTaskRow.holds Try.pinned (OpenSpec.ofChange fnNextTaskWrong)

/-- 'laws.FnNextTaskOne': WHATEVER THE INPUT: true; the input reads as it did. -/
def fnNextTaskOneSpec : ChangeSpec := { name := "fnNextTaskOne", fn := fun _ => fun
  | [d] => { results := [.lit (.bool true)], args := [d] }
  | _ => none }
def fnNextTaskOneRow : OpenClaim := { program := "ythppgaglmgnocaa", sum := "cd6ee188e4eb197d2609adac27aaec99e37389f0127076f6895108be7dbf257e", func := "loop.example/flexlayout/laws.FnNextTaskOne", spec := "fnNextTaskOne", unfollowed := true, recurses := true, apart := false }
def FnNextTaskOneSaid : Prop := fnNextTaskOneRow.holds Try.pinned (OpenSpec.ofChange fnNextTaskOneSpec)

/-- ITS FALSE NEIGHBOUR: 'it returns false'. Refute it at one input. -/
def fnNextTaskOneWrong : ChangeSpec := { name := "fnNextTaskOne", fn := fun _ => fun
  | [d] => { results := [.lit (.bool false)], args := [d] }
  | _ => none }
def FnNextTaskOneWrongFalsely : Prop := fnNextTaskOneRow.holds Try.pinned (OpenSpec.ofChange fnNextTaskOneWrong)

/-- 'laws.FnExactTakeTask': WHATEVER THE INPUT: true; the input reads as it did. -/
def fnExactTakeTaskSpec : ChangeSpec := { name := "fnExactTakeTask", fn := fun _ => fun
  | [d] => { results := [.lit (.bool true)], args := [d] }
  | _ => none }
def fnExactTakeTaskRow : OpenClaim := { program := "ythppgaglmgnocaa", sum := "cd6ee188e4eb197d2609adac27aaec99e37389f0127076f6895108be7dbf257e", func := "loop.example/flexlayout/laws.FnExactTakeTask", spec := "fnExactTakeTask", unfollowed := true, recurses := true, apart := false }
def FnExactTakeTaskSaid : Prop := fnExactTakeTaskRow.holds Try.pinned (OpenSpec.ofChange fnExactTakeTaskSpec)

/-- ITS FALSE NEIGHBOUR: 'it returns false'. Refute it at one input. -/
def fnExactTakeTaskWrong : ChangeSpec := { name := "fnExactTakeTask", fn := fun _ => fun
  | [d] => { results := [.lit (.bool false)], args := [d] }
  | _ => none }
def FnExactTakeTaskWrongFalsely : Prop := fnExactTakeTaskRow.holds Try.pinned (OpenSpec.ofChange fnExactTakeTaskWrong)

/-- 'laws.FnTakeTask': WHATEVER THE INPUT: true; the input reads as it did. -/
def fnTakeTaskSpec : ChangeSpec := { name := "fnTakeTask", fn := fun _ => fun
  | [d] => { results := [.lit (.bool true)], args := [d] }
  | _ => none }
def fnTakeTaskRow : OpenClaim := { program := "ythppgaglmgnocaa", sum := "cd6ee188e4eb197d2609adac27aaec99e37389f0127076f6895108be7dbf257e", func := "loop.example/flexlayout/laws.FnTakeTask", spec := "fnTakeTask", unfollowed := true, recurses := true, apart := false }
def FnTakeTaskSaid : Prop := fnTakeTaskRow.holds Try.pinned (OpenSpec.ofChange fnTakeTaskSpec)

/-- ITS FALSE NEIGHBOUR: 'it returns false'. Refute it at one input. -/
def fnTakeTaskWrong : ChangeSpec := { name := "fnTakeTask", fn := fun _ => fun
  | [d] => { results := [.lit (.bool false)], args := [d] }
  | _ => none }
def FnTakeTaskWrongFalsely : Prop := fnTakeTaskRow.holds Try.pinned (OpenSpec.ofChange fnTakeTaskWrong)

/-- 'laws.FnTaskOrderRank': WHATEVER THE INPUT: true; the input reads as it did. -/
def fnTaskOrderRankSpec : ChangeSpec := { name := "fnTaskOrderRank", fn := fun _ => fun
  | [d] => { results := [.lit (.bool true)], args := [d] }
  | _ => none }
def fnTaskOrderRankRow : OpenClaim := { program := "ythppgaglmgnocaa", sum := "cd6ee188e4eb197d2609adac27aaec99e37389f0127076f6895108be7dbf257e", func := "loop.example/flexlayout/laws.FnTaskOrderRank", spec := "fnTaskOrderRank", unfollowed := true, recurses := true, apart := false }
def FnTaskOrderRankSaid : Prop := fnTaskOrderRankRow.holds Try.pinned (OpenSpec.ofChange fnTaskOrderRankSpec)

/-- ITS FALSE NEIGHBOUR: 'it returns false'. Refute it at one input. -/
def fnTaskOrderRankWrong : ChangeSpec := { name := "fnTaskOrderRank", fn := fun _ => fun
  | [d] => { results := [.lit (.bool false)], args := [d] }
  | _ => none }
def FnTaskOrderRankWrongFalsely : Prop := fnTaskOrderRankRow.holds Try.pinned (OpenSpec.ofChange fnTaskOrderRankWrong)

/-- 'laws.FnExactTaskOrder': WHATEVER THE INPUT: true; the input reads as it did. -/
def fnExactTaskOrderSpec : ChangeSpec := { name := "fnExactTaskOrder", fn := fun _ => fun
  | [d] => { results := [.lit (.bool true)], args := [d] }
  | _ => none }
def fnExactTaskOrderRow : OpenClaim := { program := "ythppgaglmgnocaa", sum := "cd6ee188e4eb197d2609adac27aaec99e37389f0127076f6895108be7dbf257e", func := "loop.example/flexlayout/laws.FnExactTaskOrder", spec := "fnExactTaskOrder", unfollowed := true, recurses := true, apart := false }
def FnExactTaskOrderSaid : Prop := fnExactTaskOrderRow.holds Try.pinned (OpenSpec.ofChange fnExactTaskOrderSpec)

/-- ITS FALSE NEIGHBOUR: 'it returns false'. Refute it at one input. -/
def fnExactTaskOrderWrong : ChangeSpec := { name := "fnExactTaskOrder", fn := fun _ => fun
  | [d] => { results := [.lit (.bool false)], args := [d] }
  | _ => none }
def FnExactTaskOrderWrongFalsely : Prop := fnExactTaskOrderRow.holds Try.pinned (OpenSpec.ofChange fnExactTaskOrderWrong)

/-- 'laws.FnTaskOrderStep': WHATEVER THE INPUT: true; the input reads as it did. -/
def fnTaskOrderStepSpec : ChangeSpec := { name := "fnTaskOrderStep", fn := fun _ => fun
  | [d] => { results := [.lit (.bool true)], args := [d] }
  | _ => none }
def fnTaskOrderStepRow : OpenClaim := { program := "ythppgaglmgnocaa", sum := "cd6ee188e4eb197d2609adac27aaec99e37389f0127076f6895108be7dbf257e", func := "loop.example/flexlayout/laws.FnTaskOrderStep", spec := "fnTaskOrderStep", unfollowed := true, recurses := true, apart := false }
def FnTaskOrderStepSaid : Prop := fnTaskOrderStepRow.holds Try.pinned (OpenSpec.ofChange fnTaskOrderStepSpec)

/-- ITS FALSE NEIGHBOUR: 'it returns false'. Refute it at one input. -/
def fnTaskOrderStepWrong : ChangeSpec := { name := "fnTaskOrderStep", fn := fun _ => fun
  | [d] => { results := [.lit (.bool false)], args := [d] }
  | _ => none }
def FnTaskOrderStepWrongFalsely : Prop := fnTaskOrderStepRow.holds Try.pinned (OpenSpec.ofChange fnTaskOrderStepWrong)

/-- 'laws.FnTaskOrder': WHATEVER THE INPUT: true; the input reads as it did. -/
def fnTaskOrderSpec : ChangeSpec := { name := "fnTaskOrder", fn := fun _ => fun
  | [d] => { results := [.lit (.bool true)], args := [d] }
  | _ => none }
def fnTaskOrderRow : OpenClaim := { program := "ythppgaglmgnocaa", sum := "cd6ee188e4eb197d2609adac27aaec99e37389f0127076f6895108be7dbf257e", func := "loop.example/flexlayout/laws.FnTaskOrder", spec := "fnTaskOrder", unfollowed := true, recurses := true, apart := false }
def FnTaskOrderSaid : Prop := fnTaskOrderRow.holds Try.pinned (OpenSpec.ofChange fnTaskOrderSpec)

/-- ITS FALSE NEIGHBOUR: 'it returns false'. Refute it at one input. -/
def fnTaskOrderWrong : ChangeSpec := { name := "fnTaskOrder", fn := fun _ => fun
  | [d] => { results := [.lit (.bool false)], args := [d] }
  | _ => none }
def FnTaskOrderWrongFalsely : Prop := fnTaskOrderRow.holds Try.pinned (OpenSpec.ofChange fnTaskOrderWrong)

/- THE SECOND FORM. 'bulk': how many values and letters a reading holds, each counted each time it is reached (what is shared counts as often as it is met; a slice's spare places count too). A statement '..UptoSaid' is the law's where the arguments, and the package variables that the reading takes, are together of bulk at most 1048576: NARROWER than '..Said'. Prove '..Said' where nothing that the law and all that it calls make is longer than what came in: it says more and counts as full. Else prove '..UptoSaid'. A law counts once. -/
mutual
def uptoBulk {H : Type} : DataW H → Nat
  | .lit (.string bytes) => bytes.length + 1
  | .lit _ => 1
  | .nil => 1
  | .ptr d => uptoBulk d + 1
  | .slice elems spare => uptoBulkAll elems + uptoBulkAll spare + 1
  | .agg parts => uptoBulkAll parts + 1
  | .iface _ d => uptoBulk d + 1
  | .map entries => uptoBulkEntries entries + 1
  | .held _ => 1
def uptoBulkAll {H : Type} : List (DataW H) → Nat
  | [] => 0
  | d :: r => uptoBulk d + uptoBulkAll r
def uptoBulkEntries {H : Type} : List (Lit × DataW H) → Nat
  | [] => 0
  | x :: r => uptoBulkEntry x + uptoBulkEntries r
def uptoBulkEntry {H : Type} : Lit × DataW H → Nat
  | (.string bytes, d) => bytes.length + uptoBulk d + 1
  | (_, d) => uptoBulk d + 1
 end
def uptoSmall : (H : Type) → List (DataW H) → Bool := fun _ ds => decide (uptoBulkAll ds ≤ 1048576)
def OpenSpec.upto (s : _root_.Go.ChangeSpec) : _root_.Go.OpenSpec := { _root_.Go.OpenSpec.ofChange s with cond := some uptoSmall }

/-- 'laws.FnTakeTaskPush', WHERE WHAT IT READS IS OF BULK AT MOST 1048576: true; the input reads as it did. -/
def fnTakeTaskPushUptoRow : OpenClaim := { program := "ythppgaglmgnocaa", sum := "cd6ee188e4eb197d2609adac27aaec99e37389f0127076f6895108be7dbf257e", func := "loop.example/flexlayout/laws.FnTakeTaskPush", spec := "fnTakeTaskPush", inPlace := ["slices.overlaps[loop.example/flexlayout/impl.Task]"], unfollowed := true, recurses := true, apart := false, narrowed := true }
def FnTakeTaskPushUptoSaid : Prop := fnTakeTaskPushUptoRow.holds Try.pinned (OpenSpec.upto fnTakeTaskPushSpec)

/-- 'laws.FnExactNextTask', WHERE WHAT IT READS IS OF BULK AT MOST 1048576: true; the input reads as it did. -/
def fnExactNextTaskUptoRow : OpenClaim := { program := "ythppgaglmgnocaa", sum := "cd6ee188e4eb197d2609adac27aaec99e37389f0127076f6895108be7dbf257e", func := "loop.example/flexlayout/laws.FnExactNextTask", spec := "fnExactNextTask", unfollowed := true, recurses := true, apart := false, narrowed := true }
def FnExactNextTaskUptoSaid : Prop := fnExactNextTaskUptoRow.holds Try.pinned (OpenSpec.upto fnExactNextTaskSpec)

/-- 'laws.FnNextTask', WHERE WHAT IT READS IS OF BULK AT MOST 1048576: true; the input reads as it did. -/
def fnNextTaskUptoRow : OpenClaim := { program := "ythppgaglmgnocaa", sum := "cd6ee188e4eb197d2609adac27aaec99e37389f0127076f6895108be7dbf257e", func := "loop.example/flexlayout/laws.FnNextTask", spec := "fnNextTask", unfollowed := true, recurses := true, apart := false, narrowed := true }
def FnNextTaskUptoSaid : Prop := fnNextTaskUptoRow.holds Try.pinned (OpenSpec.upto fnNextTaskSpec)

/-- 'laws.FnNextTaskOne', WHERE WHAT IT READS IS OF BULK AT MOST 1048576: true; the input reads as it did. -/
def fnNextTaskOneUptoRow : OpenClaim := { program := "ythppgaglmgnocaa", sum := "cd6ee188e4eb197d2609adac27aaec99e37389f0127076f6895108be7dbf257e", func := "loop.example/flexlayout/laws.FnNextTaskOne", spec := "fnNextTaskOne", unfollowed := true, recurses := true, apart := false, narrowed := true }
def FnNextTaskOneUptoSaid : Prop := fnNextTaskOneUptoRow.holds Try.pinned (OpenSpec.upto fnNextTaskOneSpec)

/-- 'laws.FnExactTakeTask', WHERE WHAT IT READS IS OF BULK AT MOST 1048576: true; the input reads as it did. -/
def fnExactTakeTaskUptoRow : OpenClaim := { program := "ythppgaglmgnocaa", sum := "cd6ee188e4eb197d2609adac27aaec99e37389f0127076f6895108be7dbf257e", func := "loop.example/flexlayout/laws.FnExactTakeTask", spec := "fnExactTakeTask", unfollowed := true, recurses := true, apart := false, narrowed := true }
def FnExactTakeTaskUptoSaid : Prop := fnExactTakeTaskUptoRow.holds Try.pinned (OpenSpec.upto fnExactTakeTaskSpec)

/-- 'laws.FnTakeTask', WHERE WHAT IT READS IS OF BULK AT MOST 1048576: true; the input reads as it did. -/
def fnTakeTaskUptoRow : OpenClaim := { program := "ythppgaglmgnocaa", sum := "cd6ee188e4eb197d2609adac27aaec99e37389f0127076f6895108be7dbf257e", func := "loop.example/flexlayout/laws.FnTakeTask", spec := "fnTakeTask", unfollowed := true, recurses := true, apart := false, narrowed := true }
def FnTakeTaskUptoSaid : Prop := fnTakeTaskUptoRow.holds Try.pinned (OpenSpec.upto fnTakeTaskSpec)

/-- 'laws.FnTaskOrderRank', WHERE WHAT IT READS IS OF BULK AT MOST 1048576: true; the input reads as it did. -/
def fnTaskOrderRankUptoRow : OpenClaim := { program := "ythppgaglmgnocaa", sum := "cd6ee188e4eb197d2609adac27aaec99e37389f0127076f6895108be7dbf257e", func := "loop.example/flexlayout/laws.FnTaskOrderRank", spec := "fnTaskOrderRank", unfollowed := true, recurses := true, apart := false, narrowed := true }
def FnTaskOrderRankUptoSaid : Prop := fnTaskOrderRankUptoRow.holds Try.pinned (OpenSpec.upto fnTaskOrderRankSpec)

/-- 'laws.FnExactTaskOrder', WHERE WHAT IT READS IS OF BULK AT MOST 1048576: true; the input reads as it did. -/
def fnExactTaskOrderUptoRow : OpenClaim := { program := "ythppgaglmgnocaa", sum := "cd6ee188e4eb197d2609adac27aaec99e37389f0127076f6895108be7dbf257e", func := "loop.example/flexlayout/laws.FnExactTaskOrder", spec := "fnExactTaskOrder", unfollowed := true, recurses := true, apart := false, narrowed := true }
def FnExactTaskOrderUptoSaid : Prop := fnExactTaskOrderUptoRow.holds Try.pinned (OpenSpec.upto fnExactTaskOrderSpec)

/-- 'laws.FnTaskOrderStep', WHERE WHAT IT READS IS OF BULK AT MOST 1048576: true; the input reads as it did. -/
def fnTaskOrderStepUptoRow : OpenClaim := { program := "ythppgaglmgnocaa", sum := "cd6ee188e4eb197d2609adac27aaec99e37389f0127076f6895108be7dbf257e", func := "loop.example/flexlayout/laws.FnTaskOrderStep", spec := "fnTaskOrderStep", unfollowed := true, recurses := true, apart := false, narrowed := true }
def FnTaskOrderStepUptoSaid : Prop := fnTaskOrderStepUptoRow.holds Try.pinned (OpenSpec.upto fnTaskOrderStepSpec)

/-- 'laws.FnTaskOrder', WHERE WHAT IT READS IS OF BULK AT MOST 1048576: true; the input reads as it did. -/
def fnTaskOrderUptoRow : OpenClaim := { program := "ythppgaglmgnocaa", sum := "cd6ee188e4eb197d2609adac27aaec99e37389f0127076f6895108be7dbf257e", func := "loop.example/flexlayout/laws.FnTaskOrder", spec := "fnTaskOrder", unfollowed := true, recurses := true, apart := false, narrowed := true }
def FnTaskOrderUptoSaid : Prop := fnTaskOrderUptoRow.holds Try.pinned (OpenSpec.upto fnTaskOrderSpec)

end Rows
end Go.Proofs.Ythppgaglmgnocaa
