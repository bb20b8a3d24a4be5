/- From the row's reading of an argument to what the walks ask. -/
import Derived.Test.YthppgaglmgnocaaDG
import Derived.Test.YthppgaglmgnocaaSt
import Derived.ProofKit
import Derived.OpenShut
import Derived.ShutString
import Derived.ChangeOld
import Derived.Below
namespace Go.Proofs.Ythppgaglmgnocaa
set_option linter.unusedVariables false
set_option linter.unusedSimpArgs false
open Go.ChangeShapes Go.WideShapes Go.ChangeAt Go.RowKit

theorem own : ownKnob Try.prog.godebug = none := by kernel_rfl
theorem laidOut : laidOutB Try.prog = true := by kernel_rfl
theorem cells5 : Try.prog.cellsOf 5 = 1 := by kernel_rfl

theorem codeOf {H : Type} {enc : TypeId × Value → H} {W : World} {base : Nat} {spare : Nat → Bool} {held : Bool} {fuel : Nat} {a : Option Addr} {len cap : Nat} {x : DataW H × List MemPlace}
    (hf : DataW.trod enc Try.prog W base spare held fuel 22 (Value.cells (.slice a len cap)).toList = some x) : ∃ bs : List Int, len = bs.length ∧ Code W a cap bs := by
  rcases open_ints Try.underlying22 Try.underlying5 cells5 hf with ⟨hcs, _⟩ | ⟨y, l, c, zs, hcs, _, hl, hm, hz, _, hcell, hwz⟩
  · simp [Value.cells] at hcs
    obtain ⟨rfl, rfl, rfl⟩ := hcs
    exact ⟨[], rfl, Arr.nil_, by simp, by simp, by simp [maxLen]⟩
  · simp [Value.cells] at hcs
    obtain ⟨rfl, rfl, rfl⟩ := hcs
    have hlz : len ≤ zs.length := by split at hz <;> omega
    refine ⟨zs.take len, by rw [List.length_take]; omega, ?_, fun n hn => bounds_u8 (hwz n (List.mem_of_mem_take hn)), by rw [List.length_take]; omega, hm⟩
    intro hn
    rw [List.length_take] at hn
    have h0 := hcell 0 (by omega)
    have ha : y.add 0 = y := by simp [Addr.add]
    rw [ha] at h0
    obtain ⟨e1, e2⟩ := addr_of_cell h0
    refine ⟨y.block, y.off, congrArg some e1, e2, fun i n hi j v hv => ?_⟩
    rw [List.getElem?_take] at hi
    split at hi
    · obtain ⟨hlt, rfl⟩ := List.getElem?_eq_some_iff.1 hi
      have hc := hcell i hlt
      rw [e1, Addr.add_lit] at hc
      match j, hv with
      | 0, hv =>
        simp [encB] at hv
        subst hv
        simpa [List.getD_eq_getElem?_getD, hlt] using hc
      | j + 1, hv => simp [encB] at hv
    · cases hi
end Go.Proofs.Ythppgaglmgnocaa
