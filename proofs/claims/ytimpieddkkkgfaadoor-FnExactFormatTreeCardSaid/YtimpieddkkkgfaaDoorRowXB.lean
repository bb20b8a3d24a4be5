/- The exact laws' rows: a slice of structures read as a list. -/
import Derived.Test.YtimpieddkkkgfaaDoorSt
import Derived.Test.YtimpieddkkkgfaaDoorProg
import Derived.Test.YtimpieddkkkgfaaDoorTBox
namespace Go.Proofs.YtimpieddkkkgfaaDoor
set_option linter.unusedVariables false
set_option linter.unusedSimpArgs false
open Go.ChangeShapes Go.WideShapes Go.ChangeAt Go.RowKit Go.Deep

theorem ownX : ownKnob Tryd.prog.godebug = none := by kernel_rfl
theorem laidOutX : laidOutB Tryd.prog = true := by kernel_rfl

theorem Arr.map_ {α β : Type} {w : World} {B k : Nat} {enc : α → List Value} {enc' : β → List Value} {A : Option Addr} {L : List α} (f : α → β) (h : Arr w B k enc A L) (hf : ∀ x ∈ L, enc' (f x) = enc x) : Arr w B k enc' A (L.map f) := fun hn => by
  obtain ⟨b, off, e, hb, hc⟩ := h (by simpa using hn)
  refine ⟨b, off, e, hb, fun i y hy j v hv => ?_⟩
  rw [List.getElem?_map] at hy
  cases hx : L[i]? with
  | none => rw [hx] at hy; cases hy
  | some x =>
    rw [hx] at hy
    injection hy with hy
    subst hy
    rw [hf x (List.mem_of_getElem? hx)] at hv
    exact hc i x hx j v hv

theorem int_bd {x : Int} (h : (Lit.int .i64 x).wf = true) : -9223372036854775808 ≤ x ∧ x ≤ 9223372036854775807 := bounds_i64 h

/-- A slice of laws.Box reads as a list. -/
theorem boxsOf {H : Type} {enc : TypeId × Value → H} {W : World} {base : Nat} {spare : Nat → Bool} {held : Bool} {fuel : Nat} {a : Option Addr} {len cap : Nat} {x : DataW H × List MemPlace}
    (hf : DataW.trod enc Tryd.prog W base spare held fuel 22 (Value.cells (.slice a len cap)).toList = some x) :
    ∃ L : List BoxD, len = L.length ∧ L.length ≤ cap ∧ cap ≤ maxLen ∧ Arr W W.heap.size 9 encBox a L ∧ ∀ r ∈ L, (-9223372036854775808 ≤ r.Parent ∧ r.Parent ≤ 9223372036854775807) ∧ (-9223372036854775808 ≤ r.Kind ∧ r.Kind ≤ 9223372036854775807) ∧ (-9223372036854775808 ≤ r.W ∧ r.W ≤ 9223372036854775807) ∧ (-9223372036854775808 ≤ r.H ∧ r.H ≤ 9223372036854775807) ∧ (-9223372036854775808 ≤ r.Pad ∧ r.Pad ≤ 9223372036854775807) ∧ (-9223372036854775808 ≤ r.Gap ∧ r.Gap ≤ 9223372036854775807) ∧ (-9223372036854775808 ≤ r.Grow ∧ r.Grow ≤ 9223372036854775807) ∧ (-9223372036854775808 ≤ r.Shrink ∧ r.Shrink ≤ 9223372036854775807) ∧ (-9223372036854775808 ≤ r.Justify ∧ r.Justify ≤ 9223372036854775807) := by
  obtain ⟨rows, h1, h2, h3, h4, h5⟩ := structs_read Tryd.underlying22 Tryd.underlying35 (by kernel_rfl) (by kernel_rfl) (by decide) (fun i f hi => by
    match i, hi with
    | 0, hi => simp at hi; subst hi; exact Tryd.underlying3
    | 1, hi => simp at hi; subst hi; exact Tryd.underlying3
    | 2, hi => simp at hi; subst hi; exact Tryd.underlying3
    | 3, hi => simp at hi; subst hi; exact Tryd.underlying3
    | 4, hi => simp at hi; subst hi; exact Tryd.underlying3
    | 5, hi => simp at hi; subst hi; exact Tryd.underlying3
    | 6, hi => simp at hi; subst hi; exact Tryd.underlying3
    | 7, hi => simp at hi; subst hi; exact Tryd.underlying3
    | 8, hi => simp at hi; subst hi; exact Tryd.underlying3
    | i + 9, hi => simp at hi) hf
  refine ⟨rows.map (fun r => (⟨r.getD 0 0, r.getD 1 0, r.getD 2 0, r.getD 3 0, r.getD 4 0, r.getD 5 0, r.getD 6 0, r.getD 7 0, r.getD 8 0⟩ : BoxD)), by simpa using h1, by simpa using h2, h3, h5.map_ _ fun r hr => ?_, fun q hq => ?_⟩
  · obtain ⟨hl, _⟩ := h4 r hr
    match r, hl with
    | [p0, p1, p2, p3, p4, p5, p6, p7, p8], _ => rfl
  · obtain ⟨r, hr, rfl⟩ := List.mem_map.1 hq
    obtain ⟨hl, hw⟩ := h4 r hr
    match r, hl, hw with
    | [p0, p1, p2, p3, p4, p5, p6, p7, p8], _, hw => exact ⟨int_bd (hw p0 (by simp)), int_bd (hw p1 (by simp)), int_bd (hw p2 (by simp)), int_bd (hw p3 (by simp)), int_bd (hw p4 (by simp)), int_bd (hw p5 (by simp)), int_bd (hw p6 (by simp)), int_bd (hw p7 (by simp)), int_bd (hw p8 (by simp))⟩
end Go.Proofs.YtimpieddkkkgfaaDoor
