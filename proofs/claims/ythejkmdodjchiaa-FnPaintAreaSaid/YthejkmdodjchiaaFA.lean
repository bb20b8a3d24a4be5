/- The first place at which a predicate holds. No program is named here. -/
import Derived.Test.YthejkmdodjchiaaBase
namespace Go.Proofs.Ythejkmdodjchiaa
set_option linter.unusedVariables false
set_option linter.unusedSimpArgs false

/-- The first place at which p holds; -1. -/
def firstAt {α : Type} (p : α → Bool) (L : List α) : Int := match L.findIdx? p with
  | some i => i
  | none => -1

theorem firstAt_hit {α : Type} {p : α → Bool} {L : List α} {i : Nat} {x : α} (hx : L[i]? = some x) (hp : p x = true) (hn : ∀ j, j < i → ∀ y, L[j]? = some y → p y = false) : firstAt p L = i := by
  have : L.findIdx? p = some i := by
    rw [List.findIdx?_eq_some_iff_getElem]
    obtain ⟨hi, rfl⟩ := List.getElem?_eq_some_iff.1 hx
    refine ⟨hi, hp, fun j hj => ?_⟩
    have := hn j hj L[j] (List.getElem?_eq_getElem _)
    simp [this]
  simp [firstAt, this]
theorem firstAt_miss {α : Type} {p : α → Bool} {L : List α} (hn : ∀ j, j < L.length → ∀ y, L[j]? = some y → p y = false) : firstAt p L = -1 := by
  have : L.findIdx? p = none := by
    rw [List.findIdx?_eq_none_iff]
    intro x hx
    obtain ⟨j, hj⟩ := List.mem_iff_getElem?.1 hx
    obtain ⟨h1, _⟩ := List.getElem?_eq_some_iff.1 hj
    rw [hn j h1 x hj]
  simp [firstAt, this]
theorem firstAt_any {α : Type} (p : α → Bool) (L : List α) : decide (0 ≤ firstAt p L) = L.any p := by
  unfold firstAt
  cases h : L.findIdx? p with
  | none =>
    rw [List.findIdx?_eq_none_iff] at h
    symm
    simpa using h
  | some i =>
    rw [List.findIdx?_eq_some_iff_getElem] at h
    obtain ⟨h1, h2, _⟩ := h
    have : L.any p = true := by rw [List.any_eq_true]; exact ⟨_, List.getElem_mem h1, h2⟩
    rw [this]
    simp

end Go.Proofs.Ythejkmdodjchiaa
