/- Bounds of wrapped rectangles. -/
import Derived.Test.YtjkcejijdpmhoaaM7
namespace Go.Proofs.Ytjkcejijdpmhoaa

theorem rect_bd {L : List (Int × Int)} {width gap : Int} (hok : okL L width gap = true) {r : RectD} (hr : r ∈ rectsOf L width gap) :
    (0 ≤ r.X ∧ r.X ≤ 1000000) ∧ (0 ≤ r.Y ∧ r.Y ≤ 1000000) ∧ (0 ≤ r.W ∧ r.W ≤ 10000) ∧ (0 ≤ r.H ∧ r.H ≤ 10000) := by
  have hv : validB L = true ∧ inR gap 0 50 = true := by
    unfold okL at hok
    rw [Bool.and_eq_true, Bool.and_eq_true] at hok
    exact ⟨hok.1.1, hok.2⟩
  have hg := inR_iff.1 hv.2
  have hva := hv.1
  unfold validB at hva
  rw [Bool.and_eq_true, List.all_eq_true] at hva
  have h12 := of_decide_eq_true hva.1
  have hoks := lines_ok (width := width) (gap := gap) hva.2
  rw [rectsOf, if_pos hok] at hr
  obtain ⟨q, hq⟩ := List.getElem?_of_mem hr
  obtain ⟨j, l, k, p, hl, hp, rfl, -⟩ := rect_at hq
  have h1 := xAt_bd hg (hoks l (List.mem_of_getElem? hl)) k
  have h2 := yAt_bd hg hoks j
  have h3 := lines_len width gap L.length L (Nat.le_refl _)
  have h4 := (lines_pos (List.mem_of_getElem? hl)).2
  have h5 := hoks l (List.mem_of_getElem? hl) p (List.mem_of_getElem? hp)
  simp only [okP, Bool.and_eq_true, inR_iff] at h5
  refine ⟨⟨h1.1, ?_⟩, ⟨h2.1, ?_⟩, h5.1, h5.2⟩
  · show xAt gap l k ≤ _
    omega
  · show yAt gap (lines width gap L) j ≤ _
    omega
theorem high_nil {width gap : Int} (hok : okL [] width gap = true) : highOf [] width gap = 0 := by
  rw [highOf, if_pos hok]
  simp only [talls, lines_nil, List.map_nil, List.sum_nil, List.length_nil]
  rw [show max 0 (((0 : Nat) : Int) - 1) = 0 by omega, Int.mul_zero]
  rfl
end Go.Proofs.Ytjkcejijdpmhoaa
