/- The plain laws of wrapped rectangles. -/
import Derived.Test.YtjkcejijdpmhoaaM5
namespace Go.Proofs.Ytjkcejijdpmhoaa

theorem locate {α : Type} : ∀ {lss : List (List α)} {q : Nat} {x : α}, lss.flatten[q]? = some x → ∃ j l k, lss[j]? = some l ∧ l[k]? = some x ∧ q = ((lss.take j).flatten).length + k
  | [], q, x, h => by simp at h
  | l :: lss, q, x, h => by
    rw [List.flatten_cons] at h
    by_cases hq : q < l.length
    · rw [List.getElem?_append_left hq] at h
      exact ⟨0, l, q, rfl, h, by simp⟩
    · rw [List.getElem?_append_right (by omega)] at h
      obtain ⟨j, l', k, h1, h2, h3⟩ := locate h
      refine ⟨j + 1, l', k, by simpa using h1, h2, ?_⟩
      rw [List.take_succ_cons, List.flatten_cons, List.length_append]
      omega
theorem rows_st (gap : Int) (ls : List (List (Int × Int))) (j : Nat) : (((rowsOf gap ls).take j).flatten).length = st ls j := by
  have := outAt_len (gap := gap) (ls := ls) (i := j) (k := 0) (l := []) (Nat.zero_le _)
  simpa [outAt] using this
/-- Where a rectangle comes from. -/
theorem rect_at {gap : Int} {ls : List (List (Int × Int))} {q : Nat} {r : RectD} (h : (rowsOf gap ls).flatten[q]? = some r) :
    ∃ j l k p, ls[j]? = some l ∧ l[k]? = some p ∧ r = ⟨xAt gap l k, yAt gap ls j, p.1, p.2⟩ ∧ q = st ls j + k := by
  obtain ⟨j, m, k, h1, h2, h3⟩ := locate h
  have hj : j < ls.length := by have := (List.getElem?_eq_some_iff.1 h1).1; rwa [rows_len] at this
  have hl := List.getElem?_eq_getElem hj
  rw [rows_at hl] at h1
  injection h1 with h1
  subst h1
  have hk : k < ls[j].length := by have := (List.getElem?_eq_some_iff.1 h2).1; rwa [row_len] at this
  have hp := List.getElem?_eq_getElem hk
  rw [row_at hp] at h2
  injection h2 with h2
  exact ⟨j, _, k, _, hl, hp, h2.symm, by rw [h3, rows_st]⟩
theorem yAt_all (gap : Int) (ls : List (List (Int × Int))) : yAt gap ls ls.length = (ls.map tall).sum + gap * (ls.length : Int) := by
  unfold yAt
  rw [List.take_length]
  induction ls with
  | nil => simp
  | cons l ls ih =>
    rw [List.map_cons, List.sum_cons, List.map_cons, List.sum_cons, List.length_cons, ih, Int.natCast_add, Int.mul_add]
    simp
    omega
theorem yAt_mono {gap : Int} (hg : 0 ≤ gap) {ls : List (List (Int × Int))} (h : ∀ l ∈ ls, ∀ p ∈ l, okP p = true) {i j : Nat} (hij : i ≤ j) (hj : j ≤ ls.length) : yAt gap ls i ≤ yAt gap ls j := by
  induction j with
  | zero => rw [show i = 0 by omega]; exact Int.le_refl _
  | succ j ih =>
    by_cases e : i = j + 1
    · rw [e]; exact Int.le_refl _
    · have h1 := ih (by omega) (by omega)
      have hl := List.getElem?_eq_getElem (show j < ls.length by omega)
      have hb := tall_bd (h _ (List.mem_of_getElem? hl))
      rw [yAt_next hl]
      omega
theorem xAt_mono {gap : Int} (hg : 0 ≤ gap) {l : List (Int × Int)} (h : ∀ p ∈ l, okP p = true) {i j : Nat} (hij : i ≤ j) (hj : j ≤ l.length) : xAt gap l i ≤ xAt gap l j := by
  induction j with
  | zero => rw [show i = 0 by omega]; exact Int.le_refl _
  | succ j ih =>
    by_cases e : i = j + 1
    · rw [e]; exact Int.le_refl _
    · have h1 := ih (by omega) (by omega)
      have hl := List.getElem?_eq_getElem (show j < l.length by omega)
      have hb := h _ (List.mem_of_getElem? hl)
      simp only [okP, Bool.and_eq_true, inR_iff] at hb
      rw [xAt_next hl]
      omega
/-- The rectangles end at the height at most, and one does. -/
theorem rects_high {L : List (Int × Int)} {width gap : Int} (hok : okL L width gap = true) (hv : ∀ p ∈ L, okP p = true) (hg : 0 ≤ gap) (h0 : 0 < L.length) :
    (∀ r ∈ rectsOf L width gap, r.Y + r.H ≤ highOf L width gap) ∧ ∃ r ∈ rectsOf L width gap, r.Y + r.H = highOf L width gap := by
  have hl0 : 0 < (lines width gap L).length := by
    have := st_end width gap L
    rcases Nat.eq_zero_or_pos (lines width gap L).length with h | h
    · rw [h, st_zero] at this; omega
    · exact h
  have hoks := lines_ok (width := width) (gap := gap) hv
  have hn : highOf L width gap = yAt gap (lines width gap L) (lines width gap L).length - gap := by
    rw [highOf, if_pos hok, yAt_all]
    unfold talls
    rw [List.length_map, show max 0 (((lines width gap L).length : Int) - 1) = ((lines width gap L).length : Int) - 1 by omega, Int.mul_sub]
    omega
  have hpos := fun l (hl : l ∈ lines width gap L) => lines_pos hl
  rw [rectsOf, if_pos hok]
  generalize lines width gap L = ls at *
  constructor
  · intro r hr
    obtain ⟨q, hq⟩ := List.getElem?_of_mem hr
    obtain ⟨j, l, k, p, hl, hp, rfl, -⟩ := rect_at hq
    have h1 := tall_mem p (List.mem_of_getElem? hp)
    have h2 := yAt_mono hg hoks (show j + 1 ≤ ls.length from (List.getElem?_eq_some_iff.1 hl).1) (Nat.le_refl _)
    rw [yAt_next hl] at h2
    show yAt gap ls j + p.2 ≤ _
    omega
  · have hl := List.getElem?_eq_getElem (show ls.length - 1 < ls.length by omega)
    obtain ⟨p, hp, hpt⟩ := tall_some (hoks _ (List.mem_of_getElem? hl)) (hpos _ (List.mem_of_getElem? hl)).1
    obtain ⟨k, hk⟩ := List.getElem?_of_mem hp
    refine ⟨_, List.mem_flatten.2 ⟨_, List.mem_of_getElem? (rows_at hl), List.mem_of_getElem? (row_at hk)⟩, ?_⟩
    have h2 := yAt_next (gap := gap) hl
    rw [show ls.length - 1 + 1 = ls.length by omega] at h2
    show yAt gap ls (ls.length - 1) + p.2 = _
    omega
end Go.Proofs.Ytjkcejijdpmhoaa
