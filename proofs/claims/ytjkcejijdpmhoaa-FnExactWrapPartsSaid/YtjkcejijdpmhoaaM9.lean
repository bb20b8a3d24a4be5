/- The plain laws of wrapped rectangles: in the width, apart. -/
import Derived.Test.YtjkcejijdpmhoaaM8
import Derived.Test.YtjkcejijdpmhoaaN1
namespace Go.Proofs.Ytjkcejijdpmhoaa

theorem xAt_ws (gap : Int) (l : List (Int × Int)) : ∀ k, k ≤ l.length → xAt gap l k = ws (l.take k) + gap * (k : Int)
  | 0, _ => by simp [xAt_zero, ws]
  | k + 1, hk => by
    have hp := List.getElem?_eq_getElem (show k < l.length by omega)
    rw [xAt_next hp, xAt_ws gap l k (by omega), ws_snoc hp, Int.natCast_add, Int.mul_add]
    simp
    omega
theorem ws_take_le {l : List (Int × Int)} (h : ∀ p ∈ l, okP p = true) (k : Nat) : ws (l.take k) ≤ ws l := by
  have h1 : ws l = ws (l.take k) + ws (l.drop k) := by
    unfold ws
    rw [← List.sum_append, ← List.map_append, List.take_append_drop]
  have h2 := ws_bd (l := l.drop k) fun p hp => h p (List.mem_of_mem_drop hp)
  omega
theorem okL_parts {L : List (Int × Int)} {width gap : Int} (hok : okL L width gap = true) : (∀ p ∈ L, okP p = true) ∧ (0 ≤ width ∧ width ≤ 10000) ∧ (0 ≤ gap ∧ gap ≤ 50) ∧ L.length ≤ 12 := by
  unfold okL at hok
  rw [Bool.and_eq_true, Bool.and_eq_true] at hok
  have hva := hok.1.1
  unfold validB at hva
  rw [Bool.and_eq_true, List.all_eq_true] at hva
  exact ⟨hva.2, inR_iff.1 hok.1.2, inR_iff.1 hok.2, of_decide_eq_true hva.1⟩
/-- Wrapped parts are in the width. -/
theorem rects_wide {L : List (Int × Int)} {width gap : Int} (hok : okL L width gap = true) : ∀ r ∈ rectsOf L width gap, 0 < r.X → r.X + r.W ≤ width := by
  intro r hr hx
  obtain ⟨hv, hw, hg, -⟩ := okL_parts hok
  have hoks := lines_ok (width := width) (gap := gap) hv
  rw [rectsOf, if_pos hok] at hr
  obtain ⟨q, hq⟩ := List.getElem?_of_mem hr
  obtain ⟨j, l, k, p, hl, hp, rfl, -⟩ := rect_at hq
  have hm := List.mem_of_getElem? hl
  have hkl := (List.getElem?_eq_some_iff.1 hp).1
  change 0 < xAt gap l k at hx
  change xAt gap l k + p.1 ≤ width
  have hk0 : 0 < k := by
    rcases Nat.eq_zero_or_pos k with rfl | h
    · rw [xAt_zero] at hx; omega
    · exact h
  have hf := lines_fits hm (by omega)
  have h1 := xAt_ws gap l k (by omega)
  have h2 := ws_snoc hp
  have h3 := ws_take_le (hoks l hm) (k + 1)
  have h4 : gap * (k : Int) ≤ gap * ((l.length : Int) - 1) := Int.mul_le_mul_of_nonneg_left (by omega) hg.1
  omega
theorem rects_first {L : List (Int × Int)} {width gap : Int} (hok : okL L width gap = true) (h0 : 0 < L.length) : ∃ r, (rectsOf L width gap)[0]? = some r ∧ r.X = 0 ∧ r.Y = 0 := by
  have hl := rects_len hok
  have hx := List.getElem?_eq_getElem (show 0 < (rectsOf L width gap).length by omega)
  refine ⟨_, hx, ?_⟩
  generalize (rectsOf L width gap)[0] = r at *
  rw [rectsOf, if_pos hok] at hx
  obtain ⟨j, l, k, p, hl, hp, rfl, hq⟩ := rect_at hx
  have hkl := (List.getElem?_eq_some_iff.1 hp).1
  have hk : k = 0 := by omega
  have hj : j = 0 := by
    rcases Nat.eq_zero_or_pos j with h | h
    · exact h
    · exfalso
      have hj1 : j - 1 < (lines width gap L).length := by have := (List.getElem?_eq_some_iff.1 hl).1; omega
      have hlj := List.getElem?_eq_getElem hj1
      have h1 := st_next hlj
      have h2 := (lines_pos (List.mem_of_getElem? hlj)).1
      rw [show j - 1 + 1 = j by omega] at h1
      omega
  subst hk hj
  exact ⟨xAt_zero gap l, yAt_zero gap (lines width gap L)⟩
theorem rects_size {L : List (Int × Int)} {width gap : Int} (hok : okL L width gap = true) {i : Nat} {r : RectD} (hr : (rectsOf L width gap)[i]? = some r) : L[i]? = some (r.W, r.H) := by
  rw [rectsOf, if_pos hok] at hr
  obtain ⟨j, l, k, p, hl, hp, rfl, hq⟩ := rect_at hr
  have hkl := (List.getElem?_eq_some_iff.1 hp).1
  rw [hq, line_at hl hkl, hp]
theorem st_mono (ls : List (List (Int × Int))) {i j : Nat} (hij : i ≤ j) (hj : j ≤ ls.length) : st ls i ≤ st ls j := by
  induction j with
  | zero => rw [show i = 0 by omega]; exact Nat.le_refl _
  | succ j ih =>
    by_cases e : i = j + 1
    · rw [e]; exact Nat.le_refl _
    · have h1 := ih (by omega) (by omega)
      have h2 := st_next (List.getElem?_eq_getElem (show j < ls.length by omega))
      omega
/-- Wrapped parts do not overlap. -/
theorem rects_apart {L : List (Int × Int)} {width gap : Int} (hok : okL L width gap = true) {i k : Nat} {a b : RectD} (hki : k < i) (ha : (rectsOf L width gap)[i]? = some a) (hb : (rectsOf L width gap)[k]? = some b) : meetsR a b = false := by
  obtain ⟨hv, hw, hg, -⟩ := okL_parts hok
  have hoks := lines_ok (width := width) (gap := gap) hv
  rw [rectsOf, if_pos hok] at ha hb
  obtain ⟨j, l, u, p, hl, hp, rfl, hq⟩ := rect_at ha
  obtain ⟨j', l', u', p', hl', hp', rfl, hq'⟩ := rect_at hb
  have hjl := (List.getElem?_eq_some_iff.1 hl).1
  have hjl' := (List.getElem?_eq_some_iff.1 hl').1
  have hul := (List.getElem?_eq_some_iff.1 hp).1
  have hul' := (List.getElem?_eq_some_iff.1 hp').1
  have hle : j' ≤ j := by
    rcases Nat.lt_or_ge j j' with h | h
    · have h1 := st_mono (lines width gap L) (show j + 1 ≤ j' by omega) (by omega)
      rw [st_next hl] at h1
      omega
    · exact h
  rw [Bool.eq_false_iff]
  intro hm
  obtain ⟨m1, m2⟩ := meetsR_iff.1 hm
  simp only at m1 m2
  by_cases hjj : j' = j
  · subst hjj
    rw [hl] at hl'
    injection hl' with hl'
    subst hl'
    have h1 := xAt_mono hg.1 (hoks l (List.mem_of_getElem? hl)) (show u' + 1 ≤ u by omega) (by omega)
    rw [xAt_next hp'] at h1
    omega
  · have h1 := yAt_mono hg.1 hoks (show j' + 1 ≤ j by omega) (by omega)
    rw [yAt_next hl'] at h1
    have h2 := tall_mem p' (List.mem_of_getElem? hp')
    omega
theorem rects_some {L : List (Int × Int)} {width gap : Int} (h : 0 < (rectsOf L width gap).length) : okL L width gap = true ∧ (rectsOf L width gap).length = L.length ∧ 0 < L.length := by
  cases e : okL L width gap
  · rw [rectsOf, e] at h
    simp at h
  · have := rects_len e
    exact ⟨rfl, this, by omega⟩
theorem rects_len12 (L : List (Int × Int)) (width gap : Int) : (rectsOf L width gap).length ≤ 12 := by
  cases e : okL L width gap
  · rw [rectsOf, e]; simp
  · rw [rects_len e]; exact (okL_parts e).2.2.2
end Go.Proofs.Ytjkcejijdpmhoaa
