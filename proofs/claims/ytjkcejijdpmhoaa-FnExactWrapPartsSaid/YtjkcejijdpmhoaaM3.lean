/- The plain model of lines' heights. -/
import Derived.Test.YtjkcejijdpmhoaaM2
namespace Go.Proofs.Ytjkcejijdpmhoaa

/-- The greatest H of a line. -/
def tall (l : List (Int × Int)) : Int := l.foldl (fun m p => max m p.2) 0
theorem tall_snoc (l : List (Int × Int)) (p : Int × Int) : tall (l ++ [p]) = max (tall l) p.2 := by simp [tall]
theorem tall_take {l : List (Int × Int)} {k : Nat} {p : Int × Int} (h : l[k]? = some p) : tall (l.take (k + 1)) = max (tall (l.take k)) p.2 := by
  obtain ⟨hk, rfl⟩ := List.getElem?_eq_some_iff.1 h
  rw [List.take_succ_eq_append_getElem hk, tall_snoc]
theorem tall_bd {l : List (Int × Int)} (h : ∀ p ∈ l, okP p = true) : 0 ≤ tall l ∧ tall l ≤ 10000 := by
  have key : ∀ (l : List (Int × Int)) (m : Int), (∀ p ∈ l, okP p = true) → 0 ≤ m ∧ m ≤ 10000 → 0 ≤ l.foldl (fun m p => max m p.2) m ∧ l.foldl (fun m p => max m p.2) m ≤ 10000 := by
    intro l
    induction l with
    | nil => intro m _ hm; exact hm
    | cons p l ih =>
      intro m hl hm
      have hp := hl p (by simp)
      simp only [okP, Bool.and_eq_true, inR_iff] at hp
      refine ih _ (fun q hq => hl q (by simp [hq])) ?_
      show 0 ≤ max m p.2 ∧ max m p.2 ≤ 10000
      omega
  exact key l 0 h (by omega)
theorem tall_mem {l : List (Int × Int)} : ∀ p ∈ l, p.2 ≤ tall l := by
  have key : ∀ (l : List (Int × Int)) (m : Int), m ≤ l.foldl (fun m p => max m p.2) m ∧ ∀ p ∈ l, p.2 ≤ l.foldl (fun m p => max m p.2) m := by
    intro l
    induction l with
    | nil => intro m; exact ⟨Int.le_refl _, by simp⟩
    | cons p l ih =>
      intro m
      obtain ⟨h1, h2⟩ := ih (max m p.2)
      rw [List.foldl_cons]
      refine ⟨by omega, fun q hq => ?_⟩
      rcases List.mem_cons.1 hq with rfl | hq
      · omega
      · exact h2 q hq
  exact (key l 0).2
theorem tall_some {l : List (Int × Int)} (h : ∀ p ∈ l, okP p = true) (hl : 0 < l.length) : ∃ p ∈ l, p.2 = tall l := by
  have key : ∀ (l : List (Int × Int)) (m : Int), l.foldl (fun m p => max m p.2) m = m ∨ ∃ p ∈ l, p.2 = l.foldl (fun m p => max m p.2) m := by
    intro l
    induction l with
    | nil => intro m; exact .inl rfl
    | cons p l ih =>
      intro m
      rw [List.foldl_cons]
      rcases ih (max m p.2) with h | ⟨q, hq, h⟩
      · rw [h]
        rcases Int.le_total m p.2 with h' | h'
        · exact .inr ⟨p, by simp, by omega⟩
        · exact .inl (by omega)
      · exact .inr ⟨q, by simp [hq], h⟩
  rcases key l 0 with h0 | h0
  · cases l with
    | nil => simp at hl
    | cons p l =>
      refine ⟨p, by simp, ?_⟩
      have h1 := tall_mem (l := p :: l) p (by simp)
      have h2 := h p (by simp)
      simp only [okP, Bool.and_eq_true, inR_iff] at h2
      change tall (p :: l) = 0 at h0
      omega
  · exact h0

def talls (width gap : Int) (L : List (Int × Int)) : List Int := (lines width gap L).map tall
def heightsOf (L : List (Int × Int)) (width gap : Int) : List Int := if okL L width gap then talls width gap L else []
def highOf (L : List (Int × Int)) (width gap : Int) : Int := if okL L width gap then (talls width gap L).sum + gap * max 0 ((talls width gap L).length - 1 : Int) else -1

theorem lines_ok {width gap : Int} {L : List (Int × Int)} (h : ∀ p ∈ L, okP p = true) : ∀ l ∈ lines width gap L, ∀ p ∈ l, okP p = true := by
  intro l hl p hp
  refine h p ?_
  rw [← lines_flat width gap L]
  exact List.mem_flatten.2 ⟨l, hl, hp⟩
theorem talls_bd {width gap : Int} {L : List (Int × Int)} (h : ∀ p ∈ L, okP p = true) : ∀ x ∈ talls width gap L, 0 ≤ x ∧ x ≤ 1000000 := by
  intro x hx
  obtain ⟨l, hl, rfl⟩ := List.mem_map.1 hx
  have := tall_bd (lines_ok h l hl)
  omega
theorem talls_len {width gap : Int} {L : List (Int × Int)} : (talls width gap L).length ≤ L.length := by
  unfold talls
  rw [List.length_map]
  exact lines_len width gap L.length L (Nat.le_refl _)
theorem talls_cnt (width gap : Int) (L : List (Int × Int)) : (talls width gap L).length = (cnt width gap L).length := by simp [talls, cnt]
end Go.Proofs.Ytjkcejijdpmhoaa
