/- Wide screens need one line. -/
import Derived.Test.YtjkcejijdpmhoaaM4
namespace Go.Proofs.Ytjkcejijdpmhoaa

theorem fit_all {gap : Int} (hg : 0 ≤ gap ∧ gap ≤ 50) : ∀ (R : List (Int × Int)) (u : Int), (∀ p ∈ R, okP p = true ∧ p.1 ≤ 120) → u + 170 * (R.length : Int) ≤ 10000 → fit 10000 gap u R = R.length
  | [], _, _, _ => rfl
  | p :: R, u, h, hu => by
    have hp := (h p (by simp)).2
    rw [List.length_cons] at hu ⊢
    rw [fit_cons, if_pos (by omega), fit_all hg R _ (fun q hq => h q (by simp [hq])) (by omega)]
theorem lines_one {gap : Int} (hg : 0 ≤ gap ∧ gap ≤ 50) {L : List (Int × Int)} (h0 : 0 < L.length) (h12 : L.length ≤ 12) (h : ∀ p ∈ L, okP p = true ∧ p.1 ≤ 120) : lines 10000 gap L = [L] := by
  have hh : head 10000 gap L = L.length := by
    cases L with
    | nil => simp at h0
    | cons p R =>
      have hp := (h p (by simp)).2
      rw [List.length_cons] at h12
      show fit 10000 gap p.1 R + 1 = _
      rw [fit_all hg R _ (fun q hq => h q (by simp [hq])) (by omega)]
      rfl
  rw [lines_cons _ _ h0, hh, List.take_length, List.drop_length, lines_nil]
theorem high_one {gap : Int} (hg : 0 ≤ gap ∧ gap ≤ 50) {L : List (Int × Int)} (h0 : 0 < L.length) (hv : validB L = true) (h : ∀ p ∈ L, p.1 ≤ 120 ∨ p.1 = 10001) : highOf L 10000 gap = tall L := by
  have hok : okL L 10000 gap = true := by
    unfold okL
    rw [hv, (inR_iff).2 (show (0 : Int) ≤ 10000 ∧ (10000 : Int) ≤ 10000 by omega), (inR_iff).2 hg]
    rfl
  unfold validB at hv
  rw [Bool.and_eq_true, List.all_eq_true] at hv
  have h12 := of_decide_eq_true hv.1
  have hs : ∀ p ∈ L, okP p = true ∧ p.1 ≤ 120 := fun p hp => by
    have h1 := hv.2 p hp
    have h2 := h p hp
    refine ⟨h1, ?_⟩
    simp only [okP, Bool.and_eq_true, inR_iff] at h1
    omega
  rw [highOf, if_pos hok, talls, lines_one hg h0 h12 hs]
  simp
theorem tall_le_sum {ls : List (List (Int × Int))} (h : ∀ l ∈ ls, ∀ p ∈ l, okP p = true) : 0 ≤ (ls.map tall).sum ∧ ∀ l ∈ ls, tall l ≤ (ls.map tall).sum := by
  induction ls with
  | nil => simp
  | cons l ls ih =>
    obtain ⟨h1, h2⟩ := ih (fun m hm => h m (by simp [hm]))
    have hb := tall_bd (h l (by simp))
    rw [List.map_cons, List.sum_cons]
    refine ⟨by omega, fun m hm => ?_⟩
    rcases List.mem_cons.1 hm with rfl | hm
    · omega
    · have := h2 m hm
      omega
theorem high_ge {L : List (Int × Int)} {width gap : Int} (hok : okL L width gap = true) (h0 : 0 < L.length) (hv : ∀ p ∈ L, okP p = true) (hg : 0 ≤ gap) : tall L ≤ highOf L width gap := by
  obtain ⟨p, hp, hpt⟩ := tall_some hv h0
  rw [← lines_flat width gap L] at hp
  obtain ⟨l, hl, hpl⟩ := List.mem_flatten.1 hp
  have h1 := tall_mem p hpl
  have h2 := (tall_le_sum (lines_ok hv)).2 l hl
  have h3 : 0 ≤ gap * max 0 ((talls width gap L).length - 1 : Int) := Int.mul_nonneg hg (by omega)
  rw [highOf, if_pos hok]
  unfold talls at h3 ⊢
  omega
end Go.Proofs.Ytjkcejijdpmhoaa
