/- Wider screens need no more lines. -/
import Derived.Test.YtjkcejijdpmhoaaM3
namespace Go.Proofs.Ytjkcejijdpmhoaa

theorem fit_cons (a gap u : Int) (p : Int × Int) (R : List (Int × Int)) : fit a gap u (p :: R) = if u + gap + p.1 ≤ a then fit a gap (u + gap + p.1) R + 1 else 0 := rfl
theorem fit_mono {gap : Int} {a b : Int} (hab : a ≤ b) : ∀ (R : List (Int × Int)) (u v : Int), v ≤ u → fit a gap u R ≤ fit b gap v R
  | [], _, _, _ => Nat.le_refl _
  | p :: R, u, v, h => by
    unfold fit
    split
    · rename_i h1
      rw [if_pos (by omega)]
      have := fit_mono (gap := gap) hab R (u + gap + p.1) (v + gap + p.1) (by omega)
      omega
    · exact Nat.zero_le _
theorem fit_skip {gap : Int} {a b : Int} (hab : a ≤ b) (hg : 0 ≤ gap) : ∀ (j : Nat) (R : List (Int × Int)) (u : Int) (q : Int × Int) (R2 : List (Int × Int)), (∀ p ∈ R, okP p = true) → 0 ≤ u → R.drop j = q :: R2 → j < fit a gap u R → fit a gap u R ≤ j + 1 + fit b gap q.1 R2
  | 0, R, u, q, R2, hR, hu, hd, hf => by
    rw [List.drop_zero] at hd
    subst hd
    rw [fit_cons] at hf ⊢
    split
    · have := fit_mono (gap := gap) hab R2 (u + gap + q.1) q.1 (by omega)
      omega
    · omega
  | j + 1, [], u, q, R2, hR, hu, hd, hf => by simp at hd
  | j + 1, p :: R, u, q, R2, hR, hu, hd, hf => by
    rw [List.drop_succ_cons] at hd
    have hp := hR p (by simp)
    simp only [okP, Bool.and_eq_true, inR_iff] at hp
    rw [fit_cons] at hf ⊢
    split
    · rename_i h1
      rw [if_pos h1] at hf
      have := fit_skip hab hg j R (u + gap + p.1) q R2 (fun x hx => hR x (by simp [hx])) (by omega) hd (by omega)
      omega
    · omega
theorem head_skip {gap : Int} {a b : Int} (hab : a ≤ b) (hg : 0 ≤ gap) {L : List (Int × Int)} (hL : ∀ p ∈ L, okP p = true) (k : Nat) (hk : k < L.length) : head a gap L ≤ k + head b gap (L.drop k) := by
  cases L with
  | nil => simp at hk
  | cons p R =>
    cases k with
    | zero =>
      have := fit_mono (gap := gap) hab R p.1 p.1 (Int.le_refl _)
      simp [head]
      omega
    | succ j =>
      rw [List.drop_succ_cons]
      have hp := hL p (by simp)
      simp only [okP, Bool.and_eq_true, inR_iff] at hp
      by_cases hf : j < fit a gap p.1 R
      · have hj : j < R.length := by simpa using hk
        have := fit_skip hab hg j R p.1 R[j] (R.drop (j + 1)) (fun x hx => hL x (by simp [hx])) (by omega) (List.drop_eq_getElem_cons hj) hf
        rw [List.drop_eq_getElem_cons hj]
        simp only [head]
        omega
      · simp only [head]
        omega
theorem lines_mono {gap : Int} {a b : Int} (hab : a ≤ b) (hg : 0 ≤ gap) (n : Nat) : ∀ (L : List (Int × Int)) (k : Nat), L.length ≤ n → (∀ p ∈ L, okP p = true) → (lines b gap (L.drop k)).length ≤ (lines a gap L).length := by
  induction n with
  | zero =>
    intro L k h _
    have : L = [] := List.eq_nil_of_length_eq_zero (by omega)
    subst this
    simp [lines_nil]
  | succ n ih =>
    intro L k h hL
    by_cases hk : k < L.length
    · have hs := head_skip hab hg hL k hk
      have hp := head_pos a gap (L := L) (by omega)
      rw [lines_cons a gap (by omega), lines_cons b gap (L := L.drop k) (by rw [List.length_drop]; omega), List.length_cons, List.length_cons, List.drop_drop]
      have := ih (L.drop (head a gap L)) (k + head b gap (L.drop k) - head a gap L) (by rw [List.length_drop]; omega) (fun p hp => hL p (List.mem_of_mem_drop hp))
      rw [List.drop_drop, show head a gap L + (k + head b gap (L.drop k) - head a gap L) = k + head b gap (L.drop k) by omega] at this
      omega
    · rw [List.drop_eq_nil_of_le (by omega), lines_nil]
      exact Nat.zero_le _
theorem cnt_mono {gap : Int} {a b : Int} (hab : a ≤ b) (hg : 0 ≤ gap) {L : List (Int × Int)} (hL : ∀ p ∈ L, okP p = true) : (cnt b gap L).length ≤ (cnt a gap L).length := by
  have := lines_mono hab hg L.length L 0 (Nat.le_refl _) hL
  simpa [cnt] using this
end Go.Proofs.Ytjkcejijdpmhoaa
