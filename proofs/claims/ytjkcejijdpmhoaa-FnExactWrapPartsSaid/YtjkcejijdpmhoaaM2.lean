/- Facts on wrapped lines, in plain Lean. -/
import Derived.Test.YtjkcejijdpmhoaaM
namespace Go.Proofs.Ytjkcejijdpmhoaa

/-- The widths' sum. -/
def ws (l : List (Int × Int)) : Int := (l.map (·.1)).sum
theorem ws_nil : ws [] = 0 := rfl
theorem ws_cons (p : Int × Int) (l : List (Int × Int)) : ws (p :: l) = p.1 + ws l := by simp [ws]
theorem ws_snoc {l : List (Int × Int)} {k : Nat} {p : Int × Int} (h : l[k]? = some p) : ws (l.take (k + 1)) = ws (l.take k) + p.1 := by
  obtain ⟨hk, rfl⟩ := List.getElem?_eq_some_iff.1 h
  unfold ws
  rw [List.take_succ_eq_append_getElem hk, List.map_append, List.sum_append]
  simp
theorem ws_bd {l : List (Int × Int)} (h : ∀ p ∈ l, okP p = true) : 0 ≤ ws l ∧ ws l ≤ 10000 * (l.length : Int) := by
  induction l with
  | nil => simp [ws]
  | cons p l ih =>
    have h1 : (0 ≤ p.1 ∧ p.1 ≤ 10000) := by
      have := h p (by simp)
      simp only [okP, Bool.and_eq_true, inR_iff] at this
      exact this.1
    have h2 := ih (fun q hq => h q (by simp [hq]))
    rw [ws_cons, List.length_cons]
    omega

theorem fit_sum (width gap : Int) : ∀ (R : List (Int × Int)) (used : Int), 0 < fit width gap used R → used + ws (R.take (fit width gap used R)) + gap * (fit width gap used R : Int) ≤ width
  | [], _, h => by simp [fit] at h
  | p :: R, used, h => by
    by_cases hle : used + gap + p.1 ≤ width
    · have e : fit width gap used (p :: R) = fit width gap (used + gap + p.1) R + 1 := by conv => lhs; unfold fit; rw [if_pos hle]
      rw [e, List.take_succ_cons, ws_cons]
      rcases Nat.eq_zero_or_pos (fit width gap (used + gap + p.1) R) with h0 | h0
      · rw [h0]; simp [ws]; omega
      · have := fit_sum width gap R _ h0
        have e2 : gap * ((fit width gap (used + gap + p.1) R + 1 : Nat) : Int) = gap * (fit width gap (used + gap + p.1) R : Int) + gap := by
          rw [Int.natCast_add, Int.mul_add]; simp
        rw [e2]
        omega
    · unfold fit at h
      rw [if_neg hle] at h
      omega
theorem fit_next (width gap : Int) : ∀ (R : List (Int × Int)) (used : Int) (q : Int × Int), R[fit width gap used R]? = some q → width < used + ws (R.take (fit width gap used R)) + gap * (fit width gap used R : Int) + gap + q.1
  | [], used, q, h => by simp at h
  | p :: R, used, q, h => by
    by_cases hle : used + gap + p.1 ≤ width
    · have e : fit width gap used (p :: R) = fit width gap (used + gap + p.1) R + 1 := by conv => lhs; unfold fit; rw [if_pos hle]
      rw [e] at h ⊢
      rw [List.take_succ_cons, ws_cons]
      have := fit_next width gap R (used + gap + p.1) q (by simpa using h)
      have e2 : gap * ((fit width gap (used + gap + p.1) R + 1 : Nat) : Int) = gap * (fit width gap (used + gap + p.1) R : Int) + gap := by
        rw [Int.natCast_add, Int.mul_add]; simp
      rw [e2]
      omega
    · have e : fit width gap used (p :: R) = 0 := by unfold fit; rw [if_neg hle]
      rw [e] at h ⊢
      simp at h
      subst h
      simp [ws]
      omega

/-- A line that fits; the next one's first part would not. -/
def Fits (width gap : Int) (l : List (Int × Int)) : Prop := 1 < l.length → ws l + gap * ((l.length : Int) - 1) ≤ width
def Full (width gap : Int) (l : List (Int × Int)) (q : Int × Int) : Prop := width < ws l + gap * (l.length : Int) + q.1

theorem head_fits (width gap : Int) (L : List (Int × Int)) : Fits width gap (L.take (head width gap L)) := by
  cases L with
  | nil => intro h; simp at h
  | cons p R =>
    intro h
    have hle := fit_le width gap R p.1
    have e : head width gap (p :: R) = fit width gap p.1 R + 1 := rfl
    rw [e] at h ⊢
    rw [List.take_succ_cons] at h ⊢
    have hlen : (p :: R.take (fit width gap p.1 R)).length = fit width gap p.1 R + 1 := by rw [List.length_cons, List.length_take]; omega
    rw [hlen] at h ⊢
    have := fit_sum width gap R p.1 (by omega)
    have e3 : ((fit width gap p.1 R + 1 : Nat) : Int) - 1 = (fit width gap p.1 R : Int) := by omega
    rw [ws_cons, e3]
    exact this
theorem head_full (width gap : Int) (L : List (Int × Int)) (q : Int × Int) (h : L[head width gap L]? = some q) : Full width gap (L.take (head width gap L)) q := by
  cases L with
  | nil => simp at h
  | cons p R =>
    have hle := fit_le width gap R p.1
    have e : head width gap (p :: R) = fit width gap p.1 R + 1 := rfl
    rw [e] at h ⊢
    have := fit_next width gap R p.1 q (by simpa using h)
    unfold Full
    rw [List.take_succ_cons]
    have hlen : (p :: R.take (fit width gap p.1 R)).length = fit width gap p.1 R + 1 := by rw [List.length_cons, List.length_take]; omega
    rw [hlen, ws_cons]
    have e2 : gap * ((fit width gap p.1 R + 1 : Nat) : Int) = gap * (fit width gap p.1 R : Int) + gap := by
      rw [Int.natCast_add, Int.mul_add]; simp
    rw [e2]
    omega

/-- Where the i-th line begins. -/
def st (ls : List (List (Int × Int))) (i : Nat) : Nat := ((ls.take i).flatten).length
theorem st_zero (ls : List (List (Int × Int))) : st ls 0 = 0 := rfl
theorem st_next {ls : List (List (Int × Int))} {i : Nat} {l : List (Int × Int)} (h : ls[i]? = some l) : st ls (i + 1) = st ls i + l.length := by
  obtain ⟨hi, rfl⟩ := List.getElem?_eq_some_iff.1 h
  unfold st
  rw [List.take_succ_eq_append_getElem hi, List.flatten_append, List.length_append]
  simp
theorem flat_at : ∀ {ls : List (List (Int × Int))} {i : Nat} {l : List (Int × Int)}, ls[i]? = some l → ∀ {k : Nat}, k < l.length → ls.flatten[st ls i + k]? = l[k]?
  | [], i, l, h, _, _ => by simp at h
  | a :: ls, 0, l, h, k, hk => by
    simp at h
    subst h
    rw [st_zero, Nat.zero_add, List.flatten_cons, List.getElem?_append_left hk]
  | a :: ls, i + 1, l, h, k, hk => by
    have e : st (a :: ls) (i + 1) = a.length + st ls i := by simp [st]
    rw [e, List.flatten_cons, List.getElem?_append_right (by omega), show a.length + st ls i + k - a.length = st ls i + k by omega]
    exact flat_at (by simpa using h) hk

theorem lines_all (width gap : Int) (n : Nat) : ∀ L : List (Int × Int), L.length ≤ n → (lines width gap L).flatten = L ∧ (∀ l ∈ lines width gap L, Fits width gap l) ∧
    ∀ i l l', (lines width gap L)[i]? = some l → (lines width gap L)[i + 1]? = some l' → ∀ q, l'[0]? = some q → Full width gap l q := by
  induction n with
  | zero =>
    intro L h
    have : L = [] := List.eq_nil_of_length_eq_zero (by omega)
    subst this
    exact ⟨rfl, by simp [lines_nil], fun i l l' h => by simp [lines_nil] at h⟩
  | succ n ih =>
    intro L h
    rcases Nat.eq_zero_or_pos L.length with h0 | h0
    · have : L = [] := List.eq_nil_of_length_eq_zero h0
      subst this
      exact ⟨rfl, by simp [lines_nil], fun i l l' h => by simp [lines_nil] at h⟩
    · have hp := head_pos width gap h0
      obtain ⟨h1, h2, h3⟩ := ih (L.drop (head width gap L)) (by rw [List.length_drop]; omega)
      rw [lines_cons width gap h0]
      refine ⟨by rw [List.flatten_cons, h1, List.take_append_drop], ?_, ?_⟩
      · intro l hl
        rcases List.mem_cons.1 hl with rfl | hl
        · exact head_fits width gap L
        · exact h2 l hl
      · intro i l l' hl hl' q hq
        cases i with
        | zero =>
          simp at hl
          subst hl
          refine head_full width gap L q ?_
          rw [List.getElem?_cons_succ] at hl'
          have hlen : 0 < l'.length := (List.getElem?_eq_some_iff.1 hq).1
          have := flat_at hl' hlen
          rw [h1, st_zero, List.getElem?_drop, hq] at this
          simpa using this
        | succ i =>
          rw [List.getElem?_cons_succ] at hl hl'
          exact h3 i l l' hl hl' q hq
theorem lines_flat (width gap : Int) (L : List (Int × Int)) : (lines width gap L).flatten = L := (lines_all width gap L.length L (Nat.le_refl _)).1
theorem lines_fits {width gap : Int} {L l : List (Int × Int)} (h : l ∈ lines width gap L) : Fits width gap l := (lines_all width gap L.length L (Nat.le_refl _)).2.1 l h
theorem lines_full {width gap : Int} {L l l' : List (Int × Int)} {i : Nat} (h : (lines width gap L)[i]? = some l) (h' : (lines width gap L)[i + 1]? = some l') {q : Int × Int} (hq : l'[0]? = some q) : Full width gap l q :=
  (lines_all width gap L.length L (Nat.le_refl _)).2.2 i l l' h h' q hq
theorem lines_pos {width gap : Int} {L l : List (Int × Int)} (h : l ∈ lines width gap L) : 0 < l.length ∧ l.length ≤ L.length := lines_mem width gap L.length L (Nat.le_refl _) l h
theorem line_at {width gap : Int} {L l : List (Int × Int)} {i k : Nat} (h : (lines width gap L)[i]? = some l) (hk : k < l.length) : L[st (lines width gap L) i + k]? = l[k]? := by
  have := flat_at h hk
  rw [lines_flat] at this
  exact this
theorem st_end (width gap : Int) (L : List (Int × Int)) : st (lines width gap L) (lines width gap L).length = L.length := by
  unfold st
  rw [List.take_length, lines_flat]
theorem cnt_at {width gap : Int} {L l : List (Int × Int)} {i : Nat} (h : (lines width gap L)[i]? = some l) : (cnt width gap L)[i]? = some (l.length : Int) := by
  unfold cnt
  rw [List.getElem?_map, h]
  rfl
theorem cnt_sum_take (width gap : Int) (L : List (Int × Int)) (i : Nat) : ((cnt width gap L).take i).sum = (st (lines width gap L) i : Int) := by
  unfold cnt st
  rw [← List.map_take]
  generalize (lines width gap L).take i = ls
  induction ls with
  | nil => rfl
  | cons l ls ih => rw [List.map_cons, List.sum_cons, ih, List.flatten_cons, List.length_append]; omega
theorem cnt_sum (width gap : Int) (L : List (Int × Int)) : (cnt width gap L).sum = (L.length : Int) := by
  have := cnt_sum_take width gap L (lines width gap L).length
  rw [st_end] at this
  have e : (cnt width gap L).take (lines width gap L).length = cnt width gap L := by
    have : (lines width gap L).length = (cnt width gap L).length := by simp [cnt]
    rw [this, List.take_length]
  rw [e] at this
  exact this
end Go.Proofs.Ytjkcejijdpmhoaa
