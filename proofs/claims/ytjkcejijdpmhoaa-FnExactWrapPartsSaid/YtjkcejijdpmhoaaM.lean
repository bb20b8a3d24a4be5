/- The plain model of wrapped lines: no program in sight. -/
import Derived.Test.YtjkcejijdpmhoaaBase
namespace Go.Proofs.Ytjkcejijdpmhoaa

def okP (p : Int × Int) : Bool := inR p.1 0 10000 && inR p.2 0 10000
def validB (L : List (Int × Int)) : Bool := decide (L.length ≤ 12) && L.all okP

/-- How many more parts fit in a line of which 'used' is taken. -/
def fit (width gap : Int) : Int → List (Int × Int) → Nat
  | _, [] => 0
  | used, p :: R => if used + gap + p.1 ≤ width then fit width gap (used + gap + p.1) R + 1 else 0
/-- How many parts the first line has. -/
def head (width gap : Int) : List (Int × Int) → Nat
  | [] => 0
  | p :: R => fit width gap p.1 R + 1
def linesN (width gap : Int) : Nat → List (Int × Int) → List (List (Int × Int))
  | 0, _ => []
  | n + 1, L => if L.isEmpty then [] else L.take (head width gap L) :: linesN width gap n (L.drop (head width gap L))
def lines (width gap : Int) (L : List (Int × Int)) : List (List (Int × Int)) := linesN width gap L.length L

theorem fit_le (width gap : Int) : ∀ (R : List (Int × Int)) (used : Int), fit width gap used R ≤ R.length
  | [], _ => Nat.le_refl _
  | p :: R, used => by
    unfold fit
    split
    · have := fit_le width gap R (used + gap + p.1); simp; omega
    · exact Nat.zero_le _
theorem head_le (width gap : Int) (L : List (Int × Int)) : head width gap L ≤ L.length := by
  cases L with
  | nil => exact Nat.le_refl _
  | cons p R => have := fit_le width gap R p.1; simp [head]; omega
theorem head_pos (width gap : Int) {L : List (Int × Int)} (h : 0 < L.length) : 0 < head width gap L := by
  cases L with
  | nil => simp at h
  | cons p R => simp [head]
theorem linesN_enough (width gap : Int) : ∀ (n : Nat) (L : List (Int × Int)), L.length ≤ n → linesN width gap n L = linesN width gap L.length L
  | 0, L, h => by
    have : L = [] := List.eq_nil_of_length_eq_zero (by omega)
    subst this
    rfl
  | n + 1, L, h => by
    cases hL : L with
    | nil => simp [linesN]
    | cons p R =>
      rw [← hL]
      have hl : L.length = R.length + 1 := by rw [hL]; rfl
      have hp := head_pos width gap (L := L) (by omega)
      have hd : (L.drop (head width gap L)).length ≤ R.length := by rw [List.length_drop]; omega
      have e : L.isEmpty = false := by rw [hL]; rfl
      rw [hl]
      unfold linesN
      rw [e]
      simp only [Bool.false_eq_true, if_false]
      rw [linesN_enough width gap n _ (by omega), linesN_enough width gap R.length _ hd]
theorem lines_nil (width gap : Int) : lines width gap [] = [] := rfl
theorem lines_cons (width gap : Int) {L : List (Int × Int)} (h : 0 < L.length) : lines width gap L = L.take (head width gap L) :: lines width gap (L.drop (head width gap L)) := by
  have hp := head_pos width gap h
  have e : L.isEmpty = false := by cases L with | nil => simp at h | cons p R => rfl
  unfold lines
  have hl : L.length = (L.length - 1) + 1 := by omega
  rw [hl]
  conv => lhs; unfold linesN
  rw [e]
  simp only [Bool.false_eq_true, if_false]
  rw [linesN_enough width gap (L.length - 1) _ (by rw [List.length_drop]; omega)]
theorem lines_len (width gap : Int) (n : Nat) : ∀ (L : List (Int × Int)), L.length ≤ n → (lines width gap L).length ≤ L.length := by
  induction n with
  | zero =>
    intro L h
    have : L = [] := List.eq_nil_of_length_eq_zero (by omega)
    subst this
    simp [lines_nil]
  | succ n ih =>
    intro L h
    rcases Nat.eq_zero_or_pos L.length with h0 | h0
    · rw [List.eq_nil_of_length_eq_zero h0]; simp [lines_nil]
    · have hp := head_pos width gap h0
      rw [lines_cons width gap h0, List.length_cons]
      have := ih (L.drop (head width gap L)) (by rw [List.length_drop]; omega)
      rw [List.length_drop] at this
      omega

def okL (L : List (Int × Int)) (width gap : Int) : Bool := validB L && inR width 0 10000 && inR gap 0 50
/-- How many parts each line has. -/
def cnt (width gap : Int) (L : List (Int × Int)) : List Int := (lines width gap L).map fun l => (l.length : Int)
theorem cnt_nil (width gap : Int) : cnt width gap [] = [] := rfl
theorem cnt_cons (width gap : Int) {L : List (Int × Int)} (h : 0 < L.length) : cnt width gap L = (head width gap L : Int) :: cnt width gap (L.drop (head width gap L)) := by
  have := head_le width gap L
  unfold cnt
  rw [lines_cons width gap h, List.map_cons, List.length_take, show min (head width gap L) L.length = head width gap L by omega]

/-- The reference's loop: behind i parts it has out, and 'used' is taken of the last line. -/
def CInv (width gap : Int) (L : List (Int × Int)) (i : Nat) (out : List Int) (used : Int) : Prop :=
  (i = 0 ∧ out = []) ∨ (1 ≤ i ∧ ∃ (D : List Int) (n : Int), out = D ++ [n] ∧ cnt width gap L = D ++ (n + (fit width gap used (L.drop i) : Int)) :: cnt width gap (L.drop (i + fit width gap used (L.drop i))))

theorem drop_at {α : Type} {L : List α} {i : Nat} {p : α} (h : L[i]? = some p) : L.drop i = p :: L.drop (i + 1) := by
  obtain ⟨hi, rfl⟩ := List.getElem?_eq_some_iff.1 h
  rw [List.drop_eq_getElem_cons hi]
theorem CInv.end_ {width gap : Int} {L : List (Int × Int)} {out : List Int} {used : Int} (h : CInv width gap L L.length out used) : out = cnt width gap L := by
  rcases h with ⟨h0, rfl⟩ | ⟨_, D, n, rfl, hc⟩
  · rw [List.eq_nil_of_length_eq_zero h0]; rfl
  · rw [hc, List.drop_length]
    simp [fit, cnt_nil]
theorem CInv.new {width gap : Int} {L : List (Int × Int)} {i : Nat} {out : List Int} {used : Int} {p : Int × Int} (h : CInv width gap L i out used) (hp : L[i]? = some p) (hno : out = [] ∨ ¬ used + gap + p.1 ≤ width) : CInv width gap L (i + 1) (out ++ [1]) p.1 := by
  refine .inr ⟨by omega, out, 1, rfl, ?_⟩
  have hd := drop_at hp
  have hi := (List.getElem?_eq_some_iff.1 hp).1
  have hh : head width gap (L.drop i) = fit width gap p.1 (L.drop (i + 1)) + 1 := by rw [hd]; rfl
  have hcc := cnt_cons width gap (L := L.drop i) (by rw [List.length_drop]; omega)
  rw [hh, List.drop_drop] at hcc
  have e1 : i + (fit width gap p.1 (L.drop (i + 1)) + 1) = i + 1 + fit width gap p.1 (L.drop (i + 1)) := by omega
  rw [e1] at hcc
  have e2 : ((fit width gap p.1 (L.drop (i + 1)) + 1 : Nat) : Int) = 1 + (fit width gap p.1 (L.drop (i + 1)) : Int) := by omega
  rw [e2] at hcc
  rcases h with ⟨rfl, rfl⟩ | ⟨_, D, n, rfl, hc⟩
  · rw [List.drop_zero] at hcc
    rw [hcc]; rfl
  · have h0 : fit width gap used (L.drop i) = 0 := by
      rw [hd]
      unfold fit
      rw [if_neg]
      rcases hno with h | h
      · simp at h
      · exact h
    rw [h0] at hc
    rw [hc, Nat.add_zero, hcc]
    simp
theorem CInv.more {width gap : Int} {L : List (Int × Int)} {i : Nat} {D : List Int} {n used : Int} {p : Int × Int} (h : CInv width gap L i (D ++ [n]) used) (hp : L[i]? = some p) (hle : used + gap + p.1 ≤ width) : CInv width gap L (i + 1) (D ++ [n + 1]) (used + gap + p.1) := by
  have hd := drop_at hp
  rcases h with ⟨_, h⟩ | ⟨_, D', n', he, hc⟩
  · simp at h
  · obtain ⟨rfl, h2⟩ := List.append_inj' he rfl
    injection h2 with h2
    subst h2
    have hf : fit width gap used (L.drop i) = fit width gap (used + gap + p.1) (L.drop (i + 1)) + 1 := by
      rw [hd]
      conv => lhs; unfold fit
      rw [if_pos hle]
    refine .inr ⟨by omega, D, n + 1, rfl, ?_⟩
    rw [hf] at hc
    rw [hc]
    congr 2
    · omega
    · congr 2
      omega
theorem lines_mem (width gap : Int) (n : Nat) : ∀ (L : List (Int × Int)), L.length ≤ n → ∀ l ∈ lines width gap L, 0 < l.length ∧ l.length ≤ L.length := by
  induction n with
  | zero =>
    intro L h l hl
    have : L = [] := List.eq_nil_of_length_eq_zero (by omega)
    subst this
    simp [lines_nil] at hl
  | succ n ih =>
    intro L h l hl
    rcases Nat.eq_zero_or_pos L.length with h0 | h0
    · rw [List.eq_nil_of_length_eq_zero h0] at hl; simp [lines_nil] at hl
    · have hp := head_pos width gap h0
      have hle := head_le width gap L
      rw [lines_cons width gap h0] at hl
      rcases List.mem_cons.1 hl with rfl | hl
      · rw [List.length_take]; omega
      · have := ih (L.drop (head width gap L)) (by rw [List.length_drop]; omega) l hl
        rw [List.length_drop] at this
        omega
theorem cnt_le {width gap : Int} {L : List (Int × Int)} {x : Int} (h : x ∈ cnt width gap L) : 1 ≤ x ∧ x ≤ L.length := by
  obtain ⟨l, hl, rfl⟩ := List.mem_map.1 h
  have := lines_mem width gap L.length L (Nat.le_refl _) l hl
  omega
end Go.Proofs.Ytjkcejijdpmhoaa
