/- The plain model of wrapped rectangles. -/
import Derived.Test.YtjkcejijdpmhoaaM3
import Derived.Test.YtjkcejijdpmhoaaTRect
namespace Go.Proofs.Ytjkcejijdpmhoaa

def xAt (gap : Int) (l : List (Int × Int)) (k : Nat) : Int := ((l.take k).map fun p => p.1 + gap).sum
def yAt (gap : Int) (ls : List (List (Int × Int))) (i : Nat) : Int := ((ls.take i).map fun l => tall l + gap).sum
def row (gap y : Int) (l : List (Int × Int)) : List RectD := l.mapIdx fun k p => ⟨xAt gap l k, y, p.1, p.2⟩
def rowsOf (gap : Int) (ls : List (List (Int × Int))) : List (List RectD) := ls.mapIdx fun i l => row gap (yAt gap ls i) l
def rectsOf (L : List (Int × Int)) (width gap : Int) : List RectD := if okL L width gap then (rowsOf gap (lines width gap L)).flatten else []
/-- What is out behind i lines and k parts of the next one, l. -/
def outAt (gap : Int) (ls : List (List (Int × Int))) (i : Nat) (l : List (Int × Int)) (k : Nat) : List RectD := ((rowsOf gap ls).take i).flatten ++ (row gap (yAt gap ls i) l).take k

theorem mk_take {α : Type} {L : List α} {i : Nat} {x : α} (h : L[i]? = some x) : L.take (i + 1) = L.take i ++ [x] := by
  obtain ⟨hi, rfl⟩ := List.getElem?_eq_some_iff.1 h
  exact List.take_succ_eq_append_getElem hi
theorem xAt_zero (gap : Int) (l : List (Int × Int)) : xAt gap l 0 = 0 := rfl
theorem yAt_zero (gap : Int) (ls : List (List (Int × Int))) : yAt gap ls 0 = 0 := rfl
theorem xAt_next {gap : Int} {l : List (Int × Int)} {k : Nat} {p : Int × Int} (h : l[k]? = some p) : xAt gap l (k + 1) = xAt gap l k + (p.1 + gap) := by
  unfold xAt
  rw [mk_take h, List.map_append, List.sum_append]
  simp
theorem yAt_next {gap : Int} {ls : List (List (Int × Int))} {i : Nat} {l : List (Int × Int)} (h : ls[i]? = some l) : yAt gap ls (i + 1) = yAt gap ls i + (tall l + gap) := by
  unfold yAt
  rw [mk_take h, List.map_append, List.sum_append]
  simp
theorem sum_bds {α : Type} {f : α → Int} {m : Int} : ∀ {L : List α}, (∀ x ∈ L, 0 ≤ f x ∧ f x ≤ m) → 0 ≤ (L.map f).sum ∧ (L.map f).sum ≤ m * (L.length : Int)
  | [], _ => by simp
  | x :: L, h => by
    have h1 := h x (by simp)
    have h2 := sum_bds (L := L) (fun y hy => h y (by simp [hy]))
    rw [List.map_cons, List.sum_cons, List.length_cons]
    have e : m * ((L.length + 1 : Nat) : Int) = m * (L.length : Int) + m := by rw [Int.natCast_add, Int.mul_add]; simp
    omega
theorem xAt_bd {gap : Int} (hg : 0 ≤ gap ∧ gap ≤ 50) {l : List (Int × Int)} (h : ∀ p ∈ l, okP p = true) (k : Nat) : 0 ≤ xAt gap l k ∧ xAt gap l k ≤ 10050 * (l.length : Int) := by
  have := sum_bds (f := fun p : Int × Int => p.1 + gap) (m := 10050) (L := l.take k) (fun p hp => by
    have := h p (List.mem_of_mem_take hp)
    simp only [okP, Bool.and_eq_true, inR_iff] at this
    omega)
  have hl : (l.take k).length ≤ l.length := by rw [List.length_take]; omega
  unfold xAt
  omega
theorem yAt_bd {gap : Int} (hg : 0 ≤ gap ∧ gap ≤ 50) {ls : List (List (Int × Int))} (h : ∀ l ∈ ls, ∀ p ∈ l, okP p = true) (i : Nat) : 0 ≤ yAt gap ls i ∧ yAt gap ls i ≤ 10050 * (ls.length : Int) := by
  have := sum_bds (f := fun l : List (Int × Int) => tall l + gap) (m := 10050) (L := ls.take i) (fun l hl => by
    have := tall_bd (h l (List.mem_of_mem_take hl))
    omega)
  have hl : (ls.take i).length ≤ ls.length := by rw [List.length_take]; omega
  unfold yAt
  omega
theorem row_len (gap y : Int) (l : List (Int × Int)) : (row gap y l).length = l.length := by simp [row]
theorem row_at {gap y : Int} {l : List (Int × Int)} {k : Nat} {p : Int × Int} (h : l[k]? = some p) : (row gap y l)[k]? = some ⟨xAt gap l k, y, p.1, p.2⟩ := by
  simp [row, h]
theorem rows_len (gap : Int) (ls : List (List (Int × Int))) : (rowsOf gap ls).length = ls.length := by simp [rowsOf]
theorem rows_at {gap : Int} {ls : List (List (Int × Int))} {i : Nat} {l : List (Int × Int)} (h : ls[i]? = some l) : (rowsOf gap ls)[i]? = some (row gap (yAt gap ls i) l) := by
  simp [rowsOf, h]
theorem outAt_zero (gap : Int) (ls : List (List (Int × Int))) (l : List (Int × Int)) : outAt gap ls 0 l 0 = [] := by simp [outAt]
theorem outAt_next {gap : Int} {ls : List (List (Int × Int))} {i k : Nat} {l : List (Int × Int)} {p : Int × Int} (h : l[k]? = some p) : outAt gap ls i l (k + 1) = outAt gap ls i l k ++ [⟨xAt gap l k, yAt gap ls i, p.1, p.2⟩] := by
  unfold outAt
  rw [mk_take (row_at h), List.append_assoc]
theorem outAt_line {gap : Int} {ls : List (List (Int × Int))} {i : Nat} {l l' : List (Int × Int)} (h : ls[i]? = some l) : outAt gap ls (i + 1) l' 0 = outAt gap ls i l l.length := by
  unfold outAt
  rw [mk_take (rows_at h), List.flatten_append, List.take_zero, List.append_nil]
  congr 1
  have := row_len gap (yAt gap ls i) l
  rw [← this, List.take_length]
  simp
theorem outAt_len {gap : Int} {ls : List (List (Int × Int))} {i k : Nat} {l : List (Int × Int)} (hk : k ≤ l.length) : (outAt gap ls i l k).length = st ls i + k := by
  unfold outAt
  rw [List.length_append, List.length_take, row_len, show min k l.length = k by omega]
  congr 1
  unfold st
  rw [List.length_flatten, List.length_flatten]
  congr 1
  apply List.ext_getElem?
  intro j
  rw [List.getElem?_map, List.getElem?_map, List.getElem?_take, List.getElem?_take]
  split
  · cases hj : ls[j]? with
    | none =>
      have : (rowsOf gap ls)[j]? = none := by simp [rowsOf, hj]
      rw [this]; rfl
    | some l' =>
      rw [rows_at hj]
      simp [row_len]
  · rfl
theorem outAt_end (gap : Int) (ls : List (List (Int × Int))) (l : List (Int × Int)) : outAt gap ls ls.length l 0 = (rowsOf gap ls).flatten := by
  unfold outAt
  rw [List.take_zero, List.append_nil, ← rows_len gap ls, List.take_length]
theorem rects_len {L : List (Int × Int)} {width gap : Int} (h : okL L width gap = true) : (rectsOf L width gap).length = L.length := by
  rw [rectsOf, if_pos h, ← outAt_end gap _ [], outAt_len (by simp), st_end]
  rfl
end Go.Proofs.Ytjkcejijdpmhoaa
