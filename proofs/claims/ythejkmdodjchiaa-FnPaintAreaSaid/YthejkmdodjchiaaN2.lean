/- The plain model of what rectangles cover: points, counted once. No program is named here. -/
import Derived.Test.YthejkmdodjchiaaN1
namespace Go.Proofs.Ythejkmdodjchiaa
set_option linter.unusedVariables false
set_option linter.unusedSimpArgs false

theorem nodup_len_le {α : Type} [DecidableEq α] : ∀ {A B : List α}, A.Nodup → (∀ x ∈ A, x ∈ B) → A.length ≤ B.length
  | [], _, _, _ => Nat.zero_le _
  | a :: A, B, h, hs => by
    rw [List.nodup_cons] at h
    have ha := hs a (by simp)
    have ih := nodup_len_le (A := A) (B := B.erase a) h.2 (fun x hx => (List.mem_erase_of_ne (fun e => h.1 (by rw [← e]; exact hx))).2 (hs x (by simp [hx])))
    rw [List.length_erase_of_mem ha] at ih
    have := List.length_pos_of_mem ha
    rw [List.length_cons]
    omega
theorem nodup_len_eq {α : Type} [DecidableEq α] {A B : List α} (hA : A.Nodup) (hB : B.Nodup) (h : ∀ x, x ∈ A ↔ x ∈ B) : A.length = B.length :=
  Nat.le_antisymm (nodup_len_le hA fun x hx => (h x).1 hx) (nodup_len_le hB fun x hx => (h x).2 hx)

theorem filter_two {α : Type} (p : α → Bool) : ∀ L : List α, (L.filter fun x => !p x).length + (L.filter p).length = L.length
  | [] => rfl
  | x :: L => by
    have ih := filter_two p L
    rw [List.filter_cons, List.filter_cons]
    cases h : p x <;> simp <;> omega
def inPt (r : RectD) (x y : Int) : Bool := decide (r.X ≤ x ∧ x < r.X + r.W ∧ r.Y ≤ y ∧ y < r.Y + r.H)
theorem inPt_iff {r : RectD} {x y : Int} : inPt r x y = true ↔ r.X ≤ x ∧ x < r.X + r.W ∧ r.Y ≤ y ∧ y < r.Y + r.H := by
  unfold inPt
  rw [decide_eq_true_eq]
/-- A column of k points; the points of the first k columns. -/
def colTo (r : RectD) (x k : Nat) : List (Int × Int) := (List.range k).map fun y : Nat => (r.X + (x : Int), r.Y + (y : Int))
def colsTo (r : RectD) (k : Nat) : List (Int × Int) := (List.range k).flatMap fun x => colTo r x r.H.toNat
def ptsR (r : RectD) : List (Int × Int) := colsTo r r.W.toNat
theorem colTo_next (r : RectD) (x k : Nat) : colTo r x (k + 1) = colTo r x k ++ [(r.X + (x : Int), r.Y + (k : Int))] := by
  unfold colTo
  rw [List.range_succ, List.map_append]
  rfl
theorem colsTo_next (r : RectD) (k : Nat) : colsTo r (k + 1) = colsTo r k ++ colTo r k r.H.toNat := by
  unfold colsTo
  rw [List.range_succ, List.flatMap_append]
  simp
theorem mem_colTo {r : RectD} {x k : Nat} {p : Int × Int} : p ∈ colTo r x k ↔ p.1 = r.X + (x : Int) ∧ r.Y ≤ p.2 ∧ p.2 < r.Y + (k : Int) := by
  unfold colTo
  rw [List.mem_map]
  constructor
  · rintro ⟨y, hy, rfl⟩
    rw [List.mem_range] at hy
    refine ⟨rfl, ?_, ?_⟩
    · show r.Y ≤ r.Y + (y : Int)
      omega
    · show r.Y + (y : Int) < r.Y + (k : Int)
      omega
  · rintro ⟨h1, h2, h3⟩
    refine ⟨(p.2 - r.Y).toNat, by rw [List.mem_range]; omega, ?_⟩
    apply Prod.ext
    · simp only; omega
    · simp only; omega
theorem mem_colsTo {r : RectD} {k : Nat} {p : Int × Int} : p ∈ colsTo r k ↔ r.X ≤ p.1 ∧ p.1 < r.X + (k : Int) ∧ r.Y ≤ p.2 ∧ p.2 < r.Y + (r.H.toNat : Int) := by
  unfold colsTo
  rw [List.mem_flatMap]
  constructor
  · rintro ⟨x, hx, hp⟩
    rw [List.mem_range] at hx
    have := mem_colTo.1 hp
    omega
  · rintro ⟨h1, h2, h3, h4⟩
    exact ⟨(p.1 - r.X).toNat, by rw [List.mem_range]; omega, mem_colTo.2 ⟨by omega, h3, h4⟩⟩
theorem mem_pts {r : RectD} (hw : 0 ≤ r.W) (hh : 0 ≤ r.H) {p : Int × Int} : p ∈ ptsR r ↔ inPt r p.1 p.2 = true := by
  unfold ptsR
  rw [mem_colsTo, inPt_iff]
  omega
theorem nodup_colTo (r : RectD) (x k : Nat) : (colTo r x k).Nodup := by
  induction k with
  | zero => simp [colTo]
  | succ k ih =>
    rw [colTo_next, List.nodup_append]
    refine ⟨ih, by simp, fun a ha b hb => ?_⟩
    have h1 := mem_colTo.1 ha
    simp at hb
    subst hb
    intro e
    subst e
    simp only at h1
    omega
theorem nodup_colsTo (r : RectD) (k : Nat) : (colsTo r k).Nodup := by
  induction k with
  | zero => simp [colsTo]
  | succ k ih =>
    rw [colsTo_next, List.nodup_append]
    refine ⟨ih, nodup_colTo r k _, fun a ha b hb => ?_⟩
    have h1 := mem_colsTo.1 ha
    have h2 := mem_colTo.1 hb
    intro e
    subst e
    omega
theorem nodup_pts (r : RectD) : (ptsR r).Nodup := nodup_colsTo r _
theorem len_colTo (r : RectD) (x k : Nat) : (colTo r x k).length = k := by simp [colTo]
theorem len_colsTo (r : RectD) (k : Nat) : (colsTo r k).length = k * r.H.toNat := by
  induction k with
  | zero => simp [colsTo]
  | succ k ih => rw [colsTo_next, List.length_append, ih, len_colTo, Nat.add_mul]; omega
theorem len_pts (r : RectD) : (ptsR r).length = r.W.toNat * r.H.toNat := len_colsTo r _

/-! ## The reference counts row by row, what no rectangle before has -/
def firstB (L : List RectD) (i : Nat) (x y : Int) : Bool := !((L.take i).any fun r => inPt r x y)
def rowTo (L : List RectD) (i : Nat) (r : RectD) (y k : Nat) : List (Int × Int) := ((List.range k).map fun x : Nat => (r.X + (x : Int), r.Y + (y : Int))).filter fun p => firstB L i p.1 p.2
def rowsTo (L : List RectD) (i : Nat) (r : RectD) (k : Nat) : List (Int × Int) := (List.range k).flatMap fun y => rowTo L i r y r.W.toNat
def newPts (L : List RectD) (i : Nat) (r : RectD) : List (Int × Int) := rowsTo L i r r.H.toNat
def allTo (L : List RectD) (k : Nat) : List (Int × Int) := (List.range k).flatMap fun i => newPts L i (L.getD i zeroR)
def allPts (L : List RectD) : List (Int × Int) := allTo L L.length
def areaM (L : List RectD) : Nat := (allPts L).length
theorem rowTo_next (L : List RectD) (i : Nat) (r : RectD) (y k : Nat) : rowTo L i r y (k + 1) = rowTo L i r y k ++ if firstB L i (r.X + (k : Int)) (r.Y + (y : Int)) then [(r.X + (k : Int), r.Y + (y : Int))] else [] := by
  unfold rowTo
  rw [List.range_succ, List.map_append, List.filter_append]
  congr 1
  rw [List.map_cons, List.map_nil, List.filter_cons]
  rfl
theorem rowTo_len (L : List RectD) (i : Nat) (r : RectD) (y k : Nat) : (rowTo L i r y (k + 1)).length = (rowTo L i r y k).length + if firstB L i (r.X + (k : Int)) (r.Y + (y : Int)) then 1 else 0 := by
  rw [rowTo_next, List.length_append]
  congr 1
  split <;> rfl
theorem rowsTo_next (L : List RectD) (i : Nat) (r : RectD) (k : Nat) : rowsTo L i r (k + 1) = rowsTo L i r k ++ rowTo L i r k r.W.toNat := by
  unfold rowsTo
  rw [List.range_succ, List.flatMap_append]
  simp
theorem allTo_next {L : List RectD} {i : Nat} {r : RectD} (h : L[i]? = some r) : allTo L (i + 1) = allTo L i ++ newPts L i r := by
  unfold allTo
  rw [List.range_succ, List.flatMap_append]
  simp [List.getD_eq_getElem?_getD, h]
theorem mem_rowTo {L : List RectD} {i : Nat} {r : RectD} {y k : Nat} {p : Int × Int} : p ∈ rowTo L i r y k ↔ (p.2 = r.Y + (y : Int) ∧ r.X ≤ p.1 ∧ p.1 < r.X + (k : Int)) ∧ firstB L i p.1 p.2 = true := by
  unfold rowTo
  rw [List.mem_filter, List.mem_map]
  constructor
  · rintro ⟨⟨x, hx, rfl⟩, h⟩
    rw [List.mem_range] at hx
    refine ⟨⟨rfl, ?_, ?_⟩, h⟩
    · show r.X ≤ r.X + (x : Int)
      omega
    · show r.X + (x : Int) < r.X + (k : Int)
      omega
  · rintro ⟨⟨h1, h2, h3⟩, h⟩
    refine ⟨⟨(p.1 - r.X).toNat, by rw [List.mem_range]; omega, ?_⟩, h⟩
    apply Prod.ext
    · simp only; omega
    · simp only; omega
theorem mem_rowsTo {L : List RectD} {i : Nat} {r : RectD} {k : Nat} {p : Int × Int} : p ∈ rowsTo L i r k ↔ (r.Y ≤ p.2 ∧ p.2 < r.Y + (k : Int) ∧ r.X ≤ p.1 ∧ p.1 < r.X + (r.W.toNat : Int)) ∧ firstB L i p.1 p.2 = true := by
  unfold rowsTo
  rw [List.mem_flatMap]
  constructor
  · rintro ⟨y, hy, hp⟩
    rw [List.mem_range] at hy
    have := mem_rowTo.1 hp
    exact ⟨by omega, this.2⟩
  · rintro ⟨⟨h1, h2, h3, h4⟩, h⟩
    exact ⟨(p.2 - r.Y).toNat, by rw [List.mem_range]; omega, mem_rowTo.2 ⟨⟨by omega, h3, h4⟩, h⟩⟩
theorem mem_newPts {L : List RectD} {i : Nat} {r : RectD} (hw : 0 ≤ r.W) (hh : 0 ≤ r.H) {p : Int × Int} : p ∈ newPts L i r ↔ inPt r p.1 p.2 = true ∧ firstB L i p.1 p.2 = true := by
  unfold newPts
  rw [mem_rowsTo, inPt_iff]
  constructor
  · rintro ⟨h1, h2⟩; exact ⟨by omega, h2⟩
  · rintro ⟨h1, h2⟩; exact ⟨by omega, h2⟩
theorem nodup_rowTo (L : List RectD) (i : Nat) (r : RectD) (y k : Nat) : (rowTo L i r y k).Nodup := by
  induction k with
  | zero => simp [rowTo]
  | succ k ih =>
    rw [rowTo_next, List.nodup_append]
    refine ⟨ih, by split <;> simp, fun a ha b hb => ?_⟩
    have h1 := (mem_rowTo.1 ha).1
    split at hb
    · simp at hb
      subst hb
      intro e
      subst e
      simp only at h1
      omega
    · simp at hb
theorem nodup_rowsTo (L : List RectD) (i : Nat) (r : RectD) (k : Nat) : (rowsTo L i r k).Nodup := by
  induction k with
  | zero => simp [rowsTo]
  | succ k ih =>
    rw [rowsTo_next, List.nodup_append]
    refine ⟨ih, nodup_rowTo L i r k _, fun a ha b hb => ?_⟩
    have h1 := (mem_rowsTo.1 ha).1
    have h2 := (mem_rowTo.1 hb).1
    intro e
    subst e
    omega
/-- Sides aren't negative. -/
def Sides (L : List RectD) : Prop := ∀ r ∈ L, 0 ≤ r.W ∧ 0 ≤ r.H
theorem firstB_iff {L : List RectD} {i : Nat} {x y : Int} : firstB L i x y = true ↔ ∀ j r, j < i → L[j]? = some r → inPt r x y = false := by
  unfold firstB
  rw [Bool.not_eq_true', Bool.eq_false_iff, ne_eq, List.any_eq_true]
  constructor
  · intro h j r hj hr
    rw [Bool.eq_false_iff]
    intro hp
    refine h ⟨r, ?_, hp⟩
    have : (L.take i)[j]? = some r := by rw [List.getElem?_take, if_pos hj]; exact hr
    exact List.mem_of_getElem? this
  · rintro h ⟨r, hr, hp⟩
    obtain ⟨j, hj⟩ := List.mem_iff_getElem?.1 hr
    rw [List.getElem?_take] at hj
    split at hj
    · rename_i hlt
      rw [h j r hlt hj] at hp
      cases hp
    · cases hj
theorem firstB_next {L : List RectD} {i : Nat} {r : RectD} {x y : Int} (h : L[i]? = some r) : firstB L (i + 1) x y = (firstB L i x y && !inPt r x y) := by
  obtain ⟨hi, rfl⟩ := List.getElem?_eq_some_iff.1 h
  unfold firstB
  rw [List.take_succ_eq_append_getElem hi, List.any_append]
  simp
theorem mem_allTo {L : List RectD} (hs : Sides L) : ∀ (k : Nat), k ≤ L.length → ∀ p : Int × Int, p ∈ allTo L k ↔ ∃ j r, j < k ∧ L[j]? = some r ∧ inPt r p.1 p.2 = true
  | 0, _, p => by simp [allTo]
  | k + 1, hk, p => by
    have hr := List.getElem?_eq_getElem (l := L) (i := k) (by omega)
    generalize L[k] = r at hr
    obtain ⟨h1, h2⟩ := hs r (List.mem_of_getElem? hr)
    rw [allTo_next hr, List.mem_append, mem_allTo hs k (by omega), mem_newPts h1 h2]
    constructor
    · rintro (⟨j, q, hj, hq, hp⟩ | ⟨hp, _⟩)
      · exact ⟨j, q, by omega, hq, hp⟩
      · exact ⟨k, r, by omega, hr, hp⟩
    · rintro ⟨j, q, hj, hq, hp⟩
      by_cases hex : ∃ j r, j < k ∧ L[j]? = some r ∧ inPt r p.1 p.2 = true
      · exact .inl hex
      · have hjk : j = k := by
          rcases Nat.lt_or_ge j k with h | h
          · exact absurd ⟨j, q, h, hq, hp⟩ hex
          · omega
        subst hjk
        rw [hr] at hq
        injection hq with hq
        subst hq
        refine .inr ⟨hp, firstB_iff.2 fun j' r' hj' hr' => ?_⟩
        rw [Bool.eq_false_iff]
        intro hp'
        exact hex ⟨j', r', hj', hr', hp'⟩
theorem nodup_allTo {L : List RectD} (hs : Sides L) : ∀ (k : Nat), k ≤ L.length → (allTo L k).Nodup
  | 0, _ => by simp [allTo]
  | k + 1, hk => by
    have hr := List.getElem?_eq_getElem (l := L) (i := k) (by omega)
    generalize L[k] = r at hr
    obtain ⟨h1, h2⟩ := hs r (List.mem_of_getElem? hr)
    rw [allTo_next hr, List.nodup_append]
    refine ⟨nodup_allTo hs k (by omega), nodup_rowsTo L k r _, fun a ha b hb => ?_⟩
    obtain ⟨j, q, hj, hq, hp⟩ := (mem_allTo hs k (by omega) a).1 ha
    have hf := ((mem_newPts h1 h2).1 hb).2
    intro e
    subst e
    rw [firstB_iff.1 hf j q hj hq] at hp
    cases hp
theorem mem_allPts {L : List RectD} (hs : Sides L) {p : Int × Int} : p ∈ allPts L ↔ ∃ r ∈ L, inPt r p.1 p.2 = true := by
  unfold allPts
  rw [mem_allTo hs L.length (Nat.le_refl _)]
  constructor
  · rintro ⟨j, r, _, hr, hp⟩
    exact ⟨r, List.mem_of_getElem? hr, hp⟩
  · rintro ⟨r, hr, hp⟩
    obtain ⟨j, hj⟩ := List.mem_iff_getElem?.1 hr
    exact ⟨j, r, (List.getElem?_eq_some_iff.1 hj).1, hj, hp⟩
theorem nodup_allPts {L : List RectD} (hs : Sides L) : (allPts L).Nodup := nodup_allTo hs _ (Nat.le_refl _)
/-- Whatever list has each covered point once has as many as areaM says. -/
theorem area_of {L : List RectD} (hs : Sides L) {K : List (Int × Int)} (hn : K.Nodup) (hm : ∀ p, p ∈ K ↔ ∃ r ∈ L, p ∈ ptsR r) : K.length = areaM L := by
  refine nodup_len_eq hn (nodup_allPts hs) fun p => ?_
  rw [hm p, mem_allPts hs]
  constructor
  · rintro ⟨r, hr, hp⟩; exact ⟨r, hr, (mem_pts (hs r hr).1 (hs r hr).2).1 hp⟩
  · rintro ⟨r, hr, hp⟩; exact ⟨r, hr, (mem_pts (hs r hr).1 (hs r hr).2).2 hp⟩
theorem area_ge {L : List RectD} (hs : Sides L) {r : RectD} (hr : r ∈ L) : r.W.toNat * r.H.toNat ≤ areaM L := by
  rw [← len_pts r]
  exact nodup_len_le (nodup_pts r) fun p hp => (mem_allPts hs).2 ⟨r, hr, (mem_pts (hs r hr).1 (hs r hr).2).1 hp⟩
theorem area_mono {L L' : List RectD} (hs : Sides L) (hs' : Sides L') (h : ∀ r ∈ L, ∃ q ∈ L', insideR r q = true) : areaM L ≤ areaM L' := by
  refine nodup_len_le (nodup_allPts hs) fun p hp => ?_
  obtain ⟨r, hr, hp⟩ := (mem_allPts hs).1 hp
  obtain ⟨q, hq, hi⟩ := h r hr
  refine (mem_allPts hs').2 ⟨q, hq, ?_⟩
  rw [inPt_iff] at *
  rw [insideR_iff] at hi
  omega
theorem area_twice {L : List RectD} (hs : Sides L) {r : RectD} (hr : r ∈ L) : areaM (L ++ [r]) = areaM L := by
  have hs' : Sides (L ++ [r]) := fun q hq => by
    rcases List.mem_append.1 hq with h | h
    · exact hs q h
    · rw [List.mem_singleton.1 h]; exact hs r hr
  refine nodup_len_eq (nodup_allPts hs') (nodup_allPts hs) fun p => ?_
  rw [mem_allPts hs', mem_allPts hs]
  constructor
  · rintro ⟨q, hq, hp⟩
    rcases List.mem_append.1 hq with h | h
    · exact ⟨q, h, hp⟩
    · rw [List.mem_singleton.1 h] at hp; exact ⟨r, hr, hp⟩
  · rintro ⟨q, hq, hp⟩
    exact ⟨q, List.mem_append_left _ hq, hp⟩
def areaS (r : RectD) : Int := r.W * r.H
def areasTo (L : List RectD) (k : Nat) : Int := ((L.take k).map areaS).sum
theorem areasTo_next {L : List RectD} {i : Nat} {r : RectD} (h : L[i]? = some r) : areasTo L (i + 1) = areasTo L i + r.W * r.H := by
  obtain ⟨hi, rfl⟩ := List.getElem?_eq_some_iff.1 h
  unfold areasTo
  rw [List.take_succ_eq_append_getElem hi, List.map_append, List.sum_append]
  simp [areaS]
theorem rowTo_le (L : List RectD) (i : Nat) (r : RectD) (y k : Nat) : (rowTo L i r y k).length ≤ k := by
  unfold rowTo
  refine Nat.le_trans (List.length_filter_le _ _) ?_
  simp
theorem rowsTo_le (L : List RectD) (i : Nat) (r : RectD) (k : Nat) : (rowsTo L i r k).length ≤ k * r.W.toNat := by
  induction k with
  | zero => simp [rowsTo]
  | succ k ih =>
    rw [rowsTo_next, List.length_append, Nat.add_mul]
    have := rowTo_le L i r k r.W.toNat
    omega
theorem allTo_le {L : List RectD} (hs : Sides L) : ∀ k, k ≤ L.length → ((allTo L k).length : Int) ≤ areasTo L k
  | 0, _ => by simp [allTo, areasTo]
  | k + 1, hk => by
    have hr := List.getElem?_eq_getElem (l := L) (i := k) (by omega)
    generalize L[k] = r at hr
    obtain ⟨h1, h2⟩ := hs r (List.mem_of_getElem? hr)
    rw [allTo_next hr, areasTo_next hr, List.length_append]
    have ih := allTo_le hs k (by omega)
    have hl := rowsTo_le L k r r.H.toNat
    have e : ((r.H.toNat * r.W.toNat : Nat) : Int) = r.W * r.H := by
      rw [Int.natCast_mul, Int.toNat_of_nonneg h1, Int.toNat_of_nonneg h2, Int.mul_comm]
    have hl' : ((newPts L k r).length : Int) ≤ r.W * r.H := by
      rw [← e]
      exact Int.ofNat_le.2 hl
    omega
theorem area_le {L : List RectD} (hs : Sides L) : (areaM L : Int) ≤ areasTo L L.length := allTo_le hs _ (Nat.le_refl _)

/-- Two rectangles share their common part. -/
theorem area_two {a b : RectD} (ha : 0 ≤ a.W ∧ 0 ≤ a.H) (hb : 0 ≤ b.W ∧ 0 ≤ b.H) : (areaM [a, b] : Int) = a.W * a.H + b.W * b.H - if meetsR a b then (meetR a b).W * (meetR a b).H else 0 := by
  have hs : Sides [a, b] := fun r hr => by
    simp at hr
    rcases hr with rfl | rfl
    · exact ha
    · exact hb
  have e : areaM [a, b] = (ptsR a ++ (ptsR b).filter fun p => !inPt a p.1 p.2).length := by
    refine nodup_len_eq (nodup_allPts hs) ?_ fun p => ?_
    · rw [List.nodup_append]
      refine ⟨nodup_pts a, (nodup_pts b).filter _, fun x hx y hy => ?_⟩
      rw [mem_pts ha.1 ha.2] at hx
      rw [List.mem_filter] at hy
      intro e
      subst e
      rw [hx] at hy
      simp at hy
    · rw [mem_allPts hs, List.mem_append, List.mem_filter, mem_pts ha.1 ha.2, mem_pts hb.1 hb.2]
      constructor
      · rintro ⟨r, hr, hp⟩
        simp at hr
        rcases hr with rfl | rfl
        · exact .inl hp
        · cases h : inPt a p.1 p.2 with
          | true => exact .inl rfl
          | false => exact .inr ⟨hp, rfl⟩
      · rintro (h | ⟨h, _⟩)
        · exact ⟨a, by simp, h⟩
        · exact ⟨b, by simp, h⟩
  have hsplit : ((ptsR b).filter fun p => !inPt a p.1 p.2).length + ((ptsR b).filter fun p => inPt a p.1 p.2).length = (ptsR b).length := by
    exact filter_two _ _
  have hcom : ((ptsR b).filter fun p => inPt a p.1 p.2).length = if meetsR a b then (meetR a b).W.toNat * (meetR a b).H.toNat else 0 := by
    split
    · rename_i h
      rw [← len_pts (meetR a b)]
      have hm := meetsR_iff.1 h
      have h1 : 0 ≤ (meetR a b).W := by unfold meetR; simp only; omega
      have h2 : 0 ≤ (meetR a b).H := by unfold meetR; simp only; omega
      refine nodup_len_eq ((nodup_pts b).filter _) (nodup_pts _) fun p => ?_
      rw [List.mem_filter, mem_pts hb.1 hb.2, mem_pts h1 h2, inPt_iff, inPt_iff, inPt_iff]
      unfold meetR
      simp only
      omega
    · rename_i h
      rw [List.length_eq_zero_iff, List.filter_eq_nil_iff]
      intro p hp hq
      rw [mem_pts hb.1 hb.2, inPt_iff] at hp
      rw [inPt_iff] at hq
      apply h
      rw [meetsR_iff]
      omega
  rw [e, List.length_append, len_pts]
  rw [len_pts] at hsplit
  have c1 : ((a.W.toNat * a.H.toNat : Nat) : Int) = a.W * a.H := by rw [Int.natCast_mul, Int.toNat_of_nonneg ha.1, Int.toNat_of_nonneg ha.2]
  have c2 : ((b.W.toNat * b.H.toNat : Nat) : Int) = b.W * b.H := by rw [Int.natCast_mul, Int.toNat_of_nonneg hb.1, Int.toNat_of_nonneg hb.2]
  rw [← c1, ← c2]
  split at hcom
  · rename_i h
    rw [if_pos h]
    have hm := meetsR_iff.1 h
    have h1 : 0 ≤ (meetR a b).W := by unfold meetR; simp only; omega
    have h2 : 0 ≤ (meetR a b).H := by unfold meetR; simp only; omega
    have c3 : (((meetR a b).W.toNat * (meetR a b).H.toNat : Nat) : Int) = (meetR a b).W * (meetR a b).H := by rw [Int.natCast_mul, Int.toNat_of_nonneg h1, Int.toNat_of_nonneg h2]
    rw [← c3]
    omega
  · rename_i h
    rw [if_neg h]
    omega
end Go.Proofs.Ythejkmdodjchiaa
