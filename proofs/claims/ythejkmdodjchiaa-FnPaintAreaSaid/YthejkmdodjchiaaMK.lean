/- A set of points that is filled with repeats: how many points it has. No program is named here. -/
import Derived.Test.YthejkmdodjchiaaN2
import Derived.Maps.OwnSet
namespace Go.Proofs.Ythejkmdodjchiaa
set_option linter.unusedVariables false
set_option linter.unusedSimpArgs false
open Go.Maps

/-- What a point reads as, as a key. -/
def kp (p : Int × Int) : Lit := .string (keyBytes [.int .i64 p.1, .int .i64 p.2])
theorem kp_isKey (p : Int × Int) : WideAt.IsKeyLit (kp p) := trivial
theorem kp_same {p q : Int × Int} : (kp p).sameKey (kp q) = true ↔ kp p = kp q :=
  ⟨WideAt.sameKey_eq, fun h => by rw [h]; exact WideAt.sameKey_self (kp_isKey q)⟩

theorem addKeys : ∀ (xs acc : List (Int × Int)), acc.Nodup → (∀ p q, (p ∈ acc ∨ p ∈ xs) → (q ∈ acc ∨ q ∈ xs) → kp p = kp q → p = q) →
    ∃ K : List (Int × Int), K.Nodup ∧ (∀ p, p ∈ K ↔ p ∈ acc ∨ p ∈ xs) ∧ (xs.map kp).foldl addKey (acc.map kp) = K.map kp
  | [], acc, h, _ => ⟨acc, h, fun p => by simp, rfl⟩
  | x :: xs, acc, h, hi => by
    rw [List.map_cons, List.foldl_cons]
    by_cases hx : x ∈ acc
    · have e : addKey (acc.map kp) (kp x) = acc.map kp := by
        unfold addKey
        rw [if_pos]
        rw [List.any_eq_true]
        exact ⟨kp x, List.mem_map_of_mem hx, kp_same.2 rfl⟩
      rw [e]
      obtain ⟨K, h1, h2, h3⟩ := addKeys xs acc h (fun p q hp hq => hi p q (hp.imp_right (List.mem_cons_of_mem x)) (hq.imp_right (List.mem_cons_of_mem x)))
      refine ⟨K, h1, fun p => ?_, h3⟩
      rw [h2 p, List.mem_cons]
      constructor
      · rintro (h | h)
        · exact .inl h
        · exact .inr (.inr h)
      · rintro (h | rfl | h)
        · exact .inl h
        · exact .inl hx
        · exact .inr h
    · have e : addKey (acc.map kp) (kp x) = (acc ++ [x]).map kp := by
        unfold addKey
        rw [if_neg]
        · simp
        · rw [List.any_eq_true]
          rintro ⟨y, hy, hs⟩
          obtain ⟨z, hz, rfl⟩ := List.mem_map.1 hy
          have := hi z x (.inl hz) (.inr (by simp)) (kp_same.1 hs)
          subst this
          exact hx hz
      rw [e]
      obtain ⟨K, h1, h2, h3⟩ := addKeys xs (acc ++ [x]) (by
        rw [List.nodup_append]
        refine ⟨h, by simp, fun a ha b hb => ?_⟩
        simp at hb
        subst hb
        intro e
        subst e
        exact hx ha) (fun p q hp hq => hi p q (by
          rcases hp with hp | hp
          · rcases List.mem_append.1 hp with hp | hp
            · exact .inl hp
            · exact .inr (List.mem_cons.2 (.inl (by simpa using hp)))
          · exact .inr (List.mem_cons_of_mem x hp)) (by
          rcases hq with hp | hp
          · rcases List.mem_append.1 hp with hp | hp
            · exact .inl hp
            · exact .inr (List.mem_cons.2 (.inl (by simpa using hp)))
          · exact .inr (List.mem_cons_of_mem x hp)))
      refine ⟨K, h1, fun p => ?_, h3⟩
      rw [h2 p]
      simp [or_assoc]

/-- The points of the first k rectangles, one rectangle behind the other. -/
def doneTo (L : List RectD) (k : Nat) : List (Int × Int) := (L.take k).flatMap ptsR
theorem doneTo_next {L : List RectD} {i : Nat} {r : RectD} (h : L[i]? = some r) : doneTo L (i + 1) = doneTo L i ++ ptsR r := by
  obtain ⟨hi, rfl⟩ := List.getElem?_eq_some_iff.1 h
  unfold doneTo
  rw [List.take_succ_eq_append_getElem hi, List.flatMap_append]
  simp
theorem doneTo_all (L : List RectD) : doneTo L L.length = L.flatMap ptsR := by
  unfold doneTo
  rw [List.take_length]
theorem mem_doneTo {L : List RectD} {k : Nat} {p : Int × Int} (h : p ∈ doneTo L k) : ∃ r ∈ L, p ∈ ptsR r := by
  unfold doneTo at h
  obtain ⟨r, hr, hp⟩ := List.mem_flatMap.1 h
  exact ⟨r, List.mem_of_mem_take hr, hp⟩

section
variable {H : Type}
/-- The set behind these points. -/
def setP (pts : List (Int × Int)) : DataW H := setOf (.lit (.bool true)) (pts.map kp)
theorem setP_nil : (setP [] : DataW H) = .map [] := rfl
theorem setP_snoc (pts : List (Int × Int)) (p : Int × Int) : (setP (pts ++ [p]) : DataW H) = (setP pts).put (kp p) (.lit (.bool true)) := by
  unfold setP
  rw [List.map_append, List.map_cons, List.map_nil, setOf_snoc]
theorem setP_area {L : List RectD} (hs : Sides L) (hi : ∀ p q, p ∈ L.flatMap ptsR → q ∈ L.flatMap ptsR → kp p = kp q → p = q) : Maps.size (setP (L.flatMap ptsR) : DataW H) = areaM L := by
  unfold setP
  rw [size_setOf _ _ (fun x hx => by obtain ⟨p, _, rfl⟩ := List.mem_map.1 hx; exact kp_isKey p)]
  obtain ⟨K, h1, h2, h3⟩ := addKeys (L.flatMap ptsR) [] List.nodup_nil (fun p q hp hq => hi p q (by simpa using hp) (by simpa using hq))
  rw [List.map_nil] at h3
  rw [h3, List.length_map]
  refine area_of hs h1 fun p => ?_
  rw [h2 p, List.mem_flatMap]
  simp
end

/-- Lists of which PaintArea counts the points. -/
def smallR (r : RectD) : Bool := !(decide (40 < r.W) || decide (40 < r.H))
def paintOk (L : List RectD) : Bool := rectsB L 6 && L.all smallR
def areaV (L : List RectD) : Int := if paintOk L then (areaM L : Int) else -1
theorem paintOk_iff {L : List RectD} : paintOk L = true ↔ (L.length ≤ 6 ∧ ∀ r ∈ L, validR r = true) ∧ ∀ r ∈ L, r.W ≤ 40 ∧ r.H ≤ 40 := by
  unfold paintOk
  rw [Bool.and_eq_true, rectsB_iff, List.all_eq_true]
  refine and_congr_right fun _ => forall₂_congr fun r _ => ?_
  unfold smallR
  simp only [Bool.not_eq_true', Bool.or_eq_false_iff, decide_eq_false_iff_not]
  omega
theorem sides_of {L : List RectD} (h : ∀ r ∈ L, validR r = true) : Sides L := fun r hr => by
  have := validR_iff.1 (h r hr)
  omega
theorem area_bd {L : List RectD} (h : paintOk L = true) : areaM L ≤ 9600 := by
  obtain ⟨⟨h1, h2⟩, h3⟩ := paintOk_iff.1 h
  have hs := sides_of h2
  have key : ∀ k, k ≤ L.length → (allTo L k).length ≤ 1600 * k := by
    intro k
    induction k with
    | zero => intro _; simp [allTo]
    | succ k ih =>
      intro hk
      have hr := List.getElem?_eq_getElem (l := L) (i := k) (by omega)
      generalize L[k] = r at hr
      have hm := List.mem_of_getElem? hr
      obtain ⟨a, b⟩ := hs r hm
      obtain ⟨c, d⟩ := h3 r hm
      rw [allTo_next hr, List.length_append]
      have hl : (newPts L k r).length ≤ r.H.toNat * r.W.toNat := rowsTo_le L k r r.H.toNat
      have hb : r.H.toNat * r.W.toNat ≤ 40 * 40 := Nat.mul_le_mul (by omega) (by omega)
      have := ih (by omega)
      omega
  have := key L.length (Nat.le_refl _)
  unfold areaM allPts
  omega
end Go.Proofs.Ythejkmdodjchiaa
