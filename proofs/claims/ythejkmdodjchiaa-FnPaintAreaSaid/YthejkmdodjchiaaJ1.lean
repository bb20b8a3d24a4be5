/- Joined paint: the model and its plain laws. No program is named here. -/
import Derived.Test.YthejkmdodjchiaaN2
import Derived.Test.YthejkmdodjchiaaFA
namespace Go.Proofs.Ythejkmdodjchiaa
set_option linter.unusedVariables false
set_option linter.unusedSimpArgs false
open Go.RowKit

/-- The first of the kept rectangles that has common points with r; -1. -/
def atMeet (out : List RectD) (r : RectD) : Int := firstAt (fun q => meetsR q r) out
def joinTo : List RectD → List RectD → Option (List RectD)
  | out, [] => some out
  | out, r :: L =>
    if atMeet out r < 0 then joinTo (out ++ [r]) L
    else if validR (hullR (out.getD (atMeet out r).toNat zeroR) r) then joinTo (out.set (atMeet out r).toNat (hullR (out.getD (atMeet out r).toNat zeroR) r)) L
    else none
def joinV (L : List RectD) : Option (List RectD) := if rectsB L 6 then joinTo [] L else none
def joinOk (L : List RectD) : Bool := (joinV L).isSome
def joinL (L : List RectD) : List RectD := (joinV L).getD []

theorem atMeet_lt {out : List RectD} {r : RectD} (h : ¬ atMeet out r < 0) : (atMeet out r).toNat < out.length := by
  unfold atMeet firstAt at *
  cases hf : out.findIdx? (fun q => meetsR q r) with
  | none => rw [hf] at h; exact absurd (by decide) h
  | some i =>
    rw [List.findIdx?_eq_some_iff_getElem] at hf
    obtain ⟨hi, _⟩ := hf
    simpa using hi
/-- Whatever was kept, and whatever came, lies in something that is left. -/
theorem joinTo_facts : ∀ (L out R : List RectD), joinTo out L = some R → (∀ q ∈ out, ∃ s ∈ R, insideR q s = true) ∧ (∀ r ∈ L, ∃ s ∈ R, insideR r s = true) ∧ R.length ≤ out.length + L.length
  | [], out, R, h => by
    injection h with h
    subst h
    exact ⟨fun q hq => ⟨q, hq, inside_refl q⟩, fun r hr => (List.not_mem_nil hr).elim, by simp⟩
  | r :: L, out, R, h => by
    rw [joinTo] at h
    split at h
    · obtain ⟨h1, h2, h3⟩ := joinTo_facts L _ R h
      refine ⟨fun q hq => h1 q (List.mem_append.2 (.inl hq)), fun x hx => ?_, by simp at h3 ⊢; omega⟩
      rcases List.mem_cons.1 hx with rfl | hx
      · exact h1 x (List.mem_append.2 (.inr (by simp)))
      · exact h2 x hx
    · rename_i hk
      split at h
      · obtain ⟨h1, h2, h3⟩ := joinTo_facts L _ R h
        have hlt := atMeet_lt hk
        generalize (atMeet out r).toNat = k at *
        obtain ⟨s, hs, hss⟩ := h1 _ (List.mem_iff_getElem?.2 ⟨k, List.getElem?_set_self hlt⟩)
        refine ⟨fun q hq => ?_, fun x hx => ?_, by simp at h3 ⊢; omega⟩
        · obtain ⟨j, hj⟩ := List.mem_iff_getElem?.1 hq
          by_cases e : k = j
          · subst e
            refine ⟨s, hs, inside_trans ?_ hss⟩
            rw [List.getD_eq_getElem?_getD, hj]
            exact inside_hull_left _ _
          · exact h1 q (List.mem_iff_getElem?.2 ⟨j, by rw [List.getElem?_set_ne e]; exact hj⟩)
        · rcases List.mem_cons.1 hx with rfl | hx
          · exact ⟨s, hs, inside_trans (inside_hull_right _ _) hss⟩
          · exact h2 x hx
      · cases h
theorem joinTo_take : ∀ (L out R : List RectD) (n : Nat), joinTo out L = some R → ∃ R', joinTo out (L.take n) = some R'
  | L, out, R, 0, h => ⟨out, by rw [List.take_zero]; rfl⟩
  | [], out, R, n + 1, h => ⟨out, rfl⟩
  | r :: L, out, R, n + 1, h => by
    rw [joinTo] at h
    rw [List.take_succ_cons, joinTo]
    split at h
    · rename_i hk; rw [if_pos hk]; exact joinTo_take L _ R n h
    · rename_i hk
      rw [if_neg hk]
      split at h
      · rename_i hv; rw [if_pos hv]; exact joinTo_take L _ R n h
      · cases h
theorem joinV_some {L R : List RectD} (h : joinV L = some R) : (L.length ≤ 6 ∧ ∀ r ∈ L, validR r = true) ∧ joinTo [] L = some R := by
  unfold joinV at h
  split at h
  · rename_i hr
    exact ⟨rectsB_iff.1 hr, h⟩
  · cases h
theorem joinL_of {L : List RectD} (h : joinOk L = true) : joinV L = some (joinL L) := by
  unfold joinOk at h
  unfold joinL
  cases hj : joinV L with
  | none => rw [hj] at h; cases h
  | some R => rfl
theorem joinL_len (L : List RectD) : (joinL L).length ≤ 6 := by
  unfold joinL
  cases hj : joinV L with
  | none => simp
  | some R =>
    obtain ⟨⟨h6, _⟩, h2⟩ := joinV_some hj
    have := (joinTo_facts L [] R h2).2.2
    simp at this ⊢
    omega
/-- What is left is valid. -/
theorem joinTo_valid : ∀ (L out R : List RectD), joinTo out L = some R → (∀ q ∈ out, validR q = true) → (∀ q ∈ L, validR q = true) → ∀ q ∈ R, validR q = true
  | [], out, R, h, ho, _ => by
    injection h with h
    subst h
    exact ho
  | r :: L, out, R, h, ho, hl => by
    rw [joinTo] at h
    split at h
    · refine joinTo_valid L _ R h (fun q hq => ?_) (fun q hq => hl q (by simp [hq]))
      rcases List.mem_append.1 hq with hq | hq
      · exact ho q hq
      · simp at hq; rw [hq]; exact hl r (by simp)
    · split at h
      · rename_i hv
        refine joinTo_valid L _ R h (fun q hq => ?_) (fun q hq => hl q (by simp [hq]))
        rcases List.mem_or_eq_of_mem_set hq with hq | rfl
        · exact ho q hq
        · exact hv
      · cases h
theorem atMeet_nil (r : RectD) : atMeet [] r = -1 := rfl
theorem atMeet_one (a b : RectD) : atMeet [a] b = if meetsR a b then 0 else -1 := by
  unfold atMeet firstAt
  cases h : meetsR a b <;> simp [List.findIdx?_cons, h]
theorem join_two {a b : RectD} : joinTo [] [a, b] = if meetsR a b then (if validR (hullR a b) then some [hullR a b] else none) else some [a, b] := by
  rw [joinTo, atMeet_nil, if_pos (by omega), List.nil_append, joinTo, atMeet_one]
  cases h : meetsR a b
  · simp [joinTo]
  · simp [joinTo]
theorem joinV_two {a b : RectD} (ha : validR a = true) (hb : validR b = true) : joinV [a, b] = if meetsR a b then (if validR (hullR a b) then some [hullR a b] else none) else some [a, b] := by
  unfold joinV
  rw [if_pos (rectsB_iff.2 ⟨by simp, fun r hr => by simp at hr; rcases hr with rfl | rfl <;> assumption⟩), join_two]
theorem joinOk_two {a b : RectD} (ha : validR a = true) (hb : validR b = true) (h : meetsR a b = true → validR (hullR a b) = true) : joinOk [a, b] = true ∧ joinL [a, b] = if meetsR a b then [hullR a b] else [a, b] := by
  unfold joinOk joinL
  rw [joinV_two ha hb]
  cases hm : meetsR a b
  · simp
  · simp [h hm]
/-- A rectangle twice. -/
theorem join_twice {a : RectD} (ha : validR a = true) : joinOk [a, a] = true ∧ joinL [a, a] = if meetsR a a then [a] else [a, a] := by
  have := joinOk_two ha ha (fun _ => by rw [hullR_self]; exact ha)
  rw [hullR_self] at this
  exact this
theorem meets_self {a : RectD} : meetsR a a = (decide (0 < a.W) && decide (0 < a.H)) := by
  rw [Bool.eq_iff_iff, meetsR_iff, Bool.and_eq_true, decide_eq_true_eq, decide_eq_true_eq]
  omega
/-- The first two of joined rectangles. -/
theorem join_first {L : List RectD} {a b : RectD} (h : joinOk L = true) (ha : L[0]? = some a) (hb : L[1]? = some b) : validR a = true ∧ validR b = true ∧ (L.take 2 = [a, b]) ∧ joinOk [a, b] = true ∧ joinL [a, b] = if meetsR a b then [hullR a b] else [a, b] := by
  obtain ⟨⟨_, hv⟩, h2⟩ := joinV_some (joinL_of h)
  have va := hv a (List.mem_of_getElem? ha)
  have vb := hv b (List.mem_of_getElem? hb)
  have ht : L.take 2 = [a, b] := by
    match L, ha, hb with
    | x :: y :: M, ha, hb =>
      simp at ha hb
      subst ha hb
      rfl
  obtain ⟨R', hR⟩ := joinTo_take L [] _ 2 h2
  rw [ht, join_two] at hR
  refine ⟨va, vb, ht, joinOk_two va vb fun hm => ?_⟩
  rw [hm] at hR
  cases hh : validR (hullR a b) with
  | true => rfl
  | false => rw [hh] at hR; cases hR
end Go.Proofs.Ythejkmdodjchiaa
