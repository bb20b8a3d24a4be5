/- The sizes of tracks: the plain model. -/
import Derived.Test.YtjebjcabggmaiaaS7
namespace Go.Proofs.Ytjebjcabggmaiaa
set_option linter.unusedVariables false
set_option linter.unusedSimpArgs false
open Go.RowKit Go.Lib

def sizesT (L : List TrackD) : List Int := L.map (·.Size)
def partsT (L : List TrackD) : List Int := L.map (·.Part)
theorem sizesT_len (L : List TrackD) : (sizesT L).length = L.length := by simp [sizesT]
theorem partsT_len (L : List TrackD) : (partsT L).length = L.length := by simp [partsT]
theorem sizesT_at {L : List TrackD} {i : Nat} {x : TrackD} (h : L[i]? = some x) : (sizesT L)[i]? = some x.Size := by
  unfold sizesT
  rw [List.getElem?_map, h]
  rfl
theorem partsT_at {L : List TrackD} {i : Nat} {x : TrackD} (h : L[i]? = some x) : (partsT L)[i]? = some x.Part := by
  unfold partsT
  rw [List.getElem?_map, h]
  rfl
theorem take_next {α : Type} {S : List α} {i : Nat} {y : α} (h : S[i]? = some y) : S.take (i + 1) = S.take i ++ [y] := by
  obtain ⟨hi, rfl⟩ := List.getElem?_eq_some_iff.1 h
  rw [List.take_succ_eq_append_getElem hi]
theorem sizesT_small {L : List TrackD} (h : vTs L = true) : ∀ x ∈ sizesT L, 0 ≤ x ∧ x ≤ 10000 := fun x hx => by
  obtain ⟨t, ht, rfl⟩ := List.mem_map.1 hx
  exact (vT_field ((vTs_iff.1 h).2 t ht)).1
theorem partsT_small {L : List TrackD} (h : vTs L = true) : ∀ x ∈ partsT L, 0 ≤ x ∧ x ≤ 10 := fun x hx => by
  obtain ⟨t, ht, rfl⟩ := List.mem_map.1 hx
  exact (vT_field ((vTs_iff.1 h).2 t ht)).2
theorem small_sizesT {L : List TrackD} (h : vTs L = true) : smallI (sizesT L) := fun x hx => by have := sizesT_small h x hx; omega
theorem small_partsT {L : List TrackD} (h : vTs L = true) : smallI (partsT L) := fun x hx => by have := partsT_small h x hx; omega
/-- The sum of sizes is small. -/
theorem sum_sizes {L : List TrackD} (h : vTs L = true) (i : Nat) : 0 ≤ ((sizesT L).take i).sum ∧ ((sizesT L).take i).sum ≤ 80000 := by
  have h1 := sum_nonneg (L := (sizesT L).take i) (fun x hx => (sizesT_small h x (List.mem_of_mem_take hx)).1)
  have h2 := sum_le (m := 10000) (by omega) (L := (sizesT L).take i) (fun x hx => (sizesT_small h x (List.mem_of_mem_take hx)).2)
  have h3 : ((sizesT L).take i).length ≤ 8 := by
    have := (vTs_iff.1 h).1
    rw [List.length_take, sizesT_len]
    omega
  refine ⟨h1, ?_⟩
  omega

/-- The space that is left for parts. -/
def leftT (L : List TrackD) (sp gap : Int) : Int := max (sp - (sizesT L).sum - gap * ((L.length : Int) - 1)) 0
/-- The first k of other numbers are added. -/
def addTo (a b : List Int) (k : Nat) : List Int := (List.range a.length).map fun i => a.getD i 0 + if i < k then b.getD i 0 else 0
theorem addTo_len (a b : List Int) (k : Nat) : (addTo a b k).length = a.length := by simp [addTo]
theorem addTo_at {a b : List Int} {k i : Nat} {x : Int} (h : a[i]? = some x) : (addTo a b k)[i]? = some (x + if i < k then b.getD i 0 else 0) := by
  have hi := (List.getElem?_eq_some_iff.1 h).1
  unfold addTo
  rw [List.getElem?_map, List.getElem?_range hi]
  simp only [Option.map_some]
  rw [List.getD_eq_getElem?_getD, h]
  rfl
theorem addTo_zero (a b : List Int) : addTo a b 0 = a := by
  apply List.ext_getElem?
  intro i
  by_cases hi : i < a.length
  · have h := List.getElem?_eq_getElem hi
    rw [addTo_at h, h]
    simp
  · rw [List.getElem?_eq_none (by rw [addTo_len]; omega), List.getElem?_eq_none (by omega)]
theorem addTo_next {a b : List Int} {k : Nat} {x y : Int} (hx : a[k]? = some x) (hy : b[k]? = some y) : (addTo a b k)[k]? = some x ∧ addTo a b (k + 1) = (addTo a b k).set k (x + y) ∧ (addTo a b (k + 1))[k]? = some (x + y) := by
  have hk := (List.getElem?_eq_some_iff.1 hx).1
  have e : b.getD k 0 = y := by rw [List.getD_eq_getElem?_getD, hy]; rfl
  refine ⟨by rw [addTo_at hx, if_neg (by omega)]; simp, ?_, by rw [addTo_at hx, if_pos (by omega), e]⟩
  apply List.ext_getElem?
  intro i
  by_cases hi : i < a.length
  · have h := List.getElem?_eq_getElem hi
    by_cases ei : k = i
    · subst ei
      rw [List.getElem?_set_self (by rw [addTo_len]; exact hk), addTo_at hx, if_pos (by omega), e]
    · rw [List.getElem?_set_ne ei, addTo_at h, addTo_at h]
      congr 2
      by_cases hik : i < k
      · rw [if_pos (by omega), if_pos hik]
      · rw [if_neg (by omega), if_neg hik]
  · rw [List.getElem?_eq_none (by rw [addTo_len]; omega), List.getElem?_eq_none (by rw [List.length_set, addTo_len]; omega)]
theorem addTo_mono {a b : List Int} {j k i : Nat} (hij : i < j) (hik : i < k) : (addTo a b j)[i]? = (addTo a b k)[i]? := by
  by_cases hi : i < a.length
  · have h := List.getElem?_eq_getElem hi
    rw [addTo_at h, addTo_at h, if_pos hij, if_pos hik]
  · rw [List.getElem?_eq_none (by rw [addTo_len]; omega), List.getElem?_eq_none (by rw [addTo_len]; omega)]

/-- The sizes of valid tracks. -/
def moreT (L : List TrackD) (sp gap : Int) : List Int := shareM (leftT L sp gap) (partsT L)
def trackM (L : List TrackD) (sp gap : Int) : List Int := addTo (sizesT L) (moreT L sp gap) L.length
theorem moreT_len (L : List TrackD) (sp gap : Int) : (moreT L sp gap).length = L.length := by
  unfold moreT
  rw [shareM_len, partsT_len]
theorem trackM_len (L : List TrackD) (sp gap : Int) : (trackM L sp gap).length = L.length := by
  unfold trackM
  rw [addTo_len, sizesT_len]
theorem shareTo_small {sp : Int} {ws : List Int} {k : Nat} (hsp : 0 ≤ sp) (hw : ∀ x ∈ ws, 0 ≤ x) (hS : 0 < ws.sum) : ∀ x ∈ shareTo sp ws k, 0 ≤ x ∧ x ≤ sp + 1 := fun x hx => by
  obtain ⟨i, hi, rfl⟩ := List.mem_iff_getElem.1 hx
  have hi' : i < ws.length := by rw [shareTo_len] at hi; exact hi
  have h1 := shareTo_at (sp := sp) (k := k) hi'
  rw [List.getElem?_eq_getElem hi] at h1
  injection h1 with h1
  rw [h1]
  have := base_le hsp hw hS hi'
  split <;> omega
theorem shareM_small {sp : Int} {ws : List Int} (hsp : 0 ≤ sp) (hw : ∀ x ∈ ws, 0 ≤ x) : ∀ x ∈ shareM sp ws, 0 ≤ x ∧ x ≤ sp + 1 := fun x hx => by
  unfold shareM at hx
  split at hx
  · have := List.eq_of_mem_replicate hx
    omega
  · rename_i h
    exact shareTo_small hsp hw (by have := sum_nonneg hw; omega) x hx
theorem leftT_bd {L : List TrackD} {sp gap : Int} (hv : vTs L = true) (hsp : 0 ≤ sp ∧ sp ≤ 200000) (hg : 0 ≤ gap ∧ gap ≤ 50) : 0 ≤ leftT L sp gap ∧ leftT L sp gap ≤ 200000 := by
  have h1 := (vTs_iff.1 hv).1
  have h2 := sum_sizes hv L.length
  rw [← sizesT_len, List.take_length] at h2
  have h3 := Int.mul_nonneg hg.1 (show 0 ≤ (L.length : Int) - 1 by omega)
  unfold leftT
  omega
theorem moreT_small {L : List TrackD} {sp gap : Int} (hv : vTs L = true) (hsp : 0 ≤ sp ∧ sp ≤ 200000) (hg : 0 ≤ gap ∧ gap ≤ 50) : ∀ x ∈ moreT L sp gap, 0 ≤ x ∧ x ≤ 200001 := fun x hx => by
  have h1 := leftT_bd hv hsp hg
  have := shareM_small h1.1 (fun y hy => (partsT_small hv y hy).1) x hx
  omega
theorem trackM_small {L : List TrackD} {sp gap : Int} (hv : vTs L = true) (hsp : 0 ≤ sp ∧ sp ≤ 200000) (hg : 0 ≤ gap ∧ gap ≤ 50) : smallI (trackM L sp gap) := fun x hx => by
  obtain ⟨i, hi, rfl⟩ := List.mem_iff_getElem.1 hx
  have hi' : i < L.length := by rw [trackM_len] at hi; exact hi
  have hx1 := List.getElem?_eq_getElem (l := sizesT L) (i := i) (by rw [sizesT_len]; exact hi')
  have hy1 := List.getElem?_eq_getElem (l := moreT L sp gap) (i := i) (by rw [moreT_len]; exact hi')
  have h1 : (trackM L sp gap)[i]? = some ((sizesT L)[i]'(by rw [sizesT_len]; exact hi') + (moreT L sp gap)[i]'(by rw [moreT_len]; exact hi')) := by
    unfold trackM
    rw [addTo_mono (k := i + 1) hi' (by omega)]
    exact (addTo_next hx1 hy1).2.2
  rw [List.getElem?_eq_getElem hi] at h1
  injection h1 with h1
  rw [h1]
  have a := sizesT_small hv _ (List.getElem_mem (l := sizesT L) (n := i) (by rw [sizesT_len]; exact hi'))
  have b := moreT_small hv hsp hg _ (List.getElem_mem (l := moreT L sp gap) (n := i) (by rw [moreT_len]; exact hi'))
  omega
/-- Tracks, a space and a gap that are valid. -/
def okTs (L : List TrackD) (sp gap : Int) : Bool := vTs L && inR sp 0 200000 && inR gap 0 50
theorem okTs_iff {L : List TrackD} {sp gap : Int} : okTs L sp gap = true ↔ vTs L = true ∧ (0 ≤ sp ∧ sp ≤ 200000) ∧ (0 ≤ gap ∧ gap ≤ 50) := by
  unfold okTs
  rw [Bool.and_eq_true, Bool.and_eq_true, inR_iff, inR_iff]
  exact and_assoc
def trackV (L : List TrackD) (sp gap : Int) : List Int := if okTs L sp gap then trackM L sp gap else []

theorem gives_n {α : Type} {k n c : Nat} {enc : α → List Value} {A : Option Addr} {L : List α} {w w' : World} (hn : n = L.length) (hc : n ≤ c) (hm : c ≤ maxLen) (ho : OwnA w' w.heap.size k enc A L) (hb : Below w.heap.size w w') :
    Gives k enc L w (.returned (.slice A n c)) w' := by
  subst hn
  exact ⟨A, c, rfl, hc, hm, ho, hb⟩
theorem gives_nil {α : Type} {k : Nat} {enc : α → List Value} {w w' : World} (hb : Below w.heap.size w w') : Gives k enc ([] : List α) w (.returned (.slice none 0 0)) w' :=
  ⟨none, 0, rfl, Nat.le_refl _, by simp [maxLen], fun h => absurd h (by simp), hb⟩

/-- A row of the call's own is kept by a push to another one. -/
theorem rowI_other {w w' : World} {base : Nat} {e : TypeId} {size n : Nat} {v v2 : Value} {xs : List Value} (h : w.ownsRow base e size v n xs) (hg : w.grownBy w' v2.ownBlock) (hr : ∀ g g', v.ownBlock = some g → v2.ownBlock = some g' → g ≠ g') : w'.ownsRow base e size v n xs := by
  refine h.kept hg ?_
  cases hv : v.ownBlock with
  | none => exact .inl rfl
  | some k =>
    refine .inr ?_
    intro e2
    exact hr k k hv e2.symm rfl
/-- What a push to one of two rows leaves. -/
theorem pushI_apart {w : World} {base : Nat} {v v2 v3 : Value} {n : Nat} {e : TypeId} {size : Nat} {xs : List Value} (h2 : w.ownsRow base e size v2 n xs) (hat : ∀ q, v3.ownBlock = some q → v.ownBlock = some q ∨ w.heap.size ≤ q) (hr : ∀ g g', v.ownBlock = some g → v2.ownBlock = some g' → g ≠ g') :
    ∀ g g', v3.ownBlock = some g → v2.ownBlock = some g' → g ≠ g' := by
  intro g g' hg hg'
  rcases hat g hg with h | h
  · exact hr g g' h hg'
  · have := (h2.lt g' hg').2
    omega
/-- The first loop's relation: two rows. -/
def Tr1 (w : World) (S P : List Int) (i : Nat) (A4 : Option Addr) (c4 : Nat) (A5 : Option Addr) (c5 : Nat) (wr : World) : Prop :=
  wr.ownsRow w.heap.size 3 1 (.slice A4 i c4) i ((S.take i).flatMap encI) ∧ wr.ownsRow w.heap.size 3 1 (.slice A5 i c5) i ((P.take i).flatMap encI) ∧
    (∀ g g', (Value.slice A4 i c4).ownBlock = some g → (Value.slice A5 i c5).ownBlock = some g' → g ≠ g') ∧ Below w.heap.size w wr
end Go.Proofs.Ytjebjcabggmaiaa
