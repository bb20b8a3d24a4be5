/- The plain model of valid trees of boxes, and of the questions about them. No program is named here. -/
import Derived.Test.YtimpieddkkkgfaaDoorB1
namespace Go.Proofs.YtimpieddkkkgfaaDoor
set_option linter.unusedVariables false
set_option linter.unusedSimpArgs false

def sideOf (b : BoxD) : Int := if b.Kind = 0 then 100 else 0
def styledB (b : BoxD) : Bool := inR b.Kind 0 3 && (inR b.W 0 (sideOf b) && (inR b.H 0 (sideOf b) && (inR b.Pad 0 50 && (inR b.Gap 0 50 && (inR b.Grow 0 10 && (inR b.Shrink 0 10 && inR b.Justify 0 3))))))
theorem sideOf_bd (b : BoxD) : 0 ≤ sideOf b ∧ sideOf b ≤ 100 := by unfold sideOf; split <;> omega
theorem styled_iff {b : BoxD} : styledB b = true ↔ (0 ≤ b.Kind ∧ b.Kind ≤ 3) ∧ (0 ≤ b.W ∧ b.W ≤ sideOf b) ∧ (0 ≤ b.H ∧ b.H ≤ sideOf b) ∧ (0 ≤ b.Pad ∧ b.Pad ≤ 50) ∧ (0 ≤ b.Gap ∧ b.Gap ≤ 50) ∧ (0 ≤ b.Grow ∧ b.Grow ≤ 10) ∧ (0 ≤ b.Shrink ∧ b.Shrink ≤ 10) ∧ (0 ≤ b.Justify ∧ b.Justify ≤ 3) := by
  unfold styledB
  simp only [Bool.and_eq_true, inR_iff]

structure ValidT (T : List BoxD) : Prop where
  pos : 1 ≤ T.length
  len : T.length ≤ 16
  ord : InOrd T T.length
  sty : ∀ i, i < T.length → styledB (boxAt T i) = true
  dep : ∀ i, i < T.length → (up T i).length ≤ 6
  many : ∀ i, i < T.length → (kidsN T T.length i).length ≤ 8
  leaf : ∀ i, i < T.length → (boxAt T i).Kind = 0 → (kidsN T T.length i).length = 0

def okAt (T : List BoxD) (i : Nat) : Bool :=
  styledB (boxAt T i) && ((if i = 0 then par T 0 == -1 else inR (par T i) 0 ((i : Int) - 1) && (up T (i - 1)).contains (par T i).toNat) && (decide ((up T i).length ≤ 6) && (decide ((kidsN T T.length i).length ≤ 8) && (!((boxAt T i).Kind == 0) || (kidsN T T.length i).length == 0))))
def validB (T : List BoxD) : Bool := decide (1 ≤ T.length) && (decide (T.length ≤ 16) && (List.range T.length).all (okAt T))

theorem okAt_iff {T : List BoxD} {i : Nat} : okAt T i = true ↔ styledB (boxAt T i) = true ∧ ((i = 0 → par T 0 = -1) ∧ (0 < i → (0 ≤ par T i ∧ par T i < (i : Int)) ∧ (par T i).toNat ∈ up T (i - 1))) ∧ (up T i).length ≤ 6 ∧ (kidsN T T.length i).length ≤ 8 ∧ ((boxAt T i).Kind = 0 → (kidsN T T.length i).length = 0) := by
  unfold okAt
  simp only [Bool.and_eq_true, decide_eq_true_eq, Bool.or_eq_true, Bool.not_eq_true', beq_eq_false_iff_ne, beq_iff_eq]
  have h1 : (if i = 0 then par T 0 == -1 else inR (par T i) 0 ((i : Int) - 1) && (up T (i - 1)).contains (par T i).toNat) = true ↔ ((i = 0 → par T 0 = -1) ∧ (0 < i → (0 ≤ par T i ∧ par T i < (i : Int)) ∧ (par T i).toNat ∈ up T (i - 1))) := by
    by_cases h : i = 0
    · subst h
      simp
    · rw [if_neg h]
      simp only [Bool.and_eq_true, inR_iff, List.contains_iff_mem]
      constructor
      · rintro ⟨a, b⟩
        exact ⟨fun e => absurd e h, fun _ => ⟨⟨a.1, by omega⟩, b⟩⟩
      · rintro ⟨_, b⟩
        have := b (by omega)
        exact ⟨⟨this.1.1, by omega⟩, this.2⟩
  rw [h1]
  constructor
  · rintro ⟨a, b, c, d, e⟩
    exact ⟨a, b, c, d, fun h => by rcases e with e | e; exact absurd h e; exact e⟩
  · rintro ⟨a, b, c, d, e⟩
    exact ⟨a, b, c, d, by
      by_cases h : (boxAt T i).Kind = 0
      · exact .inr (e h)
      · exact .inl h⟩

theorem validB_iff {T : List BoxD} : validB T = true ↔ ValidT T := by
  unfold validB
  simp only [Bool.and_eq_true, decide_eq_true_eq, List.all_eq_true, List.mem_range]
  constructor
  · rintro ⟨h1, h2, h3⟩
    have k := fun i hi => okAt_iff.1 (h3 i hi)
    refine ⟨h1, h2, ⟨fun i hi => ⟨fun e => by subst e; exact (k 0 hi).2.1.1 rfl, fun h0 => ((k i hi).2.1.2 h0).1⟩, fun i h0 hi => ((k i hi).2.1.2 h0).2⟩, fun i hi => (k i hi).1, fun i hi => (k i hi).2.2.1, fun i hi => (k i hi).2.2.2.1, fun i hi => (k i hi).2.2.2.2⟩
  · intro v
    refine ⟨v.pos, v.len, fun i hi => okAt_iff.2 ⟨v.sty i hi, ⟨fun e => ?_, fun h0 => ⟨(v.ord.1 i hi).2 h0, v.ord.2 i h0 hi⟩⟩, v.dep i hi, v.many i hi, v.leaf i hi⟩⟩
    subst e
    exact (v.ord.1 0 hi).1 rfl
theorem validB_no {T : List BoxD} (h : ¬ ValidT T) : validB T = false := by
  rw [Bool.eq_false_iff]
  exact fun e => h (validB_iff.1 e)

/-! ## Shared small laws -/
section
variable {T : List BoxD} {n : Nat}
theorem boxAt_get {i : Nat} (h : i < T.length) : T[i]? = some (boxAt T i) := by
  rw [List.getElem?_eq_getElem h, boxAt_of (List.getElem?_eq_getElem h)]
theorem kidsN_len_mono (T : List BoxD) (at_ : Nat) : ∀ m k, (kidsN T m at_).length ≤ (kidsN T (m + k) at_).length
  | m, 0 => Nat.le_refl _
  | m, k + 1 => by
    rw [show m + (k + 1) = (m + k) + 1 by omega, kidsN_next, List.length_append]
    have := kidsN_len_mono T at_ m k
    omega
/-- No kid up to a box itself. -/
theorem kidsN_low (h : Desc T n) {at_ : Nat} : ∀ m, m ≤ n → m ≤ at_ + 1 → kidsN T m at_ = []
  | 0, _, _ => rfl
  | m + 1, hm, hle => by
    rw [kidsN_next, kidsN_low h m (by omega) (by omega), List.nil_append]
    have : (par T m == (at_ : Int)) = false := by
      rw [beq_eq_false_iff_ne]
      intro e
      rcases Nat.eq_zero_or_pos m with rfl | h0
      · have := (h 0 (by omega)).1 rfl; omega
      · have := (h m (by omega)).2 h0; omega
    rw [this]
    rfl
/-- The spec's order of tests tells the same. -/
theorem valid_of_spec (h1 : 1 ≤ T.length) (h2 : T.length ≤ 16) (hd : Desc T T.length) (ho : ∀ i, 0 < i → i < T.length → (par T i).toNat ∈ up T (i - 1)) (hs : ∀ i, i < T.length → styledB (boxAt T i) = true)
    (hk : ∀ i, 0 < i → i < T.length → (boxAt T (par T i).toNat).Kind ≠ 0 ∧ (kidsN T T.length (par T i).toNat).length ≤ 8 ∧ (up T i).length ≤ 6) : ValidT T := by
  have key : ∀ i, 0 < (kidsN T T.length i).length → ∃ k, k < T.length ∧ 0 < k ∧ (par T k).toNat = i := fun i hi => by
    obtain ⟨k, hk⟩ := List.exists_mem_of_length_pos hi
    obtain ⟨a, b, c⟩ := kid_facts hd hk
    exact ⟨k, a, by omega, by rw [(mem_kids.1 hk).2]; rfl⟩
  refine ⟨h1, h2, ⟨hd, ho⟩, hs, fun i hi => ?_, fun i hi => ?_, fun i hi hz => ?_⟩
  · rcases Nat.eq_zero_or_pos i with rfl | h0
    · rw [up_zero hd hi]; simp
    · exact (hk i h0 hi).2.2
  · rcases Nat.eq_zero_or_pos (kidsN T T.length i).length with e | e
    · omega
    · obtain ⟨k, a, b, c⟩ := key i e
      rw [← c]
      exact (hk k b a).2.1
  · rcases Nat.eq_zero_or_pos (kidsN T T.length i).length with e | e
    · exact e
    · obtain ⟨k, a, b, c⟩ := key i e
      rw [← c] at hz
      exact absurd hz (hk k b a).1
theorem valid_kind (v : ValidT T) {i : Nat} (h0 : 0 < i) (hi : i < T.length) : (boxAt T (par T i).toNat).Kind ≠ 0 := fun e => by
  have hp := par_lt v.ord.1 hi h0
  have h1 := v.leaf _ (by omega) e
  have h2 := (v.ord.1 i hi).2 h0
  have : i ∈ kidsN T T.length (par T i).toNat := mem_kids.2 ⟨hi, by omega⟩
  rw [List.eq_nil_of_length_eq_zero h1] at this
  simp at this

/-! ## Less boxes -/
theorem boxAt_take {m i : Nat} (h : i < m) : boxAt (T.take m) i = boxAt T i := by
  unfold boxAt
  rw [List.getD_eq_getElem?_getD, List.getD_eq_getElem?_getD, List.getElem?_take, if_pos h]
theorem par_take {m i : Nat} (h : i < m) : par (T.take m) i = par T i := by
  unfold par
  rw [boxAt_take h]
theorem up_def (T : List BoxD) (i : Nat) : up T i = if 0 ≤ par T i ∧ par T i < (i : Int) then i :: up T (par T i).toNat else [i] := by
  rw [up]
  by_cases h : 0 ≤ par T i ∧ par T i < (i : Int)
  · rw [dif_pos h, if_pos h]
  · rw [dif_neg h, if_neg h]
theorem up_take {m : Nat} : ∀ i, i < m → up (T.take m) i = up T i := by
  intro i
  induction i using Nat.strongRecOn with
  | ind i ih =>
    intro hi
    rw [up_def (T.take m) i, up_def T i, par_take hi]
    split
    · rw [ih _ (by omega) (by omega)]
    · rfl
theorem kidsN_take {m k at_ : Nat} (h : k ≤ m) : kidsN (T.take m) k at_ = kidsN T k at_ := by
  unfold kidsN
  refine List.filter_congr fun i hi => ?_
  rw [List.mem_range] at hi
  rw [par_take (by omega)]
theorem valid_take (v : ValidT T) {m : Nat} (h1 : 1 ≤ m) (h2 : m ≤ T.length) : ValidT (T.take m) := by
  have hl : (T.take m).length = m := by rw [List.length_take]; omega
  have hk : ∀ i, (kidsN T m i).length ≤ (kidsN T T.length i).length := fun i => by
    have := kidsN_len_mono T i m (T.length - m)
    rwa [show m + (T.length - m) = T.length by omega] at this
  refine ⟨by omega, by have := v.len; omega, ⟨fun i hi => ?_, fun i h0 hi => ?_⟩, fun i hi => ?_, fun i hi => ?_, fun i hi => ?_, fun i hi hz => ?_⟩
  all_goals rw [hl] at hi
  · rw [par_take hi]; exact v.ord.1 i (by omega)
  · rw [par_take hi, up_take _ (by omega)]; exact v.ord.2 i h0 (by omega)
  · rw [boxAt_take hi]; exact v.sty i (by omega)
  · rw [up_take _ hi]; exact v.dep i (by omega)
  · rw [hl, kidsN_take (Nat.le_refl _)]; exact Nat.le_trans (hk i) (v.many i (by omega))
  · rw [boxAt_take hi] at hz
    rw [hl, kidsN_take (Nat.le_refl _)]
    have := v.leaf i (by omega) hz
    have := hk i
    omega

/-! ## Paths, common boxes, the box to lay out anew, the next leaf -/
def asI (l : List Nat) : List Int := l.map fun n : Nat => (n : Int)
theorem asI_len (l : List Nat) : (asI l).length = l.length := by simp [asI]
theorem asI_mem {l : List Nat} {n : Nat} : (n : Int) ∈ asI l ↔ n ∈ l := by
  unfold asI
  rw [List.mem_map]
  constructor
  · rintro ⟨a, h, e⟩
    have : a = n := by omega
    rwa [← this]
  · exact fun h => ⟨n, h, rfl⟩
theorem asI_mem' {l : List Nat} {x : Int} : x ∈ asI l ↔ 0 ≤ x ∧ x.toNat ∈ l := by
  unfold asI
  rw [List.mem_map]
  constructor
  · rintro ⟨a, h, e⟩
    subst e
    exact ⟨by omega, by simpa using h⟩
  · exact fun h => ⟨x.toNat, h.2, by omega⟩
theorem asI_append (a b : List Nat) : asI (a ++ b) = asI a ++ asI b := by simp [asI]
theorem asI_at {l : List Nat} {i k : Nat} (h : l[i]? = some k) : (asI l)[i]? = some (k : Int) := by simp [asI, h]
theorem asI_at' {l : List Nat} {i : Nat} {x : Int} (h : (asI l)[i]? = some x) : ∃ k : Nat, x = (k : Int) ∧ l[i]? = some k := by
  unfold asI at h
  rw [List.getElem?_map] at h
  cases e : l[i]? with
  | none => rw [e] at h; cases h
  | some k =>
    rw [e] at h
    injection h with h
    exact ⟨k, h.symm, rfl⟩
def pathOf (T : List BoxD) (i : Nat) : List Nat := (up T i).reverse
/-- The innermost box around both. -/
def common (T : List BoxD) (a b : Nat) : Nat := ((up T a).find? (aroundB T · b)).getD 0
/-- The nearest box around that is no block, or the first. -/
def layRoot (T : List BoxD) (i : Nat) : Nat := ((up T i).tail.find? fun p => p == 0 || !((boxAt T p).Kind == 1)).getD 0
/-- The next leaf: the first n from 1 on. -/
def leafAt (T : List BoxD) (at_ n : Nat) : Bool := (boxAt T ((at_ + n) % T.length)).Kind == 0
def nextLeafN (T : List BoxD) (at_ : Nat) : Option Nat := ((List.range T.length).find? fun k => leafAt T at_ (k + 1)).map fun k => (at_ + (k + 1)) % T.length
def nextLeafI (T : List BoxD) (at_ : Nat) : Int := match nextLeafN T at_ with | some k => (k : Int) | none => -1

/-! What the questions answer -/
def atIn (T : List BoxD) (x : Int) : Bool := validB T && inR x 0 ((T.length : Int) - 1)
theorem atIn_iff {x : Int} : atIn T x = true ↔ ValidT T ∧ 0 ≤ x ∧ x.toNat < T.length := by
  unfold atIn
  rw [Bool.and_eq_true, validB_iff, inR_iff]
  constructor
  · rintro ⟨a, b, c⟩; exact ⟨a, b, by omega⟩
  · rintro ⟨a, b, c⟩; exact ⟨a, b, by omega⟩
def kidsV (T : List BoxD) (x : Int) : List Int := if atIn T x then asI (kidsN T T.length x.toNat) else []
def depthV (T : List BoxD) (x : Int) : Int := if atIn T x then ((up T x.toNat).length : Int) - 1 else -1
def aroundV (T : List BoxD) (x y : Int) : Bool := atIn T x && (atIn T y && aroundB T x.toNat y.toNat)
def countV (T : List BoxD) (x : Int) : Int := if atIn T x then (countN T T.length x.toNat : Int) else -1
def pathV (T : List BoxD) (x : Int) : List Int := if atIn T x then asI (pathOf T x.toNat) else []
def commonV (T : List BoxD) (x y : Int) : Int := if atIn T x && atIn T y then (common T x.toNat y.toNat : Int) else -1
def leafV (T : List BoxD) (x : Int) : Int := if atIn T x then nextLeafI T x.toNat else -1
def layV (T : List BoxD) (x : Int) : Int := if atIn T x then (layRoot T x.toNat : Int) else -1
end
end Go.Proofs.YtimpieddkkkgfaaDoor
