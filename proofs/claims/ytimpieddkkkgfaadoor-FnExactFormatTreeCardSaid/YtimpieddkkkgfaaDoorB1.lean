/- The plain model of trees of boxes: what is around a box. No program is named here. -/
import Derived.Test.YtimpieddkkkgfaaDoorTBox
namespace Go.Proofs.YtimpieddkkkgfaaDoor
set_option linter.unusedVariables false
set_option linter.unusedSimpArgs false

def boxAt (T : List BoxD) (i : Nat) : BoxD := T.getD i default
def par (T : List BoxD) (i : Nat) : Int := (boxAt T i).Parent
/-- A box and all boxes around it, from the inside. -/
def up (T : List BoxD) (i : Nat) : List Nat :=
  if _h : 0 ≤ par T i ∧ par T i < (i : Int) then i :: up T (par T i).toNat else [i]
termination_by i
decreasing_by omega

/-- The first n boxes have parents before them. -/
def Desc (T : List BoxD) (n : Nat) : Prop := ∀ i, i < n → (i = 0 → par T i = -1) ∧ (0 < i → 0 ≤ par T i ∧ par T i < (i : Int))
theorem Desc.less {T : List BoxD} {n m : Nat} (h : Desc T n) (hm : m ≤ n) : Desc T m := fun i hi => h i (by omega)
theorem boxAt_of {T : List BoxD} {i : Nat} {x : BoxD} (h : T[i]? = some x) : boxAt T i = x := by
  unfold boxAt
  rw [List.getD_eq_getElem?_getD, h]
  rfl
theorem par_of {T : List BoxD} {i : Nat} {x : BoxD} (h : T[i]? = some x) : par T i = x.Parent := by
  unfold par
  rw [boxAt_of h]

section
variable {T : List BoxD} {n : Nat}
theorem up_zero (h : Desc T n) (h0 : 0 < n) : up T 0 = [0] := by
  have := (h 0 h0).1 rfl
  rw [up, dif_neg (by omega)]
theorem up_next (h : Desc T n) {i : Nat} (hi : i < n) (h0 : 0 < i) : up T i = i :: up T (par T i).toNat := by
  have := (h i hi).2 h0
  rw [up, dif_pos (by omega)]
theorem par_lt (h : Desc T n) {i : Nat} (hi : i < n) (h0 : 0 < i) : (par T i).toNat < i := by
  have := (h i hi).2 h0
  omega
theorem up_self (T : List BoxD) (i : Nat) : i ∈ up T i := by
  rw [up]
  split <;> simp
theorem up_ind (h : Desc T n) {P : Nat → Prop} (p0 : 0 < n → P 0) (ps : ∀ i, i < n → 0 < i → P (par T i).toNat → P i) : ∀ i, i < n → P i := by
  intro i
  induction i using Nat.strongRecOn with
  | ind i ih =>
    intro hi
    rcases Nat.eq_zero_or_pos i with rfl | h0
    · exact p0 hi
    · have := par_lt h hi h0
      exact ps i hi h0 (ih _ this (by omega))
theorem up_le (h : Desc T n) : ∀ i, i < n → ∀ j ∈ up T i, j ≤ i := by
  refine up_ind h (fun h0 j hj => ?_) (fun i hi h0 ih j hj => ?_)
  · rw [up_zero h h0] at hj; simp at hj; omega
  · rw [up_next h hi h0] at hj
    have := par_lt h hi h0
    rcases List.mem_cons.1 hj with rfl | hj
    · omega
    · have := ih j hj; omega
theorem up_root (h : Desc T n) : ∀ i, i < n → 0 ∈ up T i := by
  refine up_ind h (fun h0 => ?_) (fun i hi h0 ih => ?_)
  · rw [up_zero h h0]; simp
  · rw [up_next h hi h0]; simp [ih]
theorem up_trans (h : Desc T n) {k j : Nat} : ∀ i, i < n → j ∈ up T i → k ∈ up T j → k ∈ up T i := by
  refine up_ind h (fun h0 hj hk => ?_) (fun i hi h0 ih hj hk => ?_)
  · rw [up_zero h h0] at hj; simp at hj; subst hj; exact hk
  · rw [up_next h hi h0] at hj ⊢
    rcases List.mem_cons.1 hj with rfl | hj
    · rw [up_next h hi h0] at hk; exact hk
    · exact List.mem_cons_of_mem _ (ih hj hk)
/-- What is around a box is in a row. -/
theorem up_chain (h : Desc T n) {k j : Nat} : ∀ i, i < n → j ∈ up T i → k ∈ up T i → j ≤ k → j ∈ up T k := by
  refine up_ind h (fun h0 hj hk hle => ?_) (fun i hi h0 ih hj hk hle => ?_)
  · rw [up_zero h h0] at hj hk; simp at hj hk; subst hj hk; exact up_self T 0
  · rw [up_next h hi h0] at hj hk
    have hlt := par_lt h hi h0
    rcases List.mem_cons.1 hk with rfl | hk
    · rw [up_next h hi h0]; exact hj
    · rcases List.mem_cons.1 hj with rfl | hj
      · have := up_le h _ (by omega) k hk; omega
      · exact ih hj hk hle
theorem up_lt (h : Desc T n) {i j : Nat} (hi : i < n) (hj : j ∈ up T i) : j < n := by
  have := up_le h i hi j hj
  omega
theorem up_anti (h : Desc T n) {i j : Nat} (hi : i < n) (h1 : j ∈ up T i) (h2 : i ∈ up T j) : i = j := by
  have a := up_le h i hi j h1
  have b := up_le h j (by omega) i h2
  omega
/-- Around a box, but not it: around its parent. -/
theorem up_step (h : Desc T n) {i j : Nat} (hi : i < n) (hne : j ≠ i) : j ∈ up T i ↔ 0 < i ∧ j ∈ up T (par T i).toNat := by
  rcases Nat.eq_zero_or_pos i with rfl | h0
  · rw [up_zero h hi]; simp; omega
  · rw [up_next h hi h0, List.mem_cons]
    constructor
    · rintro (e | h)
      · exact absurd e hne
      · exact ⟨h0, h⟩
    · exact fun h => .inr h.2
theorem up_len_pos (T : List BoxD) (i : Nat) : 0 < (up T i).length := by
  rw [up]
  split <;> simp
theorem up_len_le (h : Desc T n) : ∀ i, i < n → (up T i).length ≤ i + 1 := by
  refine up_ind h (fun h0 => ?_) (fun i hi h0 ih => ?_)
  · rw [up_zero h h0]; simp
  · have := par_lt h hi h0
    rw [up_next h hi h0, List.length_cons]
    omega
theorem up_len_mono (h : Desc T n) {j : Nat} : ∀ i, i < n → j ∈ up T i → (up T j).length ≤ (up T i).length := by
  refine up_ind h (fun h0 hj => ?_) (fun i hi h0 ih hj => ?_)
  · rw [up_zero h h0] at hj; simp at hj; subst hj; exact Nat.le_refl _
  · rw [up_next h hi h0] at hj ⊢
    rcases List.mem_cons.1 hj with rfl | hj
    · rw [up_next h hi h0]; exact Nat.le_refl _
    · have := ih hj
      rw [List.length_cons]
      omega
/-- The boxes around a box, strictly falling. -/
theorem up_fall (h : Desc T n) : ∀ i, i < n → (up T i).Pairwise (· > ·) := by
  refine up_ind h (fun h0 => ?_) (fun i hi h0 ih => ?_)
  · rw [up_zero h h0]; simp
  · have hlt := par_lt h hi h0
    rw [up_next h hi h0, List.pairwise_cons]
    exact ⟨fun j hj => by have := up_le h _ (by omega) j hj; omega, ih⟩

/-! ## Trees in order -/
/-- Each box's parent is the box before, or around that. -/
def InOrd (T : List BoxD) (n : Nat) : Prop := Desc T n ∧ ∀ i, 0 < i → i < n → (par T i).toNat ∈ up T (i - 1)
theorem InOrd.less {m : Nat} (h : InOrd T n) (hm : m ≤ n) : InOrd T m := ⟨h.1.less hm, fun i h0 hi => h.2 i h0 (by omega)⟩
theorem ord_prev (h : InOrd T n) {i at_ : Nat} (hi : i < n) (hlt : at_ < i) (hm : at_ ∈ up T i) : at_ ∈ up T (i - 1) := by
  have h1 := (up_step h.1 hi (j := at_) (by omega)).1 hm
  exact up_trans h.1 (i - 1) (by omega) (h.2 i (by omega) hi) h1.2
/-- All boxes in a box follow it directly. -/
theorem ord_between (h : InOrd T n) {at_ : Nat} : ∀ (d i : Nat), i < n → at_ + d = i → at_ ∈ up T i → ∀ j, at_ ≤ j → j ≤ i → at_ ∈ up T j
  | 0, i, hi, hd, hm, j, h1, h2 => by
    have : j = i := by omega
    subst this
    exact hm
  | d + 1, i, hi, hd, hm, j, h1, h2 => by
    by_cases e : j = i
    · subst e; exact hm
    · exact ord_between h d (i - 1) (by omega) (by omega) (ord_prev h hi (by omega) hm) j h1 (by omega)

def aroundB (T : List BoxD) (at_ i : Nat) : Bool := (up T i).contains at_
theorem aroundB_iff {at_ i : Nat} : aroundB T at_ i = true ↔ at_ ∈ up T i := by
  unfold aroundB
  rw [List.contains_iff_mem]
/-- How many boxes a box and those in it are, of the first n. -/
def countN (T : List BoxD) (n at_ : Nat) : Nat := ((List.range n).filter (aroundB T at_)).length
theorem countN_next (T : List BoxD) (m at_ : Nat) : countN T (m + 1) at_ = countN T m at_ + if aroundB T at_ m then 1 else 0 := by
  unfold countN
  rw [List.range_succ, List.filter_append, List.length_append, List.filter_cons]
  split <;> simp
theorem countN_low (h : Desc T n) {at_ : Nat} : ∀ m, m ≤ n → m ≤ at_ → countN T m at_ = 0
  | 0, _, _ => rfl
  | m + 1, hm, hle => by
    rw [countN_next, countN_low h m (by omega) (by omega)]
    have : aroundB T at_ m = false := by
      rw [Bool.eq_false_iff]
      intro e
      have := up_le h m (by omega) _ (aroundB_iff.1 e)
      omega
    rw [this]
    rfl
theorem countN_in (h : InOrd T n) {at_ e : Nat} (he : e ≤ n) (hall : ∀ i, at_ ≤ i → i < e → at_ ∈ up T i) : ∀ d, at_ + d ≤ e → countN T (at_ + d) at_ = d
  | 0, hd => countN_low h.1 at_ (by omega) (Nat.le_refl _)
  | d + 1, hd => by
    rw [show at_ + (d + 1) = (at_ + d) + 1 by omega, countN_next, countN_in h he hall d (by omega), (aroundB_iff (T := T)).2 (hall (at_ + d) (by omega) (by omega)), if_pos rfl]
theorem countN_out (h : InOrd T n) {at_ e : Nat} (hlt : at_ < e) (hno : e = n ∨ ¬ at_ ∈ up T e) : ∀ d, e + d ≤ n → countN T (e + d) at_ = countN T e at_
  | 0, _ => rfl
  | d + 1, hd => by
    rw [show e + (d + 1) = (e + d) + 1 by omega, countN_next, countN_out h hlt hno d (by omega)]
    have : aroundB T at_ (e + d) = false := by
      rw [Bool.eq_false_iff]
      intro hm
      rcases hno with rfl | hno
      · omega
      · exact hno (ord_between h (e + d - at_) (e + d) (by omega) (by omega) (aroundB_iff.1 hm) e (by omega) (by omega))
    rw [this]
    rfl
/-- From the end of the boxes in a box to their number. -/
theorem countN_eq (h : InOrd T n) {at_ e : Nat} (hlt : at_ < e) (he : e ≤ n) (hall : ∀ i, at_ ≤ i → i < e → at_ ∈ up T i) (hno : e = n ∨ ¬ at_ ∈ up T e) : countN T n at_ = e - at_ := by
  have h1 := countN_in h he hall (e - at_) (by omega)
  have h2 := countN_out h hlt hno (n - e) (by omega)
  rw [show at_ + (e - at_) = e by omega] at h1
  rw [show e + (n - e) = n by omega] at h2
  omega
/-- Where the boxes in a box end. -/
theorem end_ex (h : InOrd T n) {at_ : Nat} (ha : at_ < n) : ∃ e, at_ < e ∧ e ≤ n ∧ (∀ i, at_ ≤ i → i < e → at_ ∈ up T i) ∧ (e = n ∨ ¬ at_ ∈ up T e) := by
  have key : ∀ d, at_ + 1 + d ≤ n → (∀ i, at_ ≤ i → i < at_ + 1 + d → at_ ∈ up T i) ∨ ∃ e, at_ < e ∧ e ≤ n ∧ (∀ i, at_ ≤ i → i < e → at_ ∈ up T i) ∧ (e = n ∨ ¬ at_ ∈ up T e) := by
    intro d
    induction d with
    | zero =>
      intro _
      exact .inl fun i h1 h2 => by
               have : i = at_ := by omega
               subst this
               exact up_self T i
    | succ d ih =>
      intro hd
      rcases ih (by omega) with hall | hex
      · by_cases hm : at_ ∈ up T (at_ + 1 + d)
        · exact .inl fun i h1 h2 => by
            by_cases e : i = at_ + 1 + d
            · subst e; exact hm
            · exact hall i h1 (by omega)
        · exact .inr ⟨at_ + 1 + d, by omega, by omega, hall, .inr hm⟩
      · exact .inr hex
  rcases key (n - (at_ + 1)) (by omega) with hall | hex
  · exact ⟨n, ha, Nat.le_refl _, fun i h1 h2 => hall i h1 (by omega), .inl rfl⟩
  · exact hex
theorem count_iff (h : InOrd T n) {at_ i : Nat} (ha : at_ < n) (hi : i < n) : at_ ∈ up T i ↔ at_ ≤ i ∧ i < at_ + countN T n at_ := by
  obtain ⟨e, h1, h2, h3, h4⟩ := end_ex h ha
  have hc := countN_eq h h1 h2 h3 h4
  constructor
  · intro hm
    have hle := up_le h.1 i hi _ hm
    refine ⟨hle, ?_⟩
    rcases h4 with rfl | h4
    · omega
    · rcases Nat.lt_or_ge i e with hlt | hge
      · omega
      · exact absurd (ord_between h (i - at_) i hi (by omega) hm e (by omega) hge) h4
  · rintro ⟨a, b⟩
    exact h3 i a (by omega)
theorem count_pos (h : InOrd T n) {at_ : Nat} (ha : at_ < n) : 0 < countN T n at_ ∧ at_ + countN T n at_ ≤ n := by
  obtain ⟨e, h1, h2, h3, h4⟩ := end_ex h ha
  have hc := countN_eq h h1 h2 h3 h4
  omega
theorem count_root (h : InOrd T n) (h0 : 0 < n) : countN T n 0 = n := by
  have := countN_eq h (at_ := 0) (e := n) h0 (Nat.le_refl _) (fun i _ hi => up_root h.1 i hi) (.inl rfl)
  omega

/-! ## Boxes directly in a box -/
def kidsN (T : List BoxD) (n at_ : Nat) : List Nat := (List.range n).filter fun i => par T i == (at_ : Int)
theorem kidsN_next (T : List BoxD) (m at_ : Nat) : kidsN T (m + 1) at_ = kidsN T m at_ ++ if par T m == (at_ : Int) then [m] else [] := by
  unfold kidsN
  rw [List.range_succ, List.filter_append, List.filter_cons]
  split <;> simp
theorem mem_kids {at_ k : Nat} : k ∈ kidsN T n at_ ↔ k < n ∧ par T k = (at_ : Int) := by
  unfold kidsN
  rw [List.mem_filter, List.mem_range, beq_iff_eq]
theorem kids_len_le (T : List BoxD) (n at_ : Nat) : (kidsN T n at_).length ≤ n := by
  unfold kidsN
  have := List.length_filter_le (fun i => par T i == (at_ : Int)) (List.range n)
  rw [List.length_range] at this
  exact this
theorem kid_facts (h : Desc T n) {at_ k : Nat} (hk : k ∈ kidsN T n at_) : k < n ∧ at_ < k ∧ up T k = k :: up T at_ := by
  obtain ⟨h1, h2⟩ := mem_kids.1 hk
  have h0 : 0 < k := by
    rcases Nat.eq_zero_or_pos k with rfl | h0
    · have := (h 0 h1).1 rfl; omega
    · exact h0
  have h3 := (h k h1).2 h0
  refine ⟨h1, by omega, ?_⟩
  rw [up_next h h1 h0, h2]
  rfl
/-- The kid of a box in which a box lies. -/
theorem kid_over (h : Desc T n) {at_ : Nat} : ∀ i, i < n → at_ ∈ up T i → i ≠ at_ → ∃ k ∈ kidsN T n at_, k ∈ up T i := by
  refine up_ind h (fun h0 hm hne => ?_) (fun i hi h0 ih hm hne => ?_)
  · rw [up_zero h h0] at hm; simp at hm; omega
  · have hm' := (up_step h hi (j := at_) (fun e => hne e.symm)).1 hm
    have hp := (h i hi).2 h0
    by_cases e : (par T i).toNat = at_
    · exact ⟨i, mem_kids.2 ⟨hi, by omega⟩, up_self T i⟩
    · obtain ⟨k, hk, hku⟩ := ih hm'.2 e
      exact ⟨k, hk, by rw [up_next h hi h0]; exact List.mem_cons_of_mem _ hku⟩
/-- The box behind those in a kid, if it is still in the box, is the next kid. -/
theorem kid_next (h : InOrd T n) {at_ k : Nat} (ha : at_ < n) (hk : k ∈ kidsN T n at_) (hlt : k + countN T n k < at_ + countN T n at_) : k + countN T n k ∈ kidsN T n at_ := by
  obtain ⟨hkn, hak, hup⟩ := kid_facts h.1 hk
  obtain ⟨c1, c2⟩ := count_pos h hkn
  obtain ⟨d1, d2⟩ := count_pos h ha
  generalize he : k + countN T n k = e at *
  have hen : e < n := by omega
  have h0 : 0 < e := by omega
  have hpe := (h.1 e hen).2 h0
  have hae : at_ ∈ up T e := (count_iff h ha hen).2 ⟨by omega, hlt⟩
  have hke : ¬ k ∈ up T e := fun hm => by have := (count_iff h hkn hen).1 hm; omega
  have hap := ((up_step h.1 hen (j := at_) (by omega)).1 hae).2
  have hkp : k ∈ up T (e - 1) := (count_iff h hkn (by omega)).2 ⟨by omega, by omega⟩
  have hpp := h.2 e h0 hen
  refine mem_kids.2 ⟨hen, ?_⟩
  have hpk : (par T e).toNat < k := by
    rcases Nat.lt_or_ge (par T e).toNat k with h1 | h1
    · exact h1
    · have := up_chain h.1 (e - 1) (by omega) hkp hpp h1
      exact absurd ((up_step h.1 hen (j := k) (by omega)).2 ⟨h0, this⟩) hke
  have h2 := up_chain h.1 (e - 1) (by omega) hpp hkp (by omega)
  rw [hup] at h2
  rcases List.mem_cons.1 h2 with h3 | h3
  · omega
  · have h4 := up_le h.1 at_ ha _ h3
    have h5 := up_le h.1 (par T e).toNat (by omega) _ hap
    omega
/-- No kid between a kid and the end of its boxes. -/
theorem kid_gap (h : InOrd T n) {at_ k j : Nat} (hk : k ∈ kidsN T n at_) (hj : j ∈ kidsN T n at_) (hlt : k < j) : k + countN T n k ≤ j := by
  obtain ⟨hkn, hak, hup⟩ := kid_facts h.1 hk
  obtain ⟨hjn, haj, hupj⟩ := kid_facts h.1 hj
  rcases Nat.lt_or_ge j (k + countN T n k) with h1 | h1
  · have := (count_iff h hkn hjn).2 ⟨by omega, h1⟩
    rw [hupj] at this
    rcases List.mem_cons.1 this with e | hm
    · omega
    · have := up_le h.1 at_ (by omega) _ hm
      omega
  · exact h1
theorem kid_first (h : InOrd T n) {at_ : Nat} (hlt : at_ + 1 < n) (hm : at_ ∈ up T (at_ + 1)) : at_ + 1 ∈ kidsN T n at_ := by
  have h1 := ((up_step h.1 hlt (j := at_) (by omega)).1 hm).2
  have h2 := up_le h.1 _ (by have := par_lt h.1 hlt (by omega); omega) _ h1
  have h3 := (h.1 (at_ + 1) hlt).2 (by omega)
  exact mem_kids.2 ⟨hlt, by omega⟩
theorem kid_end (h : InOrd T n) {at_ k : Nat} (ha : at_ < n) (hk : k ∈ kidsN T n at_) : k + countN T n k ≤ at_ + countN T n at_ := by
  obtain ⟨hkn, hak, hup⟩ := kid_facts h.1 hk
  obtain ⟨c1, c2⟩ := count_pos h hkn
  have h1 : k ∈ up T (k + countN T n k - 1) := (count_iff h hkn (by omega)).2 ⟨by omega, by omega⟩
  have h2 : at_ ∈ up T (k + countN T n k - 1) := up_trans h.1 _ (by omega) h1 (by rw [hup]; exact List.mem_cons_of_mem _ (up_self T at_))
  have := (count_iff h ha (by omega)).1 h2
  omega
theorem range_pair (p : Nat → Bool) : ∀ n, ((List.range n).filter p).Pairwise (· < ·)
  | 0 => by simp
  | n + 1 => by
    rw [List.range_succ, List.filter_append, List.pairwise_append]
    refine ⟨range_pair p n, ?_, ?_⟩
    · rw [List.filter_cons]; split <;> simp
    · intro a ha b hb
      rw [List.mem_filter, List.mem_range] at ha
      rw [List.mem_filter] at hb
      have := hb.1
      simp at this
      omega
theorem kids_asc (T : List BoxD) (n at_ : Nat) : (kidsN T n at_).Pairwise (· < ·) := range_pair _ n
theorem kids_step (h : InOrd T n) {at_ i k j : Nat} (ha : at_ < n) (hk : (kidsN T n at_)[i]? = some k) (hj : (kidsN T n at_)[i + 1]? = some j) : j = k + countN T n k := by
  have hkm := List.mem_of_getElem? hk
  have hjm := List.mem_of_getElem? hj
  have hp := kids_asc T n at_
  obtain ⟨hil, ek⟩ := List.getElem?_eq_some_iff.1 hk
  obtain ⟨hjl, ej⟩ := List.getElem?_eq_some_iff.1 hj
  have hlt : k < j := by
    have := List.pairwise_iff_getElem.1 hp i (i + 1) hil hjl (by omega)
    rw [ek, ej] at this
    exact this
  have h1 := kid_gap h hkm hjm hlt
  have h2 := kid_end h ha hjm
  have h3 := (count_pos h (kid_facts h.1 hjm).1).1
  have h4 := kid_next h ha hkm (by omega)
  obtain ⟨q, hq, eq_⟩ := List.mem_iff_getElem.1 h4
  have c1 := (count_pos h (kid_facts h.1 hkm).1).1
  have hiq : i < q := by
    rcases Nat.lt_trichotomy q i with h5 | h5 | h5
    · have := List.pairwise_iff_getElem.1 hp q i hq hil h5
      omega
    · subst h5; omega
    · exact h5
  rcases Nat.lt_or_ge (i + 1) q with h5 | h5
  · have := List.pairwise_iff_getElem.1 hp (i + 1) q hjl hq h5
    omega
  · have : q = i + 1 := by omega
    subst this
    omega
theorem kids_head (h : InOrd T n) {at_ k : Nat} (ha : at_ < n) (hk : (kidsN T n at_)[0]? = some k) : k = at_ + 1 := by
  have hkm := List.mem_of_getElem? hk
  obtain ⟨hkn, hak, hup⟩ := kid_facts h.1 hkm
  have hmk : at_ ∈ up T k := by rw [hup]; exact List.mem_cons_of_mem _ (up_self T at_)
  have h1 := kid_first h (by omega) (ord_between h (k - at_) k hkn (by omega) hmk (at_ + 1) (by omega) (by omega))
  obtain ⟨q, hq, eq_⟩ := List.mem_iff_getElem.1 h1
  have hp := kids_asc T n at_
  obtain ⟨h0l, e0⟩ := List.getElem?_eq_some_iff.1 hk
  rcases Nat.eq_zero_or_pos q with rfl | h2
  · omega
  · have := List.pairwise_iff_getElem.1 hp 0 q h0l hq h2
    omega
theorem kids_last (h : InOrd T n) {at_ i k : Nat} (ha : at_ < n) (hk : (kidsN T n at_)[i]? = some k) (hl : i + 1 = (kidsN T n at_).length) : k + countN T n k = at_ + countN T n at_ := by
  have hkm := List.mem_of_getElem? hk
  have h1 := kid_end h ha hkm
  rcases Nat.lt_or_ge (k + countN T n k) (at_ + countN T n at_) with h2 | h2
  · have h4 := kid_next h ha hkm h2
    obtain ⟨q, hq, eq_⟩ := List.mem_iff_getElem.1 h4
    have hp := kids_asc T n at_
    obtain ⟨hil, ek⟩ := List.getElem?_eq_some_iff.1 hk
    have c1 := (count_pos h (kid_facts h.1 hkm).1).1
    rcases Nat.lt_or_ge q i with h5 | h5
    · have := List.pairwise_iff_getElem.1 hp q i hq hil h5
      omega
    · have : q = i := by omega
      subst this
      omega
  · omega
theorem kids_none (h : InOrd T n) {at_ : Nat} (ha : at_ < n) (h0 : (kidsN T n at_).length = 0) : countN T n at_ = 1 := by
  obtain ⟨c1, c2⟩ := count_pos h ha
  rcases Nat.lt_or_ge 1 (countN T n at_) with h1 | h1
  · have hm : at_ ∈ up T (at_ + 1) := (count_iff h ha (by omega)).2 ⟨by omega, by omega⟩
    have := kid_first h (by omega) hm
    rw [List.eq_nil_of_length_eq_zero h0] at this
    simp at this
  · omega
/-- Counting kid by kid. -/
theorem kids_upto (h : InOrd T n) {at_ : Nat} (ha : at_ < n) : ∀ i, i < (kidsN T n at_).length → ∀ k, (kidsN T n at_)[i]? = some k → at_ + 1 + (((kidsN T n at_).take i).map (countN T n)).sum = k
  | 0, hi, k, hk => by
    have := kids_head h ha hk
    simp
    omega
  | i + 1, hi, k, hk => by
    have hi' : i < (kidsN T n at_).length := by omega
    have hq := List.getElem?_eq_getElem hi'
    have ih := kids_upto h ha i hi' _ hq
    have := kids_step h ha hq hk
    rw [List.take_succ_eq_append_getElem hi', List.map_append, List.sum_append, List.map_cons, List.map_nil, List.sum_cons, List.sum_nil]
    omega
theorem kids_sum (h : InOrd T n) {at_ : Nat} (ha : at_ < n) : 1 + ((kidsN T n at_).map (countN T n)).sum = countN T n at_ := by
  rcases Nat.eq_zero_or_pos (kidsN T n at_).length with h0 | h0
  · rw [kids_none h ha h0, List.eq_nil_of_length_eq_zero h0]
    rfl
  · have hi : (kidsN T n at_).length - 1 < (kidsN T n at_).length := by omega
    have hq := List.getElem?_eq_getElem hi
    have h1 := kids_upto h ha _ hi _ hq
    have h2 := kids_last h ha hq (by omega)
    have e : kidsN T n at_ = (kidsN T n at_).take ((kidsN T n at_).length - 1) ++ [(kidsN T n at_)[(kidsN T n at_).length - 1]] := by
      rw [← List.take_succ_eq_append_getElem hi, show (kidsN T n at_).length - 1 + 1 = (kidsN T n at_).length by omega, List.take_length]
    rw [e, List.map_append, List.sum_append, List.map_cons, List.map_nil, List.sum_cons, List.sum_nil]
    omega
end
end Go.Proofs.YtimpieddkkkgfaaDoor
