/- Plain laws of trees of boxes: kids, paths, common boxes, the box to lay out anew. No program is named here. -/
import Derived.Test.YtimpieddkkkgfaaDoorB2
namespace Go.Proofs.YtimpieddkkkgfaaDoor
set_option linter.unusedVariables false
set_option linter.unusedSimpArgs false

section
variable {T : List BoxD} {n : Nat}
theorem kidsN_split (T : List BoxD) (at_ : Nat) : ∀ m k, ∃ r, kidsN T (m + k) at_ = kidsN T m at_ ++ r
  | m, 0 => ⟨[], by simp⟩
  | m, k + 1 => by
    obtain ⟨r, h⟩ := kidsN_split T at_ m k
    rw [show m + (k + 1) = (m + k) + 1 by omega, kidsN_next, h, List.append_assoc]
    exact ⟨_, rfl⟩
theorem kidsN_at {at_ i : Nat} (hi : i < n) (hp : par T i = (at_ : Int)) : (kidsN T n at_)[(kidsN T i at_).length]? = some i := by
  obtain ⟨r, h⟩ := kidsN_split T at_ (i + 1) (n - (i + 1))
  rw [show i + 1 + (n - (i + 1)) = n by omega] at h
  rw [h, kidsN_next, hp]
  simp
theorem up_kid (h : Desc T n) {at_ k : Nat} (hk : k ∈ kidsN T n at_) : (up T k).length = (up T at_).length + 1 := by
  rw [(kid_facts h hk).2.2]; simp

/-! ## Paths -/
theorem path_zero (h : Desc T n) (h0 : 0 < n) : pathOf T 0 = [0] := by unfold pathOf; rw [up_zero h h0]; rfl
theorem path_next (h : Desc T n) {i : Nat} (hi : i < n) (h0 : 0 < i) : pathOf T i = pathOf T (par T i).toNat ++ [i] := by
  unfold pathOf; rw [up_next h hi h0, List.reverse_cons]
theorem path_len (T : List BoxD) (i : Nat) : (pathOf T i).length = (up T i).length := by unfold pathOf; rw [List.length_reverse]
theorem path_pos (T : List BoxD) (i : Nat) : 0 < (pathOf T i).length := by rw [path_len]; exact up_len_pos T i
theorem mem_path {i j : Nat} : j ∈ pathOf T i ↔ j ∈ up T i := by unfold pathOf; rw [List.mem_reverse]
theorem path_head (h : Desc T n) : ∀ i, i < n → (pathOf T i)[0]? = some 0 := by
  refine up_ind h (fun h0 => ?_) (fun i hi h0 ih => ?_)
  · rw [path_zero h h0]; rfl
  · rw [path_next h hi h0, List.getElem?_append_left (path_pos T _)]; exact ih
theorem path_last (h : Desc T n) : ∀ i, i < n → (pathOf T i)[(pathOf T i).length - 1]? = some i := by
  refine up_ind h (fun h0 => ?_) (fun i hi h0 _ => ?_)
  · rw [path_zero h h0]; rfl
  · rw [path_next h hi h0]; simp
theorem path_step (h : Desc T n) : ∀ i, i < n → ∀ (k a b : Nat), (pathOf T i)[k]? = some a → (pathOf T i)[k + 1]? = some b → par T b = (a : Int) := by
  refine up_ind h (fun h0 k a b _ hb => ?_) (fun i hi h0 ih k a b ha hb => ?_)
  · rw [path_zero h h0] at hb; simp at hb
  · have hl := path_last h (par T i).toNat (by have := par_lt h hi h0; omega)
    have hp := (h i hi).2 h0
    rw [path_next h hi h0] at ha hb
    rcases Nat.lt_or_ge (k + 1) (pathOf T (par T i).toNat).length with h1 | h1
    · rw [List.getElem?_append_left h1] at hb
      rw [List.getElem?_append_left (by omega)] at ha
      exact ih k a b ha hb
    · rw [List.getElem?_append_right h1] at hb
      have hb' := (List.getElem?_eq_some_iff.1 hb).1
      simp at hb'
      have hk : k + 1 = (pathOf T (par T i).toNat).length := by omega
      rw [hk, Nat.sub_self] at hb
      simp at hb
      subst hb
      rw [List.getElem?_append_left (by omega), show k = (pathOf T (par T i).toNat).length - 1 by omega, hl] at ha
      injection ha with ha
      omega
theorem path_mem_lt (h : Desc T n) {i j : Nat} (hi : i < n) (hj : j ∈ pathOf T i) : j < n := up_lt h hi (mem_path.1 hj)
theorem path_take (h : Desc T n) {i : Nat} (hi : i < n) (h0 : 0 < i) : (pathOf T i).take ((pathOf T i).length - 1) = pathOf T (par T i).toNat ∧ (pathOf T i)[(pathOf T i).length - 2]? = some (par T i).toNat := by
  have hl := path_last h (par T i).toNat (by have := par_lt h hi h0; omega)
  have hp := path_pos T (par T i).toNat
  rw [path_next h hi h0, List.length_append]
  constructor
  · simp
  · simp only [List.length_cons, List.length_nil]
    rw [List.getElem?_append_left (by omega), show (pathOf T (par T i).toNat).length + (0 + 1) - 2 = (pathOf T (par T i).toNat).length - 1 by omega]
    exact hl
theorem path_two (h : Desc T n) {i : Nat} (hi : i < n) (h2 : 2 ≤ (pathOf T i).length) : 0 < i := by
  rcases Nat.eq_zero_or_pos i with rfl | h0
  · rw [path_zero h hi] at h2; simp at h2
  · exact h0

/-! ## Common boxes -/
theorem common_spec (h : Desc T n) {a b : Nat} (ha : a < n) (hb : b < n) : common T a b ∈ up T a ∧ common T a b ∈ up T b ∧ ∀ c ∈ up T a, c ∈ up T b → c ≤ common T a b := by
  unfold common
  cases hf : (up T a).find? (aroundB T · b) with
  | none =>
    rw [List.find?_eq_none] at hf
    exact absurd (aroundB_iff.2 (up_root h b hb)) (hf 0 (up_root h a ha))
  | some k =>
    obtain ⟨hk, us, bs, e, hno⟩ := List.find?_eq_some_iff_append.1 hf
    have hfall := up_fall h a ha
    rw [e] at hfall
    simp only [Option.getD_some]
    refine ⟨by rw [e]; simp, aroundB_iff.1 hk, fun c hc hcb => ?_⟩
    rw [e] at hc
    rcases List.mem_append.1 hc with hc | hc
    · have := hno c hc
      rw [aroundB_iff.2 hcb] at this
      simp at this
    · rcases List.mem_cons.1 hc with rfl | hc
      · exact Nat.le_refl _
      · have := (List.pairwise_cons.1 (List.pairwise_append.1 hfall).2.1).1 c hc
        omega
theorem common_eq (h : Desc T n) {a b k : Nat} (ha : a < n) (hb : b < n) (h1 : k ∈ up T a) (h2 : k ∈ up T b) (h3 : ∀ c ∈ up T a, c ∈ up T b → c ≤ k) : common T a b = k := by
  obtain ⟨c1, c2, c3⟩ := common_spec h ha hb
  have := c3 k h1 h2
  have := h3 _ c1 c2
  omega
theorem common_comm (h : Desc T n) {a b : Nat} (ha : a < n) (hb : b < n) : common T b a = common T a b := by
  obtain ⟨c1, c2, c3⟩ := common_spec h ha hb
  exact common_eq h hb ha c2 c1 fun c h1 h2 => c3 c h2 h1
theorem common_self (h : Desc T n) {a : Nat} (ha : a < n) : common T a a = a :=
  common_eq h ha ha (up_self T a) (up_self T a) fun c h1 _ => up_le h a ha c h1
theorem common_root (h : Desc T n) {b : Nat} (hb : b < n) : common T 0 b = 0 := by
  have h0 : 0 < n := by omega
  exact common_eq h h0 hb (up_self T 0) (up_root h b hb) fun c h1 _ => up_le h 0 h0 c h1
theorem common_is (h : Desc T n) {a b : Nat} (ha : a < n) (hb : b < n) : common T a b = a ↔ a ∈ up T b := by
  obtain ⟨c1, c2, c3⟩ := common_spec h ha hb
  constructor
  · intro e; rw [e] at c2; exact c2
  · exact fun hm => common_eq h ha hb (up_self T a) hm fun c h1 _ => up_le h a ha c h1
theorem common_lt (h : Desc T n) {a b : Nat} (ha : a < n) (hb : b < n) : common T a b < n := up_lt h ha (common_spec h ha hb).1
theorem common_no_kid (h : Desc T n) {a b k : Nat} (ha : a < n) (hb : b < n) (hk : k ∈ kidsN T n (common T a b)) : ¬ (k ∈ up T a ∧ k ∈ up T b) := fun ⟨h1, h2⟩ => by
  have := (common_spec h ha hb).2.2 k h1 h2
  have := (kid_facts h hk).2.1
  omega
/-- One step: from a box to its parent. -/
theorem common_step (h : Desc T n) {a b : Nat} (ha : a < n) (hb : b < n) : common T a b = if aroundB T a b then a else common T (par T a).toNat b := by
  cases e : aroundB T a b
  · have hne : ¬ a ∈ up T b := fun hm => by rw [aroundB_iff.2 hm] at e; cases e
    have h0 : 0 < a := by
      rcases Nat.eq_zero_or_pos a with rfl | h0
      · exact absurd (up_root h b hb) hne
      · exact h0
    have hp := par_lt h ha h0
    obtain ⟨c1, c2, c3⟩ := common_spec h (show (par T a).toNat < n by omega) hb
    rw [if_neg (by simp)]
    refine common_eq h ha hb (by rw [up_next h ha h0]; exact List.mem_cons_of_mem _ c1) c2 fun c h1 h2 => ?_
    rw [up_next h ha h0] at h1
    rcases List.mem_cons.1 h1 with rfl | h1
    · exact absurd h2 hne
    · exact c3 c h1 h2
  · rw [if_pos rfl]
    exact (common_is h ha hb).2 (aroundB_iff.1 e)

/-! ## The box to lay out anew -/
theorem lay_zero (h : Desc T n) (h0 : 0 < n) : layRoot T 0 = 0 := by
  unfold layRoot
  rw [up_zero h h0]
  rfl
theorem lay_next (h : Desc T n) {i : Nat} (hi : i < n) (h0 : 0 < i) : layRoot T i = if (par T i).toNat = 0 ∨ (boxAt T (par T i).toNat).Kind ≠ 1 then (par T i).toNat else layRoot T (par T i).toNat := by
  have hp := par_lt h hi h0
  generalize hq : (par T i).toNat = p at *
  unfold layRoot
  rw [up_next h hi h0, hq, List.tail_cons]
  have e : ∃ r, up T p = p :: r := by
    rw [up]
    split
    · exact ⟨_, rfl⟩
    · exact ⟨_, rfl⟩
  obtain ⟨r, e⟩ := e
  rw [e, List.find?_cons, List.tail_cons]
  by_cases h1 : p = 0 ∨ (boxAt T p).Kind ≠ 1
  · rw [if_pos h1]
    have : (p == 0 || !(boxAt T p).Kind == 1) = true := by
      rw [Bool.or_eq_true, beq_iff_eq, Bool.not_eq_true', beq_eq_false_iff_ne]
      exact h1
    rw [this]
    rfl
  · rw [if_neg h1]
    have : (p == 0 || !(boxAt T p).Kind == 1) = false := by
      rw [Bool.eq_false_iff, ne_eq, Bool.or_eq_true, beq_iff_eq, Bool.not_eq_true', beq_eq_false_iff_ne]
      exact h1
    rw [this]
theorem lay_facts (h : Desc T n) : ∀ i, i < n → layRoot T i ∈ up T i ∧ (layRoot T i = 0 ∨ (boxAt T (layRoot T i)).Kind ≠ 1 ∧ layRoot T i < i) ∧ ∀ p ∈ up T i, p ≠ i → layRoot T i < p → (boxAt T p).Kind = 1 := by
  refine up_ind h (fun h0 => ?_) (fun i hi h0 ih => ?_)
  · rw [lay_zero h h0, up_zero h h0]
    exact ⟨by simp, .inl rfl, fun p hp hne => by simp at hp; exact absurd hp hne⟩
  · have hp := par_lt h hi h0
    have hnext := lay_next h hi h0
    generalize hq : (par T i).toNat = p at *
    have hup : up T i = i :: up T p := by rw [up_next h hi h0, hq]
    rw [hup]
    by_cases h1 : p = 0 ∨ (boxAt T p).Kind ≠ 1
    · rw [if_pos h1] at hnext
      rw [hnext]
      refine ⟨List.mem_cons_of_mem _ (up_self T p), ?_, fun q hm hne hlt => ?_⟩
      · rcases h1 with h1 | h1
        · exact .inl h1
        · exact .inr ⟨h1, hp⟩
      · rcases List.mem_cons.1 hm with e | hm
        · exact absurd e hne
        · have := up_le h p (by omega) q hm; omega
    · rw [if_neg h1] at hnext
      have hk1 : (boxAt T p).Kind = 1 := by
        apply Classical.byContradiction
        intro hne
        exact h1 (.inr hne)
      obtain ⟨a, b, c⟩ := ih
      rw [hnext]
      refine ⟨List.mem_cons_of_mem _ a, ?_, fun q hm hne hlt => ?_⟩
      · rcases b with b | b
        · exact .inl b
        · exact .inr ⟨b.1, by omega⟩
      · rcases List.mem_cons.1 hm with e | hm
        · exact absurd e hne
        · by_cases hqp : q = p
          · rw [hqp]; exact hk1
          · exact c q hm hqp hlt
theorem lay_kid (h : Desc T n) {at_ k : Nat} (ha : at_ < n) (hk : k ∈ kidsN T n at_) : layRoot T k = if (boxAt T at_).Kind = 1 then layRoot T at_ else at_ := by
  obtain ⟨h1, h2, _⟩ := kid_facts h hk
  have hp : (par T k).toNat = at_ := by rw [(mem_kids.1 hk).2]; rfl
  rw [lay_next h h1 (by omega), hp]
  by_cases hz : at_ = 0
  · subst hz
    rw [if_pos (.inl rfl), lay_zero h ha]
    split <;> rfl
  · by_cases hk1 : (boxAt T at_).Kind = 1
    · rw [if_pos hk1, if_neg (fun e => by rcases e with e | e; exact hz e; exact e hk1)]
    · rw [if_neg hk1, if_pos (.inr hk1)]

/-! ## The next leaf -/
theorem leaf_mod (T : List BoxD) (a n : Nat) : leafAt T (a % T.length) n = leafAt T a n := by
  unfold leafAt
  rw [Nat.mod_add_mod]
/-- What the search finds. -/
def IsNextLeaf (T : List BoxD) (a d : Nat) : Prop := 1 ≤ d ∧ d ≤ T.length ∧ leafAt T a d = true ∧ ∀ j, 1 ≤ j → j < d → leafAt T a j = false
theorem nextLeaf_of {a d : Nat} (h : IsNextLeaf T a d) : nextLeafN T a = some ((a + d) % T.length) := by
  obtain ⟨h1, h2, h3, h4⟩ := h
  unfold nextLeafN
  have : (List.range T.length).find? (fun k => leafAt T a (k + 1)) = some (d - 1) := by
    rw [List.find?_range_eq_some]
    refine ⟨by rw [show d - 1 + 1 = d by omega]; exact h3, by rw [List.mem_range]; omega, fun j hj => ?_⟩
    rw [h4 (j + 1) (by omega) (by omega)]
    rfl
  rw [this, Option.map_some, show d - 1 + 1 = d by omega]
theorem nextLeaf_none {a : Nat} (h : ∀ j, 1 ≤ j → j ≤ T.length → leafAt T a j = false) : nextLeafN T a = none := by
  unfold nextLeafN
  rw [Option.map_eq_none_iff, List.find?_eq_none]
  intro k hk
  rw [List.mem_range] at hk
  rw [h (k + 1) (by omega) (by omega)]
  simp
theorem nextLeaf_ex (T : List BoxD) (a : Nat) : (∃ d, IsNextLeaf T a d ∧ nextLeafN T a = some ((a + d) % T.length)) ∨ ((∀ j, 1 ≤ j → j ≤ T.length → leafAt T a j = false) ∧ nextLeafN T a = none) := by
  cases hf : (List.range T.length).find? (fun k => leafAt T a (k + 1)) with
  | none =>
    have hno : ∀ j, 1 ≤ j → j ≤ T.length → leafAt T a j = false := fun j h1 h2 => by
      rw [List.find?_eq_none] at hf
      have := hf (j - 1) (by rw [List.mem_range]; omega)
      rw [show j - 1 + 1 = j by omega] at this
      simpa using this
    exact .inr ⟨hno, nextLeaf_none hno⟩
  | some k =>
    rw [List.find?_range_eq_some] at hf
    obtain ⟨h1, h2, h3⟩ := hf
    rw [List.mem_range] at h2
    have hd : IsNextLeaf T a (k + 1) := ⟨by omega, by omega, h1, fun j j1 j2 => by
      have := h3 (j - 1) (by omega)
      rw [show j - 1 + 1 = j by omega] at this
      simpa using this⟩
    exact .inl ⟨k + 1, hd, nextLeaf_of hd⟩
theorem leaf_any {a : Nat} (h0 : 0 < T.length) : (∃ j, 1 ≤ j ∧ j ≤ T.length ∧ leafAt T a j = true) ↔ ∃ i, i < T.length ∧ (boxAt T i).Kind = 0 := by
  unfold leafAt
  constructor
  · rintro ⟨j, h1, h2, h3⟩
    exact ⟨_, Nat.mod_lt _ h0, by simpa using h3⟩
  · rintro ⟨i, hi, hk⟩
    by_cases hc : a % T.length < i
    · refine ⟨i - a % T.length, by omega, by omega, ?_⟩
      rw [show (a + (i - a % T.length)) % T.length = i by
        rw [← Nat.mod_add_mod, show a % T.length + (i - a % T.length) = i by omega, Nat.mod_eq_of_lt hi], hk]
      rfl
    · have hlt := Nat.mod_lt a h0
      refine ⟨i + T.length - a % T.length, by omega, by omega, ?_⟩
      rw [show (a + (i + T.length - a % T.length)) % T.length = i by
        rw [← Nat.mod_add_mod, show a % T.length + (i + T.length - a % T.length) = i + T.length by omega, Nat.add_mod_right, Nat.mod_eq_of_lt hi], hk]
      rfl

/-- How many leaves come at the first t places behind a. -/
def offN (T : List BoxD) (a : Nat) : Nat → Nat
  | 0 => 0
  | t + 1 => offN T a t + if leafAt T a (t + 1) then 1 else 0
theorem offN_mono (T : List BoxD) (a : Nat) : ∀ t k, offN T a t ≤ offN T a (t + k)
  | t, 0 => Nat.le_refl _
  | t, k + 1 => Nat.le_trans (offN_mono T a t k) (by rw [show t + (k + 1) = (t + k) + 1 by omega, offN]; omega)
theorem offN_lt {a t u : Nat} (h : t < u) (hu : leafAt T a u = true) : offN T a t < offN T a u := by
  obtain ⟨k, rfl⟩ : ∃ k, u = t + k + 1 := ⟨u - t - 1, by omega⟩
  rw [offN, hu, if_pos rfl]
  have := offN_mono T a t k
  omega
theorem offN_skip {a D d : Nat} (h : IsNextLeaf T (a + D) d) : offN T a (D + d) = offN T a D + 1 := by
  obtain ⟨h1, _, h3, h4⟩ := h
  have hl : ∀ j, leafAt T a (D + j) = leafAt T (a + D) j := fun j => by unfold leafAt; rw [Nat.add_assoc]
  have key : ∀ j, j < d → offN T a (D + j) = offN T a D := fun j => by
    induction j with
    | zero => intro _; rfl
    | succ j ih =>
      intro hj
      rw [← Nat.add_assoc, offN, ih (by omega), show D + j + 1 = D + (j + 1) by omega, hl, h4 (j + 1) (by omega) hj]
      simp
  obtain ⟨e, rfl⟩ : ∃ e, d = e + 1 := ⟨d - 1, by omega⟩
  rw [← Nat.add_assoc, offN, key e (by omega), show D + e + 1 = D + (e + 1) by omega, hl, h3, if_pos rfl]
/-- How many of the first i boxes are leaves. -/
def leavesN (T : List BoxD) : Nat → Nat
  | 0 => 0
  | i + 1 => leavesN T i + if (boxAt T i).Kind == 0 then 1 else 0
theorem offN_shift (T : List BoxD) (a : Nat) : ∀ t, offN T a (t + 1) = (if leafAt T a 1 then 1 else 0) + offN T (a + 1) t
  | 0 => by simp [offN]
  | t + 1 => by
    rw [offN, offN_shift T a t, offN]
    have : leafAt T a (t + 1 + 1) = leafAt T (a + 1) (t + 1) := by unfold leafAt; rw [show a + (t + 1 + 1) = a + 1 + (t + 1) by omega]
    rw [this]
    omega
theorem offN_round (T : List BoxD) (a : Nat) : offN T (a + 1) T.length = offN T a T.length := by
  have h1 := offN_shift T a T.length
  rw [offN] at h1
  have : leafAt T a (T.length + 1) = leafAt T a 1 := by
    unfold leafAt
    rw [show a + (T.length + 1) = a + 1 + T.length by omega, Nat.add_mod_right]
  rw [this] at h1
  omega
theorem offN_any (T : List BoxD) (a : Nat) : offN T a T.length = offN T 0 T.length := by
  induction a with
  | zero => rfl
  | succ a ih => rw [offN_round, ih]
theorem offN_leaves (h0 : 0 < T.length) : ∀ t, t < T.length → offN T 0 t + (if (boxAt T 0).Kind == 0 then 1 else 0) = leavesN T (t + 1)
  | 0, _ => by simp [offN, leavesN]
  | t + 1, ht => by
    have ih := offN_leaves h0 t (by omega)
    rw [offN, leavesN, ← ih]
    have : leafAt T 0 (t + 1) = ((boxAt T (t + 1)).Kind == 0) := by
      unfold leafAt
      rw [Nat.zero_add, Nat.mod_eq_of_lt ht]
    rw [this]
    omega
theorem offN_all (h0 : 0 < T.length) (a : Nat) : offN T a T.length = leavesN T T.length := by
  rw [offN_any]
  obtain ⟨t, ht⟩ : ∃ t, T.length = t + 1 := ⟨T.length - 1, by omega⟩
  have h1 := offN_leaves h0 t (by omega)
  have h2 : leafAt T 0 T.length = ((boxAt T 0).Kind == 0) := by
    unfold leafAt
    rw [Nat.zero_add, Nat.mod_self]
  rw [← ht] at h1
  rw [← h1]
  conv => lhs; rw [ht]
  rw [offN, ← ht, h2]
/-- After as many steps as there are leaves: around once. -/
theorem round_trip (h0 : 0 < T.length) {k D : Nat} (hk : k < T.length) (hl : (boxAt T k).Kind = 0) (hD : D = 0 ∨ leafAt T k D = true) (hn : offN T k D = leavesN T T.length) : (k + D) % T.length = k := by
  have h1 := offN_all h0 k
  have h2 : leafAt T k T.length = true := by
    unfold leafAt
    rw [Nat.add_mod_right, Nat.mod_eq_of_lt hk, hl]
    rfl
  have h3 : D = T.length := by
    rcases Nat.lt_trichotomy D T.length with h | h | h
    · have := offN_lt h h2; omega
    · exact h
    · rcases hD with rfl | hD
      · omega
      · have := offN_lt h hD; omega
  rw [h3, Nat.add_mod_right, Nat.mod_eq_of_lt hk]
end
end Go.Proofs.YtimpieddkkkgfaaDoor
