/- Shares of a space: the plain model, and its laws. No program is named here. -/
import Derived.Test.YtjebjcabggmaiaaBase
namespace Go.Proofs.Ytjebjcabggmaiaa
set_option linter.unusedVariables false
set_option linter.unusedSimpArgs false

/-! ## A sum -/
theorem sum_take_next {L : List Int} {i : Nat} {x : Int} (h : L[i]? = some x) : (L.take (i + 1)).sum = (L.take i).sum + x := by
  obtain ⟨hi, rfl⟩ := List.getElem?_eq_some_iff.1 h
  rw [List.take_succ_eq_append_getElem hi, List.sum_append]
  simp
theorem sum_nonneg : ∀ {L : List Int}, (∀ x ∈ L, 0 ≤ x) → 0 ≤ L.sum
  | [], _ => by simp
  | x :: L, h => by
    have h1 := h x (by simp)
    have h2 := sum_nonneg (L := L) (fun y hy => h y (by simp [hy]))
    rw [List.sum_cons]
    omega
theorem sum_le {m : Int} (hm : 0 ≤ m) : ∀ {L : List Int}, (∀ x ∈ L, x ≤ m) → L.sum ≤ m * L.length
  | [], _ => by simp
  | x :: L, h => by
    have h1 := h x (by simp)
    have h2 := sum_le hm (L := L) (fun y hy => h y (by simp [hy]))
    rw [List.sum_cons, List.length_cons]
    have : m * ((L.length + 1 : Nat) : Int) = m * (L.length : Int) + m := by rw [Int.natCast_add, Int.mul_add]; simp
    omega
theorem sum_split (L : List Int) (n : Nat) : (L.take n).sum + (L.drop n).sum = L.sum := by
  rw [← List.sum_append, List.take_append_drop]

/-! ## An order of numbers: those with the greater rest first, of equal ones the lesser -/
def prec (r : Nat → Int) (i j : Nat) : Prop := r j < r i ∨ (r i = r j ∧ i < j)
theorem prec_irrefl {r : Nat → Int} {i : Nat} : ¬ prec r i i := by unfold prec; omega
theorem prec_trans {r : Nat → Int} {i j k : Nat} (h : prec r i j) (h' : prec r j k) : prec r i k := by unfold prec at *; omega
theorem prec_total {r : Nat → Int} {i j : Nat} (h : i ≠ j) : prec r i j ∨ prec r j i := by unfold prec; omega
/-- The numbers below m, in order. -/
structure Good (r : Nat → Int) (P : List Nat) (m : Nat) : Prop where
  pw : P.Pairwise (prec r)
  mem : ∀ x, x ∈ P ↔ x < m
theorem Good.nil (r : Nat → Int) : Good r [] 0 := ⟨List.Pairwise.nil, fun x => by simp⟩
theorem Good.nodup {r : Nat → Int} {P : List Nat} {m : Nat} (h : Good r P m) : P.Nodup := h.pw.imp (fun hp e => by subst e; exact prec_irrefl hp)

theorem nodupN_le : ∀ {A B : List Nat}, A.Nodup → (∀ x ∈ A, x ∈ B) → A.length ≤ B.length
  | [], _, _, _ => Nat.zero_le _
  | a :: A, B, h, hs => by
    rw [List.nodup_cons] at h
    have ha := hs a (by simp)
    have ih := nodupN_le (A := A) (B := B.erase a) h.2 (fun x hx => (List.mem_erase_of_ne (fun e => h.1 (by rw [← e]; exact hx))).2 (hs x (by simp [hx])))
    rw [List.length_erase_of_mem ha] at ih
    have := List.length_pos_of_mem ha
    rw [List.length_cons]
    omega
theorem Good.length {r : Nat → Int} {P : List Nat} {m : Nat} (h : Good r P m) : P.length = m := by
  have h1 := nodupN_le (B := List.range m) h.nodup (fun x hx => by rw [List.mem_range]; exact (h.mem x).1 hx)
  have h2 := nodupN_le (A := List.range m) (B := P) List.nodup_range (fun x hx => by rw [List.mem_range] at hx; exact (h.mem x).2 hx)
  rw [List.length_range] at h1 h2
  omega
/-- The next number takes its place. -/
theorem Good.put {r : Nat → Int} {P : List Nat} {m j : Nat} (h : Good r P m) (hj : j ≤ m) (hd : ∀ x ∈ P.drop j, r x < r m) (ht : ∀ i x, j = i + 1 → P[i]? = some x → r m ≤ r x) : Good r (P.take j ++ m :: P.drop j) (m + 1) := by
  have hl := h.length
  refine ⟨?_, fun x => ?_⟩
  · rw [List.pairwise_append, List.pairwise_cons]
    have hpd := h.pw
    rw [← List.take_append_drop j P, List.pairwise_append] at hpd
    obtain ⟨p1, p2, p3⟩ := hpd
    have htm : ∀ a ∈ P.take j, prec r a m := by
      intro a ha
      cases j with
      | zero => simp at ha
      | succ i =>
        have hi : i < P.length := by omega
        have hx := List.getElem?_eq_getElem hi
        have hle := ht i _ rfl hx
        have hlt : P[i] < m := (h.mem _).1 (List.getElem_mem hi)
        have hm : prec r P[i] m := by unfold prec; omega
        rw [List.take_succ_eq_append_getElem hi] at ha p1
        rcases List.mem_append.1 ha with ha | ha
        · rw [List.pairwise_append] at p1
          exact prec_trans (p1.2.2 a ha _ (by simp)) hm
        · simp at ha
          rw [ha]
          exact hm
    refine ⟨p1, ⟨fun x hx => .inl (hd x hx), p2⟩, fun a ha b hb => ?_⟩
    rcases List.mem_cons.1 hb with rfl | hb
    · exact htm a ha
    · exact p3 a ha b hb
  · have e : x ∈ P ↔ x ∈ P.take j ∨ x ∈ P.drop j := by rw [← List.mem_append, List.take_append_drop]
    rw [List.mem_append, List.mem_cons]
    have := h.mem x
    constructor
    · rintro (h' | rfl | h')
      · have := this.1 (e.2 (.inl h')); omega
      · omega
      · have := this.1 (e.2 (.inr h')); omega
    · intro hx
      rcases Nat.lt_or_ge x m with h' | h'
      · rcases e.1 (this.2 h') with h'' | h''
        · exact .inl h''
        · exact .inr (.inr h'')
      · exact .inr (.inl (by omega))
theorem sorted_unique {r : Nat → Int} : ∀ {P Q : List Nat}, P.Pairwise (prec r) → Q.Pairwise (prec r) → (∀ x, x ∈ P ↔ x ∈ Q) → P = Q
  | [], Q, _, _, h => by
    cases Q with
    | nil => rfl
    | cons q Q => exact absurd ((h q).2 (by simp)) (by simp)
  | p :: P, [], _, _, h => absurd ((h p).1 (by simp)) (by simp)
  | p :: P, q :: Q, hp, hq, h => by
    rw [List.pairwise_cons] at hp hq
    have e : p = q := by
      rcases List.mem_cons.1 ((h p).1 (by simp)) with e | hpq
      · exact e
      · rcases List.mem_cons.1 ((h q).2 (by simp)) with e | hqp
        · exact e.symm
        · exact absurd (prec_trans (hp.1 q hqp) (hq.1 p hpq)) prec_irrefl
    subst e
    have ih := sorted_unique hp.2 hq.2 (fun x => by
      constructor
      · intro hx
        rcases List.mem_cons.1 ((h x).1 (by simp [hx])) with e | h'
        · subst e; exact absurd (hp.1 x hx) prec_irrefl
        · exact h'
      · intro hx
        rcases List.mem_cons.1 ((h x).2 (by simp [hx])) with e | h'
        · subst e; exact absurd (hq.1 x hx) prec_irrefl
        · exact h')
    rw [ih]
theorem Good.unique {r : Nat → Int} {P Q : List Nat} {m : Nat} (hp : Good r P m) (hq : Good r Q m) : P = Q :=
  sorted_unique hp.pw hq.pw fun x => by rw [hp.mem, hq.mem]

/-- The order, number by number. -/
def ordOf (r : Nat → Int) : Nat → List Nat
  | 0 => []
  | m + 1 => (ordOf r m).takeWhile (fun x => decide (r m ≤ r x)) ++ m :: (ordOf r m).dropWhile (fun x => decide (r m ≤ r x))
theorem takeWhile_take {α : Type} (p : α → Bool) : ∀ L : List α, L.takeWhile p = L.take (L.takeWhile p).length ∧ L.dropWhile p = L.drop (L.takeWhile p).length
  | [] => ⟨rfl, rfl⟩
  | x :: L => by
    rw [List.takeWhile_cons, List.dropWhile_cons]
    obtain ⟨h1, h2⟩ := takeWhile_take p L
    cases p x
    · exact ⟨rfl, rfl⟩
    · simp only [if_true, List.length_cons, List.take_succ_cons, List.drop_succ_cons]
      exact ⟨by rw [← h1], h2⟩
theorem takeWhile_imp {α : Type} {p : α → Bool} : ∀ {L : List α} {x : α}, x ∈ L.takeWhile p → p x = true
  | [], x, hx => by simp at hx
  | y :: L, x, hx => by
    rw [List.takeWhile_cons] at hx
    by_cases hy : p y = true
    · rw [if_pos hy] at hx
      rcases List.mem_cons.1 hx with rfl | hx
      · exact hy
      · exact takeWhile_imp hx
    · rw [if_neg hy] at hx
      simp at hx
theorem dropWhile_all {r : Nat → Int} {m : Nat} : ∀ {L : List Nat}, L.Pairwise (prec r) → ∀ x ∈ L.dropWhile (fun x => decide (r m ≤ r x)), r x < r m
  | [], _, x, hx => by simp at hx
  | y :: L, h, x, hx => by
    rw [List.pairwise_cons] at h
    rw [List.dropWhile_cons] at hx
    by_cases hy : r m ≤ r y
    · simp only [decide_eq_true hy, if_true] at hx
      exact dropWhile_all h.2 x hx
    · simp only [decide_eq_false hy, Bool.false_eq_true, if_false] at hx
      rcases List.mem_cons.1 hx with rfl | hx
      · omega
      · have := h.1 x hx
        unfold prec at this
        omega
theorem ordOf_good (r : Nat → Int) : ∀ m, Good r (ordOf r m) m
  | 0 => Good.nil r
  | m + 1 => by
    have h := ordOf_good r m
    obtain ⟨h1, h2⟩ := takeWhile_take (fun x => decide (r m ≤ r x)) (ordOf r m)
    have h3 := dropWhile_all (m := m) h.pw
    unfold ordOf
    have hl : ((ordOf r m).takeWhile (fun x => decide (r m ≤ r x))).length ≤ m := by
      have := (List.takeWhile_prefix (fun x => decide (r m ≤ r x)) (l := ordOf r m)).length_le
      rw [h.length] at this
      exact this
    have h4 : ∀ x ∈ (ordOf r m).takeWhile (fun x => decide (r m ≤ r x)), r m ≤ r x := fun x hx => by simpa using takeWhile_imp hx
    rw [h2] at h3 ⊢
    rw [h1] at h4 ⊢
    generalize ((ordOf r m).takeWhile (fun x => decide (r m ≤ r x))).length = j at *
    rw [List.length_take, h.length, Nat.min_eq_left hl] at *
    refine h.put hl h3 fun i x e hx => h4 x ?_
    subst e
    exact List.mem_of_getElem? (i := i) (by rw [List.getElem?_take, if_pos (by omega)]; exact hx)
/-- The greatest of those that are not taken yet, the first one of equal ones, is the next one of the order. -/
theorem Good.pick {r : Nat → Int} {D : List Nat} {m k at_ : Nat} (h : Good r D m) (hk : k < m) (hr : ∀ i, i < m → 0 ≤ r i) (ha : at_ < m)
    (h1 : ∀ i, i < m → (if i ∈ D.take k then -1 else r i) ≤ (if at_ ∈ D.take k then -1 else r at_)) (h2 : ∀ i, i < at_ → (if i ∈ D.take k then -1 else r i) < (if at_ ∈ D.take k then -1 else r at_)) : D[k]? = some at_ := by
  have hl := h.length
  have hkl : k < D.length := by omega
  have hx := List.getElem?_eq_getElem hkl
  have hxm : D[k] < m := (h.mem _).1 (List.getElem_mem hkl)
  have hpw := h.pw
  rw [← List.take_append_drop k D, List.drop_eq_getElem_cons hkl, List.pairwise_append, List.pairwise_cons] at hpw
  obtain ⟨-, ⟨p1, -⟩, p2⟩ := hpw
  have hxn : D[k] ∉ D.take k := fun hc => prec_irrefl (p2 _ hc _ List.mem_cons_self)
  generalize D[k] = x at *
  have g := h1 x hxm
  have gx := hr x hxm
  rw [if_neg hxn] at g
  have han : at_ ∉ D.take k := fun hc => by rw [if_pos hc] at g; omega
  rw [if_neg han] at g h2
  have hmem := (h.mem at_).2 ha
  rw [← List.take_append_drop k D, List.mem_append] at hmem
  rcases hmem with hmem | hmem
  · exact absurd hmem han
  · have : at_ = x ∨ prec r x at_ := by
      have hd : D.drop k = x :: D.drop (k + 1) := by
        rw [List.drop_eq_getElem_cons hkl]
        congr 1
        rw [List.getElem?_eq_getElem hkl] at hx
        injection hx
      rw [hd] at hmem
      rcases List.mem_cons.1 hmem with e | hm
      · exact .inl e
      · exact .inr (p1 _ hm)
    rcases this with e | hp
    · rw [e]; exact hx
    · exfalso
      unfold prec at hp
      rcases hp with hp | ⟨hp, hlt⟩
      · omega
      · have := h2 x hlt
        rw [if_neg hxn] at this
        omega

/-! ## Shares -/
def wAt (ws : List Int) (i : Nat) : Int := ws.getD i 0
def baseAt (sp : Int) (ws : List Int) (i : Nat) : Int := sp * wAt ws i / ws.sum
def restAt (sp : Int) (ws : List Int) (i : Nat) : Int := sp * wAt ws i % ws.sum
def bases (sp : Int) (ws : List Int) : List Int := ws.map fun w => sp * w / ws.sum
def leftOf (sp : Int) (ws : List Int) : Int := sp - (bases sp ws).sum
def orderOf (sp : Int) (ws : List Int) : List Nat := ordOf (restAt sp ws) ws.length
/-- The first k of the order have one more. -/
def shareTo (sp : Int) (ws : List Int) (k : Nat) : List Int := (List.range ws.length).map fun i => baseAt sp ws i + if i ∈ (orderOf sp ws).take k then 1 else 0
def shareM (sp : Int) (ws : List Int) : List Int := if ws.sum = 0 then List.replicate ws.length 0 else shareTo sp ws (leftOf sp ws).toNat

theorem wAt_of {ws : List Int} {i : Nat} {w : Int} (h : ws[i]? = some w) : wAt ws i = w := by
  unfold wAt
  rw [List.getD_eq_getElem?_getD, h]
  rfl
theorem bases_len (sp : Int) (ws : List Int) : (bases sp ws).length = ws.length := by simp [bases]
theorem bases_at {sp : Int} {ws : List Int} {i : Nat} (h : i < ws.length) : (bases sp ws)[i]? = some (baseAt sp ws i) := by
  unfold bases baseAt wAt
  rw [List.getElem?_map, List.getD_eq_getElem?_getD, List.getElem?_eq_getElem h]
  rfl
theorem shareTo_len (sp : Int) (ws : List Int) (k : Nat) : (shareTo sp ws k).length = ws.length := by simp [shareTo]
theorem shareM_len (sp : Int) (ws : List Int) : (shareM sp ws).length = ws.length := by
  unfold shareM
  split
  · simp
  · exact shareTo_len _ _ _
theorem shareTo_zero (sp : Int) (ws : List Int) : shareTo sp ws 0 = bases sp ws := by
  apply List.ext_getElem?
  intro i
  by_cases h : i < ws.length
  · rw [bases_at h]
    unfold shareTo
    rw [List.getElem?_map, List.getElem?_range h]
    simp
  · rw [List.getElem?_eq_none (by rw [shareTo_len]; omega), List.getElem?_eq_none (by rw [bases_len]; omega)]
theorem shareTo_at {sp : Int} {ws : List Int} {k i : Nat} (h : i < ws.length) : (shareTo sp ws k)[i]? = some (baseAt sp ws i + if i ∈ (orderOf sp ws).take k then 1 else 0) := by
  unfold shareTo
  rw [List.getElem?_map, List.getElem?_range h]
  rfl
theorem order_good (sp : Int) (ws : List Int) : Good (restAt sp ws) (orderOf sp ws) ws.length := ordOf_good _ _
theorem order_at {sp : Int} {ws : List Int} {k x : Nat} (h : (orderOf sp ws)[k]? = some x) : x < ws.length := ((order_good sp ws).mem x).1 (List.mem_of_getElem? h)
/-- One more has one more. -/
theorem shareTo_next {sp : Int} {ws : List Int} {k x : Nat} (h : (orderOf sp ws)[k]? = some x) : shareTo sp ws (k + 1) = (shareTo sp ws k).set x (baseAt sp ws x + 1) ∧ (shareTo sp ws k)[x]? = some (baseAt sp ws x) := by
  have hg := order_good sp ws
  have hx := order_at h
  obtain ⟨hk, he⟩ := List.getElem?_eq_some_iff.1 h
  have hn : x ∉ (orderOf sp ws).take k := by
    have hd := hg.nodup
    rw [← List.take_append_drop k (orderOf sp ws), List.nodup_append] at hd
    intro hc
    exact hd.2.2 x hc x (by rw [List.drop_eq_getElem_cons hk, he]; simp) rfl
  refine ⟨?_, by rw [shareTo_at hx, if_neg hn]; simp⟩
  apply List.ext_getElem?
  intro i
  by_cases hi : i < ws.length
  · rw [shareTo_at hi, List.take_succ_eq_append_getElem hk, he]
    by_cases e : x = i
    · subst e
      rw [List.getElem?_set_self (by rw [shareTo_len]; exact hx), if_pos (by simp)]
    · rw [List.getElem?_set_ne e, shareTo_at hi]
      congr 3
      have : i ≠ x := fun h => e h.symm
      simp [this]
  · rw [List.getElem?_eq_none (by rw [shareTo_len]; omega), List.getElem?_eq_none (by rw [List.length_set, shareTo_len]; omega)]

theorem div_sum {sp S : Int} (_hS : 0 < S) : ∀ ws : List Int, (ws.map fun w => sp * w / S).sum * S + (ws.map fun w => sp * w % S).sum = sp * ws.sum
  | [] => by simp
  | w :: ws => by
    have ih := div_sum (sp := sp) _hS ws
    simp only [List.map_cons, List.sum_cons]
    have h := Int.mul_ediv_add_emod (sp * w) S
    rw [Int.add_mul, Int.mul_add, ← ih, Int.mul_comm (sp * w / S) S]
    omega
theorem left_bd {sp : Int} {ws : List Int} (hsp : 0 ≤ sp) (hw : ∀ w ∈ ws, 0 ≤ w) (hS : 0 < ws.sum) : 0 ≤ leftOf sp ws ∧ leftOf sp ws ≤ ws.length := by
  have h := div_sum (sp := sp) hS ws
  have hr0 : 0 ≤ (ws.map fun w => sp * w % ws.sum).sum := sum_nonneg fun x hx => by
    obtain ⟨w, _, rfl⟩ := List.mem_map.1 hx
    exact Int.emod_nonneg _ (by omega)
  have hr1 : (ws.map fun w => sp * w % ws.sum).sum ≤ ws.sum * (ws.map fun w => sp * w % ws.sum).length := sum_le (by omega) fun x hx => by
    obtain ⟨w, _, rfl⟩ := List.mem_map.1 hx
    have := Int.emod_lt_of_pos (sp * w) hS
    omega
  rw [List.length_map] at hr1
  have e : leftOf sp ws * ws.sum = (ws.map fun w => sp * w % ws.sum).sum := by
    unfold leftOf bases
    rw [Int.sub_mul]
    omega
  generalize (ws.map fun w => sp * w % ws.sum).sum = R at *
  generalize ws.sum = S at *
  generalize leftOf sp ws = l at *
  constructor
  · rcases Int.lt_or_le l 0 with hl | hl
    · exfalso
      have := Int.mul_neg_of_neg_of_pos hl hS
      omega
    · exact hl
  · rw [← e, Int.mul_comm S] at hr1
    exact Int.le_of_mul_le_mul_right hr1 hS
theorem rest_nonneg {sp : Int} {ws : List Int} (hS : 0 < ws.sum) (i : Nat) : 0 ≤ restAt sp ws i := Int.emod_nonneg _ (by omega)
theorem shareTo_nonneg {sp : Int} {ws : List Int} (hsp : 0 ≤ sp) (hw : ∀ w ∈ ws, 0 ≤ w) (hS : 0 < ws.sum) (k : Nat) : ∀ x ∈ shareTo sp ws k, 0 ≤ x := by
  intro x hx
  unfold shareTo at hx
  obtain ⟨i, hi, rfl⟩ := List.mem_map.1 hx
  rw [List.mem_range] at hi
  have h1 : 0 ≤ wAt ws i := by
    rw [wAt_of (List.getElem?_eq_getElem hi)]
    exact hw _ (List.getElem_mem hi)
  have h2 : 0 ≤ baseAt sp ws i := Int.ediv_nonneg (Int.mul_nonneg hsp h1) (by omega)
  split <;> omega
theorem shareM_nonneg {sp : Int} {ws : List Int} (hsp : 0 ≤ sp) (hw : ∀ w ∈ ws, 0 ≤ w) : ∀ x ∈ shareM sp ws, 0 ≤ x := by
  unfold shareM
  split
  · intro x hx
    rw [(List.mem_replicate.1 hx).2]
    exact Int.le_refl 0
  · rename_i h
    have := sum_nonneg hw
    exact shareTo_nonneg hsp hw (by omega) _
theorem base_le {sp : Int} {ws : List Int} (hsp : 0 ≤ sp) (hw : ∀ w ∈ ws, 0 ≤ w) (hS : 0 < ws.sum) {i : Nat} (hi : i < ws.length) : 0 ≤ baseAt sp ws i ∧ baseAt sp ws i ≤ sp := by
  have h0 := List.getElem?_eq_getElem hi
  have h1 : 0 ≤ wAt ws i ∧ wAt ws i ≤ ws.sum := by
    rw [wAt_of h0]
    have ha := hw _ (List.getElem_mem hi)
    refine ⟨ha, ?_⟩
    have h2 := sum_take_next h0
    have h3 := sum_split ws (i + 1)
    have h4 : 0 ≤ (ws.take i).sum := sum_nonneg fun x hx => hw x (List.mem_of_mem_take hx)
    have h5 : 0 ≤ (ws.drop (i + 1)).sum := sum_nonneg fun x hx => hw x (List.mem_of_mem_drop hx)
    omega
  unfold baseAt
  refine ⟨Int.ediv_nonneg (Int.mul_nonneg hsp h1.1) (by omega), ?_⟩
  have : sp * wAt ws i ≤ sp * ws.sum := Int.mul_le_mul_of_nonneg_left h1.2 hsp
  have h6 := Int.ediv_le_ediv hS this
  rwa [Int.mul_ediv_cancel _ (by omega)] at h6
end Go.Proofs.Ytjebjcabggmaiaa
