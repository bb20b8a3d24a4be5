/- The plain model of queues of tasks. No program is named here. -/
import Derived.Test.YthppgaglmgnocaaTTask
namespace Go.Proofs.Ythppgaglmgnocaa
set_option linter.unusedVariables false
set_option linter.unusedSimpArgs false

def okT (t : TaskD) : Bool := inR t.Id 0 99 && inR t.Rank 0 50 && inR t.Age 0 20
/-- Each Id is greater than the one before. -/
def ascT : List TaskD → Bool
  | [] => true
  | [_] => true
  | a :: b :: L => decide (a.Id < b.Id) && ascT (b :: L)
def validT (L : List TaskD) : Bool := decide (L.length ≤ 10) && (L.all okT && ascT L)
def keyT (t : TaskD) : Int := t.Rank - 4 * t.Age
def soonT (a b : TaskD) : Bool := decide (keyT a < keyT b ∨ keyT a = keyT b ∧ a.Id < b.Id)
/-- The task that is taken next: of the list m :: L. -/
def minT (m : TaskD) (L : List TaskD) : TaskD := L.foldl (fun m x => if soonT x m then x else m) m
def nextT : List TaskD → TaskD
  | [] => ⟨0, 0, 0⟩
  | m :: L => minT m L
def olderT (t : TaskD) : TaskD := ⟨t.Id, t.Rank, min (t.Age + 1) 20⟩
def takeT (L : List TaskD) : List TaskD := (L.filter fun t => !(t.Id == (nextT L).Id)).map olderT
def orderN : Nat → List TaskD → List Int
  | 0, _ => []
  | n + 1, L => (nextT L).Id :: orderN n (takeT L)
def orderT (L : List TaskD) : List Int := orderN L.length L

theorem okT_iff {t : TaskD} : okT t = true ↔ (0 ≤ t.Id ∧ t.Id ≤ 99) ∧ (0 ≤ t.Rank ∧ t.Rank ≤ 50) ∧ (0 ≤ t.Age ∧ t.Age ≤ 20) := by
  unfold okT
  simp only [Bool.and_eq_true, inR_iff, and_assoc]
theorem ascT_at : ∀ {L : List TaskD}, ascT L = true ↔ ∀ (i : Nat) (a b : TaskD), L[i]? = some a → L[i + 1]? = some b → a.Id < b.Id
  | [] => by simp [ascT]
  | [a] => by simp [ascT]
  | a :: b :: L => by
    have ih := ascT_at (L := b :: L)
    unfold ascT
    rw [Bool.and_eq_true, decide_eq_true_eq, ih]
    constructor
    · rintro ⟨h1, h2⟩ i x y hx hy
      cases i with
      | zero => simp at hx hy; subst hx hy; exact h1
      | succ i => exact h2 i x y (by simpa using hx) (by simpa using hy)
    · intro h
      exact ⟨h 0 a b rfl rfl, fun i x y hx hy => h (i + 1) x y (by simpa using hx) (by simpa using hy)⟩
theorem ascT_cons {a : TaskD} {L : List TaskD} (h : ascT (a :: L) = true) : ascT L = true := by
  cases L with
  | nil => rfl
  | cons b L => unfold ascT at h; rw [Bool.and_eq_true] at h; exact h.2
theorem ascT_head : ∀ {L : List TaskD} {a : TaskD}, ascT (a :: L) = true → ∀ x ∈ L, a.Id < x.Id
  | [], _, _, x, hx => by simp at hx
  | b :: L, a, h, x, hx => by
    have h1 : a.Id < b.Id := by unfold ascT at h; rw [Bool.and_eq_true, decide_eq_true_eq] at h; exact h.1
    rcases List.mem_cons.1 hx with rfl | hx
    · exact h1
    · have := ascT_head (ascT_cons h) x hx
      omega
theorem ascT_mk {a : TaskD} {L : List TaskD} (h : ∀ x ∈ L, a.Id < x.Id) (hL : ascT L = true) : ascT (a :: L) = true := by
  cases L with
  | nil => rfl
  | cons b L => unfold ascT; rw [Bool.and_eq_true, decide_eq_true_eq]; exact ⟨h b (by simp), hL⟩
theorem ascT_filter (p : TaskD → Bool) : ∀ {L : List TaskD}, ascT L = true → ascT (L.filter p) = true
  | [], _ => rfl
  | a :: L, h => by
    have ih := ascT_filter p (ascT_cons h)
    rw [List.filter_cons]
    split
    · exact ascT_mk (fun x hx => ascT_head h x (List.mem_filter.1 hx).1) ih
    · exact ih
theorem ascT_older : ∀ {L : List TaskD}, ascT L = true → ascT (L.map olderT) = true
  | [], _ => rfl
  | a :: L, h => by
    rw [List.map_cons]
    refine ascT_mk (fun x hx => ?_) (ascT_older (ascT_cons h))
    obtain ⟨y, hy, rfl⟩ := List.mem_map.1 hx
    exact ascT_head h y hy
/-- Ids tell tasks apart. -/
theorem asc_uniq : ∀ {L : List TaskD}, ascT L = true → ∀ {i j : Nat} {a b : TaskD}, L[i]? = some a → L[j]? = some b → a.Id = b.Id → i = j
  | [], _, i, j, a, b, h, _, _ => by simp at h
  | x :: L, h, i, j, a, b, ha, hb, e => by
    cases i with
    | zero =>
      cases j with
      | zero => rfl
      | succ j =>
        simp at ha hb
        subst ha
        have := ascT_head h b (List.mem_of_getElem? hb)
        omega
    | succ i =>
      cases j with
      | zero =>
        simp at ha hb
        subst hb
        have := ascT_head h a (List.mem_of_getElem? ha)
        omega
      | succ j =>
        have := asc_uniq (ascT_cons h) (i := i) (j := j) (by simpa using ha) (by simpa using hb) e
        omega
theorem validT_iff {L : List TaskD} : validT L = true ↔ L.length ≤ 10 ∧ (∀ t ∈ L, okT t = true) ∧ ascT L = true := by
  unfold validT
  rw [Bool.and_eq_true, Bool.and_eq_true, decide_eq_true_eq, List.all_eq_true]

theorem soonT_iff {a b : TaskD} : soonT a b = true ↔ keyT a < keyT b ∨ keyT a = keyT b ∧ a.Id < b.Id := by
  unfold soonT; rw [decide_eq_true_eq]
theorem soonT_no {a b : TaskD} : soonT a b = false ↔ ¬ (keyT a < keyT b ∨ keyT a = keyT b ∧ a.Id < b.Id) := by
  unfold soonT; rw [decide_eq_false_iff_not]
theorem minT_mem : ∀ (L : List TaskD) (m : TaskD), minT m L ∈ m :: L
  | [], m => by simp [minT]
  | x :: L, m => by
    have e : minT m (x :: L) = minT (if soonT x m then x else m) L := rfl
    rw [e]
    have := minT_mem L (if soonT x m then x else m)
    rcases List.mem_cons.1 this with h | h
    · rw [h]
      split <;> simp
    · simp [h]
theorem minT_least : ∀ (L : List TaskD) (m : TaskD), ∀ x ∈ m :: L, soonT x (minT m L) = false
  | [], m, x, hx => by
    simp at hx
    subst hx
    rw [soonT_no]
    show ¬ (keyT x < keyT x ∨ keyT x = keyT x ∧ x.Id < x.Id)
    omega
  | y :: L, m, x, hx => by
    have e : minT m (y :: L) = minT (if soonT y m then y else m) L := rfl
    rw [e]
    have ih := minT_least L (if soonT y m then y else m)
    have h0 := ih _ (List.mem_cons_self ..)
    rw [soonT_no] at h0
    rcases List.mem_cons.1 hx with rfl | hx
    · rw [soonT_no]
      split at h0
      · rename_i h
        rw [if_pos h]
        rw [soonT_iff] at h
        omega
      · rename_i h
        rw [if_neg h]
        exact h0
    · rcases List.mem_cons.1 hx with rfl | hx
      · rw [soonT_no]
        split at h0
        · rename_i h
          rw [if_pos h]
          exact h0
        · rename_i h
          rw [if_neg h]
          rw [Bool.not_eq_true, soonT_no] at h
          omega
      · exact ih x (by simp [hx])
theorem nextT_mem {L : List TaskD} (h : 0 < L.length) : nextT L ∈ L := by
  cases L with
  | nil => simp at h
  | cons m L => exact minT_mem L m
theorem nextT_least {L : List TaskD} {x : TaskD} (hx : x ∈ L) : soonT x (nextT L) = false := by
  cases L with
  | nil => simp at hx
  | cons m L => exact minT_least L m x hx
theorem minT_snoc (m : TaskD) (L : List TaskD) (x : TaskD) : minT m (L ++ [x]) = if soonT x (minT m L) then x else minT m L := by
  unfold minT
  rw [List.foldl_append]
  rfl
theorem nextT_snoc {L : List TaskD} (h : 0 < L.length) (x : TaskD) : nextT (L ++ [x]) = if soonT x (nextT L) then x else nextT L := by
  cases L with
  | nil => simp at h
  | cons m L => exact minT_snoc m L x
/-- One further: the first i + 1. -/
theorem nextT_take {L : List TaskD} {i : Nat} {x : TaskD} (h : 0 < i) (hx : L[i]? = some x) : nextT (L.take (i + 1)) = if soonT x (nextT (L.take i)) then x else nextT (L.take i) := by
  obtain ⟨hi, rfl⟩ := List.getElem?_eq_some_iff.1 hx
  rw [List.take_succ_eq_append_getElem hi]
  exact nextT_snoc (by rw [List.length_take]; omega) _

theorem older_ok {t : TaskD} (h : okT t = true) : okT (olderT t) = true := by
  rw [okT_iff] at *
  unfold olderT
  simp only
  omega
theorem take_valid {L : List TaskD} (h : validT L = true) : validT (takeT L) = true := by
  rw [validT_iff] at *
  obtain ⟨h1, h2, h3⟩ := h
  unfold takeT
  refine ⟨?_, ?_, ascT_older (ascT_filter _ h3)⟩
  · rw [List.length_map]
    have := List.length_filter_le (fun t : TaskD => !(t.Id == (nextT L).Id)) L
    omega
  · intro t ht
    obtain ⟨y, hy, rfl⟩ := List.mem_map.1 ht
    exact older_ok (h2 y (List.mem_filter.1 hy).1)
/-- Of a list with ascending Ids just one task goes. -/
theorem filter_one : ∀ {L : List TaskD}, ascT L = true → ∀ {x : TaskD}, x ∈ L → (L.filter fun t => !(t.Id == x.Id)).length + 1 = L.length
  | [], _, x, hx => by simp at hx
  | a :: L, h, x, hx => by
    rcases List.mem_cons.1 hx with rfl | hx'
    · have : L.filter (fun t => !(t.Id == x.Id)) = L := by
        rw [List.filter_eq_self]
        intro t ht
        have := ascT_head h t ht
        rw [Bool.not_eq_true', beq_eq_false_iff_ne]
        omega
      rw [List.filter_cons, if_neg (by simp), this, List.length_cons]
    · have hax := ascT_head h x hx'
      have ih := filter_one (ascT_cons h) hx'
      rw [List.filter_cons, if_pos (by rw [Bool.not_eq_true', beq_eq_false_iff_ne]; omega), List.length_cons, List.length_cons]
      omega
theorem take_len {L : List TaskD} (h : validT L = true) (h0 : 0 < L.length) : (takeT L).length + 1 = L.length := by
  unfold takeT
  rw [List.length_map]
  exact filter_one (validT_iff.1 h).2.2 (nextT_mem h0)
theorem orderT_nil : orderT [] = [] := rfl
theorem orderT_cons {L : List TaskD} (h : validT L = true) (h0 : 0 < L.length) : orderT L = (nextT L).Id :: orderT (takeT L) := by
  unfold orderT
  have e := take_len h h0
  rw [← e]
  rfl
theorem orderN_len : ∀ (n : Nat) (L : List TaskD), (orderN n L).length = n
  | 0, _ => rfl
  | n + 1, L => by unfold orderN; rw [List.length_cons, orderN_len n]
theorem orderT_len (L : List TaskD) : (orderT L).length = L.length := orderN_len _ _
theorem key_bd {t : TaskD} (h : okT t = true) : -80 ≤ keyT t ∧ keyT t ≤ 50 := by
  rw [okT_iff] at h
  unfold keyT
  omega
/-- The tasks of a queue behind i rounds. -/
theorem takeT_mem {L : List TaskD} {t : TaskD} : t ∈ takeT L ↔ ∃ y ∈ L, y.Id ≠ (nextT L).Id ∧ t = olderT y := by
  unfold takeT
  rw [List.mem_map]
  constructor
  · rintro ⟨y, hy, rfl⟩
    rw [List.mem_filter] at hy
    refine ⟨y, hy.1, ?_, rfl⟩
    have := hy.2
    rw [Bool.not_eq_true', beq_eq_false_iff_ne] at this
    exact this
  · rintro ⟨y, hy, hne, rfl⟩
    refine ⟨y, ?_, rfl⟩
    rw [List.mem_filter]
    refine ⟨hy, ?_⟩
    rw [Bool.not_eq_true', beq_eq_false_iff_ne]
    exact hne

/-! ## What the orders have -/
theorem orderN_ids : ∀ (n : Nat) (L : List TaskD), L.length = n → validT L = true → ∀ t ∈ L, t.Id ∈ orderN n L
  | 0, L, hn, _, t, ht => by rw [List.eq_nil_of_length_eq_zero hn] at ht; simp at ht
  | n + 1, L, hn, hv, t, ht => by
    unfold orderN
    by_cases e : t.Id = (nextT L).Id
    · rw [e]; simp
    · have hl := take_len hv (by omega)
      have := orderN_ids n (takeT L) (by omega) (take_valid hv) (olderT t) (takeT_mem.2 ⟨t, ht, e, rfl⟩)
      exact List.mem_cons_of_mem _ this
theorem orderN_sub : ∀ (n : Nat) (L : List TaskD), L.length = n → validT L = true → ∀ x ∈ orderN n L, ∃ t ∈ L, x = t.Id
  | 0, L, _, _, x, hx => by simp [orderN] at hx
  | n + 1, L, hn, hv, x, hx => by
    unfold orderN at hx
    rcases List.mem_cons.1 hx with rfl | hx
    · exact ⟨_, nextT_mem (by omega), rfl⟩
    · have hl := take_len hv (by omega)
      obtain ⟨t, ht, e⟩ := orderN_sub n (takeT L) (by omega) (take_valid hv) x hx
      obtain ⟨y, hy, _, rfl⟩ := takeT_mem.1 ht
      exact ⟨y, hy, e⟩
theorem orderN_nodup : ∀ (n : Nat) (L : List TaskD), L.length = n → validT L = true → (orderN n L).Nodup
  | 0, _, _, _ => by simp [orderN]
  | n + 1, L, hn, hv => by
    have hl := take_len hv (by omega)
    unfold orderN
    rw [List.nodup_cons]
    refine ⟨fun h => ?_, orderN_nodup n _ (by omega) (take_valid hv)⟩
    obtain ⟨t, ht, e⟩ := orderN_sub n (takeT L) (by omega) (take_valid hv) _ h
    obtain ⟨y, _, hne, rfl⟩ := takeT_mem.1 ht
    exact hne e.symm
/-- Of two tasks of one age, the one of smaller rank is taken first. -/
theorem orderN_rank : ∀ (n : Nat) (L : List TaskD), L.length = n → validT L = true → ∀ a ∈ L, ∀ b ∈ L, a.Age = b.Age → a.Rank < b.Rank →
    ∀ (i j : Nat), (orderN n L)[i]? = some a.Id → (orderN n L)[j]? = some b.Id → i ≤ j
  | 0, L, hn, _, a, ha, _, _, _, _, _, _, _, _ => by rw [List.eq_nil_of_length_eq_zero hn] at ha; simp at ha
  | n + 1, L, hn, hv, a, ha, b, hb, hage, hrank, i, j, hi, hj => by
    have hl := take_len hv (by omega)
    have hasc := (validT_iff.1 hv).2.2
    have hnd := orderN_nodup (n + 1) L hn hv
    by_cases ea : a.Id = (nextT L).Id
    · have h0 : (orderN (n + 1) L)[0]? = some a.Id := by rw [ea]; rfl
      have hlt : i < (orderN (n + 1) L).length := (List.getElem?_eq_some_iff.1 hi).1
      have : i = 0 := by
        have := (List.getElem?_inj hlt hnd).1 (hi.trans h0.symm)
        exact this
      omega
    · by_cases eb : b.Id = (nextT L).Id
      · exfalso
        have hle := nextT_least (L := L) ha
        have hbn : b = nextT L := by
          obtain ⟨p, hp⟩ := List.mem_iff_getElem?.1 hb
          obtain ⟨q, hq⟩ := List.mem_iff_getElem?.1 (nextT_mem (L := L) (by omega))
          have := asc_uniq hasc hp hq eb
          subst this
          rw [hp] at hq
          injection hq
        rw [← hbn, soonT_no] at hle
        unfold keyT at hle
        omega
      · unfold orderN at hi hj
        cases i with
        | zero => simp at hi; exact absurd hi.symm ea
        | succ i =>
          cases j with
          | zero => simp at hj; exact absurd hj.symm eb
          | succ j =>
            have := orderN_rank n (takeT L) (by omega) (take_valid hv) (olderT a) (takeT_mem.2 ⟨a, ha, ea, rfl⟩) (olderT b) (takeT_mem.2 ⟨b, hb, eb, rfl⟩) (by unfold olderT; simp only [hage]) hrank i j (show _ = some a.Id by simpa using hi) (show _ = some b.Id by simpa using hj)
            omega
end Go.Proofs.Ythppgaglmgnocaa
