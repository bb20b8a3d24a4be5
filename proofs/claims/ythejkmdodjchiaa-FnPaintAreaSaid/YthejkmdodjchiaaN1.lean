/- The plain model of rectangles: valid, common points, hulls, changes. No program is named here. -/
import Derived.Test.YthejkmdodjchiaaTRect
namespace Go.Proofs.Ythejkmdodjchiaa
set_option linter.unusedVariables false
set_option linter.unusedSimpArgs false

def validR (r : RectD) : Bool := inR r.X (-100000) 100000 && inR r.Y (-100000) 100000 && inR r.W 0 200000 && inR r.H 0 200000
def meetR (a b : RectD) : RectD := ⟨max a.X b.X, max a.Y b.Y, min (a.X + a.W) (b.X + b.W) - max a.X b.X, min (a.Y + a.H) (b.Y + b.H) - max a.Y b.Y⟩
def meetsR (a b : RectD) : Bool := decide (0 < (meetR a b).W) && decide (0 < (meetR a b).H)
def hullR (a b : RectD) : RectD := ⟨min a.X b.X, min a.Y b.Y, max (a.X + a.W) (b.X + b.W) - min a.X b.X, max (a.Y + a.H) (b.Y + b.H) - min a.Y b.Y⟩
def insideR (a b : RectD) : Bool := decide (b.X ≤ a.X) && decide (b.Y ≤ a.Y) && decide (a.X + a.W ≤ b.X + b.W) && decide (a.Y + a.H ≤ b.Y + b.H)
def zeroR : RectD := ⟨0, 0, 0, 0⟩

theorem validR_iff {r : RectD} : validR r = true ↔ (-100000 ≤ r.X ∧ r.X ≤ 100000) ∧ (-100000 ≤ r.Y ∧ r.Y ≤ 100000) ∧ (0 ≤ r.W ∧ r.W ≤ 200000) ∧ (0 ≤ r.H ∧ r.H ≤ 200000) := by
  unfold validR
  simp only [Bool.and_eq_true, inR_iff, and_assoc]
theorem insideR_iff {a b : RectD} : insideR a b = true ↔ b.X ≤ a.X ∧ b.Y ≤ a.Y ∧ a.X + a.W ≤ b.X + b.W ∧ a.Y + a.H ≤ b.Y + b.H := by
  unfold insideR
  simp only [Bool.and_eq_true, decide_eq_true_eq, and_assoc]
theorem meetsR_iff {a b : RectD} : meetsR a b = true ↔ max a.X b.X < min (a.X + a.W) (b.X + b.W) ∧ max a.Y b.Y < min (a.Y + a.H) (b.Y + b.H) := by
  unfold meetsR meetR
  simp only [Bool.and_eq_true, decide_eq_true_eq]
  omega
theorem meetsR_comm (a b : RectD) : meetsR a b = meetsR b a := by
  rw [Bool.eq_iff_iff, meetsR_iff, meetsR_iff]
  omega
theorem hullR_comm (a b : RectD) : hullR a b = hullR b a := by
  unfold hullR
  rw [RectD.eq_iff]
  simp only
  omega
theorem hullR_self (a : RectD) : hullR a a = a := by
  unfold hullR
  rw [RectD.eq_iff]
  simp only
  omega
theorem hullR_assoc (a b c : RectD) : hullR (hullR a b) c = hullR a (hullR b c) := by
  unfold hullR
  rw [RectD.eq_iff]
  simp only
  omega
theorem hullR_right (a b c : RectD) : hullR (hullR a b) c = hullR (hullR a c) b := by
  rw [hullR_assoc, hullR_comm b c, ← hullR_assoc]
theorem inside_refl (a : RectD) : insideR a a = true := by rw [insideR_iff]; omega
theorem inside_hull_left (a b : RectD) : insideR a (hullR a b) = true := by
  rw [insideR_iff]
  unfold hullR
  simp only
  omega
theorem inside_hull_right (a b : RectD) : insideR b (hullR a b) = true := by
  rw [hullR_comm]
  exact inside_hull_left b a
theorem inside_trans {a b c : RectD} (h : insideR a b = true) (k : insideR b c = true) : insideR a c = true := by
  rw [insideR_iff] at *
  omega
theorem hull_bd {a b : RectD} (ha : validR a = true) (hb : validR b = true) : (-100000 ≤ (hullR a b).X ∧ (hullR a b).X ≤ 100000) ∧ (-100000 ≤ (hullR a b).Y ∧ (hullR a b).Y ≤ 100000) ∧ (0 ≤ (hullR a b).W ∧ (hullR a b).W ≤ 400000) ∧ (0 ≤ (hullR a b).H ∧ (hullR a b).H ≤ 400000) := by
  rw [validR_iff] at ha hb
  unfold hullR
  simp only
  omega
/-- Bounds that a hull of hulls keeps. -/
def Roomy (r : RectD) : Prop := (-100000 ≤ r.X ∧ r.X ≤ 100000) ∧ (-100000 ≤ r.Y ∧ r.Y ≤ 100000) ∧ (0 ≤ r.W ∧ r.X + r.W ≤ 300000) ∧ (0 ≤ r.H ∧ r.Y + r.H ≤ 300000)
theorem Roomy.of {r : RectD} (h : validR r = true) : Roomy r := by
  rw [validR_iff] at h
  unfold Roomy
  omega
theorem Roomy.hull {a b : RectD} (ha : Roomy a) (hb : Roomy b) : Roomy (hullR a b) := by
  unfold Roomy at *
  unfold hullR
  simp only
  omega

/-! ## Lists that differ -/
def rectsB (L : List RectD) (n : Nat) : Bool := decide (L.length ≤ n) && L.all validR
theorem rectsB_iff {L : List RectD} {n : Nat} : rectsB L n = true ↔ L.length ≤ n ∧ ∀ r ∈ L, validR r = true := by
  unfold rectsB
  rw [Bool.and_eq_true, decide_eq_true_eq, List.all_eq_true]
def neAt (a b : List RectD) (i : Nat) : Bool := decide (a[i]? ≠ b[i]?)
def chg (a b : List RectD) : List Int := ((List.range a.length).filter (neAt a b)).map fun i : Nat => (i : Int)
/-- The numbers at which the first k differ. -/
def chgTo (a b : List RectD) (k : Nat) : List Int := ((List.range k).filter (neAt a b)).map fun i : Nat => (i : Int)
def chgOk (a b : List RectD) : Bool := rectsB a 16 && (rectsB b 16 && decide (a.length = b.length))
def chgOf (a b : List RectD) : List Int := if chgOk a b then chg a b else []
theorem chgTo_zero (a b : List RectD) : chgTo a b 0 = [] := rfl
theorem chgTo_all (a b : List RectD) : chgTo a b a.length = chg a b := rfl
theorem chgTo_yes {a b : List RectD} {k : Nat} (h : neAt a b k = true) : chgTo a b (k + 1) = chgTo a b k ++ [(k : Int)] := by
  unfold chgTo
  rw [List.range_succ, List.filter_append, List.map_append]
  simp [h]
theorem chgTo_no {a b : List RectD} {k : Nat} (h : neAt a b k = false) : chgTo a b (k + 1) = chgTo a b k := by
  unfold chgTo
  rw [List.range_succ, List.filter_append, List.map_append]
  simp [h]
theorem chgTo_len (a b : List RectD) (k : Nat) : (chgTo a b k).length ≤ k := by
  unfold chgTo
  rw [List.length_map]
  have := List.length_filter_le (neAt a b) (List.range k)
  rw [List.length_range] at this
  exact this
theorem chgOk_iff {a b : List RectD} : chgOk a b = true ↔ (a.length ≤ 16 ∧ ∀ r ∈ a, validR r = true) ∧ (b.length ≤ 16 ∧ ∀ r ∈ b, validR r = true) ∧ a.length = b.length := by
  unfold chgOk
  rw [Bool.and_eq_true, Bool.and_eq_true, rectsB_iff, rectsB_iff, decide_eq_true_eq]
theorem chgOf_len (a b : List RectD) : (chgOf a b).length ≤ 16 := by
  unfold chgOf
  split
  · rename_i h
    have := chgTo_len a b a.length
    have h1 := (chgOk_iff.1 h).1.1
    rw [chgTo_all] at this
    omega
  · simp
theorem mem_chg {a b : List RectD} {x : Int} : x ∈ chg a b ↔ ∃ i : Nat, x = i ∧ i < a.length ∧ neAt a b i = true := by
  unfold chg
  rw [List.mem_map]
  constructor
  · rintro ⟨i, hi, rfl⟩
    rw [List.mem_filter, List.mem_range] at hi
    exact ⟨i, rfl, hi.1, hi.2⟩
  · rintro ⟨i, rfl, h1, h2⟩
    exact ⟨i, by rw [List.mem_filter, List.mem_range]; exact ⟨h1, h2⟩, rfl⟩
theorem chg_has {a b : List RectD} {i : Nat} (hi : i < a.length) : (chg a b).contains (i : Int) = neAt a b i := by
  rw [Bool.eq_iff_iff, List.contains_iff_mem, mem_chg]
  constructor
  · rintro ⟨j, e, _, h⟩
    have : i = j := by omega
    subst this
    exact h
  · intro h
    exact ⟨i, rfl, hi, h⟩
theorem neAt_comm (a b : List RectD) (i : Nat) : neAt a b i = neAt b a i := by
  unfold neAt
  rw [Bool.eq_iff_iff, decide_eq_true_eq, decide_eq_true_eq]
  exact ne_comm
theorem chgOk_comm (a b : List RectD) : chgOk a b = chgOk b a := by
  rw [Bool.eq_iff_iff, chgOk_iff, chgOk_iff]
  constructor <;> (rintro ⟨h1, h2, h3⟩; exact ⟨h2, h1, h3.symm⟩)
theorem chgOf_comm (a b : List RectD) : chgOf b a = chgOf a b := by
  unfold chgOf
  rw [chgOk_comm b a]
  split
  · rename_i h
    have hl := (chgOk_iff.1 h).2.2
    unfold chg
    rw [hl]
    congr 1
    congr 1
    funext i
    exact neAt_comm b a i
  · rfl
theorem chgOf_self (a : List RectD) : chgOf a a = [] := by
  unfold chgOf
  split
  · unfold chg
    rw [List.map_eq_nil_iff, List.filter_eq_nil_iff]
    intro i _
    simp [neAt]
  · rfl
theorem chgOk_of {a b : List RectD} (h : 0 < (chgOf a b).length) : chgOk a b = true := by
  cases e : chgOk a b with
  | true => rfl
  | false => simp [chgOf, e] at h
theorem neAt_of {a b : List RectD} {i : Nat} {x y : RectD} (hx : a[i]? = some x) (hy : b[i]? = some y) : neAt a b i = decide (x ≠ y) := by
  unfold neAt
  rw [hx, hy]
  rw [Bool.eq_iff_iff, decide_eq_true_eq, decide_eq_true_eq]
  simp

/-! ## What has all changes in it -/
def hull2 (a b : List RectD) (o : RectD) (i : Int) : RectD := hullR (hullR o (a.getD i.toNat zeroR)) (b.getD i.toNat zeroR)
def dmgFold (a b : List RectD) (l : List Int) (o : RectD) : RectD := l.foldl (hull2 a b) o
def dmgAll (a b : List RectD) (l : List Int) : RectD := dmgFold a b l (a.getD (l.headD 0).toNat zeroR)
def dmgOk (a b : List RectD) : Bool := decide (0 < (chgOf a b).length) && validR (dmgAll a b (chgOf a b))
def dmgOf (a b : List RectD) : RectD := if dmgOk a b then dmgAll a b (chgOf a b) else zeroR

theorem hull2_comm (a b : List RectD) (o : RectD) (i : Int) : hull2 a b o i = hull2 b a o i := by
  unfold hull2
  rw [hullR_right]
theorem dmgFold_comm (a b : List RectD) (l : List Int) (o : RectD) : dmgFold a b l o = dmgFold b a l o := by
  unfold dmgFold
  congr 1
  funext o i
  exact hull2_comm a b o i
theorem dmgAll_comm (a b : List RectD) (l : List Int) (h : 0 < l.length) : dmgAll b a l = dmgAll a b l := by
  cases l with
  | nil => simp at h
  | cons i l =>
    unfold dmgAll
    rw [dmgFold_comm b a]
    unfold dmgFold
    rw [List.foldl_cons, List.foldl_cons]
    congr 1
    unfold hull2
    simp only [List.headD_cons]
    rw [hullR_self, hullR_right, hullR_self, hullR_comm]
theorem dmgOk_comm (a b : List RectD) : dmgOk b a = dmgOk a b := by
  unfold dmgOk
  rw [chgOf_comm]
  by_cases h : 0 < (chgOf a b).length
  · rw [dmgAll_comm a b _ h]
  · simp [h]
theorem dmgOf_comm (a b : List RectD) : dmgOf b a = dmgOf a b := by
  unfold dmgOf
  rw [dmgOk_comm, chgOf_comm]
  split
  · rename_i h
    unfold dmgOk at h
    rw [Bool.and_eq_true, decide_eq_true_eq] at h
    rw [dmgAll_comm a b _ h.1]
  · rfl
theorem dmgFold_inside (a b : List RectD) : ∀ (l : List Int) (o : RectD), insideR o (dmgFold a b l o) = true ∧ ∀ i ∈ l, insideR (a.getD i.toNat zeroR) (dmgFold a b l o) = true ∧ insideR (b.getD i.toNat zeroR) (dmgFold a b l o) = true
  | [], o => ⟨inside_refl o, fun i h => by simp at h⟩
  | i :: l, o => by
    obtain ⟨h1, h2⟩ := dmgFold_inside a b l (hull2 a b o i)
    have e : dmgFold a b (i :: l) o = dmgFold a b l (hull2 a b o i) := rfl
    rw [e]
    refine ⟨inside_trans (inside_trans (inside_hull_left _ _) (inside_hull_left _ _)) h1, fun j hj => ?_⟩
    rcases List.mem_cons.1 hj with rfl | hj
    · exact ⟨inside_trans (inside_trans (inside_hull_right _ _) (inside_hull_left _ _)) h1, inside_trans (inside_hull_right _ _) h1⟩
    · exact h2 j hj
/-- The left side of a fold is that of the start, or of one of the list. -/
theorem dmgFold_left (a b : List RectD) : ∀ (l : List Int) (o : RectD), (dmgFold a b l o).X = o.X ∨ ∃ i ∈ l, (a.getD i.toNat zeroR).X = (dmgFold a b l o).X ∨ (b.getD i.toNat zeroR).X = (dmgFold a b l o).X
  | [], o => .inl rfl
  | i :: l, o => by
    have e : dmgFold a b (i :: l) o = dmgFold a b l (hull2 a b o i) := rfl
    rw [e]
    rcases dmgFold_left a b l (hull2 a b o i) with h | ⟨j, hj, h⟩
    · rw [h]
      have : (hull2 a b o i).X = o.X ∨ (a.getD i.toNat zeroR).X = (hull2 a b o i).X ∨ (b.getD i.toNat zeroR).X = (hull2 a b o i).X := by
        unfold hull2 hullR
        simp only
        omega
      rcases this with h' | h'
      · exact .inl h'
      · exact .inr ⟨i, by simp, h'⟩
    · exact .inr ⟨j, by simp [hj], h⟩
theorem dmgFold_right (a b : List RectD) : ∀ (l : List Int) (o : RectD), (dmgFold a b l o).X + (dmgFold a b l o).W = o.X + o.W ∨ ∃ i ∈ l, (a.getD i.toNat zeroR).X + (a.getD i.toNat zeroR).W = (dmgFold a b l o).X + (dmgFold a b l o).W ∨ (b.getD i.toNat zeroR).X + (b.getD i.toNat zeroR).W = (dmgFold a b l o).X + (dmgFold a b l o).W
  | [], o => .inl rfl
  | i :: l, o => by
    have e : dmgFold a b (i :: l) o = dmgFold a b l (hull2 a b o i) := rfl
    rw [e]
    rcases dmgFold_right a b l (hull2 a b o i) with h | ⟨j, hj, h⟩
    · rw [h]
      have : (hull2 a b o i).X + (hull2 a b o i).W = o.X + o.W ∨ (a.getD i.toNat zeroR).X + (a.getD i.toNat zeroR).W = (hull2 a b o i).X + (hull2 a b o i).W ∨ (b.getD i.toNat zeroR).X + (b.getD i.toNat zeroR).W = (hull2 a b o i).X + (hull2 a b o i).W := by
        unfold hull2 hullR
        simp only
        omega
      rcases this with h' | h'
      · exact .inl h'
      · exact .inr ⟨i, by simp, h'⟩
    · exact .inr ⟨j, by simp [hj], h⟩
theorem dmgFold_roomy {a b : List RectD} : ∀ {l : List Int} {o : RectD}, (∀ i ∈ l, Roomy (a.getD i.toNat zeroR) ∧ Roomy (b.getD i.toNat zeroR)) → Roomy o → Roomy (dmgFold a b l o)
  | [], _, _, ho => ho
  | i :: l, o, h, ho => by
    have e : dmgFold a b (i :: l) o = dmgFold a b l (hull2 a b o i) := rfl
    rw [e]
    obtain ⟨h1, h2⟩ := h i (by simp)
    exact dmgFold_roomy (fun j hj => h j (by simp [hj])) ((ho.hull h1).hull h2)
theorem dmg_next {a b : List RectD} {l : List Int} {k : Nat} {i : Int} {o : RectD} (h : l[k]? = some i) : dmgFold a b (l.take (k + 1)) o = hull2 a b (dmgFold a b (l.take k) o) i := by
  obtain ⟨hk, rfl⟩ := List.getElem?_eq_some_iff.1 h
  unfold dmgFold
  rw [List.take_succ_eq_append_getElem hk, List.foldl_append]
  rfl
theorem dmg_left {a b : List RectD} {l : List Int} (h : 0 < l.length) : ∃ i ∈ l, (a.getD i.toNat zeroR).X = (dmgAll a b l).X ∨ (b.getD i.toNat zeroR).X = (dmgAll a b l).X := by
  cases l with
  | nil => simp at h
  | cons i l =>
    rcases dmgFold_left a b (i :: l) (a.getD i.toNat zeroR) with h | h
    · exact ⟨i, by simp, .inl h.symm⟩
    · exact h
theorem dmg_right {a b : List RectD} {l : List Int} (h : 0 < l.length) : ∃ i ∈ l, (a.getD i.toNat zeroR).X + (a.getD i.toNat zeroR).W = (dmgAll a b l).X + (dmgAll a b l).W ∨ (b.getD i.toNat zeroR).X + (b.getD i.toNat zeroR).W = (dmgAll a b l).X + (dmgAll a b l).W := by
  cases l with
  | nil => simp at h
  | cons i l =>
    rcases dmgFold_right a b (i :: l) (a.getD i.toNat zeroR) with h | h
    · exact ⟨i, by simp, .inl h.symm⟩
    · exact h
end Go.Proofs.Ythejkmdodjchiaa
