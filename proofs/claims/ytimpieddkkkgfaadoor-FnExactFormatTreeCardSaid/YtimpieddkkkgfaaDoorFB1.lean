/- The text of boxes and of trees: the plain model. No program is named here. -/
import Derived.Test.YtimpieddkkkgfaaDoorB2
import Derived.Lib.Join
import Derived.Lib.ItoaNum
import Derived.Lib.Repeat
namespace Go.Proofs.YtimpieddkkkgfaaDoor
set_option linter.unusedVariables false
set_option linter.unusedSimpArgs false
open Go.RowKit

/-- A string's bytes. -/
def bl (s : ByteArray) : List UInt8 := s.data.toList
theorem bl_add (a b : ByteArray) : bl (a ++ b) = bl a ++ bl b := by
  unfold bl
  rw [ByteArray.data_append, Array.toList_append]
theorem bl_size (s : ByteArray) : s.size = (bl s).length := rfl
theorem bl_mk (l : List UInt8) : bl ⟨l.toArray⟩ = l := rfl
theorem bl_inj {a b : ByteArray} (h : bl a = bl b) : a = b := by
  apply ByteArray.ext
  apply Array.ext'
  exact h

theorem join_snoc {xs ys : List (List UInt8)} {sep : List UInt8} (h : 0 < xs.length) : Lib.join (xs ++ ys) sep = Lib.join xs sep ++ Lib.joinTail sep ys := by
  cases xs with
  | nil => simp at h
  | cons x xs =>
    rw [List.cons_append, Lib.join_cons, Lib.join_cons]
    simp [Lib.joinTail, List.append_assoc]
theorem decDigits_le : ∀ (k u : Nat), u ≤ k → 0 < (Lib.decDigits u).length ∧ (Lib.decDigits u).length ≤ u + 1
  | k, u, h => by
    rw [Lib.decDigits]
    by_cases hu : u < 10
    · rw [dif_pos hu]
      simp
    · rw [dif_neg hu]
      have := decDigits_le (k - 1) (u / 10) (by omega)
      rw [List.length_append, List.length_singleton]
      omega
termination_by k => k
decreasing_by omega

def decL (n : Int) : List UInt8 := Lib.decDigits n.toNat
theorem decL_itoa {n : Int} (h : 0 ≤ n) : Lib.itoa n = decL n := by
  unfold Lib.itoa decL
  rw [if_neg (by omega)]
theorem decL_le {n : Int} (h : n ≤ 100) : (decL n).length ≤ 101 := by
  have := (decDigits_le n.toNat n.toNat (Nat.le_refl _)).2
  unfold decL
  omega
def kindL (k : Int) : List UInt8 := if k = 0 then [108, 101, 97, 102] else if k = 1 then [98, 108, 111, 99, 107] else if k = 2 then [114, 111, 119] else [99, 111, 108, 117, 109, 110]
theorem kindL_le (k : Int) : (kindL k).length ≤ 6 := by
  unfold kindL
  repeat (split; simp)
  simp
def nameL : Nat → List UInt8
  | 0 => [112, 97, 100]
  | 1 => [103, 97, 112]
  | 2 => [103, 114, 111, 119]
  | 3 => [115, 104, 114, 105, 110, 107]
  | _ => [106, 117, 115, 116, 105, 102, 121]
theorem nameL_le : ∀ i, (nameL i).length ≤ 7
  | 0 => by decide
  | 1 => by decide
  | 2 => by decide
  | 3 => by decide
  | i + 4 => by simp [nameL]
def valB (b : BoxD) : Nat → Int
  | 0 => b.Pad
  | 1 => b.Gap
  | 2 => b.Grow
  | 3 => b.Shrink
  | _ => b.Justify
def headW (b : BoxD) : List (List UInt8) := if b.Kind = 0 then [kindL b.Kind, decL b.W, decL b.H] else [kindL b.Kind]
def styleW (b : BoxD) (i : Nat) : List (List UInt8) := if valB b i = 0 then [] else [nameL i, decL (valB b i)]
/-- The words of a box, of its first k styles. -/
def wordsTo (b : BoxD) (k : Nat) : List (List UInt8) := headW b ++ (List.range k).flatMap (styleW b)
def textTo (b : BoxD) (k : Nat) : List UInt8 := Lib.join (wordsTo b k) [32]
def textL (b : BoxD) : List UInt8 := textTo b 5
theorem headW_pos (b : BoxD) : 0 < (headW b).length := by
  unfold headW
  split <;> simp
theorem wordsTo_pos (b : BoxD) (k : Nat) : 0 < (wordsTo b k).length := by
  have := headW_pos b
  unfold wordsTo
  rw [List.length_append]
  omega
theorem wordsTo_zero (b : BoxD) : wordsTo b 0 = headW b := by simp [wordsTo]
theorem wordsTo_next (b : BoxD) (k : Nat) : wordsTo b (k + 1) = wordsTo b k ++ styleW b k := by
  unfold wordsTo
  rw [List.range_succ, List.flatMap_append, ← List.append_assoc]
  simp
theorem textTo_zero (b : BoxD) : textTo b 0 = if b.Kind = 0 then kindL b.Kind ++ [32] ++ decL b.W ++ [32] ++ decL b.H else kindL b.Kind := by
  unfold textTo
  rw [wordsTo_zero]
  unfold headW
  split
  · rw [Lib.join_cons]
    simp [Lib.joinTail]
  · rw [Lib.join_one]
theorem textTo_same {b : BoxD} {k : Nat} (h : valB b k = 0) : textTo b (k + 1) = textTo b k ∧ wordsTo b (k + 1) = wordsTo b k := by
  have e : wordsTo b (k + 1) = wordsTo b k := by
    rw [wordsTo_next]
    unfold styleW
    rw [if_pos h, List.append_nil]
  exact ⟨by unfold textTo; rw [e], e⟩
theorem textTo_more {b : BoxD} {k : Nat} (h : valB b k ≠ 0) : textTo b (k + 1) = textTo b k ++ [32] ++ nameL k ++ [32] ++ decL (valB b k) ∧ wordsTo b (k + 1) = wordsTo b k ++ [nameL k, decL (valB b k)] := by
  have e : wordsTo b (k + 1) = wordsTo b k ++ [nameL k, decL (valB b k)] := by
    rw [wordsTo_next]
    unfold styleW
    rw [if_neg h]
  refine ⟨?_, e⟩
  unfold textTo
  rw [e, join_snoc (wordsTo_pos b k)]
  simp [Lib.joinTail]
theorem wordsTo_len (b : BoxD) : ∀ k, (wordsTo b k).length ≤ 3 + 2 * k
  | 0 => by
    rw [wordsTo_zero]
    unfold headW
    split <;> simp
  | k + 1 => by
    have := wordsTo_len b k
    rw [wordsTo_next, List.length_append]
    have : (styleW b k).length ≤ 2 := by unfold styleW; split <;> simp
    omega
/-- The styles of a box that may be printed. -/
theorem valB_bd {b : BoxD} (h : styledB b = true) (i : Nat) : 0 ≤ valB b i ∧ valB b i ≤ 50 := by
  unfold styledB at h
  simp only [Bool.and_eq_true, inR_iff] at h
  obtain ⟨h1, h2, h3, h4, h5, h6, h7, h8⟩ := h
  match i with
  | 0 => exact h4
  | 1 => exact h5
  | 2 => show 0 ≤ b.Grow ∧ b.Grow ≤ 50; omega
  | 3 => show 0 ≤ b.Shrink ∧ b.Shrink ≤ 50; omega
  | i + 4 => show 0 ≤ b.Justify ∧ b.Justify ≤ 50; omega
theorem size_bd {b : BoxD} (h : styledB b = true) : (0 ≤ b.Kind ∧ b.Kind ≤ 3) ∧ (0 ≤ b.W ∧ b.W ≤ 100) ∧ (0 ≤ b.H ∧ b.H ≤ 100) := by
  unfold styledB sideOf at h
  simp only [Bool.and_eq_true, inR_iff] at h
  obtain ⟨h1, h2, h3, -⟩ := h
  refine ⟨h1, ?_, ?_⟩
  · split at h2 <;> omega
  · split at h3 <;> omega
theorem textTo_len {b : BoxD} (h : styledB b = true) : ∀ k, k ≤ 5 → (textTo b k).length ≤ 300 + 200 * k
  | 0, _ => by
    obtain ⟨_, ⟨_, h2⟩, ⟨_, h3⟩⟩ := size_bd h
    have a := kindL_le b.Kind
    have c := decL_le h2
    have d := decL_le h3
    rw [textTo_zero]
    split
    · simp only [List.length_append, List.length_singleton]
      omega
    · omega
  | k + 1, hk => by
    have ih := textTo_len h k (by omega)
    have hb := (valB_bd h k).2
    by_cases hv : valB b k = 0
    · rw [(textTo_same hv).1]
      omega
    · rw [(textTo_more hv).1]
      have a := nameL_le k
      have c := decL_le (n := valB b k) (by omega)
      simp only [List.length_append, List.length_singleton]
      omega
theorem textL_len {b : BoxD} (h : styledB b = true) : (textL b).length ≤ 1300 := textTo_len h 5 (by omega)

/-! ## Trees -/
def dashL (n : Nat) : List UInt8 := List.replicate n 45
theorem dash_repeat : ∀ n, Lib.repeatL [45] n = dashL n
  | 0 => rfl
  | n + 1 => by
    have := dash_repeat n
    unfold Lib.repeatL
    rw [this]
    rfl
def deepN (T : List BoxD) (i : Nat) : Nat := (up T i).length - 1
def lineL (T : List BoxD) (i : Nat) : List UInt8 := dashL (deepN T i) ++ textL (boxAt T i)
def linesTo (T : List BoxD) (k : Nat) : List (List UInt8) := (List.range k).map (lineL T)
def treeTo (T : List BoxD) (k : Nat) : List UInt8 := Lib.join (linesTo T k) [10]
def treeL (T : List BoxD) : List UInt8 := if validB T then treeTo T T.length else []
theorem linesTo_next (T : List BoxD) (k : Nat) : linesTo T (k + 1) = linesTo T k ++ [lineL T k] := by
  unfold linesTo
  rw [List.range_succ, List.map_append]
  rfl
theorem linesTo_len (T : List BoxD) (k : Nat) : (linesTo T k).length = k := by simp [linesTo]
theorem treeTo_zero (T : List BoxD) : treeTo T 0 = [] := rfl
theorem treeTo_one (T : List BoxD) : treeTo T 1 = lineL T 0 := by
  unfold treeTo
  rw [linesTo_next]
  exact Lib.join_one _ _
theorem treeTo_next {T : List BoxD} {k : Nat} (h : 0 < k) : treeTo T (k + 1) = treeTo T k ++ [10] ++ lineL T k := by
  unfold treeTo
  rw [linesTo_next, join_snoc (by rw [linesTo_len]; exact h)]
  simp [Lib.joinTail]
theorem valid_at {T : List BoxD} (h : validB T = true) {i : Nat} (hi : i < T.length) : styledB (boxAt T i) = true ∧ 0 < (up T i).length ∧ (up T i).length ≤ 6 := by
  have h1 : (List.range T.length).all (okAt T) = true := by
    unfold validB at h
    simp only [Bool.and_eq_true] at h
    exact h.2.2
  rw [List.all_eq_true] at h1
  have h2 := okAt_iff.1 (h1 i (List.mem_range.2 hi))
  refine ⟨h2.1, ?_, h2.2.2.1⟩
  rw [up]
  split <;> simp
theorem valid_len {T : List BoxD} (h : validB T = true) : 1 ≤ T.length ∧ T.length ≤ 16 := by
  unfold validB at h
  simp only [Bool.and_eq_true, decide_eq_true_eq] at h
  exact ⟨h.1, h.2.1⟩
theorem valid_desc {T : List BoxD} (h : validB T = true) : Desc T T.length := fun i hi => by
  have h1 : (List.range T.length).all (okAt T) = true := by
    unfold validB at h
    simp only [Bool.and_eq_true] at h
    exact h.2.2
  rw [List.all_eq_true] at h1
  have h2 := (okAt_iff.1 (h1 i (List.mem_range.2 hi))).2.1
  exact ⟨fun e => by subst e; exact h2.1 rfl, fun e => (h2.2 e).1⟩
theorem lineL_len {T : List BoxD} (h : validB T = true) {i : Nat} (hi : i < T.length) : (lineL T i).length ≤ 1310 := by
  obtain ⟨h1, h2, h3⟩ := valid_at h hi
  have := textL_len h1
  unfold lineL dashL deepN
  rw [List.length_append, List.length_replicate]
  omega
theorem treeTo_len {T : List BoxD} (h : validB T = true) : ∀ k, k ≤ T.length → (treeTo T k).length ≤ 1311 * k
  | 0, _ => by rw [treeTo_zero]; simp
  | k + 1, hk => by
    have ih := treeTo_len h k (by omega)
    have hl := lineL_len h (i := k) (by omega)
    rcases Nat.eq_zero_or_pos k with h0 | h0
    · subst h0
      rw [treeTo_one]
      omega
    · rw [treeTo_next h0]
      simp only [List.length_append, List.length_singleton]
      omega
end Go.Proofs.YtimpieddkkkgfaaDoor
