/- Rect: the Lean structure of Go's impl.Rect, its cells. No program is named here. Written by a program of ours. -/
import Derived.Test.YthejkmdodjchiaaBase
namespace Go.Proofs.Ythejkmdodjchiaa
set_option linter.unusedVariables false
set_option linter.unusedSimpArgs false
open Go.RowKit

structure RectD where
  X : Int
  Y : Int
  W : Int
  H : Int
theorem RectD.eq_iff {a b : RectD} : a = b ↔ a.X = b.X ∧ a.Y = b.Y ∧ a.W = b.W ∧ a.H = b.H := by
  cases a; cases b; simp
instance : DecidableEq RectD := fun a b => decidable_of_iff (a.X = b.X ∧ a.Y = b.Y ∧ a.W = b.W ∧ a.H = b.H) RectD.eq_iff.symm
instance : Inhabited RectD := ⟨⟨0, 0, 0, 0⟩⟩

def encRect (x : RectD) : List Value := [.int .i64 x.X, .int .i64 x.Y, .int .i64 x.W, .int .i64 x.H]
theorem encRect_len (x : RectD) : (encRect x).length = 4 := rfl
theorem oneRect (x : RectD) : ∀ u ∈ encRect x, u.oneCell' = true := by
  intro u hu
  simp [encRect] at hu
  rcases hu with rfl | rfl | rfl | rfl <;> rfl
theorem ocRect (x : RectD) : ∀ u ∈ (#[.int .i64 x.X, .int .i64 x.Y, .int .i64 x.W, .int .i64 x.H] : Array Value).toList, u.oneCell' = true := oneRect x

theorem Arr.atRect {w : World} {B : Nat} {A : Option Addr} {L : List RectD} (h : Arr w B 4 encRect A L) {i : Nat} (hi : i < L.length) :
    ∃ b off x, A = some ⟨b, off, none⟩ ∧ b < B ∧ L[i]? = some x ∧ w.cell? ⟨b, off + i * 4, none⟩ = some (.int .i64 x.X) ∧ w.cell? ⟨b, off + i * 4 + 1, none⟩ = some (.int .i64 x.Y) ∧ w.cell? ⟨b, off + i * 4 + 2, none⟩ = some (.int .i64 x.W) ∧ w.cell? ⟨b, off + i * 4 + 3, none⟩ = some (.int .i64 x.H) := by
  obtain ⟨b, off, e, hb, hc⟩ := h.at_ (List.getElem?_eq_getElem hi)
  exact ⟨b, off, _, e, hb, List.getElem?_eq_getElem hi, by simpa using hc 0 _ rfl, by simpa using hc 1 _ rfl, by simpa using hc 2 _ rfl, by simpa using hc 3 _ rfl⟩
theorem Arr.litRect {w : World} {B b off : Nat} {L : List RectD} (h : Arr w B 4 encRect (some ⟨b, off, none⟩) L) {i : Nat} (hi : i < L.length) :
    ∃ x, L[i]? = some x ∧ b < B ∧ w.cell? ⟨b, off + i * 4, none⟩ = some (.int .i64 x.X) ∧ w.cell? ⟨b, off + i * 4 + 1, none⟩ = some (.int .i64 x.Y) ∧ w.cell? ⟨b, off + i * 4 + 2, none⟩ = some (.int .i64 x.W) ∧ w.cell? ⟨b, off + i * 4 + 3, none⟩ = some (.int .i64 x.H) := by
  obtain ⟨b', off', x, e, hb, h1, h2⟩ := h.atRect hi
  injection e with e
  injection e with e1 e2
  subst e1 e2
  exact ⟨x, h1, hb, h2⟩

theorem own_setRect {w : World} {base g i : Nat} {L : List RectD} {p : RectD} (h : OwnA w base 4 encRect (some ⟨g, 0, none⟩) L) (hy : L[i]? = some p) (x : RectD) :
    OwnA ((((w.setCell ⟨g, i * 4, none⟩ (.int .i64 x.X)).setCell ⟨g, i * 4 + 1, none⟩ (.int .i64 x.Y)).setCell ⟨g, i * 4 + 2, none⟩ (.int .i64 x.W)).setCell ⟨g, i * 4 + 3, none⟩ (.int .i64 x.H)) base 4 encRect (some ⟨g, 0, none⟩) (L.set i x) := by
  have hi := (List.getElem?_eq_some_iff.1 hy).1
  have h0 := h.set_ (k := 4) (fun _ => rfl) (j := 0) (y' := (⟨x.X, p.Y, p.W, p.H⟩ : RectD)) (v := .int .i64 x.X) hy (by omega) rfl
  have h1 := h0.set_ (k := 4) (fun _ => rfl) (j := 1) (y' := (⟨x.X, x.Y, p.W, p.H⟩ : RectD)) (v := .int .i64 x.Y) (List.getElem?_set_self (by simpa using hi)) (by omega) rfl
  have h2 := h1.set_ (k := 4) (fun _ => rfl) (j := 2) (y' := (⟨x.X, x.Y, x.W, p.H⟩ : RectD)) (v := .int .i64 x.W) (List.getElem?_set_self (by simpa using hi)) (by omega) rfl
  have h3 := h2.set_ (k := 4) (fun _ => rfl) (j := 3) (y' := (⟨x.X, x.Y, x.W, x.H⟩ : RectD)) (v := .int .i64 x.H) (List.getElem?_set_self (by simpa using hi)) (by omega) rfl
  simp only [List.set_set] at h3
  simpa using h3

/-- n marked structures, from m on. -/
def marksRect (m : Int) (n : Nat) : List RectD := (List.range n).map fun i : Nat => ⟨m + 4 * (i : Int), m + 4 * (i : Int) + 1, m + 4 * (i : Int) + 2, m + 4 * (i : Int) + 3⟩
theorem marksRect_len (m : Int) (n : Nat) : (marksRect m n).length = n := by simp [marksRect]
theorem marksRect_at {m : Int} {n i : Nat} (h : i < n) : (marksRect m n)[i]? = some (⟨m + 4 * (i : Int), m + 4 * (i : Int) + 1, m + 4 * (i : Int) + 2, m + 4 * (i : Int) + 3⟩ : RectD) := by simp [marksRect, h]
end Go.Proofs.Ythejkmdodjchiaa
