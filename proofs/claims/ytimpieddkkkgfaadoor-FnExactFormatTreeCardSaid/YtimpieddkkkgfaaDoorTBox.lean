/- Box: the Lean structure of Go's impl.Box, its cells. No program is named here. Written by a program of ours. -/
import Derived.Test.YtimpieddkkkgfaaDoorBase
namespace Go.Proofs.YtimpieddkkkgfaaDoor
set_option linter.unusedVariables false
set_option linter.unusedSimpArgs false
open Go.RowKit

structure BoxD where
  Parent : Int
  Kind : Int
  W : Int
  H : Int
  Pad : Int
  Gap : Int
  Grow : Int
  Shrink : Int
  Justify : Int
theorem BoxD.eq_iff {a b : BoxD} : a = b ↔ a.Parent = b.Parent ∧ a.Kind = b.Kind ∧ a.W = b.W ∧ a.H = b.H ∧ a.Pad = b.Pad ∧ a.Gap = b.Gap ∧ a.Grow = b.Grow ∧ a.Shrink = b.Shrink ∧ a.Justify = b.Justify := by
  cases a; cases b; simp
instance : DecidableEq BoxD := fun a b => decidable_of_iff (a.Parent = b.Parent ∧ a.Kind = b.Kind ∧ a.W = b.W ∧ a.H = b.H ∧ a.Pad = b.Pad ∧ a.Gap = b.Gap ∧ a.Grow = b.Grow ∧ a.Shrink = b.Shrink ∧ a.Justify = b.Justify) BoxD.eq_iff.symm
instance : Inhabited BoxD := ⟨⟨0, 0, 0, 0, 0, 0, 0, 0, 0⟩⟩

def encBox (x : BoxD) : List Value := [.int .i64 x.Parent, .int .i64 x.Kind, .int .i64 x.W, .int .i64 x.H, .int .i64 x.Pad, .int .i64 x.Gap, .int .i64 x.Grow, .int .i64 x.Shrink, .int .i64 x.Justify]
theorem encBox_len (x : BoxD) : (encBox x).length = 9 := rfl
theorem oneBox (x : BoxD) : ∀ u ∈ encBox x, u.oneCell' = true := by
  intro u hu
  simp [encBox] at hu
  rcases hu with rfl | rfl | rfl | rfl | rfl | rfl | rfl | rfl | rfl <;> rfl
theorem ocBox (x : BoxD) : ∀ u ∈ (#[.int .i64 x.Parent, .int .i64 x.Kind, .int .i64 x.W, .int .i64 x.H, .int .i64 x.Pad, .int .i64 x.Gap, .int .i64 x.Grow, .int .i64 x.Shrink, .int .i64 x.Justify] : Array Value).toList, u.oneCell' = true := oneBox x

theorem Arr.atBox {w : World} {B : Nat} {A : Option Addr} {L : List BoxD} (h : Arr w B 9 encBox A L) {i : Nat} (hi : i < L.length) :
    ∃ b off x, A = some ⟨b, off, none⟩ ∧ b < B ∧ L[i]? = some x ∧ w.cell? ⟨b, off + i * 9, none⟩ = some (.int .i64 x.Parent) ∧ w.cell? ⟨b, off + i * 9 + 1, none⟩ = some (.int .i64 x.Kind) ∧ w.cell? ⟨b, off + i * 9 + 2, none⟩ = some (.int .i64 x.W) ∧ w.cell? ⟨b, off + i * 9 + 3, none⟩ = some (.int .i64 x.H) ∧ w.cell? ⟨b, off + i * 9 + 4, none⟩ = some (.int .i64 x.Pad) ∧ w.cell? ⟨b, off + i * 9 + 5, none⟩ = some (.int .i64 x.Gap) ∧ w.cell? ⟨b, off + i * 9 + 6, none⟩ = some (.int .i64 x.Grow) ∧ w.cell? ⟨b, off + i * 9 + 7, none⟩ = some (.int .i64 x.Shrink) ∧ w.cell? ⟨b, off + i * 9 + 8, none⟩ = some (.int .i64 x.Justify) := by
  obtain ⟨b, off, e, hb, hc⟩ := h.at_ (List.getElem?_eq_getElem hi)
  exact ⟨b, off, _, e, hb, List.getElem?_eq_getElem hi, by simpa using hc 0 _ rfl, by simpa using hc 1 _ rfl, by simpa using hc 2 _ rfl, by simpa using hc 3 _ rfl, by simpa using hc 4 _ rfl, by simpa using hc 5 _ rfl, by simpa using hc 6 _ rfl, by simpa using hc 7 _ rfl, by simpa using hc 8 _ rfl⟩
theorem Arr.litBox {w : World} {B b off : Nat} {L : List BoxD} (h : Arr w B 9 encBox (some ⟨b, off, none⟩) L) {i : Nat} (hi : i < L.length) :
    ∃ x, L[i]? = some x ∧ b < B ∧ w.cell? ⟨b, off + i * 9, none⟩ = some (.int .i64 x.Parent) ∧ w.cell? ⟨b, off + i * 9 + 1, none⟩ = some (.int .i64 x.Kind) ∧ w.cell? ⟨b, off + i * 9 + 2, none⟩ = some (.int .i64 x.W) ∧ w.cell? ⟨b, off + i * 9 + 3, none⟩ = some (.int .i64 x.H) ∧ w.cell? ⟨b, off + i * 9 + 4, none⟩ = some (.int .i64 x.Pad) ∧ w.cell? ⟨b, off + i * 9 + 5, none⟩ = some (.int .i64 x.Gap) ∧ w.cell? ⟨b, off + i * 9 + 6, none⟩ = some (.int .i64 x.Grow) ∧ w.cell? ⟨b, off + i * 9 + 7, none⟩ = some (.int .i64 x.Shrink) ∧ w.cell? ⟨b, off + i * 9 + 8, none⟩ = some (.int .i64 x.Justify) := by
  obtain ⟨b', off', x, e, hb, h1, h2⟩ := h.atBox hi
  injection e with e
  injection e with e1 e2
  subst e1 e2
  exact ⟨x, h1, hb, h2⟩

theorem own_setBox {w : World} {base g i : Nat} {L : List BoxD} {p : BoxD} (h : OwnA w base 9 encBox (some ⟨g, 0, none⟩) L) (hy : L[i]? = some p) (x : BoxD) :
    OwnA (((((((((w.setCell ⟨g, i * 9, none⟩ (.int .i64 x.Parent)).setCell ⟨g, i * 9 + 1, none⟩ (.int .i64 x.Kind)).setCell ⟨g, i * 9 + 2, none⟩ (.int .i64 x.W)).setCell ⟨g, i * 9 + 3, none⟩ (.int .i64 x.H)).setCell ⟨g, i * 9 + 4, none⟩ (.int .i64 x.Pad)).setCell ⟨g, i * 9 + 5, none⟩ (.int .i64 x.Gap)).setCell ⟨g, i * 9 + 6, none⟩ (.int .i64 x.Grow)).setCell ⟨g, i * 9 + 7, none⟩ (.int .i64 x.Shrink)).setCell ⟨g, i * 9 + 8, none⟩ (.int .i64 x.Justify)) base 9 encBox (some ⟨g, 0, none⟩) (L.set i x) := by
  have hi := (List.getElem?_eq_some_iff.1 hy).1
  have h0 := h.set_ (k := 9) (fun _ => rfl) (j := 0) (y' := (⟨x.Parent, p.Kind, p.W, p.H, p.Pad, p.Gap, p.Grow, p.Shrink, p.Justify⟩ : BoxD)) (v := .int .i64 x.Parent) hy (by omega) rfl
  have h1 := h0.set_ (k := 9) (fun _ => rfl) (j := 1) (y' := (⟨x.Parent, x.Kind, p.W, p.H, p.Pad, p.Gap, p.Grow, p.Shrink, p.Justify⟩ : BoxD)) (v := .int .i64 x.Kind) (List.getElem?_set_self (by simpa using hi)) (by omega) rfl
  have h2 := h1.set_ (k := 9) (fun _ => rfl) (j := 2) (y' := (⟨x.Parent, x.Kind, x.W, p.H, p.Pad, p.Gap, p.Grow, p.Shrink, p.Justify⟩ : BoxD)) (v := .int .i64 x.W) (List.getElem?_set_self (by simpa using hi)) (by omega) rfl
  have h3 := h2.set_ (k := 9) (fun _ => rfl) (j := 3) (y' := (⟨x.Parent, x.Kind, x.W, x.H, p.Pad, p.Gap, p.Grow, p.Shrink, p.Justify⟩ : BoxD)) (v := .int .i64 x.H) (List.getElem?_set_self (by simpa using hi)) (by omega) rfl
  have h4 := h3.set_ (k := 9) (fun _ => rfl) (j := 4) (y' := (⟨x.Parent, x.Kind, x.W, x.H, x.Pad, p.Gap, p.Grow, p.Shrink, p.Justify⟩ : BoxD)) (v := .int .i64 x.Pad) (List.getElem?_set_self (by simpa using hi)) (by omega) rfl
  have h5 := h4.set_ (k := 9) (fun _ => rfl) (j := 5) (y' := (⟨x.Parent, x.Kind, x.W, x.H, x.Pad, x.Gap, p.Grow, p.Shrink, p.Justify⟩ : BoxD)) (v := .int .i64 x.Gap) (List.getElem?_set_self (by simpa using hi)) (by omega) rfl
  have h6 := h5.set_ (k := 9) (fun _ => rfl) (j := 6) (y' := (⟨x.Parent, x.Kind, x.W, x.H, x.Pad, x.Gap, x.Grow, p.Shrink, p.Justify⟩ : BoxD)) (v := .int .i64 x.Grow) (List.getElem?_set_self (by simpa using hi)) (by omega) rfl
  have h7 := h6.set_ (k := 9) (fun _ => rfl) (j := 7) (y' := (⟨x.Parent, x.Kind, x.W, x.H, x.Pad, x.Gap, x.Grow, x.Shrink, p.Justify⟩ : BoxD)) (v := .int .i64 x.Shrink) (List.getElem?_set_self (by simpa using hi)) (by omega) rfl
  have h8 := h7.set_ (k := 9) (fun _ => rfl) (j := 8) (y' := (⟨x.Parent, x.Kind, x.W, x.H, x.Pad, x.Gap, x.Grow, x.Shrink, x.Justify⟩ : BoxD)) (v := .int .i64 x.Justify) (List.getElem?_set_self (by simpa using hi)) (by omega) rfl
  simp only [List.set_set] at h8
  simpa using h8

/-- n marked structures, from m on. -/
def marksBox (m : Int) (n : Nat) : List BoxD := (List.range n).map fun i : Nat => ⟨m + 9 * (i : Int), m + 9 * (i : Int) + 1, m + 9 * (i : Int) + 2, m + 9 * (i : Int) + 3, m + 9 * (i : Int) + 4, m + 9 * (i : Int) + 5, m + 9 * (i : Int) + 6, m + 9 * (i : Int) + 7, m + 9 * (i : Int) + 8⟩
theorem marksBox_len (m : Int) (n : Nat) : (marksBox m n).length = n := by simp [marksBox]
theorem marksBox_at {m : Int} {n i : Nat} (h : i < n) : (marksBox m n)[i]? = some (⟨m + 9 * (i : Int), m + 9 * (i : Int) + 1, m + 9 * (i : Int) + 2, m + 9 * (i : Int) + 3, m + 9 * (i : Int) + 4, m + 9 * (i : Int) + 5, m + 9 * (i : Int) + 6, m + 9 * (i : Int) + 7, m + 9 * (i : Int) + 8⟩ : BoxD) := by simp [marksBox, h]
end Go.Proofs.YtimpieddkkkgfaaDoor
