/- Task: the Lean structure of Go's impl.Task, its cells. No program is named here. Written by a program of ours. -/
import Derived.Test.YthppgaglmgnocaaBase
namespace Go.Proofs.Ythppgaglmgnocaa
set_option linter.unusedVariables false
set_option linter.unusedSimpArgs false
open Go.RowKit

structure TaskD where
  Id : Int
  Rank : Int
  Age : Int
theorem TaskD.eq_iff {a b : TaskD} : a = b ↔ a.Id = b.Id ∧ a.Rank = b.Rank ∧ a.Age = b.Age := by
  cases a; cases b; simp
instance : DecidableEq TaskD := fun a b => decidable_of_iff (a.Id = b.Id ∧ a.Rank = b.Rank ∧ a.Age = b.Age) TaskD.eq_iff.symm
instance : Inhabited TaskD := ⟨⟨0, 0, 0⟩⟩

def encTask (x : TaskD) : List Value := [.int .i64 x.Id, .int .i64 x.Rank, .int .i64 x.Age]
theorem encTask_len (x : TaskD) : (encTask x).length = 3 := rfl
theorem oneTask (x : TaskD) : ∀ u ∈ encTask x, u.oneCell' = true := by
  intro u hu
  simp [encTask] at hu
  rcases hu with rfl | rfl | rfl <;> rfl
theorem ocTask (x : TaskD) : ∀ u ∈ (#[.int .i64 x.Id, .int .i64 x.Rank, .int .i64 x.Age] : Array Value).toList, u.oneCell' = true := oneTask x

theorem Arr.atTask {w : World} {B : Nat} {A : Option Addr} {L : List TaskD} (h : Arr w B 3 encTask A L) {i : Nat} (hi : i < L.length) :
    ∃ b off x, A = some ⟨b, off, none⟩ ∧ b < B ∧ L[i]? = some x ∧ w.cell? ⟨b, off + i * 3, none⟩ = some (.int .i64 x.Id) ∧ w.cell? ⟨b, off + i * 3 + 1, none⟩ = some (.int .i64 x.Rank) ∧ w.cell? ⟨b, off + i * 3 + 2, none⟩ = some (.int .i64 x.Age) := by
  obtain ⟨b, off, e, hb, hc⟩ := h.at_ (List.getElem?_eq_getElem hi)
  exact ⟨b, off, _, e, hb, List.getElem?_eq_getElem hi, by simpa using hc 0 _ rfl, by simpa using hc 1 _ rfl, by simpa using hc 2 _ rfl⟩
theorem Arr.litTask {w : World} {B b off : Nat} {L : List TaskD} (h : Arr w B 3 encTask (some ⟨b, off, none⟩) L) {i : Nat} (hi : i < L.length) :
    ∃ x, L[i]? = some x ∧ b < B ∧ w.cell? ⟨b, off + i * 3, none⟩ = some (.int .i64 x.Id) ∧ w.cell? ⟨b, off + i * 3 + 1, none⟩ = some (.int .i64 x.Rank) ∧ w.cell? ⟨b, off + i * 3 + 2, none⟩ = some (.int .i64 x.Age) := by
  obtain ⟨b', off', x, e, hb, h1, h2⟩ := h.atTask hi
  injection e with e
  injection e with e1 e2
  subst e1 e2
  exact ⟨x, h1, hb, h2⟩

theorem own_setTask {w : World} {base g i : Nat} {L : List TaskD} {p : TaskD} (h : OwnA w base 3 encTask (some ⟨g, 0, none⟩) L) (hy : L[i]? = some p) (x : TaskD) :
    OwnA (((w.setCell ⟨g, i * 3, none⟩ (.int .i64 x.Id)).setCell ⟨g, i * 3 + 1, none⟩ (.int .i64 x.Rank)).setCell ⟨g, i * 3 + 2, none⟩ (.int .i64 x.Age)) base 3 encTask (some ⟨g, 0, none⟩) (L.set i x) := by
  have hi := (List.getElem?_eq_some_iff.1 hy).1
  have h0 := h.set_ (k := 3) (fun _ => rfl) (j := 0) (y' := (⟨x.Id, p.Rank, p.Age⟩ : TaskD)) (v := .int .i64 x.Id) hy (by omega) rfl
  have h1 := h0.set_ (k := 3) (fun _ => rfl) (j := 1) (y' := (⟨x.Id, x.Rank, p.Age⟩ : TaskD)) (v := .int .i64 x.Rank) (List.getElem?_set_self (by simpa using hi)) (by omega) rfl
  have h2 := h1.set_ (k := 3) (fun _ => rfl) (j := 2) (y' := (⟨x.Id, x.Rank, x.Age⟩ : TaskD)) (v := .int .i64 x.Age) (List.getElem?_set_self (by simpa using hi)) (by omega) rfl
  simp only [List.set_set] at h2
  simpa using h2

/-- n marked structures, from m on. -/
def marksTask (m : Int) (n : Nat) : List TaskD := (List.range n).map fun i : Nat => ⟨m + 3 * (i : Int), m + 3 * (i : Int) + 1, m + 3 * (i : Int) + 2⟩
theorem marksTask_len (m : Int) (n : Nat) : (marksTask m n).length = n := by simp [marksTask]
theorem marksTask_at {m : Int} {n i : Nat} (h : i < n) : (marksTask m n)[i]? = some (⟨m + 3 * (i : Int), m + 3 * (i : Int) + 1, m + 3 * (i : Int) + 2⟩ : TaskD) := by simp [marksTask, h]
end Go.Proofs.Ythppgaglmgnocaa
