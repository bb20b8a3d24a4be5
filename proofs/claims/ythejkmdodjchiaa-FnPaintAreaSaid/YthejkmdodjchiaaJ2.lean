/- impl.JoinPaint: the closure. -/
import Derived.Test.YthejkmdodjchiaaJ1
import Derived.Test.YthejkmdodjchiaaN3
import Derived.Test.YthejkmdodjchiaaRJ
namespace Go.Proofs.Ythejkmdodjchiaa
set_option linter.unusedVariables false
set_option linter.unusedSimpArgs false
open Go.RowKit Go.Lib

theorem cells4j {w' : World} {g : Nat} {v0 v1 v2 v3 : Value} {e : TypeId} (h1 : w'.heap[g]? = some (.cells #[v0, v1, v2, v3] e (0, 0))) :
    (w'.cell? ⟨g, 0, none⟩ = some v0 ∧ w'.cell? ⟨g, 1, none⟩ = some v1 ∧ w'.cell? ⟨g, 2, none⟩ = some v2 ∧ w'.cell? ⟨g, 3, none⟩ = some v3) ∧ (w'.frozen? ⟨g, 0, none⟩ = false ∧ w'.frozen? ⟨g, 1, none⟩ = false ∧ w'.frozen? ⟨g, 2, none⟩ = false ∧ w'.frozen? ⟨g, 3, none⟩ = false) := by
  have hf : ∀ o, w'.frozen? ⟨g, o, none⟩ = false := fun o => frozen_of_row w' _ o _ _ h1
  refine ⟨⟨?_, ?_, ?_, ?_⟩, hf 0, hf 1, hf 2, hf 3⟩
  all_goals (rw [cell_of_row w' _ _ _ _ _ h1]; rfl)
theorem al_old {w : World} {g : Nat} {o : Obj} (h : w.heap[g]? = some o) (o' : Obj) : (w.alloc o').heap[g]? = some o :=
  (Below.heap_alloc w o' g (Array.getElem?_eq_some_iff.1 h).1).trans h

set_option maxHeartbeats 1000000 in
theorem joinPred_any (x r : RectD) (g : Nat) (w : World) (hx : validR x = true) (hr : validR r = true) (hg : w.heap[g]? = some (.cells #[.int .i64 r.X, .int .i64 r.Y, .int .i64 r.W, .int .i64 r.H] 27 (0, 0))) :
    Calls Try.prog 61 #[.agg #[.int .i64 x.X, .int .i64 x.Y, .int .i64 x.W, .int .i64 x.H], .pointer (some ⟨g, 0, none⟩)] w fun e w' => e = .returned (.bool (meetsR x r)) ∧ Below w.heap.size w w' := by
  have HC := hid (fun W => meet_any x r W hx hr)
  generalize meetR x r = q at *
  generalize meetsR x r = b at *
  have K : ∀ o, Below w.heap.size w (w.alloc o) := fun o => below_al (Below.refl _ _) rfl _
  have X := hid (al_old hg (.cells #[.int .i64 x.X, .int .i64 x.Y, .int .i64 x.W, .int .i64 x.H] 27))
  obtain ⟨⟨k0, k1, k2, k3⟩, -⟩ := cells4j X.out
  clear hx hr hg
  go_enter Try.func61, Try.ntmps61
  go_wp2_with fail
  refine (HC.out _).mono ?_
  rintro e w1 ⟨rfl, hb1⟩
  have HB := hid ((K _).trans (hb1.mono (by simp)))
  clear hb1
  go_wp2
  go_ret
  exact ⟨rfl, HB.out.alloc HB.out.size _⟩
end Go.Proofs.Ythejkmdodjchiaa
