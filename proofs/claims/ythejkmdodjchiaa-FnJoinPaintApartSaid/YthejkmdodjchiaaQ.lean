/- equalRects on equal lists. -/
import Derived.Test.YthejkmdodjchiaaProg
import Derived.Test.YthejkmdodjchiaaTRect
import Derived.Deep.QuietTactic
import Derived.BigQuiet
namespace Go.Proofs.Ythejkmdodjchiaa
set_option linter.unusedVariables false
set_option linter.unusedSimpArgs false
open Go.RowKit Go.Lib

set_option maxHeartbeats 1000000 in
theorem equalRects_same (A A' : Option Addr) (C : List RectD) (c c' : Nat) (w : World) (hL : C.length ≤ 1048576) (h : Arr w w.heap.size 4 encRect A C) (h' : Arr w w.heap.size 4 encRect A' C) :
    Calls Try.prog 39 #[.slice A C.length c, .slice A' C.length c'] w fun e w' => e = .returned (.bool true) ∧ Below w.heap.size w w' := by
  have H := hid h
  have H' := hid h'
  clear h h'
  go_enter Try.func39, Try.ntmps39
  go_wp2
  go_loopg [5] C.length (fun gg s5 wr => ∃ i : Nat, i ≤ C.length ∧ C.length - i ≤ gg ∧ s5 = .int .i64 i ∧ Aside (Below w.heap.size w wr))
  case atStart => exact ⟨0, Nat.zero_le _, by omega, rfl, Below.refl _ _⟩
  case round =>
    obtain ⟨i, hi, hg, rfl, R⟩ := hrel
    by_cases hlt : i < C.length
    · obtain ⟨b, off, x, rfl, hb, hx, c1, c2, c3, c4⟩ := (H.out.below R.out).atRect hlt
      obtain ⟨b', off', x', rfl, hb', hx', d1, d2, d3, d4⟩ := (H'.out.below R.out).atRect hlt
      have e := hx.symm.trans hx'
      injection e with e
      subst e
      clear hx hx'
      have i1 : (0 : Int) ≤ (i : Int) := by omega
      have i2 : (i : Int) < (C.length : Int) := by omega
      have e1 : (x.X == x.X) = true := by simp
      have e2 : (x.Y == x.Y) = true := by simp
      have e3 : (x.W == x.W) = true := by simp
      have e4 : (x.H == x.H) = true := by simp
      go_wp2_with fail
      go_quiet (fail)
      go_wp2
      go_roundg (C.length - (i + 1))
      case measure => omega
      case rel => exact ⟨i + 1, by omega, by omega, by go_num, Below_drewN R.out nq⟩
    · have : i = C.length := by omega
      subst this
      go_wp2
      go_ret
      exact ⟨rfl, R.out⟩
end Go.Proofs.Ythejkmdodjchiaa
