/- The exact laws' look at marked lists of impl.Rect. Written by a program of ours. -/
import Derived.Test.YthejkmdodjchiaaXRect
namespace Go.Proofs.Ythejkmdodjchiaa
set_option linter.unusedVariables false
set_option linter.unusedSimpArgs false
open Go.RowKit Go.Lib

set_option maxHeartbeats 2000000 in
theorem heldRectS_any (A : Option Addr) (n c : Nat) (w : World) (hL : n ≤ 1048576) (h : Arr w w.heap.size 4 encRect A (marksRect 1 n)) :
    Calls Try.prog 40 #[.slice A n c, .int .i64 1] w fun e w' => e = .returned (.int .i64 (1 + 4 * (n : Int))) ∧ w = w' := by
  have H := hid h
  clear h
  go_enter Try.func40, Try.ntmps40
  go_wp2
  go_loop [1, 5] (fun s1 s5 => ∃ i : Nat, i ≤ n ∧ s5 = .int .i64 i ∧ s1 = .int .i64 (1 + 4 * (i : Int))) (fun _ s5 => n - (intOf s5).toNat)
  case atStart => exact ⟨0, Nat.zero_le _, rfl, rfl⟩
  case round =>
    obtain ⟨i, hi, rfl, rfl⟩ := hrel
    by_cases hlt : i < n
    · obtain ⟨b, off, x, rfl, hb, hx, c0, c1, c2, c3⟩ := H.out.atRect (show i < (marksRect 1 n).length by rw [marksRect_len]; exact hlt)
      rw [marksRect_at hlt] at hx
      injection hx with hx
      subst hx
      go_wp2
      go_round
      case measure => simp [intOf]; omega
      case rel => exact ⟨i + 1, by omega, by go_num, by go_num⟩
    · have : i = n := by omega
      subst this
      go_wp2
      go_ret
      exact ⟨rfl, rfl⟩
end Go.Proofs.Ythejkmdodjchiaa
