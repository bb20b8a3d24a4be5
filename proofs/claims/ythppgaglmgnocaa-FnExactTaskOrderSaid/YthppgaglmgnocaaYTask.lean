/- The exact laws' look at marked lists of impl.Task. Written by a program of ours. -/
import Derived.Test.YthppgaglmgnocaaXTask
namespace Go.Proofs.Ythppgaglmgnocaa
open Go.RowKit Go.Lib

set_option maxHeartbeats 2000000 in
theorem heldTaskS_any (A : Option Addr) (n c : Nat) (w : World) (hL : n ≤ 1048576) (h : Arr w w.heap.size 3 encTask A (marksTask 1 n)) :
    Calls Try.prog 25 #[.slice A n c, .int .i64 1] w fun e w' => e = .returned (.int .i64 (1 + 3 * (n : Int))) ∧ w = w' := by
  have H := hid h
  clear h
  go_enter Try.func25, Try.ntmps25
  go_wp2
  go_loop [1, 5] (fun s1 s5 => ∃ i : Nat, i ≤ n ∧ s5 = .int .i64 i ∧ s1 = .int .i64 (1 + 3 * (i : Int))) (fun _ s5 => n - (intOf s5).toNat)
  case atStart => exact ⟨0, Nat.zero_le _, rfl, rfl⟩
  case round =>
    obtain ⟨i, hi, rfl, rfl⟩ := hrel
    by_cases hlt : i < n
    · obtain ⟨b, off, x, rfl, hb, hx, c0, c1, c2⟩ := H.out.atTask (show i < (marksTask 1 n).length by rw [marksTask_len]; exact hlt)
      rw [marksTask_at hlt] at hx
      injection hx with hx
      subst hx
      go_wp2
      go_round
      case measure => simp [intOf]; omega
      case rel => exact ⟨i + 1, by omega, by go_num, by go_num⟩
    · have : i = n := by omega
      subst this
      go_wp2
      go_ret
      exact ⟨rfl, rfl⟩
end Go.Proofs.Ythppgaglmgnocaa
