/- equalInts on equal lists; isIn. -/
import Derived.Test.YthppgaglmgnocaaProg
import Derived.Test.YthppgaglmgnocaaBase
import Derived.Deep.QuietTactic
import Derived.BigQuiet
namespace Go.Proofs.Ythppgaglmgnocaa
set_option linter.unusedVariables false
set_option linter.unusedSimpArgs false
open Go.RowKit Go.Lib

set_option maxHeartbeats 1000000 in
theorem equalInts_same (A A' : Option Addr) (C : List Int) (c c' : Nat) (w : World) (hL : C.length ≤ 1048576) (h : Arr w w.heap.size 1 encI A C) (h' : Arr w w.heap.size 1 encI A' C) :
    Calls Try.prog 29 #[.slice A C.length c, .slice A' C.length c'] w fun e w' => e = .returned (.bool true) ∧ Below w.heap.size w w' := by
  have H := hid h
  have H' := hid h'
  clear h h'
  go_enter Try.func29, Try.ntmps29
  go_wp2
  go_loopg [5] C.length (fun gg s5 wr => ∃ i : Nat, i ≤ C.length ∧ C.length - i ≤ gg ∧ s5 = .int .i64 i ∧ Aside (Below w.heap.size w wr))
  case atStart => exact ⟨0, Nat.zero_le _, by omega, rfl, Below.refl _ _⟩
  case round =>
    obtain ⟨i, hi, hg, rfl, R⟩ := hrel
    by_cases hlt : i < C.length
    · obtain ⟨b, off, x, rfl, hb, hx, c1⟩ := (H.out.below R.out).at1 hlt
      obtain ⟨b', off', x', rfl, hb', hx', c1'⟩ := (H'.out.below R.out).at1 hlt
      have e := hx.symm.trans hx'
      injection e with e
      subst e
      clear hx hx'
      have i1 : (0 : Int) ≤ (i : Int) := by omega
      have i2 : (i : Int) < (C.length : Int) := by omega
      go_wp2_with fail
      go_quiet (fail)
      go_wp2
      go_roundg (C.length - (i + 1))
      case measure => omega
      case rel => exact ⟨i + 1, by omega, by omega, by go_num, Below_drewN R.out nq⟩
    · have : i = C.length := by omega
      subst this
      go_wp2
      go_ret
      exact ⟨rfl, R.out⟩


set_option maxHeartbeats 1000000 in
theorem isIn_any (A : Option Addr) (C : List Int) (c : Nat) (x : Int) (w : World) (hL : C.length ≤ 1048576) (h : Arr w w.heap.size 1 encI A C) :
    Calls Try.prog 34 #[.slice A C.length c, .int .i64 x] w fun e w' => e = .returned (.bool (C.contains x)) ∧ w = w' := by
  have H := hid h
  have hq : ∀ (r : Bool), (r = true ↔ x ∈ C) → C.contains x = r := fun r hr => by rw [Bool.eq_iff_iff, List.contains_iff_mem, hr]
  have HQ := hid hq
  clear h hq
  generalize C.contains x = q at *
  go_enter Try.func34, Try.ntmps34
  go_wp2
  go_loop [5] (fun s5 => ∃ kk : Nat, kk ≤ C.length ∧ s5 = .int .i64 kk ∧ Aside (∀ j, j < kk → C[j]? ≠ some x)) (fun s5 => C.length - (intOf s5).toNat)
  case atStart => exact ⟨0, Nat.zero_le _, rfl, fun j hj => absurd hj (Nat.not_lt_zero _)⟩
  case round =>
    obtain ⟨kk, hkk, rfl, N⟩ := hrel
    by_cases hlt : kk < C.length
    · obtain ⟨b, off, y, rfl, hb, hy, c1⟩ := H.out.at1 hlt
      have HY := hid hy
      clear hy
      by_cases hxy : y = x
      · subst hxy
        have hres := HQ.out true (by simp only [true_iff]; exact List.mem_of_getElem? HY.out)
        subst hres
        clear HQ
        go_wp2
        go_ret
        exact ⟨rfl, rfl⟩
      · have hne : (y == x) = false := by rw [beq_eq_false_iff_ne]; exact hxy
        have HNE := hid hxy
        clear hxy
        go_wp2
        go_round
        case measure => simp [intOf]; omega
        case rel =>
          refine ⟨kk + 1, by omega, by go_num, (show Aside _ from fun j hj => ?_)⟩
          by_cases e : j = kk
          · subst e
            rw [HY.out]
            intro e
            injection e with e
            exact HNE.out e
          · exact N.out j (by omega)
    · have hk : kk = C.length := by omega
      subst hk
      have hres := HQ.out false (by
        constructor
        · intro h; cases h
        · intro h
          obtain ⟨j, hj⟩ := List.mem_iff_getElem?.1 h
          exact absurd hj (N.out j (List.getElem?_eq_some_iff.1 hj).1))
      subst hres
      clear HQ
      go_wp2
      go_ret
      exact ⟨rfl, rfl⟩
end Go.Proofs.Ythppgaglmgnocaa
