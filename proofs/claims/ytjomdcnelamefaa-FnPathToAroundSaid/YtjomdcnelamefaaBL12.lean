/- FnPathToAround: the walk. Written by a program of ours. -/
import Derived.Test.YtjomdcnelamefaaB19
namespace Go.Proofs.Ytjomdcnelamefaa
set_option linter.unusedVariables false
set_option linter.unusedSimpArgs false
open Go.RowKit Go.Lib

set_option maxRecDepth 100000 in
set_option maxHeartbeats 4000000 in
theorem fnPathToAround_any (A : Option Addr) (cap : Nat) (bs : List Int) (w : World) (h : Code w A cap bs) :
    Calls Try.prog 3 #[.slice A bs.length cap] w (Yes w) := by
  have hcap := h.cap1
  have hcap2 := h.cap2
  by_cases hbig : 1048576 < bs.length
  · clear h
    go_enter Try.func3, Try.ntmps3
    go_wp2
    go_ret
    exact ⟨rfl, Below.refl _ _⟩
  · have hd := drawPathTo_any A cap bs w h
    clear h
    go_enter Try.func3, Try.ntmps3
    go_wp2_with fail
    refine hd.mono ?_
    rintro e w1 ⟨A1, c1, T, x, rfl, hx, hl, hc1, hc2, ha, b1⟩
    have H1 := hid ha
    have B1 := hid b1
    have hl2 : T.length ≤ 1048576 := by omega
    clear ha b1 hd
    cases hat : atIn T x
    · have HV := hid (pathV_out hat)
      clear hat
      go_wp2_with fail
      refine (pathTo_eq hl2 H1.out HV.out rfl).mono ?_
      rintro e w2 ⟨lA, lc, rfl, lh1, lh2, ar, b⟩
      have B2 := hid (chain B1.out b)
      have H2 := hid (H1.out.next b)
      have lR := hid ar
      clear b ar
      go_wp2_with fail
      refine (pathToS_eq hl2 H2.out HV.out rfl).mono ?_
      rintro e w3 ⟨sA, sc, rfl, sh1, sh2, ar, b⟩
      have B3 := hid (chain B2.out b)
      have H3 := hid (H2.out.next b)
      have sR := hid ar
      have lR := hid (lR.out.next b)
      clear b ar
      go_wp2_with fail
      refine (equalInts_n _ _ _ _ _ _ _ _ rfl rfl (by decide) lR.out sR.out).mono ?_
      rintro e w4 ⟨rfl, b⟩
      have B4 := hid (chain B3.out b)
      have H4 := hid (H3.out.next b)
      have lR := hid (lR.out.next b)
      clear b
      go_wp2_with fail
      refine (pathToS_eq hl2 H4.out HV.out rfl).mono ?_
      rintro e w5 ⟨tA, tc, rfl, th1, th2, ar, b⟩
      have B5 := hid (chain B4.out b)
      have H5 := hid (H4.out.next b)
      have tR := hid ar
      have lR := hid (lR.out.next b)
      clear b ar
      go_wp2_with fail
      refine (equalInts_n _ _ _ _ _ _ _ _ rfl rfl (by decide) lR.out tR.out).mono ?_
      rintro e w6 ⟨rfl, b⟩
      have B6 := hid (chain B5.out b)
      have H6 := hid (H5.out.next b)
      clear b
      go_wp2_with fail
      go_ret
      exact ⟨rfl, B6.out⟩
    · obtain ⟨k, rfl, hk, v⟩ := atIn_nat hat
      have HP := hid (pathV_in v hk)
      obtain ⟨m, hm⟩ : ∃ m, (asI (pathOf T k)).length = m := ⟨_, rfl⟩
      have HN := hid hm
      have hmp : 0 < m := by have := path_pos T k; rw [asI_len] at hm; omega
      have hm6 : m ≤ 6 := by have := v.dep k hk; rw [asI_len, path_len] at hm; omega
      have hmb : ((m : Int) == 0) = false := by rw [beq_eq_false_iff_ne]; omega
      have VV := hid v
      clear hat hm v
      go_wp2_with fail
      refine (pathTo_eq hl2 H1.out HP.out HN.out).mono ?_
      rintro e w2 ⟨lA, lc, rfl, lh1, lh2, ar, b⟩
      have B2 := hid (chain B1.out b)
      have H2 := hid (H1.out.next b)
      have lR := hid ar
      clear b ar
      go_wp2_with fail
      refine (pathToS_eq hl2 H2.out HP.out HN.out).mono ?_
      rintro e w3 ⟨sA, sc, rfl, sh1, sh2, ar, b⟩
      have B3 := hid (chain B2.out b)
      have H3 := hid (H2.out.next b)
      have sR := hid ar
      have lR := hid (lR.out.next b)
      clear b ar
      go_wp2_with fail
      refine (equalInts_n _ _ _ _ _ _ _ _ HN.out HN.out (by omega) lR.out sR.out).mono ?_
      rintro e w4 ⟨rfl, b⟩
      have B4 := hid (chain B3.out b)
      have H4 := hid (H3.out.next b)
      have lR := hid (lR.out.next b)
      clear b
      go_wp2_with fail
      go_loopg [6] T.length (fun gg s6 wr => ∃ i : Nat, i ≤ T.length ∧ T.length - i ≤ gg ∧ s6 = .int .i64 i ∧ Aside (Below w4.heap.size w4 wr))
      case atStart => exact ⟨0, Nat.zero_le _, by omega, rfl, Below.refl _ _⟩
      case round =>
        obtain ⟨i, hi, hgg, rfl, R⟩ := hrel
        have HW := hid (H4.out.next R.out)
        have LW := hid (lR.out.next R.out)
        have BW := hid (chain B4.out R.out)
        by_cases hlt : i < T.length
        · obtain ⟨r, hr⟩ : ∃ r, aroundB T i k = r := ⟨_, rfl⟩
          have HA := hid (show aroundV T (i : Int) (k : Int) = r by rw [aroundV_in VV.out hlt hk]; exact hr)
          have HC := hid (show (asI (pathOf T k)).contains (i : Int) = r by rw [← hr, Bool.eq_iff_iff, List.contains_iff_mem, asI_mem, mem_path, aroundB_iff])
          clear hr
          have hrr : (r != r) = false := by simp
          go_wp2_with fail
          refine (isAround_eq hl2 HW.out HA.out).mono ?_
          rintro e w8 ⟨rfl, b8⟩
          have R8 := hid (chain R.out b8)
          have L8 := hid (LW.out.next b8)
          clear b8
          go_wp2_with fail
          refine (isIn_n HN.out (by omega) L8.out HC.out).mono ?_
          rintro e w9 ⟨rfl, b9⟩
          have R9 := hid (chain R8.out b9)
          clear b9
          go_wp2_with fail
          go_roundg (T.length - (i + 1))
          case measure => omega
          case rel => exact ⟨i + 1, by omega, by omega, by go_num, R9.out⟩
        · obtain rfl : i = T.length := by omega
          go_wp2_with fail
          go_ret
          exact ⟨rfl, BW.out⟩

#print axioms fnPathToAround_any
end Go.Proofs.Ytjomdcnelamefaa
