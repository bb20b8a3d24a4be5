/- FnCountInAround: the walk. Written by a program of ours. -/
import Derived.Test.YtpahljbcffmaaaaB19
namespace Go.Proofs.Ytpahljbcffmaaaa
set_option linter.unusedVariables false
open Go.RowKit Go.Lib

set_option maxRecDepth 100000 in
set_option maxHeartbeats 4000000 in
theorem fnCountInAround_any (A : Option Addr) (cap : Nat) (bs : List Int) (w : World) (h : Code w A cap bs) :
    Calls Try.prog 10 #[.slice A bs.length cap] w (Yes w) := by
  have hcap := h.cap1
  have hcap2 := h.cap2
  by_cases hbig : 1048576 < bs.length
  · clear h
    go_enter Try.func10, Try.ntmps10
    go_wp2
    go_ret
    exact ⟨rfl, Below.refl _ _⟩
  · have hd := drawCountIn_any A cap bs w h
    clear h
    go_enter Try.func10, Try.ntmps10
    go_wp2_with fail
    refine hd.mono ?_
    rintro e w1 ⟨A1, c1, T, x, rfl, hx, hl, hc1, hc2, ha, b1⟩
    have H1 := hid ha
    have B1 := hid b1
    have hl2 : T.length ≤ 1048576 := by omega
    clear ha b1 hd
    cases hat : atIn T x
    · have HV := hid (countV_out hat)
      clear hat
      go_wp2_with fail
      refine (countIn_eq hl2 H1.out HV.out).mono ?_
      rintro e w2 ⟨rfl, b⟩
      have B2 := hid (chain B1.out b)
      have H2 := hid (H1.out.next b)
      clear b
      go_wp2_with fail
      refine (countInS_eq hl2 H2.out HV.out).mono ?_
      rintro e w3 ⟨rfl, b⟩
      have B3 := hid (chain B2.out b)
      have H3 := hid (H2.out.next b)
      clear b
      go_wp2_with fail
      refine (countInS_eq hl2 H3.out HV.out).mono ?_
      rintro e w4 ⟨rfl, b⟩
      have B4 := hid (chain B3.out b)
      have H4 := hid (H3.out.next b)
      clear b
      go_wp2_with fail
      go_ret
      exact ⟨rfl, B4.out⟩
    · obtain ⟨k, rfl, hk, v⟩ := atIn_nat hat
      obtain ⟨cn, hcn⟩ : ∃ c, countN T T.length k = c := ⟨_, rfl⟩
      have hcp := count_pos v.ord hk
      rw [hcn] at hcp
      have HV := hid (show countV T (k : Int) = (cn : Int) by rw [countV_in v hk, hcn])
      have VV := hid v
      have HCI := hid (fun j (hj : j < T.length) => count_iff v.ord hk hj)
      rw [hcn] at HCI
      have hcn16 : cn ≤ 16 := by omega
      have w1 : IntKind.i64.wrap ((k : Int) + (cn : Int)) = ((k + cn : Nat) : Int) := by rw [IntWalk.i64_in _ (by omega)]; rfl
      clear hat hcn v hcp
      go_wp2_with fail
      refine (countIn_eq hl2 H1.out HV.out).mono ?_
      rintro e w2 ⟨rfl, b⟩
      have B2 := hid (chain B1.out b)
      have H2 := hid (H1.out.next b)
      clear b
      go_wp2_with fail
      refine (countInS_eq hl2 H2.out HV.out).mono ?_
      rintro e w3 ⟨rfl, b⟩
      have B3 := hid (chain B2.out b)
      have H3 := hid (H2.out.next b)
      clear b
      go_wp2_with fail
      go_loopg [6] T.length (fun gg s6 wr => ∃ i : Nat, i ≤ T.length ∧ T.length - i ≤ gg ∧ s6 = .int .i64 i ∧ Aside (Below w3.heap.size w3 wr))
      case atStart => exact ⟨0, Nat.zero_le _, by omega, rfl, Below.refl _ _⟩
      case round =>
        obtain ⟨i, hi, hgg, rfl, R⟩ := hrel
        have HW := hid (H3.out.next R.out)
        have BW := hid (chain B3.out R.out)
        by_cases hlt : i < T.length
        · have hci := HCI.out i hlt
          by_cases c1 : k ≤ i
          · by_cases c2 : i < k + cn
            · have HA := hid (show aroundV T (k : Int) (i : Int) = true by rw [aroundV_in VV.out hk hlt]; exact aroundB_iff.2 (hci.2 ⟨c1, c2⟩))
              clear hci
              go_wp2_with fail
              refine (isAround_eq hl2 HW.out HA.out).mono ?_
              rintro e w9 ⟨rfl, b9⟩
              have R9 := hid (chain R.out b9)
              clear b9
              have c3 : (k : Int) ≤ (i : Int) := by omega
              have c4 : ((i : Int) < ((k + cn : Nat) : Int)) := by omega
              have c5 : (i : Int) < (k : Int) + (cn : Int) := by omega
              go_wp2_with fail
              go_roundg (T.length - (i + 1))
              case measure => omega
              case rel => exact ⟨i + 1, by omega, by omega, by go_num, R9.out⟩
            · have HA := hid (show aroundV T (k : Int) (i : Int) = false by rw [aroundV_in VV.out hk hlt]; rw [Bool.eq_false_iff]; intro h; exact c2 (hci.1 (aroundB_iff.1 h)).2)
              clear hci
              go_wp2_with fail
              refine (isAround_eq hl2 HW.out HA.out).mono ?_
              rintro e w9 ⟨rfl, b9⟩
              have R9 := hid (chain R.out b9)
              clear b9
              have c3 : (k : Int) ≤ (i : Int) := by omega
              have c4 : ¬ ((i : Int) < ((k + cn : Nat) : Int)) := by omega
              have c5 : (k : Int) + (cn : Int) ≤ (i : Int) := by omega
              go_wp2_with fail
              go_roundg (T.length - (i + 1))
              case measure => omega
              case rel => exact ⟨i + 1, by omega, by omega, by go_num, R9.out⟩
          · have HA := hid (show aroundV T (k : Int) (i : Int) = false by rw [aroundV_in VV.out hk hlt]; rw [Bool.eq_false_iff]; intro h; exact c1 (hci.1 (aroundB_iff.1 h)).1)
            clear hci
            go_wp2_with fail
            refine (isAround_eq hl2 HW.out HA.out).mono ?_
            rintro e w9 ⟨rfl, b9⟩
            have R9 := hid (chain R.out b9)
            clear b9
            have c3 : ¬ ((k : Int) ≤ (i : Int)) := by omega
            go_wp2_with fail
            go_roundg (T.length - (i + 1))
            case measure => omega
            case rel => exact ⟨i + 1, by omega, by omega, by go_num, R9.out⟩
        · obtain rfl : i = T.length := by omega
          go_wp2_with fail
          go_ret
          exact ⟨rfl, BW.out⟩

#print axioms fnCountInAround_any
end Go.Proofs.Ytpahljbcffmaaaa
