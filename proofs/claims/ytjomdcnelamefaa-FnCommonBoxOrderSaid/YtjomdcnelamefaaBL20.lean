/- FnCommonBoxOrder: the walk. Written by a program of ours. -/
import Derived.Test.YtjomdcnelamefaaB19
namespace Go.Proofs.Ytjomdcnelamefaa
set_option linter.unusedVariables false
set_option linter.unusedSimpArgs false
open Go.RowKit Go.Lib

set_option maxRecDepth 100000 in
set_option maxHeartbeats 4000000 in
theorem fnCommonBoxOrder_any (A : Option Addr) (cap : Nat) (bs : List Int) (w : World) (h : Code w A cap bs) :
    Calls Try.prog 11 #[.slice A bs.length cap] w (Yes w) := by
  have hcap := h.cap1
  have hcap2 := h.cap2
  by_cases hbig : 1048576 < bs.length
  · clear h
    go_enter Try.func11, Try.ntmps11
    go_wp2
    go_ret
    exact ⟨rfl, Below.refl _ _⟩
  · have hd := drawCommonBox_any A cap bs w h
    clear h
    go_enter Try.func11, Try.ntmps11
    go_wp2_with fail
    refine hd.mono ?_
    rintro e w1 ⟨A1, c1, T, x, y, rfl, hx, hy, hl, hc1, hc2, ha, b1⟩
    have H1 := hid ha
    have B1 := hid b1
    have hl2 : T.length ≤ 1048576 := by omega
    clear ha b1 hd
    cases hat : atIn T x
    · have HV := hid (commonV_out1 (y := y) hat)
      clear hat
      go_wp2_with fail
      refine (commonBox_eq hl2 H1.out HV.out).mono ?_
      rintro e w2 ⟨rfl, b⟩
      have B2 := hid (chain B1.out b)
      have H2 := hid (H1.out.next b)
      clear b
      go_wp2_with fail
      refine (commonBoxS_eq hl2 H2.out HV.out).mono ?_
      rintro e w3 ⟨rfl, b⟩
      have B3 := hid (chain B2.out b)
      have H3 := hid (H2.out.next b)
      clear b
      go_wp2_with fail
      refine (commonBoxS_eq hl2 H3.out HV.out).mono ?_
      rintro e w4 ⟨rfl, b⟩
      have B4 := hid (chain B3.out b)
      have H4 := hid (H3.out.next b)
      clear b
      go_wp2_with fail
      go_ret
      exact ⟨rfl, B4.out⟩
    obtain ⟨a, rfl, ha, v⟩ := atIn_nat hat
    cases hin : atIn T y
    · have HV := hid (commonV_out2 (x := (a : Int)) hin)
      clear hin hat v
      go_wp2_with fail
      refine (commonBox_eq hl2 H1.out HV.out).mono ?_
      rintro e w2 ⟨rfl, b⟩
      have B2 := hid (chain B1.out b)
      have H2 := hid (H1.out.next b)
      clear b
      go_wp2_with fail
      refine (commonBoxS_eq hl2 H2.out HV.out).mono ?_
      rintro e w3 ⟨rfl, b⟩
      have B3 := hid (chain B2.out b)
      have H3 := hid (H2.out.next b)
      clear b
      go_wp2_with fail
      refine (commonBoxS_eq hl2 H3.out HV.out).mono ?_
      rintro e w4 ⟨rfl, b⟩
      have B4 := hid (chain B3.out b)
      have H4 := hid (H3.out.next b)
      clear b
      go_wp2_with fail
      go_ret
      exact ⟨rfl, B4.out⟩
    obtain ⟨b, rfl, hb, -⟩ := atIn_nat hin
    obtain ⟨K, hK⟩ : ∃ K, common T a b = K := ⟨_, rfl⟩
    have hcs := common_spec v.ord.1 ha hb
    have hKn := common_lt v.ord.1 ha hb
    rw [hK] at hcs hKn
    have HV := hid (show commonV T (a : Int) (b : Int) = (K : Int) by rw [commonV_in v ha hb, hK])
    have HV2 := hid (show commonV T (b : Int) (a : Int) = (K : Int) by rw [commonV_in v hb ha, common_comm v.ord.1 ha hb, hK])
    have HV3 := hid (show commonV T (a : Int) (a : Int) = (a : Int) by rw [commonV_in v ha ha, common_self v.ord.1 ha])
    have HV4 := hid (commonV_root v hb)
    obtain ⟨r, hr⟩ : ∃ r, aroundB T a b = r := ⟨_, rfl⟩
    have HR := hid (show aroundV T (a : Int) (b : Int) = r by rw [aroundV_in v ha hb, hr])
    have hKr : ((K : Int) == (a : Int)) = r := by rw [← hr, Bool.eq_iff_iff, beq_iff_eq, aroundB_iff, ← common_is v.ord.1 ha hb, hK]; omega
    clear hat hin hK hcs hr v
    cases r
    · go_wp2_with fail
      refine (commonBox_eq hl2 H1.out HV.out).mono ?_
      rintro e w2 ⟨rfl, b⟩
      have B2 := hid (chain B1.out b)
      have H2 := hid (H1.out.next b)
      clear b
      go_wp2_with fail
      refine (commonBoxS_eq hl2 H2.out HV.out).mono ?_
      rintro e w3 ⟨rfl, b⟩
      have B3 := hid (chain B2.out b)
      have H3 := hid (H2.out.next b)
      clear b
      go_wp2_with fail
      refine (commonBox_eq hl2 H3.out HV2.out).mono ?_
      rintro e w4 ⟨rfl, b⟩
      have B4 := hid (chain B3.out b)
      have H4 := hid (H3.out.next b)
      clear b
      go_wp2_with fail
      refine (commonBox_eq hl2 H4.out HV3.out).mono ?_
      rintro e w5 ⟨rfl, b⟩
      have B5 := hid (chain B4.out b)
      have H5 := hid (H4.out.next b)
      clear b
      go_wp2_with fail
      refine (commonBox_eq hl2 H5.out HV4.out).mono ?_
      rintro e w6 ⟨rfl, b⟩
      have B6 := hid (chain B5.out b)
      have H6 := hid (H5.out.next b)
      clear b
      go_wp2_with fail
      refine (isAround_eq hl2 H6.out HR.out).mono ?_
      rintro e w7 ⟨rfl, b⟩
      have B7 := hid (chain B6.out b)
      have H7 := hid (H6.out.next b)
      clear b
      go_wp2_with fail
      go_ret
      exact ⟨by first | rfl | (simp; done) | (simp; omega), B7.out⟩
    · go_wp2_with fail
      refine (commonBox_eq hl2 H1.out HV.out).mono ?_
      rintro e w2 ⟨rfl, b⟩
      have B2 := hid (chain B1.out b)
      have H2 := hid (H1.out.next b)
      clear b
      go_wp2_with fail
      refine (commonBoxS_eq hl2 H2.out HV.out).mono ?_
      rintro e w3 ⟨rfl, b⟩
      have B3 := hid (chain B2.out b)
      have H3 := hid (H2.out.next b)
      clear b
      go_wp2_with fail
      refine (commonBox_eq hl2 H3.out HV2.out).mono ?_
      rintro e w4 ⟨rfl, b⟩
      have B4 := hid (chain B3.out b)
      have H4 := hid (H3.out.next b)
      clear b
      go_wp2_with fail
      refine (commonBox_eq hl2 H4.out HV3.out).mono ?_
      rintro e w5 ⟨rfl, b⟩
      have B5 := hid (chain B4.out b)
      have H5 := hid (H4.out.next b)
      clear b
      go_wp2_with fail
      refine (commonBox_eq hl2 H5.out HV4.out).mono ?_
      rintro e w6 ⟨rfl, b⟩
      have B6 := hid (chain B5.out b)
      have H6 := hid (H5.out.next b)
      clear b
      go_wp2_with fail
      refine (isAround_eq hl2 H6.out HR.out).mono ?_
      rintro e w7 ⟨rfl, b⟩
      have B7 := hid (chain B6.out b)
      have H7 := hid (H6.out.next b)
      clear b
      go_wp2_with fail
      go_ret
      exact ⟨by first | rfl | (simp; done) | (simp; omega), B7.out⟩

#print axioms fnCommonBoxOrder_any
end Go.Proofs.Ytjomdcnelamefaa
