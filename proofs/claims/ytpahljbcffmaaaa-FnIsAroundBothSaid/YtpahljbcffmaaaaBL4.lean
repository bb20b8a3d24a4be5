/- FnIsAroundBoth: the walk. Written by a program of ours. -/
import Derived.Test.YtpahljbcffmaaaaB19
namespace Go.Proofs.Ytpahljbcffmaaaa
open Go.RowKit Go.Lib

set_option maxRecDepth 100000 in
set_option maxHeartbeats 4000000 in
theorem fnIsAroundBoth_any (A : Option Addr) (cap : Nat) (bs : List Int) (w : World) (h : Code w A cap bs) :
    Calls Try.prog 8 #[.slice A bs.length cap] w (Yes w) := by
  have hcap := h.cap1
  have hcap2 := h.cap2
  by_cases hbig : 1048576 < bs.length
  · clear h
    go_enter Try.func8, Try.ntmps8
    go_wp2
    go_ret
    exact ⟨rfl, Below.refl _ _⟩
  · have hd := drawIsAround_any A cap bs w h
    clear h
    go_enter Try.func8, Try.ntmps8
    go_wp2_with fail
    refine hd.mono ?_
    rintro e w1 ⟨A1, c1, T, x, y, rfl, hx, hy, hl, hc1, hc2, ha, b1⟩
    have H1 := hid ha
    have B1 := hid b1
    have hl2 : T.length ≤ 1048576 := by omega
    clear ha b1 hd
    cases hv : aroundV T x y
    · have HV := hid hv
      clear hv
      go_wp2_with fail
      refine (isAround_eq hl2 H1.out HV.out).mono ?_
      rintro e w2 ⟨rfl, b⟩
      have B2 := hid (chain B1.out b)
      have H2 := hid (H1.out.next b)
      clear b
      go_wp2_with fail
      refine (isAroundS_eq hl2 H2.out HV.out).mono ?_
      rintro e w3 ⟨rfl, b⟩
      have B3 := hid (chain B2.out b)
      have H3 := hid (H2.out.next b)
      clear b
      go_wp2_with fail
      refine (isAroundS_eq hl2 H3.out HV.out).mono ?_
      rintro e w4 ⟨rfl, b⟩
      have B4 := hid (chain B3.out b)
      have H4 := hid (H3.out.next b)
      clear b
      go_wp2_with fail
      go_ret
      exact ⟨rfl, B4.out⟩
    · have HV := hid hv
      have h1 : atIn T x = true := by cases h : atIn T x; (rw [aroundV_out1 h] at hv; cases hv); rfl
      have h2 : atIn T y = true := by cases h : atIn T y; (rw [aroundV_out2 h] at hv; cases hv); rfl
      obtain ⟨a, rfl, ha, v⟩ := atIn_nat h1
      obtain ⟨k, rfl, hk, -⟩ := atIn_nat h2
      rw [aroundV_in v ha hk, aroundB_iff] at hv
      clear h1 h2
      obtain ⟨da, hda⟩ : ∃ d, (up T a).length = d + 1 := ⟨(up T a).length - 1, by have := up_len_pos T a; omega⟩
      have HD := hid (show depthV T (a : Int) = (da : Int) by rw [depthV_in v ha, hda]; omega)
      obtain ⟨dk, hdk⟩ : ∃ d, (up T k).length = d + 1 := ⟨(up T k).length - 1, by have := up_len_pos T k; omega⟩
      have HD2 := hid (show depthV T (k : Int) = (dk : Int) by rw [depthV_in v hk, hdk]; omega)
      have hle : da ≤ dk := by have := up_len_mono v.ord.1 k hk hv; omega
      have HM := hid hv
      clear hv hda hdk
      by_cases hak : a = k
      · subst hak
        clear v
        go_wp2_with fail
        refine (isAround_eq hl2 H1.out HV.out).mono ?_
        rintro e w2 ⟨rfl, b⟩
        have B2 := hid (chain B1.out b)
        have H2 := hid (H1.out.next b)
        clear b
        go_wp2_with fail
        refine (isAroundS_eq hl2 H2.out HV.out).mono ?_
        rintro e w3 ⟨rfl, b⟩
        have B3 := hid (chain B2.out b)
        have H3 := hid (H2.out.next b)
        clear b
        go_wp2_with fail
        refine (isAround_eq hl2 H3.out HV.out).mono ?_
        rintro e w4 ⟨rfl, b⟩
        have B4 := hid (chain B3.out b)
        have H4 := hid (H3.out.next b)
        clear b
        go_wp2_with fail
        refine (depthOf_eq hl2 H4.out HD.out).mono ?_
        rintro e w5 ⟨rfl, b⟩
        have B5 := hid (chain B4.out b)
        have H5 := hid (H4.out.next b)
        clear b
        go_wp2_with fail
        refine (depthOf_eq hl2 H5.out HD.out).mono ?_
        rintro e w6 ⟨rfl, b⟩
        have B6 := hid (chain B5.out b)
        have H6 := hid (H5.out.next b)
        clear b
        go_wp2_with fail
        go_ret
        exact ⟨by first | rfl | (simp; done) | (simp; omega), B6.out⟩
      · have hne : ((a : Int) == (k : Int)) = false := by rw [beq_eq_false_iff_ne]; omega
        have HV2 := hid (show aroundV T (k : Int) (a : Int) = false by rw [aroundV_in v hk ha, Bool.eq_false_iff]; intro h; exact hak (up_anti v.ord.1 hk HM.out (aroundB_iff.1 h)).symm)
        clear hak v
        go_wp2_with fail
        refine (isAround_eq hl2 H1.out HV.out).mono ?_
        rintro e w2 ⟨rfl, b⟩
        have B2 := hid (chain B1.out b)
        have H2 := hid (H1.out.next b)
        clear b
        go_wp2_with fail
        refine (isAroundS_eq hl2 H2.out HV.out).mono ?_
        rintro e w3 ⟨rfl, b⟩
        have B3 := hid (chain B2.out b)
        have H3 := hid (H2.out.next b)
        clear b
        go_wp2_with fail
        refine (isAround_eq hl2 H3.out HV2.out).mono ?_
        rintro e w4 ⟨rfl, b⟩
        have B4 := hid (chain B3.out b)
        have H4 := hid (H3.out.next b)
        clear b
        go_wp2_with fail
        refine (depthOf_eq hl2 H4.out HD.out).mono ?_
        rintro e w5 ⟨rfl, b⟩
        have B5 := hid (chain B4.out b)
        have H5 := hid (H4.out.next b)
        clear b
        go_wp2_with fail
        refine (depthOf_eq hl2 H5.out HD2.out).mono ?_
        rintro e w6 ⟨rfl, b⟩
        have B6 := hid (chain B5.out b)
        have H6 := hid (H5.out.next b)
        clear b
        go_wp2_with fail
        go_ret
        exact ⟨by first | rfl | (simp; done) | (simp; omega), B6.out⟩

#print axioms fnIsAroundBoth_any
end Go.Proofs.Ytpahljbcffmaaaa
