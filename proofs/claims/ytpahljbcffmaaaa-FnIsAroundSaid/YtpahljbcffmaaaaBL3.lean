/- FnIsAround: the walk. Written by a program of ours. -/
import Derived.Test.YtpahljbcffmaaaaB19
namespace Go.Proofs.Ytpahljbcffmaaaa
open Go.RowKit Go.Lib

set_option maxRecDepth 100000 in
set_option maxHeartbeats 4000000 in
theorem fnIsAround_any (A : Option Addr) (cap : Nat) (bs : List Int) (w : World) (h : Code w A cap bs) :
    Calls Try.prog 7 #[.slice A bs.length cap] w (Yes w) := by
  have hcap := h.cap1
  have hcap2 := h.cap2
  by_cases hbig : 1048576 < bs.length
  · clear h
    go_enter Try.func7, Try.ntmps7
    go_wp2
    go_ret
    exact ⟨rfl, Below.refl _ _⟩
  · have hd := drawIsAround_any A cap bs w h
    clear h
    go_enter Try.func7, Try.ntmps7
    go_wp2_with fail
    refine hd.mono ?_
    rintro e w1 ⟨A1, c1, T, x, y, rfl, hx, hy, hl, hc1, hc2, ha, b1⟩
    have H1 := hid ha
    have B1 := hid b1
    have hl2 : T.length ≤ 1048576 := by omega
    clear ha b1 hd
    cases hat : atIn T x
    · have HV := hid (aroundV_out1 (y := y) hat)
      have HD := hid (depthV_out hat)
      clear hat
      go_wp2_with fail
      refine (isAround_eq hl2 H1.out HV.out).mono ?_
      rintro e w2 ⟨rfl, b⟩
      have B2 := hid (chain B1.out b)
      have H2 := hid (H1.out.next b)
      clear b
      go_wp2_with fail
      refine (isAroundS_eq hl2 H2.out HV.out).mono ?_
      rintro e w3 ⟨rfl, b⟩
      have B3 := hid (chain B2.out b)
      have H3 := hid (H2.out.next b)
      clear b
      go_wp2_with fail
      refine (depthOf_eq hl2 H3.out HD.out).mono ?_
      rintro e w4 ⟨rfl, b⟩
      have B4 := hid (chain B3.out b)
      have H4 := hid (H3.out.next b)
      clear b
      go_wp2_with fail
      refine (isAroundS_eq hl2 H4.out HV.out).mono ?_
      rintro e w5 ⟨rfl, b⟩
      have B5 := hid (chain B4.out b)
      have H5 := hid (H4.out.next b)
      clear b
      go_wp2_with fail
      go_ret
      exact ⟨rfl, B5.out⟩
    · obtain ⟨a, rfl, ha, v⟩ := atIn_nat hat
      obtain ⟨da, hda⟩ : ∃ d, (up T a).length = d + 1 := ⟨(up T a).length - 1, by have := up_len_pos T a; omega⟩
      have HD := hid (show depthV T (a : Int) = (da : Int) by rw [depthV_in v ha, hda]; omega)
      clear hat hda
      cases hin : atIn T y
      · have HV := hid (aroundV_out2 (x := (a : Int)) hin)
        have HD2 := hid (depthV_out hin)
        clear hin v
        go_wp2_with fail
        refine (isAround_eq hl2 H1.out HV.out).mono ?_
        rintro e w2 ⟨rfl, b⟩
        have B2 := hid (chain B1.out b)
        have H2 := hid (H1.out.next b)
        clear b
        go_wp2_with fail
        refine (isAroundS_eq hl2 H2.out HV.out).mono ?_
        rintro e w3 ⟨rfl, b⟩
        have B3 := hid (chain B2.out b)
        have H3 := hid (H2.out.next b)
        clear b
        go_wp2_with fail
        refine (depthOf_eq hl2 H3.out HD.out).mono ?_
        rintro e w4 ⟨rfl, b⟩
        have B4 := hid (chain B3.out b)
        have H4 := hid (H3.out.next b)
        clear b
        go_wp2_with fail
        refine (depthOf_eq hl2 H4.out HD2.out).mono ?_
        rintro e w5 ⟨rfl, b⟩
        have B5 := hid (chain B4.out b)
        have H5 := hid (H4.out.next b)
        clear b
        go_wp2_with fail
        refine (isAroundS_eq hl2 H5.out HV.out).mono ?_
        rintro e w6 ⟨rfl, b⟩
        have B6 := hid (chain B5.out b)
        have H6 := hid (H5.out.next b)
        clear b
        go_wp2_with fail
        go_ret
        exact ⟨rfl, B6.out⟩
      · obtain ⟨k, rfl, hk, -⟩ := atIn_nat hin
        obtain ⟨dk, hdk⟩ : ∃ d, (up T k).length = d + 1 := ⟨(up T k).length - 1, by have := up_len_pos T k; omega⟩
        have HD2 := hid (show depthV T (k : Int) = (dk : Int) by rw [depthV_in v hk, hdk]; omega)
        clear hin hdk
        have HR := hid (aroundV_root v hk)
        obtain ⟨b0, off, x0, hA, -⟩ := H1.out.atBox hk
        subst hA
        have i1 : (0 : Int) ≤ (k : Int) := by omega
        have i2 : (k : Int) < (T.length : Int) := by omega
        by_cases hak : a = k
        · subst hak
          have HV := hid (show aroundV T (a : Int) (a : Int) = true by rw [aroundV_in v ha ha]; exact aroundB_iff.2 (up_self T a))
          clear v
          go_wp2_with fail
          refine (isAround_eq hl2 H1.out HV.out).mono ?_
          rintro e w2 ⟨rfl, b⟩
          have B2 := hid (chain B1.out b)
          have H2 := hid (H1.out.next b)
          clear b
          go_wp2_with fail
          refine (isAroundS_eq hl2 H2.out HV.out).mono ?_
          rintro e w3 ⟨rfl, b⟩
          have B3 := hid (chain B2.out b)
          have H3 := hid (H2.out.next b)
          clear b
          go_wp2_with fail
          refine (depthOf_eq hl2 H3.out HD.out).mono ?_
          rintro e w4 ⟨rfl, b⟩
          have B4 := hid (chain B3.out b)
          have H4 := hid (H3.out.next b)
          clear b
          go_wp2_with fail
          refine (depthOf_eq hl2 H4.out HD.out).mono ?_
          rintro e w5 ⟨rfl, b⟩
          have B5 := hid (chain B4.out b)
          have H5 := hid (H4.out.next b)
          clear b
          go_wp2_with fail
          go_ret
          exact ⟨by first | rfl | (simp; done) | (simp; omega), B5.out⟩
        · have hne : ((a : Int) == (k : Int)) = false := by rw [beq_eq_false_iff_ne]; omega
          have HAK := hid hak
          clear hak
          by_cases hk0 : k = 0
          · subst hk0
            have HV := hid (show aroundV T (a : Int) ((0 : Nat) : Int) = false by rw [aroundV_in v ha hk]; rw [Bool.eq_false_iff]; intro h; rw [aroundB_iff, up_zero v.ord.1 hk] at h; exact HAK.out (by simpa using h))
            clear v
            go_wp2_with fail
            refine (isAround_eq hl2 H1.out HV.out).mono ?_
            rintro e w2 ⟨rfl, b⟩
            have B2 := hid (chain B1.out b)
            have H2 := hid (H1.out.next b)
            clear b
            go_wp2_with fail
            refine (isAroundS_eq hl2 H2.out HV.out).mono ?_
            rintro e w3 ⟨rfl, b⟩
            have B3 := hid (chain B2.out b)
            have H3 := hid (H2.out.next b)
            clear b
            go_wp2_with fail
            refine (depthOf_eq hl2 H3.out HD.out).mono ?_
            rintro e w4 ⟨rfl, b⟩
            have B4 := hid (chain B3.out b)
            have H4 := hid (H3.out.next b)
            clear b
            go_wp2_with fail
            refine (depthOf_eq hl2 H4.out HD2.out).mono ?_
            rintro e w5 ⟨rfl, b⟩
            have B5 := hid (chain B4.out b)
            have H5 := hid (H4.out.next b)
            clear b
            go_wp2_with fail
            refine (isAround_eq hl2 H5.out HR.out).mono ?_
            rintro e w6 ⟨rfl, b⟩
            have B6 := hid (chain B5.out b)
            have H6 := hid (H5.out.next b)
            clear b
            go_wp2_with fail
            go_ret
            exact ⟨by first | rfl | (simp; done) | (simp; omega), B6.out⟩
          · have hpos : 0 < k := by omega
            have hpar := (v.ord.1 k hk).2 hpos
            obtain ⟨q, hq⟩ : ∃ q : Nat, par T k = q := ⟨(par T k).toNat, by omega⟩
            have hup := up_next v.ord.1 hk hpos
            rw [hq, Int.toNat_natCast] at hup
            rw [hq] at hpar
            have hqk : q < T.length := by omega
            obtain ⟨r, hr⟩ : ∃ r, aroundB T a k = r := ⟨_, rfl⟩
            have HV := hid (show aroundV T (a : Int) (k : Int) = r by rw [aroundV_in v ha hk]; exact hr)
            have HV2 := hid (show aroundV T (a : Int) (q : Int) = r by rw [aroundV_in v ha hqk, ← hr, Bool.eq_iff_iff, aroundB_iff, aroundB_iff, hup, List.mem_cons]; exact ⟨fun h => .inr h, fun h => h.resolve_left HAK.out⟩)
            have HQ := hid hq
            clear hr hup hpar hq v hk0
            go_wp2_with fail
            refine (isAround_eq hl2 H1.out HV.out).mono ?_
            rintro e w2 ⟨rfl, b⟩
            have B2 := hid (chain B1.out b)
            have H2 := hid (H1.out.next b)
            clear b
            go_wp2_with fail
            refine (isAroundS_eq hl2 H2.out HV.out).mono ?_
            rintro e w3 ⟨rfl, b⟩
            have B3 := hid (chain B2.out b)
            have H3 := hid (H2.out.next b)
            clear b
            go_wp2_with fail
            refine (depthOf_eq hl2 H3.out HD.out).mono ?_
            rintro e w4 ⟨rfl, b⟩
            have B4 := hid (chain B3.out b)
            have H4 := hid (H3.out.next b)
            clear b
            go_wp2_with fail
            refine (depthOf_eq hl2 H4.out HD2.out).mono ?_
            rintro e w5 ⟨rfl, b⟩
            have B5 := hid (chain B4.out b)
            have H5 := hid (H4.out.next b)
            clear b
            obtain ⟨z, hz, hb, e0, -⟩ := H5.out.litBox hk
            rw [show z.Parent = (q : Int) by rw [← par_of hz]; exact HQ.out] at e0
            clear hz
            go_wp2_with fail
            refine (isAround_eq hl2 H5.out HV2.out).mono ?_
            rintro e w6 ⟨rfl, b⟩
            have B6 := hid (chain B5.out b)
            have H6 := hid (H5.out.next b)
            clear b
            go_wp2_with fail
            refine (isAround_eq hl2 H6.out HR.out).mono ?_
            rintro e w7 ⟨rfl, b⟩
            have B7 := hid (chain B6.out b)
            have H7 := hid (H6.out.next b)
            clear b
            go_wp2_with fail
            go_ret
            exact ⟨by first | rfl | (simp; done) | (simp; omega), B7.out⟩

#print axioms fnIsAround_any
end Go.Proofs.Ytpahljbcffmaaaa
