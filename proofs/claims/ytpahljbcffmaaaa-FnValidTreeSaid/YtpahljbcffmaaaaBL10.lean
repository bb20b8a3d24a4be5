/- FnValidTree: the walk. Written by a program of ours. -/
import Derived.Test.YtpahljbcffmaaaaB19
namespace Go.Proofs.Ytpahljbcffmaaaa
set_option linter.unusedVariables false
open Go.RowKit Go.Lib

set_option maxRecDepth 100000 in
set_option maxHeartbeats 4000000 in
theorem fnValidTree_any (A : Option Addr) (cap : Nat) (bs : List Int) (w : World) (h : Code w A cap bs) :
    Calls Try.prog 4 #[.slice A bs.length cap] w (Yes w) := by
  have hcap := h.cap1
  have hcap2 := h.cap2
  by_cases hbig : 1048576 < bs.length
  · clear h
    go_enter Try.func4, Try.ntmps4
    go_wp2
    go_ret
    exact ⟨rfl, Below.refl _ _⟩
  · have hd := drawValidTree_any A cap bs w h
    clear h
    go_enter Try.func4, Try.ntmps4
    go_wp2_with fail
    refine hd.mono ?_
    rintro e w1 ⟨A1, c1, T, rfl, hl, hc1, hc2, ha, b1⟩
    have H1 := hid ha
    have B1 := hid b1
    have hl2 : T.length ≤ 1048576 := by omega
    clear ha b1 hd
    cases hv : validB T
    · have HV := hid hv
      clear hv
      go_wp2_with fail
      refine (validTree_n rfl hl2 H1.out HV.out).mono ?_
      rintro e w2 ⟨rfl, b⟩
      have B2 := hid (chain B1.out b)
      have H2 := hid (H1.out.next b)
      clear b
      go_wp2_with fail
      refine (validTreeS_n rfl hl2 H2.out HV.out).mono ?_
      rintro e w3 ⟨rfl, b⟩
      have B3 := hid (chain B2.out b)
      have H3 := hid (H2.out.next b)
      clear b
      go_wp2_with fail
      refine (validTreeS_n rfl hl2 H3.out HV.out).mono ?_
      rintro e w4 ⟨rfl, b⟩
      have B4 := hid (chain B3.out b)
      have H4 := hid (H3.out.next b)
      clear b
      go_wp2_with fail
      go_ret
      exact ⟨rfl, B4.out⟩
    · have HV := hid hv
      have VV := hid (validB_iff.1 hv)
      clear hv
      by_cases h2 : T.length < 2
      · have h2' : (T.length : Int) < 2 := by omega
        go_wp2_with fail
        refine (validTree_n rfl hl2 H1.out HV.out).mono ?_
        rintro e w2 ⟨rfl, b⟩
        have B2 := hid (chain B1.out b)
        have H2 := hid (H1.out.next b)
        clear b
        go_wp2_with fail
        refine (validTreeS_n rfl hl2 H2.out HV.out).mono ?_
        rintro e w3 ⟨rfl, b⟩
        have B3 := hid (chain B2.out b)
        have H3 := hid (H2.out.next b)
        clear b
        go_wp2_with fail
        refine (validTreeS_n rfl hl2 H3.out HV.out).mono ?_
        rintro e w4 ⟨rfl, b⟩
        have B4 := hid (chain B3.out b)
        have H4 := hid (H3.out.next b)
        clear b
        go_wp2_with fail
        go_ret
        exact ⟨rfl, B4.out⟩
      · have h2' : ¬ ((T.length : Int) < 2) := by omega
        obtain ⟨n1, hn1⟩ : ∃ n, T.length = n + 1 := ⟨T.length - 1, by omega⟩
        have w1 : IntKind.i64.wrap ((T.length : Int) - 1) = (n1 : Int) := by rw [IntWalk.i64_in _ (by omega)]; omega
        have n5 : n1 ≤ 1048576 := by omega
        have n2 : (0 : Int) ≤ (n1 : Int) := by omega
        have n3 : (n1 : Int) ≤ (c1 : Int) := by omega
        have n4 : (1 : Int) ≤ (c1 : Int) := by omega
        have V1 := hid (validB_iff.2 (valid_take VV.out (m := n1) (by omega) (by omega)))
        have V2 := hid (validB_iff.2 (valid_take VV.out (m := 1) (by omega) (by omega)))
        have L1 := hid (show n1 = (T.take n1).length by rw [List.length_take]; omega)
        have L2 := hid (show 1 = (T.take 1).length by rw [List.length_take]; omega)
        have HN1 := hid hn1
        clear hn1
        go_wp2_with fail
        refine (validTree_n rfl hl2 H1.out HV.out).mono ?_
        rintro e w2 ⟨rfl, b⟩
        have B2 := hid (chain B1.out b)
        have H2 := hid (H1.out.next b)
        clear b
        go_wp2_with fail
        refine (validTreeS_n rfl hl2 H2.out HV.out).mono ?_
        rintro e w3 ⟨rfl, b⟩
        have B3 := hid (chain B2.out b)
        have H3 := hid (H2.out.next b)
        clear b
        go_wp2_with fail
        refine (validTree_n L1.out (by rw [← L1.out]; omega) (H3.out.take n1) V1.out).mono ?_
        rintro e w8 ⟨rfl, b⟩
        have B8 := hid (chain B3.out b)
        have H8 := hid (H3.out.next b)
        clear b
        go_wp2_with fail
        refine (validTree_n L2.out (by rw [← L2.out]; omega) (H8.out.take 1) V2.out).mono ?_
        rintro e w9 ⟨rfl, b⟩
        have B9 := hid (chain B8.out b)
        clear b
        go_wp2_with fail
        go_ret
        exact ⟨by first | rfl | (simp; done) | (simp; omega), B9.out⟩

#print axioms fnValidTree_any
end Go.Proofs.Ytpahljbcffmaaaa
