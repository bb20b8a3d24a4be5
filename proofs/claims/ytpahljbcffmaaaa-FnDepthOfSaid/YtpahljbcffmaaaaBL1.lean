/- FnDepthOf: the walk. Written by a program of ours. -/
import Derived.Test.YtpahljbcffmaaaaB19
namespace Go.Proofs.Ytpahljbcffmaaaa
open Go.RowKit Go.Lib

set_option maxRecDepth 100000 in
set_option maxHeartbeats 4000000 in
theorem fnDepthOf_any (A : Option Addr) (cap : Nat) (bs : List Int) (w : World) (h : Code w A cap bs) :
    Calls Try.prog 6 #[.slice A bs.length cap] w (Yes w) := by
  have hcap := h.cap1
  have hcap2 := h.cap2
  by_cases hbig : 1048576 < bs.length
  · clear h
    go_enter Try.func6, Try.ntmps6
    go_wp2
    go_ret
    exact ⟨rfl, Below.refl _ _⟩
  · have hd := drawDepthOf_any A cap bs w h
    clear h
    go_enter Try.func6, Try.ntmps6
    go_wp2_with fail
    refine hd.mono ?_
    rintro e w1 ⟨A1, c1, T, x, rfl, hx, hl, hc1, hc2, ha, b1⟩
    have H1 := hid ha
    have B1 := hid b1
    have hl2 : T.length ≤ 1048576 := by omega
    clear ha b1 hd
    cases hat : atIn T x
    · have HV := hid (depthV_out hat)
      clear hat
      go_wp2_with fail
      refine (depthOf_eq hl2 H1.out HV.out).mono ?_
      rintro e w2 ⟨rfl, b⟩
      have B2 := hid (chain B1.out b)
      have H2 := hid (H1.out.next b)
      clear b
      go_wp2_with fail
      refine (depthOfS_eq hl2 H2.out HV.out).mono ?_
      rintro e w3 ⟨rfl, b⟩
      have B3 := hid (chain B2.out b)
      have H3 := hid (H2.out.next b)
      clear b
      go_wp2_with fail
      refine (depthOfS_eq hl2 H3.out HV.out).mono ?_
      rintro e w4 ⟨rfl, b⟩
      have B4 := hid (chain B3.out b)
      have H4 := hid (H3.out.next b)
      clear b
      go_wp2_with fail
      go_ret
      exact ⟨rfl, B4.out⟩
    · obtain ⟨k, rfl, hk, v⟩ := atIn_nat hat
      obtain ⟨d, hd⟩ : ∃ d, (up T k).length = d + 1 := ⟨(up T k).length - 1, by have := up_len_pos T k; omega⟩
      have HV := hid (show depthV T (k : Int) = (d : Int) by rw [depthV_in v hk, hd]; omega)
      have hd5 : d ≤ 5 := by have := v.dep k hk; omega
      obtain ⟨b0, off, x0, hA, -⟩ := H1.out.atBox hk
      subst hA
      have i1 : (0 : Int) ≤ (k : Int) := by omega
      have i2 : (k : Int) < (T.length : Int) := by omega
      clear hat
      by_cases hk0 : k = 0
      · subst hk0
        rw [up_zero v.ord.1 hk] at hd
        obtain rfl : d = 0 := by simpa using hd.symm
        clear hd v
        go_wp2_with fail
        refine (depthOf_eq hl2 H1.out HV.out).mono ?_
        rintro e w2 ⟨rfl, b⟩
        have B2 := hid (chain B1.out b)
        have H2 := hid (H1.out.next b)
        clear b
        go_wp2_with fail
        refine (depthOfS_eq hl2 H2.out HV.out).mono ?_
        rintro e w3 ⟨rfl, b⟩
        have B3 := hid (chain B2.out b)
        have H3 := hid (H2.out.next b)
        clear b
        go_wp2_with fail
        go_ret
        exact ⟨rfl, B3.out⟩
      · have hpos : 0 < k := by omega
        have hpar := (v.ord.1 k hk).2 hpos
        obtain ⟨q, hq⟩ : ∃ q : Nat, par T k = q := ⟨(par T k).toNat, by omega⟩
        have hup := up_next v.ord.1 hk hpos
        rw [hq, Int.toNat_natCast] at hup
        rw [hq] at hpar
        have hqk : q < T.length := by omega
        rw [hup, List.length_cons] at hd
        obtain ⟨g, hg⟩ : ∃ g, d = g + 1 := ⟨d - 1, by have := up_len_pos T q; omega⟩
        subst hg
        have HV2 := hid (show depthV T (q : Int) = (g : Int) by rw [depthV_in v hqk]; omega)
        have HQ := hid hq
        have k0 : ¬ ((k : Int) = 0) := by omega
        have w1 : IntKind.i64.wrap ((g : Int) + 1) = ((g + 1 : Nat) : Int) := by rw [IntWalk.i64_in _ (by omega)]; rfl
        clear hd hup hq hpar v hk0
        go_wp2_with fail
        refine (depthOf_eq hl2 H1.out HV.out).mono ?_
        rintro e w2 ⟨rfl, b⟩
        have B2 := hid (chain B1.out b)
        have H2 := hid (H1.out.next b)
        clear b
        go_wp2_with fail
        refine (depthOfS_eq hl2 H2.out HV.out).mono ?_
        rintro e w3 ⟨rfl, b⟩
        have B3 := hid (chain B2.out b)
        have H3 := hid (H2.out.next b)
        clear b
        obtain ⟨y, hy, hb, e0, -⟩ := H3.out.litBox hk
        rw [show y.Parent = (q : Int) by rw [← par_of hy]; exact HQ.out] at e0
        clear hy
        go_wp2_with fail
        refine (depthOf_eq hl2 H3.out HV2.out).mono ?_
        rintro e w4 ⟨rfl, b⟩
        have B4 := hid (chain B3.out b)
        have H4 := hid (H3.out.next b)
        clear b
        go_wp2_with fail
        go_ret
        exact ⟨by simp; omega, B4.out⟩

#print axioms fnDepthOf_any
end Go.Proofs.Ytpahljbcffmaaaa
