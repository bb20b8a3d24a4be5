/- FnExactValidParts: the walk. -/
import Derived.Test.YtjkcejijdpmhoaaE
namespace Go.Proofs.Ytjkcejijdpmhoaa
open Go.RowKit Go.Lib

set_option maxHeartbeats 1000000 in
theorem fnExactValidParts_any (A : Option Addr) (L : List (Int × Int)) (c : Nat) (w : World) (h : Arr w w.heap.size 2 encP A L) (hc1 : L.length ≤ c) (hc2 : c ≤ maxLen) :
    Calls Try.prog 4 #[.slice A L.length c] w (Yes w) := by
  have hmax : L.length ≤ 9223372036854775807 := by simp only [maxLen] at hc2; omega
  have hs := szPartS_any A L.length c w hmax
  clear hc2
  by_cases hbig : L.length ≤ 1048576
  · rw [if_pos hbig] at hs
    have t1 := toPartS_any A L c w hbig h
    have H := hid h
    clear h
    go_enter Try.func4, Try.ntmps4
    go_wp2_with fail
    refine hs.mono ?_
    rintro e w1 ⟨rfl, rfl⟩
    clear hs
    go_wp2_with fail
    refine t1.mono ?_
    rintro e w1 ⟨A1, c1, rfl, -, -, o1, b1⟩
    clear t1
    have s1 := specValid_any A1 L c1 w1 (by omega) o1.arr
    have t2 := toPartS_any A L c w1 hbig (H.out.next b1)
    have B1 := hid b1
    have H1 := hid (H.out.next b1)
    clear b1 o1
    cases hv : validL L
    all_goals
      rw [hv] at s1
      have HV := hid hv
      clear hv
      go_wp2_with fail
      refine s1.mono ?_
      rintro e w2 ⟨rfl, rfl⟩
      go_wp2_with fail
      refine t2.mono ?_
      rintro e w2 ⟨A2, c2, rfl, -, -, o2, b2⟩
      have s2 := implValid_any A2 L c2 w2 (by omega) o2.arr
      rw [HV.out] at s2
      have B2 := hid b2
      have H2 := hid (H1.out.next b2)
      have O2 := hid o2
      clear b2 o2 s1 t2
      go_wp2_with fail
      refine s2.mono ?_
      rintro e w3 ⟨rfl, b3⟩
      have t3 := toPartS_any A L c w3 hbig (H2.out.next b3)
      have B3 := hid b3
      have O3 := hid (O2.out.arr.next b3)
      clear b3 s2
      go_wp2_with fail
      refine t3.mono ?_
      rintro e w4 ⟨A4, c4, rfl, -, -, o4, b4⟩
      have e4 := eqPartS_same A2 A4 L c2 c4 w4 hbig (O3.out.next b4) o4.arr
      have B4 := hid b4
      clear b4 o4 t3
      go_wp2_with fail
      refine e4.mono ?_
      rintro e w5 ⟨rfl, b5⟩
      have B5 := hid b5
      clear b5 e4
      go_wp2
      go_ret
      exact ⟨rfl, chain (chain (chain (chain B1.out B2.out) B3.out) B4.out) B5.out⟩
  · rw [if_neg hbig] at hs
    clear h
    go_enter Try.func4, Try.ntmps4
    go_wp2_with fail
    refine hs.mono ?_
    rintro e w1 ⟨rfl, rfl⟩
    clear hs
    go_wp2
    go_ret
    exact ⟨rfl, Below.refl _ _⟩
end Go.Proofs.Ytjkcejijdpmhoaa
