/- FnExactPaintArea: the walk. -/
import Derived.Test.YthejkmdodjchiaaPP
import Derived.Test.YthejkmdodjchiaaPS
import Derived.Test.YthejkmdodjchiaaYRect
namespace Go.Proofs.Ythejkmdodjchiaa
set_option linter.unusedVariables false
set_option linter.unusedSimpArgs false
open Go.RowKit Go.Lib

set_option maxHeartbeats 4000000 in
theorem fnExactPaintArea_any (A : Option Addr) (L : List RectD) (c : Nat) (w : World) (h : Arr w w.heap.size 4 encRect A L) (_hc1 : L.length ≤ c) (hc2 : c ≤ maxLen) :
    Calls Try.prog 4 #[.slice A L.length c] w (Yes w) := by
  have hmax : L.length ≤ 9223372036854775807 := by simp only [maxLen] at hc2; omega
  have hs := szRectS_any A L.length c 1048576 w hmax (by omega) (by omega)
  have HA := hid h
  clear hc2 h
  by_cases hbig : L.length ≤ 1048576
  · rw [if_pos (by omega)] at hs
    have t1 := toRectS_any A L c w hbig HA.out
    have HWI := hid (fun A c w => paintArea_any A L c w hbig)
    have HWS := hid (fun A c w => specPaintArea_any A L c w hbig)
    generalize areaV L = R at *
    have hne : (R != R) = false := by simp
    go_enter Try.func4, Try.ntmps4
    go_wp2_with fail
    refine hs.mono ?_
    rintro e w0 ⟨rfl, rfl⟩
    clear hs
    go_wp2_with fail
    refine t1.mono ?_
    rintro e w1 ⟨A1, c1, rfl, h11, h12, o1, b1⟩
    have s1 := HWS.out A1 c1 w1 o1.arr
    have B1 := hid b1
    clear b1 o1 t1
    go_wp2_with fail
    refine s1.mono ?_
    rintro e w2 ⟨rfl, b2⟩
    have B2 := hid (chain B1.out b2)
    have t2 := toRectS_any A L c w2 hbig (HA.out.next B2.out)
    clear b2 s1
    go_wp2_with fail
    refine t2.mono ?_
    rintro e w3 ⟨Ax, cx, rfl, h31, h32, ox, b3⟩
    have s2 := HWI.out Ax cx w3 ox.arr
    have B3 := hid (chain B2.out b3)
    have OX := hid ox.arr
    clear b3 ox t2
    go_wp2_with fail
    refine s2.mono ?_
    rintro e w4 ⟨rfl, b4⟩
    have B4 := hid (chain B3.out b4)
    have OX4 := hid (OX.out.next b4)
    have t3 := toRectS_any A L c w4 hbig (HA.out.next B4.out)
    clear b4 s2
    go_wp2_with fail
    refine t3.mono ?_
    rintro e w6 ⟨Ay, cy, rfl, -, -, oy, b6⟩
    have e2 := eqRectS_same Ax Ay L cx cy w6 hbig (OX4.out.next b6) oy.arr
    have B6 := hid (chain B4.out b6)
    clear b6 oy t3
    go_wp2_with fail
    refine e2.mono ?_
    rintro e w7 ⟨rfl, b7⟩
    have B7 := hid (chain B6.out b7)
    clear b7 e2
    go_wp2
    go_ret
    exact ⟨rfl, B7.out⟩
  · rw [if_neg (by omega)] at hs
    go_enter Try.func4, Try.ntmps4
    go_wp2_with fail
    refine hs.mono ?_
    rintro e w1 ⟨rfl, rfl⟩
    clear hs
    go_wp2
    go_ret
    exact ⟨rfl, Below.refl _ _⟩
end Go.Proofs.Ythejkmdodjchiaa
