/- FnExactFormatTree: the walk. -/
import Derived.Test.YtimpieddkkkgfaaDoorFB7
import Derived.Test.YtimpieddkkkgfaaDoorVBox
namespace Go.Proofs.YtimpieddkkkgfaaDoor
set_option linter.unusedVariables false
set_option linter.unusedSimpArgs false
open Go.RowKit Go.Lib

set_option maxHeartbeats 4000000 in
theorem fnExactFormatTree_any (A : Option Addr) (L : List BoxD) (c : Nat) (w : World) (ht : Tab w) (h : Arr w w.heap.size 9 encBox A L) (_hc1 : L.length ≤ c) (hc2 : c ≤ maxLen) :
    Calls Tryd.prog 3 #[.slice A L.length c] w (Yes w) := by
  have hmax : L.length ≤ 9223372036854775807 := by simp only [maxLen] at hc2; omega
  have hs := szBoxS_any A L.length c 1048576 w hmax (by omega) (by omega)
  have HA := hid h
  clear hc2 h
  by_cases hbig : L.length ≤ 1048576
  · rw [if_pos (by omega)] at hs
    have TO := hid (fun W hW => toBoxS_any A L c W hbig hW)
    have SF := hid (fun A c W hW => specFormat_any A L c W hbig hW)
    have IF := hid (fun A c W hT hW => format_any A L c W hbig hT hW)
    have EQ := hid (fun A A' c c' W h1 h2 => eqBoxS_same A A' L c c' W hbig h1 h2)
    have TB := hid ht
    generalize treeL L = R at *
    clear ht
    go_enter Tryd.func3, Tryd.ntmps3
    go_wp2_with fail
    refine hs.mono ?_
    rintro e w0 ⟨rfl, rfl⟩
    clear hs
    go_wp2_with fail
    refine (TO.out _ HA.out).mono ?_
    rintro e w1 ⟨A1, c1, rfl, -, -, o1, b1⟩
    have B1 := hid b1
    have O1 := hid o1.arr
    clear b1 o1
    go_wp2_with fail
    refine (SF.out _ _ _ O1.out).mono ?_
    rintro e w2 ⟨s2, rfl, hs2, b2⟩
    have B2 := hid (chain B1.out b2)
    have S2 := hid hs2
    clear b2 hs2
    go_wp2_with fail
    refine (TO.out _ (HA.out.next B2.out)).mono ?_
    rintro e w3 ⟨A3, c3, rfl, -, -, o3, b3⟩
    have B3 := hid (chain B2.out b3)
    have O3 := hid o3.arr
    clear b3 o3
    go_wp2_with fail
    refine (IF.out _ _ _ (TB.out.next B3.out) O3.out).mono ?_
    rintro e w4 ⟨s4, rfl, hs4, b4⟩
    have B4 := hid (chain B3.out b4)
    have O4 := hid (O3.out.next b4)
    obtain rfl : s4 = s2 := bl_inj (hs4.trans S2.out.symm)
    clear b4 hs4
    go_wp2_with fail
    refine (TO.out _ (HA.out.next B4.out)).mono ?_
    rintro e w5 ⟨A5, c5, rfl, -, -, o5, b5⟩
    have B5 := hid (chain B4.out b5)
    have O5 := hid o5.arr
    have O45 := hid (O4.out.next b5)
    clear b5 o5
    go_wp2_with fail
    refine (EQ.out _ _ _ _ _ O45.out O5.out).mono ?_
    rintro e w6 ⟨rfl, b6⟩
    have B6 := hid (chain B5.out b6)
    clear b6
    go_wp2
    go_ret
    exact ⟨rfl, B6.out⟩
  · rw [if_neg (by omega)] at hs
    go_enter Tryd.func3, Tryd.ntmps3
    go_wp2_with fail
    refine hs.mono ?_
    rintro e w1 ⟨rfl, rfl⟩
    clear hs
    go_wp2
    go_ret
    exact ⟨rfl, Below.refl _ _⟩
end Go.Proofs.YtimpieddkkkgfaaDoor
