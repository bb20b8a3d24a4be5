/- FnExactChangedRects: the walk. -/
import Derived.Test.YthejkmdodjchiaaN6
import Derived.Test.YthejkmdodjchiaaZRect
namespace Go.Proofs.Ythejkmdodjchiaa
open Go.RowKit Go.Lib

set_option maxRecDepth 100000 in
set_option maxHeartbeats 4000000 in
theorem fnExactChangedRects_any (A : Option Addr) (a : List RectD) (c : Nat) (A' : Option Addr) (b : List RectD) (c' : Nat) (w : World) (h : Arr w w.heap.size 4 encRect A a) (_hc1 : a.length ≤ c) (hc2 : c ≤ maxLen) (h' : Arr w w.heap.size 4 encRect A' b) (_hc1' : b.length ≤ c') (hc2' : c' ≤ maxLen) :
    Calls Try.prog 8 #[.slice A a.length c, .slice A' b.length c'] w (Yes w) := by
  have hmax : a.length ≤ 9223372036854775807 := by simp only [maxLen] at hc2; omega
  have hmax' : b.length ≤ 9223372036854775807 := by simp only [maxLen] at hc2'; omega
  have hs := szRectS_any A a.length c 1048576 w hmax (by omega) (by omega)
  have HA := hid h
  have HA' := hid h'
  clear hc2 h hc2' h' _hc1 _hc1'
  by_cases hbig : a.length ≤ 1048576
  · rw [if_pos (by omega)] at hs
    have hs' := szRectS_any A' b.length c' (1048576 - (a.length : Int)) w hmax' (by omega) (by omega)
    by_cases hbig' : (b.length : Int) ≤ 1048576 - (a.length : Int)
    · rw [if_pos hbig'] at hs'
      have HWI := hid (fun A A' c c' w => changedRects_any A A' a b c c' w (by omega) (by omega))
      have HWS := hid (fun A A' c c' w => specChangedRects_any A A' a b c c' w (by omega) (by omega))
      have HT := hid (fun A c w => toRectS_any A a c w (by omega))
      have HT' := hid (fun A c w => toRectS_any A b c w (by omega))
      have hRl := chgOf_len a b
      generalize chgOf a b = R at *
      go_enter Try.func8, Try.ntmps8
      go_wp2_with fail
      refine hs.mono ?_
      rintro e w0 ⟨rfl, rfl⟩
      clear hs
      go_wp2_with fail
      refine hs'.mono ?_
      rintro e w0 ⟨rfl, rfl⟩
      clear hs'
      go_wp2_with fail
      refine (HT.out _ _ _ HA.out).mono ?_
      rintro e w1 ⟨A1, c1, rfl, -, -, o1, b1⟩
      have B1 := hid b1
      have O1 := hid o1.arr
      clear b1 o1
      go_wp2_with fail
      refine (HT'.out _ _ _ (HA'.out.next B1.out)).mono ?_
      rintro e w2 ⟨A2, c2, rfl, -, -, o2, b2⟩
      have B2 := hid (chain B1.out b2)
      have O12 := hid (O1.out.next b2)
      have O2 := hid o2.arr
      clear b2 o2
      go_wp2_with fail
      refine (HWS.out _ _ _ _ _ O12.out O2.out).mono ?_
      rintro e w3 ⟨A0, c0, rfl, -, -, o0, b3⟩
      have B3 := hid (chain B2.out b3)
      have Z3 := hid o0.arr
      clear b3 o0
      go_wp2_with fail
      refine (HT.out _ _ _ (HA.out.next B3.out)).mono ?_
      rintro e w4 ⟨Ax, cx, rfl, -, -, ox, b4⟩
      have C4 := hid b4
      have OX := hid ox
      have XLO := hid ox.ge
      have XHI := hid ox.lt
      clear b4 ox
      go_wp2_with fail
      refine (HT'.out _ _ _ (HA'.out.next (chain B3.out C4.out))).mono ?_
      rintro e w5 ⟨Ay, cy, rfl, -, -, oy, b5⟩
      have C5 := hid (chain C4.out b5)
      have D5 := hid b5
      have OX5 := hid (OX.out.next b5)
      have OY := hid oy
      have YLO := hid oy.ge
      have YHI := hid oy.lt
      clear b5 oy
      go_wp2_with fail
      refine (HWI.out _ _ _ _ _ OX5.out.arr OY.out.arr).mono ?_
      rintro e w6 ⟨Ag, cg, rfl, -, -, og, b6⟩
      have C6 := hid (chain C5.out b6)
      have OX6 := hid (OX5.out.next b6)
      have OY6 := hid (OY.out.next b6)
      have OG := hid og
      have GLO := hid og.ge
      have e1 := eqIntS_same Ag A0 R cg c0 w6 (by omega) og.arr (Z3.out.next C6.out)
      clear b6 og
      go_wp2_with fail
      refine e1.mono ?_
      rintro e w7 ⟨rfl, b7⟩
      have C7 := hid (chain C6.out b7)
      have OX7 := hid (OX6.out.next b7)
      have OY7 := hid (OY6.out.next b7)
      have OG7 := hid (OG.out.next b7)
      clear b7 e1
      go_wp2_with fail
      refine (HT.out _ _ _ (HA.out.next (chain B3.out C7.out))).mono ?_
      rintro e w8 ⟨A8, c8, rfl, -, -, o8, b8⟩
      have C8 := hid (chain C7.out b8)
      have OX8 := hid (OX7.out.next b8)
      have OY8 := hid (OY7.out.next b8)
      have OG8 := hid (OG7.out.next b8)
      have e2 := eqRectS_same Ax A8 a cx c8 w8 (by omega) OX8.out.arr o8.arr
      clear b8 o8
      go_wp2_with fail
      refine e2.mono ?_
      rintro e w9 ⟨rfl, b9⟩
      have C9 := hid (chain C8.out b9)
      have OX9 := hid (OX8.out.next b9)
      have OY9 := hid (OY8.out.next b9)
      have OG9 := hid (OG8.out.next b9)
      clear b9 e2
      go_wp2_with fail
      refine (HT'.out _ _ _ (HA'.out.next (chain B3.out C9.out))).mono ?_
      rintro e w10 ⟨A10, c10, rfl, -, -, o10, b10⟩
      have C10 := hid (chain C9.out b10)
      have OX10 := hid (OX9.out.next b10)
      have OY10 := hid (OY9.out.next b10)
      have OG10 := hid (OG9.out.next b10)
      have e3 := eqRectS_same Ay A10 b cy c10 w10 (by omega) OY10.out.arr o10.arr
      clear b10 o10
      go_wp2_with fail
      refine e3.mono ?_
      rintro e w11 ⟨rfl, b11⟩
      have C11 := hid (chain C10.out b11)
      have OX11 := hid (OX10.out.next b11)
      have OY11 := hid (OY10.out.next b11)
      have OG11 := hid (OG10.out.next b11)
      have m1 := markRectS_from 1 (by omega) (by omega) Ax a cx w3.heap.size w11 (by omega) OX11.out
      clear b11 e3
      go_wp2_with fail
      refine m1.mono ?_
      rintro e w12 ⟨rfl, -, k12⟩
      have C12 := hid (k12.below C11.out C11.out.size XLO.out)
      have OY12 := hid (k12.own OY11.out XHI.out)
      have OG12 := hid (k12.own OG11.out (fun hn q hq => Nat.lt_of_lt_of_le (XHI.out hn q hq) D5.out.size))
      have m2 := markRectS_from (1 + 4 * (a.length : Int)) (by omega) (by omega) Ay b cy w4.heap.size w12 (by omega) OY12.out
      clear k12 m1
      go_wp2_with fail
      refine m2.mono ?_
      rintro e w13 ⟨rfl, -, k13⟩
      have C13 := hid (k13.below C12.out C12.out.size (fun hn q hq => Nat.le_trans C4.out.size (YLO.out hn q hq)))
      have OG13 := hid (k13.own OG12.out YHI.out)
      have e4 := eqIntS_same Ag A0 R cg c0 w13 (by omega) OG13.out.arr (Z3.out.next C13.out)
      clear k13 m2
      go_wp2_with fail
      refine e4.mono ?_
      rintro e w14 ⟨rfl, b14⟩
      have C14 := hid (chain C13.out b14)
      have m3 := markIntS_any Ag R cg w5.heap.size w14 (by omega) (OG13.out.next b14)
      clear b14 e4
      go_wp2_with fail
      refine m3.mono ?_
      rintro e w15 ⟨rfl, om, k15⟩
      have C15 := hid (k15.below C14.out C14.out.size (fun hn q hq => Nat.le_trans C5.out.size (GLO.out hn q hq)))
      have OM := hid om
      have hd := heldIntS_any Ag R.length cg w15 (by omega) om.arr
      have hne : ((1 + (R.length : Int)) != (1 + (R.length : Int))) = false := by simp
      clear k15 om m3
      go_wp2_with fail
      refine hd.mono ?_
      rintro e w16 ⟨rfl, rfl⟩
      clear hd
      go_wp2_with fail
      refine (HT.out _ _ _ (HA.out.next (chain B3.out C15.out))).mono ?_
      rintro e w16 ⟨A16, c16, rfl, -, -, o16, b16⟩
      have C16 := hid (chain C15.out b16)
      have F16 := hid b16
      have O16 := hid o16.arr
      clear b16 o16
      go_wp2_with fail
      refine (HT'.out _ _ _ (HA'.out.next (chain B3.out C16.out))).mono ?_
      rintro e w17 ⟨A17, c17, rfl, -, -, o17, b17⟩
      have C17 := hid (chain C16.out b17)
      have F17 := hid (chain F16.out b17)
      have O167 := hid (O16.out.next b17)
      have O17 := hid o17.arr
      clear b17 o17
      go_wp2_with fail
      refine (HWI.out _ _ _ _ _ O167.out O17.out).mono ?_
      rintro e w18 ⟨Ah, ch, rfl, -, -, oh, b18⟩
      have C18 := hid (chain C17.out b18)
      have F18 := hid (chain F17.out b18)
      have e5 := eqIntS_same Ah A0 R ch c0 w18 (by omega) oh.arr (Z3.out.next C18.out)
      clear b18 oh
      go_wp2_with fail
      refine e5.mono ?_
      rintro e w19 ⟨rfl, b19⟩
      have C19 := hid (chain C18.out b19)
      have hd2 := heldIntS_any Ag R.length cg w19 (by omega) (OM.out.arr.next (chain F18.out b19))
      clear b19 e5
      go_wp2_with fail
      refine hd2.mono ?_
      rintro e w20 ⟨rfl, rfl⟩
      clear hd2
      go_wp2
      go_ret
      exact ⟨rfl, chain B3.out C19.out⟩
    · rw [if_neg hbig'] at hs'
      go_enter Try.func8, Try.ntmps8
      go_wp2_with fail
      refine hs.mono ?_
      rintro e w0 ⟨rfl, rfl⟩
      clear hs
      go_wp2_with fail
      refine hs'.mono ?_
      rintro e w0 ⟨rfl, rfl⟩
      clear hs'
      go_wp2
      go_ret
      exact ⟨rfl, Below.refl _ _⟩
  · rw [if_neg (by omega)] at hs
    go_enter Try.func8, Try.ntmps8
    go_wp2_with fail
    refine hs.mono ?_
    rintro e w1 ⟨rfl, rfl⟩
    clear hs
    go_wp2
    go_ret
    exact ⟨rfl, Below.refl _ _⟩
end Go.Proofs.Ythejkmdodjchiaa
