/- FnExactDamageOf, FnExactChangedRects: the walks. -/
import Derived.Test.YthejkmdodjchiaaN7
import Derived.Test.YthejkmdodjchiaaYRect
namespace Go.Proofs.Ythejkmdodjchiaa
open Go.RowKit Go.Lib

set_option maxHeartbeats 4000000 in
theorem fnExactDamageOf_any (A : Option Addr) (a : List RectD) (c : Nat) (A' : Option Addr) (b : List RectD) (c' : Nat) (w : World) (h : Arr w w.heap.size 4 encRect A a) (_hc1 : a.length ≤ c) (hc2 : c ≤ maxLen) (h' : Arr w w.heap.size 4 encRect A' b) (_hc1' : b.length ≤ c') (hc2' : c' ≤ maxLen) :
    Calls Try.prog 7 #[.slice A a.length c, .slice A' b.length c'] w (Yes w) := by
  have hmax : a.length ≤ 9223372036854775807 := by simp only [maxLen] at hc2; omega
  have hmax' : b.length ≤ 9223372036854775807 := by simp only [maxLen] at hc2'; omega
  have hs := szRectS_any A a.length c 1048576 w hmax (by omega) (by omega)
  have HA := hid h
  have HA' := hid h'
  clear hc2 h hc2' h' _hc1 _hc1'
  by_cases hbig : a.length ≤ 1048576
  · rw [if_pos (by omega)] at hs
    have hs' := szRectS_any A' b.length c' (1048576 - (a.length : Int)) w hmax' (by omega) (by omega)
    by_cases hbig' : (b.length : Int) ≤ 1048576 - (a.length : Int)
    · rw [if_pos hbig'] at hs'
      have HWI := hid (fun A A' c c' w => damageOf_any A A' a b c c' w (by omega) (by omega))
      have HWS := hid (fun A A' c c' w => specDamageOf_any A A' a b c c' w (by omega) (by omega))
      have HT := hid (fun A c w => toRectS_any A a c w (by omega))
      have HT' := hid (fun A c w => toRectS_any A b c w (by omega))
      generalize dmgOf a b = r at *
      generalize dmgOk a b = ok at *
      go_enter Try.func7, Try.ntmps7
      go_wp2_with fail
      refine hs.mono ?_
      rintro e w0 ⟨rfl, rfl⟩
      clear hs
      go_wp2_with fail
      refine hs'.mono ?_
      rintro e w0 ⟨rfl, rfl⟩
      clear hs'
      go_wp2_with fail
      refine (HT.out _ _ _ HA.out).mono ?_
      rintro e w1 ⟨A1, c1, rfl, -, -, o1, b1⟩
      have B1 := hid b1
      have O1 := hid o1.arr
      clear b1 o1
      go_wp2_with fail
      refine (HT'.out _ _ _ (HA'.out.next B1.out)).mono ?_
      rintro e w2 ⟨A2, c2, rfl, -, -, o2, b2⟩
      have B2 := hid (chain B1.out b2)
      have O12 := hid (O1.out.next b2)
      have O2 := hid o2.arr
      clear b2 o2
      go_wp2_with fail
      refine (HWS.out _ _ _ _ _ O12.out O2.out).mono ?_
      rintro e w3 ⟨rfl, b3⟩
      have B3 := hid (chain B2.out b3)
      have AL : ∀ (W : World) o, Below W.heap.size W (W.alloc o) := fun W o => (Below.refl _ _).alloc (Nat.le_refl _) _
      have HAL := hid AL
      clear b3 AL
      go_wp2_with fail
      refine (HT.out _ _ _ ((HA.out.next B3.out).next (HAL.out _ _))).mono ?_
      rintro e w4 ⟨Ax, cx, rfl, -, -, ox, b4⟩
      have hz4 : w3.heap.size < w4.heap.size := by have := b4.size; simp at this; omega
      have K4 := hid ((b4.block w3.heap.size (by simp)).trans (heap_alloc_new w3 _))
      have B4 := hid (chain B3.out ((HAL.out _ _).trans (b4.mono (by simp))))
      have OX := hid ox.arr
      clear b4 ox
      go_wp2_with fail
      refine (HT'.out _ _ _ (HA'.out.next B4.out)).mono ?_
      rintro e w5 ⟨Ay, cy, rfl, -, -, oy, b5⟩
      have hz5 : w3.heap.size < w5.heap.size := by have := b5.size; omega
      have K5 := hid ((b5.block _ hz4).trans K4.out)
      have B5 := hid (chain B4.out b5)
      have OX5 := hid (OX.out.next b5)
      have OY := hid oy.arr
      clear b5 oy
      go_wp2_with fail
      refine (HWI.out _ _ _ _ _ OX5.out OY.out).mono ?_
      rintro e w6 ⟨rfl, b6⟩
      have hz6 : w3.heap.size < w6.heap.size := by have := b6.size; omega
      have K6 := hid ((b6.block _ hz5).trans K5.out)
      have B6 := hid (chain B5.out b6)
      have OX6 := hid ((OX5.out.next b6).next (HAL.out _ (.cells #[.int .i64 r.X, .int .i64 r.Y, .int .i64 r.W, .int .i64 r.H] 27)))
      have OY6 := hid ((OY.out.next b6).next (HAL.out _ (.cells #[.int .i64 r.X, .int .i64 r.Y, .int .i64 r.W, .int .i64 r.H] 27)))
      obtain ⟨⟨k1, k2, k3, k4⟩, -⟩ := cell4 K6.out
      have he := fun W => eqRect_same r W
      have HE := hid he
      clear b6 he
      go_wp2_with fail
      refine (HE.out _).mono ?_
      rintro e w7 ⟨rfl, b7⟩
      have B7 := hid (chain B6.out ((HAL.out _ _).trans (b7.mono (by simp))))
      have OX7 := hid (OX6.out.next b7)
      have OY7 := hid (OY6.out.next b7)
      have hee : (ok != ok) = false := by cases ok <;> rfl
      clear b7
      go_wp2_with fail
      refine (HT.out _ _ _ (HA.out.next B7.out)).mono ?_
      rintro e w8 ⟨A8, c8, rfl, -, -, o8, b8⟩
      have B8 := hid (chain B7.out b8)
      have e8 := eqRectS_same Ax A8 a cx c8 w8 (by omega) (OX7.out.next b8) o8.arr
      have OY8 := hid (OY7.out.next b8)
      clear b8 o8
      go_wp2_with fail
      refine e8.mono ?_
      rintro e w9 ⟨rfl, b9⟩
      have B9 := hid (chain B8.out b9)
      have OY9 := hid (OY8.out.next b9)
      clear b9 e8
      go_wp2_with fail
      refine (HT'.out _ _ _ (HA'.out.next B9.out)).mono ?_
      rintro e w10 ⟨A10, c10, rfl, -, -, o10, b10⟩
      have B10 := hid (chain B9.out b10)
      have e10 := eqRectS_same Ay A10 b cy c10 w10 (by omega) (OY9.out.next b10) o10.arr
      clear b10 o10
      go_wp2_with fail
      refine e10.mono ?_
      rintro e w11 ⟨rfl, b11⟩
      have B11 := hid (chain B10.out b11)
      clear b11 e10
      go_wp2
      go_ret
      exact ⟨rfl, B11.out⟩
    · rw [if_neg hbig'] at hs'
      go_enter Try.func7, Try.ntmps7
      go_wp2_with fail
      refine hs.mono ?_
      rintro e w0 ⟨rfl, rfl⟩
      clear hs
      go_wp2_with fail
      refine hs'.mono ?_
      rintro e w0 ⟨rfl, rfl⟩
      clear hs'
      go_wp2
      go_ret
      exact ⟨rfl, Below.refl _ _⟩
  · rw [if_neg (by omega)] at hs
    go_enter Try.func7, Try.ntmps7
    go_wp2_with fail
    refine hs.mono ?_
    rintro e w1 ⟨rfl, rfl⟩
    clear hs
    go_wp2
    go_ret
    exact ⟨rfl, Below.refl _ _⟩
end Go.Proofs.Ythejkmdodjchiaa
