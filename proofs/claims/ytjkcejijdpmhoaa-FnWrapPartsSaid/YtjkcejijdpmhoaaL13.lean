/- FnWrapPartsWidth: the walk. -/
import Derived.Test.YtjkcejijdpmhoaaL12
import Derived.Test.YtjkcejijdpmhoaaM9
import Derived.Test.YtjkcejijdpmhoaaQ
namespace Go.Proofs.Ytjkcejijdpmhoaa
open Go.RowKit Go.Lib

set_option maxHeartbeats 4000000 in
theorem fnWrapPartsWidth_any (A : Option Addr) (cap : Nat) (bs : List Int) (w : World) (h : Code w A cap bs) :
    Calls Try.prog 15 #[.slice A bs.length cap] w (Yes w) := by
  have hcap := h.cap1
  have hcap2 := h.cap2
  by_cases hbig : 1048576 < bs.length
  · clear h
    go_enter Try.func15, Try.ntmps15
    go_wp2
    go_ret
    exact ⟨rfl, Below.refl _ _⟩
  · have hd := drawWrapParts_any A cap bs w h
    clear h
    go_enter Try.func15, Try.ntmps15
    go_wp2_with fail
    refine hd.mono ?_
    rintro e w1 ⟨A', c, L, x, y, rfl, hL, hc1, hc2, o1, b1⟩
    have B1 := hid b1
    have H1 := hid o1.arr
    have HW := hid (fun w h => wrapParts_any A' L c x y w (by omega) hc1 hc2 h)
    have HS := hid (fun w h => specWrapParts_any A' L c x y w (by omega) h)
    have hlen := rects_len12 L x y
    have HSOME := hid (fun h => rects_some (L := L) (width := x) (gap := y) h)
    have HWIDE := hid (fun h => rects_wide (L := L) (width := x) (gap := y) h)
    have HFST := hid (fun h h0 => rects_first (L := L) (width := x) (gap := y) h h0)
    have HRB := hid (fun h r hr => rect_bd (L := L) (width := x) (gap := y) h (r := r) hr)
    generalize rectsOf L x y = Rs at *
    clear b1 o1 hd
    go_wp2_with fail
    refine (HW.out _ H1.out).mono ?_
    rintro e w2 ⟨A2, c2, rfl, -, -, o2, b2⟩
    have B2 := hid (chain B1.out b2)
    have H2 := hid (H1.out.next b2)
    have O2 := hid o2.arr
    clear b2 o2
    go_wp2_with fail
    refine (HS.out _ H2.out).mono ?_
    rintro e w3 ⟨A3, c3, rfl, -, -, o3, b3⟩
    have B3 := hid (chain B2.out b3)
    have H3 := hid (H2.out.next b3)
    have O3 := hid (O2.out.next b3)
    have HE := hid (equalRects_same A2 A3 Rs c2 c3 w3 (by omega) O3.out o3.arr)
    clear b3 o3
    go_wp2_with fail
    refine HE.out.mono ?_
    rintro e w4 ⟨rfl, b4⟩
    have B4 := hid (chain B3.out b4)
    have H4 := hid (H3.out.next b4)
    have O4 := hid (O3.out.next b4)
    clear b4
    by_cases h0 : Rs.length = 0
    · have h0' : ((Rs.length : Int) == 0) = true := by rw [beq_iff_eq]; omega
      have H0 := hid h0
      clear h0
      go_wp2_with fail
      refine (HS.out _ H4.out).mono ?_
      rintro e w5 ⟨A5, c5, rfl, -, -, o5, b5⟩
      have B5 := hid (chain B4.out b5)
      have HE2 := hid (equalRects_same A2 A5 Rs c2 c5 w5 (by omega) (O4.out.next b5) o5.arr)
      clear o5 b5
      go_wp2_with fail
      refine HE2.out.mono ?_
      rintro e w6 ⟨rfl, b6⟩
      have B6 := hid (chain B5.out b6)
      clear b6
      go_wp2
      go_ret
      exact ⟨rfl, B6.out⟩
    · have h0' : ((Rs.length : Int) == 0) = false := by rw [beq_eq_false_iff_ne]; omega
      have h0p : 0 < Rs.length := by omega
      obtain ⟨hok, -, hl0⟩ := HSOME.out h0p
      have HWD := hid (HWIDE.out hok)
      have HF := hid (HFST.out hok hl0)
      have HBD := hid (HRB.out hok)
      obtain ⟨-, ⟨hx0, hx1⟩, ⟨hy0, hy1⟩, -⟩ := okL_parts hok
      clear h0 hok HSOME HWIDE HFST HRB
      go_wp2
      go_loopg [7] Rs.length (fun gg s8 wr => ∃ (i : Nat), i ≤ Rs.length ∧ Rs.length - i ≤ gg ∧ s8 = .int .i64 i ∧ Aside (Below w4.heap.size w4 wr))
      case atStart => exact ⟨0, Nat.zero_le _, by omega, rfl, Below.refl _ _⟩
      case round =>
        obtain ⟨i, hi, hgg, rfl, R⟩ := hrel
        by_cases hlt : i < Rs.length
        · obtain ⟨b, off, r, rfl, hb, hr, q0, q1, q2, q3⟩ := (O4.out.below R.out).atRect hlt
          obtain ⟨⟨rx0, rx1⟩, -, ⟨rw0, rw1⟩, -⟩ := HBD.out r (List.mem_of_getElem? hr)
          have hle := HWD.out r (List.mem_of_getElem? hr)
          have i3 : (0 : Int) ≤ (i : Int) := by omega
          have i4 : (i : Int) < (Rs.length : Int) := by omega
          clear hr q1 q3
          by_cases hp : 0 < r.X
          · have hgt : decide (r.X + r.W > x) = false := by simp; omega
            have hp' : decide (r.X > 0) = true := by simp; omega
            clear hle
            go_wp2_with fail
            go_quiet (fail)
            go_wp2
            go_roundg (Rs.length - (i + 1))
            case measure => omega
            case rel => exact ⟨i + 1, by omega, by omega, by go_num, Below_drewN R.out _⟩
          · have hp' : decide (r.X > 0) = false := by simp; omega
            clear hle
            go_wp2_with fail
            go_quiet (fail)
            go_wp2
            go_roundg (Rs.length - (i + 1))
            case measure => omega
            case rel => exact ⟨i + 1, by omega, by omega, by go_num, Below_drewN R.out _⟩
        · obtain ⟨r0, hr0, hz0, hz1⟩ := HF.out
          obtain ⟨b, off, r, rfl, hb, hr, q0, q1, q2, q3⟩ := (O4.out.below R.out).atRect h0p
          have e := hr.symm.trans hr0
          injection e with e
          subst e
          simp only [Nat.zero_mul, Nat.add_zero] at q0 q1
          rw [hz0] at q0
          rw [hz1] at q1
          have h0i : (0 : Int) < (Rs.length : Int) := by omega
          clear hr hr0 hz0 hz1 q2 q3 HF
          go_wp2
          go_ret
          exact ⟨rfl, chain B4.out R.out⟩
end Go.Proofs.Ytjkcejijdpmhoaa
