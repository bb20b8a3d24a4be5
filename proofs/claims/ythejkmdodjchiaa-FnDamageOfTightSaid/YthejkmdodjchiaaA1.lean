/- FnChangedRects: the walk. -/
import Derived.Test.YthejkmdodjchiaaN6
import Derived.Test.YthejkmdodjchiaaDR2
import Derived.Test.YthejkmdodjchiaaQI
namespace Go.Proofs.Ythejkmdodjchiaa
open Go.RowKit Go.Lib

/-- Two structures, field by field. -/
theorem rect_ways (x y : RectD) : (x = y ∧ (x.X == y.X) = true ∧ (x.Y == y.Y) = true ∧ (x.W == y.W) = true ∧ (x.H == y.H) = true) ∨ (x ≠ y ∧ ((x.X == y.X) = false ∨ ((x.X == y.X) = true ∧ (x.Y == y.Y) = false) ∨ ((x.X == y.X) = true ∧ (x.Y == y.Y) = true ∧ (x.W == y.W) = false) ∨ ((x.X == y.X) = true ∧ (x.Y == y.Y) = true ∧ (x.W == y.W) = true ∧ (x.H == y.H) = false))) := by
  by_cases h : x = y
  · subst h; simp
  · refine .inr ⟨h, ?_⟩
    have hd : (x.X == y.X && (x.Y == y.Y && (x.W == y.W && x.H == y.H))) = false := by
      rw [Bool.eq_false_iff]
      intro e
      simp only [Bool.and_eq_true, beq_iff_eq] at e
      exact h (RectD.eq_iff.2 e)
    revert hd
    cases (x.X == y.X) <;> cases (x.Y == y.Y) <;> cases (x.W == y.W) <;> cases (x.H == y.H) <;> simp

set_option maxHeartbeats 4000000 in
theorem fnChangedRects_any (A : Option Addr) (cap : Nat) (bs : List Int) (w : World) (h : Code w A cap bs) :
    Calls Try.prog 6 #[.slice A bs.length cap] w (Yes w) := by
  have hcap := h.cap1
  have hcap2 := h.cap2
  by_cases hbig : 1048576 < bs.length
  · clear h
    go_enter Try.func6, Try.ntmps6
    go_wp2
    go_ret
    exact ⟨rfl, Below.refl _ _⟩
  · have hd := drawChangedRects_any A cap bs w h
    clear h
    go_enter Try.func6, Try.ntmps6
    go_wp2_with fail
    refine hd.mono ?_
    rintro e w1 ⟨A3, c3, a, A4, c4, b, rfl, hla, hlb, o3, o4, b1⟩
    have B1 := hid b1
    have H3 := hid o3.arr
    have H4 := hid o4.arr
    have HI := hid (fun w h h' => changedRects_any A3 A4 a b c3 c4 w (by omega) (by omega) h h')
    have HS := hid (fun w h h' => specChangedRects_any A3 A4 a b c3 c4 w (by omega) (by omega) h h')
    have HR := hid (fun w h h' => changedRects_any A4 A3 b a c4 c3 w (by omega) (by omega) h h')
    have HF := hid (fun w h => changedRects_any A3 A3 a a c3 c3 w (by omega) (by omega) h h)
    rw [chgOf_comm] at HR
    rw [chgOf_self] at HF
    have hlen := chgOf_len a b
    have HOK : Aside (0 < (chgOf a b).length → chgOk a b = true) := chgOk_of
    have HHAS : Aside (chgOk a b = true → ∀ i, i < a.length → (chgOf a b).contains (i : Int) = neAt a b i) := fun hk i hi => by
      unfold chgOf
      rw [hk]
      exact chg_has hi
    generalize chgOf a b = L at *
    clear b1 o3 o4 hd
    go_wp2_with fail
    refine (HI.out _ H3.out H4.out).mono ?_
    rintro e w2 ⟨A2, e2, rfl, -, -, o2, b2⟩
    have B2 := hid (chain B1.out b2)
    have L2 := hid o2.arr
    have H32 := hid (H3.out.next b2)
    have H42 := hid (H4.out.next b2)
    clear o2 b2
    go_wp2_with fail
    refine (HS.out _ H32.out H42.out).mono ?_
    rintro e w3 ⟨A5, c5, rfl, -, -, o5, b3⟩
    have B3 := hid (chain B2.out b3)
    have L3 := hid (L2.out.next b3)
    have H33 := hid (H32.out.next b3)
    have H43 := hid (H42.out.next b3)
    have he := equalInts_same A2 A5 L e2 c5 w3 (by omega) L3.out o5.arr
    clear o5 b3
    go_wp2_with fail
    refine he.mono ?_
    rintro e w4 ⟨rfl, b4⟩
    have B4 := hid (chain B3.out b4)
    have L4 := hid (L3.out.next b4)
    have H34 := hid (H33.out.next b4)
    have H44 := hid (H43.out.next b4)
    clear b4 he
    by_cases h0 : L.length = 0
    · have h0' : ((L.length : Int) == 0) = true := by rw [beq_iff_eq]; omega
      have H0 := hid h0
      clear h0
      go_wp2_with fail
      refine (HS.out _ H34.out H44.out).mono ?_
      rintro e w5 ⟨A6, c6, rfl, -, -, o6, b5⟩
      have B5 := hid (chain B4.out b5)
      have he := equalInts_same A2 A6 L e2 c6 w5 (by omega) (L4.out.next b5) o6.arr
      clear o6 b5
      go_wp2_with fail
      refine he.mono ?_
      rintro e w6 ⟨rfl, b6⟩
      have B6 := hid (chain B5.out b6)
      clear b6 he
      go_wp2
      go_ret
      exact ⟨rfl, B6.out⟩
    · have h0' : ((L.length : Int) == 0) = false := by rw [beq_eq_false_iff_ne]; omega
      have hk := HOK.out (by omega)
      have HK := hid (HHAS.out hk)
      have hab := (chgOk_iff.1 hk).2.2
      have hbl : ∀ i, i < a.length → i < b.length := fun i hi => by omega
      have HBL := hid hbl
      clear h0 hk HOK HHAS hab hbl
      go_wp2
      go_loopg [6] a.length (fun gg s6 wr => ∃ i : Nat, i ≤ a.length ∧ a.length - i ≤ gg ∧ s6 = .int .i64 i ∧ Aside (Below w4.heap.size w4 wr))
      case atStart => exact ⟨0, Nat.zero_le _, by omega, rfl, Below.refl _ _⟩
      case round =>
        obtain ⟨i, hi, hgg, rfl, R⟩ := hrel
        by_cases hlt : i < a.length
        · obtain ⟨p, off, x, rfl, hp, hx, c1, c2, c3, c4⟩ := (H34.out.below R.out).atRect hlt
          obtain ⟨p', off', y, rfl, hp', hy, d1, d2, d3, d4⟩ := (H44.out.below R.out).atRect (HBL.out i hlt)
          have hne := neAt_of hx hy
          rw [← HK.out i hlt] at hne
          have hin : ∀ n, Calls Try.prog 26 #[.slice A2 L.length e2, .int .i64 (i : Int)] (wr.drewN n) fun e w' => e = .returned (.bool (L.contains (i : Int))) ∧ w' = wr.drewN n := fun n =>
            (isIn_any A2 L e2 (i : Int) (wr.drewN n) (by omega) (show Arr wr wr.heap.size 1 encI A2 L from (L4.out.below R.out).more R.out.size)).mono fun _ _ ⟨h1, h2⟩ => ⟨h1, h2.symm⟩
          rw [hne] at hin
          have i1 : (0 : Int) ≤ (i : Int) := by omega
          have i2 : (i : Int) < (a.length : Int) := by omega
          have i3 : (i : Int) < (b.length : Int) := by have := HBL.out i hlt; omega
          clear hx hy hne
          rcases rect_ways x y with ⟨hxy, q1, q2, q3, q4⟩ | ⟨hxy, hw⟩
          · have hq : decide (x ≠ y) = false := by simp [hxy]
            rw [hq] at hin
            have HIN := hid hin
            clear hxy hq hin
            go_wp2_with fail
            go_quiet ((go_at_call 26; exact Calls.quiet_of_same (HIN.out _)))
            go_wp2
            go_roundg (a.length - (i + 1))
            case measure => omega
            case rel => exact ⟨i + 1, by omega, by omega, by go_num, Below_drewN R.out nq⟩
          · have hq : decide (x ≠ y) = true := by simp [hxy]
            rw [hq] at hin
            have HIN := hid hin
            clear hxy hq hin
            rcases hw with q1 | ⟨q1, q2⟩ | ⟨q1, q2, q3⟩ | ⟨q1, q2, q3, q4⟩
            all_goals
              go_wp2_with fail
              go_quiet ((go_at_call 26; exact Calls.quiet_of_same (HIN.out _)))
              go_wp2
              go_roundg (a.length - (i + 1))
              case measure => omega
              case rel => exact ⟨i + 1, by omega, by omega, by go_num, Below_drewN R.out nq⟩
        · have B5 := hid (chain B4.out R.out)
          have H35 := hid (H34.out.next R.out)
          have H45 := hid (H44.out.next R.out)
          have L5 := hid (L4.out.next R.out)
          clear R
          go_wp2_with fail
          refine (HR.out _ H45.out H35.out).mono ?_
          rintro e w6 ⟨A6, c6, rfl, -, -, o6, b6⟩
          have B6 := hid (chain B5.out b6)
          have H36 := hid (H35.out.next b6)
          have he := equalInts_same A6 A2 L c6 e2 w6 (by omega) o6.arr (L5.out.next b6)
          clear b6 o6
          go_wp2_with fail
          refine he.mono ?_
          rintro e w7 ⟨rfl, b7⟩
          have B7 := hid (chain B6.out b7)
          have H37 := hid (H36.out.next b7)
          clear b7 he
          go_wp2_with fail
          refine (HF.out _ H37.out).mono ?_
          rintro e w8 ⟨A8, c8, rfl, -, -, -, b8⟩
          have B8 := hid (chain B7.out b8)
          clear b8
          go_wp2
          go_ret
          exact ⟨rfl, B8.out⟩
end Go.Proofs.Ythejkmdodjchiaa
