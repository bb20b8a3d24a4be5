/- FnWrapHeight: the walk. -/
import Derived.Test.YtjkcejijdpmhoaaH6
import Derived.Test.YtjkcejijdpmhoaaL9
import Derived.Test.YtjkcejijdpmhoaaM8
namespace Go.Proofs.Ytjkcejijdpmhoaa
open Go.RowKit Go.Lib

set_option maxHeartbeats 4000000 in
theorem fnWrapHeight_any (A : Option Addr) (cap : Nat) (bs : List Int) (w : World) (h : Code w A cap bs) :
    Calls Try.prog 14 #[.slice A bs.length cap] w (Yes w) := by
  have hcap := h.cap1
  have hcap2 := h.cap2
  by_cases hbig : 1048576 < bs.length
  · clear h
    go_enter Try.func14, Try.ntmps14
    go_wp2
    go_ret
    exact ⟨rfl, Below.refl _ _⟩
  · have hd := drawWrapHeight_any A cap bs w h
    clear h
    go_enter Try.func14, Try.ntmps14
    go_wp2_with fail
    refine hd.mono ?_
    rintro e w1 ⟨A', c, L, x, y, rfl, hL, hc1, hc2, o1, b1⟩
    have B1 := hid b1
    have H1 := hid o1.arr
    have hlc := wrapHeight_any A' L c x y w1 (by omega) hc1 hc2 H1.out
    have HW := hid (fun w h => wrapParts_any A' L c x y w (by omega) hc1 hc2 h)
    have HS := hid (fun w h => specWrapHeight_any A' L c x y w (by omega) h)
    have HPOS := hid (high_neg (L := L) (x := x) (y := y))
    have HR := hid (fun a b c d => rects_high (L := L) (width := x) (gap := y) a b c d)
    have HNIL : Aside (0 ≤ highOf L x y → L.length = 0 → highOf L x y = 0) := fun h1 h2 => by
      have hok := high_neg h1
      have : L = [] := List.eq_nil_of_length_eq_zero h2
      subst this
      exact high_nil hok
    have HRL := hid (fun h => rects_len (L := L) (width := x) (gap := y) h)
    have HRB := hid (fun h r hr => rect_bd (L := L) (width := x) (gap := y) h (r := r) hr)
    generalize highOf L x y = n at *
    generalize rectsOf L x y = Rs at *
    have hne : (n != n) = false := by simp
    have hee : (n == n) = true := by simp
    clear b1 o1 hd
    go_wp2_with fail
    refine hlc.mono ?_
    rintro e w2 ⟨rfl, b2⟩
    have B2 := hid (chain B1.out b2)
    have H2 := hid (H1.out.next b2)
    have hsc := HS.out w2 H2.out
    clear b2 hlc
    by_cases hn : n < 0 ∨ L.length = 0
    · by_cases hn' : n < 0
      · clear hn
        go_wp2_with fail
        refine hsc.mono ?_
        rintro e w3 ⟨rfl, b3⟩
        have B3 := hid (chain B2.out b3)
        have hsc := HS.out w3 (H2.out.next b3)
        clear b3
        go_wp2_with fail
        refine hsc.mono ?_
        rintro e w4 ⟨rfl, b4⟩
        have B4 := hid (chain B3.out b4)
        clear b4 hsc
        go_wp2
        go_ret
        exact ⟨rfl, B4.out⟩
      · have hz : L.length = 0 := by rcases hn with h | h; exact absurd h hn'; exact h
        have h0' : ((L.length : Int) == 0) = true := by rw [beq_iff_eq]; omega
        have hz' : ¬ ((L.length : Int) > 0) := by omega
        have hn0 := HNIL.out (by omega) hz
        have hn0' : (n == 0) = true := by rw [hn0]; rfl
        have HN0 := hid hn0
        have HZ := hid hz
        clear hn hz hn0
        go_wp2_with fail
        refine hsc.mono ?_
        rintro e w3 ⟨rfl, b3⟩
        have B3 := hid (chain B2.out b3)
        have hsc := HS.out w3 (H2.out.next b3)
        clear b3
        go_wp2_with fail
        refine hsc.mono ?_
        rintro e w4 ⟨rfl, b4⟩
        have B4 := hid (chain B3.out b4)
        clear b4 hsc
        go_wp2
        all_goals first | (exact absurd (List.eq_nil_of_length_eq_zero HZ.out) ‹¬ L = []›) | (go_ret; exact ⟨rfl, B4.out⟩)
    · have hn' : ¬ n < 0 := fun h => hn (.inl h)
      have h0 : 0 < L.length := by rcases Nat.eq_zero_or_pos L.length with h | h; exact absurd (.inr h) hn; exact h
      have h0' : ((L.length : Int) == 0) = false := by rw [beq_eq_false_iff_ne]; omega
      have hok := HPOS.out (by omega)
      obtain ⟨hv, ⟨hx0, hx1⟩, hy0, hy1⟩ := okL_bd hok
      have hrl := HRL.out hok
      obtain ⟨hhi, hsome⟩ := HR.out hok (validL_iff.1 hv).2 hy0 h0
      have HHI := hid hhi
      have HSO := hid hsome
      have HBD := hid (HRB.out hok)
      have hRl : Rs.length ≤ 13 := by omega
      clear hn hok hv hhi hsome HR HPOS HRL HRB HNIL hrl
      go_wp2_with fail
      refine hsc.mono ?_
      rintro e w3 ⟨rfl, b3⟩
      have B3 := hid (chain B2.out b3)
      have hww := HW.out w3 (H2.out.next b3)
      clear b3 hsc
      go_wp2_with fail
      refine hww.mono ?_
      rintro e w4 ⟨A4, c4, rfl, -, -, o4, b4⟩
      have B4 := hid (chain B3.out b4)
      have O4 := hid o4.arr
      clear o4 b4 hww
      go_wp2
      go_loopg [8, 9] Rs.length (fun gg s8 s9 wr => ∃ (i : Nat) (sm : Bool), i ≤ Rs.length ∧ Rs.length - i ≤ gg ∧ s9 = .int .i64 i ∧ s8 = .bool sm ∧ Aside (sm = (Rs.take i).any fun r => r.Y + r.H == n) ∧ Aside (Below w4.heap.size w4 wr))
      case atStart => exact ⟨0, false, Nat.zero_le _, by omega, rfl, rfl, (show _ = _ by simp), Below.refl _ _⟩
      case round =>
        obtain ⟨i, sm, hi, hgg, rfl, rfl, S, R⟩ := hrel
        by_cases hlt : i < Rs.length
        · obtain ⟨b, off, r, rfl, hb, hr, q0, q1, q2, q3⟩ := (O4.out.below R.out).atRect hlt
          obtain ⟨-, ⟨ry0, ry1⟩, -, rh0, rh1⟩ := HBD.out r (List.mem_of_getElem? hr)
          have hle := HHI.out r (List.mem_of_getElem? hr)
          have HRr := hid hr
          have i3 : (0 : Int) ≤ (i : Int) := by omega
          have i4 : (i : Int) < (Rs.length : Int) := by omega
          have hgt : decide (r.Y + r.H > n) = false := by simp; omega
          clear hr q0 q2
          cases hsm : sm with
          | true =>
            have S1 : Aside (true = (Rs.take (i + 1)).any fun r => r.Y + r.H == n) := by
              show _ = _
              rw [take_next HRr.out, List.any_append, ← S.out, hsm]
              rfl
            clear S
            go_wp2_with fail
            go_quiet (fail)
            go_wp2_with fail
            go_quiet (fail)
            go_wp2
            go_roundg (Rs.length - (i + 1))
            case measure => omega
            case rel => exact ⟨i + 1, true, by omega, by omega, by go_num, rfl, S1, Below_drewN R.out _⟩
          | false =>
            have S1 : Aside ((r.Y + r.H == n) = (Rs.take (i + 1)).any fun r => r.Y + r.H == n) := by
              show _ = _
              rw [take_next HRr.out, List.any_append, ← S.out, hsm]
              simp
            clear S
            go_wp2_with fail
            go_quiet (fail)
            go_wp2_with fail
            go_quiet (fail)
            go_wp2
            go_roundg (Rs.length - (i + 1))
            case measure => omega
            case rel => exact ⟨i + 1, r.Y + r.H == n, by omega, by omega, by go_num, by go_num, S1, Below_drewN R.out _⟩
        · have hiC : i = Rs.length := by omega
          have hsm : sm = true := by
            rw [S.out, hiC, List.take_length, List.any_eq_true]
            obtain ⟨r, hr, he⟩ := HSO.out
            exact ⟨r, hr, by rw [he]; simp⟩
          subst hsm
          have HRb := hid R.out
          clear R
          go_wp2
          go_ret
          exact ⟨rfl, chain B4.out HRb.out⟩
end Go.Proofs.Ytjkcejijdpmhoaa
