/- FnWrapHeightWide: the walk. -/
import Derived.Test.YtjkcejijdpmhoaaD3
import Derived.Test.YtjkcejijdpmhoaaL9
import Derived.Test.YtjkcejijdpmhoaaM6
namespace Go.Proofs.Ytjkcejijdpmhoaa
open Go.RowKit Go.Lib

set_option maxHeartbeats 2000000 in
theorem fnWrapHeightWide_any (A : Option Addr) (cap : Nat) (bs : List Int) (w : World) (h : Code w A cap bs) :
    Calls Try.prog 10 #[.slice A bs.length cap] w (Yes w) := by
  have hcap := h.cap1
  have hcap2 := h.cap2
  by_cases hbig : 1048576 < bs.length
  · clear h
    go_enter Try.func10, Try.ntmps10
    go_wp2
    go_ret
    exact ⟨rfl, Below.refl _ _⟩
  · have hd := drawWrapHeightW_any A cap bs w h
    clear h
    go_enter Try.func10, Try.ntmps10
    go_wp2_with fail
    refine hd.mono ?_
    rintro e w1 ⟨A', c, L, x, y, rfl, hsm, hL, hc1, hc2, o1, b1⟩
    have B1 := hid b1
    have H1 := hid o1.arr
    have hlc := wrapHeight_any A' L c x y w1 (by omega) hc1 hc2 H1.out
    have HI := hid (fun w h => wrapHeight_any A' L c 10000 y w (by omega) hc1 hc2 h)
    have HS := hid (fun w h => specWrapHeight_any A' L c x y w (by omega) h)
    have HSM := hid hsm
    have HPOS := hid (high_neg (L := L) (x := x) (y := y))
    have HGE := hid (fun a b c d => high_ge (L := L) (width := x) (gap := y) a b c d)
    generalize highOf L x y = n at *
    have hne : (n != n) = false := by simp
    have hee : (n == n) = true := by simp
    clear b1 o1 hd hsm
    go_wp2_with fail
    refine hlc.mono ?_
    rintro e w2 ⟨rfl, b2⟩
    have B2 := hid (chain B1.out b2)
    have H2 := hid (H1.out.next b2)
    have hsc := HS.out w2 H2.out
    clear b2 hlc
    by_cases hn : n < 0 ∨ L.length = 0
    · by_cases hn' : n < 0
      · clear hn
        go_wp2_with fail
        refine hsc.mono ?_
        rintro e w3 ⟨rfl, b3⟩
        have B3 := hid (chain B2.out b3)
        have hsc := HS.out w3 (H2.out.next b3)
        clear b3
        go_wp2_with fail
        refine hsc.mono ?_
        rintro e w4 ⟨rfl, b4⟩
        have B4 := hid (chain B3.out b4)
        clear b4 hsc
        go_wp2
        go_ret
        exact ⟨rfl, B4.out⟩
      · have h0' : ((L.length : Int) == 0) = true := by rw [beq_iff_eq]; omega
        have HZ := hid hn
        clear hn
        go_wp2_with fail
        refine hsc.mono ?_
        rintro e w3 ⟨rfl, b3⟩
        have B3 := hid (chain B2.out b3)
        have hsc := HS.out w3 (H2.out.next b3)
        clear b3
        go_wp2_with fail
        refine hsc.mono ?_
        rintro e w4 ⟨rfl, b4⟩
        have B4 := hid (chain B3.out b4)
        clear b4 hsc
        go_wp2
        go_ret
        exact ⟨rfl, B4.out⟩
    · have hn' : ¬ n < 0 := fun h => hn (.inl h)
      have h0 : 0 < L.length := by rcases Nat.eq_zero_or_pos L.length with h | h; exact absurd (.inr h) hn; exact h
      have h0' : ((L.length : Int) == 0) = false := by rw [beq_eq_false_iff_ne]; omega
      have hok := HPOS.out (by omega)
      obtain ⟨hv, ⟨hx0, hx1⟩, hy0, hy1⟩ := okL_bd hok
      have hmost := HGE.out hok h0 (validL_iff.1 hv).2 hy0
      have hone := high_one ⟨hy0, hy1⟩ h0 hv HSM.out
      have hI := HI.out
      rw [hone] at hI
      have HII := hid hI
      have HT : ∃ t, Aside (t = tall L) := ⟨_, rfl⟩
      clear hn hok hv hone hI HI HGE HPOS
      have HM := hid hmost
      clear hmost
      go_wp2_with fail
      refine hsc.mono ?_
      rintro e w3 ⟨rfl, b3⟩
      have B3 := hid (chain B2.out b3)
      have H3 := hid (H2.out.next b3)
      clear b3 hsc
      go_wp2
      go_loop [7, 8] (fun s7 s8 => ∃ (i : Nat) (m : Int), i ≤ L.length ∧ s8 = .int .i64 i ∧ s7 = .int .i64 m ∧ Aside (m = tall (L.take i))) (fun _ s8 => L.length - (intOf s8).toNat)
      case atStart => exact ⟨0, 0, Nat.zero_le _, rfl, rfl, rfl⟩
      case round =>
        obtain ⟨i, m, hi, rfl, rfl, M⟩ := hrel
        by_cases hlt : i < L.length
        · obtain ⟨b, off, u, v, rfl, hb, hx, r1, r2⟩ := H3.out.at2 hlt
          have HX := hid hx
          clear hx
          go_wp2
          all_goals
            go_round
            case measure => simp [intOf]; omega
            case rel =>
              refine ⟨i + 1, _, by omega, by go_num, rfl, ?_⟩
              have e := tall_take HX.out
              rw [← M.out] at e
              simp only at e
              show _ = _
              omega
        · have hiL : i = L.length := by omega
          subst hiL
          have hm := M.out
          rw [List.take_length] at hm
          have hge := HM.out
          have hw := HII.out w3 H3.out
          rw [← hm] at hge hw
          have hmm : (m == m) = true := by simp
          clear hm M
          go_wp2_with fail
          refine hw.mono ?_
          rintro e w4 ⟨rfl, b4⟩
          have B4 := hid (chain B3.out b4)
          clear b4 hw
          go_wp2
          go_ret
          exact ⟨by simp, B4.out⟩
end Go.Proofs.Ytjkcejijdpmhoaa
