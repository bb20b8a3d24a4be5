/- FnLineCounts: the walk. -/
import Derived.Test.YtjkcejijdpmhoaaG
namespace Go.Proofs.Ytjkcejijdpmhoaa
open Go.RowKit Go.Lib

set_option maxHeartbeats 2000000 in
theorem fnLineCounts_any (A : Option Addr) (cap : Nat) (bs : List Int) (w : World) (h : Code w A cap bs) :
    Calls Try.prog 6 #[.slice A bs.length cap] w (Yes w) := by
  have hcap := h.cap1
  have hcap2 := h.cap2
  by_cases hbig : 1048576 < bs.length
  · clear h
    go_enter Try.func6, Try.ntmps6
    go_wp2
    go_ret
    exact ⟨rfl, Below.refl _ _⟩
  · have hd := drawLineCounts_any A cap bs w h
    clear h
    go_enter Try.func6, Try.ntmps6
    go_wp2_with fail
    refine hd.mono ?_
    rintro e w1 ⟨A', c, L, x, y, rfl, hL, hc1, hc2, o1, b1⟩
    have B1 := hid b1
    have H1 := hid o1.arr
    have hlc := lineCounts_any A' L c x y w1 (by omega) hc1 hc2 H1.out
    have hCl := counts_len (x := x) (y := y) hL
    clear b1 o1 hd
    generalize hC : countsOf L x y = C at hlc hCl
    have HC := hid hC
    clear hC
    go_wp2_with fail
    refine hlc.mono ?_
    rintro e w2 ⟨A2, c2, rfl, -, -, o2, b2⟩
    have B2 := hid b2
    have H2 := hid (H1.out.next b2)
    have O2 := hid o2.arr
    have hsc := specLineCounts_any A' L c x y w2 (by omega) H2.out
    rw [HC.out] at hsc
    clear b2 o2 hlc
    go_wp2_with fail
    refine hsc.mono ?_
    rintro e w3 ⟨A3, c3, rfl, -, -, o3, b3⟩
    have B3 := hid b3
    have H3 := hid (H2.out.next b3)
    have heq := equalInts_same A2 A3 C c2 c3 w3 (by omega) (O2.out.next b3) o3.arr
    have O3 := hid (O2.out.next b3)
    clear b3 o3 hsc
    by_cases h0 : C.length = 0
    · have h0' : ((C.length : Int) == 0) = true := by rw [beq_iff_eq]; omega
      have HZ := hid h0
      clear h0
      go_wp2_with fail
      refine heq.mono ?_
      rintro e w4 ⟨rfl, b4⟩
      have B4 := hid b4
      have hsc := specLineCounts_any A' L c x y w4 (by omega) (H3.out.next b4)
      rw [HC.out] at hsc
      have O4 := hid (O3.out.next b4)
      clear b4 heq
      go_wp2_with fail
      refine hsc.mono ?_
      rintro e w5 ⟨A5, c5, rfl, -, -, o5, b5⟩
      have B5 := hid b5
      have heq := equalInts_same A2 A5 C c2 c5 w5 (by omega) (O4.out.next b5) o5.arr
      clear b5 o5 hsc
      go_wp2_with fail
      refine heq.mono ?_
      rintro e w6 ⟨rfl, b6⟩
      have B6 := hid b6
      clear b6 heq
      go_wp2
      go_ret
      exact ⟨rfl, chain (chain (chain (chain (chain B1.out B2.out) B3.out) B4.out) B5.out) B6.out⟩
    · have h0' : ((C.length : Int) == 0) = false := by rw [beq_eq_false_iff_ne]; omega
      have hok := counts_ok (L := L) (x := x) (y := y) (by rw [HC.out]; exact h0)
      have hCe : C = cnt x y L := by rw [← HC.out, countsOf, if_pos hok]
      have hsum : C.sum = (L.length : Int) := by rw [hCe]; exact cnt_sum x y L
      have hCb : ∀ q ∈ C, 0 ≤ q ∧ q ≤ 1000000 := fun q hq => by rw [hCe] at hq; have := cnt_le hq; omega
      have HCE := hid hCe
      have HSUM := hid hsum
      have HCB := hid hCb
      have HOK := hid hok
      clear h0 hok hCe hsum hCb
      go_wp2_with fail
      refine heq.mono ?_
      rintro e w4 ⟨rfl, b4⟩
      have B4 := hid b4
      have H4 := hid (H3.out.next b4)
      have O4 := hid (O3.out.next b4)
      have hsu := sum_any A2 C c2 w4 (by omega) HCB.out O4.out
      rw [HSUM.out] at hsu
      clear b4 heq
      go_wp2_with fail
      refine hsu.mono ?_
      rintro e w5 ⟨rfl, rfl⟩
      clear hsu
      have hCL : C.length = (lines x y L).length := by rw [HCE.out]; simp [cnt]
      obtain ⟨hv, ⟨hx0, hx1⟩, hy0, hy1⟩ := okL_bd HOK.out
      have HV := hid hv
      have HCL := hid hCL
      clear hv hCL
      go_wp2
      go_loop [7, 8] (fun s7 s8 => ∃ i : Nat, i ≤ C.length ∧ s8 = .int .i64 i ∧ s7 = .int .i64 (st (lines x y L) i)) (fun _ s8 => C.length - (intOf s8).toNat)
      case atStart => exact ⟨0, Nat.zero_le _, rfl, rfl⟩
      case round =>
        obtain ⟨i, hi, rfl, rfl⟩ := hrel
        by_cases hlt : i < C.length
        · obtain ⟨g, go, ci, rfl, hg, hci, q1⟩ := O4.out.at1 hlt
          have hl := List.getElem?_eq_getElem (show i < (lines x y L).length by rw [← HCL.out]; exact hlt)
          generalize (lines x y L)[i]'(by rw [← HCL.out]; exact hlt) = l at hl
          have hlc : ci = (l.length : Int) := by
            have := cnt_at hl
            rw [← HCE.out, hci] at this
            injection this
          subst hlc
          have hlp := lines_pos (List.mem_of_getElem? hl)
          obtain ⟨hl1, hl2⟩ := hlp
          have hokl : ∀ p ∈ l, okP p = true := fun p hp => (validL_iff.1 HV.out).2 p (by rw [← lines_flat x y L]; exact List.mem_flatten.2 ⟨l, List.mem_of_getElem? hl, hp⟩)
          have hfit := lines_fits (List.mem_of_getElem? hl)
          have hst := st_next hl
          have hstl : st (lines x y L) i + l.length ≤ L.length := by
            have h1 := line_at hl (k := l.length - 1) (by omega)
            rw [List.getElem?_eq_getElem (show l.length - 1 < l.length by omega)] at h1
            have := (List.getElem?_eq_some_iff.1 h1).1
            omega
          have HL := hid hl
          have HOKL := hid hokl
          have HFIT := hid hfit
          have HST := hid hst
          clear hl hokl hfit hst hci
          generalize hga : st (lines x y L) i = a at hstl HST
          have HGA := hid hga
          clear hga
          have hm0 : 0 ≤ y * ((l.length : Int) - 1) := Int.mul_nonneg hy0 (by omega)
          have hm1 : y * ((l.length : Int) - 1) ≤ 50 * 13 := Int.le_trans (Int.mul_le_mul_of_nonneg_right hy1 (by omega)) (by omega)
          go_wp2
          go_loop [9, 10] (fun s9 s10 => ∃ (k : Nat) (n : Int), k ≤ l.length ∧ s10 = .int .i64 k ∧ s9 = .int .i64 n ∧ Aside (n = y * ((l.length : Int) - 1) + ws (l.take k))) (fun _ s10 => l.length - (intOf s10).toNat)
          case atStart => exact ⟨0, _, Nat.zero_le _, rfl, rfl, (show _ = _ by rw [List.take_zero, ws_nil]; omega)⟩
          case round =>
            obtain ⟨k, n, hk, rfl, rfl, S⟩ := hrel
            have hwb := ws_bd (l := l.take k) (fun p hp => HOKL.out p (List.mem_of_mem_take hp))
            rw [List.length_take] at hwb
            have hn0 : 0 ≤ n := by have := S.out; omega
            have hn1 : n ≤ 1000000 := by have := S.out; omega
            clear hwb
            by_cases hkl : k < l.length
            · have hat : a + k < L.length := by omega
              obtain ⟨b, off, u, v, rfl, hb, hx, c1, c2'⟩ := H4.out.at2 hat
              have hlk : l[k]? = some (u, v) := by
                have h1 := line_at HL.out hkl
                rw [HGA.out, hx] at h1
                exact h1.symm
              have hu := (okP_bd (HOKL.out _ (List.mem_of_getElem? hlk))).1
              have hu0 : 0 ≤ u := hu.1
              have hu1 : u ≤ 10000 := hu.2
              have HLK := hid hlk
              clear hx hlk hu
              go_wp2
              go_round
              case measure => simp [intOf]; omega
              case rel => exact ⟨k + 1, n + u, by omega, by go_num, by go_num, (show _ = _ by rw [ws_snoc HLK.out, S.out]; omega)⟩
            · have hkk : k = l.length := by omega
              have hfin : 1 < l.length → n ≤ x := fun h => by
                have h1 := HFIT.out h
                have h2 := S.out
                rw [hkk, List.take_length] at h2
                omega
              have HF := hid hfin
              clear hfin
              by_cases h1l : 1 < l.length
              · have hnx := HF.out h1l
                go_wp2
                go_round
                case measure => simp [intOf]; omega
                case rel => exact ⟨i + 1, by omega, by go_num, by rw [HST.out]; go_num⟩
              · go_wp2
                go_round
                case measure => simp [intOf]; omega
                case rel => exact ⟨i + 1, by omega, by go_num, by rw [HST.out]; go_num⟩
        · have hiC : i = C.length := by omega
          have hse : st (lines x y L) i = L.length := by rw [hiC, HCL.out]; exact st_end x y L
          rw [hse]
          have hee : ((L.length : Int) == (L.length : Int)) = true := by simp
          clear hse
          go_wp2
          go_ret
          exact ⟨by simp, chain (chain (chain B1.out B2.out) B3.out) B4.out⟩
end Go.Proofs.Ytjkcejijdpmhoaa
