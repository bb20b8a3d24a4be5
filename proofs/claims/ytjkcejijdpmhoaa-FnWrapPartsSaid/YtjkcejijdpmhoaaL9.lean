/- FnWrapHeightMore: the walk. -/
import Derived.Test.YtjkcejijdpmhoaaH4
import Derived.Test.YtjkcejijdpmhoaaM4
namespace Go.Proofs.Ytjkcejijdpmhoaa
open Go.RowKit Go.Lib

theorem high_neg {L : List (Int × Int)} {x y : Int} (h : 0 ≤ highOf L x y) : okL L x y = true := by
  cases e : okL L x y with
  | true => rfl
  | false => simp [highOf, e] at h

set_option maxHeartbeats 2000000 in
theorem fnWrapHeightMore_any (A : Option Addr) (cap : Nat) (bs : List Int) (w : World) (h : Code w A cap bs) :
    Calls Try.prog 13 #[.slice A bs.length cap] w (Yes w) := by
  have hcap := h.cap1
  have hcap2 := h.cap2
  by_cases hbig : 1048576 < bs.length
  · clear h
    go_enter Try.func13, Try.ntmps13
    go_wp2
    go_ret
    exact ⟨rfl, Below.refl _ _⟩
  · have hd := drawWrapHeight_any A cap bs w h
    clear h
    go_enter Try.func13, Try.ntmps13
    go_wp2_with fail
    refine hd.mono ?_
    rintro e w1 ⟨A', c, L, x, y, rfl, hL, hc1, hc2, o1, b1⟩
    have B1 := hid b1
    have H1 := hid o1.arr
    have hlc := wrapHeight_any A' L c x y w1 (by omega) hc1 hc2 H1.out
    have HS := hid (fun w h => specWrapHeight_any A' L c x y w (by omega) h)
    have hpos := high_neg (L := L) (x := x) (y := y)
    generalize highOf L x y = n at *
    have hne : (n != n) = false := by simp
    have hee : (n == n) = true := by simp
    clear b1 o1 hd
    go_wp2_with fail
    refine hlc.mono ?_
    rintro e w2 ⟨rfl, b2⟩
    have B2 := hid (chain B1.out b2)
    have H2 := hid (H1.out.next b2)
    have hsc := HS.out w2 H2.out
    clear b2 hlc
    by_cases hn : n < 0
    · clear hpos
      go_wp2_with fail
      refine hsc.mono ?_
      rintro e w3 ⟨rfl, b3⟩
      have B3 := hid (chain B2.out b3)
      have hsc := HS.out w3 (H2.out.next b3)
      clear b3
      go_wp2_with fail
      refine hsc.mono ?_
      rintro e w4 ⟨rfl, b4⟩
      have B4 := hid (chain B3.out b4)
      clear b4 hsc
      go_wp2
      go_ret
      exact ⟨rfl, B4.out⟩
    · have hok := hpos (by omega)
      clear hpos
      obtain ⟨hv, ⟨hx0, hx1⟩, hy0, hy1⟩ := okL_bd hok
      by_cases hw : 10000 < x + 30
      · clear hv hok
        go_wp2_with fail
        refine hsc.mono ?_
        rintro e w3 ⟨rfl, b3⟩
        have B3 := hid (chain B2.out b3)
        have hsc := HS.out w3 (H2.out.next b3)
        clear b3
        go_wp2_with fail
        refine hsc.mono ?_
        rintro e w4 ⟨rfl, b4⟩
        have B4 := hid (chain B3.out b4)
        clear b4 hsc
        go_wp2
        go_ret
        exact ⟨rfl, B4.out⟩
      · have hm : (countsOf L (x + 30) y).length ≤ (countsOf L x y).length := by
          have hok2 : okL L (x + 30) y = true := by
            unfold okL at hok ⊢
            rw [Bool.and_eq_true, Bool.and_eq_true] at hok ⊢
            exact ⟨⟨hok.1.1, inR_iff.2 (by omega)⟩, hok.2⟩
          rw [countsOf, if_pos hok2, countsOf, if_pos hok]
          exact cnt_mono (by omega) hy0 (validL_iff.1 hv).2
        have HLC := hid (fun x w h => lineCounts_any A' L c x y w (by omega) hc1 hc2 h)
        have hl2 := HLC.out (x + 30)
        have hl1 := HLC.out x
        generalize countsOf L (x + 30) y = C2 at *
        generalize countsOf L x y = C1 at *
        have HL2 := hid hl2
        have HL1 := hid hl1
        clear hv hok hl1 hl2 HLC
        go_wp2_with fail
        refine hsc.mono ?_
        rintro e w3 ⟨rfl, b3⟩
        have B3 := hid (chain B2.out b3)
        have H3 := hid (H2.out.next b3)
        have h1 := HL2.out w3 H3.out
        clear b3 hsc
        go_wp2_with fail
        refine h1.mono ?_
        rintro e w4 ⟨A4, c4, rfl, -, -, o4, b4⟩
        have B4 := hid (chain B3.out b4)
        have h1 := HL1.out w4 (H3.out.next b4)
        clear b4 o4
        go_wp2_with fail
        refine h1.mono ?_
        rintro e w5 ⟨A5, c5, rfl, -, -, o5, b5⟩
        have B5 := hid (chain B4.out b5)
        clear b5 o5 h1
        go_wp2
        go_ret
        exact ⟨by simp, B5.out⟩
end Go.Proofs.Ytjkcejijdpmhoaa
