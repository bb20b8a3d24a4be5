/- FnPaintAreaJoin: the walk. -/
import Derived.Test.YthejkmdodjchiaaPD
import Derived.Test.YthejkmdodjchiaaPP
import Derived.Test.YthejkmdodjchiaaPS
namespace Go.Proofs.Ythejkmdodjchiaa
set_option linter.unusedVariables false
set_option linter.unusedSimpArgs false
open Go.RowKit Go.Lib

/-- Joined rectangles have at least as many points. -/
theorem area_join {L : List RectD} (h : paintOk L = true) (hj : joinOk L = true) (hk : paintOk (joinL L) = true) : areaM L ≤ areaM (joinL L) := by
  obtain ⟨⟨_, hv⟩, h2⟩ := joinV_some (joinL_of hj)
  refine area_mono (sides_of hv) (sides_of (paintOk_iff.1 hk).1.2) fun r hr => ?_
  exact (joinTo_facts L [] (joinL L) h2).2.1 r hr

set_option maxRecDepth 100000 in
set_option maxHeartbeats 4000000 in
theorem fnPaintAreaJoin_any (A : Option Addr) (cap : Nat) (bs : List Int) (w : World) (h : Code w A cap bs) :
    Calls Try.prog 10 #[.slice A bs.length cap] w (Yes w) := by
  have hcap := h.cap1
  have hcap2 := h.cap2
  by_cases hbig : 1048576 < bs.length
  · clear h
    go_enter Try.func10, Try.ntmps10
    go_wp2
    go_ret
    exact ⟨rfl, Below.refl _ _⟩
  · have hd := drawPaintArea_any A cap bs w h
    clear h
    go_enter Try.func10, Try.ntmps10
    go_wp2_with fail
    refine hd.mono ?_
    rintro e w1 ⟨A3, c3, L, rfl, hl, hc1, hc2, o3, b1⟩
    have B1 := hid b1
    have H1 := hid o3.arr
    have HI := hid (fun w h => paintArea_any A3 L c3 w (by omega) h)
    have HS := hid (fun w h => specPaintArea_any A3 L c3 w (by omega) h)
    have HJ := hid (fun w h => joinPaint_any A3 L c3 w (by omega) h)
    have HK := hid (fun A c w h => paintArea_any A (joinL L) c w (by have := joinL_len L; omega) h)
    have HF := hid (fun h => area_join (L := L) h)
    clear b1 o3 hd
    cases hok : paintOk L
    · have e0 := areaV_no hok
      rw [e0] at HI HS
      clear e0 hok HF HK HJ
      go_wp2_with fail
      refine (HI.out _ H1.out).mono ?_
      rintro e w2 ⟨rfl, b2⟩
      have B2 := hid (chain B1.out b2)
      have H2 := hid (H1.out.next b2)
      clear b2
      go_wp2_with fail
      refine (HS.out _ H2.out).mono ?_
      rintro e w3 ⟨rfl, b3⟩
      have B3 := hid (chain B2.out b3)
      have H3 := hid (H2.out.next b3)
      clear b3
      go_wp2_with fail
      refine (HS.out _ H3.out).mono ?_
      rintro e w4 ⟨rfl, b4⟩
      have B4 := hid (chain B3.out b4)
      clear b4
      go_wp2
      go_ret
      exact ⟨rfl, B4.out⟩
    · have e0 := areaV_yes hok
      rw [e0] at HI HS
      have hab := area_bd hok
      have HF1 := hid (HF.out hok)
      clear e0 hok HF
      generalize areaM L = R at *
      have hRR : ((R : Int) != (R : Int)) = false := by simp
      have hR0 : decide ((R : Int) < 0) = false := by simp
      go_wp2_with fail
      refine (HI.out _ H1.out).mono ?_
      rintro e w2 ⟨rfl, b2⟩
      have B2 := hid (chain B1.out b2)
      have H2 := hid (H1.out.next b2)
      clear b2
      go_wp2_with fail
      refine (HS.out _ H2.out).mono ?_
      rintro e w3 ⟨rfl, b3⟩
      have B3 := hid (chain B2.out b3)
      have H3 := hid (H2.out.next b3)
      clear b3
      go_wp2_with fail
      refine (HJ.out _ H3.out).mono ?_
      rintro e w4 ⟨A4, c4, rfl, -, -, o4, b4⟩
      have B4 := hid (chain B3.out b4)
      have H4 := hid o4.arr
      clear o4 b4
      cases hj : joinOk L
      · go_wp2_with fail
        refine (HK.out _ _ _ H4.out).mono ?_
        rintro e w5 ⟨rfl, b5⟩
        have B5 := hid (chain B4.out b5)
        clear b5
        go_wp2
        go_ret
        exact ⟨rfl, B5.out⟩
      · cases hk : paintOk (joinL L)
        · have e1 := areaV_no hk
          rw [e1] at HK
          clear e1
          go_wp2_with fail
          refine (HK.out _ _ _ H4.out).mono ?_
          rintro e w5 ⟨rfl, b5⟩
          have B5 := hid (chain B4.out b5)
          clear b5
          go_wp2
          go_ret
          exact ⟨rfl, B5.out⟩
        · have e1 := areaV_yes hk
          rw [e1] at HK
          have hle := HF1.out hj hk
          clear e1 hj hk HF1
          generalize areaM (joinL L) = T at *
          have hT0 : decide ((T : Int) < 0) = false := by simp
          have hle2 : decide ((R : Int) ≤ (T : Int)) = true := by simp; omega
          go_wp2_with fail
          refine (HK.out _ _ _ H4.out).mono ?_
          rintro e w5 ⟨rfl, b5⟩
          have B5 := hid (chain B4.out b5)
          clear b5
          go_wp2
          go_ret
          exact ⟨rfl, B5.out⟩
end Go.Proofs.Ythejkmdodjchiaa
