/- FnExactTrackSizes: the walk. -/
import Derived.Test.YtjebjcabggmaiaaSB
import Derived.Test.YtjebjcabggmaiaaXTrack
namespace Go.Proofs.Ytjebjcabggmaiaa
set_option linter.unusedVariables false
set_option linter.unusedSimpArgs false
open Go.RowKit Go.Lib

theorem trackV_len (L : List TrackD) (sp gap : Int) : (trackV L sp gap).length ≤ 8 := by
  cases h : okTs L sp gap
  · rw [trackV_no h]; simp
  · rw [trackV_yes h, trackM_len]
    exact (vTs_iff.1 (okTs_iff.1 h).1).1.2

set_option maxHeartbeats 4000000 in
theorem fnExactTrackSizes_any (A : Option Addr) (L : List TrackD) (c : Nat) (sp gap : Int) (w : World) (h : Arr w w.heap.size 2 encTrack A L) (hc1 : L.length ≤ c) (hc2 : c ≤ maxLen) (_hs : -9223372036854775808 ≤ sp ∧ sp ≤ 9223372036854775807) (_hg : -9223372036854775808 ≤ gap ∧ gap ≤ 9223372036854775807) :
    Calls Try.prog 3 #[.slice A L.length c, .int .i64 sp, .int .i64 gap] w (Yes w) := by
  have hmax : L.length ≤ 9223372036854775807 := by simp only [maxLen] at hc2; omega
  have hs := szTrackS_any A L.length c 1048576 w hmax (by omega) (by omega)
  have HA := hid h
  clear hc2 h
  by_cases hbig : L.length ≤ 1048576
  · rw [if_pos (by omega)] at hs
    have t1 := toTrackS_any A L c w hbig HA.out
    have hres := trackV_len L sp gap
    generalize hR : trackV L sp gap = R at hres
    have HR := hid hR
    clear hR
    go_enter Try.func3, Try.ntmps3
    go_wp2_with fail
    refine hs.mono ?_
    rintro e w0 ⟨rfl, rfl⟩
    clear hs
    go_wp2_with fail
    refine t1.mono ?_
    rintro e w1 ⟨A1, c1, rfl, h11, h12, o1, b1⟩
    have s1 := specTrackSizes_any A1 L c1 sp gap w1 (by omega) o1.arr
    rw [HR.out] at s1
    have B1 := hid b1
    clear b1 o1 t1
    go_wp2_with fail
    refine s1.mono ?_
    rintro e w2 ⟨A0, c0, rfl, -, -, o0, b2⟩
    have B2 := hid (chain B1.out b2)
    have Z2 := hid o0.arr
    have t2 := toTrackS_any A L c w2 hbig (HA.out.next B2.out)
    clear b2 o0 s1
    go_wp2_with fail
    refine t2.mono ?_
    rintro e w3 ⟨Ax, cx, rfl, h31, h32, ox, b3⟩
    have s2 := trackSizes_any Ax L cx sp gap w3 (by omega) ox.arr
    rw [HR.out] at s2
    have C3 := hid b3
    have OX := hid ox
    have XLO := hid ox.ge
    have XHI := hid ox.lt
    clear b3 ox t2
    go_wp2_with fail
    refine s2.mono ?_
    rintro e w4 ⟨Ag, cg, rfl, -, -, og, b4⟩
    have e1 := eqIntS_same Ag A0 R cg c0 w4 (by omega) og.arr (Z2.out.next (chain C3.out b4))
    have D4 := hid b4
    have OG := hid og
    have GLO := hid og.ge
    clear b4 og s2
    go_wp2_with fail
    refine e1.mono ?_
    rintro e w5 ⟨rfl, b5⟩
    have E5 := hid b5
    have C5 := hid (chain (chain C3.out D4.out) b5)
    have t3 := toTrackS_any A L c w5 hbig (HA.out.next (chain B2.out C5.out))
    clear b5 e1
    go_wp2_with fail
    refine t3.mono ?_
    rintro e w6 ⟨Ay, cy, rfl, -, -, oy, b6⟩
    have e2 := eqTrackS_same Ax Ay L cx cy w6 hbig (OX.out.arr.next (chain (chain D4.out E5.out) b6)) oy.arr
    have E6 := hid (chain E5.out b6)
    clear b6 oy t3
    go_wp2_with fail
    refine e2.mono ?_
    rintro e w7 ⟨rfl, b7⟩
    have E7 := hid (chain E6.out b7)
    have C7 := hid (chain (chain C3.out D4.out) E7.out)
    have OX7 := hid (OX.out.next (chain D4.out E7.out))
    have m1 := markTrackS_any Ax L cx w2.heap.size w7 hbig OX7.out
    clear b7 e2
    go_wp2_with fail
    refine m1.mono ?_
    rintro e w8 ⟨rfl, -, k8⟩
    have C8 := hid (k8.below C7.out C7.out.size XLO.out)
    have OG8 := hid (k8.own (OG.out.next E7.out) XHI.out)
    have e3 := eqIntS_same Ag A0 R cg c0 w8 (by omega) OG8.out.arr (Z2.out.next C8.out)
    clear k8 m1
    go_wp2_with fail
    refine e3.mono ?_
    rintro e w9 ⟨rfl, b9⟩
    have C9 := hid (chain C8.out b9)
    have m2 := markIntS_any Ag R cg w3.heap.size w9 (by omega) (OG8.out.next b9)
    clear b9 e3
    go_wp2_with fail
    refine m2.mono ?_
    rintro e w10 ⟨rfl, om, k10⟩
    have C10 := hid (k10.below C9.out C9.out.size (fun hn a ha => Nat.le_trans C3.out.size (GLO.out hn a ha)))
    have OM := hid om
    have hd := heldIntS_any Ag R.length cg w10 (by omega) om.arr
    have t4 := toTrackS_any A L c w10 hbig (HA.out.next (chain B2.out C10.out))
    clear k10 om m2
    have hne : ((1 + (R.length : Int)) != (1 + (R.length : Int))) = false := by simp
    go_wp2_with fail
    refine hd.mono ?_
    rintro e w11 ⟨rfl, rfl⟩
    clear hd
    go_wp2_with fail
    refine t4.mono ?_
    rintro e w11 ⟨A4, c4, rfl, h41, h42, o4, b11⟩
    have s3 := trackSizes_any A4 L c4 sp gap w11 (by omega) o4.arr
    rw [HR.out] at s3
    have F11 := hid b11
    clear b11 o4 t4
    go_wp2_with fail
    refine s3.mono ?_
    rintro e w12 ⟨Ah, ch, rfl, -, -, oh, b12⟩
    have F12 := hid (chain F11.out b12)
    have e4 := eqIntS_same Ah A0 R ch c0 w12 (by omega) oh.arr (Z2.out.next (chain C10.out F12.out))
    clear b12 oh s3
    go_wp2_with fail
    refine e4.mono ?_
    rintro e w13 ⟨rfl, b13⟩
    have F13 := hid (chain F12.out b13)
    have hd2 := heldIntS_any Ag R.length cg w13 (by omega) (OM.out.arr.next F13.out)
    clear b13 e4
    go_wp2_with fail
    refine hd2.mono ?_
    rintro e w14 ⟨rfl, rfl⟩
    clear hd2
    go_wp2
    go_ret
    exact ⟨rfl, chain (chain B2.out C10.out) F13.out⟩
  · rw [if_neg (by omega)] at hs
    go_enter Try.func3, Try.ntmps3
    go_wp2_with fail
    refine hs.mono ?_
    rintro e w1 ⟨rfl, rfl⟩
    clear hs
    go_wp2
    go_ret
    exact ⟨rfl, Below.refl _ _⟩
end Go.Proofs.Ytjebjcabggmaiaa
