/- FnPathTo: the walk. Written by a program of ours. -/
import Derived.Test.YtpahljbcffmaaaaB19
namespace Go.Proofs.Ytpahljbcffmaaaa
set_option linter.unusedVariables false
open Go.RowKit Go.Lib

set_option maxRecDepth 100000 in
set_option maxHeartbeats 4000000 in
theorem fnPathTo_any (A : Option Addr) (cap : Nat) (bs : List Int) (w : World) (h : Code w A cap bs) :
    Calls Try.prog 14 #[.slice A bs.length cap] w (Yes w) := by
  have hcap := h.cap1
  have hcap2 := h.cap2
  by_cases hbig : 1048576 < bs.length
  · clear h
    go_enter Try.func14, Try.ntmps14
    go_wp2
    go_ret
    exact ⟨rfl, Below.refl _ _⟩
  · have hd := drawPathTo_any A cap bs w h
    clear h
    go_enter Try.func14, Try.ntmps14
    go_wp2_with fail
    refine hd.mono ?_
    rintro e w1 ⟨A1, c1, T, x, rfl, hx, hl, hc1, hc2, ha, b1⟩
    have H1 := hid ha
    have B1 := hid b1
    have hl2 : T.length ≤ 1048576 := by omega
    clear ha b1 hd
    cases hat : atIn T x
    · have HV := hid (pathV_out hat)
      clear hat
      go_wp2_with fail
      refine (pathTo_eq hl2 H1.out HV.out rfl).mono ?_
      rintro e w2 ⟨lA, lc, rfl, lh1, lh2, ar, b⟩
      have B2 := hid (chain B1.out b)
      have H2 := hid (H1.out.next b)
      have lR := hid ar
      clear b ar
      go_wp2_with fail
      refine (pathToS_eq hl2 H2.out HV.out rfl).mono ?_
      rintro e w3 ⟨sA, sc, rfl, sh1, sh2, ar, b⟩
      have B3 := hid (chain B2.out b)
      have H3 := hid (H2.out.next b)
      have sR := hid ar
      have lR := hid (lR.out.next b)
      clear b ar
      go_wp2_with fail
      refine (equalInts_n _ _ _ _ _ _ _ _ rfl rfl (by decide) lR.out sR.out).mono ?_
      rintro e w4 ⟨rfl, b⟩
      have B4 := hid (chain B3.out b)
      have H4 := hid (H3.out.next b)
      have lR := hid (lR.out.next b)
      clear b
      go_wp2_with fail
      refine (pathToS_eq hl2 H4.out HV.out rfl).mono ?_
      rintro e w5 ⟨tA, tc, rfl, th1, th2, ar, b⟩
      have B5 := hid (chain B4.out b)
      have H5 := hid (H4.out.next b)
      have tR := hid ar
      have lR := hid (lR.out.next b)
      clear b ar
      go_wp2_with fail
      refine (equalInts_n _ _ _ _ _ _ _ _ rfl rfl (by decide) lR.out tR.out).mono ?_
      rintro e w6 ⟨rfl, b⟩
      have B6 := hid (chain B5.out b)
      have H6 := hid (H5.out.next b)
      clear b
      go_wp2_with fail
      go_ret
      exact ⟨rfl, B6.out⟩
    · obtain ⟨k, rfl, hk, v⟩ := atIn_nat hat
      have HP := hid (pathV_in v hk)
      obtain ⟨m, hm⟩ : ∃ m, (asI (pathOf T k)).length = m := ⟨_, rfl⟩
      have HN := hid hm
      have hmp : 0 < m := by have := path_pos T k; rw [asI_len] at hm; omega
      have hm6 : m ≤ 6 := by have := v.dep k hk; rw [asI_len, path_len] at hm; omega
      have hmb : ((m : Int) == 0) = false := by rw [beq_eq_false_iff_ne]; omega
      obtain ⟨d, hd⟩ : ∃ d, m = d + 1 := ⟨m - 1, by omega⟩
      have HD := hid (show depthV T (k : Int) = (d : Int) by rw [depthV_in v hk]; rw [asI_len, path_len] at hm; omega)
      have w1 : IntKind.i64.wrap ((d : Int) + 1) = (m : Int) := by rw [IntWalk.i64_in _ (by omega)]; omega
      have w4 : IntKind.i64.wrap ((m : Int) - 1) = (d : Int) := by rw [IntWalk.i64_in _ (by omega)]; omega
      have HPH := hid (path_head v.ord.1 k hk)
      have HPL := hid (path_last v.ord.1 k hk)
      have HDM := hid hd
      have VV := hid v
      clear hat hm hd v
      obtain ⟨b0, off, x0, hA, -⟩ := H1.out.atBox hk
      subst hA
      go_wp2_with fail
      refine (pathTo_eq hl2 H1.out HP.out HN.out).mono ?_
      rintro e w2 ⟨lA, lc, rfl, lh1, lh2, ar, b⟩
      have B2 := hid (chain B1.out b)
      have H2 := hid (H1.out.next b)
      have lR := hid ar
      clear b ar
      go_wp2_with fail
      refine (pathToS_eq hl2 H2.out HP.out HN.out).mono ?_
      rintro e w3 ⟨sA, sc, rfl, sh1, sh2, ar, b⟩
      have B3 := hid (chain B2.out b)
      have H3 := hid (H2.out.next b)
      have sR := hid ar
      have lR := hid (lR.out.next b)
      clear b ar
      go_wp2_with fail
      refine (equalInts_n _ _ _ _ _ _ _ _ HN.out HN.out (by omega) lR.out sR.out).mono ?_
      rintro e w4 ⟨rfl, b⟩
      have B4 := hid (chain B3.out b)
      have H4 := hid (H3.out.next b)
      have lR := hid (lR.out.next b)
      clear b
      go_wp2_with fail
      go_loopg [6] m (fun gg s6 wr => ∃ i : Nat, 1 ≤ i ∧ i ≤ m ∧ m - i ≤ gg ∧ s6 = .int .i64 i ∧ Aside (Below w4.heap.size w4 wr))
      case atStart => exact ⟨1, by omega, by omega, by omega, rfl, Below.refl _ _⟩
      case round =>
        obtain ⟨i, hi1, hi, hgg, rfl, R⟩ := hrel
        have HW := hid (H4.out.next R.out)
        have LW := hid (lR.out.next R.out)
        have BW := hid (chain B4.out R.out)
        by_cases hlt : i < m
        · obtain ⟨g, hg⟩ : ∃ g, i = g + 1 := ⟨i - 1, by omega⟩
          obtain ⟨p, off', z, rfl, hp, hx, d1⟩ := LW.out.at1 (show i < _ by rw [HN.out]; exact hlt)
          obtain ⟨u, hx2, d2, -⟩ := LW.out.lit1 (show g < _ by rw [HN.out]; omega)
          obtain ⟨a, rfl, ha⟩ := asI_at' hx2
          obtain ⟨b, rfl, hb⟩ := asI_at' hx
          have hbn : b < T.length := path_mem_lt VV.out.ord.1 hk (List.mem_of_getElem? hb)
          have hst := path_step VV.out.ord.1 k hk g a b ha (by rw [← hg]; exact hb)
          obtain ⟨y, hy, hyb, e0, -⟩ := HW.out.litBox hbn
          rw [show y.Parent = (a : Int) by rw [← par_of hy]; exact hst] at e0
          have i1 : (0 : Int) ≤ (i : Int) := by omega
          have i2 : (i : Int) < (m : Int) := by omega
          have g1 : (0 : Int) ≤ (g : Int) := by omega
          have g2 : (g : Int) < (m : Int) := by omega
          have b1 : (0 : Int) ≤ (b : Int) := by omega
          have b2 : (b : Int) < (T.length : Int) := by omega
          have b3 : ¬ ((b : Int) < 0) := by omega
          have b4 : ¬ (T.length ≤ b) := by omega
          have b5 : ¬ ((T.length : Int) ≤ (b : Int)) := by omega
          have w2 : IntKind.i64.wrap ((i : Int) - 1) = (g : Int) := by rw [IntWalk.i64_in _ (by omega)]; omega
          have haa : ((a : Int) != (a : Int)) = false := by simp
          clear hx hx2 ha hb hg hst hy
          go_upto_region 10 with (fail)
          go_quiet (fail)
          go_wp2_with fail
          go_roundg (m - (i + 1))
          case measure => omega
          case rel => exact ⟨i + 1, by omega, by omega, by omega, by go_num, Below_drewN R.out _⟩
        · have HX0 := hid (asI_at HPH.out)
          have HXL := hid (show (asI (pathOf T k))[d]? = some (k : Int) by have h1 := HPL.out; have h2 := HN.out; have h3 := HDM.out; rw [asI_len] at h2; rw [h2, h3] at h1; exact asI_at h1)
          obtain ⟨p, off', z, rfl, hp, hx, d1⟩ := LW.out.at1 (show 0 < _ by rw [HN.out]; omega)
          rw [HX0.out] at hx
          injection hx with hx
          subst hx
          have hdm := HDM.out
          obtain ⟨u, hx2, d2, -⟩ := LW.out.lit1 (show d < _ by rw [HN.out]; omega)
          rw [HXL.out] at hx2
          injection hx2 with hx2
          subst hx2
          rw [Nat.add_zero] at d1
          have m1 : (0 : Int) < (m : Int) := by omega
          have m2 : (d : Int) < (m : Int) := by omega
          have m3 : (0 : Int) ≤ (d : Int) := by omega
          clear hdm
          go_wp2_with fail
          refine (depthOf_eq hl2 HW.out HD.out).mono ?_
          rintro e w9 ⟨rfl, b9⟩
          have B9 := hid (chain BW.out b9)
          clear b9
          go_wp2_with fail
          go_ret
          exact ⟨by first | rfl | (simp; done) | (simp; omega), B9.out⟩

#print axioms fnPathTo_any
end Go.Proofs.Ytpahljbcffmaaaa
