/- FnKidsOf: the walk. Written by a program of ours. -/
import Derived.Test.YtpahljbcffmaaaaB19
namespace Go.Proofs.Ytpahljbcffmaaaa
set_option linter.unusedVariables false
open Go.RowKit Go.Lib

set_option maxRecDepth 100000 in
set_option maxHeartbeats 4000000 in
theorem fnKidsOf_any (A : Option Addr) (cap : Nat) (bs : List Int) (w : World) (h : Code w A cap bs) :
    Calls Try.prog 5 #[.slice A bs.length cap] w (Yes w) := by
  have hcap := h.cap1
  have hcap2 := h.cap2
  by_cases hbig : 1048576 < bs.length
  · clear h
    go_enter Try.func5, Try.ntmps5
    go_wp2
    go_ret
    exact ⟨rfl, Below.refl _ _⟩
  · have hd := drawKidsOf_any A cap bs w h
    clear h
    go_enter Try.func5, Try.ntmps5
    go_wp2_with fail
    refine hd.mono ?_
    rintro e w1 ⟨A1, c1, T, x, rfl, hx, hl, hc1, hc2, ha, b1⟩
    have H1 := hid ha
    have B1 := hid b1
    have hl2 : T.length ≤ 1048576 := by omega
    clear ha b1 hd
    cases hat : atIn T x
    · have HV := hid (kidsV_out hat)
      obtain ⟨r, hr⟩ : ∃ r, validB T = r := ⟨_, rfl⟩
      have HB := hid hr
      have hx2 : r = true → x < 0 ∨ (T.length : Int) ≤ x := fun h => by
        rw [h] at hr
        have := mt (fun q => atIn_iff.2 ⟨validB_iff.1 hr, q⟩) (by rw [hat]; decide)
        omega
      clear hat hr
      cases r
      · clear hx2
        go_wp2_with fail
        refine (kidsOf_eq hl2 H1.out HV.out rfl).mono ?_
        rintro e w2 ⟨lA, lc, rfl, lh1, lh2, ar, b⟩
        have B2 := hid (chain B1.out b)
        have H2 := hid (H1.out.next b)
        have lR := hid ar
        clear b ar
        go_wp2_with fail
        refine (kidsOfS_eq hl2 H2.out HV.out rfl).mono ?_
        rintro e w3 ⟨sA, sc, rfl, sh1, sh2, ar, b⟩
        have B3 := hid (chain B2.out b)
        have H3 := hid (H2.out.next b)
        have sR := hid ar
        have lR := hid (lR.out.next b)
        clear b ar
        go_wp2_with fail
        refine (equalInts_n _ _ _ _ _ _ _ _ rfl rfl (by decide) lR.out sR.out).mono ?_
        rintro e w4 ⟨rfl, b⟩
        have B4 := hid (chain B3.out b)
        have H4 := hid (H3.out.next b)
        have lR := hid (lR.out.next b)
        clear b
        go_wp2_with fail
        refine (validTree_n rfl hl2 H4.out HB.out).mono ?_
        rintro e w5 ⟨rfl, b⟩
        have B5 := hid (chain B4.out b)
        have H5 := hid (H4.out.next b)
        have lR := hid (lR.out.next b)
        clear b
        go_wp2_with fail
        refine (kidsOfS_eq hl2 H5.out HV.out rfl).mono ?_
        rintro e w6 ⟨tA, tc, rfl, th1, th2, ar, b⟩
        have B6 := hid (chain B5.out b)
        have H6 := hid (H5.out.next b)
        have tR := hid ar
        have lR := hid (lR.out.next b)
        clear b ar
        go_wp2_with fail
        refine (equalInts_n _ _ _ _ _ _ _ _ rfl rfl (by decide) lR.out tR.out).mono ?_
        rintro e w7 ⟨rfl, b⟩
        have B7 := hid (chain B6.out b)
        have H7 := hid (H6.out.next b)
        clear b
        go_wp2_with fail
        go_ret
        exact ⟨rfl, B7.out⟩
      · have hx3 := hx2 rfl
        clear hx2
        by_cases hneg : x < 0
        · go_wp2_with fail
          refine (kidsOf_eq hl2 H1.out HV.out rfl).mono ?_
          rintro e w2 ⟨lA, lc, rfl, lh1, lh2, ar, b⟩
          have B2 := hid (chain B1.out b)
          have H2 := hid (H1.out.next b)
          have lR := hid ar
          clear b ar
          go_wp2_with fail
          refine (kidsOfS_eq hl2 H2.out HV.out rfl).mono ?_
          rintro e w3 ⟨sA, sc, rfl, sh1, sh2, ar, b⟩
          have B3 := hid (chain B2.out b)
          have H3 := hid (H2.out.next b)
          have sR := hid ar
          have lR := hid (lR.out.next b)
          clear b ar
          go_wp2_with fail
          refine (equalInts_n _ _ _ _ _ _ _ _ rfl rfl (by decide) lR.out sR.out).mono ?_
          rintro e w4 ⟨rfl, b⟩
          have B4 := hid (chain B3.out b)
          have H4 := hid (H3.out.next b)
          have lR := hid (lR.out.next b)
          clear b
          go_wp2_with fail
          refine (validTree_n rfl hl2 H4.out HB.out).mono ?_
          rintro e w5 ⟨rfl, b⟩
          have B5 := hid (chain B4.out b)
          have H5 := hid (H4.out.next b)
          have lR := hid (lR.out.next b)
          clear b
          go_wp2_with fail
          refine (kidsOfS_eq hl2 H5.out HV.out rfl).mono ?_
          rintro e w6 ⟨tA, tc, rfl, th1, th2, ar, b⟩
          have B6 := hid (chain B5.out b)
          have H6 := hid (H5.out.next b)
          have tR := hid ar
          have lR := hid (lR.out.next b)
          clear b ar
          go_wp2_with fail
          refine (equalInts_n _ _ _ _ _ _ _ _ rfl rfl (by decide) lR.out tR.out).mono ?_
          rintro e w7 ⟨rfl, b⟩
          have B7 := hid (chain B6.out b)
          have H7 := hid (H6.out.next b)
          clear b
          go_wp2_with fail
          go_ret
          exact ⟨rfl, B7.out⟩
        · have hge : (T.length : Int) ≤ x := by omega
          go_wp2_with fail
          refine (kidsOf_eq hl2 H1.out HV.out rfl).mono ?_
          rintro e w2 ⟨lA, lc, rfl, lh1, lh2, ar, b⟩
          have B2 := hid (chain B1.out b)
          have H2 := hid (H1.out.next b)
          have lR := hid ar
          clear b ar
          go_wp2_with fail
          refine (kidsOfS_eq hl2 H2.out HV.out rfl).mono ?_
          rintro e w3 ⟨sA, sc, rfl, sh1, sh2, ar, b⟩
          have B3 := hid (chain B2.out b)
          have H3 := hid (H2.out.next b)
          have sR := hid ar
          have lR := hid (lR.out.next b)
          clear b ar
          go_wp2_with fail
          refine (equalInts_n _ _ _ _ _ _ _ _ rfl rfl (by decide) lR.out sR.out).mono ?_
          rintro e w4 ⟨rfl, b⟩
          have B4 := hid (chain B3.out b)
          have H4 := hid (H3.out.next b)
          have lR := hid (lR.out.next b)
          clear b
          go_wp2_with fail
          refine (validTree_n rfl hl2 H4.out HB.out).mono ?_
          rintro e w5 ⟨rfl, b⟩
          have B5 := hid (chain B4.out b)
          have H5 := hid (H4.out.next b)
          have lR := hid (lR.out.next b)
          clear b
          go_wp2_with fail
          refine (kidsOfS_eq hl2 H5.out HV.out rfl).mono ?_
          rintro e w6 ⟨tA, tc, rfl, th1, th2, ar, b⟩
          have B6 := hid (chain B5.out b)
          have H6 := hid (H5.out.next b)
          have tR := hid ar
          have lR := hid (lR.out.next b)
          clear b ar
          go_wp2_with fail
          refine (equalInts_n _ _ _ _ _ _ _ _ rfl rfl (by decide) lR.out tR.out).mono ?_
          rintro e w7 ⟨rfl, b⟩
          have B7 := hid (chain B6.out b)
          have H7 := hid (H6.out.next b)
          clear b
          go_wp2_with fail
          go_ret
          exact ⟨rfl, B7.out⟩
    · obtain ⟨k, rfl, hk, v⟩ := atIn_nat hat
      have HK := hid (kidsV_in v hk)
      obtain ⟨m, hm⟩ : ∃ m, (asI (kidsN T T.length k)).length = m := ⟨_, rfl⟩
      have HN := hid hm
      have hm16 : m ≤ 16 := by have := kids_len_le T T.length k; rw [asI_len] at hm; omega
      have hm8 : m ≤ 8 := by have := v.many k hk; rw [asI_len] at hm; omega
      have HB := hid (validB_iff.2 v)
      have hmk : (kidsN T T.length k).length = m := by rw [← hm, asI_len]
      have HMK := hid hmk
      have VV := hid v
      have k1 : ¬ ((k : Int) < 0) := by omega
      have k2 : ¬ (T.length ≤ k) := by omega
      have kd : decide (T.length ≤ k) = false := by rw [decide_eq_false_iff_not]; exact k2
      clear hat hm hmk v
      obtain ⟨b0, off, x0, hA, -⟩ := H1.out.atBox hk
      subst hA
      go_wp2_with fail
      refine (kidsOf_eq hl2 H1.out HK.out HN.out).mono ?_
      rintro e w2 ⟨lA, lc, rfl, lh1, lh2, ar, b⟩
      have B2 := hid (chain B1.out b)
      have H2 := hid (H1.out.next b)
      have lR := hid ar
      clear b ar
      go_wp2_with fail
      refine (kidsOfS_eq hl2 H2.out HK.out HN.out).mono ?_
      rintro e w3 ⟨sA, sc, rfl, sh1, sh2, ar, b⟩
      have B3 := hid (chain B2.out b)
      have H3 := hid (H2.out.next b)
      have sR := hid ar
      have lR := hid (lR.out.next b)
      clear b ar
      go_wp2_with fail
      refine (equalInts_n _ _ _ _ _ _ _ _ HN.out HN.out (by omega) lR.out sR.out).mono ?_
      rintro e w4 ⟨rfl, b⟩
      have B4 := hid (chain B3.out b)
      have H4 := hid (H3.out.next b)
      have lR := hid (lR.out.next b)
      clear b
      go_wp2_with fail
      refine (validTree_n rfl hl2 H4.out HB.out).mono ?_
      rintro e w5 ⟨rfl, b⟩
      have B5 := hid (chain B4.out b)
      have H5 := hid (H4.out.next b)
      have lR := hid (lR.out.next b)
      clear b
      go_wp2_with fail
      go_loopg [6, 7] T.length (fun gg s6 s7 wr => ∃ i n : Nat, i ≤ T.length ∧ T.length - i ≤ gg ∧ n ≤ i ∧ s6 = .int .i64 n ∧ s7 = .int .i64 i ∧ Aside ((kidsN T i k).length = n) ∧ Aside (Below w5.heap.size w5 wr))
      case atStart => exact ⟨0, 0, Nat.zero_le _, by omega, by omega, rfl, rfl, rfl, Below.refl _ _⟩
      case round =>
        obtain ⟨i, n, hi, hgg, hni, rfl, rfl, N, R⟩ := hrel
        have HW := hid (H5.out.next R.out)
        have LW := hid (lR.out.next R.out)
        have BW := hid (chain B5.out R.out)
        by_cases hlt : i < T.length
        · obtain ⟨y, hy, hb, e0, -⟩ := HW.out.litBox hlt
          have hpy := par_of hy
          have hnx := kidsN_next T i k
          rw [hpy] at hnx
          have i1 : (0 : Int) ≤ (i : Int) := by omega
          have i2 : (i : Int) < (T.length : Int) := by omega
          by_cases hpk : y.Parent = (k : Int)
          · have hat := kidsN_at hlt (hpy.trans hpk)
            rw [N.out] at hat
            have hnm : n < m := by have := (List.getElem?_eq_some_iff.1 hat).1; have := HMK.out; omega
            obtain ⟨p, off', z, rfl, hp, hx, d1⟩ := LW.out.at1 (show n < _ by rw [HN.out]; exact hnm)
            rw [asI_at hat] at hx
            injection hx with hx
            subst hx
            have F : Aside ((kidsN T (i + 1) k).length = n + 1) := by show _ = _; rw [hnx, hpk]; simp [N.out]
            have hb2 : ((i : Int) != (i : Int)) = false := by simp
            have n1 : (0 : Int) ≤ (n : Int) := by omega
            have n2 : (n : Int) < (m : Int) := by omega
            have n3 : ¬ ((m : Int) ≤ (n : Int)) := by omega
            have hbk : (y.Parent == (k : Int)) = true := by rw [beq_iff_eq]; exact hpk
            clear hnx hat hy hpy hpk N
            go_wp2_with fail
            go_roundg (T.length - (i + 1))
            case measure => omega
            case rel => exact ⟨i + 1, n + 1, by omega, by omega, by omega, by go_num, by go_num, F, R.out⟩
          · have hbk : (y.Parent == (k : Int)) = false := by rw [beq_eq_false_iff_ne]; exact hpk
            have F : Aside ((kidsN T (i + 1) k).length = n) := by show _ = _; rw [hnx, hbk]; simp [N.out]
            clear hnx hy hpy hpk N
            go_wp2_with fail
            go_roundg (T.length - (i + 1))
            case measure => omega
            case rel => exact ⟨i + 1, n, by omega, by omega, by omega, rfl, by go_num, F, R.out⟩
        · have hil : i = T.length := by omega
          have hnm : n = m := by have h1 := N.out; rw [hil] at h1; have := HMK.out; omega
          clear N hil
          subst hnm
          go_wp2_with fail
          go_ret
          exact ⟨by first | rfl | (simp; done) | (simp; omega), BW.out⟩

#print axioms fnKidsOf_any
end Go.Proofs.Ytpahljbcffmaaaa
