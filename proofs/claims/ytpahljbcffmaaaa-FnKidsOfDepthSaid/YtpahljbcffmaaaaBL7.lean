/- FnKidsOfDepth: the walk. Written by a program of ours. -/
import Derived.Test.YtpahljbcffmaaaaB19
namespace Go.Proofs.Ytpahljbcffmaaaa
set_option linter.unusedVariables false
open Go.RowKit Go.Lib

set_option maxRecDepth 100000 in
set_option maxHeartbeats 4000000 in
theorem fnKidsOfDepth_any (A : Option Addr) (cap : Nat) (bs : List Int) (w : World) (h : Code w A cap bs) :
    Calls Try.prog 11 #[.slice A bs.length cap] w (Yes w) := by
  have hcap := h.cap1
  have hcap2 := h.cap2
  by_cases hbig : 1048576 < bs.length
  · clear h
    go_enter Try.func11, Try.ntmps11
    go_wp2
    go_ret
    exact ⟨rfl, Below.refl _ _⟩
  · have hd := drawKidsOf_any A cap bs w h
    clear h
    go_enter Try.func11, Try.ntmps11
    go_wp2_with fail
    refine hd.mono ?_
    rintro e w1 ⟨A1, c1, T, x, rfl, hx, hl, hc1, hc2, ha, b1⟩
    have H1 := hid ha
    have B1 := hid b1
    have hl2 : T.length ≤ 1048576 := by omega
    clear ha b1 hd
    cases hat : atIn T x
    · have HV := hid (kidsV_out hat)
      have HD := hid (depthV_out hat)
      clear hat
      go_wp2_with fail
      refine (kidsOf_eq hl2 H1.out HV.out rfl).mono ?_
      rintro e w2 ⟨lA, lc, rfl, lh1, lh2, ar, b⟩
      have B2 := hid (chain B1.out b)
      have H2 := hid (H1.out.next b)
      have lR := hid ar
      clear b ar
      go_wp2_with fail
      refine (kidsOfS_eq hl2 H2.out HV.out rfl).mono ?_
      rintro e w3 ⟨sA, sc, rfl, sh1, sh2, ar, b⟩
      have B3 := hid (chain B2.out b)
      have H3 := hid (H2.out.next b)
      have sR := hid ar
      have lR := hid (lR.out.next b)
      clear b ar
      go_wp2_with fail
      refine (equalInts_n _ _ _ _ _ _ _ _ rfl rfl (by decide) lR.out sR.out).mono ?_
      rintro e w4 ⟨rfl, b⟩
      have B4 := hid (chain B3.out b)
      have H4 := hid (H3.out.next b)
      have lR := hid (lR.out.next b)
      clear b
      go_wp2_with fail
      refine (depthOf_eq hl2 H4.out HD.out).mono ?_
      rintro e w5 ⟨rfl, b⟩
      have B5 := hid (chain B4.out b)
      have H5 := hid (H4.out.next b)
      have lR := hid (lR.out.next b)
      clear b
      go_wp2_with fail
      refine (kidsOfS_eq hl2 H5.out HV.out rfl).mono ?_
      rintro e w6 ⟨tA, tc, rfl, th1, th2, ar, b⟩
      have B6 := hid (chain B5.out b)
      have H6 := hid (H5.out.next b)
      have tR := hid ar
      have lR := hid (lR.out.next b)
      clear b ar
      go_wp2_with fail
      refine (equalInts_n _ _ _ _ _ _ _ _ rfl rfl (by decide) lR.out tR.out).mono ?_
      rintro e w7 ⟨rfl, b⟩
      have B7 := hid (chain B6.out b)
      have H7 := hid (H6.out.next b)
      clear b
      go_wp2_with fail
      go_ret
      exact ⟨rfl, B7.out⟩
    · obtain ⟨k, rfl, hk, v⟩ := atIn_nat hat
      have HK := hid (kidsV_in v hk)
      obtain ⟨m, hm⟩ : ∃ m, (asI (kidsN T T.length k)).length = m := ⟨_, rfl⟩
      have HN := hid hm
      have hm16 : m ≤ 16 := by have := kids_len_le T T.length k; rw [asI_len] at hm; omega
      obtain ⟨d, hd⟩ : ∃ d, (up T k).length = d + 1 := ⟨(up T k).length - 1, by have := up_len_pos T k; omega⟩
      have hd5 : d ≤ 5 := by have := v.dep k hk; omega
      have HD := hid (show depthV T (k : Int) = (d : Int) by rw [depthV_in v hk, hd]; omega)
      have HDK := hid (fun q (hq : q ∈ kidsN T T.length k) => show depthV T (q : Int) = ((d + 1 : Nat) : Int) by rw [depthV_in v (mem_kids.1 hq).1, up_kid v.ord.1 hq, hd]; omega)
      have HL := hid (fun (h : (boxAt T k).Kind = 0) => show m = 0 by have := v.leaf k hk h; rw [asI_len] at hm; omega)
      have w1 : IntKind.i64.wrap ((d : Int) + 1) = ((d + 1 : Nat) : Int) := by rw [IntWalk.i64_in _ (by omega)]; rfl
      have k1 : (0 : Int) ≤ (k : Int) := by omega
      have k2 : (k : Int) < (T.length : Int) := by omega
      clear hat hm hd v
      obtain ⟨b0, off, x0, hA, -⟩ := H1.out.atBox hk
      subst hA
      go_wp2_with fail
      refine (kidsOf_eq hl2 H1.out HK.out HN.out).mono ?_
      rintro e w2 ⟨lA, lc, rfl, lh1, lh2, ar, b⟩
      have B2 := hid (chain B1.out b)
      have H2 := hid (H1.out.next b)
      have lR := hid ar
      clear b ar
      go_wp2_with fail
      refine (kidsOfS_eq hl2 H2.out HK.out HN.out).mono ?_
      rintro e w3 ⟨sA, sc, rfl, sh1, sh2, ar, b⟩
      have B3 := hid (chain B2.out b)
      have H3 := hid (H2.out.next b)
      have sR := hid ar
      have lR := hid (lR.out.next b)
      clear b ar
      go_wp2_with fail
      refine (equalInts_n _ _ _ _ _ _ _ _ HN.out HN.out (by omega) lR.out sR.out).mono ?_
      rintro e w4 ⟨rfl, b⟩
      have B4 := hid (chain B3.out b)
      have H4 := hid (H3.out.next b)
      have lR := hid (lR.out.next b)
      clear b
      go_wp2_with fail
      refine (depthOf_eq hl2 H4.out HD.out).mono ?_
      rintro e w5 ⟨rfl, b⟩
      have B5 := hid (chain B4.out b)
      have H5 := hid (H4.out.next b)
      have lR := hid (lR.out.next b)
      clear b
      go_wp2_with fail
      go_loopg [6] m (fun gg s6 wr => ∃ i : Nat, i ≤ m ∧ m - i ≤ gg ∧ s6 = .int .i64 i ∧ Aside (Below w5.heap.size w5 wr))
      case atStart => exact ⟨0, Nat.zero_le _, by omega, rfl, Below.refl _ _⟩
      case round =>
        obtain ⟨i, hi, hgg, rfl, R⟩ := hrel
        have HW := hid (H5.out.next R.out)
        have LW := hid (lR.out.next R.out)
        have BW := hid (chain B5.out R.out)
        by_cases hlt : i < m
        · obtain ⟨p, off', z, rfl, hp, hx, d1⟩ := LW.out.at1 (show i < _ by rw [HN.out]; exact hlt)
          obtain ⟨q, rfl, hq⟩ := asI_at' hx
          have HDQ := hid (HDK.out q (List.mem_of_getElem? hq))
          have i1 : (0 : Int) ≤ (i : Int) := by omega
          have i2 : (i : Int) < (m : Int) := by omega
          clear hx hq
          go_wp2_with fail
          refine (depthOf_eq hl2 HW.out HDQ.out).mono ?_
          rintro e w8 ⟨rfl, b8⟩
          have R8 := hid (chain R.out b8)
          have H8 := hid (HW.out.next b8)
          clear b8
          go_wp2_with fail
          refine (depthOf_eq hl2 H8.out HD.out).mono ?_
          rintro e w9 ⟨rfl, b9⟩
          have R9 := hid (chain R8.out b9)
          clear b9
          go_wp2_with fail
          go_roundg (m - (i + 1))
          case measure => omega
          case rel => exact ⟨i + 1, by omega, by omega, by go_num, R9.out⟩
        · obtain rfl : i = m := by omega
          obtain ⟨y, hy, hb, -, e1, -⟩ := HW.out.litBox hk
          have hye := boxAt_of hy
          rw [hye] at HL
          by_cases hkd : y.Kind = 0
          · have hmz : ((i : Int) == 0) = true := by rw [HL.out hkd]; rfl
            have hkb : (y.Kind != 0) = false := by rw [hkd]; rfl
            clear hy hye hkd HL
            go_wp2_with fail
            go_ret
            exact ⟨by first | rfl | (simp; done) | (simp; omega), BW.out⟩
          · have hkb : (y.Kind != 0) = true := by rw [bne_iff_ne]; exact hkd
            clear hy hye hkd HL
            go_wp2_with fail
            go_ret
            exact ⟨by first | rfl | (simp; done) | (simp; omega), BW.out⟩

#print axioms fnKidsOfDepth_any
end Go.Proofs.Ytpahljbcffmaaaa
