/- FnCommonBox: the walk. Written by a program of ours. -/
import Derived.Test.YtjomdcnelamefaaB19
namespace Go.Proofs.Ytjomdcnelamefaa
set_option linter.unusedVariables false
set_option linter.unusedSimpArgs false
open Go.RowKit Go.Lib

set_option maxRecDepth 100000 in
set_option maxHeartbeats 4000000 in
theorem fnCommonBox_any (A : Option Addr) (cap : Nat) (bs : List Int) (w : World) (h : Code w A cap bs) :
    Calls Try.prog 10 #[.slice A bs.length cap] w (Yes w) := by
  have hcap := h.cap1
  have hcap2 := h.cap2
  by_cases hbig : 1048576 < bs.length
  · clear h
    go_enter Try.func10, Try.ntmps10
    go_wp2
    go_ret
    exact ⟨rfl, Below.refl _ _⟩
  · have hd := drawCommonBox_any A cap bs w h
    clear h
    go_enter Try.func10, Try.ntmps10
    go_wp2_with fail
    refine hd.mono ?_
    rintro e w1 ⟨A1, c1, T, x, y, rfl, hx, hy, hl, hc1, hc2, ha, b1⟩
    have H1 := hid ha
    have B1 := hid b1
    have hl2 : T.length ≤ 1048576 := by omega
    clear ha b1 hd
    cases hat : atIn T x
    · have HV := hid (commonV_out1 (y := y) hat)
      clear hat
      go_wp2_with fail
      refine (commonBox_eq hl2 H1.out HV.out).mono ?_
      rintro e w2 ⟨rfl, b⟩
      have B2 := hid (chain B1.out b)
      have H2 := hid (H1.out.next b)
      clear b
      go_wp2_with fail
      refine (commonBoxS_eq hl2 H2.out HV.out).mono ?_
      rintro e w3 ⟨rfl, b⟩
      have B3 := hid (chain B2.out b)
      have H3 := hid (H2.out.next b)
      clear b
      go_wp2_with fail
      refine (commonBoxS_eq hl2 H3.out HV.out).mono ?_
      rintro e w4 ⟨rfl, b⟩
      have B4 := hid (chain B3.out b)
      have H4 := hid (H3.out.next b)
      clear b
      go_wp2_with fail
      go_ret
      exact ⟨rfl, B4.out⟩
    obtain ⟨a, rfl, ha, v⟩ := atIn_nat hat
    cases hin : atIn T y
    · have HV := hid (commonV_out2 (x := (a : Int)) hin)
      clear hin hat v
      go_wp2_with fail
      refine (commonBox_eq hl2 H1.out HV.out).mono ?_
      rintro e w2 ⟨rfl, b⟩
      have B2 := hid (chain B1.out b)
      have H2 := hid (H1.out.next b)
      clear b
      go_wp2_with fail
      refine (commonBoxS_eq hl2 H2.out HV.out).mono ?_
      rintro e w3 ⟨rfl, b⟩
      have B3 := hid (chain B2.out b)
      have H3 := hid (H2.out.next b)
      clear b
      go_wp2_with fail
      refine (commonBoxS_eq hl2 H3.out HV.out).mono ?_
      rintro e w4 ⟨rfl, b⟩
      have B4 := hid (chain B3.out b)
      have H4 := hid (H3.out.next b)
      clear b
      go_wp2_with fail
      go_ret
      exact ⟨rfl, B4.out⟩
    obtain ⟨b, rfl, hb, -⟩ := atIn_nat hin
    obtain ⟨K, hK⟩ : ∃ K, common T a b = K := ⟨_, rfl⟩
    have hcs := common_spec v.ord.1 ha hb
    have hKn := common_lt v.ord.1 ha hb
    rw [hK] at hcs hKn
    have HV := hid (show commonV T (a : Int) (b : Int) = (K : Int) by rw [commonV_in v ha hb, hK])
    have HA := hid (show aroundV T (K : Int) (a : Int) = true by rw [aroundV_in v hKn ha]; exact aroundB_iff.2 hcs.1)
    have HB := hid (show aroundV T (K : Int) (b : Int) = true by rw [aroundV_in v hKn hb]; exact aroundB_iff.2 hcs.2.1)
    have HK := hid (kidsV_in v hKn)
    obtain ⟨m, hm⟩ : ∃ m, (asI (kidsN T T.length K)).length = m := ⟨_, rfl⟩
    have HN := hid hm
    have hm16 : m ≤ 16 := by have := kids_len_le T T.length K; rw [asI_len] at hm; omega
    have HNK := hid (fun q (hq : q ∈ kidsN T T.length K) => common_no_kid v.ord.1 ha hb (k := q) (by rw [hK]; exact hq))
    have VV := hid v
    clear hat hin hK hcs hm v
    go_wp2_with fail
    refine (commonBox_eq hl2 H1.out HV.out).mono ?_
    rintro e w2 ⟨rfl, b⟩
    have B2 := hid (chain B1.out b)
    have H2 := hid (H1.out.next b)
    clear b
    go_wp2_with fail
    refine (commonBoxS_eq hl2 H2.out HV.out).mono ?_
    rintro e w3 ⟨rfl, b⟩
    have B3 := hid (chain B2.out b)
    have H3 := hid (H2.out.next b)
    clear b
    go_wp2_with fail
    refine (kidsOf_eq hl2 H3.out HK.out HN.out).mono ?_
    rintro e w4 ⟨lA, lc, rfl, lh1, lh2, ar, b⟩
    have B4 := hid (chain B3.out b)
    have H4 := hid (H3.out.next b)
    have lR := hid ar
    clear b ar
    go_wp2_with fail
    go_loopg [8] m (fun gg s8 wr => ∃ i : Nat, i ≤ m ∧ m - i ≤ gg ∧ s8 = .int .i64 i ∧ Aside (Below w4.heap.size w4 wr))
    case atStart => exact ⟨0, Nat.zero_le _, by omega, rfl, Below.refl _ _⟩
    case round =>
      obtain ⟨i, hi, hgg, rfl, R⟩ := hrel
      have HW := hid (H4.out.next R.out)
      have LW := hid (lR.out.next R.out)
      have BW := hid (chain B4.out R.out)
      by_cases hlt : i < m
      · obtain ⟨p, off', z, rfl, hp, hx, d1⟩ := LW.out.at1 (show i < _ by rw [HN.out]; exact hlt)
        obtain ⟨q, rfl, hq⟩ := asI_at' hx
        have hqm := List.mem_of_getElem? hq
        have hqn := (mem_kids.1 hqm).1
        have hnk := HNK.out q hqm
        have i1 : (0 : Int) ≤ (i : Int) := by omega
        have i2 : (i : Int) < (m : Int) := by omega
        clear hx hq hqm
        have D1 := hid d1
        cases hr : aroundB T q a
        · have HR := hid (show aroundV T (q : Int) (a : Int) = false by rw [aroundV_in VV.out hqn ha, hr])
          clear hr hnk
          go_wp2_with fail
          refine (isAround_eq hl2 HW.out HR.out).mono ?_
          rintro e w8 ⟨rfl, b8⟩
          have R8 := hid (chain R.out b8)
          have H8 := hid (HW.out.next b8)
          clear b8
          have R9 := R8
          go_wp2_with fail
          go_roundg (m - (i + 1))
          case measure => omega
          case rel => exact ⟨i + 1, by omega, by omega, by go_num, R9.out⟩
        · have HR := hid (show aroundV T (q : Int) (a : Int) = true by rw [aroundV_in VV.out hqn ha, hr])
          have HR2 := hid (show aroundV T (q : Int) (b : Int) = false by rw [aroundV_in VV.out hqn hb, Bool.eq_false_iff]; exact fun h => hnk ⟨aroundB_iff.1 hr, aroundB_iff.1 h⟩)
          clear hr hnk
          go_wp2_with fail
          refine (isAround_eq hl2 HW.out HR.out).mono ?_
          rintro e w8 ⟨rfl, b8⟩
          have R8 := hid (chain R.out b8)
          have H8 := hid (HW.out.next b8)
          have d2 := (b8.cell (p := ⟨p, off' + i, none⟩) hp).trans D1.out
          clear b8
          go_wp2_with fail
          refine (isAround_eq hl2 H8.out HR2.out).mono ?_
          rintro e w9 ⟨rfl, b9⟩
          have R9 := hid (chain R8.out b9)
          clear b9
          go_wp2_with fail
          go_roundg (m - (i + 1))
          case measure => omega
          case rel => exact ⟨i + 1, by omega, by omega, by go_num, R9.out⟩
      · obtain rfl : i = m := by omega
        go_wp2_with fail
        refine (isAround_eq hl2 HW.out HA.out).mono ?_
        rintro e w8 ⟨rfl, b8⟩
        have B8 := hid (chain BW.out b8)
        have H8 := hid (HW.out.next b8)
        clear b8
        go_wp2_with fail
        refine (isAround_eq hl2 H8.out HB.out).mono ?_
        rintro e w9 ⟨rfl, b9⟩
        have B9 := hid (chain B8.out b9)
        clear b9
        go_wp2_with fail
        go_ret
        exact ⟨by first | rfl | (simp; done) | (simp; omega), B9.out⟩

#print axioms fnCommonBox_any
end Go.Proofs.Ytjomdcnelamefaa
