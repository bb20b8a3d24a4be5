/- FnLayoutRootKid: the walk. Written by a program of ours. -/
import Derived.Test.YtjomdcnelamefaaB19
namespace Go.Proofs.Ytjomdcnelamefaa
set_option linter.unusedVariables false
set_option linter.unusedSimpArgs false
open Go.RowKit Go.Lib

set_option maxRecDepth 100000 in
set_option maxHeartbeats 4000000 in
theorem fnLayoutRootKid_any (A : Option Addr) (cap : Nat) (bs : List Int) (w : World) (h : Code w A cap bs) :
    Calls Try.prog 9 #[.slice A bs.length cap] w (Yes w) := by
  have hcap := h.cap1
  have hcap2 := h.cap2
  by_cases hbig : 1048576 < bs.length
  · clear h
    go_enter Try.func9, Try.ntmps9
    go_wp2
    go_ret
    exact ⟨rfl, Below.refl _ _⟩
  · have hd := drawLayoutRoot_any A cap bs w h
    clear h
    go_enter Try.func9, Try.ntmps9
    go_wp2_with fail
    refine hd.mono ?_
    rintro e w1 ⟨A1, c1, T, x, rfl, hx, hl, hc1, hc2, ha, b1⟩
    have H1 := hid ha
    have B1 := hid b1
    have hl2 : T.length ≤ 1048576 := by omega
    clear ha b1 hd
    cases hat : atIn T x
    · have HV := hid (layV_out hat)
      clear hat
      go_wp2_with fail
      refine (layoutRoot_eq hl2 H1.out HV.out).mono ?_
      rintro e w2 ⟨rfl, b⟩
      have B2 := hid (chain B1.out b)
      have H2 := hid (H1.out.next b)
      clear b
      go_wp2_with fail
      refine (layoutRootS_eq hl2 H2.out HV.out).mono ?_
      rintro e w3 ⟨rfl, b⟩
      have B3 := hid (chain B2.out b)
      have H3 := hid (H2.out.next b)
      clear b
      go_wp2_with fail
      refine (layoutRootS_eq hl2 H3.out HV.out).mono ?_
      rintro e w4 ⟨rfl, b⟩
      have B4 := hid (chain B3.out b)
      have H4 := hid (H3.out.next b)
      clear b
      go_wp2_with fail
      go_ret
      exact ⟨rfl, B4.out⟩
    · obtain ⟨k, rfl, hk, v⟩ := atIn_nat hat
      obtain ⟨K, hK⟩ : ∃ K, layRoot T k = K := ⟨_, rfl⟩
      have HV := hid (show layV T (k : Int) = (K : Int) by rw [layV_in v hk, hK])
      have HK := hid (kidsV_in v hk)
      obtain ⟨m, hm⟩ : ∃ m, (asI (kidsN T T.length k)).length = m := ⟨_, rfl⟩
      have HN := hid hm
      have hm16 : m ≤ 16 := by have := kids_len_le T T.length k; rw [asI_len] at hm; omega
      have HLK := hid (fun q (hq : q ∈ kidsN T T.length k) => show layV T (q : Int) = (((if (boxAt T k).Kind = 1 then K else k : Nat)) : Int) by rw [layV_in v (mem_kids.1 hq).1, lay_kid v.ord.1 hk hq, hK])
      have k1 : (0 : Int) ≤ (k : Int) := by omega
      have k2 : (k : Int) < (T.length : Int) := by omega
      clear hat hK hm v
      obtain ⟨b0, off, x0, hA, -⟩ := H1.out.atBox hk
      subst hA
      go_wp2_with fail
      refine (layoutRoot_eq hl2 H1.out HV.out).mono ?_
      rintro e w2 ⟨rfl, b⟩
      have B2 := hid (chain B1.out b)
      have H2 := hid (H1.out.next b)
      clear b
      go_wp2_with fail
      refine (layoutRootS_eq hl2 H2.out HV.out).mono ?_
      rintro e w3 ⟨rfl, b⟩
      have B3 := hid (chain B2.out b)
      have H3 := hid (H2.out.next b)
      clear b
      go_wp2_with fail
      refine (kidsOf_eq hl2 H3.out HK.out HN.out).mono ?_
      rintro e w4 ⟨lA, lc, rfl, lh1, lh2, ar, b⟩
      have B4 := hid (chain B3.out b)
      have H4 := hid (H3.out.next b)
      have lR := hid ar
      clear b ar
      go_wp2_with fail
      go_loopg [7] m (fun gg s7 wr => ∃ i : Nat, i ≤ m ∧ m - i ≤ gg ∧ s7 = .int .i64 i ∧ Aside (Below w4.heap.size w4 wr))
      case atStart => exact ⟨0, Nat.zero_le _, by omega, rfl, Below.refl _ _⟩
      case round =>
        obtain ⟨i, hi, hgg, rfl, R⟩ := hrel
        have HW := hid (H4.out.next R.out)
        have LW := hid (lR.out.next R.out)
        have BW := hid (chain B4.out R.out)
        by_cases hlt : i < m
        · obtain ⟨p, off', z, rfl, hp, hx, d1⟩ := LW.out.at1 (show i < _ by rw [HN.out]; exact hlt)
          obtain ⟨q, rfl, hq⟩ := asI_at' hx
          have hlk := HLK.out q (List.mem_of_getElem? hq)
          have i1 : (0 : Int) ≤ (i : Int) := by omega
          have i2 : (i : Int) < (m : Int) := by omega
          obtain ⟨y0, hy0, -⟩ := HW.out.litBox hk
          rw [boxAt_of hy0] at hlk
          have HY0 := hid hy0
          clear hx hq hy0
          by_cases hk1 : y0.Kind = 1
          · rw [if_pos hk1] at hlk
            have HL := hid hlk
            have HK1 := hid hk1
            clear hlk hk1
            go_wp2_with fail
            refine (layoutRoot_eq hl2 HW.out HL.out).mono ?_
            rintro e w9 ⟨rfl, b9⟩
            have R9 := hid (chain R.out b9)
            have H9 := hid (HW.out.next b9)
            clear b9
            obtain ⟨y, hy, hyb, -, e1, -⟩ := H9.out.litBox hk
            obtain rfl : y0 = y := by have h := HY0.out; rw [hy] at h; injection h with h; exact h.symm
            have hkk : (y0.Kind == 1) = true := by rw [beq_iff_eq]; exact HK1.out
            have hkn : (y0.Kind != 1) = false := by unfold bne; rw [hkk]; rfl
            have hKK : ((K : Int) != (K : Int)) = false := by simp
            have hkkk : ((k : Int) != (k : Int)) = false := by simp
            clear hy
            go_wp2_with fail
            go_roundg (m - (i + 1))
            case measure => omega
            case rel => exact ⟨i + 1, by omega, by omega, by go_num, R9.out⟩
          · rw [if_neg hk1] at hlk
            have HL := hid hlk
            have HK1 := hid hk1
            clear hlk hk1
            go_wp2_with fail
            refine (layoutRoot_eq hl2 HW.out HL.out).mono ?_
            rintro e w9 ⟨rfl, b9⟩
            have R9 := hid (chain R.out b9)
            have H9 := hid (HW.out.next b9)
            clear b9
            obtain ⟨y, hy, hyb, -, e1, -⟩ := H9.out.litBox hk
            obtain rfl : y0 = y := by have h := HY0.out; rw [hy] at h; injection h with h; exact h.symm
            have hkk : (y0.Kind == 1) = false := by rw [beq_eq_false_iff_ne]; exact HK1.out
            have hkn : (y0.Kind != 1) = true := by unfold bne; rw [hkk]; rfl
            have hKK : ((K : Int) != (K : Int)) = false := by simp
            have hkkk : ((k : Int) != (k : Int)) = false := by simp
            clear hy
            go_wp2_with fail
            go_roundg (m - (i + 1))
            case measure => omega
            case rel => exact ⟨i + 1, by omega, by omega, by go_num, R9.out⟩
        · obtain rfl : i = m := by omega
          go_wp2_with fail
          go_ret
          exact ⟨rfl, BW.out⟩

#print axioms fnLayoutRootKid_any
end Go.Proofs.Ytjomdcnelamefaa
