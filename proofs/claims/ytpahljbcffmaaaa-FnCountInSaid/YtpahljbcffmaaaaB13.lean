/- IsAround; the reference's CommonBox. -/
import Derived.Test.YtpahljbcffmaaaaB11
namespace Go.Proofs.Ytpahljbcffmaaaa
set_option linter.unusedVariables false
set_option linter.unusedSimpArgs false
open Go.RowKit Go.Lib

theorem atIn_nat {T : List BoxD} {x : Int} (h : atIn T x = true) : ∃ n : Nat, x = n ∧ n < T.length ∧ ValidT T := by
  obtain ⟨v, h0, h1⟩ := atIn_iff.1 h
  exact ⟨x.toNat, by omega, h1, v⟩

set_option maxHeartbeats 2000000 in
theorem isAround_any (A : Option Addr) (T : List BoxD) (c : Nat) (x y : Int) (w : World) (hL : T.length ≤ 1048576) (h : Arr w w.heap.size 9 encBox A T) :
    Calls Try.prog 31 #[.slice A T.length c, .int .i64 x, .int .i64 y] w fun e w' => e = .returned (.bool (aroundV T x y)) ∧ Below w.heap.size w w' := by
  have hv := boxIn_any A T c x w hL h
  have hv2 := fun W h => boxIn_any A T c y W hL h
  have H := hid h
  have e0 : aroundV T x y = (atIn T x && (atIn T y && aroundB T x.toNat y.toNat)) := rfl
  rw [e0]
  clear h e0
  cases q1 : atIn T x
  · rw [q1] at hv
    clear q1 hv2
    simp only [Bool.false_and]
    go_enter Try.func31, Try.ntmps31
    go_wp2_with fail
    refine hv.mono ?_
    rintro e w1 ⟨rfl, b1⟩
    have B1 := hid b1
    clear b1
    go_wp2
    go_ret
    exact ⟨rfl, B1.out⟩
  · rw [q1] at hv
    cases q2 : atIn T y
    · rw [q2] at hv2
      have HV2 := hid hv2
      clear q1 q2 hv2
      simp only [Bool.false_and, Bool.and_false]
      go_enter Try.func31, Try.ntmps31
      go_wp2_with fail
      refine hv.mono ?_
      rintro e w1 ⟨rfl, b1⟩
      have B1 := hid b1
      have H1 := hid (H.out.next b1)
      clear b1
      go_wp2_with fail
      refine (HV2.out _ H1.out).mono ?_
      rintro e w2 ⟨rfl, b2⟩
      have B2 := hid (chain B1.out b2)
      clear b2
      go_wp2
      go_ret
      exact ⟨rfl, B2.out⟩
    · rw [q2] at hv2
      have HV2 := hid hv2
      obtain ⟨n, rfl, hn, v⟩ := atIn_nat q1
      obtain ⟨m, rfl, hm, -⟩ := atIn_nat q2
      have hl16 := v.len
      have HA := hid (fun W h => around_any A T c n m W hL hm (by omega) (v.ord.1.less (by omega)) h)
      clear q1 q2 hv2 v
      simp only [Bool.true_and, Int.toNat_natCast]
      generalize aroundB T n m = r at *
      go_enter Try.func31, Try.ntmps31
      go_wp2_with fail
      refine hv.mono ?_
      rintro e w1 ⟨rfl, b1⟩
      have B1 := hid b1
      have H1 := hid (H.out.next b1)
      clear b1
      go_wp2_with fail
      refine (HV2.out _ H1.out).mono ?_
      rintro e w2 ⟨rfl, b2⟩
      have B2 := hid (chain B1.out b2)
      have H2 := hid (H1.out.next b2)
      clear b2
      go_wp2_with fail
      refine (HA.out _ H2.out).mono ?_
      rintro e w3 ⟨rfl, b3⟩
      have B3 := hid (chain B2.out b3)
      clear b3
      go_wp2
      go_ret
      exact ⟨rfl, B3.out⟩

set_option maxHeartbeats 2000000 in
theorem isAroundS_any (A : Option Addr) (T : List BoxD) (c : Nat) (x y : Int) (w : World) (hL : T.length ≤ 1048576) (h : Arr w w.heap.size 9 encBox A T) :
    Calls Try.prog 32 #[.slice A T.length c, .int .i64 x, .int .i64 y] w fun e w' => e = .returned (.bool (aroundV T x y)) ∧ Below w.heap.size w w' := by
  have hv := specvalidTree_any A T c w hL h
  have hq1 := fun W => inRangeB_any x 0 ((T.length : Int) - 1) W
  have hq2 := fun W => inRangeB_any y 0 ((T.length : Int) - 1) W
  have H := hid h
  have e0 : aroundV T x y = (atIn T x && (atIn T y && aroundB T x.toNat y.toNat)) := rfl
  have e1 : atIn T x = (validB T && inR x 0 ((T.length : Int) - 1)) := rfl
  have e2 : atIn T y = (validB T && inR y 0 ((T.length : Int) - 1)) := rfl
  have HI1 := hid (fun h => atIn_nat (T := T) (x := x) h)
  have HI2 := hid (fun h => atIn_nat (T := T) (x := y) h)
  rw [e1] at HI1
  rw [e2] at HI2
  rw [e0, e1, e2]
  clear h e0 e1 e2
  cases q0 : validB T
  · rw [q0] at hv
    clear q0 hq1 hq2 HI1 HI2
    simp only [Bool.false_and]
    go_enter Try.func32, Try.ntmps32
    go_wp2_with fail
    refine hv.mono ?_
    rintro e w1 ⟨rfl, b1⟩
    have B1 := hid b1
    clear b1
    go_wp2
    go_ret
    exact ⟨rfl, B1.out⟩
  · rw [q0] at hv HI1 HI2
    clear q0
    cases q1 : inR x 0 ((T.length : Int) - 1)
    · rw [q1] at hq1
      have HQ1 := hid hq1
      clear q1 hq1 hq2 HI1 HI2
      simp only [Bool.false_and, Bool.true_and]
      go_enter Try.func32, Try.ntmps32
      go_wp2_with fail
      refine hv.mono ?_
      rintro e w1 ⟨rfl, b1⟩
      have B1 := hid b1
      clear b1
      go_wp2_with fail
      refine (HQ1.out _).mono ?_
      rintro e w2 ⟨rfl, rfl⟩
      go_wp2
      go_ret
      exact ⟨rfl, B1.out⟩
    · rw [q1] at hq1 HI1
      have HQ1 := hid hq1
      clear hq1 q1
      cases q2 : inR y 0 ((T.length : Int) - 1)
      · rw [q2] at hq2
        have HQ2 := hid hq2
        clear q2 hq2 HI1 HI2
        simp only [Bool.false_and, Bool.true_and]
        go_enter Try.func32, Try.ntmps32
        go_wp2_with fail
        refine hv.mono ?_
        rintro e w1 ⟨rfl, b1⟩
        have B1 := hid b1
        clear b1
        go_wp2_with fail
        refine (HQ1.out _).mono ?_
        rintro e w2 ⟨rfl, rfl⟩
        go_wp2_with fail
        refine (HQ2.out _).mono ?_
        rintro e w2 ⟨rfl, rfl⟩
        go_wp2
        go_ret
        exact ⟨rfl, B1.out⟩
      · rw [q2] at hq2 HI2
        have HQ2 := hid hq2
        obtain ⟨n, rfl, hn, v⟩ := HI1.out rfl
        obtain ⟨m, rfl, hm, -⟩ := HI2.out rfl
        have HA := hid (fun W h => aroundS_any A T c n m W hL hm (v.ord.1.less (by omega)) h)
        clear hq2 q2 v HI1 HI2
        simp only [Bool.true_and, Int.toNat_natCast]
        generalize aroundB T n m = r at *
        go_enter Try.func32, Try.ntmps32
        go_wp2_with fail
        refine hv.mono ?_
        rintro e w1 ⟨rfl, b1⟩
        have B1 := hid b1
        have H1 := hid (H.out.next b1)
        clear b1
        go_wp2_with fail
        refine (HQ1.out _).mono ?_
        rintro e w2 ⟨rfl, rfl⟩
        go_wp2_with fail
        refine (HQ2.out _).mono ?_
        rintro e w2 ⟨rfl, rfl⟩
        go_wp2_with fail
        refine (HA.out _ H1.out).mono ?_
        rintro e w3 ⟨rfl, rfl⟩
        go_wp2
        go_ret
        exact ⟨rfl, B1.out⟩

end Go.Proofs.Ytpahljbcffmaaaa
