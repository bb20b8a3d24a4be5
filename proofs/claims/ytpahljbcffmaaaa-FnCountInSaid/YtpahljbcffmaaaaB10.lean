/- KidsOf, DepthOf, CountIn, PathTo (the program's). Written by a program of ours. -/
import Derived.Test.YtpahljbcffmaaaaB9
namespace Go.Proofs.Ytpahljbcffmaaaa
set_option linter.unusedVariables false
set_option linter.unusedSimpArgs false
open Go.RowKit Go.Lib

set_option maxHeartbeats 4000000 in
theorem kidsOf_any (A : Option Addr) (T : List BoxD) (c : Nat) (x : Int) (w : World) (hL : T.length ≤ 1048576) (h : Arr w w.heap.size 9 encBox A T) :
    Calls Try.prog 24 #[.slice A T.length c, .int .i64 x] w (Gives 1 encI (kidsV T x) w) := by
  have hv := boxIn_any A T c x w hL h
  have H := hid h
  have e0 : kidsV T x = if atIn T x then asI (kidsN T T.length x.toNat) else [] := rfl
  have HI := hid (fun h => (atIn_iff (T := T) (x := x)).1 h)
  rw [e0]
  clear h e0
  cases q1 : atIn T x
  · rw [q1] at hv
    clear q1 HI
    simp only [Bool.false_eq_true, if_false]
    go_enter Try.func24, Try.ntmps24
    go_wp2_with fail
    refine hv.mono ?_
    rintro e w1 ⟨rfl, b1⟩
    have B1 := hid b1
    clear b1
    go_wp2
    go_ret
    exact ⟨none, 0, rfl, by simp, by simp [maxLen], fun h => absurd h (by simp), B1.out⟩
  · rw [q1] at hv HI
    obtain ⟨v, hx0, hlt⟩ := HI.out rfl
    have HV := hid v
    obtain ⟨n, rfl⟩ : ∃ n : Nat, x = n := ⟨x.toNat, by omega⟩
    have hl16 := v.len
    rw [Int.toNat_natCast] at hlt
    clear q1 HI hx0 v
    simp only [Int.toNat_natCast, if_true]
    have hc := fun W h => kids_any A T c n W (by omega) h
    have HC := hid hc
    clear hc
    generalize asI _ = Q at *
    go_enter Try.func24, Try.ntmps24
    go_wp2_with fail
    refine hv.mono ?_
    rintro e w1 ⟨rfl, b1⟩
    have B1 := hid b1
    have H1 := hid (H.out.next b1)
    clear b1
    go_wp2_with fail
    refine (HC.out _ H1.out).mono ?_
    rintro e w4 ⟨A4, c4, rfl, h41, h42, o4, b4⟩
    have O4 := hid (o4.less B1.out.size)
    have B4 := hid (chain B1.out b4)
    clear o4 b4
    go_wp2
    go_ret
    exact ⟨A4, c4, rfl, h41, h42, O4.out, B4.out⟩

set_option maxHeartbeats 4000000 in
theorem pathTo_any (A : Option Addr) (T : List BoxD) (c : Nat) (x : Int) (w : World) (hL : T.length ≤ 1048576) (h : Arr w w.heap.size 9 encBox A T) :
    Calls Try.prog 34 #[.slice A T.length c, .int .i64 x] w (Gives 1 encI (pathV T x) w) := by
  have hv := boxIn_any A T c x w hL h
  have H := hid h
  have e0 : pathV T x = if atIn T x then asI (pathOf T x.toNat) else [] := rfl
  have HI := hid (fun h => (atIn_iff (T := T) (x := x)).1 h)
  rw [e0]
  clear h e0
  cases q1 : atIn T x
  · rw [q1] at hv
    clear q1 HI
    simp only [Bool.false_eq_true, if_false]
    go_enter Try.func34, Try.ntmps34
    go_wp2_with fail
    refine hv.mono ?_
    rintro e w1 ⟨rfl, b1⟩
    have B1 := hid b1
    clear b1
    go_wp2
    go_ret
    exact ⟨none, 0, rfl, by simp, by simp [maxLen], fun h => absurd h (by simp), B1.out⟩
  · rw [q1] at hv HI
    obtain ⟨v, hx0, hlt⟩ := HI.out rfl
    have HV := hid v
    obtain ⟨n, rfl⟩ : ∃ n : Nat, x = n := ⟨x.toNat, by omega⟩
    have hl16 := v.len
    rw [Int.toNat_natCast] at hlt
    clear q1 HI hx0 v
    simp only [Int.toNat_natCast, if_true]
    have hc := fun W h => path_any A T c n W hL hlt (by omega) (HV.out.ord.1.less (by omega)) h
    have HC := hid hc
    clear hc
    generalize asI _ = Q at *
    go_enter Try.func34, Try.ntmps34
    go_wp2_with fail
    refine hv.mono ?_
    rintro e w1 ⟨rfl, b1⟩
    have B1 := hid b1
    have H1 := hid (H.out.next b1)
    clear b1
    go_wp2_with fail
    refine (HC.out _ H1.out).mono ?_
    rintro e w4 ⟨A4, c4, rfl, h41, h42, o4, b4⟩
    have O4 := hid (o4.less B1.out.size)
    have B4 := hid (chain B1.out b4)
    clear o4 b4
    go_wp2
    go_ret
    exact ⟨A4, c4, rfl, h41, h42, O4.out, B4.out⟩

set_option maxHeartbeats 4000000 in
theorem countIn_any (A : Option Addr) (T : List BoxD) (c : Nat) (x : Int) (w : World) (hL : T.length ≤ 1048576) (h : Arr w w.heap.size 9 encBox A T) :
    Calls Try.prog 18 #[.slice A T.length c, .int .i64 x] w fun e w' => e = .returned (.int .i64 (countV T x)) ∧ Below w.heap.size w w' := by
  have hv := boxIn_any A T c x w hL h
  have H := hid h
  have e0 : countV T x = if atIn T x then (countN T T.length x.toNat : Int) else -1 := rfl
  have HI := hid (fun h => (atIn_iff (T := T) (x := x)).1 h)
  rw [e0]
  clear h e0
  cases q1 : atIn T x
  · rw [q1] at hv
    clear q1 HI
    simp only [Bool.false_eq_true, if_false]
    go_enter Try.func18, Try.ntmps18
    go_wp2_with fail
    refine hv.mono ?_
    rintro e w1 ⟨rfl, b1⟩
    have B1 := hid b1
    clear b1
    go_wp2
    go_ret
    exact ⟨rfl, B1.out⟩
  · rw [q1] at hv HI
    obtain ⟨v, hx0, hlt⟩ := HI.out rfl
    have HV := hid v
    obtain ⟨n, rfl⟩ : ∃ n : Nat, x = n := ⟨x.toNat, by omega⟩
    have hl16 := v.len
    rw [Int.toNat_natCast] at hlt
    clear q1 HI hx0 v
    simp only [Int.toNat_natCast, if_true]
    have hc := fun W h => count_any A T c n W (by omega) HV.out.ord.1 h
    have HC := hid hc
    clear hc
    generalize countN T T.length n = Q at *
    go_enter Try.func18, Try.ntmps18
    go_wp2_with fail
    refine hv.mono ?_
    rintro e w1 ⟨rfl, b1⟩
    have B1 := hid b1
    have H1 := hid (H.out.next b1)
    clear b1
    go_wp2_with fail
    refine (HC.out _ H1.out).mono ?_
    rintro e w4 ⟨rfl, b4⟩
    have B4 := hid (chain B1.out b4)
    clear b4
    go_wp2
    go_ret
    exact ⟨rfl, B4.out⟩

set_option maxHeartbeats 4000000 in
theorem depthOf_any (A : Option Addr) (T : List BoxD) (c : Nat) (x : Int) (w : World) (hL : T.length ≤ 1048576) (h : Arr w w.heap.size 9 encBox A T) :
    Calls Try.prog 28 #[.slice A T.length c, .int .i64 x] w fun e w' => e = .returned (.int .i64 (depthV T x)) ∧ Below w.heap.size w w' := by
  have hv := boxIn_any A T c x w hL h
  have H := hid h
  have e0 : depthV T x = if atIn T x then ((up T x.toNat).length : Int) - 1 else -1 := rfl
  have HI := hid (fun h => (atIn_iff (T := T) (x := x)).1 h)
  rw [e0]
  clear h e0
  cases q1 : atIn T x
  · rw [q1] at hv
    clear q1 HI
    simp only [Bool.false_eq_true, if_false]
    go_enter Try.func28, Try.ntmps28
    go_wp2_with fail
    refine hv.mono ?_
    rintro e w1 ⟨rfl, b1⟩
    have B1 := hid b1
    clear b1
    go_wp2
    go_ret
    exact ⟨rfl, B1.out⟩
  · rw [q1] at hv HI
    obtain ⟨v, hx0, hlt⟩ := HI.out rfl
    have HV := hid v
    obtain ⟨n, rfl⟩ : ∃ n : Nat, x = n := ⟨x.toNat, by omega⟩
    have hl16 := v.len
    rw [Int.toNat_natCast] at hlt
    clear q1 HI hx0 v
    simp only [Int.toNat_natCast, if_true]
    have hc := fun W h => (path_any A T c n W hL hlt (by omega) (HV.out.ord.1.less (by omega)) h).mono fun _ _ h => SliceN.of h
    rw [asI_len, path_len] at hc
    have HC := hid hc
    have hd6 := HV.out.dep n hlt
    have hd0 := up_len_pos T n
    clear hc
    generalize (up T n).length = Q at *
    go_enter Try.func28, Try.ntmps28
    go_wp2_with fail
    refine hv.mono ?_
    rintro e w1 ⟨rfl, b1⟩
    have B1 := hid b1
    have H1 := hid (H.out.next b1)
    clear b1
    go_wp2_with fail
    refine (HC.out _ H1.out).mono ?_
    rintro e w4 ⟨A4, c4, rfl, b4⟩
    have B4 := hid (chain B1.out b4)
    clear b4
    go_wp2
    go_ret
    exact ⟨rfl, B4.out⟩

end Go.Proofs.Ytpahljbcffmaaaa
