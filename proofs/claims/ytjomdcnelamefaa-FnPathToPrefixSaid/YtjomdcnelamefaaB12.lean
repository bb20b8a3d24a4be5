/- LayoutRoot, NextLeaf. Written by a program of ours. -/
import Derived.Test.YtjomdcnelamefaaB11
namespace Go.Proofs.Ytjomdcnelamefaa
set_option linter.unusedVariables false
set_option linter.unusedSimpArgs false
open Go.RowKit Go.Lib

/-- What is still to come, from a parent on. -/
def layP (T : List BoxD) (p : Int) : Nat := if p ≤ 0 then 0 else if (boxAt T p.toNat).Kind = 1 then layRoot T p.toNat else p.toNat
theorem layP_of {T : List BoxD} {n q : Nat} (h : Desc T n) (hq : q < n) : layRoot T q = layP T (par T q) := by
  unfold layP
  rcases Nat.eq_zero_or_pos q with rfl | h0
  · rw [lay_zero h hq, if_pos (by have := (h 0 hq).1 rfl; omega)]
  · have hp := (h q hq).2 h0
    rw [lay_next h hq h0]
    by_cases e : par T q ≤ 0
    · rw [if_pos e, if_pos (.inl (by omega))]; omega
    · rw [if_neg e]
      by_cases k : (boxAt T (par T q).toNat).Kind = 1
      · rw [if_pos k, if_neg (fun h => by rcases h with h | h; omega; exact h k)]
      · rw [if_neg k, if_pos (.inr k)]

set_option maxHeartbeats 4000000 in
theorem layoutRoot_any (A : Option Addr) (T : List BoxD) (c : Nat) (x : Int) (w : World) (hL : T.length ≤ 1048576) (h : Arr w w.heap.size 9 encBox A T) :
    Calls Try.prog 24 #[.slice A T.length c, .int .i64 x] w fun e w' => e = .returned (.int .i64 (layV T x)) ∧ Below w.heap.size w w' := by
  have hv := boxIn_any A T c x w hL h
  have H := hid h
  have e0 : layV T x = if atIn T x then (layRoot T x.toNat : Int) else -1 := rfl
  have HI := hid (fun h => (atIn_iff (T := T) (x := x)).1 h)
  rw [e0]
  clear h e0
  cases q1 : atIn T x
  · rw [q1] at hv
    clear q1 HI
    simp only [Bool.false_eq_true, if_false]
    go_enter Try.func24, Try.ntmps24
    go_wp2_with fail
    refine hv.mono ?_
    rintro e w1 ⟨rfl, b1⟩
    have B1 := hid b1
    clear b1
    go_wp2
    go_ret
    exact ⟨rfl, B1.out⟩
  · rw [q1] at hv HI
    obtain ⟨v, hx0, hlt⟩ := HI.out rfl
    have HV := hid v
    obtain ⟨n, rfl⟩ : ∃ n : Nat, x = n := ⟨x.toNat, by omega⟩
    have hl16 := v.len
    rw [Int.toNat_natCast] at hlt
    clear q1 HI hx0 v
    simp only [Int.toNat_natCast, if_true]
    have HD := hid HV.out.ord.1
    have HS := hid HV.out.sty
    have HK := hid (fun i h0 hi => valid_kind HV.out (i := i) h0 hi)
    have h0 := layP_of HD.out hlt
    generalize layRoot T n = res at *
    have H0 := hid h0
    clear h0
    have hbd0 := par_bd HD.out hlt
    go_enter Try.func24, Try.ntmps24
    go_wp2_with fail
    refine hv.mono ?_
    rintro e w1 ⟨rfl, b1⟩
    have B1 := hid b1
    have H1 := hid (H.out.next b1)
    clear b1
    obtain ⟨b, off, x, hA, hb, hx, d1, -⟩ := H1.out.atBox hlt
    subst hA
    have hxp := par_of hx
    rw [hxp] at hbd0
    have P0 : Aside (res = layP T x.Parent ∧ (0 < x.Parent → ∃ j, j < T.length ∧ 0 < j ∧ par T j = x.Parent)) := ⟨by rw [← hxp]; exact H0.out, fun h => ⟨n, hlt, by rcases Nat.eq_zero_or_pos n with rfl | h1; (have := (HD.out 0 hlt).1 rfl; omega); exact h1, hxp⟩⟩
    have i1 : (n : Int) < (T.length : Int) := by omega
    have i2 : (0 : Int) ≤ (n : Int) := by omega
    clear hx hxp H0
    go_wp2
    go_loop [1] (fun s1 => ∃ p : Int, -1 ≤ p ∧ p < (T.length : Int) ∧ s1 = .int .i64 p ∧ Aside (res = layP T p ∧ (0 < p → ∃ j, j < T.length ∧ 0 < j ∧ par T j = p))) (fun s1 => (intOf s1 + 1).toNat)
    case atStart => exact ⟨x.Parent, by omega, by omega, rfl, P0⟩
    case round =>
      obtain ⟨p, hp0, hp1, rfl, R⟩ := hrel
      clear P0
      by_cases hpos : 0 < p
      · obtain ⟨q, rfl⟩ : ∃ q : Nat, p = q := ⟨p.toNat, by omega⟩
        have hq : q < T.length := by omega
        obtain ⟨y, hy, -, e0, e1, -⟩ := H1.out.litBox hq
        obtain ⟨j, hj1, hj2, hj3⟩ := R.out.2 hpos
        have hk := HK.out j hj2 hj1
        have hst := (styled_iff.1 (HS.out q hq)).1
        rw [hj3, Int.toNat_natCast] at hk
        rw [boxAt_of hy] at hk hst
        have hyb := par_bd HD.out hq
        have hyp := par_of hy
        rw [hyp] at hyb
        have hstep : (y.Kind = 1 → res = layP T y.Parent) ∧ (y.Kind ≠ 1 → res = q) := by
          have h1 := R.out.1
          unfold layP at h1
          rw [if_neg (by omega), Int.toNat_natCast, boxAt_of hy] at h1
          refine ⟨fun e => ?_, fun e => ?_⟩
          · rw [if_pos e] at h1; rw [h1, layP_of HD.out hq, hyp]
          · rw [if_neg e] at h1; exact h1
        have HST := hid hstep
        have HYP := hid hyp
        clear hy hj1 hj2 hj3 hyp hstep R
        by_cases hk1 : y.Kind = 1
        · have t1 : (y.Kind == 2) = false := by rw [hk1]; rfl
          have t2 : (y.Kind == 3) = false := by rw [hk1]; rfl
          have HR := hid (HST.out.1 hk1)
          clear hk1 hk hst
          go_wp2
          go_round
          case measure => simp [intOf]; omega
          case rel => exact ⟨y.Parent, by omega, by omega, rfl, HR.out, fun h => ⟨q, hq, by omega, HYP.out⟩⟩
        · have hr := HST.out.2 hk1
          subst hr
          by_cases hk2 : y.Kind = 2
          · have t1 : (y.Kind == 2) = true := by rw [hk2]; rfl
            clear hk1 hk hst hk2
            go_wp2
            go_ret
            exact ⟨rfl, B1.out⟩
          · have t1 : (y.Kind == 2) = false := by rw [beq_eq_false_iff_ne]; exact hk2
            have t2 : (y.Kind == 3) = true := by rw [beq_iff_eq]; omega
            clear hk1 hk hst hk2
            go_wp2
            go_ret
            exact ⟨rfl, B1.out⟩
      · have hr : res = 0 := by rw [R.out.1]; unfold layP; rw [if_pos (by omega)]
        have HR := hid hr
        clear hr R
        go_wp2
        go_ret
        exact ⟨by rw [HR.out]; rfl, B1.out⟩

set_option maxHeartbeats 4000000 in
theorem layoutRootS_any (A : Option Addr) (T : List BoxD) (c : Nat) (x : Int) (w : World) (hL : T.length ≤ 1048576) (h : Arr w w.heap.size 9 encBox A T) :
    Calls Try.prog 25 #[.slice A T.length c, .int .i64 x] w fun e w' => e = .returned (.int .i64 (layV T x)) ∧ Below w.heap.size w w' := by
  have hv := specvalidTree_any A T c w hL h
  have hq := fun W => inRangeB_any x 0 ((T.length : Int) - 1) W
  have H := hid h
  have e0 : layV T x = if atIn T x then (layRoot T x.toNat : Int) else -1 := rfl
  have HI := hid (fun h => (atIn_iff (T := T) (x := x)).1 h)
  rw [e0]
  have e1 : atIn T x = (validB T && inR x 0 ((T.length : Int) - 1)) := rfl
  rw [e1] at HI ⊢
  clear h e0 e1
  cases q1 : validB T
  · rw [q1] at hv
    clear q1 hq HI
    simp only [Bool.false_and, Bool.false_eq_true, if_false]
    go_enter Try.func25, Try.ntmps25
    go_wp2_with fail
    refine hv.mono ?_
    rintro e w1 ⟨rfl, b1⟩
    have B1 := hid b1
    clear b1
    go_wp2
    go_ret
    exact ⟨rfl, B1.out⟩
  · rw [q1] at hv HI
    clear q1
    cases q2 : inR x 0 ((T.length : Int) - 1)
    · rw [q2] at hq
      have HQ := hid hq
      clear q2 hq HI
      simp only [Bool.true_and, Bool.false_eq_true, if_false]
      go_enter Try.func25, Try.ntmps25
      go_wp2_with fail
      refine hv.mono ?_
      rintro e w1 ⟨rfl, b1⟩
      have B1 := hid b1
      clear b1
      go_wp2_with fail
      refine (HQ.out _).mono ?_
      rintro e w2 ⟨rfl, rfl⟩
      go_wp2
      go_ret
      exact ⟨rfl, B1.out⟩
    · rw [q2] at hq HI
      have HQ := hid hq
      obtain ⟨v, hx0, hlt⟩ := HI.out rfl
      have HV := hid v
      obtain ⟨n, rfl⟩ : ∃ n : Nat, x = n := ⟨x.toNat, by omega⟩
      have hl16 := v.len
      rw [Int.toNat_natCast] at hlt
      clear q2 hq HI hx0 v
      simp only [Bool.true_and, Int.toNat_natCast, if_true]
      have HD := hid HV.out.ord.1
      generalize hlr : layRoot T n = res at *
      have H0 := hid hlr
      clear hlr
      go_enter Try.func25, Try.ntmps25
      go_wp2_with fail
      refine hv.mono ?_
      rintro e w1 ⟨rfl, b1⟩
      have B1 := hid b1
      have H1 := hid (H.out.next b1)
      clear b1
      go_wp2_with fail
      refine (HQ.out _).mono ?_
      rintro e w2 ⟨rfl, rfl⟩
      go_wp2
      go_loop [1] (fun s1 => ∃ q : Nat, q < T.length ∧ s1 = .int .i64 q ∧ Aside (layRoot T q = res)) (fun s1 => (intOf s1).toNat)
      case atStart => exact ⟨n, hlt, rfl, H0.out⟩
      case round =>
        obtain ⟨q, hq, rfl, R⟩ := hrel
        by_cases hpos : 0 < q
        · obtain ⟨b, off, x, rfl, hb, hx, d1, -⟩ := H1.out.atBox hq
          have hpb := (HD.out q hq).2 hpos
          have hln := lay_next HD.out hq hpos
          rw [par_of hx] at hpb hln
          obtain ⟨p, hpp⟩ : ∃ p : Nat, x.Parent = p := ⟨x.Parent.toNat, by omega⟩
          rw [hpp] at d1 hpb hln
          rw [Int.toNat_natCast] at hln
          obtain ⟨y, hy, -, e0, e1, -⟩ := H1.out.litBox (show p < T.length by omega)
          rw [boxAt_of hy, R.out] at hln
          have HLN := hid hln
          have i0 : (0 : Int) < (q : Int) := by omega
          have i1 : (q : Int) < (T.length : Int) := by omega
          have i2 : q < T.length := by omega
          have i3 : (p : Int) < (T.length : Int) := by omega
          have i4 : p < T.length := by omega
          clear hx hy hpp hln
          by_cases hk1 : y.Kind = 1
          · have t1 : (y.Kind != 1) = false := by rw [hk1]; rfl
            have HR : Hid (layRoot T p = res) := hid (by
              have h := HLN.out
              by_cases e : p = 0
              · rw [if_pos (.inl e)] at h; rw [h, e, lay_zero HD.out (by omega)]
              · rw [if_neg (fun h => by rcases h with h | h; exact e h; exact h hk1)] at h; exact h.symm)
            clear hk1
            go_wp2
            go_round
            case measure => simp [intOf]; omega
            case rel => exact ⟨p, by omega, rfl, HR.out⟩
          · have t1 : (y.Kind != 1) = true := by rw [bne_iff_ne]; exact hk1
            have hr := HLN.out
            rw [if_pos (.inr hk1)] at hr
            subst hr
            clear hk1
            go_wp2
            go_ret
            exact ⟨rfl, B1.out⟩
        · have hq0 : q = 0 := by omega
          have hr : res = 0 := by rw [← R.out, hq0, lay_zero HD.out (by omega)]
          have HR := hid hr
          have i0 : ¬ (0 : Int) < (q : Int) := by omega
          clear hr R hq0
          go_wp2
          go_ret
          exact ⟨by rw [HR.out]; rfl, B1.out⟩

theorem leafI_of {T : List BoxD} {a d : Nat} (h : IsNextLeaf T a d) : nextLeafI T a = (((a + d) % T.length : Nat) : Int) := by
  unfold nextLeafI
  rw [nextLeaf_of h]
theorem leafI_none {T : List BoxD} {a : Nat} (h : ∀ j, 1 ≤ j → j ≤ T.length → leafAt T a j = false) : nextLeafI T a = -1 := by
  unfold nextLeafI
  rw [nextLeaf_none h]

set_option maxHeartbeats 4000000 in
theorem nextLeaf_any (A : Option Addr) (T : List BoxD) (c : Nat) (x : Int) (w : World) (hL : T.length ≤ 1048576) (h : Arr w w.heap.size 9 encBox A T) :
    Calls Try.prog 20 #[.slice A T.length c, .int .i64 x] w fun e w' => e = .returned (.int .i64 (leafV T x)) ∧ Below w.heap.size w w' := by
  have hv := boxIn_any A T c x w hL h
  have H := hid h
  have e0 : leafV T x = if atIn T x then nextLeafI T x.toNat else -1 := rfl
  have HI := hid (fun h => (atIn_iff (T := T) (x := x)).1 h)
  rw [e0]
  clear h e0
  cases q1 : atIn T x
  · rw [q1] at hv
    clear q1 HI
    simp only [Bool.false_eq_true, if_false]
    go_enter Try.func20, Try.ntmps20
    go_wp2_with fail
    refine hv.mono ?_
    rintro e w1 ⟨rfl, b1⟩
    have B1 := hid b1
    clear b1
    go_wp2
    go_ret
    exact ⟨rfl, B1.out⟩
  · rw [q1] at hv HI
    obtain ⟨v, hx0, hlt⟩ := HI.out rfl
    have HV := hid v
    obtain ⟨n, rfl⟩ : ∃ n : Nat, x = n := ⟨x.toNat, by omega⟩
    have hl16 := v.len
    rw [Int.toNat_natCast] at hlt
    clear q1 HI hx0 v
    simp only [Int.toNat_natCast, if_true]
    have HI2 := hid (fun d h => leafI_of (T := T) (a := n) (d := d) h)
    have HN := hid (fun h => leafI_none (T := T) (a := n) h)
    generalize nextLeafI T n = res at *
    have hl0 : 0 < T.length := by omega
    go_enter Try.func20, Try.ntmps20
    go_wp2_with fail
    refine hv.mono ?_
    rintro e w1 ⟨rfl, b1⟩
    have B1 := hid b1
    have H1 := hid (H.out.next b1)
    clear b1
    go_wp2
    go_loop [13] (fun s => ∃ k : Nat, 0 ≤ k ∧ k ≤ T.length + 0 ∧ s = .int .i64 k ∧ Aside (∀ j, 1 ≤ j → j < k + 1 → leafAt T n j = false)) (fun s => T.length + 0 - (intOf s).toNat)
    case atStart => exact ⟨0, Nat.le_refl _, by omega, rfl, fun j h1 h2 => by omega⟩
    case round =>
      obtain ⟨k, hk0, hk, rfl, R⟩ := hrel
      by_cases hlt2 : k < T.length + 0
      · obtain ⟨m, hm⟩ : ∃ m, m = (n + (k + 1)) % T.length := ⟨_, rfl⟩
        have hml : m < T.length := by rw [hm]; exact Nat.mod_lt _ hl0
        have he0 : ((n : Int) + 1 + (k : Int)) = ((n + (k + 1) : Nat) : Int) := by omega
        have he : ((n : Int) + 1 + (k : Int)) % (T.length : Int) = (m : Int) := by rw [hm, he0]; rfl
        clear he0
        obtain ⟨b, off, y, rfl, hb, hy, d0, d1, -⟩ := H1.out.atBox hml
        have hla : leafAt T n (k + 1) = (y.Kind == 0) := by unfold leafAt; rw [← hm, boxAt_of hy]
        have HLA := hid hla
        have HM := hid hm
        have i0 : (0 : Int) < (T.length : Int) := by omega
        have i1 : (0 : Int) ≤ (n : Int) + 1 + (k : Int) := by omega
        have i2 : (k : Int) < (T.length : Int) := by omega
        have i3 : (k : Int) ≤ (T.length : Int) := by omega
        have i4 : (0 : Int) ≤ (m : Int) := by omega
        have i5 : (m : Int) < (T.length : Int) := by omega
        have i6 : k ≤ T.length := by omega
        clear hy hla hm
        cases hk2 : (y.Kind == 0)
        · rw [hk2] at HLA
          go_wp2
          go_round
          case measure => simp [intOf]; omega
          case rel =>
            refine ⟨k + 1, by omega, by omega, by go_num, (show Aside _ from fun j h1 h2 => ?_)⟩
            by_cases e : j = k + 1
            · rw [e]; exact HLA.out
            · exact R.out j h1 (by omega)
        · rw [hk2] at HLA
          have hr := HI2.out (k + 1) ⟨by omega, by omega, HLA.out, fun j h1 h2 => R.out j h1 h2⟩
          rw [← HM.out] at hr
          subst hr
          go_wp2
          go_ret
          exact ⟨rfl, B1.out⟩
      · have hkl : k = T.length + 0 := by omega
        have hr := HN.out (fun j h1 h2 => R.out j h1 (by omega))
        have i3 : ¬ (k : Int) ≤ (T.length : Int) - 1 + 0 := by omega
        have i4 : ¬ k ≤ T.length - 1 + 0 := by omega
        have i5 : ¬ k < T.length + 0 := by omega
        have i6 : ¬ k < T.length := by omega
        subst hr
        clear hkl R
        go_wp2
        go_ret
        exact ⟨rfl, B1.out⟩

set_option maxHeartbeats 4000000 in
theorem nextLeafS_any (A : Option Addr) (T : List BoxD) (c : Nat) (x : Int) (w : World) (hL : T.length ≤ 1048576) (h : Arr w w.heap.size 9 encBox A T) :
    Calls Try.prog 21 #[.slice A T.length c, .int .i64 x] w fun e w' => e = .returned (.int .i64 (leafV T x)) ∧ Below w.heap.size w w' := by
  have hv := specvalidTree_any A T c w hL h
  have hq := fun W => inRangeB_any x 0 ((T.length : Int) - 1) W
  have H := hid h
  have e0 : leafV T x = if atIn T x then nextLeafI T x.toNat else -1 := rfl
  have HI := hid (fun h => (atIn_iff (T := T) (x := x)).1 h)
  rw [e0]
  have e1 : atIn T x = (validB T && inR x 0 ((T.length : Int) - 1)) := rfl
  rw [e1] at HI ⊢
  clear h e0 e1
  cases q1 : validB T
  · rw [q1] at hv
    clear q1 hq HI
    simp only [Bool.false_and, Bool.false_eq_true, if_false]
    go_enter Try.func21, Try.ntmps21
    go_wp2_with fail
    refine hv.mono ?_
    rintro e w1 ⟨rfl, b1⟩
    have B1 := hid b1
    clear b1
    go_wp2
    go_ret
    exact ⟨rfl, B1.out⟩
  · rw [q1] at hv HI
    clear q1
    cases q2 : inR x 0 ((T.length : Int) - 1)
    · rw [q2] at hq
      have HQ := hid hq
      clear q2 hq HI
      simp only [Bool.true_and, Bool.false_eq_true, if_false]
      go_enter Try.func21, Try.ntmps21
      go_wp2_with fail
      refine hv.mono ?_
      rintro e w1 ⟨rfl, b1⟩
      have B1 := hid b1
      clear b1
      go_wp2_with fail
      refine (HQ.out _).mono ?_
      rintro e w2 ⟨rfl, rfl⟩
      go_wp2
      go_ret
      exact ⟨rfl, B1.out⟩
    · rw [q2] at hq HI
      have HQ := hid hq
      obtain ⟨v, hx0, hlt⟩ := HI.out rfl
      have HV := hid v
      obtain ⟨n, rfl⟩ : ∃ n : Nat, x = n := ⟨x.toNat, by omega⟩
      have hl16 := v.len
      rw [Int.toNat_natCast] at hlt
      clear q2 hq HI hx0 v
      simp only [Bool.true_and, Int.toNat_natCast, if_true]
      have HI2 := hid (fun d h => leafI_of (T := T) (a := n) (d := d) h)
      have HN := hid (fun h => leafI_none (T := T) (a := n) h)
      generalize nextLeafI T n = res at *
      have hl0 : 0 < T.length := by omega
      go_enter Try.func21, Try.ntmps21
      go_wp2_with fail
      refine hv.mono ?_
      rintro e w1 ⟨rfl, b1⟩
      have B1 := hid b1
      have H1 := hid (H.out.next b1)
      clear b1
      go_wp2_with fail
      refine (HQ.out _).mono ?_
      rintro e w2 ⟨rfl, rfl⟩
      go_wp2
      go_loop [5] (fun s => ∃ k : Nat, 1 ≤ k ∧ k ≤ T.length + 1 ∧ s = .int .i64 k ∧ Aside (∀ j, 1 ≤ j → j < k + 0 → leafAt T n j = false)) (fun s => T.length + 1 - (intOf s).toNat)
      case atStart => exact ⟨1, Nat.le_refl _, by omega, rfl, fun j h1 h2 => by omega⟩
      case round =>
        obtain ⟨k, hk0, hk, rfl, R⟩ := hrel
        by_cases hlt2 : k < T.length + 1
        · obtain ⟨m, hm⟩ : ∃ m, m = (n + (k + 0)) % T.length := ⟨_, rfl⟩
          have hml : m < T.length := by rw [hm]; exact Nat.mod_lt _ hl0
          have he0 : ((n : Int) + (k : Int)) = ((n + (k + 0) : Nat) : Int) := by omega
          have he : ((n : Int) + (k : Int)) % (T.length : Int) = (m : Int) := by rw [hm, he0]; rfl
          clear he0
          obtain ⟨b, off, y, rfl, hb, hy, d0, d1, -⟩ := H1.out.atBox hml
          have hla : leafAt T n (k + 0) = (y.Kind == 0) := by unfold leafAt; rw [← hm, boxAt_of hy]
          have HLA := hid hla
          have HM := hid hm
          have i0 : (0 : Int) < (T.length : Int) := by omega
          have i1 : (0 : Int) ≤ (n : Int) + (k : Int) := by omega
          have i2 : (k : Int) < (T.length : Int) + 1 := by omega
          have i3 : (k : Int) ≤ (T.length : Int) := by omega
          have i4 : (0 : Int) ≤ (m : Int) := by omega
          have i5 : (m : Int) < (T.length : Int) := by omega
          have i6 : k ≤ T.length := by omega
          clear hy hla hm
          cases hk2 : (y.Kind == 0)
          · rw [hk2] at HLA
            go_wp2
            go_round
            case measure => simp [intOf]; omega
            case rel =>
              refine ⟨k + 1, by omega, by omega, by go_num, (show Aside _ from fun j h1 h2 => ?_)⟩
              by_cases e : j = k + 0
              · rw [e]; exact HLA.out
              · exact R.out j h1 (by omega)
          · rw [hk2] at HLA
            have hr := HI2.out (k + 0) ⟨by omega, by omega, HLA.out, fun j h1 h2 => R.out j h1 h2⟩
            rw [← HM.out] at hr
            subst hr
            go_wp2
            go_ret
            exact ⟨rfl, B1.out⟩
        · have hkl : k = T.length + 1 := by omega
          have hr := HN.out (fun j h1 h2 => R.out j h1 (by omega))
          have i3 : ¬ (k : Int) ≤ (T.length : Int) - 1 + 1 := by omega
          have i4 : ¬ k ≤ T.length - 1 + 1 := by omega
          have i5 : ¬ k < T.length + 1 := by omega
          have i6 : ¬ k ≤ T.length := by omega
          subst hr
          clear hkl R
          go_wp2
          go_ret
          exact ⟨rfl, B1.out⟩

end Go.Proofs.Ytjomdcnelamefaa
