/- KidsOf, DepthOf, CountIn, PathTo (the reference's). Written by a program of ours. -/
import Derived.Test.YtpahljbcffmaaaaB10
namespace Go.Proofs.Ytpahljbcffmaaaa
set_option linter.unusedVariables false
set_option linter.unusedSimpArgs false
open Go.RowKit Go.Lib

set_option maxHeartbeats 4000000 in
theorem kidsOfS_any (A : Option Addr) (T : List BoxD) (c : Nat) (x : Int) (w : World) (hL : T.length ≤ 1048576) (h : Arr w w.heap.size 9 encBox A T) :
    Calls Try.prog 26 #[.slice A T.length c, .int .i64 x] w (Gives 1 encI (kidsV T x) w) := by
  have hv := specvalidTree_any A T c w hL h
  have hq := fun W => inRangeB_any x 0 ((T.length : Int) - 1) W
  have H := hid h
  have e0 : kidsV T x = if atIn T x then asI (kidsN T T.length x.toNat) else [] := rfl
  have HI := hid (fun h => (atIn_iff (T := T) (x := x)).1 h)
  rw [e0]
  have e1 : atIn T x = (validB T && inR x 0 ((T.length : Int) - 1)) := rfl
  rw [e1] at HI ⊢
  clear h e0 e1
  cases q1 : validB T
  · rw [q1] at hv
    clear q1 hq HI
    simp only [Bool.false_and, Bool.false_eq_true, if_false]
    go_enter Try.func26, Try.ntmps26
    go_wp2_with fail
    refine hv.mono ?_
    rintro e w1 ⟨rfl, b1⟩
    have B1 := hid b1
    clear b1
    go_wp2
    go_ret
    exact ⟨none, 0, rfl, by simp, by simp [maxLen], fun h => absurd h (by simp), B1.out⟩
  · rw [q1] at hv HI
    clear q1
    cases q2 : inR x 0 ((T.length : Int) - 1)
    · rw [q2] at hq
      have HQ := hid hq
      clear q2 hq HI
      simp only [Bool.true_and, Bool.false_eq_true, if_false]
      go_enter Try.func26, Try.ntmps26
      go_wp2_with fail
      refine hv.mono ?_
      rintro e w1 ⟨rfl, b1⟩
      have B1 := hid b1
      clear b1
      go_wp2_with fail
      refine (HQ.out _).mono ?_
      rintro e w2 ⟨rfl, rfl⟩
      go_wp2
      go_ret
      exact ⟨none, 0, rfl, by simp, by simp [maxLen], fun h => absurd h (by simp), B1.out⟩
    · rw [q2] at hq HI
      have HQ := hid hq
      obtain ⟨v, hx0, hlt⟩ := HI.out rfl
      have HV := hid v
      obtain ⟨n, rfl⟩ : ∃ n : Nat, x = n := ⟨x.toNat, by omega⟩
      have hl16 := v.len
      rw [Int.toNat_natCast] at hlt
      clear q2 hq HI hx0 v
      simp only [Bool.true_and, Int.toNat_natCast, if_true]
      have hc := fun W h => kidsS_any A T c n W hL hlt (HV.out.ord.1.less (by omega)) h
      have HC := hid hc
      clear hc
      generalize asI _ = Q at *
      go_enter Try.func26, Try.ntmps26
      go_wp2_with fail
      refine hv.mono ?_
      rintro e w1 ⟨rfl, b1⟩
      have B1 := hid b1
      have H1 := hid (H.out.next b1)
      clear b1
      go_wp2_with fail
      refine (HQ.out _).mono ?_
      rintro e w2 ⟨rfl, rfl⟩
      go_wp2_with fail
      refine (HC.out _ H1.out).mono ?_
      rintro e w4 ⟨A4, c4, rfl, h41, h42, o4, b4⟩
      have O4 := hid (o4.less B1.out.size)
      have B4 := hid (chain B1.out b4)
      clear o4 b4
      go_wp2
      go_ret
      exact ⟨A4, c4, rfl, h41, h42, O4.out, B4.out⟩

set_option maxHeartbeats 4000000 in
theorem countInS_any (A : Option Addr) (T : List BoxD) (c : Nat) (x : Int) (w : World) (hL : T.length ≤ 1048576) (h : Arr w w.heap.size 9 encBox A T) :
    Calls Try.prog 16 #[.slice A T.length c, .int .i64 x] w fun e w' => e = .returned (.int .i64 (countV T x)) ∧ Below w.heap.size w w' := by
  have hv := specvalidTree_any A T c w hL h
  have hq := fun W => inRangeB_any x 0 ((T.length : Int) - 1) W
  have H := hid h
  have e0 : countV T x = if atIn T x then (countN T T.length x.toNat : Int) else -1 := rfl
  have HI := hid (fun h => (atIn_iff (T := T) (x := x)).1 h)
  rw [e0]
  have e1 : atIn T x = (validB T && inR x 0 ((T.length : Int) - 1)) := rfl
  rw [e1] at HI ⊢
  clear h e0 e1
  cases q1 : validB T
  · rw [q1] at hv
    clear q1 hq HI
    simp only [Bool.false_and, Bool.false_eq_true, if_false]
    go_enter Try.func16, Try.ntmps16
    go_wp2_with fail
    refine hv.mono ?_
    rintro e w1 ⟨rfl, b1⟩
    have B1 := hid b1
    clear b1
    go_wp2
    go_ret
    exact ⟨rfl, B1.out⟩
  · rw [q1] at hv HI
    clear q1
    cases q2 : inR x 0 ((T.length : Int) - 1)
    · rw [q2] at hq
      have HQ := hid hq
      clear q2 hq HI
      simp only [Bool.true_and, Bool.false_eq_true, if_false]
      go_enter Try.func16, Try.ntmps16
      go_wp2_with fail
      refine hv.mono ?_
      rintro e w1 ⟨rfl, b1⟩
      have B1 := hid b1
      clear b1
      go_wp2_with fail
      refine (HQ.out _).mono ?_
      rintro e w2 ⟨rfl, rfl⟩
      go_wp2
      go_ret
      exact ⟨rfl, B1.out⟩
    · rw [q2] at hq HI
      have HQ := hid hq
      obtain ⟨v, hx0, hlt⟩ := HI.out rfl
      have HV := hid v
      obtain ⟨n, rfl⟩ : ∃ n : Nat, x = n := ⟨x.toNat, by omega⟩
      have hl16 := v.len
      rw [Int.toNat_natCast] at hlt
      clear q2 hq HI hx0 v
      simp only [Bool.true_and, Int.toNat_natCast, if_true]
      have hc := fun W h => countS_any A T c n W hL hlt HV.out.ord h
      have HC := hid hc
      clear hc
      generalize countN T T.length n = Q at *
      go_enter Try.func16, Try.ntmps16
      go_wp2_with fail
      refine hv.mono ?_
      rintro e w1 ⟨rfl, b1⟩
      have B1 := hid b1
      have H1 := hid (H.out.next b1)
      clear b1
      go_wp2_with fail
      refine (HQ.out _).mono ?_
      rintro e w2 ⟨rfl, rfl⟩
      go_wp2_with fail
      refine (HC.out _ H1.out).mono ?_
      rintro e w4 ⟨rfl, rfl⟩
      go_wp2
      go_ret
      exact ⟨rfl, B1.out⟩

set_option maxHeartbeats 4000000 in
theorem depthOfS_any (A : Option Addr) (T : List BoxD) (c : Nat) (x : Int) (w : World) (hL : T.length ≤ 1048576) (h : Arr w w.heap.size 9 encBox A T) :
    Calls Try.prog 29 #[.slice A T.length c, .int .i64 x] w fun e w' => e = .returned (.int .i64 (depthV T x)) ∧ Below w.heap.size w w' := by
  have hv := specvalidTree_any A T c w hL h
  have hq := fun W => inRangeB_any x 0 ((T.length : Int) - 1) W
  have H := hid h
  have e0 : depthV T x = if atIn T x then ((up T x.toNat).length : Int) - 1 else -1 := rfl
  have HI := hid (fun h => (atIn_iff (T := T) (x := x)).1 h)
  rw [e0]
  have e1 : atIn T x = (validB T && inR x 0 ((T.length : Int) - 1)) := rfl
  rw [e1] at HI ⊢
  clear h e0 e1
  cases q1 : validB T
  · rw [q1] at hv
    clear q1 hq HI
    simp only [Bool.false_and, Bool.false_eq_true, if_false]
    go_enter Try.func29, Try.ntmps29
    go_wp2_with fail
    refine hv.mono ?_
    rintro e w1 ⟨rfl, b1⟩
    have B1 := hid b1
    clear b1
    go_wp2
    go_ret
    exact ⟨rfl, B1.out⟩
  · rw [q1] at hv HI
    clear q1
    cases q2 : inR x 0 ((T.length : Int) - 1)
    · rw [q2] at hq
      have HQ := hid hq
      clear q2 hq HI
      simp only [Bool.true_and, Bool.false_eq_true, if_false]
      go_enter Try.func29, Try.ntmps29
      go_wp2_with fail
      refine hv.mono ?_
      rintro e w1 ⟨rfl, b1⟩
      have B1 := hid b1
      clear b1
      go_wp2_with fail
      refine (HQ.out _).mono ?_
      rintro e w2 ⟨rfl, rfl⟩
      go_wp2
      go_ret
      exact ⟨rfl, B1.out⟩
    · rw [q2] at hq HI
      have HQ := hid hq
      obtain ⟨v, hx0, hlt⟩ := HI.out rfl
      have HV := hid v
      obtain ⟨n, rfl⟩ : ∃ n : Nat, x = n := ⟨x.toNat, by omega⟩
      have hl16 := v.len
      rw [Int.toNat_natCast] at hlt
      clear q2 hq HI hx0 v
      simp only [Bool.true_and, Int.toNat_natCast, if_true]
      have hc := fun W h => depthS_any A T c n W hL hlt (HV.out.ord.1.less (by omega)) h
      have HC := hid hc
      clear hc
      generalize (up T n).length = Q at *
      go_enter Try.func29, Try.ntmps29
      go_wp2_with fail
      refine hv.mono ?_
      rintro e w1 ⟨rfl, b1⟩
      have B1 := hid b1
      have H1 := hid (H.out.next b1)
      clear b1
      go_wp2_with fail
      refine (HQ.out _).mono ?_
      rintro e w2 ⟨rfl, rfl⟩
      go_wp2_with fail
      refine (HC.out _ H1.out).mono ?_
      rintro e w4 ⟨rfl, rfl⟩
      go_wp2
      go_ret
      exact ⟨rfl, B1.out⟩

/-- The loop's relation: what is out so far. -/
def PathSRel (w : World) (T : List BoxD) (n : Nat) (q : Nat) (A5 : Option Addr) (n5 c5 : Nat) (wr : World) : Prop :=
  ∃ r : List Nat, pathOf T n = pathOf T q ++ r ∧ n5 = (asI (q :: r)).length ∧ n5 ≤ c5 ∧ c5 ≤ maxLen ∧ OwnA wr w.heap.size 1 encI A5 (asI (q :: r)) ∧ Below w.heap.size w wr
theorem PathSRel.start {w w1 : World} (T : List BoxD) (n : Nat) (hb : Below w.heap.size w w1) : PathSRel w T n n (some ⟨w1.heap.size, 0, none⟩) 1 1 (w1.alloc (.cells #[.int .i64 (n : Int)] 3)) := by
  have ho := World.ownsRow_lit (e := 3) (size := 1) (base := w.heap.size) w1 #[.int .i64 (n : Int)] 1 hb.size (by simp [maxLen]) rfl
  exact ⟨[], by simp, rfl, Nat.le_refl _, by simp [maxLen], OwnA.of_rowN (enc := encI) (k := 1) (L := asI [n]) (fun _ => rfl) rfl rfl ho, hb.alloc hb.size _⟩

set_option maxHeartbeats 4000000 in
theorem pathToS_any (A : Option Addr) (T : List BoxD) (c : Nat) (x : Int) (w : World) (hL : T.length ≤ 1048576) (h : Arr w w.heap.size 9 encBox A T) :
    Calls Try.prog 36 #[.slice A T.length c, .int .i64 x] w (Gives 1 encI (pathV T x) w) := by
  have hv := specvalidTree_any A T c w hL h
  have hq := fun W => inRangeB_any x 0 ((T.length : Int) - 1) W
  have H := hid h
  have e0 : pathV T x = if atIn T x then asI (pathOf T x.toNat) else [] := rfl
  have HI := hid (fun h => (atIn_iff (T := T) (x := x)).1 h)
  rw [e0]
  have e1 : atIn T x = (validB T && inR x 0 ((T.length : Int) - 1)) := rfl
  rw [e1] at HI ⊢
  clear h e0 e1
  cases q1 : validB T
  · rw [q1] at hv
    clear q1 hq HI
    simp only [Bool.false_and, Bool.false_eq_true, if_false]
    go_enter Try.func36, Try.ntmps36
    go_wp2_with fail
    refine hv.mono ?_
    rintro e w1 ⟨rfl, b1⟩
    have B1 := hid b1
    clear b1
    go_wp2
    go_ret
    exact ⟨none, 0, rfl, by simp, by simp [maxLen], fun h => absurd h (by simp), B1.out⟩
  · rw [q1] at hv HI
    clear q1
    cases q2 : inR x 0 ((T.length : Int) - 1)
    · rw [q2] at hq
      have HQ := hid hq
      clear q2 hq HI
      simp only [Bool.true_and, Bool.false_eq_true, if_false]
      go_enter Try.func36, Try.ntmps36
      go_wp2_with fail
      refine hv.mono ?_
      rintro e w1 ⟨rfl, b1⟩
      have B1 := hid b1
      clear b1
      go_wp2_with fail
      refine (HQ.out _).mono ?_
      rintro e w2 ⟨rfl, rfl⟩
      go_wp2
      go_ret
      exact ⟨none, 0, rfl, by simp, by simp [maxLen], fun h => absurd h (by simp), B1.out⟩
    · rw [q2] at hq HI
      have HQ := hid hq
      obtain ⟨v, hx0, hlt⟩ := HI.out rfl
      have HV := hid v
      obtain ⟨n, rfl⟩ : ∃ n : Nat, x = n := ⟨x.toNat, by omega⟩
      have hl16 := v.len
      rw [Int.toNat_natCast] at hlt
      clear q2 hq HI hx0 v
      simp only [Bool.true_and, Int.toNat_natCast, if_true]
      have hd6 := HV.out.dep n hlt
      have HD := hid HV.out.ord.1
      go_enter Try.func36, Try.ntmps36
      go_wp2_with fail
      refine hv.mono ?_
      rintro e w1 ⟨rfl, b1⟩
      have B1 := hid b1
      have H1 := hid (H.out.next b1)
      clear b1
      go_wp2_with fail
      refine (HQ.out _).mono ?_
      rintro e w2 ⟨rfl, rfl⟩
      have R0 : Aside (PathSRel w T n n _ 1 1 _) := PathSRel.start (w1 := w1) T n B1.out
      go_wp2
      go_loopg [1, 5] T.length (fun gg s1 s5 wr => ∃ (q n5 c5 : Nat) (A5 : Option Addr), q < T.length ∧ q ≤ gg ∧ s1 = .int .i64 q ∧ s5 = .slice A5 n5 c5 ∧ Aside (PathSRel w T n q A5 n5 c5 wr))
      case atStart => exact ⟨n, 1, 1, _, hlt, by omega, rfl, rfl, R0⟩
      case round =>
        obtain ⟨q, n5, c5, A5, hq, hgg, rfl, rfl, R⟩ := hrel
        clear R0
        obtain ⟨r, hr, hn5, hnc, hcm, own, hbl⟩ := R.out
        have hsz := hbl.size
        have hrl : n5 ≤ 100 := by
          have h1 := congrArg List.length hr
          rw [path_len, List.length_append, path_len] at h1
          have h2 := up_len_pos T q
          rw [hn5, asI_len, List.length_cons]
          omega
        have HR := hid hr
        have HN := hid hn5
        have HO := hid own
        have HB := hid hbl
        clear R hr hn5 own hbl
        by_cases h0 : 0 < q
        · obtain ⟨b, off, x, rfl, hb, hx, d1, -⟩ := (H.out.below HB.out).atBox hq
          have hpb := (HD.out q hq).2 h0
          have hpn := path_next HD.out hq h0
          rw [par_of hx] at hpb hpn
          obtain ⟨p, hpp⟩ : ∃ p : Nat, x.Parent = p := ⟨x.Parent.toNat, by omega⟩
          rw [hpp] at d1 hpb hpn
          rw [Int.toNat_natCast] at hpn
          have HPN := hid hpn
          have i1 : (q : Int) < (T.length : Int) := by omega
          have i2 : (0 : Int) < (q : Int) := by omega
          have OL := hid (World.ownsRow_lit (e := 3) (size := 1) (base := w.heap.size) wr #[.int .i64 (p : Int)] 1 hsz (by simp [maxLen]) rfl)
          clear hx hpp hpn
          go_wp2_with (at_builtin; (refine wpList_append_arr _ eltIntB rfl (.tmp 27) (.tmp 28) rfl w.heap.size _ 1 (1 + n5) _ rfl OL.out encI (fun _ => rfl) oneI wr.heap.size A5 (asI (q :: r)) n5 c5 rfl HN.out (HO.out.arr.below ((Below.refl wr.heap.size wr).alloc (Nat.le_refl _) _)) rfl (by omega) (by simp; omega) ?_; intro A8 c8 w8 own8 gr8 at8; have O8 := hid own8; have HB8 := hid ((HB.out.alloc hsz (.cells #[.int .i64 (p : Int)] 3)).grown gr8 (by simp; omega) (fun g hg => (OL.out.lt g hg).1)); clear own8 gr8 at8))
          go_roundg p
          case measure => omega
          case rel =>
            have hl : 1 + n5 = (asI (p :: q :: r)).length := by rw [HN.out]; simp [asI]; omega
            refine ⟨p, 1 + n5, c8, A8, by omega, Nat.le_refl _, rfl, rfl, q :: r, ?_, hl, (slice_le O8.out).1, (slice_le O8.out).2, ?_, HB8.out⟩
            · rw [HR.out, HPN.out]; simp
            · exact OwnA.of_rowN (enc := encI) (k := 1) (fun _ => rfl) hl (by simp [asI, encI]) O8.out
        · have hq0 : q = 0 := by omega
          have hpath : asI (pathOf T n) = asI (q :: r) := by rw [HR.out, hq0, path_zero HD.out (by omega)]; rfl
          have i2 : ¬ (0 : Int) < (q : Int) := by omega
          have HN2 := hid (show n5 = (asI (pathOf T n)).length by rw [hpath]; exact HN.out)
          have HO2 := hid (show OwnA wr w.heap.size 1 encI A5 (asI (pathOf T n)) by rw [hpath]; exact HO.out)
          clear hq0 hpath
          go_wp2
          go_ret
          exact ⟨A5, c5, by rw [← HN2.out]; rfl, by rw [← HN2.out]; exact hnc, hcm, HO2.out, HB.out⟩

end Go.Proofs.Ytpahljbcffmaaaa
