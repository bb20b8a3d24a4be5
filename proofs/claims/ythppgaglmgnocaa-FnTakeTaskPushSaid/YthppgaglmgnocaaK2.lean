/- Valid queues: impl.ValidTasks, spec.validTasks. -/
import Derived.Test.YthppgaglmgnocaaProg
import Derived.Test.YthppgaglmgnocaaK1
import Derived.Deep.QuietTactic
import Derived.BigQuiet
import Derived.Lib.MinMax
namespace Go.Proofs.Ythppgaglmgnocaa
set_option linter.unusedVariables false
set_option linter.unusedSimpArgs false
open Go.RowKit Go.Lib

theorem withinQ_any (n a b : Int) (w : World) : Calls Try.prog 52 #[.int .i64 n, .int .i64 a, .int .i64 b] w fun e w' => e = .returned (.bool (inR n a b)) ∧ w' = w := by
  by_cases h1 : a ≤ n <;> by_cases h2 : n ≤ b
  all_goals
    go_enter Try.func52, Try.ntmps52
    go_wp2
    go_ret
    exact ⟨by simp [inR, h1, h2], rfl⟩
theorem inRangeQ_any (n a b : Int) (w : World) : Calls Try.prog 56 #[.int .i64 n, .int .i64 a, .int .i64 b] w fun e w' => e = .returned (.bool (inR n a b)) ∧ w' = w := by
  by_cases h1 : a ≤ n <;> by_cases h2 : n ≤ b
  all_goals
    go_enter Try.func56, Try.ntmps56
    go_wp2
    go_ret
    exact ⟨by simp [inR, h1, h2], rfl⟩
theorem idOk_any (n : Int) (w : World) : Calls Try.prog 40 #[.int .i64 n] w fun e w' => e = .returned (.bool (inR n 0 99)) ∧ w' = w := by
  go_enter Try.func40, Try.ntmps40
  go_wp2_with fail
  refine (withinQ_any _ _ _ _).mono ?_
  rintro e w' ⟨rfl, rfl⟩
  go_wp2
  go_ret
  exact ⟨rfl, rfl⟩
theorem rankOk_any (n : Int) (w : World) : Calls Try.prog 41 #[.int .i64 n] w fun e w' => e = .returned (.bool (inR n 0 50)) ∧ w' = w := by
  go_enter Try.func41, Try.ntmps41
  go_wp2_with fail
  refine (withinQ_any _ _ _ _).mono ?_
  rintro e w' ⟨rfl, rfl⟩
  go_wp2
  go_ret
  exact ⟨rfl, rfl⟩

theorem validT_no1 {L : List TaskD} {i : Nat} {x : TaskD} (hx : L[i]? = some x) (h : okT x = false) : validT L = false := by
  rw [Bool.eq_false_iff]
  intro hv
  rw [(validT_iff.1 hv).2.1 x (List.mem_of_getElem? hx)] at h
  cases h
theorem validT_no2 {L : List TaskD} {i : Nat} {x y : TaskD} (hy : L[i]? = some y) (hx : L[i + 1]? = some x) (h : x.Id ≤ y.Id) : validT L = false := by
  rw [Bool.eq_false_iff]
  intro hv
  have := ascT_at.1 (validT_iff.1 hv).2.2 i y x hy hx
  omega
theorem validT_end {L : List TaskD} (h1 : ∀ j t, j < L.length → L[j]? = some t → okT t = true) (h2 : ∀ j a b, j + 1 < L.length → L[j]? = some a → L[j + 1]? = some b → a.Id < b.Id) : validT L = decide (L.length ≤ 10) := by
  rw [Bool.eq_iff_iff, validT_iff, decide_eq_true_eq]
  constructor
  · exact fun h => h.1
  · refine fun h => ⟨h, fun t ht => ?_, ascT_at.2 fun i a b ha hb => h2 i a b (List.getElem?_eq_some_iff.1 hb).1 ha hb⟩
    obtain ⟨j, hj⟩ := List.mem_iff_getElem?.1 ht
    exact h1 j t (List.getElem?_eq_some_iff.1 hj).1 hj
theorem okT_eq (x : TaskD) : okT x = (inR x.Id 0 99 && (inR x.Rank 0 50 && inR x.Age 0 20)) := by
  unfold okT
  cases inR x.Id 0 99 <;> cases inR x.Rank 0 50 <;> cases inR x.Age 0 20 <;> rfl

/-- The rounds' relation. -/
def VRel (w : World) (L : List TaskD) (i : Nat) (wr : World) : Prop :=
  Below w.heap.size w wr ∧ (∀ j t, j < i → L[j]? = some t → okT t = true) ∧ ∀ j a b, j + 1 < i → L[j]? = some a → L[j + 1]? = some b → a.Id < b.Id
theorem VRel.next {w : World} {L : List TaskD} {i : Nat} {wr wr' : World} {x : TaskD} (h : VRel w L i wr) (hx : L[i]? = some x) (hok : okT x = true) (hprev : 0 < i → ∃ y, L[i - 1]? = some y ∧ y.Id < x.Id) (hb : Below w.heap.size w wr') : VRel w L (i + 1) wr' := by
  refine ⟨hb, fun j t hj ht => ?_, fun j a b hj ha hb' => ?_⟩
  · by_cases e : j = i
    · subst e
      rw [hx] at ht
      injection ht with ht
      rw [← ht]; exact hok
    · exact h.2.1 j t (by omega) ht
  · by_cases e : j + 1 = i
    · obtain ⟨y, hy, hlt⟩ := hprev (by omega)
      rw [show i - 1 = j by omega] at hy
      rw [ha] at hy
      injection hy with hy
      rw [e, hx] at hb'
      injection hb' with hb'
      rw [hy, ← hb']; exact hlt
    · exact h.2.2 j a b (by omega) ha hb'

set_option maxHeartbeats 4000000 in
theorem validTasks_any (A : Option Addr) (L : List TaskD) (c : Nat) (w : World) (hL : L.length ≤ 1048576) (h : Arr w w.heap.size 3 encTask A L) :
    Calls Try.prog 26 #[.slice A L.length c] w fun e w' => e = .returned (.bool (validT L)) ∧ Below w.heap.size w w' := by
  have H := hid h
  have N1 := hid (fun i x => validT_no1 (L := L) (i := i) (x := x))
  have N2 := hid (fun i x y => validT_no2 (L := L) (i := i) (x := x) (y := y))
  have NE := hid (validT_end (L := L))
  clear h
  generalize validT L = res at *
  go_enter Try.func26, Try.ntmps26
  go_wp2
  go_loopg [7] L.length (fun gg s7 wr => ∃ i : Nat, i ≤ L.length ∧ L.length - i ≤ gg ∧ s7 = .int .i64 i ∧ Aside (VRel w L i wr))
  case atStart => exact ⟨0, Nat.zero_le _, by omega, rfl, Below.refl _ _, fun j t hj => absurd hj (Nat.not_lt_zero _), fun j a b hj => absurd hj (Nat.not_lt_zero _)⟩
  case round =>
    obtain ⟨i, hi, hgg, rfl, R⟩ := hrel
    have hsr := R.out.1.size
    by_cases hlt : i < L.length
    · obtain ⟨b, off, x, rfl, hb, hx, c1, c2, c3⟩ := (H.out.below R.out.1).atTask hlt
      have hbw : b < wr.heap.size := by omega
      have HX := hid hx
      have OKX := hid (okT_eq x)
      have i1 : (0 : Int) ≤ (i : Int) := by omega
      have i2 : (i : Int) < (L.length : Int) := by omega
      clear hx
      have q1 := fun W => idOk_any x.Id W
      have q2 := fun W => rankOk_any x.Rank W
      have q3 := fun W => withinQ_any x.Age 0 20 W
      cases h1 : inR x.Id 0 99
      · rw [h1] at q1 OKX
        have Q1 := hid q1
        have hres := N1.out i x HX.out (by rw [OKX.out]; rfl)
        subst hres
        clear q1 q2 q3 h1 N1 N2 NE
        go_wp2_with fail
        go_quiet ((go_at_call 40; exact Calls.quiet_of_same (Q1.out _)))
        go_wp2
        go_ret
        exact ⟨rfl, Below_drewN (R.out.1.alloc (by omega) _) _⟩
      · rw [h1] at q1 OKX
        have Q1 := hid q1
        clear q1 h1
        cases h2 : inR x.Rank 0 50
        · rw [h2] at q2 OKX
          have Q2 := hid q2
          have hres := N1.out i x HX.out (by rw [OKX.out]; rfl)
          subst hres
          clear q2 q3 h2 N1 N2 NE
          go_wp2_with fail
          go_quiet ((first | (go_at_call 40; exact Calls.quiet_of_same (Q1.out _)) | (go_at_call 41; exact Calls.quiet_of_same (Q2.out _))))
          go_wp2
          go_ret
          exact ⟨rfl, Below_drewN (R.out.1.alloc (by omega) _) _⟩
        · rw [h2] at q2 OKX
          have Q2 := hid q2
          clear q2 h2
          cases h3 : inR x.Age 0 20
          · rw [h3] at q3 OKX
            have Q3 := hid q3
            have hres := N1.out i x HX.out (by rw [OKX.out]; rfl)
            subst hres
            clear q3 h3 N1 N2 NE
            go_wp2_with fail
            go_quiet ((first | (go_at_call 40; exact Calls.quiet_of_same (Q1.out _)) | (go_at_call 41; exact Calls.quiet_of_same (Q2.out _)) | (go_at_call 52; exact Calls.quiet_of_same (Q3.out _))))
            go_wp2
            go_ret
            exact ⟨rfl, Below_drewN (R.out.1.alloc (by omega) _) _⟩
          · rw [h3] at q3 OKX
            have Q3 := hid q3
            have hok : okT x = true := by rw [OKX.out]; rfl
            have HOK := hid hok
            clear q3 h3 hok
            by_cases hi0 : 0 < i
            · obtain ⟨y, hy, -, d1, d2, d3⟩ := (H.out.below R.out.1).litTask (show i - 1 < L.length by omega)
              have hi0' : ((i : Int) > 0) := by omega
              have i3 : (0 : Int) ≤ (i : Int) - 1 := by omega
              have i4 : (i : Int) - 1 < (L.length : Int) := by omega
              have i5 : ((i : Int) - 1).toNat = i - 1 := by omega
              have HY := hid hy
              clear hy
              by_cases hlt2 : y.Id < x.Id
              · have hd : decide (y.Id ≥ x.Id) = false := by simp; omega
                have F := fun wr' hb => R.out.next (wr' := wr') HX.out HOK.out (fun _ => ⟨y, HY.out, hlt2⟩) hb
                have HF := hid F
                clear F hlt2
                go_wp2_with fail
                go_quiet ((first | (go_at_call 40; exact Calls.quiet_of_same (Q1.out _)) | (go_at_call 41; exact Calls.quiet_of_same (Q2.out _)) | (go_at_call 52; exact Calls.quiet_of_same (Q3.out _))))
                go_wp2
                go_roundg (L.length - (i + 1))
                case measure => omega
                case rel => exact ⟨i + 1, by omega, by omega, by go_num, HF.out _ (Below_drewN (R.out.1.alloc (by omega) _) _)⟩
              · have hd : decide (y.Id ≥ x.Id) = true := by simp; omega
                have hres := N2.out (i - 1) x y HY.out (by rw [show i - 1 + 1 = i by omega]; exact HX.out) (by omega)
                subst hres
                clear N1 N2 NE hlt2
                go_wp2_with fail
                go_quiet ((first | (go_at_call 40; exact Calls.quiet_of_same (Q1.out _)) | (go_at_call 41; exact Calls.quiet_of_same (Q2.out _)) | (go_at_call 52; exact Calls.quiet_of_same (Q3.out _))))
                go_wp2
                go_ret
                exact ⟨rfl, Below_drewN (R.out.1.alloc (by omega) _) _⟩
            · have F := fun wr' hb => R.out.next (wr' := wr') HX.out HOK.out (fun h => absurd h hi0) hb
              have HF := hid F
              have hd0 : decide ((i : Int) > 0) = false := by simp; omega
              have hi0i : ¬ (0 : Int) < (i : Int) := by omega
              clear F
              go_wp2_with fail
              go_quiet ((first | (go_at_call 40; exact Calls.quiet_of_same (Q1.out _)) | (go_at_call 41; exact Calls.quiet_of_same (Q2.out _)) | (go_at_call 52; exact Calls.quiet_of_same (Q3.out _))))
              go_wp2
              go_roundg (L.length - (i + 1))
              case measure => omega
              case rel => exact ⟨i + 1, by omega, by omega, by go_num, HF.out _ (Below_drewN (R.out.1.alloc (by omega) _) _)⟩
    · have hil : i = L.length := by omega
      subst hil
      have hres := NE.out R.out.2.1 R.out.2.2
      have e10 : decide ((L.length : Int) ≤ 10) = decide (L.length ≤ 10) := by rw [Bool.eq_iff_iff, decide_eq_true_eq, decide_eq_true_eq]; omega
      have HE := hid (hres.trans e10.symm)
      have HB := hid R.out.1
      clear e10 hres NE N1 N2 R
      go_wp2
      go_ret
      exact ⟨by rw [HE.out]; rfl, HB.out⟩
set_option maxHeartbeats 4000000 in
theorem specvalidTasks_any (A : Option Addr) (L : List TaskD) (c : Nat) (w : World) (hL : L.length ≤ 1048576) (h : Arr w w.heap.size 3 encTask A L) :
    Calls Try.prog 38 #[.slice A L.length c] w fun e w' => e = .returned (.bool (validT L)) ∧ Below w.heap.size w w' := by
  have H := hid h
  have N1 := hid (fun i x => validT_no1 (L := L) (i := i) (x := x))
  have N2 := hid (fun i x y => validT_no2 (L := L) (i := i) (x := x) (y := y))
  have NE := hid (validT_end (L := L))
  clear h
  generalize validT L = res at *
  go_enter Try.func38, Try.ntmps38
  go_wp2
  go_loopg [3] L.length (fun gg s7 wr => ∃ i : Nat, i ≤ L.length ∧ L.length - i ≤ gg ∧ s7 = .int .i64 i ∧ Aside (VRel w L i wr))
  case atStart => exact ⟨0, Nat.zero_le _, by omega, rfl, Below.refl _ _, fun j t hj => absurd hj (Nat.not_lt_zero _), fun j a b hj => absurd hj (Nat.not_lt_zero _)⟩
  case round =>
    obtain ⟨i, hi, hgg, rfl, R⟩ := hrel
    have hsr := R.out.1.size
    by_cases hlt : i < L.length
    · obtain ⟨b, off, x, rfl, hb, hx, c1, c2, c3⟩ := (H.out.below R.out.1).atTask hlt
      have hbw : b < wr.heap.size := by omega
      have HX := hid hx
      have OKX := hid (okT_eq x)
      have i1 : (0 : Int) ≤ (i : Int) := by omega
      have i2 : (i : Int) < (L.length : Int) := by omega
      clear hx
      have q1 := fun W => inRangeQ_any x.Id 0 99 W
      have q2 := fun W => inRangeQ_any x.Rank 0 50 W
      have q3 := fun W => inRangeQ_any x.Age 0 20 W
      cases h1 : inR x.Id 0 99
      · rw [h1] at q1 OKX
        have Q1 := hid q1
        have hres := N1.out i x HX.out (by rw [OKX.out]; rfl)
        subst hres
        clear q1 q2 q3 h1 N1 N2 NE
        go_wp2_with fail
        go_quiet ((go_at_call 56; with_reducible exact Calls.quiet_of_same (Q1.out _)))
        go_wp2
        go_ret
        exact ⟨rfl, Below_drewN R.out.1 _⟩
      · rw [h1] at q1 OKX
        have Q1 := hid q1
        clear q1 h1
        cases h2 : inR x.Rank 0 50
        · rw [h2] at q2 OKX
          have Q2 := hid q2
          have hres := N1.out i x HX.out (by rw [OKX.out]; rfl)
          subst hres
          clear q2 q3 h2 N1 N2 NE
          go_wp2_with fail
          go_quiet ((first | (go_at_call 56; with_reducible exact Calls.quiet_of_same (Q1.out _)) | (go_at_call 56; with_reducible exact Calls.quiet_of_same (Q2.out _))))
          go_wp2
          go_ret
          exact ⟨rfl, Below_drewN R.out.1 _⟩
        · rw [h2] at q2 OKX
          have Q2 := hid q2
          clear q2 h2
          cases h3 : inR x.Age 0 20
          · rw [h3] at q3 OKX
            have Q3 := hid q3
            have hres := N1.out i x HX.out (by rw [OKX.out]; rfl)
            subst hres
            clear q3 h3 N1 N2 NE
            go_wp2_with fail
            go_quiet ((first | (go_at_call 56; with_reducible exact Calls.quiet_of_same (Q1.out _)) | (go_at_call 56; with_reducible exact Calls.quiet_of_same (Q2.out _)) | (go_at_call 56; with_reducible exact Calls.quiet_of_same (Q3.out _))))
            go_wp2
            go_ret
            exact ⟨rfl, Below_drewN R.out.1 _⟩
          · rw [h3] at q3 OKX
            have Q3 := hid q3
            have hok : okT x = true := by rw [OKX.out]; rfl
            have HOK := hid hok
            clear q3 h3 hok
            by_cases hi0 : 0 < i
            · obtain ⟨y, hy, -, d1, d2, d3⟩ := (H.out.below R.out.1).litTask (show i - 1 < L.length by omega)
              have hi0' : ((i : Int) > 0) := by omega
              have i3 : (0 : Int) ≤ (i : Int) - 1 := by omega
              have i4 : (i : Int) - 1 < (L.length : Int) := by omega
              have i5 : ((i : Int) - 1).toNat = i - 1 := by omega
              have HY := hid hy
              clear hy
              by_cases hlt2 : y.Id < x.Id
              · have hd : decide (x.Id ≤ y.Id) = false := by simp; omega
                have F := fun wr' hb => R.out.next (wr' := wr') HX.out HOK.out (fun _ => ⟨y, HY.out, hlt2⟩) hb
                have HF := hid F
                clear F hlt2
                go_wp2_with fail
                go_quiet ((first | (go_at_call 56; with_reducible exact Calls.quiet_of_same (Q1.out _)) | (go_at_call 56; with_reducible exact Calls.quiet_of_same (Q2.out _)) | (go_at_call 56; with_reducible exact Calls.quiet_of_same (Q3.out _))))
                go_wp2
                go_roundg (L.length - (i + 1))
                case measure => omega
                case rel => exact ⟨i + 1, by omega, by omega, by go_num, HF.out _ (Below_drewN R.out.1 _)⟩
              · have hd : decide (x.Id ≤ y.Id) = true := by simp; omega
                have hres := N2.out (i - 1) x y HY.out (by rw [show i - 1 + 1 = i by omega]; exact HX.out) (by omega)
                subst hres
                clear N1 N2 NE hlt2
                go_wp2_with fail
                go_quiet ((first | (go_at_call 56; with_reducible exact Calls.quiet_of_same (Q1.out _)) | (go_at_call 56; with_reducible exact Calls.quiet_of_same (Q2.out _)) | (go_at_call 56; with_reducible exact Calls.quiet_of_same (Q3.out _))))
                go_wp2
                go_ret
                exact ⟨rfl, Below_drewN R.out.1 _⟩
            · have F := fun wr' hb => R.out.next (wr' := wr') HX.out HOK.out (fun h => absurd h hi0) hb
              have HF := hid F
              have hd0 : decide ((i : Int) > 0) = false := by simp; omega
              have hi0i : ¬ (0 : Int) < (i : Int) := by omega
              clear F
              go_wp2_with fail
              go_quiet ((first | (go_at_call 56; with_reducible exact Calls.quiet_of_same (Q1.out _)) | (go_at_call 56; with_reducible exact Calls.quiet_of_same (Q2.out _)) | (go_at_call 56; with_reducible exact Calls.quiet_of_same (Q3.out _))))
              go_wp2
              go_roundg (L.length - (i + 1))
              case measure => omega
              case rel => exact ⟨i + 1, by omega, by omega, by go_num, HF.out _ (Below_drewN R.out.1 _)⟩
    · have hil : i = L.length := by omega
      subst hil
      have hres := NE.out R.out.2.1 R.out.2.2
      have e10 : decide ((L.length : Int) ≤ 10) = decide (L.length ≤ 10) := by rw [Bool.eq_iff_iff, decide_eq_true_eq, decide_eq_true_eq]; omega
      have HE := hid (hres.trans e10.symm)
      have HB := hid R.out.1
      clear e10 hres NE N1 N2 R
      go_wp2
      go_ret
      exact ⟨by rw [HE.out]; rfl, HB.out⟩
end Go.Proofs.Ythppgaglmgnocaa
