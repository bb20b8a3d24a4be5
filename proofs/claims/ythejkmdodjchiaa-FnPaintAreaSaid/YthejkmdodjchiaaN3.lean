/- impl.rectsOk, impl.changed, impl.ChangedRects. -/
import Derived.Test.YthejkmdodjchiaaRS
import Derived.Test.YthejkmdodjchiaaFRect
namespace Go.Proofs.Ythejkmdodjchiaa
set_option linter.unusedVariables false
set_option linter.unusedSimpArgs false
open Go.RowKit Go.Lib

theorem eltIntR : Elt Try.prog 38 3 1 8 := Elt.mk' Try.underlying38 (z := .int .i64 0) (by kernel_rfl) rfl (by omega) (by omega)

set_option maxHeartbeats 1000000 in
theorem rectsPred_any (x : RectD) (w : World) :
    Calls Try.prog 65 #[.agg #[.int .i64 x.X, .int .i64 x.Y, .int .i64 x.W, .int .i64 x.H]] w fun e w' => e = .returned (.bool (!validR x)) ∧ Below w.heap.size w w' := by
  have HC := hid (fun W => validR_any x W)
  generalize validR x = r at *
  have K : ∀ o, Below w.heap.size w (w.alloc o) := fun o => below_al (Below.refl _ _) rfl _
  go_enter Try.func65, Try.ntmps65
  go_wp2_with fail
  refine (HC.out _).mono ?_
  rintro e w1 ⟨rfl, hb1⟩
  have HB := hid ((K _).trans (hb1.mono (by simp)))
  clear hb1
  go_wp2
  go_ret
  exact ⟨rfl, HB.out⟩

theorem rectsB_any (L : List RectD) (n : Nat) : rectsB L n = (decide (L.length ≤ n) && !(L.any fun r => !validR r)) := by
  unfold rectsB
  congr 1
  rw [List.not_any_eq_all_not]
  congr 1
  funext p
  simp

set_option maxHeartbeats 1000000 in
theorem rectsOk_any (A : Option Addr) (L : List RectD) (c most : Nat) (w : World) (hL : L.length ≤ 1000000000000) (h : Arr w w.heap.size 4 encRect A L) :
    Calls Try.prog 45 #[.slice A L.length c, .int .i64 most] w fun e w' => e = .returned (.bool (rectsB L most)) ∧ Below w.heap.size w w' := by
  have hc := containsFuncRect_any 65 #[] (fun r => !validR r) (enters_of Try.func65 (by kernel_rfl) rfl) A L c w hL h (fun W x _ _ => rectsPred_any x W)
  rw [rectsB_any]
  clear h
  generalize (L.any fun r => !validR r) = r at hc ⊢
  by_cases h12 : L.length ≤ most
  · go_enter Try.func45, Try.ntmps45
    go_wp2_with (go_at_call 46; refine hc.mono ?_; rintro e w' ⟨rfl, hb'⟩)
    go_ret
    exact ⟨by simp [h12], hb'⟩
  · go_enter Try.func45, Try.ntmps45
    go_wp2_with fail
    go_ret
    exact ⟨by simp [h12], Below.refl _ _⟩

/-- What leaves a list in new memory, and a flag. -/
def GivesB {α : Type} (k : Nat) (enc : α → List Value) (L : List α) (ok : Bool) (w : World) (e : Ending) (w' : World) : Prop :=
  ∃ A c, e = .returned (.tuple #[.slice A L.length c, .bool ok]) ∧ L.length ≤ c ∧ c ≤ maxLen ∧ OwnA w' w.heap.size k enc A L ∧ Below w.heap.size w w'
theorem GivesB.nil {w w' : World} {e : Ending} {α : Type} {k : Nat} {enc : α → List Value} {ok : Bool} (he : e = .returned (.tuple #[.slice none 0 0, .bool ok])) (hb : Below w.heap.size w w') : GivesB k enc [] ok w e w' :=
  ⟨none, 0, he, by simp, by simp [maxLen], fun h => absurd h (by simp), hb⟩

/-- The loop's relation. -/
def ChRel (w1 : World) (a b : List RectD) (i : Nat) (A6 : Option Addr) (n6 c6 : Nat) (wr : World) : Prop :=
  n6 = (chgTo a b i).length ∧ wr.ownsRow w1.heap.size 3 1 (.slice A6 n6 c6) n6 ((chgTo a b i).flatMap encI) ∧ Below w1.heap.size w1 wr

set_option maxHeartbeats 4000000 in
theorem changed_any (A A' : Option Addr) (a b : List RectD) (c c' : Nat) (w : World) (ha : a.length ≤ 1048576) (hb : b.length ≤ 1048576) (h : Arr w w.heap.size 4 encRect A a) (h' : Arr w w.heap.size 4 encRect A' b) :
    Calls Try.prog 55 #[.slice A a.length c, .slice A' b.length c'] w (GivesB 1 encI (chgOf a b) (chgOk a b) w) := by
  have hka := fun W hW => rectsOk_any A a c 16 W (by omega) hW
  have hkb := fun W hW => rectsOk_any A' b c' 16 W (by omega) hW
  have H := hid h
  have H' := hid h'
  have hO : chgOk a b = (rectsB a 16 && (rectsB b 16 && decide (a.length = b.length))) := rfl
  have hV : chgOf a b = if chgOk a b then chg a b else [] := rfl
  rw [hV, hO]
  clear h h' hV
  have hl16 : rectsB a 16 = true → a.length ≤ 16 := fun h => (rectsB_iff.1 h).1
  cases ea : rectsB a 16
  · rw [ea] at hka
    have HKA := hid hka
    clear hka hkb hO ea hl16
    simp only [Bool.false_and, Bool.false_eq_true, if_false]
    go_enter Try.func55, Try.ntmps55
    go_wp2_with fail
    refine (HKA.out _ H.out).mono ?_
    rintro e w1 ⟨rfl, b1⟩
    have B1 := hid b1
    clear b1
    go_wp2
    go_ret2
    exact GivesB.nil rfl B1.out
  · have hl := hl16 ea
    rw [ea] at hka
    have HKA := hid hka
    cases eb : rectsB b 16
    · rw [eb] at hkb
      have HKB := hid hkb
      clear hka hkb hO ea eb hl16
      simp only [Bool.false_and, Bool.true_and, Bool.false_eq_true, if_false]
      go_enter Try.func55, Try.ntmps55
      go_wp2_with fail
      refine (HKA.out _ H.out).mono ?_
      rintro e w1 ⟨rfl, b1⟩
      have B1 := hid b1
      have H1' := hid (H'.out.next b1)
      clear b1
      go_wp2_with fail
      refine (HKB.out _ H1'.out).mono ?_
      rintro e w2 ⟨rfl, b2⟩
      have B2 := hid (chain B1.out b2)
      clear b2
      go_wp2
      go_ret2
      exact GivesB.nil rfl B2.out
    · rw [eb] at hkb
      have HKB := hid hkb
      clear hka hkb hO ea eb hl16
      by_cases hlen : a.length = b.length
      · simp only [Bool.true_and, decide_eq_true hlen, if_true]
        have HLEN := hid hlen
        have R00 : ∀ w1 w4, w4.ownsRow w1.heap.size 3 1 (.slice (some ⟨w1.heap.size, 0, none⟩) 0 a.length) 0 [] → Below w1.heap.size w1 w4 → Aside (ChRel w1 a b 0 (some ⟨w1.heap.size, 0, none⟩) 0 a.length w4) := fun w1 w4 ho hb => ⟨rfl, by simpa [chgTo_zero] using ho, hb⟩
        rw [← hlen]
        rw [← hlen] at HKB
        have hbl : ∀ i, i < a.length → i < b.length := fun i hi => by omega
        have HBL := hid hbl
        have hae : ((a.length : Int) != (a.length : Int)) = false := by simp
        clear hlen hbl hb
        go_enter Try.func55, Try.ntmps55
        go_wp2_with fail
        refine (HKA.out _ H.out).mono ?_
        rintro e w1 ⟨rfl, b1⟩
        have B1 := hid b1
        have H1 := hid (H.out.next b1)
        have H1' := hid (H'.out.next b1)
        clear b1
        go_wp2_with fail
        refine (HKB.out _ H1'.out).mono ?_
        rintro e w2 ⟨rfl, b2⟩
        have B2 := hid (chain B1.out b2)
        have H2 := hid (H1.out.next b2)
        have H2' := hid (H1'.out.next b2)
        clear b2
        go_wp2_with (first | (at_make; refine wpList_make0 _ eltIntR rfl _ (.tmp 24) rfl a.length rfl rfl (by omega) ?_; intro w4 own4 hb4) | fail)
        have R0 := R00 _ _ own4 hb4
        clear own4 hb4 R00
        go_wp2
        go_loopg [6, 28] a.length (fun gg s6 s28 wr => ∃ (i n6 c6 : Nat) (A6 : Option Addr), i ≤ a.length ∧ a.length - i ≤ gg ∧ s6 = .slice A6 n6 c6 ∧ s28 = .int .i64 i ∧ Aside (ChRel w2 a b i A6 n6 c6 wr))
        case atStart => exact ⟨0, _, _, _, Nat.zero_le _, by omega, rfl, rfl, R0⟩
        case round =>
          obtain ⟨i, n6, c6, A6, hi, hgg, rfl, rfl, R⟩ := hrel
          clear R0
          obtain ⟨hn6, hown, hbl⟩ := R.out
          have hlei := chgTo_len a b i
          rw [← hn6] at hlei
          have HN := hid hn6
          have HO := hid hown
          have HB := hid hbl
          have hsz := hbl.size
          clear R hn6 hown hbl
          by_cases hlt : i < a.length
          · obtain ⟨p, off, x, rfl, hp, hx, c1, c2, c3, c4⟩ := (H2.out.below HB.out).atRect hlt
            obtain ⟨p', off', y, rfl, hp', hy, d1, d2, d3, d4⟩ := (H2'.out.below HB.out).atRect (HBL.out i hlt)
            have hne := neAt_of hx hy
            have HYES := hid (chgTo_yes (a := a) (b := b) (k := i))
            have HNO := hid (chgTo_no (a := a) (b := b) (k := i))
            clear hx hy
            have i1 : (0 : Int) ≤ (i : Int) := by omega
            have i2 : (i : Int) < (a.length : Int) := by omega
            have hn : n6 ≤ 1000000 := by omega
            by_cases hxy : x = y
            · have hnf : neAt a b i = false := by rw [hne]; simp [hxy]
              have HNF := hid (HNO.out hnf)
              subst hxy
              have e1 : (x.X == x.X) = true := by simp
              have e2 : (x.Y == x.Y) = true := by simp
              have e3 : (x.W == x.W) = true := by simp
              have e4 : (x.H == x.H) = true := by simp
              clear hne hnf
              go_wp2_with fail
              go_quiet (fail)
              go_wp2
              go_roundg (a.length - (i + 1))
              case measure => omega
              case rel => exact ⟨i + 1, n6, c6, A6, by omega, by omega, rfl, by go_num, by rw [HNF.out]; exact HN.out, by rw [HNF.out]; exact HO.out, Below_drewN HB.out nq⟩
            · have hnt : neAt a b i = true := by rw [hne]; simp [hxy]
              have HNT := hid (HYES.out hnt)
              have hd : (x.X == y.X && (x.Y == y.Y && (x.W == y.W && x.H == y.H))) = false := by
                rw [Bool.eq_false_iff]
                intro h
                simp only [Bool.and_eq_true, beq_iff_eq] at h
                exact hxy (RectD.eq_iff.2 h)
              clear hne hnt
              have ways : (x.X == y.X) = false ∨ ((x.X == y.X) = true ∧ (x.Y == y.Y) = false) ∨ ((x.X == y.X) = true ∧ (x.Y == y.Y) = true ∧ (x.W == y.W) = false) ∨ ((x.X == y.X) = true ∧ (x.Y == y.Y) = true ∧ (x.W == y.W) = true ∧ (x.H == y.H) = false) := by
                revert hd
                cases (x.X == y.X) <;> cases (x.Y == y.Y) <;> cases (x.W == y.W) <;> cases (x.H == y.H) <;> simp
              clear hd hxy
              rcases ways with e1 | ⟨e1, e2⟩ | ⟨e1, e2, e3⟩ | ⟨e1, e2, e3, e4⟩
              all_goals
                go_wp2_with fail
                go_quiet (fail)
                go_wp2_with (at_builtin; refine wpList_push eltIntR rfl (.tmp 40) (.tmp 42) rfl w2.heap.size _ n6 _ (show (wr.drewN nq).ownsRow w2.heap.size 3 1 (.slice A6 n6 c6) n6 ((chgTo a b i).flatMap encI) from HO.out) hn hsz _ _ rfl rfl rfl rfl (oc1 _) ?_; intro A8 c8 w8 own8 gr8 at8)
                go_roundg (a.length - (i + 1))
                case measure => omega
                case rel => exact ⟨i + 1, n6 + 1, c8, A8, by omega, by omega, rfl, by go_num, by rw [HNT.out, HN.out]; simp, by rw [HNT.out, List.flatMap_append]; exact own8, (Below_drewN HB.out nq).grown gr8 hsz (fun g hg => (HO.out.lt g hg).1)⟩
          · have hiv : i = a.length := by omega
            subst hiv
            have hic := (slice_le HO.out)
            obtain ⟨hic1, hic2⟩ := hic
            go_wp2
            go_ret2
            have hn : n6 = (chg a b).length := by rw [HN.out]; rfl
            refine ⟨A6, n6, by rw [← hn]; rfl, by rw [← hn]; exact Nat.le_refl _, by omega, ?_, chain B2.out HB.out⟩
            exact (OwnA.of_rowN (enc := encI) (k := 1) (fun _ => rfl) hn rfl HO.out).less B2.out.size
      · simp only [Bool.true_and, decide_eq_false hlen, Bool.false_eq_true, if_false]
        have hae : ((a.length : Int) != (b.length : Int)) = true := by rw [bne_iff_ne]; omega
        have hae' : (a.length == b.length) = false := by rw [beq_eq_false_iff_ne]; exact hlen
        go_enter Try.func55, Try.ntmps55
        go_wp2_with fail
        refine (HKA.out _ H.out).mono ?_
        rintro e w1 ⟨rfl, b1⟩
        have B1 := hid b1
        have H1' := hid (H'.out.next b1)
        clear b1
        go_wp2_with fail
        refine (HKB.out _ H1'.out).mono ?_
        rintro e w2 ⟨rfl, b2⟩
        have B2 := hid (chain B1.out b2)
        clear b2
        go_wp2
        go_ret2
        exact GivesB.nil rfl B2.out

set_option maxHeartbeats 1000000 in
theorem changedRects_any (A A' : Option Addr) (a b : List RectD) (c c' : Nat) (w : World) (ha : a.length ≤ 1048576) (hb : b.length ≤ 1048576) (h : Arr w w.heap.size 4 encRect A a) (h' : Arr w w.heap.size 4 encRect A' b) :
    Calls Try.prog 23 #[.slice A a.length c, .slice A' b.length c'] w (Gives 1 encI (chgOf a b) w) := by
  have hc := hid (changed_any A A' a b c c' w ha hb h h')
  clear h h'
  generalize chgOf a b = L at *
  go_enter Try.func23, Try.ntmps23
  go_wp2_with fail
  refine hc.out.mono ?_
  rintro e w1 ⟨A1, c1, rfl, h1, h2, h3, h4⟩
  have H3 := hid h3
  have H4 := hid h4
  clear h3 h4
  go_wp2
  go_ret
  exact ⟨A1, c1, rfl, h1, h2, H3.out, H4.out⟩
end Go.Proofs.Ythejkmdodjchiaa
