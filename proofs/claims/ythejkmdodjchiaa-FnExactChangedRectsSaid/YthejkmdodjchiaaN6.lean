/- spec.ChangedRects. -/
import Derived.Test.YthejkmdodjchiaaN4
namespace Go.Proofs.Ythejkmdodjchiaa
open Go.RowKit Go.Lib

set_option maxHeartbeats 4000000 in
theorem specChangedRects_any (A A' : Option Addr) (a b : List RectD) (c c' : Nat) (w : World) (ha : a.length ≤ 1048576) (hb : b.length ≤ 1048576) (h : Arr w w.heap.size 4 encRect A a) (h' : Arr w w.heap.size 4 encRect A' b) :
    Calls Try.prog 25 #[.slice A a.length c, .slice A' b.length c'] w (Gives 1 encI (chgOf a b) w) := by
  have HC := hid (fun W hA hA' => validRects_any A A' a b c c' W ha hb hA hA')
  have H := hid h
  have H' := hid h'
  have hV : chgOf a b = if chgOk a b then chg a b else [] := rfl
  have hk := chgOk_iff (a := a) (b := b)
  rw [hV]
  clear h h' hV
  have B0 : ∀ o, Below w.heap.size w (w.alloc o) := fun o => (Below.refl _ _).alloc (Nat.le_refl _) _
  have HB0 := hid B0
  clear B0
  cases hok : chgOk a b
  · rw [hok] at HC
    clear hok hk
    simp only [Bool.false_eq_true, if_false]
    go_enter Try.func25, Try.ntmps25
    go_wp2_with fail
    refine (HC.out _ ((H.out.below (HB0.out _)).more (by simp)) ((H'.out.below (HB0.out _)).more (by simp))).mono ?_
    rintro e w1 ⟨rfl, b1⟩
    have B1 := hid ((HB0.out _).trans (b1.mono (by simp)))
    clear b1
    go_wp2
    go_ret
    exact ⟨none, 0, rfl, by simp, by simp [maxLen], fun h => absurd h (by simp), B1.out⟩
  · obtain ⟨⟨hl, -⟩, -, hlen⟩ := hk.1 hok
    rw [hok] at HC
    clear hok hk
    simp only [if_true]
    have HLEN := hid hlen
    have hbl : ∀ i, i < a.length → i < b.length := fun i hi => by omega
    have HBL := hid hbl
    have R00 : ∀ W W1, W = w.alloc (.cells #[] 3) → Below W.heap.size W W1 → Aside (ChRel w a b 0 (some ⟨w.heap.size, 0, none⟩) 0 0 W1) := fun W W1 e1 hb => by
      subst e1
      refine ⟨rfl, ?_, ((Below.refl _ _).alloc (Nat.le_refl _) _).trans (hb.mono (by simp))⟩
      rw [chgTo_zero]
      exact row_next (World.ownsRow_made w #[] 0 (Nat.le_refl _) (by simp [maxLen]) rfl) hb
    have HR00 := hid R00
    clear hlen hbl hb R00
    go_enter Try.func25, Try.ntmps25
    go_wp2_with fail
    refine (HC.out _ ((H.out.below (HB0.out _)).more (by simp)) ((H'.out.below (HB0.out _)).more (by simp))).mono ?_
    rintro e w1 ⟨rfl, b1⟩
    have R0 := HR00.out _ _ rfl b1
    clear b1
    go_wp2
    go_loopg [5, 6] a.length (fun gg s5 s6 wr => ∃ (i n6 c6 : Nat) (A6 : Option Addr), i ≤ a.length ∧ a.length - i ≤ gg ∧ s5 = .slice A6 n6 c6 ∧ s6 = .int .i64 i ∧ Aside (ChRel w a b i A6 n6 c6 wr))
    case atStart => exact ⟨0, _, _, _, Nat.zero_le _, by omega, rfl, rfl, R0⟩
    case round =>
      obtain ⟨i, n6, c6, A6, hi, hgg, rfl, rfl, R⟩ := hrel
      clear R0
      obtain ⟨hn6, hown, hbl⟩ := R.out
      have hlei := chgTo_len a b i
      rw [← hn6] at hlei
      have HN := hid hn6
      have HO := hid hown
      have HB := hid hbl
      have hsz := hbl.size
      clear R hn6 hown hbl
      by_cases hlt : i < a.length
      · obtain ⟨p, off, x, rfl, hp, hx, c1, c2, c3, c4⟩ := (H.out.below HB.out).atRect hlt
        obtain ⟨p', off', y, rfl, hp', hy, d1, d2, d3, d4⟩ := (H'.out.below HB.out).atRect (HBL.out i hlt)
        have hne := neAt_of hx hy
        have HYES := hid (chgTo_yes (a := a) (b := b) (k := i))
        have HNO := hid (chgTo_no (a := a) (b := b) (k := i))
        have i1 : (0 : Int) ≤ (i : Int) := by omega
        have i2 : (i : Int) < (a.length : Int) := by omega
        have i3 : (i : Int) < (b.length : Int) := by have := HBL.out i hlt; omega
        have hn : n6 ≤ 1000000 := by omega
        clear hx hy
        by_cases hxy : x = y
        · have hnf : neAt a b i = false := by rw [hne]; simp [hxy]
          have HNF := hid (HNO.out hnf)
          subst hxy
          have e1 : (x.X == x.X) = true := by simp
          have e2 : (x.Y == x.Y) = true := by simp
          have e3 : (x.W == x.W) = true := by simp
          have e4 : (x.H == x.H) = true := by simp
          clear hne hnf
          go_wp2_with fail
          go_quiet (fail)
          go_wp2
          go_roundg (a.length - (i + 1))
          case measure => omega
          case rel => exact ⟨i + 1, n6, c6, A6, by omega, by omega, rfl, by go_num, by rw [HNF.out]; exact HN.out, by rw [HNF.out]; exact HO.out, Below_drewN HB.out nq⟩
        · have hnt : neAt a b i = true := by rw [hne]; simp [hxy]
          have HNT := hid (HYES.out hnt)
          have hd : (x.X == y.X && (x.Y == y.Y && (x.W == y.W && x.H == y.H))) = false := by
            rw [Bool.eq_false_iff]
            intro h
            simp only [Bool.and_eq_true, beq_iff_eq] at h
            exact hxy (RectD.eq_iff.2 h)
          clear hne hnt
          have ways : (x.X == y.X) = false ∨ ((x.X == y.X) = true ∧ (x.Y == y.Y) = false) ∨ ((x.X == y.X) = true ∧ (x.Y == y.Y) = true ∧ (x.W == y.W) = false) ∨ ((x.X == y.X) = true ∧ (x.Y == y.Y) = true ∧ (x.W == y.W) = true ∧ (x.H == y.H) = false) := by
            revert hd
            cases (x.X == y.X) <;> cases (x.Y == y.Y) <;> cases (x.W == y.W) <;> cases (x.H == y.H) <;> simp
          clear hd hxy
          rcases ways with e1 | ⟨e1, e2⟩ | ⟨e1, e2, e3⟩ | ⟨e1, e2, e3, e4⟩
          all_goals
            go_wp2_with fail
            go_quiet (fail)
            go_wp2_with (at_builtin; refine wpList_push eltIntR rfl (.tmp 27) (.tmp 29) rfl w.heap.size _ n6 _ (show (wr.drewN nq).ownsRow w.heap.size 3 1 (.slice A6 n6 c6) n6 ((chgTo a b i).flatMap encI) from HO.out) hn hsz _ _ rfl rfl rfl rfl (oc1 _) ?_; intro A8 c8 w8 own8 gr8 at8)
            go_roundg (a.length - (i + 1))
            case measure => omega
            case rel => exact ⟨i + 1, n6 + 1, c8, A8, by omega, by omega, rfl, by go_num, by rw [HNT.out, HN.out]; simp, by rw [HNT.out, List.flatMap_append]; exact own8, (Below_drewN HB.out nq).grown gr8 hsz (fun g hg => (HO.out.lt g hg).1)⟩
      · have hiv : i = a.length := by omega
        subst hiv
        obtain ⟨hic1, hic2⟩ := slice_le HO.out
        go_wp2
        go_ret
        have hn : n6 = (chg a b).length := by rw [HN.out]; rfl
        refine ⟨A6, c6, by rw [← hn]; rfl, by rw [← hn]; exact hic1, by omega, ?_, HB.out⟩
        exact OwnA.of_rowN (enc := encI) (k := 1) (fun _ => rfl) hn rfl HO.out
end Go.Proofs.Ythejkmdodjchiaa
