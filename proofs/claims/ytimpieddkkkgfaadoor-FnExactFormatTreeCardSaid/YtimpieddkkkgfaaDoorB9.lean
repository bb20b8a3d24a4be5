/- Valid trees: spec.validTree; boxIn. -/
import Derived.Test.YtimpieddkkkgfaaDoorB8
namespace Go.Proofs.YtimpieddkkkgfaaDoor
set_option linter.unusedVariables false
set_option linter.unusedSimpArgs false
open Go.RowKit Go.Lib

/-- The loop's relation. -/
def VS1 (w : World) (T : List BoxD) (i : Nat) (wr : World) : Prop :=
  Desc T i ∧ (∀ j, j < i → styledB (boxAt T j) = true) ∧ (∀ j, 0 < j → j < i → (boxAt T (par T j).toNat).Kind ≠ 0 ∧ (kidsN T T.length (par T j).toNat).length ≤ 8 ∧ (up T j).length ≤ 6) ∧ Below w.heap.size w wr
theorem desc_next {T : List BoxD} {i : Nat} (h : Desc T i) (h0 : i = 0 → par T 0 = -1) (h1 : 0 < i → 0 ≤ par T i ∧ par T i < (i : Int)) : Desc T (i + 1) := fun j hj => by
  by_cases e : j = i
  · subst e
    exact ⟨fun e => by subst e; exact h0 rfl, h1⟩
  · exact h j (by omega)
theorem VS1.next {w wr wr' : World} {T : List BoxD} {i : Nat} (h : VS1 w T i wr) (hd : Desc T (i + 1)) (hs : styledB (boxAt T i) = true) (hk : 0 < i → (boxAt T (par T i).toNat).Kind ≠ 0 ∧ (kidsN T T.length (par T i).toNat).length ≤ 8 ∧ (up T i).length ≤ 6) (hb : Below w.heap.size w wr') : VS1 w T (i + 1) wr' :=
  ⟨hd, fun j hj => by
    by_cases e : j = i
    · subst e; exact hs
    · exact h.2.1 j (by omega), fun j j0 hj => by
    by_cases e : j = i
    · subst e; exact hk j0
    · exact h.2.2.1 j j0 (by omega), hb⟩

set_option maxHeartbeats 8000000 in
theorem specvalidTree_any (A : Option Addr) (T : List BoxD) (c : Nat) (w : World) (hL : T.length ≤ 1048576) (h : Arr w w.heap.size 9 encBox A T) :
    Calls Tryd.prog 9 #[.slice A T.length c] w fun e w' => e = .returned (.bool (validB T)) ∧ Below w.heap.size w w' := by
  have H := hid h
  have NO := hid (fun h => validB_no (T := T) h)
  have YES := hid (fun h => (validB_iff (T := T)).2 h)
  clear h
  generalize validB T = res at *
  go_enter Tryd.func9, Tryd.ntmps9
  go_wp2
  go_loopg [3] T.length (fun gg s3 wr => ∃ i : Nat, i ≤ T.length ∧ T.length - i ≤ gg ∧ s3 = .int .i64 i ∧ Aside (VS1 w T i wr))
  case atStart => exact ⟨0, Nat.zero_le _, by omega, rfl, fun j hj => absurd hj (Nat.not_lt_zero _), fun j hj => absurd hj (Nat.not_lt_zero _), fun j _ hj => absurd hj (Nat.not_lt_zero _), Below.refl _ _⟩
  case round =>
    obtain ⟨i, hi, hgg, rfl, R⟩ := hrel
    have hsz := R.out.2.2.2.size
    by_cases hlt : i < T.length
    · obtain ⟨b, off, x, hA, hb, hx, e0, e1, e2, e3, e4, e5, e6, e7, e8⟩ := (H.out.below R.out.2.2.2).atBox hlt
      have hbr : b < wr.heap.size := by omega
      have HXB := hid (boxAt_of hx)
      have HXP := hid (par_of hx)
      have i1 : (0 : Int) ≤ (i : Int) := by omega
      have i2 : (i : Int) < (T.length : Int) := by omega
      have hst := fun W => validBox_any x W
      subst hA
      clear hx
      cases q1 : styledB x
      · rw [q1] at hst
        have HST := hid hst
        have hr := NO.out (fun v => by have := v.sty i hlt; rw [HXB.out, q1] at this; cases this)
        subst hr
        clear q1 hst NO YES
        go_wp2_with fail
        refine (HST.out _).mono ?_
        rintro e w2 ⟨rfl, b2⟩
        have B2 := hid (R.out.2.2.2.trans (b2.mono hsz))
        clear b2
        go_wp2
        go_ret
        exact ⟨rfl, B2.out⟩
      · rw [q1] at hst
        have HST := hid hst
        have HQ1 := hid q1
        clear q1 hst
        by_cases hi0 : i = 0
        · subst hi0
          have hw := fun W => inRangeB_any x.Parent (-1) (-1) W
          simp only [Nat.zero_mul, Nat.add_zero] at e0 e1 e2 e3 e4 e5 e6 e7 e8
          cases q2 : inR x.Parent (-1) (-1)
          · rw [q2] at hw
            have HW := hid hw
            have hr := NO.out (fun v => by have := (v.ord.1 0 hlt).1 rfl; rw [HXP.out] at this; have := inR_false.1 q2; omega)
            subst hr
            clear q2 hw NO YES
            go_wp2_with fail
            refine (HST.out _).mono ?_
            rintro e w2 ⟨rfl, b2⟩
            have k0 := (b2.cell (p := ⟨b, off, none⟩) hbr).trans e0
            have B2 := hid (R.out.2.2.2.trans (b2.mono hsz))
            clear b2
            go_wp2_with fail
            refine (HW.out _).mono ?_
            rintro e w3 ⟨rfl, rfl⟩
            go_wp2
            go_ret
            exact ⟨rfl, B2.out⟩
          · rw [q2] at hw
            have HW := hid hw
            have hp := inR_iff.1 q2
            have HF := hid (fun wr' hb => R.out.next (wr' := wr') (desc_next R.out.1 (fun _ => by rw [HXP.out]; omega) (fun h => absurd h (by omega))) (by rw [HXB.out]; exact HQ1.out) (fun h => absurd h (by omega)) hb)
            clear q2 hw hp
            go_wp2_with fail
            refine (HST.out _).mono ?_
            rintro e w2 ⟨rfl, b2⟩
            have k0 := (b2.cell (p := ⟨b, off, none⟩) hbr).trans e0
            have B2 := hid (R.out.2.2.2.trans (b2.mono hsz))
            clear b2
            go_wp2_with fail
            refine (HW.out _).mono ?_
            rintro e w3 ⟨rfl, rfl⟩
            go_wp2
            go_roundg (T.length - (0 + 1))
            case measure => omega
            case rel => exact ⟨0 + 1, by omega, by omega, by go_num, HF.out _ B2.out⟩
        · have j0 : 0 < i := by omega
          have j1 : (0 : Int) < (i : Int) := by omega
          have j4 : min (i : Int) 1 = 1 := by omega
          have j5 : min i 1 = 1 := by omega
          have hw := fun W => inRangeB_any x.Parent 0 ((i : Int) - 1) W
          cases q2 : inR x.Parent 0 ((i : Int) - 1)
          · rw [q2] at hw
            have HW := hid hw
            have hr := NO.out (fun v => by have := (v.ord.1 i hlt).2 j0; rw [HXP.out] at this; have := inR_false.1 q2; omega)
            subst hr
            clear q2 hw NO YES
            go_wp2_with fail
            refine (HST.out _).mono ?_
            rintro e w2 ⟨rfl, b2⟩
            have k0 := (b2.cell (p := ⟨b, off + i * 9, none⟩) hbr).trans e0
            have B2 := hid (R.out.2.2.2.trans (b2.mono hsz))
            clear b2
            go_wp2_with fail
            refine (HW.out _).mono ?_
            rintro e w3 ⟨rfl, rfl⟩
            go_wp2
            go_ret
            exact ⟨rfl, B2.out⟩
          · rw [q2] at hw
            have HW := hid hw
            have hp := inR_iff.1 q2
            have HD := hid (desc_next R.out.1 (fun e => absurd e hi0) (fun _ => by rw [HXP.out]; omega))
            obtain ⟨p, hpp⟩ : ∃ p : Nat, x.Parent = p := ⟨x.Parent.toNat, by omega⟩
            rw [hpp] at hw hp e0
            have HPT : Hid ((par T i).toNat = p) := hid (by rw [HXP.out, hpp]; rfl)
            have hpi : p < i := by omega
            obtain ⟨y, hy, -, f0, f1, -⟩ := (H.out.below R.out.2.2.2).litBox (show p < T.length by omega)
            have HYB := hid (boxAt_of hy)
            have p1 : (p : Int) < (T.length : Int) := by omega
            have p2 : p < T.length := by omega
            have p3 : (0 : Int) ≤ (p : Int) := by omega
            have HST2 := hid (show ∀ W, Calls Tryd.prog 19 #[.agg #[.int .i64 (p : Int), .int .i64 x.Kind, .int .i64 x.W, .int .i64 x.H, .int .i64 x.Pad, .int .i64 x.Gap, .int .i64 x.Grow, .int .i64 x.Shrink, .int .i64 x.Justify]] W fun e w' => e = .returned (.bool true) ∧ Below W.heap.size W w' from fun W => by have := HST.out W; rw [hpp] at this; exact this)
            have HW2 := hid (show ∀ W, Calls Tryd.prog 20 #[.int .i64 (p : Int), .int .i64 0, .int .i64 ((i : Int) - 1)] W fun e w' => e = .returned (.bool true) ∧ W = w' from fun W => by have := HW.out W; rw [hpp] at this; exact this)
            have hk := fun W h => (kidsS_any (some ⟨b, off, none⟩) T c p W hL p2 (R.out.1.less (by omega)) h).mono fun _ _ h => SliceN.of h
            rw [asI_len] at hk
            have hdp := fun W h => depthS_any (some ⟨b, off, none⟩) T c i W hL hlt HD.out h
            have hkl := kids_len_le T T.length p
            have hdl := up_len_le HD.out i (by omega)
            have hdpos := up_len_pos T i
            have HKQ : Hid ((kidsN T T.length p).length = (kidsN T T.length (par T i).toNat).length) := hid (by rw [HPT.out])
            generalize hkq : (kidsN T T.length p).length = K at *
            generalize hdq : (up T i).length = D at *
            have HDQ := hid hdq
            have HK := hid hk
            have HDP := hid hdp
            clear q2 hw hp hk hdp hkq hdq hy hpp HW HST
            go_wp2_with fail
            refine (HST2.out _).mono ?_
            rintro e w2 ⟨rfl, b2⟩
            have k0 := (b2.cell (p := ⟨b, off + i * 9, none⟩) hbr).trans e0
            have k1 := (b2.cell (p := ⟨b, off + p * 9 + 1, none⟩) hbr).trans f1
            have B2 := hid (R.out.2.2.2.trans (b2.mono hsz))
            have hs2 := b2.size
            clear b2
            by_cases hk0 : y.Kind = 0
            · have t1 : (y.Kind == 0) = true := by rw [beq_iff_eq]; exact hk0
              have hr := NO.out (fun v => valid_kind v j0 hlt (by rw [HPT.out, HYB.out]; exact hk0))
              subst hr
              clear hk0 NO YES
              go_wp2_with fail
              refine (HW2.out _).mono ?_
              rintro e w3 ⟨rfl, rfl⟩
              go_wp2
              go_ret
              exact ⟨rfl, B2.out⟩
            · have t1 : (y.Kind == 0) = false := by rw [beq_eq_false_iff_ne]; exact hk0
              have HK0 := hid hk0
              have HKC := hid (HK.out w2 ((H.out.below B2.out).more B2.out.size))
              have hbr2 : b < w2.heap.size := by omega
              clear hk0
              by_cases hk8 : K ≤ 8
              · have t2 : decide ((K : Int) > 8) = false := by simp; omega
                by_cases hd6 : D ≤ 6
                · have t3 : decide ((D : Int) - 1 > 5) = false := by simp; omega
                  have t3' : ¬ (5 : Int) < (D : Int) - 1 := by omega
                  have HF := hid (fun wr' hb => R.out.next (wr' := wr') HD.out (by rw [HXB.out]; exact HQ1.out) (fun _ => ⟨by rw [HPT.out, HYB.out]; exact HK0.out, by rw [← HKQ.out]; exact hk8, by rw [HDQ.out]; exact hd6⟩) hb)
                  go_wp2_with fail
                  refine (HW2.out _).mono ?_
                  rintro e w3 ⟨rfl, rfl⟩
                  go_wp2_with fail
                  refine HKC.out.mono ?_
                  rintro e w4 ⟨A4, c4, rfl, b4⟩
                  have B4 := hid (B2.out.trans (b4.mono B2.out.size))
                  clear b4
                  go_wp2_with fail
                  refine (HDP.out _ ((H.out.below B4.out).more B4.out.size)).mono ?_
                  rintro e w5 ⟨rfl, rfl⟩
                  go_wp2
                  go_roundg (T.length - (i + 1))
                  case measure => omega
                  case rel => exact ⟨i + 1, by omega, by omega, by go_num, HF.out _ B4.out⟩
                · have t3 : decide ((D : Int) - 1 > 5) = true := by simp; omega
                  have t3' : (5 : Int) < (D : Int) - 1 := by omega
                  have hr := NO.out (fun v => by have := v.dep i hlt; rw [HDQ.out] at this; exact hd6 this)
                  subst hr
                  clear NO YES
                  go_wp2_with fail
                  refine (HW2.out _).mono ?_
                  rintro e w3 ⟨rfl, rfl⟩
                  go_wp2_with fail
                  refine HKC.out.mono ?_
                  rintro e w4 ⟨A4, c4, rfl, b4⟩
                  have B4 := hid (B2.out.trans (b4.mono B2.out.size))
                  clear b4
                  go_wp2_with fail
                  refine (HDP.out _ ((H.out.below B4.out).more B4.out.size)).mono ?_
                  rintro e w5 ⟨rfl, rfl⟩
                  go_wp2
                  go_ret
                  exact ⟨rfl, B4.out⟩
              · have t2 : decide ((K : Int) > 8) = true := by simp; omega
                have hr := NO.out (fun v => by have := v.many p p2; rw [HPT.out] at HKQ; rw [← HKQ.out] at this; exact hk8 this)
                subst hr
                clear NO YES
                go_wp2_with fail
                refine (HW2.out _).mono ?_
                rintro e w3 ⟨rfl, rfl⟩
                go_wp2_with fail
                refine HKC.out.mono ?_
                rintro e w4 ⟨A4, c4, rfl, b4⟩
                have B4 := hid (B2.out.trans (b4.mono B2.out.size))
                clear b4
                go_wp2
                go_ret
                exact ⟨rfl, B4.out⟩
    · have hil : i = T.length := by omega
      subst hil
      have hq := fun W => inRangeB_any (T.length : Int) 1 16 W
      cases q1 : inR (T.length : Int) 1 16
      · rw [q1] at hq
        have HQ := hid hq
        have hr := NO.out (fun v => by have := inR_false.1 q1; have := v.pos; have := v.len; omega)
        subst hr
        clear q1 hq NO YES
        go_wp2_with fail
        refine (HQ.out _).mono ?_
        rintro e w2 ⟨rfl, rfl⟩
        go_wp2
        go_ret
        exact ⟨rfl, R.out.2.2.2⟩
      · rw [q1] at hq
        have HQ := hid hq
        have hl := inR_iff.1 q1
        have HO := hid (inOrder_any A T c wr hL R.out.1 ((H.out.below R.out.2.2.2).more hsz))
        have hr : ordB T = res := by
          cases q2 : ordB T
          · exact (NO.out (fun v => by rw [ordB_iff.2 v.ord.2] at q2; cases q2)).symm
          · exact (YES.out (valid_of_spec (by omega) (by omega) R.out.1 (ordB_iff.1 q2) R.out.2.1 R.out.2.2.1)).symm
        rw [hr] at HO
        clear q1 hq hl hr NO YES
        go_wp2_with fail
        refine (HQ.out _).mono ?_
        rintro e w2 ⟨rfl, rfl⟩
        go_wp2_with fail
        refine HO.out.mono ?_
        rintro e w3 ⟨rfl, rfl⟩
        go_wp2
        go_ret
        exact ⟨rfl, R.out.2.2.2⟩

end Go.Proofs.YtimpieddkkkgfaaDoor
