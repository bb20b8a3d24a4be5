/- spec.JoinPaint: the walk. -/
import Derived.Test.YthejkmdodjchiaaJ3
import Derived.Test.YthejkmdodjchiaaRS
namespace Go.Proofs.Ythejkmdodjchiaa
set_option linter.unusedVariables false
set_option linter.unusedSimpArgs false
open Go.RowKit Go.Lib

theorem joinV_big {L : List RectD} (h : 6 < L.length) : joinV L = none := by
  unfold joinV
  rw [if_neg]
  intro e
  have := (rectsB_iff.1 e).1
  omega
theorem joinV_bad {L : List RectD} {i : Nat} {x : RectD} (hx : L[i]? = some x) (h : validR x = false) : joinV L = none := by
  unfold joinV
  rw [if_neg]
  intro e
  rw [(rectsB_iff.1 e).2 x (List.mem_of_getElem? hx)] at h
  cases h
theorem joinV_none {L : List RectD} (h : joinTo [] L = none) : joinV L = none := by
  unfold joinV
  split
  · exact h
  · rfl
theorem joinV_all {L : List RectD} (h6 : L.length ≤ 6) (h : ∀ j r, j < L.length → L[j]? = some r → validR r = true) : joinV L = joinTo [] L := by
  unfold joinV
  rw [if_pos]
  refine rectsB_iff.2 ⟨h6, fun r hr => ?_⟩
  obtain ⟨j, hj⟩ := List.mem_iff_getElem?.1 hr
  exact h j r (List.getElem?_eq_some_iff.1 hj).1 hj

theorem atMeet_none {out : List RectD} {x : RectD} (h : ∀ j y, j < out.length → out[j]? = some y → meetsR y x = false) : atMeet out x < 0 := by
  show firstAt (fun q => meetsR q x) out < 0
  rw [firstAt_miss (p := fun q => meetsR q x) (fun j hj y hy => h j y hj hy)]
  omega
theorem atMeet_some {out : List RectD} {x y : RectD} {k : Nat} (hy : out[k]? = some y) (hm : meetsR y x = true) (h : ∀ j y, j < k → out[j]? = some y → meetsR y x = false) : atMeet out x = k := by
  show firstAt (fun q => meetsR q x) out = k
  exact firstAt_hit (p := fun q => meetsR q x) hy hm (fun j hj y hy => h j y hj hy)

/-- What any hull leaves. -/
def SomeHull (w : World) (e : Ending) (w' : World) : Prop := (∃ x y u v : Int, e = .returned (.agg #[.int .i64 x, .int .i64 y, .int .i64 u, .int .i64 v])) ∧ Below w.heap.size w w'

set_option maxHeartbeats 4000000 in
theorem specJoinPaint_any (A : Option Addr) (L : List RectD) (c : Nat) (w : World) (hL : L.length ≤ 1048576) (h : Arr w w.heap.size 4 encRect A L) :
    Calls Try.prog 38 #[.slice A L.length c] w (GivesB 4 encRect (joinL L) (joinOk L) w) := by
  have H := hid h
  have hO : joinOk L = (joinV L).isSome := rfl
  have hV : joinL L = (joinV L).getD [] := rfl
  rw [hO, hV]
  clear h hO hV
  have hal : ∀ o, Below w.heap.size w (w.alloc o) := fun o => (Below.refl _ _).alloc (Nat.le_refl _) _
  have HAL := hid hal
  clear hal
  by_cases hbig : 6 < L.length
  · rw [joinV_big hbig]
    go_enter Try.func38, Try.ntmps38
    go_wp2
    go_ret2
    exact GivesB.nil rfl (HAL.out _)
  · have R0 : ∀ o, o = Obj.cells #[] 27 → Aside (JRel w L 0 (some ⟨w.heap.size, 0, none⟩) 0 0 [] (w.alloc o) ∧ ∀ j r, j < 0 → L[j]? = some r → validR r = true) := fun o ho => by
      subst ho
      exact ⟨⟨rfl, Nat.le_refl _, fun r hr => (List.not_mem_nil hr).elim, by rw [List.drop_zero], World.ownsRow_made w #[] 0 (Nat.le_refl _) (by simp [maxLen]) rfl, HAL.out _⟩, fun j r hj => absurd hj (Nat.not_lt_zero _)⟩
    have HR0 := hid R0
    clear R0
    go_enter Try.func38, Try.ntmps38
    go_wp2
    go_loopg [4, 5] L.length (fun gg s4 s5 wr => ∃ (i n c4 : Nat) (A4 : Option Addr) (out : List RectD), i ≤ L.length ∧ L.length - i ≤ gg ∧ s4 = .slice A4 n c4 ∧ s5 = .int .i64 i ∧ Aside (JRel w L i A4 n c4 out wr ∧ ∀ j r, j < i → L[j]? = some r → validR r = true))
    case atStart => exact ⟨0, _, _, _, [], Nat.zero_le _, by omega, rfl, rfl, HR0.out _ rfl⟩
    case round =>
      obtain ⟨wo, hwo⟩ : ∃ wo : World, wo = wr := ⟨_, rfl⟩
      subst hwo
      obtain ⟨i, n, c4, A4, out, hi, hgg, rfl, rfl, R⟩ := hrel
      clear HR0
      obtain ⟨⟨hn, hoi, hov, hjt, hown, hbl⟩, hva⟩ := R.out
      have HN := hid hn
      have HOV := hid hov
      have HJT := hid hjt
      have HO := hid hown
      have HB := hid hbl
      have HVA := hid hva
      have hn6 : n ≤ 6 := by omega
      have hni : n ≤ i := by omega
      have hsz := hbl.size
      clear R hn hov hjt hown hbl hva
      by_cases hlt : i < L.length
      · obtain ⟨p, off, x, rfl, hp, hx, d1, d2, d3, d4⟩ := (H.out.below HB.out).atRect hlt
        have HX := hid hx
        have HD := hid (drop_at hx)
        have i1 : (0 : Int) ≤ (i : Int) := by omega
        have i2 : (i : Int) < (L.length : Int) := by omega
        clear hx
        cases hxv : validR x
        · have HXV := hid hxv
          have HNO := hid (joinV_bad HX.out hxv)
          clear hxv
          go_wp2
          go_loopg [6] n (fun gg s6 wr => ∃ k : Nat, k ≤ n ∧ n - k ≤ gg ∧ s6 = .int .i64 k ∧ Aside (Below wo.heap.size wo wr))
          case atStart => exact ⟨0, Nat.zero_le _, by omega, rfl, Below.refl _ _⟩
          case round =>
            obtain ⟨k, hk, hg2, rfl, R2⟩ := hrel
            have HB2 := hid (chain HB.out R2.out)
            have HO2 := hid (row_next HO.out R2.out)
            obtain ⟨x', hx', _, e1, e2, e3, e4⟩ := (H.out.below HB2.out).litRect hlt
            have ee := hx'.symm.trans HX.out
            injection ee with ee
            subst ee
            have hpq : p < wr.heap.size := by have := HB2.out.size; omega
            have hzq : wo.heap.size ≤ wr.heap.size := R2.out.size
            have hcv := fun W => validRectS_any x' W
            rw [HXV.out] at hcv
            have HCV := hid hcv
            clear hx' hcv
            by_cases hkn : k < n
            · obtain ⟨y, hy⟩ : ∃ y, out[k]? = some y := ⟨_, List.getElem?_eq_getElem (by have := HN.out; omega)⟩
              obtain ⟨g, cc4, f1, hgb, _⟩ := HO2.out.form (by omega)
              injection f1 with f1 _ f2
              subst f1
              subst f2
              obtain ⟨⟨y0, y1, y2, y3⟩, z0, z1, z2, z3⟩ := row_cells HO2.out HN.out hy
              have hgw : g < wr.heap.size := (HO2.out.lt g rfl).2
              have HC := hid (fun W => meetsT_any y x' W)
              have HCH := hid (fun W => (hullST_any y x' W).mono fun _ _ h => (show SomeHull W _ _ from h))
              have kk1 : (0 : Int) ≤ (k : Int) := by omega
              have kk2 : (k : Int) < (n : Int) := by omega
              clear hy hgb
              go_wp2_with fail
              go_region_held3 (fun w' => w'.cell? ⟨g, k * 4, none⟩ = some (.int .i64 y.X) ∧ w'.cell? ⟨g, k * 4 + 1, none⟩ = some (.int .i64 y.Y) ∧ w'.cell? ⟨g, k * 4 + 2, none⟩ = some (.int .i64 y.W) ∧ w'.cell? ⟨g, k * 4 + 3, none⟩ = some (.int .i64 y.H) ∧ w'.cell? ⟨p, off + i * 4, none⟩ = some (.int .i64 x'.X) ∧ w'.cell? ⟨p, off + i * 4 + 1, none⟩ = some (.int .i64 x'.Y) ∧ w'.cell? ⟨p, off + i * 4 + 2, none⟩ = some (.int .i64 x'.W) ∧ w'.cell? ⟨p, off + i * 4 + 3, none⟩ = some (.int .i64 x'.H)) (go_keep)
                (((with_reducible refine (HC.out _).mono ?_); rintro e w6 ⟨⟨r, rfl⟩, hb6⟩; have q0 := (hb6.cell (p := ⟨g, k * 4, none⟩) hgw).trans y0; have q1 := (hb6.cell (p := ⟨g, k * 4 + 1, none⟩) hgw).trans y1; have q2 := (hb6.cell (p := ⟨g, k * 4 + 2, none⟩) hgw).trans y2; have q3 := (hb6.cell (p := ⟨g, k * 4 + 3, none⟩) hgw).trans y3; have p0 := (hb6.cell (p := ⟨p, off + i * 4, none⟩) hpq).trans e1; have p1 := (hb6.cell (p := ⟨p, off + i * 4 + 1, none⟩) hpq).trans e2; have p2 := (hb6.cell (p := ⟨p, off + i * 4 + 2, none⟩) hpq).trans e3; have p3 := (hb6.cell (p := ⟨p, off + i * 4 + 3, none⟩) hpq).trans e4; have HB6 := hid (show Below wr.heap.size wr w6 from below_undrew hb6); have ROW6 := hid (row_next HO2.out HB6.out); have z60 := ROW6.out.frozenAt (k * 4); have z61 := ROW6.out.frozenAt (k * 4 + 1); have z62 := ROW6.out.frozenAt (k * 4 + 2); have z63 := ROW6.out.frozenAt (k * 4 + 3); clear hb6; dsimp only))
              cases r
              · go_wp2
                go_roundg (n - (k + 1))
                case measure => omega
                case rel => exact ⟨k + 1, by omega, by omega, by go_num, R2.out.trans (HB6.out.mono hzq)⟩
              · have hgw6 : g < w6.heap.size := by have := HB6.out.size; omega
                have hpw6 : p < w6.heap.size := by have := HB6.out.size; omega
                have hkn' : (k == n) = false := by rw [beq_eq_false_iff_ne]; omega
                have hkn2 : ((k : Int) == (n : Int)) = false := by rw [beq_eq_false_iff_ne]; omega
                have hgp : g ≠ p := by have := (HO.out.lt g rfl).1; omega
                have hgp' : p ≠ g := fun e => hgp e.symm
                have B6 := hid (chain HB2.out HB6.out)
                go_wp2_with fail
                go_region_with
                  (((with_reducible refine (HCH.out _).mono ?_); rintro e w7 ⟨⟨t0, t1, t2, t3, rfl⟩, hb7⟩; have s0 := (hb7.cell (p := ⟨g, k * 4, none⟩) hgw6).trans q0; have s1 := (hb7.cell (p := ⟨g, k * 4 + 1, none⟩) hgw6).trans q1; have s2 := (hb7.cell (p := ⟨g, k * 4 + 2, none⟩) hgw6).trans q2; have s3 := (hb7.cell (p := ⟨g, k * 4 + 3, none⟩) hgw6).trans q3; have u0 := (hb7.cell (p := ⟨p, off + i * 4, none⟩) hpw6).trans p0; have u1 := (hb7.cell (p := ⟨p, off + i * 4 + 1, none⟩) hpw6).trans p1; have u2 := (hb7.cell (p := ⟨p, off + i * 4 + 2, none⟩) hpw6).trans p2; have u3 := (hb7.cell (p := ⟨p, off + i * 4 + 3, none⟩) hpw6).trans p3; have HB7 := hid (show Below w6.heap.size w6 w7 from below_undrew hb7); have ROW7 := hid (row_next ROW6.out HB7.out); have z70 := ROW7.out.frozenAt (k * 4); have z71 := ROW7.out.frozenAt (k * 4 + 1); have z72 := ROW7.out.frozenAt (k * 4 + 2); have z73 := ROW7.out.frozenAt (k * 4 + 3); clear hb7; dsimp only))
                all_goals
                  have hgb := (HO.out.lt g rfl).1
                  have B7 := hid (((((chain B6.out HB7.out).setCell (p := ⟨g, k * 4, none⟩) hgb (.int .i64 t0)).setCell (p := ⟨g, k * 4 + 1, none⟩) hgb (.int .i64 t1)).setCell (p := ⟨g, k * 4 + 2, none⟩) hgb (.int .i64 t2)).setCell (p := ⟨g, k * 4 + 3, none⟩) hgb (.int .i64 t3))
                  go_wp2_with fail
                  refine (HCV.out _).mono ?_
                  rintro e w8 ⟨rfl, b8⟩
                  have B8 := hid (B7.out.trans (b8.mono B7.out.size))
                  clear b8
                  go_wp2
                  go_ret2
                  rw [HNO.out]
                  exact GivesB.nil rfl B8.out
            · have hkk : k = n := by omega
              subst hkk
              have hkn2 : ((k : Int) == (k : Int)) = true := by simp
              go_wp2_with fail
              go_quiet (fail)
              go_wp2_with (at_builtin; refine wpList_push eltRectG rfl (.tmp 39) (.tmp 44) rfl w.heap.size _ k _ (show (wr.drewN nq).ownsRow w.heap.size 27 4 (.slice A4 k c4) k (out.flatMap encRect) from HO2.out) (by omega) HB2.out.size _ _ rfl rfl rfl rfl (fun q hq => ocRect x' q hq) ?_; intro A9 c9 w9 own9 gr9 at9; have B9 := hid ((Below_drewN HB2.out nq).grown gr9 HB2.out.size (fun g hg => (HO2.out.lt g hg).1)); obtain ⟨x3, hx3, _, m1, m2, m3, m4⟩ := (H.out.below B9.out).litRect hlt; have ee := hx3.symm.trans HX.out; injection ee with ee; subst ee; clear hx3 own9 gr9 at9)
              go_wp2_with fail
              refine (HCV.out _).mono ?_
              rintro e w8 ⟨rfl, b8⟩
              have B8 := hid (chain B9.out b8)
              clear b8
              go_wp2
              go_ret2
              rw [HNO.out]
              exact GivesB.nil rfl B8.out
        · have HXV := hid hxv
          have HVA1 : Aside (∀ j r, j < i + 1 → L[j]? = some r → validR r = true) := fun j r hj hr => by
            rcases Nat.lt_or_ge j i with h | h
            · exact HVA.out j r h hr
            · have : j = i := by omega
              subst this
              have := hr.symm.trans HX.out
              injection this with this
              rw [this]; exact HXV.out
          clear hxv
          go_wp2
          go_loopg [6] n (fun gg s6 wr => ∃ k : Nat, k ≤ n ∧ n - k ≤ gg ∧ s6 = .int .i64 k ∧ Aside (∀ j y, j < k → out[j]? = some y → meetsR y x = false) ∧ Aside (Below wo.heap.size wo wr))
          case atStart => exact ⟨0, Nat.zero_le _, by omega, rfl, fun j y hj => absurd hj (Nat.not_lt_zero _), Below.refl _ _⟩
          case round =>
            obtain ⟨k, hk, hg2, rfl, NM, R2⟩ := hrel
            have HB2 := hid (chain HB.out R2.out)
            have HO2 := hid (row_next HO.out R2.out)
            obtain ⟨x', hx', _, e1, e2, e3, e4⟩ := (H.out.below HB2.out).litRect hlt
            have ee := hx'.symm.trans HX.out
            injection ee with ee
            subst ee
            have hpq : p < wr.heap.size := by have := HB2.out.size; omega
            have hzq : wo.heap.size ≤ wr.heap.size := R2.out.size
            have hcv := fun W => validRectS_any x' W
            rw [HXV.out] at hcv
            have HCV := hid hcv
            clear hx' hcv
            by_cases hkn : k < n
            · obtain ⟨y, hy⟩ : ∃ y, out[k]? = some y := ⟨_, List.getElem?_eq_getElem (by have := HN.out; omega)⟩
              obtain ⟨g, cc4, f1, hgb, _⟩ := HO2.out.form (by omega)
              injection f1 with f1 _ f2
              subst f1
              subst f2
              obtain ⟨⟨y0, y1, y2, y3⟩, z0, z1, z2, z3⟩ := row_cells HO2.out HN.out hy
              have hgw : g < wr.heap.size := (HO2.out.lt g rfl).2
              have hyv := HOV.out y (List.mem_of_getElem? hy)
              have hc := fun W => meets_any y x' W hyv HXV.out
              have HCH := hid (fun W => hullS_any y x' W (Roomy.of hyv) (Roomy.of HXV.out))
              have kk1 : (0 : Int) ≤ (k : Int) := by omega
              have kk2 : (k : Int) < (n : Int) := by omega
              have HY := hid hy
              have hmm : ∀ (b : Bool), meetsR y x' = b → meetsR y x' = b := fun _ h => h
              clear hyv hgb hy
              cases hme : meetsR y x'
              · rw [hme] at hc
                have HC := hid hc
                have NM1 : Aside (∀ j y, j < k + 1 → out[j]? = some y → meetsR y x' = false) := fun j y' hj hy' => by
                  rcases Nat.lt_or_ge j k with h | h
                  · exact NM.out j y' h hy'
                  · have : j = k := by omega
                    subst this
                    have := hy'.symm.trans HY.out
                    injection this with this
                    rw [this]; exact hme
                clear hme hc hmm
                go_wp2_with fail
                go_region_held3 (fun w' => w'.cell? ⟨g, k * 4, none⟩ = some (.int .i64 y.X) ∧ w'.cell? ⟨g, k * 4 + 1, none⟩ = some (.int .i64 y.Y) ∧ w'.cell? ⟨g, k * 4 + 2, none⟩ = some (.int .i64 y.W) ∧ w'.cell? ⟨g, k * 4 + 3, none⟩ = some (.int .i64 y.H) ∧ w'.cell? ⟨p, off + i * 4, none⟩ = some (.int .i64 x'.X) ∧ w'.cell? ⟨p, off + i * 4 + 1, none⟩ = some (.int .i64 x'.Y) ∧ w'.cell? ⟨p, off + i * 4 + 2, none⟩ = some (.int .i64 x'.W) ∧ w'.cell? ⟨p, off + i * 4 + 3, none⟩ = some (.int .i64 x'.H)) (go_keep)
                  (((with_reducible refine (HC.out _).mono ?_); rintro e w6 ⟨rfl, hb6⟩; have q0 := (hb6.cell (p := ⟨g, k * 4, none⟩) hgw).trans y0; have q1 := (hb6.cell (p := ⟨g, k * 4 + 1, none⟩) hgw).trans y1; have q2 := (hb6.cell (p := ⟨g, k * 4 + 2, none⟩) hgw).trans y2; have q3 := (hb6.cell (p := ⟨g, k * 4 + 3, none⟩) hgw).trans y3; have p0 := (hb6.cell (p := ⟨p, off + i * 4, none⟩) hpq).trans e1; have p1 := (hb6.cell (p := ⟨p, off + i * 4 + 1, none⟩) hpq).trans e2; have p2 := (hb6.cell (p := ⟨p, off + i * 4 + 2, none⟩) hpq).trans e3; have p3 := (hb6.cell (p := ⟨p, off + i * 4 + 3, none⟩) hpq).trans e4; have HB6 := hid (show Below wr.heap.size wr w6 from below_undrew hb6); clear hb6; dsimp only))
                go_wp2
                go_roundg (n - (k + 1))
                case measure => omega
                case rel => exact ⟨k + 1, by omega, by omega, by go_num, NM1.out, R2.out.trans (HB6.out.mono hzq)⟩
              · rw [hme] at hc
                have HC := hid hc
                have hat := atMeet_some HY.out hme NM.out
                have hJ := joinTo_at (L := L.drop (i + 1)) hat HY.out
                rw [← HD.out, ← HJT.out] at hJ
                have HJ := hid hJ
                have hkn2 : ((k : Int) == (n : Int)) = false := by rw [beq_eq_false_iff_ne]; omega
                have hkn' : (k == n) = false := by rw [beq_eq_false_iff_ne]; omega
                have hgp : g ≠ p := by have := (HO.out.lt g rfl).1; omega
                have hgp' : p ≠ g := fun e => hgp e.symm
                clear hme hc hmm hat hJ
                generalize hullR y x' = z at *
                go_wp2_with fail
                go_region_held3 (fun w' => w'.cell? ⟨g, k * 4, none⟩ = some (.int .i64 y.X) ∧ w'.cell? ⟨g, k * 4 + 1, none⟩ = some (.int .i64 y.Y) ∧ w'.cell? ⟨g, k * 4 + 2, none⟩ = some (.int .i64 y.W) ∧ w'.cell? ⟨g, k * 4 + 3, none⟩ = some (.int .i64 y.H) ∧ w'.cell? ⟨p, off + i * 4, none⟩ = some (.int .i64 x'.X) ∧ w'.cell? ⟨p, off + i * 4 + 1, none⟩ = some (.int .i64 x'.Y) ∧ w'.cell? ⟨p, off + i * 4 + 2, none⟩ = some (.int .i64 x'.W) ∧ w'.cell? ⟨p, off + i * 4 + 3, none⟩ = some (.int .i64 x'.H)) (go_keep)
                  (((with_reducible refine (HC.out _).mono ?_); rintro e w6 ⟨rfl, hb6⟩; have q0 := (hb6.cell (p := ⟨g, k * 4, none⟩) hgw).trans y0; have q1 := (hb6.cell (p := ⟨g, k * 4 + 1, none⟩) hgw).trans y1; have q2 := (hb6.cell (p := ⟨g, k * 4 + 2, none⟩) hgw).trans y2; have q3 := (hb6.cell (p := ⟨g, k * 4 + 3, none⟩) hgw).trans y3; have p0 := (hb6.cell (p := ⟨p, off + i * 4, none⟩) hpq).trans e1; have p1 := (hb6.cell (p := ⟨p, off + i * 4 + 1, none⟩) hpq).trans e2; have p2 := (hb6.cell (p := ⟨p, off + i * 4 + 2, none⟩) hpq).trans e3; have p3 := (hb6.cell (p := ⟨p, off + i * 4 + 3, none⟩) hpq).trans e4; have HB6 := hid (show Below wr.heap.size wr w6 from below_undrew hb6); have ROW6 := hid (row_next HO2.out HB6.out); have z60 := ROW6.out.frozenAt (k * 4); have z61 := ROW6.out.frozenAt (k * 4 + 1); have z62 := ROW6.out.frozenAt (k * 4 + 2); have z63 := ROW6.out.frozenAt (k * 4 + 3); clear hb6; dsimp only))
                have hgw6 : g < w6.heap.size := by have := HB6.out.size; omega
                have hpw6 : p < w6.heap.size := by have := HB6.out.size; omega
                have B6 := hid (chain HB2.out HB6.out)
                go_wp2_with fail
                go_region_with
                  (((with_reducible refine (HCH.out _).mono ?_); rintro e w7 ⟨rfl, hb7⟩; have s0 := (hb7.cell (p := ⟨g, k * 4, none⟩) hgw6).trans q0; have s1 := (hb7.cell (p := ⟨g, k * 4 + 1, none⟩) hgw6).trans q1; have s2 := (hb7.cell (p := ⟨g, k * 4 + 2, none⟩) hgw6).trans q2; have s3 := (hb7.cell (p := ⟨g, k * 4 + 3, none⟩) hgw6).trans q3; have u0 := (hb7.cell (p := ⟨p, off + i * 4, none⟩) hpw6).trans p0; have u1 := (hb7.cell (p := ⟨p, off + i * 4 + 1, none⟩) hpw6).trans p1; have u2 := (hb7.cell (p := ⟨p, off + i * 4 + 2, none⟩) hpw6).trans p2; have u3 := (hb7.cell (p := ⟨p, off + i * 4 + 3, none⟩) hpw6).trans p3; have HB7 := hid (show Below w6.heap.size w6 w7 from below_undrew hb7); have ROW7 := hid (row_next ROW6.out HB7.out); have z70 := ROW7.out.frozenAt (k * 4); have z71 := ROW7.out.frozenAt (k * 4 + 1); have z72 := ROW7.out.frozenAt (k * 4 + 2); have z73 := ROW7.out.frozenAt (k * 4 + 3); clear hb7; dsimp only))
                all_goals
                  obtain ⟨r1, r2⟩ := row_setRect ROW7.out HY.out z
                  obtain ⟨W8, hW8⟩ : ∃ W8, W8 = (((w7.setCell ⟨g, k * 4, none⟩ (.int .i64 z.X)).setCell ⟨g, k * 4 + 1, none⟩ (.int .i64 z.Y)).setCell ⟨g, k * 4 + 2, none⟩ (.int .i64 z.W)).setCell ⟨g, k * 4 + 3, none⟩ (.int .i64 z.H) := ⟨_, rfl⟩
                  rw [← hW8] at r1 r2
                  have B7 := hid (chain B6.out HB7.out)
                  have B8 := hid (B7.out.grown r2 B7.out.size (fun q hq => by injection hq with hq; rw [← hq]; exact (HO.out.lt g rfl).1))
                  have ROW8 := hid r1
                  obtain ⟨x4, hx4, hpw8, m1, m2, m3, m4⟩ := (H.out.below B8.out).litRect hlt
                  have ee := hx4.symm.trans HX.out
                  injection ee with ee
                  subst ee
                  have hcz := fun W => validRectS_any z W
                  clear hx4 r1 r2
                  go_wp2_with fail
                  rw [← hW8]
                  clear hW8
                  refine (HCV.out _).mono ?_
                  rintro e w9 ⟨rfl, b9⟩
                  have ROW9 := hid (row_next ROW8.out b9)
                  have B9 := hid (chain B8.out b9)
                  obtain ⟨⟨v0, v1, v2, v3⟩, _, _, _, _⟩ := row_cells ROW9.out (show n = (out.set k z).length by rw [List.length_set]; exact HN.out) (List.getElem?_set_self (by have := HN.out; omega))
                  clear b9
                  cases hzv : validR z
                  · have HNO : Aside (joinV L = none) := joinV_none (by rw [HJ.out, hzv]; rfl)
                    rw [hzv] at hcz
                    have HCZ := hid hcz
                    clear hzv hcz
                    go_wp2_with fail
                    refine (HCZ.out _).mono ?_
                    rintro e w10 ⟨rfl, b10⟩
                    have B10 := hid (chain B9.out b10)
                    clear b10
                    go_wp2
                    go_ret2
                    rw [HNO.out]
                    exact GivesB.nil rfl B10.out
                  · have HJ1 : Aside (joinTo [] L = joinTo (out.set k z) (L.drop (i + 1))) := by show _ = _; rw [HJ.out, hzv]; rfl
                    have HZV := hid hzv
                    rw [hzv] at hcz
                    have HCZ := hid hcz
                    clear hzv hcz
                    go_wp2_with fail
                    refine (HCZ.out _).mono ?_
                    rintro e w10 ⟨rfl, b10⟩
                    have F : Aside (JRel w L (i + 1) (some ⟨g, 0, none⟩) n c4 (out.set k z) w10 ∧ ∀ j r, j < i + 1 → L[j]? = some r → validR r = true) :=
                      ⟨⟨by rw [List.length_set]; exact HN.out, by have := HN.out; rw [List.length_set]; omega, valid_set HOV.out HZV.out, HJ1.out, row_next ROW9.out b10, chain B9.out b10⟩, HVA1.out⟩
                    clear b10
                    go_wp2
                    go_roundg (L.length - (i + 1))
                    case measure => omega
                    case rel => exact ⟨i + 1, n, c4, _, out.set k z, by omega, by omega, rfl, by go_num, F⟩
            · have hkk : k = n := by omega
              subst hkk
              have hkn2 : ((k : Int) == (k : Int)) = true := by simp
              have l1 : (k : Int) < (k : Int) + 1 := by omega
              have l2 : (0 : Int) ≤ (k : Int) := by omega
              have HJ1 : Aside (joinTo [] L = joinTo (out ++ [x']) (L.drop (i + 1))) := by
                show _ = _
                rw [HJT.out, HD.out, joinTo_no (atMeet_none fun j y hj hy => NM.out j y (by have := HN.out; omega) hy)]
              go_wp2_with fail
              go_quiet (fail)
              go_wp2_with (at_builtin; refine wpList_push eltRectG rfl (.tmp 39) (.tmp 44) rfl w.heap.size _ k _ (show (wr.drewN nq).ownsRow w.heap.size 27 4 (.slice A4 k c4) k (out.flatMap encRect) from HO2.out) (by omega) HB2.out.size _ _ rfl rfl rfl rfl (fun q hq => ocRect x' q hq) ?_; intro A9 c9 w9 own9 gr9 at9; have B9 := hid ((Below_drewN HB2.out nq).grown gr9 HB2.out.size (fun g hg => (HO2.out.lt g hg).1)); have ROW9 := hid (show w9.ownsRow w.heap.size 27 4 (.slice A9 (k + 1) c9) (k + 1) ((out ++ [x']).flatMap encRect) by rw [List.flatMap_append]; exact own9); obtain ⟨x3, hx3, _, m1, m2, m3, m4⟩ := (H.out.below B9.out).litRect hlt; have ee := hx3.symm.trans HX.out; injection ee with ee; subst ee; obtain ⟨g, cc4, f1, hgb, _⟩ := own9.form (Nat.succ_pos k); injection f1 with f1 _ f2; subst f1; subst f2; clear hx3 own9 gr9 at9 hgb)
              go_wp2_with fail
              refine (HCV.out _).mono ?_
              rintro e w10 ⟨rfl, b10⟩
              have B10 := hid (chain B9.out b10)
              have ROW10 := hid (row_next ROW9.out b10)
              obtain ⟨⟨v0, v1, v2, v3⟩, _, _, _, _⟩ := row_cells ROW10.out (show k + 1 = (out ++ [x3]).length by rw [List.length_append]; have := HN.out; simp; omega) (show (out ++ [x3])[k]? = some x3 by rw [List.getElem?_append_right (by have := HN.out; omega)]; have := HN.out; simp [← this])
              clear b10
              go_wp2_with fail
              refine (HCV.out _).mono ?_
              rintro e w11 ⟨rfl, b11⟩
              have F : Aside (JRel w L (i + 1) (some ⟨g, 0, none⟩) (k + 1) c9 (out ++ [x3]) w11 ∧ ∀ j r, j < i + 1 → L[j]? = some r → validR r = true) :=
                ⟨⟨by have := HN.out; simp; omega, by have := HN.out; simp; omega, valid_snoc HOV.out HXV.out, HJ1.out, row_next ROW10.out b11, chain B10.out b11⟩, HVA1.out⟩
              clear b11
              go_wp2
              go_roundg (L.length - (i + 1))
              case measure => omega
              case rel => exact ⟨i + 1, k + 1, c9, _, out ++ [x3], by omega, by omega, rfl, by go_num, F⟩
      · have hil : i = L.length := by omega
        have hJE : joinV L = some out := by
          rw [joinV_all (by omega) (fun j r hj hr => HVA.out j r (by omega) hr), HJT.out, hil, List.drop_length]
          rfl
        have HJE := hid hJE
        obtain ⟨hic1, hic2⟩ := slice_le HO.out
        clear hJE
        go_wp2
        go_ret2
        rw [HJE.out]
        show GivesB 4 encRect out true w _ _
        have hn := HN.out
        refine ⟨A4, c4, by rw [← hn]; rfl, by rw [← hn]; exact hic1, hic2, ?_, HB.out⟩
        exact OwnA.of_rowN (enc := encRect) (k := 4) (fun _ => rfl) hn rfl HO.out
end Go.Proofs.Ythejkmdodjchiaa
