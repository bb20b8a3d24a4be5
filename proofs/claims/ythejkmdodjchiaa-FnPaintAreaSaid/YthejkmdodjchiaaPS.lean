/- spec.PaintArea: the walk. -/
import Derived.Test.YthejkmdodjchiaaRS
import Derived.Test.YthejkmdodjchiaaMK
import Derived.IntWalk
namespace Go.Proofs.Ythejkmdodjchiaa
set_option linter.unusedVariables false
set_option linter.unusedSimpArgs false
open Go.RowKit Go.Lib

theorem toInt_any (b : Bool) (w : World) : Calls Try.prog 49 #[.bool b] w fun e w' => e = .returned (.int .i64 (if b then 1 else 0)) ∧ w = w' := by
  cases b
  all_goals
    go_enter Try.func49, Try.ntmps49
    go_wp2
    go_ret
    exact ⟨rfl, rfl⟩

theorem firstB_no {L : List RectD} {i k : Nat} {r : RectD} {x y : Int} (hk : k < i) (hr : L[k]? = some r) (h : inPt r x y = true) : firstB L i x y = false := by
  rw [Bool.eq_false_iff]
  intro hf
  rw [firstB_iff.1 hf k r hk hr] at h
  cases h

set_option maxHeartbeats 1000000 in
theorem first_any (A : Option Addr) (L : List RectD) (c i : Nat) (x y : Int) (w : World) (hi : i ≤ L.length) (hL : L.length ≤ 1000000) (hv : ∀ r ∈ L, validR r = true) (h : Arr w w.heap.size 4 encRect A L) :
    Calls Try.prog 50 #[.slice A L.length c, .int .i64 i, .int .i64 x, .int .i64 y] w fun e w' => e = .returned (.bool (firstB L i x y)) ∧ Below w.heap.size w w' := by
  have H := hid h
  have HV := hid hv
  clear h hv
  have h0 : firstB L 0 x y = true := firstB_iff.2 fun j r hj => absurd hj (Nat.not_lt_zero _)
  have H0 := hid h0
  clear h0
  go_enter Try.func50, Try.ntmps50
  go_wp2
  go_loopg [9] i (fun gg s9 wr => ∃ k : Nat, k ≤ i ∧ i - k ≤ gg ∧ s9 = .int .i64 k ∧ Aside (firstB L k x y = true) ∧ Aside (Below w.heap.size w wr))
  case atStart => exact ⟨0, Nat.zero_le _, by omega, rfl, H0.out, Below.refl _ _⟩
  case round =>
    obtain ⟨k, hk, hg, rfl, F, R⟩ := hrel
    by_cases hlt : k < i
    · obtain ⟨p, off, r, rfl, hp, hr, d1, d2, d3, d4⟩ := (H.out.below R.out).atRect (show k < L.length by omega)
      have hc := fun W => inRectS_any r x y W (Roomy.of (HV.out r (List.mem_of_getElem? hr)))
      have HR := hid hr
      have hN := firstB_next (x := x) (y := y) hr
      rw [F.out] at hN
      have HN := hid hN
      have i1 : (0 : Int) ≤ (k : Int) := by omega
      have i2 : (k : Int) < (L.length : Int) := by omega
      clear hr hN
      cases hq : inPt r x y
      · rw [hq] at hc
        have HC := hid hc
        have HN1 : Aside (firstB L (k + 1) x y = true) := by show _ = _; rw [HN.out, hq]; rfl
        clear hc hq
        go_wp2_with fail
        refine (HC.out _).mono ?_
        rintro e w1 ⟨rfl, b1⟩
        have B1 := hid (R.out.trans (b1.mono R.out.size))
        clear b1
        go_wp2
        go_roundg (i - (k + 1))
        case measure => omega
        case rel => exact ⟨k + 1, by omega, by omega, by go_num, HN1.out, B1.out⟩
      · rw [hq] at hc
        have HC := hid hc
        have HNO := hid (firstB_no hlt HR.out hq)
        clear hc hq
        go_wp2_with fail
        refine (HC.out _).mono ?_
        rintro e w1 ⟨rfl, b1⟩
        have B1 := hid (R.out.trans (b1.mono R.out.size))
        clear b1
        go_wp2
        go_ret
        exact ⟨by rw [HNO.out]; rfl, B1.out⟩
    · have hki : k = i := by omega
      subst hki
      go_wp2
      go_ret
      exact ⟨by rw [F.out]; rfl, R.out⟩

theorem allTo_len {L : List RectD} (h : paintOk L = true) : ∀ k, k ≤ L.length → (allTo L k).length ≤ 1600 * k := by
  obtain ⟨⟨h1, h2⟩, h3⟩ := paintOk_iff.1 h
  have hs := sides_of h2
  intro k
  induction k with
  | zero => intro _; simp [allTo]
  | succ k ih =>
    intro hk
    have hr := List.getElem?_eq_getElem (l := L) (i := k) (by omega)
    generalize L[k] = r at hr
    have hm := List.mem_of_getElem? hr
    obtain ⟨a, b⟩ := hs r hm
    obtain ⟨c, d⟩ := h3 r hm
    rw [allTo_next hr, List.length_append]
    have hl : (newPts L k r).length ≤ r.H.toNat * r.W.toNat := rowsTo_le L k r r.H.toNat
    have hb : r.H.toNat * r.W.toNat ≤ 40 * 40 := Nat.mul_le_mul (by omega) (by omega)
    have := ih (by omega)
    omega
theorem paintOk_big {L : List RectD} (h : 6 < L.length) : paintOk L = false := by
  rw [Bool.eq_false_iff]
  intro e
  have := (paintOk_iff.1 e).1.1
  omega
theorem paintOk_bad {L : List RectD} {i : Nat} {x : RectD} (hx : L[i]? = some x) (h : validR x = false ∨ 40 < x.W ∨ 40 < x.H) : paintOk L = false := by
  rw [Bool.eq_false_iff]
  intro e
  obtain ⟨⟨_, h2⟩, h3⟩ := paintOk_iff.1 e
  have hm := List.mem_of_getElem? hx
  rcases h with h | h
  · rw [h2 x hm] at h; cases h
  · have := h3 x hm; omega
theorem paintOk_all {L : List RectD} (h6 : L.length ≤ 6) (h : ∀ j r, j < L.length → L[j]? = some r → validR r = true ∧ r.W ≤ 40 ∧ r.H ≤ 40) : paintOk L = true := by
  refine paintOk_iff.2 ⟨⟨h6, fun r hr => ?_⟩, fun r hr => ?_⟩
  · obtain ⟨j, hj⟩ := List.mem_iff_getElem?.1 hr
    exact (h j r (List.getElem?_eq_some_iff.1 hj).1 hj).1
  · obtain ⟨j, hj⟩ := List.mem_iff_getElem?.1 hr
    exact (h j r (List.getElem?_eq_some_iff.1 hj).1 hj).2
theorem areaV_no {L : List RectD} (h : paintOk L = false) : areaV L = -1 := by unfold areaV; rw [h]; rfl
theorem areaV_yes {L : List RectD} (h : paintOk L = true) : areaV L = (areaM L : Int) := by unfold areaV; rw [h]; rfl

set_option maxHeartbeats 4000000 in
theorem specPaintArea_any (A : Option Addr) (L : List RectD) (c : Nat) (w : World) (hL : L.length ≤ 1048576) (h : Arr w w.heap.size 4 encRect A L) :
    Calls Try.prog 17 #[.slice A L.length c] w fun e w' => e = .returned (.int .i64 (areaV L)) ∧ Below w.heap.size w w' := by
  have H := hid h
  clear h
  by_cases hbig : 6 < L.length
  · rw [areaV_no (paintOk_big hbig)]
    go_enter Try.func17, Try.ntmps17
    go_wp2
    go_ret
    exact ⟨rfl, Below.refl _ _⟩
  · go_enter Try.func17, Try.ntmps17
    go_wp2
    go_loopg [3] L.length (fun gg s3 wr => ∃ i : Nat, i ≤ L.length ∧ L.length - i ≤ gg ∧ s3 = .int .i64 i ∧ Aside (∀ j r, j < i → L[j]? = some r → validR r = true ∧ r.W ≤ 40 ∧ r.H ≤ 40) ∧ Aside (Below w.heap.size w wr))
    case atStart => exact ⟨0, Nat.zero_le _, by omega, rfl, fun j r hj => absurd hj (Nat.not_lt_zero _), Below.refl _ _⟩
    case round =>
      obtain ⟨i, hi, hgg, rfl, VA, R⟩ := hrel
      by_cases hlt : i < L.length
      · obtain ⟨p, off, x, rfl, hp, hx, d1, d2, d3, d4⟩ := (H.out.below R.out).atRect hlt
        have HX := hid hx
        have i1 : (0 : Int) ≤ (i : Int) := by omega
        have i2 : (i : Int) < (L.length : Int) := by omega
        have hcv := fun W => validRectS_any x W
        clear hx
        cases hv : validR x
        · rw [hv] at hcv
          have HCV := hid hcv
          have HNO := hid (areaV_no (paintOk_bad HX.out (.inl hv)))
          clear hv hcv
          go_wp2_with fail
          refine (HCV.out _).mono ?_
          rintro e w1 ⟨rfl, b1⟩
          have B1 := hid (chain R.out b1)
          clear b1
          go_wp2
          go_ret
          exact ⟨by rw [HNO.out]; rfl, B1.out⟩
        · rw [hv] at hcv
          have HCV := hid hcv
          have HV := hid hv
          clear hv hcv
          by_cases hW : 40 < x.W
          · have HNO := hid (areaV_no (paintOk_bad HX.out (.inr (.inl hW))))
            go_wp2_with fail
            refine (HCV.out _).mono ?_
            rintro e w1 ⟨rfl, b1⟩
            have B1 := hid (chain R.out b1)
            obtain ⟨x', hx', _, e1, e2, e3, e4⟩ := (H.out.below B1.out).litRect hlt
            have ee := hx'.symm.trans HX.out
            injection ee with ee
            subst ee
            clear b1 hx'
            go_wp2
            go_ret
            exact ⟨by rw [HNO.out]; rfl, B1.out⟩
          · by_cases hH : 40 < x.H
            · have HNO := hid (areaV_no (paintOk_bad HX.out (.inr (.inr hH))))
              go_wp2_with fail
              refine (HCV.out _).mono ?_
              rintro e w1 ⟨rfl, b1⟩
              have B1 := hid (chain R.out b1)
              obtain ⟨x', hx', _, e1, e2, e3, e4⟩ := (H.out.below B1.out).litRect hlt
              have ee := hx'.symm.trans HX.out
              injection ee with ee
              subst ee
              clear b1 hx'
              go_wp2
              go_ret
              exact ⟨by rw [HNO.out]; rfl, B1.out⟩
            · have VA1 : Aside (∀ j r, j < i + 1 → L[j]? = some r → validR r = true ∧ r.W ≤ 40 ∧ r.H ≤ 40) := fun j r hj hr => by
                rcases Nat.lt_or_ge j i with h | h
                · exact VA.out j r h hr
                · have : j = i := by omega
                  subst this
                  have := hr.symm.trans HX.out
                  injection this with this
                  rw [this]; exact ⟨HV.out, by omega, by omega⟩
              go_wp2_with fail
              refine (HCV.out _).mono ?_
              rintro e w1 ⟨rfl, b1⟩
              have B1 := hid (chain R.out b1)
              obtain ⟨x', hx', _, e1, e2, e3, e4⟩ := (H.out.below B1.out).litRect hlt
              have ee := hx'.symm.trans HX.out
              injection ee with ee
              subst ee
              clear b1 hx'
              go_wp2
              go_roundg (L.length - (i + 1))
              case measure => omega
              case rel => exact ⟨i + 1, by omega, by omega, by go_num, VA1.out, B1.out⟩
      · have hok : paintOk L = true := paintOk_all (by omega) (fun j r hj hr => VA.out j r (by omega) hr)
        obtain ⟨⟨hl6, hval⟩, hsm⟩ := paintOk_iff.1 hok
        have HYES := hid (areaV_yes hok)
        have HLEN := hid (fun k hk => allTo_len hok k hk)
        have HVAL := hid hval
        have HSM := hid hsm
        have HB := hid R.out
        have H1 := hid (H.out.next R.out)
        clear VA hok hval hsm R hgg hi
        obtain ⟨wa, hwa⟩ : ∃ wa : World, wa = wr := ⟨_, rfl⟩
        subst hwa
        go_wp2
        go_loopg [4, 5] L.length (fun gg s4 s5 wq => ∃ (q n : Nat), q ≤ L.length ∧ L.length - q ≤ gg ∧ s5 = .int .i64 q ∧ s4 = .int .i64 n ∧ Aside (n = (allTo L q).length) ∧ Aside (Below wa.heap.size wa wq))
        case atStart => exact ⟨0, 0, Nat.zero_le _, by omega, rfl, rfl, rfl, Below.refl _ _⟩
        case round =>
          obtain ⟨q, n, hq, hg2, rfl, rfl, N, R2⟩ := hrel
          have hnb := HLEN.out q hq
          rw [← N.out] at hnb
          by_cases hlt2 : q < L.length
          · obtain ⟨p, off, x, rfl, hp, hx, d1, d2, d3, d4⟩ := (H1.out.below R2.out).atRect hlt2
            obtain ⟨⟨a1, a2⟩, ⟨a3, a4⟩, ⟨a5, _⟩, a7, _⟩ := validR_iff.1 (HVAL.out x (List.mem_of_getElem? hx))
            obtain ⟨a6, a8⟩ := HSM.out x (List.mem_of_getElem? hx)
            have HX := hid hx
            have HAN := hid (allTo_next hx)
            have i1 : (0 : Int) ≤ (q : Int) := by omega
            have i2 : (q : Int) < (L.length : Int) := by omega
            have s1 : IntKind.i64.wrap (x.Y + x.H) = x.Y + x.H := IntWalk.i64_in _ (by omega)
            have S1 := hid s1
            have s2 : IntKind.i64.wrap (x.X + x.W) = x.X + x.W := IntWalk.i64_in _ (by omega)
            have S2 := hid s2
            clear hx s1 s2
            go_wp2
            go_loopg [4, 6] x.H.toNat (fun gg s4 s6 wp => ∃ (ky m : Nat), ky ≤ x.H.toNat ∧ x.H.toNat - ky ≤ gg ∧ s6 = .int .i64 (x.Y + (ky : Int)) ∧ s4 = .int .i64 m ∧ Aside (m = n + (rowsTo L q x ky).length) ∧ Aside (Below wa.heap.size wa wp))
            case atStart => exact ⟨0, n, Nat.zero_le _, by omega, by go_num, rfl, (show _ = _ by simp [rowsTo]), R2.out⟩
            case round =>
              obtain ⟨ky, m, hky, hg3, rfl, rfl, M, R3⟩ := hrel
              obtain ⟨x1, hx1, hp1, e1, e2, e3, e4⟩ := (H1.out.below R3.out).litRect hlt2
              have ee := hx1.symm.trans HX.out
              injection ee with ee
              subst ee
              have hrb := rowsTo_le L q x1 ky
              have hrb2 : ky * x1.W.toNat ≤ 40 * 40 := Nat.mul_le_mul (by omega) (by omega)
              have hmb : m ≤ n + 1600 := by rw [M.out]; omega
              clear hx1 hrb hrb2
              by_cases hlt3 : x1.Y + (ky : Int) < x1.Y + x1.H
              · have s1 := S1.out
                go_wp2_with fail
                go_quiet (fail)
                clear s1
                have R3' := hid (Below_drewN R3.out nq)
                go_wp2
                go_loopg [4, 7] x1.W.toNat (fun gg s4 s7 wo => ∃ (kx t : Nat), kx ≤ x1.W.toNat ∧ x1.W.toNat - kx ≤ gg ∧ s7 = .int .i64 (x1.X + (kx : Int)) ∧ s4 = .int .i64 t ∧ Aside (t = m + (rowTo L q x1 ky kx).length) ∧ Aside (Below wa.heap.size wa wo))
                case atStart => exact ⟨0, m, Nat.zero_le _, by omega, by go_num, rfl, (show _ = _ by simp [rowTo]), R3'.out⟩
                case round =>
                  obtain ⟨kx, t, hkx, hg4, rfl, rfl, T, R4⟩ := hrel
                  obtain ⟨x2, hx2, hp2, f1, f2, f3, f4⟩ := (H1.out.below R4.out).litRect hlt2
                  have ee := hx2.symm.trans HX.out
                  injection ee with ee
                  subst ee
                  have hrb := rowTo_le L q x2 ky kx
                  have htb : t ≤ m + 40 := by rw [T.out]; omega
                  clear hx2 hrb
                  by_cases hlt4 : x2.X + (kx : Int) < x2.X + x2.W
                  · have hfc := fun n' => first_any (some ⟨p, off, none⟩) L c q (x2.X + (kx : Int)) (x2.Y + (ky : Int)) (wr.drewN n') (by omega) (by omega) HVAL.out (show Arr wr wr.heap.size 4 encRect (some ⟨p, off, none⟩) L from (H1.out.below R4.out).more R4.out.size)
                    have HFC := hid hfc
                    have hrl := rowTo_len L q x2 ky kx
                    have HRL := hid hrl
                    have s2 := S2.out
                    clear hfc hrl
                    go_wp2_with fail
                    go_quiet (fail)
                    clear s2
                    go_wp2_with fail
                    refine (HFC.out _).mono ?_
                    rintro e w5 ⟨rfl, b5⟩
                    have B5 := hid ((Below_drewN R4.out nq).trans (b5.mono R4.out.size))
                    clear b5
                    cases hfb : firstB L q (x2.X + (kx : Int)) (x2.Y + (ky : Int))
                    · have T1 : Aside (t = m + (rowTo L q x2 ky (kx + 1)).length) := by show _ = _; rw [HRL.out, hfb, T.out]; simp
                      clear hfb
                      go_wp2_with fail
                      refine (toInt_any _ _).mono ?_
                      rintro e w6 ⟨rfl, rfl⟩
                      go_wp2
                      go_roundg (x2.W.toNat - (kx + 1))
                      case measure => omega
                      case rel => exact ⟨kx + 1, t, by omega, by omega, by go_num, by go_num, T1.out, B5.out⟩
                    · have T1 : Aside (t + 1 = m + (rowTo L q x2 ky (kx + 1)).length) := by show _ = _; rw [HRL.out, hfb, T.out]; simp; omega
                      clear hfb
                      go_wp2_with fail
                      refine (toInt_any _ _).mono ?_
                      rintro e w6 ⟨rfl, rfl⟩
                      go_wp2
                      go_roundg (x2.W.toNat - (kx + 1))
                      case measure => omega
                      case rel => exact ⟨kx + 1, t + 1, by omega, by omega, by go_num, by go_num, T1.out, B5.out⟩
                  · have hke : kx = x2.W.toNat := by omega
                    have M1 : Aside (t = n + (rowsTo L q x2 (ky + 1)).length) := by show _ = _; rw [rowsTo_next, List.length_append, T.out, M.out, hke]; omega
                    have s2 := S2.out
                    go_wp2_with fail
                    go_quiet (fail)
                    clear s2
                    have R4' := hid (Below_drewN R4.out nq)
                    go_wp2
                    go_roundg (x2.H.toNat - (ky + 1))
                    case measure => omega
                    case rel => exact ⟨ky + 1, t, by omega, by omega, by go_num, rfl, M1.out, R4'.out⟩
              · have hke : ky = x1.H.toNat := by omega
                have N1 : Aside (m = (allTo L (q + 1)).length) := by show _ = _; rw [HAN.out, List.length_append, M.out, N.out, hke]; rfl
                have s1 := S1.out
                go_wp2_with fail
                go_quiet (fail)
                clear s1
                have R3' := hid (Below_drewN R3.out nq)
                go_wp2
                go_roundg (L.length - (q + 1))
                case measure => omega
                case rel => exact ⟨q + 1, m, by omega, by omega, by go_num, rfl, N1.out, R3'.out⟩
          · have hql : q = L.length := by omega
            have HE : Aside (areaV L = (n : Int)) := by show _ = _; rw [HYES.out, N.out, hql]; rfl
            go_wp2
            go_ret
            exact ⟨by rw [HE.out]; rfl, chain HB.out R2.out⟩
end Go.Proofs.Ythejkmdodjchiaa
