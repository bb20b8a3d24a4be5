/- spec.validRects, spec.ChangedRects. -/
import Derived.Test.YthejkmdodjchiaaN3
namespace Go.Proofs.Ythejkmdodjchiaa
open Go.RowKit Go.Lib

theorem chgOk_no {a b : List RectD} (h : (∃ r ∈ a, validR r = false) ∨ ∃ r ∈ b, validR r = false) : chgOk a b = false := by
  rw [Bool.eq_false_iff]
  intro hk
  obtain ⟨⟨_, h1⟩, ⟨_, h2⟩, _⟩ := chgOk_iff.1 hk
  rcases h with ⟨r, hr, h⟩ | ⟨r, hr, h⟩
  · rw [h1 r hr] at h; cases h
  · rw [h2 r hr] at h; cases h
theorem chgOk_end {a b : List RectD} (ha : ∀ j r, j < a.length → a[j]? = some r → validR r = true) (hb : ∀ j r, j < a.length → b[j]? = some r → validR r = true) : chgOk a b = (decide (a.length = b.length) && decide (a.length ≤ 16)) := by
  rw [Bool.eq_iff_iff, chgOk_iff, Bool.and_eq_true, decide_eq_true_eq, decide_eq_true_eq]
  constructor
  · rintro ⟨⟨h1, _⟩, _, h3⟩
    exact ⟨h3, h1⟩
  · rintro ⟨h1, h2⟩
    refine ⟨⟨h2, fun r hr => ?_⟩, ⟨by omega, fun r hr => ?_⟩, h1⟩
    · obtain ⟨j, hj⟩ := List.mem_iff_getElem?.1 hr
      exact ha j r (List.getElem?_eq_some_iff.1 hj).1 hj
    · obtain ⟨j, hj⟩ := List.mem_iff_getElem?.1 hr
      exact hb j r (by rw [h1]; exact (List.getElem?_eq_some_iff.1 hj).1) hj

set_option maxHeartbeats 4000000 in
theorem validRects_any (A A' : Option Addr) (a b : List RectD) (c c' : Nat) (w : World) (ha : a.length ≤ 1048576) (hb : b.length ≤ 1048576) (h : Arr w w.heap.size 4 encRect A a) (h' : Arr w w.heap.size 4 encRect A' b) :
    Calls Try.prog 56 #[.slice A a.length c, .slice A' b.length c'] w fun e w' => e = .returned (.bool (chgOk a b)) ∧ Below w.heap.size w w' := by
  have H := hid h
  have H' := hid h'
  have HEND := hid (chgOk_end (a := a) (b := b))
  have HNO := hid (chgOk_no (a := a) (b := b))
  clear h h'
  generalize chgOk a b = res at *
  go_enter Try.func56, Try.ntmps56
  go_wp2
  go_loopg [5] a.length (fun gg s5 wr => ∃ i : Nat, i ≤ a.length ∧ a.length - i ≤ gg ∧ s5 = .int .i64 i ∧ Aside (Below w.heap.size w wr) ∧ Aside (∀ j r, j < i → a[j]? = some r → validR r = true) ∧ Aside (∀ j r, j < i → b[j]? = some r → validR r = true))
  case atStart => exact ⟨0, Nat.zero_le _, by omega, rfl, Below.refl _ _, fun j r hj => absurd hj (Nat.not_lt_zero _), fun j r hj => absurd hj (Nat.not_lt_zero _)⟩
  case round =>
    obtain ⟨i, hi, hgg, rfl, B, VA, VB⟩ := hrel
    by_cases hlt : i < a.length
    · obtain ⟨p, off, x, rfl, hp, hx, c1, c2, c3, c4⟩ := (H.out.below B.out).atRect hlt
      have hcx := fun W => validRectS_any x W
      have HX := hid hx
      clear hx
      cases hv : validR x
      · rw [hv] at hcx
        have hres := HNO.out (.inl ⟨x, List.mem_of_getElem? HX.out, hv⟩)
        have HCX := hid hcx
        clear hcx hv HEND HNO
        subst hres
        go_wp2_with fail
        refine (HCX.out _).mono ?_
        rintro e w1 ⟨rfl, b1⟩
        have B1 := hid (B.out.trans (b1.mono B.out.size))
        clear b1
        go_wp2
        go_ret
        exact ⟨rfl, B1.out⟩
      · rw [hv] at hcx
        have HCX := hid hcx
        have HV := hid hv
        clear hcx hv
        by_cases hlb : i < b.length
        · obtain ⟨p', off', y, rfl, hp', hy, -⟩ := (H'.out.below B.out).atRect hlb
          have hcy := fun W => validRectS_any y W
          have HY := hid hy
          clear hy
          cases hv : validR y
          · rw [hv] at hcy
            have hres := HNO.out (.inr ⟨y, List.mem_of_getElem? HY.out, hv⟩)
            have HCY := hid hcy
            clear hcy hv HEND HNO
            subst hres
            go_wp2_with fail
            refine (HCX.out _).mono ?_
            rintro e w1 ⟨rfl, b1⟩
            have B1 := hid (B.out.trans (b1.mono B.out.size))
            obtain ⟨y', hy', -, d1, d2, d3, d4⟩ := (H'.out.below B1.out).litRect hlb
            have e1 := HY.out.symm.trans hy'
            injection e1 with e1
            subst e1
            clear b1 hy'
            go_wp2_with fail
            refine (HCY.out _).mono ?_
            rintro e w2 ⟨rfl, b2⟩
            have B2 := hid (B1.out.trans (b2.mono B1.out.size))
            clear b2
            go_wp2
            go_ret
            exact ⟨rfl, B2.out⟩
          · rw [hv] at hcy
            have HCY := hid hcy
            have HVY := hid hv
            clear hcy hv
            go_wp2_with fail
            refine (HCX.out _).mono ?_
            rintro e w1 ⟨rfl, b1⟩
            have B1 := hid (B.out.trans (b1.mono B.out.size))
            obtain ⟨y', hy', -, d1, d2, d3, d4⟩ := (H'.out.below B1.out).litRect hlb
            have e1 := HY.out.symm.trans hy'
            injection e1 with e1
            subst e1
            clear b1 hy'
            go_wp2_with fail
            refine (HCY.out _).mono ?_
            rintro e w2 ⟨rfl, b2⟩
            have B2 := hid (B1.out.trans (b2.mono B1.out.size))
            clear b2
            go_wp2
            go_roundg (a.length - (i + 1))
            case measure => omega
            case rel =>
              refine ⟨i + 1, by omega, by omega, by go_num, B2.out, (show Aside _ from fun j q hj hq => ?_), (show Aside _ from fun j q hj hq => ?_)⟩
              · by_cases e : j = i
                · subst e
                  have := HX.out.symm.trans hq
                  injection this with this
                  rw [← this]; exact HV.out
                · exact VA.out j q (by omega) hq
              · by_cases e : j = i
                · subst e
                  have := HY.out.symm.trans hq
                  injection this with this
                  rw [← this]; exact HVY.out
                · exact VB.out j q (by omega) hq
        · go_wp2_with fail
          refine (HCX.out _).mono ?_
          rintro e w1 ⟨rfl, b1⟩
          have B1 := hid (B.out.trans (b1.mono B.out.size))
          clear b1
          go_wp2
          go_roundg (a.length - (i + 1))
          case measure => omega
          case rel =>
            refine ⟨i + 1, by omega, by omega, by go_num, B1.out, (show Aside _ from fun j q hj hq => ?_), (show Aside _ from fun j q hj hq => ?_)⟩
            · by_cases e : j = i
              · subst e
                have := HX.out.symm.trans hq
                injection this with this
                rw [← this]; exact HV.out
              · exact VA.out j q (by omega) hq
            · by_cases e : j = i
              · subst e
                have := (List.getElem?_eq_some_iff.1 hq).1
                omega
              · exact VB.out j q (by omega) hq
    · have hia : i = a.length := by omega
      subst hia
      have hres := HEND.out VA.out VB.out
      by_cases hlen : a.length = b.length
      · have hl1 : ((a.length : Int) == (b.length : Int)) = true := by rw [beq_iff_eq]; omega
        have hl2 : (a.length == b.length) = true := by rw [beq_iff_eq]; exact hlen
        rw [decide_eq_true hlen, Bool.true_and] at hres
        have HL := hid hlen
        have HRES := hid hres
        clear hlen hres HEND HNO
        have e16 : decide ((a.length : Int) ≤ 16) = decide (a.length ≤ 16) := by rw [Bool.eq_iff_iff, decide_eq_true_eq, decide_eq_true_eq]; omega
        have HE := hid e16
        clear e16
        go_wp2
        go_ret
        exact ⟨by rw [HRES.out, ← HE.out]; rfl, B.out⟩
      · have hl1 : ((a.length : Int) == (b.length : Int)) = false := by rw [beq_eq_false_iff_ne]; omega
        have hl2 : (a.length == b.length) = false := by rw [beq_eq_false_iff_ne]; exact hlen
        rw [decide_eq_false hlen, Bool.false_and] at hres
        subst hres
        clear HEND HNO
        go_wp2
        go_ret
        exact ⟨rfl, B.out⟩
end Go.Proofs.Ythejkmdodjchiaa
