/- spec.WrapHeight, the draws. -/
import Derived.Test.YtjkcejijdpmhoaaH3
namespace Go.Proofs.Ytjkcejijdpmhoaa
open Go.RowKit Go.Lib

set_option maxHeartbeats 1000000 in
theorem specWrapHeight_any (A : Option Addr) (L : List (Int × Int)) (c : Nat) (width gap : Int) (w : World) (hL : L.length ≤ 1048576) (h : Arr w w.heap.size 2 encP A L) :
    Calls Try.prog 33 #[.slice A L.length c, .int .i64 width, .int .i64 gap] w fun e w' => e = .returned (.int .i64 (highOf L width gap)) ∧ Below w.heap.size w w' := by
  have hk := validWrap_any A L c width gap w (by omega) h
  have H := hid h
  clear h
  cases hq : okL L width gap with
  | false =>
    have e : highOf L width gap = -1 := by simp [highOf, hq]
    rw [e]
    rw [hq] at hk
    clear hq e
    go_enter Try.func33, Try.ntmps33
    go_wp2_with fail
    refine hk.mono ?_
    rintro e w' ⟨rfl, rfl⟩
    clear hk
    go_wp2
    go_ret
    exact ⟨rfl, Below.refl _ _⟩
  | true =>
    have e : highOf L width gap = (talls width gap L).sum + gap * max 0 ((talls width gap L).length - 1 : Int) := by simp [highOf, hq]
    rw [e]
    obtain ⟨hv, hw, hg⟩ := okL_bd hq
    rw [hq] at hk
    have e2 : heightsOf L width gap = talls width gap L := by simp [heightsOf, hq]
    have hsl := fun w1 h1 => specLineHeights_any A L c width gap w1 hL h1
    rw [e2] at hsl
    clear hq e e2
    obtain ⟨n12, s0, s1⟩ := high_facts (width := width) (gap := gap) hv
    obtain ⟨g0, g1⟩ := hg
    have TB := hid (talls_bd (width := width) (gap := gap) (validL_iff.1 hv).2)
    clear hv hw
    generalize talls width gap L = T at *
    go_enter Try.func33, Try.ntmps33
    go_wp2_with fail
    refine hk.mono ?_
    rintro e w1 ⟨rfl, rfl⟩
    have hh := hsl _ H.out
    clear hk hsl
    go_wp2_with fail
    refine hh.mono ?_
    rintro e w3 ⟨A3, c3, rfl, h31, h32, o3, hb3⟩
    have HB3 := hid hb3
    have ht := specSum_any A3 T c3 w3 (by omega) TB.out o3.arr
    clear hh o3 hb3 h31 h32
    go_wp2_with fail
    refine ht.mono ?_
    rintro e w4 ⟨rfl, rfl⟩
    clear ht
    have hm : 0 ≤ gap * ((T.length : Int) - 1) + 50 ∧ gap * ((T.length : Int) - 1) ≤ 600 := by
      have h1 : (T.length : Int) ≤ 12 := by omega
      have h2 : gap * (T.length : Int) ≤ 50 * 12 := Int.mul_le_mul g1 h1 (by omega) (by omega)
      have h3 : 0 ≤ gap * (T.length : Int) := Int.mul_nonneg g0 (by omega)
      rw [Int.mul_sub, Int.mul_one]
      omega
    go_wp2
    all_goals
      go_ret
      refine ⟨?_, HB3.out⟩
    · have e1 : max 0 ((T.length : Int) - 1) = (T.length : Int) - 1 := by omega
      rw [e1]
      obtain ⟨hm1, hm2⟩ := hm
      generalize gap * ((T.length : Int) - 1) = G at hm1 hm2 ⊢
      have e2 : wrap64 (T.sum + wrap64 G) = T.sum + G := by
        have e4 : wrap64 G = G := wrap64_eq (by omega)
        rw [e4, wrap64_eq (by omega)]
      exact congrArg (fun x => Ending.returned (.int .i64 x)) e2
    · have e1 : max 0 ((T.length : Int) - 1) = 0 := by omega
      rw [e1, Int.mul_zero]
      have e2 : wrap64 (T.sum + wrap64 0) = T.sum + 0 := by
        have e3 : wrap64 0 = 0 := wrap64_eq (by omega)
        rw [e3, wrap64_eq (by omega)]
      exact congrArg (fun x => Ending.returned (.int .i64 x)) e2

theorem drawWrapHeight_any (A : Option Addr) (cap : Nat) (bs : List Int) (w : World) (h : Code w A cap bs) :
    Calls Try.prog 35 #[.slice A bs.length cap] w (DrawnLWG w) := by
  have hc := drawLineCounts_any A cap bs w h
  clear h
  go_enter Try.func35, Try.ntmps35
  go_wp2_with fail
  refine hc.mono ?_
  rintro e w1 ⟨A', c, L, x, y, rfl, h1, h2, h3, ho, hb⟩
  have HO := hid ho
  have HB := hid hb
  clear ho hb hc
  go_wp2
  go_ret3
  exact ⟨A', c, L, x, y, rfl, h1, h2, h3, HO.out, HB.out⟩

theorem drawLineHeights_any (A : Option Addr) (cap : Nat) (bs : List Int) (w : World) (h : Code w A cap bs) :
    Calls Try.prog 38 #[.slice A bs.length cap] w (DrawnLWG w) := by
  have hc := drawLineCounts_any A cap bs w h
  clear h
  go_enter Try.func38, Try.ntmps38
  go_wp2_with fail
  refine hc.mono ?_
  rintro e w1 ⟨A', c, L, x, y, rfl, h1, h2, h3, ho, hb⟩
  have HO := hid ho
  have HB := hid hb
  clear ho hb hc
  go_wp2
  go_ret3
  exact ⟨A', c, L, x, y, rfl, h1, h2, h3, HO.out, HB.out⟩

theorem drawWrapParts_any (A : Option Addr) (cap : Nat) (bs : List Int) (w : World) (h : Code w A cap bs) :
    Calls Try.prog 40 #[.slice A bs.length cap] w (DrawnLWG w) := by
  have hc := drawLineCounts_any A cap bs w h
  clear h
  go_enter Try.func40, Try.ntmps40
  go_wp2_with fail
  refine hc.mono ?_
  rintro e w1 ⟨A', c, L, x, y, rfl, h1, h2, h3, ho, hb⟩
  have HO := hid ho
  have HB := hid hb
  clear ho hb hc
  go_wp2
  go_ret3
  exact ⟨A', c, L, x, y, rfl, h1, h2, h3, HO.out, HB.out⟩
end Go.Proofs.Ytjkcejijdpmhoaa
