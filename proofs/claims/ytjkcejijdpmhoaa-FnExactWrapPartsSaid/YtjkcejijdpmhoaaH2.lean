/- impl.LineHeights, impl.WrapHeight, sums. -/
import Derived.Test.YtjkcejijdpmhoaaH
import Derived.Test.YtjkcejijdpmhoaaG
namespace Go.Proofs.Ytjkcejijdpmhoaa
open Go.RowKit Go.Lib

theorem total_any (A : Option Addr) (C : List Int) (c : Nat) (w : World) (hL : C.length ≤ 1048576) (hC : ∀ x ∈ C, 0 ≤ x ∧ x ≤ 1000000) (h : Arr w w.heap.size 1 encI A C) :
    Calls Try.prog 64 #[.slice A C.length c] w fun e w' => e = .returned (.int .i64 C.sum) ∧ w = w' := by
  have H := hid h
  have HC := hid hC
  clear h hC
  go_enter Try.func64, Try.ntmps64
  go_wp2
  go_loop [3, 8] (fun s3 s4 => ∃ (i : Nat) (s : Int), i ≤ C.length ∧ s4 = .int .i64 i ∧ s3 = .int .i64 s ∧ Aside (s = (C.take i).sum)) (fun _ s4 => C.length - (intOf s4).toNat)
  case atStart => exact ⟨0, 0, Nat.zero_le _, rfl, rfl, rfl⟩
  case round =>
    obtain ⟨i, s, hi, rfl, rfl, S⟩ := hrel
    obtain ⟨hs0, hs1⟩ := sum_bd HC.out i
    rw [← S.out] at hs0 hs1
    by_cases hlt : i < C.length
    · obtain ⟨b, off, x, rfl, hb, hx, c1⟩ := H.out.at1 hlt
      obtain ⟨hx0, hx1⟩ := HC.out x (List.mem_of_getElem? hx)
      have HX := hid hx
      clear hx
      go_wp2
      go_round
      case measure => simp [intOf]; omega
      case rel => exact ⟨i + 1, s + x, by omega, by go_num, by go_num, (show s + x = _ by rw [sum_take HX.out, S.out])⟩
    · have : i = C.length := by omega
      subst this
      go_wp2
      go_ret
      refine ⟨?_, rfl⟩
      have := S.out
      rw [List.take_length] at this
      rw [← this]
      rfl

theorem specSum_any (A : Option Addr) (C : List Int) (c : Nat) (w : World) (hL : C.length ≤ 1048576) (hC : ∀ x ∈ C, 0 ≤ x ∧ x ≤ 1000000) (h : Arr w w.heap.size 1 encI A C) :
    Calls Try.prog 62 #[.slice A C.length c] w fun e w' => e = .returned (.int .i64 C.sum) ∧ w = w' := by
  have H := hid h
  have HC := hid hC
  clear h hC
  go_enter Try.func62, Try.ntmps62
  go_wp2
  go_loop [3, 4] (fun s3 s4 => ∃ (i : Nat) (s : Int), i ≤ C.length ∧ s4 = .int .i64 i ∧ s3 = .int .i64 s ∧ Aside (s = (C.take i).sum)) (fun _ s4 => C.length - (intOf s4).toNat)
  case atStart => exact ⟨0, 0, Nat.zero_le _, rfl, rfl, rfl⟩
  case round =>
    obtain ⟨i, s, hi, rfl, rfl, S⟩ := hrel
    obtain ⟨hs0, hs1⟩ := sum_bd HC.out i
    rw [← S.out] at hs0 hs1
    by_cases hlt : i < C.length
    · obtain ⟨b, off, x, rfl, hb, hx, c1⟩ := H.out.at1 hlt
      obtain ⟨hx0, hx1⟩ := HC.out x (List.mem_of_getElem? hx)
      have HX := hid hx
      clear hx
      go_wp2
      go_round
      case measure => simp [intOf]; omega
      case rel => exact ⟨i + 1, s + x, by omega, by go_num, by go_num, (show s + x = _ by rw [sum_take HX.out, S.out])⟩
    · have : i = C.length := by omega
      subst this
      go_wp2
      go_ret
      refine ⟨?_, rfl⟩
      have := S.out
      rw [List.take_length] at this
      rw [← this]
      rfl

set_option maxHeartbeats 1000000 in
theorem lineHeights_any (A : Option Addr) (L : List (Int × Int)) (c : Nat) (width gap : Int) (w : World) (hL : L.length ≤ 1048576) (hc1 : L.length ≤ c) (hc2 : c ≤ maxLen) (h : Arr w w.heap.size 2 encP A L) :
    Calls Try.prog 37 #[.slice A L.length c, .int .i64 width, .int .i64 gap] w (Gives 1 encI (heightsOf L width gap) w) := by
  have hk := linesOk_any A L c width gap w (by omega) h
  have H := hid h
  clear h
  cases hq : okL L width gap with
  | false =>
    have e : heightsOf L width gap = [] := by simp [heightsOf, hq]
    rw [e]
    rw [hq] at hk
    clear hq e
    go_enter Try.func37, Try.ntmps37
    go_wp2_with fail
    refine hk.mono ?_
    rintro e w' ⟨rfl, hb⟩
    have HB := hid hb
    clear hb hk
    go_wp2
    go_ret
    exact ⟨none, 0, rfl, by simp, by simp [maxLen], fun h => absurd h (by simp), HB.out⟩
  | true =>
    have e : heightsOf L width gap = talls width gap L := by simp [heightsOf, hq]
    rw [e]
    obtain ⟨hv, hw, hg⟩ := okL_bd hq
    rw [hq] at hk
    clear hq e
    have HV := hid hv
    have HW := hid hw
    have HG := hid hg
    clear hv hw hg
    go_enter Try.func37, Try.ntmps37
    go_wp2_with fail
    refine hk.mono ?_
    rintro e w1 ⟨rfl, hb1⟩
    have HB1 := hid hb1
    have hwr := wrapped_any A L c width gap w1 HV.out HW.out HG.out hc1 hc2 (H.out.next hb1)
    clear hb1 hk
    go_wp2_with fail
    refine hwr.mono ?_
    rintro e w2 ⟨A2, c2, vs, rfl, hvl, o2, l2, hb2⟩
    have hls := lines_len width gap L.length L (Nat.le_refl _)
    have hl12 : L.length ≤ 12 := (validL_iff.1 HV.out).1
    have hh := heights_any A2 vs (lines width gap L) c2 w2 (by omega) (fun l hl => by have := lines_mem width gap L.length L (Nat.le_refl _) l hl; omega) o2.arr (l2.next2 hb2 (Nat.le_refl _))
    have HB2 := hid (chain HB1.out hb2)
    clear hwr o2 l2 hb2
    go_wp2_with fail
    refine hh.mono ?_
    rintro e w3 ⟨A3, c3, rfl, h31, h32, o3, hb3⟩
    have HB3 := hid (chain HB2.out hb3)
    have O3 := hid (o3.less HB2.out.size)
    have H31 := hid h31
    have H32 := hid h32
    clear hh o3 hb3 h31 h32
    go_wp2
    go_ret
    have hlt : (talls width gap L).length = (lines width gap L).length := by simp [talls]
    exact ⟨A3, c3, by rw [hlt]; rfl, H31.out, H32.out, O3.out, HB3.out⟩

theorem wrap64_eq {n : Int} (h : -9223372036854775808 ≤ n ∧ n ≤ 9223372036854775807) : wrap64 n = n := by unfold wrap64; omega
theorem high_facts {width gap : Int} {L : List (Int × Int)} (hv : validL L = true) :
    (talls width gap L).length ≤ 12 ∧ 0 ≤ (talls width gap L).sum ∧ (talls width gap L).sum ≤ 12000000 := by
  have h := validL_iff.1 hv
  have h1 := talls_len (width := width) (gap := gap) (L := L)
  have h2 := sum_bd (talls_bd (width := width) (gap := gap) h.2) (talls width gap L).length
  rw [List.take_length] at h2
  have := h.1
  omega

set_option maxHeartbeats 1000000 in
theorem wrapHeight_any (A : Option Addr) (L : List (Int × Int)) (c : Nat) (width gap : Int) (w : World) (hL : L.length ≤ 1048576) (hc1 : L.length ≤ c) (hc2 : c ≤ maxLen) (h : Arr w w.heap.size 2 encP A L) :
    Calls Try.prog 34 #[.slice A L.length c, .int .i64 width, .int .i64 gap] w fun e w' => e = .returned (.int .i64 (highOf L width gap)) ∧ Below w.heap.size w w' := by
  have hk := linesOk_any A L c width gap w (by omega) h
  have H := hid h
  clear h
  cases hq : okL L width gap with
  | false =>
    have e : highOf L width gap = -1 := by simp [highOf, hq]
    rw [e]
    rw [hq] at hk
    clear hq e
    go_enter Try.func34, Try.ntmps34
    go_wp2_with fail
    refine hk.mono ?_
    rintro e w' ⟨rfl, hb⟩
    have HB := hid hb
    clear hb hk
    go_wp2
    go_ret
    exact ⟨rfl, HB.out⟩
  | true =>
    have e : highOf L width gap = (talls width gap L).sum + gap * max 0 ((talls width gap L).length - 1 : Int) := by simp [highOf, hq]
    rw [e]
    obtain ⟨hv, hw, hg⟩ := okL_bd hq
    rw [hq] at hk
    clear hq e
    have HV := hid hv
    have HW := hid hw
    have HG := hid hg
    have hls := lines_len width gap L.length L (Nat.le_refl _)
    have hl12 : L.length ≤ 12 := (validL_iff.1 HV.out).1
    obtain ⟨n12, s0, s1⟩ := high_facts (width := width) (gap := gap) hv
    obtain ⟨g0, g1⟩ := hg
    have TB := hid (talls_bd (width := width) (gap := gap) (validL_iff.1 hv).2)
    clear hv hw
    have hlt : (lines width gap L).length = (talls width gap L).length := by simp [talls]
    have hT : ∃ T, T = talls width gap L := ⟨_, rfl⟩
    obtain ⟨T, hT⟩ := hT
    rw [← hT] at n12 s0 s1 TB hlt ⊢
    have hhA : ∀ A2 vs c2 w2, Arr w2 w2.heap.size 1 encV A2 vs → LinesAt w2 w2.heap.size vs (lines width gap L) → Calls Try.prog 63 #[.slice A2 T.length c2] w2 (Gives 1 encI T w2) := fun A2 vs c2 w2 h1 h2 => by
      have := heights_any A2 vs (lines width gap L) c2 w2 (by omega) (fun l hl => by have := lines_mem width gap L.length L (Nat.le_refl _) l hl; omega) h1 h2
      rw [hlt] at this
      rw [hT] at this ⊢
      exact this
    have hwr : ∀ w1, Below w.heap.size w w1 → Calls Try.prog 58 #[.slice A L.length c, .int .i64 width, .int .i64 gap] w1 fun e w' => ∃ A c vs, e = .returned (.slice A T.length c) ∧ OwnA w' w1.heap.size 1 encV A vs ∧ LinesAt w' w1.heap.size vs (lines width gap L) ∧ Below w1.heap.size w1 w' := fun w1 hb1 => by
      refine (wrapped_any A L c width gap w1 HV.out HW.out HG.out hc1 hc2 (H.out.next hb1)).mono ?_
      rintro e w2 ⟨A2, c2, vs, rfl, hvl, o2, l2, hb2⟩
      exact ⟨A2, c2, vs, by rw [hlt], o2, l2, hb2⟩
    clear hlt hls hT
    have HH := hid hhA
    have HWR := hid hwr
    clear hhA hwr
    go_enter Try.func34, Try.ntmps34
    go_wp2_with fail
    refine hk.mono ?_
    rintro e w1 ⟨rfl, hb1⟩
    have HB1 := hid hb1
    have hwr := HWR.out w1 hb1
    clear hb1 hk
    go_wp2_with fail
    refine hwr.mono ?_
    rintro e w2 ⟨A2, c2, vs, rfl, o2, l2, hb2⟩
    have hh := HH.out A2 vs c2 w2 o2.arr (l2.next2 hb2 (Nat.le_refl _))
    have HB2 := hid (chain HB1.out hb2)
    clear hwr o2 l2 hb2
    go_wp2_with fail
    refine hh.mono ?_
    rintro e w3 ⟨A3, c3, rfl, h31, h32, o3, hb3⟩
    have HB3 := hid (chain HB2.out hb3)
    have ht := total_any A3 T c3 w3 (by omega) TB.out o3.arr
    clear hh o3 hb3 h31 h32
    go_wp2_with fail
    refine ht.mono ?_
    rintro e w4 ⟨rfl, rfl⟩
    clear ht
    have e0 : T.length = 0 → gap * (0 : Int) = 0 := fun _ => by simp
    have hm : 0 ≤ gap * ((T.length : Int) - 1) + 50 ∧ gap * ((T.length : Int) - 1) ≤ 600 := by
      have h1 : (T.length : Int) ≤ 12 := by omega
      have h2 : gap * (T.length : Int) ≤ 50 * 12 := Int.mul_le_mul g1 h1 (by omega) (by omega)
      have h3 : 0 ≤ gap * (T.length : Int) := Int.mul_nonneg g0 (by omega)
      rw [Int.mul_sub, Int.mul_one]
      omega
    go_wp2
    all_goals
      go_ret
      refine ⟨?_, HB3.out⟩
    · have e1 : max 0 ((T.length : Int) - 1) = 0 := by omega
      rw [e1, Int.mul_zero]
      have e2 : wrap64 (T.sum + wrap64 0) = T.sum + 0 := by
        have e3 : wrap64 0 = 0 := wrap64_eq (by omega)
        rw [e3, wrap64_eq (by omega)]
      exact congrArg (fun x => Ending.returned (.int .i64 x)) e2
    · have e1 : max 0 ((T.length : Int) - 1) = (T.length : Int) - 1 := by omega
      rw [e1]
      obtain ⟨hm1, hm2⟩ := hm
      generalize gap * ((T.length : Int) - 1) = G at hm1 hm2 ⊢
      have e2 : wrap64 (T.sum + wrap64 G) = T.sum + G := by
        have e4 : wrap64 G = G := wrap64_eq (by omega)
        rw [e4, wrap64_eq (by omega)]
      exact congrArg (fun x => Ending.returned (.int .i64 x)) e2
end Go.Proofs.Ytjkcejijdpmhoaa
