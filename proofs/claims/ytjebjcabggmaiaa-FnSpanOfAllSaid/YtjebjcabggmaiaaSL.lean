/- FnSpanOfAll: the walk. -/
import Derived.Test.YtjebjcabggmaiaaSE
import Derived.Test.YtjebjcabggmaiaaSG
namespace Go.Proofs.Ytjebjcabggmaiaa
set_option linter.unusedVariables false
set_option linter.unusedSimpArgs false
open Go.RowKit Go.Lib

theorem ret3_eq {x y x' y' : Int} {b b' : Bool} {w w' : World} {e : Ending} (h : e = .returned (.tuple #[.int .i64 x, .int .i64 y, .bool b]) ∧ Below w.heap.size w w') (hx : x = x') (hy : y = y') (hb : b = b') : e = .returned (.tuple #[.int .i64 x', .int .i64 y', .bool b']) ∧ Below w.heap.size w w' := by
  subst hx hy hb
  exact h

set_option maxRecDepth 100000 in
set_option maxHeartbeats 2000000 in
theorem fnSpanOfAll_any (A : Option Addr) (cap : Nat) (bs : List Int) (w : World) (h : Code w A cap bs) :
    Calls Try.prog 4 #[.slice A bs.length cap] w (Yes w) := by
  have hcap := h.cap1
  have hcap2 := h.cap2
  by_cases hbig : 1048576 < bs.length
  · clear h
    go_enter Try.func4, Try.ntmps4
    go_wp2
    go_ret
    exact ⟨rfl, Below.refl _ _⟩
  · have hd := drawSpanOf_any A cap bs w h
    clear h
    go_enter Try.func4, Try.ntmps4
    go_wp2_with fail
    refine hd.mono ?_
    rintro e w1 ⟨A3, c3, L, sp, gap, fr, ma, rfl, hl, hc1, hc2, o3, b1⟩
    have B1 := hid b1
    have H1 := hid o3.arr
    have hi := fun fr ma W hW => spanOf_any A3 L c3 sp gap fr ma W (by omega) hW
    have hs := fun W hW => specSpanOf_any A3 L c3 sp gap fr ma W (by omega) hW
    clear b1 o3 hd hc1 hc2
    cases hok : spanOk L sp gap fr ma
    · have hi1 : ∀ W, Arr W W.heap.size 2 encTrack A3 L → Calls Try.prog 15 #[.slice A3 L.length c3, .int .i64 sp, .int .i64 gap, .int .i64 fr, .int .i64 ma] W fun e w' => e = .returned (.tuple #[.int .i64 0, .int .i64 0, .bool false]) ∧ Below W.heap.size W w' := fun W hW =>
        (hi fr ma W hW).mono fun _ _ h => ret3_eq h (by rw [spanV_no hok]) (by rw [spanV_no hok]) hok
      have hs1 : ∀ W, Arr W W.heap.size 2 encTrack A3 L → Calls Try.prog 16 #[.slice A3 L.length c3, .int .i64 sp, .int .i64 gap, .int .i64 fr, .int .i64 ma] W fun e w' => e = .returned (.tuple #[.int .i64 0, .int .i64 0, .bool false]) ∧ Below W.heap.size W w' := fun W hW =>
        (hs W hW).mono fun _ _ h => ret3_eq h (by rw [spanV_no hok]) (by rw [spanV_no hok]) hok
      have HI := hid hi1
      have HS := hid hs1
      clear hi hs hi1 hs1 hok
      go_wp2_with fail
      refine (HI.out _ H1.out).mono ?_
      rintro e w2 ⟨rfl, b2⟩
      have B2 := hid (chain B1.out b2)
      have H2 := hid (H1.out.next b2)
      clear b2
      go_wp2_with fail
      refine (HS.out _ H2.out).mono ?_
      rintro e w3 ⟨rfl, b3⟩
      have B3 := hid (chain B2.out b3)
      clear b3
      go_wp2
      go_ret
      exact ⟨rfl, B3.out⟩
    · obtain ⟨hT, hf, hm⟩ := spanOk_iff.1 hok
      obtain ⟨hv, hsp, hg⟩ := okTs_iff.1 hT
      have h8 := (vTs_iff.1 hv).1
      obtain ⟨al1, al2, al3⟩ := span_all hT
      have hle := span_le hok
      have sm := trackM_small hv hsp hg
      have sT := sums_bd sm (by rw [trackM_len]; omega) 1000
      rw [List.take_of_length_le (by rw [trackM_len]; omega)] at sT
      obtain ⟨bd1, bd2, sm1, sm2⟩ := spanAt_bd hok
      have sb1 := sums_bd sm1 (by rw [List.length_take, trackM_len]; omega) 1000
      have sb2 := sums_bd sm2 (by rw [List.length_take, List.length_drop, trackM_len]; omega) 1000
      rw [List.take_of_length_le (by rw [List.length_take, trackM_len]; omega)] at sb1
      rw [List.take_of_length_le (by rw [List.length_take, List.length_drop, trackM_len]; omega)] at sb2
      have hgm := mul_bd hg (show 0 ≤ (L.length : Int) - 1 ∧ (L.length : Int) - 1 ≤ 7 by omega)
      have hX : 0 ≤ spanAt L sp gap fr ∧ spanAt L sp gap fr ≤ 2000000000 := by unfold spanAt; omega
      have hY : 0 ≤ spanSize L sp gap fr ma ∧ spanSize L sp gap fr ma ≤ 2000000000 := by unfold spanSize; omega
      have hi1 : ∀ W, Arr W W.heap.size 2 encTrack A3 L → Calls Try.prog 15 #[.slice A3 L.length c3, .int .i64 sp, .int .i64 gap, .int .i64 fr, .int .i64 ma] W fun e w' => e = .returned (.tuple #[.int .i64 (spanAt L sp gap fr), .int .i64 (spanSize L sp gap fr ma), .bool true]) ∧ Below W.heap.size W w' := fun W hW =>
        (hi fr ma W hW).mono fun _ _ h => ret3_eq h (by rw [spanV_yes hok]) (by rw [spanV_yes hok]) hok
      have hs1 : ∀ W, Arr W W.heap.size 2 encTrack A3 L → Calls Try.prog 16 #[.slice A3 L.length c3, .int .i64 sp, .int .i64 gap, .int .i64 fr, .int .i64 ma] W fun e w' => e = .returned (.tuple #[.int .i64 (spanAt L sp gap fr), .int .i64 (spanSize L sp gap fr ma), .bool true]) ∧ Below W.heap.size W w' := fun W hW =>
        (hs W hW).mono fun _ _ h => ret3_eq h (by rw [spanV_yes hok]) (by rw [spanV_yes hok]) hok
      have hi2 : ∀ W, Arr W W.heap.size 2 encTrack A3 L → Calls Try.prog 15 #[.slice A3 L.length c3, .int .i64 sp, .int .i64 gap, .int .i64 0, .int .i64 (L.length : Int)] W fun e w' => e = .returned (.tuple #[.int .i64 0, .int .i64 ((trackM L sp gap).sum + gap * ((L.length : Int) - 1)), .bool true]) ∧ Below W.heap.size W w' := fun W hW =>
        (hi 0 (L.length : Int) W hW).mono fun _ _ h => ret3_eq h (by rw [spanV_yes al1, al2]) (by rw [spanV_yes al1, al3]) al1
      have ht : ∀ W, Arr W W.heap.size 2 encTrack A3 L → Calls Try.prog 8 #[.slice A3 L.length c3, .int .i64 sp, .int .i64 gap] W (Gives 1 encI (trackM L sp gap) W) := fun W hW => by
        have := trackSizes_any A3 L c3 sp gap W (by omega) hW
        rw [trackV_yes hT] at this
        exact this
      have hsum : ∀ A9 c9 W, Arr W W.heap.size 1 encI A9 (trackM L sp gap) → Calls Try.prog 17 #[.slice A9 L.length c9] W fun e w' => e = .returned (.int .i64 (trackM L sp gap).sum) ∧ W = w' := fun A9 c9 W hW => sumL_any A9 (trackM L sp gap) L.length c9 W (trackM_len _ _ _).symm (by rw [trackM_len]; omega) sm hW
      have TL := hid (trackM_len L sp gap)
      have HI := hid hi1
      have HS := hid hs1
      have HI2 := hid hi2
      have HT := hid ht
      have HSUM := hid hsum
      clear hi hs hi1 hs1 hi2 ht hsum hok hT hv hsp sm sm1 sm2 bd1 bd2 sb1 sb2 al1 al2 al3
      generalize spanAt L sp gap fr = X at *
      generalize spanSize L sp gap fr ma = Y at *
      generalize hTT : (trackM L sp gap).sum = T at *
      clear hTT
      generalize hGM : gap * ((L.length : Int) - 1) = gm at *
      have m1 : IntKind.i64.wrap (gap * ((L.length : Int) - 1)) = gm := by rw [hGM]; exact IntWalk.i64_in _ (by omega)
      clear hGM
      have hXX : (X != X) = false := by simp
      have hYY : (Y != Y) = false := by simp
      have hAA : (T + gm == T + gm) = true := by simp
      have hXY : decide (X + Y ≤ T + gm) = true := by simpa using hle
      obtain ⟨x1, x2⟩ := hX
      obtain ⟨y1, y2⟩ := hY
      obtain ⟨t1, t2⟩ := sT
      obtain ⟨gm1, gm2⟩ := hgm
      obtain ⟨h81, h82⟩ := h8
      go_wp2_with fail
      refine (HI.out _ H1.out).mono ?_
      rintro e w2 ⟨rfl, b2⟩
      have B2 := hid (chain B1.out b2)
      have H2 := hid (H1.out.next b2)
      clear b2
      go_wp2_with fail
      refine (HS.out _ H2.out).mono ?_
      rintro e w3 ⟨rfl, b3⟩
      have B3 := hid (chain B2.out b3)
      have H3 := hid (H2.out.next b3)
      clear b3
      go_wp2_with fail
      refine (HI2.out _ H3.out).mono ?_
      rintro e w4 ⟨rfl, b4⟩
      have B4 := hid (chain B3.out b4)
      have H4 := hid (H3.out.next b4)
      clear b4
      go_wp2_with fail
      refine (HT.out _ H4.out).mono ?_
      rintro e w5 ⟨A9, c9, he, -, -, o9, b9⟩
      rw [TL.out] at he
      subst he
      have B5 := hid (chain B4.out b9)
      have O9 := hid o9.arr
      clear o9 b9
      go_wp2_with fail
      refine (HSUM.out _ _ _ O9.out).mono ?_
      rintro e w6 ⟨rfl, rfl⟩
      go_wp2
      go_ret
      exact ⟨rfl, B5.out⟩
end Go.Proofs.Ytjebjcabggmaiaa
