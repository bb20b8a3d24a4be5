/- SpanOf, of the program and of the reference. -/
import Derived.Test.YtjebjcabggmaiaaSB
namespace Go.Proofs.Ytjebjcabggmaiaa
set_option linter.unusedVariables false
set_option linter.unusedSimpArgs false
open Go.RowKit Go.Lib

/-- What SpanOf leaves. -/
def Spanned (L : List TrackD) (sp gap fr ma : Int) (w : World) (e : Ending) (w' : World) : Prop :=
  e = .returned (.tuple #[.int .i64 (spanV L sp gap fr ma).1, .int .i64 (spanV L sp gap fr ma).2, .bool (spanOk L sp gap fr ma)]) ∧ Below w.heap.size w w'
theorem spanned_no {L : List TrackD} {sp gap fr ma : Int} {w w' : World} (h : spanOk L sp gap fr ma = false) (hb : Below w.heap.size w w') : Spanned L sp gap fr ma w (.returned (.tuple #[.int .i64 0, .int .i64 0, .bool false])) w' :=
  ⟨by rw [spanV_no h, h], hb⟩
theorem spanned_yes {L : List TrackD} {sp gap fr ma x y : Int} {w w' : World} (h : spanOk L sp gap fr ma = true) (hx : x = spanAt L sp gap fr) (hy : y = spanSize L sp gap fr ma) (hb : Below w.heap.size w w') : Spanned L sp gap fr ma w (.returned (.tuple #[.int .i64 x, .int .i64 y, .bool true])) w' :=
  ⟨by rw [spanV_yes h, h, hx, hy], hb⟩

theorem arr_span {W : World} {B : Nat} {A : Option Addr} {K : List Int} {c f : Nat} (h : Arr W B 1 encI A K) (hc : K.length ≤ c) (hf : f < K.length) (m : Nat) : Arr W B 1 encI (A.map (·.add f)) ((K.drop f).take m) := by
  have h1 := (h.drop (c := c) hc f).take m
  rw [if_neg (by omega), Nat.mul_one] at h1
  exact h1

set_option maxHeartbeats 2000000 in
theorem spanOf_any (A : Option Addr) (L : List TrackD) (c : Nat) (sp gap fr ma : Int) (w : World) (hL : L.length ≤ 1048576) (h : Arr w w.heap.size 2 encTrack A L) :
    Calls Try.prog 15 #[.slice A L.length c, .int .i64 sp, .int .i64 gap, .int .i64 fr, .int .i64 ma] w (Spanned L sp gap fr ma w) := by
  have hc := tracksOk_any A L c sp gap w hL h
  have E : spanOk L sp gap fr ma = (okTs L sp gap && (inR fr 0 ((L.length : Int) - 1) && inR ma 1 ((L.length : Int) - fr))) := rfl
  have wn := fun n l u W => within_any n l u W
  cases h1 : okTs L sp gap
  · have hno : spanOk L sp gap fr ma = false := by rw [E, h1]; rfl
    have NO := hid hno
    rw [h1] at hc
    clear h E h1 hno wn
    go_enter Try.func15, Try.ntmps15
    go_wp2_with fail
    refine hc.mono ?_
    rintro e w1 ⟨rfl, b1⟩
    have B1 := hid b1
    clear b1 hc
    go_wp2
    go_ret3
    exact spanned_no NO.out B1.out
  · rw [h1] at hc
    cases h2 : inR fr 0 ((L.length : Int) - 1)
    · have hno : spanOk L sp gap fr ma = false := by rw [E, h1, h2]; rfl
      have NO := hid hno
      have s1 := fun W => wn fr 0 ((L.length : Int) - 1) W
      rw [h2] at s1
      have S1 := hid s1
      clear h E h1 h2 hno wn s1
      go_enter Try.func15, Try.ntmps15
      go_wp2_with fail
      refine hc.mono ?_
      rintro e w1 ⟨rfl, b1⟩
      have B1 := hid b1
      clear b1 hc
      go_wp2_with (((with_reducible refine (S1.out _).mono ?_); rintro e w' ⟨rfl, rfl⟩))
      go_ret3
      exact spanned_no NO.out B1.out
    · have hf := inR_iff.1 h2
      have s1 := fun W => wn fr 0 ((L.length : Int) - 1) W
      rw [h2] at s1
      have S1 := hid s1
      have s2 := fun W => wn ma 1 ((L.length : Int) - fr) W
      obtain ⟨f, rfl⟩ := Int.eq_ofNat_of_zero_le hf.1
      obtain ⟨hf1, hf2⟩ := hf
      cases h3 : inR ma 1 ((L.length : Int) - (f : Int))
      · have hno : spanOk L sp gap f ma = false := by rw [E, h1, h2, h3]; rfl
        have NO := hid hno
        rw [h3] at s2
        have S2 := hid s2
        clear h E h1 h2 h3 hno wn s1 s2
        go_enter Try.func15, Try.ntmps15
        go_wp2_with fail
        refine hc.mono ?_
        rintro e w1 ⟨rfl, b1⟩
        have B1 := hid b1
        clear b1 hc
        go_wp2_with (first | ((with_reducible refine (S1.out _).mono ?_); rintro e w' ⟨rfl, rfl⟩) | ((with_reducible refine (S2.out _).mono ?_); rintro e w' ⟨rfl, rfl⟩))
        go_ret3
        exact spanned_no NO.out B1.out
      · have hm := inR_iff.1 h3
        obtain ⟨m, rfl⟩ := Int.eq_ofNat_of_zero_le (show 0 ≤ ma by omega)
        obtain ⟨hm1, hm2⟩ := hm
        rw [h3] at s2
        have S2 := hid s2
        have hok : spanOk L sp gap f m = true := by rw [E, h1, h2, h3]; rfl
        obtain ⟨hv, hs, hg⟩ := okTs_iff.1 h1
        obtain ⟨bd1, bd2, sm1, sm2⟩ := spanAt_bd hok
        simp only [Int.toNat_natCast] at sm1 sm2
        have h8 := (vTs_iff.1 hv).1
        have ea : spanAt L sp gap f = ((trackM L sp gap).take f).sum + gap * (f : Int) := by unfold spanAt; rw [Int.toNat_natCast]
        have eb : spanSize L sp gap f m = (((trackM L sp gap).drop f).take m).sum + gap * ((m : Int) - 1) := by unfold spanSize; rw [Int.toNat_natCast, Int.toNat_natCast]
        have HT := hid (fun W (hW : Arr W W.heap.size 2 encTrack A L) => tracks_any sp gap A L c W hv hs hg hW)
        have TL := hid (trackM_len L sp gap)
        have tot1 := fun A9 c9 W (hW : Arr W W.heap.size 1 encI A9 (trackM L sp gap)) => total_any A9 ((trackM L sp gap).take f) f c9 W (by rw [List.length_take, trackM_len]; omega) (by rw [List.length_take]; omega) sm1 (hW.take f)
        have tot2 := fun A9 c9 W (hW : Arr W W.heap.size 1 encI A9 (trackM L sp gap)) (hle : L.length ≤ c9) => total_any (A9.map (·.add f)) (((trackM L sp gap).drop f).take m) m (c9 - f) W (by rw [List.length_take, List.length_drop, trackM_len]; omega) (by rw [List.length_take]; omega) sm2 (arr_span hW (c := c9) (by rw [trackM_len]; exact hle) (by rw [trackM_len]; omega) m)
        have sb1 := sums_bd (L := (trackM L sp gap).take f) sm1 (by rw [List.length_take, trackM_len]; omega) 1000
        have sb2 := sums_bd (L := ((trackM L sp gap).drop f).take m) sm2 (by rw [List.length_take, List.length_drop, trackM_len]; omega) 1000
        rw [List.take_of_length_le (by rw [List.length_take, trackM_len]; omega)] at sb1
        rw [List.take_of_length_le (by rw [List.length_take, List.length_drop, trackM_len]; omega)] at sb2
        have H := hid h
        generalize ((trackM L sp gap).take f).sum = X1 at *
        generalize (((trackM L sp gap).drop f).take m).sum = X2 at *
        have T1 := hid tot1
        have T2 := hid tot2
        have HOK := hid hok
        generalize hP1 : gap * (f : Int) = p1 at *
        generalize hP2 : gap * ((m : Int) - 1) = p2 at *
        have m1 : IntKind.i64.wrap (gap * (f : Int)) = p1 := by rw [hP1]; exact IntWalk.i64_in _ (by omega)
        have m2 : IntKind.i64.wrap (gap * ((m : Int) - 1)) = p2 := by rw [hP2]; exact IntWalk.i64_in _ (by omega)
        have m3 : IntKind.i64.wrap (X1 + p1) = X1 + p1 := IntWalk.i64_in _ (by omega)
        have m4 : IntKind.i64.wrap (X2 + p2) = X2 + p2 := IntWalk.i64_in _ (by omega)
        have m5 : IntKind.i64.wrap ((m : Int) - 1) = (m : Int) - 1 := IntWalk.i64_in _ (by omega)
        have m6 : IntKind.i64.wrap ((f : Int) + (m : Int)) = (f : Int) + (m : Int) := IntWalk.i64_in _ (by omega)
        have m7 : ((f : Int) + (m : Int)).toNat = f + m := by omega
        have EA := hid ea
        have EB := hid eb
        have hfm : f + m ≤ L.length := by omega
        obtain ⟨h81, h82⟩ := h8
        clear h E h1 h2 h3 hok wn s1 s2 tot1 tot2 sm1 sm2 hv hs hg ea eb hP1 hP2 bd1 bd2 sb1 sb2
        go_enter Try.func15, Try.ntmps15
        go_wp2_with fail
        refine hc.mono ?_
        rintro e w1 ⟨rfl, b1⟩
        have B1 := hid b1
        have H1 := hid (H.out.next b1)
        clear b1 hc
        go_wp2_with (first | ((with_reducible refine (S1.out _).mono ?_); rintro e w' ⟨rfl, rfl⟩) | ((with_reducible refine (S2.out _).mono ?_); rintro e w' ⟨rfl, rfl⟩))
        refine (HT.out _ H1.out).mono ?_
        rintro e w2 ⟨A9, c9, he, h91, h92, o9, b9⟩
        rw [TL.out] at he h91
        subst he
        have U1 : ∀ n, Calls Try.prog 31 #[.slice A9 f c9] (w2.drewN n) fun e w' => e = .returned (.int .i64 X1) ∧ w' = w2.drewN n := fun n => (T1.out A9 c9 (w2.drewN n) (show Arr w2 w2.heap.size 1 encI _ _ from o9.arr)).mono fun _ _ ⟨h1, h2⟩ => ⟨h1, h2.symm⟩
        have U2 : ∀ n, Calls Try.prog 31 #[.slice (A9.map (·.add f)) m (c9 - f)] (w2.drewN n) fun e w' => e = .returned (.int .i64 X2) ∧ w' = w2.drewN n := fun n => (T2.out A9 c9 (w2.drewN n) (show Arr w2 w2.heap.size 1 encI _ _ from o9.arr) h91).mono fun _ _ ⟨h1, h2⟩ => ⟨h1, h2.symm⟩
        have V1 := hid U1
        have V2 := hid U2
        have BB := hid (chain B1.out b9)
        have hcf : ¬ c9 = f := by omega
        have k1 : (0 : Int) ≤ (f : Int) := by omega
        have k2 : (f : Int) ≤ (c9 : Int) := by omega
        have k3 : (f : Int) + (m : Int) ≤ (c9 : Int) := by omega
        have k4 : (f : Int) ≤ (f : Int) + (m : Int) := by omega
        have k5 : f ≤ c9 := by omega
        have k6 : f + m ≤ c9 := by omega
        clear U1 U2 o9 b9 h92 T1 T2 HT
        go_wp2_with fail
        go_quiet ((first | (with_reducible exact Calls.quiet_of_same (V1.out _)) | (with_reducible exact Calls.quiet_of_same (V2.out _))))
        go_wp2
        go_ret3
        exact spanned_yes HOK.out EA.out.symm EB.out.symm (Below_drewN BB.out _)
end Go.Proofs.Ytjebjcabggmaiaa
