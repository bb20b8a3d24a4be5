/- TrackSizes and SpanOf, of the program and of the reference. -/
import Derived.Test.YtjebjcabggmaiaaSC
namespace Go.Proofs.Ytjebjcabggmaiaa
set_option linter.unusedVariables false
set_option linter.unusedSimpArgs false
open Go.RowKit Go.Lib

set_option maxHeartbeats 1000000 in
theorem tracksOk_any (A : Option Addr) (L : List TrackD) (c : Nat) (sp gap : Int) (w : World) (hL : L.length ≤ 1048576) (h : Arr w w.heap.size 2 encTrack A L) :
    Calls Try.prog 22 #[.slice A L.length c, .int .i64 sp, .int .i64 gap] w fun e w' => e = .returned (.bool (okTs L sp gap)) ∧ Below w.heap.size w w' := by
  have hc := validT_any A L c w (by omega) h
  have E : okTs L sp gap = (vTs L && inR sp 0 200000 && inR gap 0 50) := rfl
  clear h
  rw [E]
  clear E
  cases h1 : vTs L <;> cases h2 : inR sp 0 200000
  all_goals
    rw [h1] at hc
    clear h1
    have hs := fun W => sizeOk_any sp W
    have he := fun W => edgeOk_any gap W
    rw [h2] at hs
    clear h2
    have HS := hid hs
    have HE := hid he
    clear hs he
    generalize inR gap 0 50 = q at *
    go_enter Try.func22, Try.ntmps22
    go_wp2_with fail
    refine hc.mono ?_
    rintro e w1 ⟨rfl, b1⟩
    have B1 := hid b1
    clear b1 hc
    go_wp2_with (first | ((with_reducible refine (HS.out _).mono ?_); rintro e w' ⟨rfl, rfl⟩) | ((with_reducible refine (HE.out _).mono ?_); rintro e w' ⟨rfl, rfl⟩))
    go_ret
    exact ⟨rfl, B1.out⟩

theorem trackV_yes {L : List TrackD} {sp gap : Int} (h : okTs L sp gap = true) : trackV L sp gap = trackM L sp gap := by unfold trackV; rw [if_pos h]
theorem trackV_no {L : List TrackD} {sp gap : Int} (h : okTs L sp gap = false) : trackV L sp gap = [] := by unfold trackV; rw [h]; rfl

set_option maxHeartbeats 1000000 in
theorem trackSizes_any (A : Option Addr) (L : List TrackD) (c : Nat) (sp gap : Int) (w : World) (hL : L.length ≤ 1048576) (h : Arr w w.heap.size 2 encTrack A L) :
    Calls Try.prog 8 #[.slice A L.length c, .int .i64 sp, .int .i64 gap] w (Gives 1 encI (trackV L sp gap) w) := by
  have hc := tracksOk_any A L c sp gap w hL h
  cases hok : okTs L sp gap
  · rw [trackV_no hok]
    rw [hok] at hc
    clear h hok
    go_enter Try.func8, Try.ntmps8
    go_wp2_with fail
    refine hc.mono ?_
    rintro e w1 ⟨rfl, b1⟩
    have B1 := hid b1
    clear b1 hc
    go_wp2
    go_ret
    exact gives_nil B1.out
  · rw [trackV_yes hok]
    obtain ⟨hv, hs, hg⟩ := okTs_iff.1 hok
    rw [hok] at hc
    have HT := hid (fun W (hW : Arr W W.heap.size 2 encTrack A L) => tracks_any sp gap A L c W hv hs hg hW)
    have H := hid h
    clear h hok hv hs hg
    go_enter Try.func8, Try.ntmps8
    go_wp2_with fail
    refine hc.mono ?_
    rintro e w1 ⟨rfl, b1⟩
    have B1 := hid b1
    have H1 := hid (H.out.next b1)
    clear b1 hc
    go_wp2_with fail
    refine (HT.out _ H1.out).mono ?_
    rintro e w2 ⟨A2, c2, rfl, h1, h2, o2, b2⟩
    have O2 := hid o2
    have B2 := hid b2
    clear o2 b2
    go_wp2
    go_ret
    exact ⟨A2, c2, rfl, h1, h2, O2.out.less B1.out.size, chain B1.out B2.out⟩

set_option maxHeartbeats 1000000 in
theorem specTrackSizes_any (A : Option Addr) (L : List TrackD) (c : Nat) (sp gap : Int) (w : World) (hL : L.length ≤ 1048576) (h : Arr w w.heap.size 2 encTrack A L) :
    Calls Try.prog 6 #[.slice A L.length c, .int .i64 sp, .int .i64 gap] w (Gives 1 encI (trackV L sp gap) w) := by
  have hc := validTS_any A L c w (by omega) h
  have E : okTs L sp gap = (vTs L && inR sp 0 200000 && inR gap 0 50) := rfl
  have ir := fun n l u W => inRange_any n l u W
  cases h1 : vTs L
  · have hok : okTs L sp gap = false := by rw [E, h1]; rfl
    rw [trackV_no hok]
    rw [h1] at hc
    clear h E h1 hok ir
    go_enter Try.func6, Try.ntmps6
    go_wp2_with fail
    refine hc.mono ?_
    rintro e w1 ⟨rfl, b1⟩
    have B1 := hid b1
    clear b1 hc
    go_wp2
    go_ret
    exact gives_nil B1.out
  · rw [h1] at hc
    cases h2 : inR sp 0 200000
    · have hok : okTs L sp gap = false := by rw [E, h1, h2]; rfl
      rw [trackV_no hok]
      have s1 := fun W => ir sp 0 200000 W
      rw [h2] at s1
      have S1 := hid s1
      clear h E h1 h2 hok ir s1
      go_enter Try.func6, Try.ntmps6
      go_wp2_with fail
      refine hc.mono ?_
      rintro e w1 ⟨rfl, b1⟩
      have B1 := hid b1
      clear b1 hc
      go_wp2_with (((with_reducible refine (S1.out _).mono ?_); rintro e w' ⟨rfl, rfl⟩))
      go_ret
      exact gives_nil B1.out
    · have s1 := fun W => ir sp 0 200000 W
      have s2 := fun W => ir gap 0 50 W
      cases h3 : inR gap 0 50
      · have hok : okTs L sp gap = false := by rw [E, h1, h2, h3]; rfl
        rw [trackV_no hok]
        rw [h2] at s1
        rw [h3] at s2
        have S1 := hid s1
        have S2 := hid s2
        clear h E h1 h2 h3 hok ir s1 s2
        go_enter Try.func6, Try.ntmps6
        go_wp2_with fail
        refine hc.mono ?_
        rintro e w1 ⟨rfl, b1⟩
        have B1 := hid b1
        clear b1 hc
        go_wp2_with (first | ((with_reducible refine (S1.out _).mono ?_); rintro e w' ⟨rfl, rfl⟩) | ((with_reducible refine (S2.out _).mono ?_); rintro e w' ⟨rfl, rfl⟩))
        go_ret
        exact gives_nil B1.out
      · have hok : okTs L sp gap = true := by rw [E, h1, h2, h3]; rfl
        rw [trackV_yes hok]
        rw [h2] at s1
        rw [h3] at s2
        have S1 := hid s1
        have S2 := hid s2
        obtain ⟨hv, hs, hg⟩ := okTs_iff.1 hok
        have HT := hid (fun W (hW : Arr W W.heap.size 2 encTrack A L) => specTracks_any sp gap A L c W hv hs hg hW)
        have H := hid h
        clear h E h1 h2 h3 hok ir s1 s2 hv hs hg
        go_enter Try.func6, Try.ntmps6
        go_wp2_with fail
        refine hc.mono ?_
        rintro e w1 ⟨rfl, b1⟩
        have B1 := hid b1
        have H1 := hid (H.out.next b1)
        clear b1 hc
        go_wp2_with (first | ((with_reducible refine (S1.out _).mono ?_); rintro e w' ⟨rfl, rfl⟩) | ((with_reducible refine (S2.out _).mono ?_); rintro e w' ⟨rfl, rfl⟩))
        refine (HT.out _ H1.out).mono ?_
        rintro e w2 ⟨A2, c2, rfl, h1, h2, o2, b2⟩
        have O2 := hid o2
        have B2 := hid b2
        clear o2 b2
        go_wp2
        go_ret
        exact ⟨A2, c2, rfl, h1, h2, O2.out.less B1.out.size, chain B1.out B2.out⟩

/-! ## Spans -/
def spanOk (L : List TrackD) (sp gap fr ma : Int) : Bool := okTs L sp gap && (inR fr 0 ((L.length : Int) - 1) && inR ma 1 ((L.length : Int) - fr))
def spanAt (L : List TrackD) (sp gap fr : Int) : Int := ((trackM L sp gap).take fr.toNat).sum + gap * fr
def spanSize (L : List TrackD) (sp gap fr ma : Int) : Int := (((trackM L sp gap).drop fr.toNat).take ma.toNat).sum + gap * (ma - 1)
def spanV (L : List TrackD) (sp gap fr ma : Int) : Int × Int := if spanOk L sp gap fr ma then (spanAt L sp gap fr, spanSize L sp gap fr ma) else (0, 0)
theorem spanOk_iff {L : List TrackD} {sp gap fr ma : Int} : spanOk L sp gap fr ma = true ↔ okTs L sp gap = true ∧ (0 ≤ fr ∧ fr ≤ (L.length : Int) - 1) ∧ (1 ≤ ma ∧ ma ≤ (L.length : Int) - fr) := by
  unfold spanOk
  rw [Bool.and_eq_true, Bool.and_eq_true, inR_iff, inR_iff]
theorem spanV_yes {L : List TrackD} {sp gap fr ma : Int} (h : spanOk L sp gap fr ma = true) : spanV L sp gap fr ma = (spanAt L sp gap fr, spanSize L sp gap fr ma) := by unfold spanV; rw [if_pos h]
theorem spanV_no {L : List TrackD} {sp gap fr ma : Int} (h : spanOk L sp gap fr ma = false) : spanV L sp gap fr ma = (0, 0) := by unfold spanV; rw [h]; rfl
/-- All tracks: their span. -/
theorem span_all {L : List TrackD} {sp gap : Int} (h : okTs L sp gap = true) : spanOk L sp gap 0 L.length = true ∧ spanAt L sp gap 0 = 0 ∧ spanSize L sp gap 0 L.length = (trackM L sp gap).sum + gap * ((L.length : Int) - 1) := by
  obtain ⟨hv, hs, hg⟩ := okTs_iff.1 h
  have h8 := (vTs_iff.1 hv).1
  refine ⟨spanOk_iff.2 ⟨h, by omega, by omega⟩, by simp [spanAt], ?_⟩
  unfold spanSize
  rw [show ((0 : Int)).toNat = 0 from rfl, List.drop_zero, Int.toNat_natCast, ← trackM_len L sp gap, List.take_length, trackM_len]
/-- No span ends behind that of all. -/
theorem span_le {L : List TrackD} {sp gap fr ma : Int} (h : spanOk L sp gap fr ma = true) : spanAt L sp gap fr + spanSize L sp gap fr ma ≤ (trackM L sp gap).sum + gap * ((L.length : Int) - 1) := by
  obtain ⟨hok, hf, hm⟩ := spanOk_iff.1 h
  obtain ⟨hv, hs, hg⟩ := okTs_iff.1 hok
  have hsm := trackM_small hv hs hg
  unfold spanAt spanSize
  have e1 := sum_split (trackM L sp gap) fr.toNat
  have e2 := sum_split ((trackM L sp gap).drop fr.toNat) ma.toNat
  have h0 : 0 ≤ (((trackM L sp gap).drop fr.toNat).drop ma.toNat).sum := sum_nonneg fun x hx => (hsm x (List.mem_of_mem_drop (List.mem_of_mem_drop hx))).1
  have hm1 : gap * fr + gap * (ma - 1) ≤ gap * ((L.length : Int) - 1) := by
    rw [← Int.mul_add]
    exact Int.mul_le_mul_of_nonneg_left (by omega) hg.1
  omega
theorem spanAt_bd {L : List TrackD} {sp gap fr ma : Int} (h : spanOk L sp gap fr ma = true) : (0 ≤ gap * fr ∧ gap * fr ≤ 400) ∧ (0 ≤ gap * (ma - 1) ∧ gap * (ma - 1) ≤ 400) ∧ smallI ((trackM L sp gap).take fr.toNat) ∧ smallI (((trackM L sp gap).drop fr.toNat).take ma.toNat) := by
  obtain ⟨hok, hf, hm⟩ := spanOk_iff.1 h
  obtain ⟨hv, hs, hg⟩ := okTs_iff.1 hok
  have h8 := (vTs_iff.1 hv).1
  have hsm := trackM_small hv hs hg
  have a := mul_bd hg (show 0 ≤ fr ∧ fr ≤ 8 by omega)
  have b := mul_bd hg (show 0 ≤ ma - 1 ∧ ma - 1 ≤ 8 by omega)
  exact ⟨by omega, by omega, fun x hx => hsm x (List.mem_of_mem_take hx), fun x hx => hsm x (List.mem_of_mem_drop (List.mem_of_mem_take hx))⟩
end Go.Proofs.Ytjebjcabggmaiaa
