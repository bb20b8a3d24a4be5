/- The exact laws' helpers for impl.Track: size, copy, comparison, marks. Written by a program of ours. -/
import Derived.Test.YtjebjcabggmaiaaI
import Derived.Test.YtjebjcabggmaiaaTTrack
import Derived.Deep.RegionHeld3
namespace Go.Proofs.Ytjebjcabggmaiaa
set_option linter.unusedVariables false
set_option linter.unusedSimpArgs false
open Go.RowKit Go.Lib

theorem eltTrack : Elt Try.prog 26 43 2 16 := Elt.mk' Try.underlying26 (z := .agg #[.int .i64 0, .int .i64 0]) (by kernel_rfl) rfl (by omega) (by omega)

set_option maxHeartbeats 400000 in
theorem szTrackS_any (A : Option Addr) (n c : Nat) (left : Int) (w : World) (hn : n ≤ 9223372036854775807) (h0 : 0 ≤ left) (h1 : left ≤ 1048576) :
    Calls Try.prog 5 #[.slice A n c, .int .i64 left] w fun e w' => e = .returned (.int .i64 (if (n : Int) ≤ left then left - (n : Int) else -1)) ∧ w = w' := by
  by_cases h : (n : Int) ≤ left
  · rw [if_pos h]
    go_enter Try.func5, Try.ntmps5
    go_wp2
    go_ret
    exact ⟨rfl, rfl⟩
  · rw [if_neg h]
    go_enter Try.func5, Try.ntmps5
    go_wp2
    go_ret
    exact ⟨rfl, rfl⟩

set_option maxHeartbeats 1000000 in
theorem toTrack_any (x : TrackD) (w : World) :
    Calls Try.prog 21 #[.agg #[.int .i64 x.Size, .int .i64 x.Part]] w fun e w' => e = .returned (.agg #[.int .i64 x.Size, .int .i64 x.Part]) ∧ Below w.heap.size w w' := by
  go_enter Try.func21, Try.ntmps21
  go_wp2
  refine bodyPost_ret (v := .agg #[.int .i64 x.Size, .int .i64 x.Part]) (by simp [results, Try.results21, go_sem]) rfl ⟨rfl, ?_⟩
  exact below_al (below_al (below_al (Below.refl _ _) rfl _) rfl _) rfl _

theorem fill_nextTrack {L : List TrackD} {n i : Nat} {x y : TrackD} (hx : L[i]? = some x) (hn : n = L.length) : (L.take i ++ List.replicate (n - i) y).set i x = L.take (i + 1) ++ List.replicate (n - (i + 1)) y := by
  obtain ⟨hi, rfl⟩ := List.getElem?_eq_some_iff.1 hx
  rw [List.set_append_right _ _ (by rw [List.length_take]; omega), List.length_take, show i - min i L.length = 0 by omega, show n - i = (n - (i + 1)) + 1 by omega, List.replicate_succ, List.set_cons_zero,
    List.take_succ_eq_append_getElem hi, List.append_assoc]
  rfl
theorem fill_atTrack {L : List TrackD} {n i : Nat} {y : TrackD} (hi : i < L.length) (hn : n = L.length) : (L.take i ++ List.replicate (n - i) y)[i]? = some y := by
  rw [List.getElem?_append_right (by rw [List.length_take]; omega), List.length_take, List.getElem?_replicate, if_pos (by omega)]

set_option maxHeartbeats 2000000 in
theorem toTrackS_any (A : Option Addr) (L : List TrackD) (c : Nat) (w : World) (hL : L.length ≤ 1048576) (h : Arr w w.heap.size 2 encTrack A L) :
    Calls Try.prog 7 #[.slice A L.length c] w (Gives 2 encTrack L w) := by
  have H := hid h
  clear h
  go_enter Try.func7, Try.ntmps7
  go_wp2_with (at_make; refine wpList_makeE _ eltTrack (.agg #[.int .i64 0, .int .i64 0]) (by kernel_rfl) encTrack (fun _ => rfl) ⟨0, 0⟩ rfl rfl (.tmp 6) (.tmp 6) rfl L.length rfl rfl (by omega) ?_; intro w1 own1 gr1 sz1)
  have R0 : Aside (OwnA w1 w.heap.size 2 encTrack (some ⟨w.heap.size, 0, none⟩) (L.take 0 ++ List.replicate (L.length - 0) ⟨0, 0⟩) ∧ Below w.heap.size w w1) := ⟨by simpa using own1, (Below.refl _ _).grown gr1 (Nat.le_refl _) (by simp)⟩
  clear own1 gr1 sz1
  go_loopg [4] L.length (fun gg s4 wr => ∃ i : Nat, i ≤ L.length ∧ L.length - i ≤ gg ∧ s4 = .int .i64 i ∧ Aside (OwnA wr w.heap.size 2 encTrack (some ⟨w.heap.size, 0, none⟩) (L.take i ++ List.replicate (L.length - i) ⟨0, 0⟩) ∧ Below w.heap.size w wr))
  case atStart => exact ⟨0, Nat.zero_le _, by omega, rfl, R0⟩
  case round =>
    obtain ⟨i, hi, hg, rfl, R⟩ := hrel
    by_cases hlt : i < L.length
    · obtain ⟨b, off, x, rfl, hb, hx, c0, c1⟩ := (H.out.below R.out.2).atTrack hlt
      have HX := hid hx
      clear hx R0
      go_wp2_with fail
      refine (toTrack_any x _).mono ?_
      rintro e w2 ⟨rfl, hb2⟩
      have o2 := R.out.1.next hb2
      obtain ⟨g, of, e1, _, hg2, hc, hf⟩ := o2.at_ (fill_atTrack (y := (⟨0, 0⟩ : TrackD)) hlt rfl)
      injection e1 with e1
      injection e1 with e1 e2
      subst e1 e2
      have d0 : w2.cell? ⟨w.heap.size, i * 2, none⟩ = some (.int .i64 0) := by simpa using hc 0 _ rfl
      have f0 := hf (i * 2)
      have d1 : w2.cell? ⟨w.heap.size, i * 2 + 1, none⟩ = some (.int .i64 0) := by simpa using hc 1 _ rfl
      have f1 := hf (i * 2 + 1)
      have O2 := hid o2
      have HB2 := hid hb2
      clear o2 hb2 hc hf
      go_wp2
      go_roundg (L.length - (i + 1))
      case measure => omega
      case rel =>
        refine ⟨i + 1, by omega, by omega, by go_num, ?_, ?_⟩
        · have := own_setTrack O2.out (fill_atTrack (y := (⟨0, 0⟩ : TrackD)) hlt rfl) x
          rw [fill_nextTrack HX.out rfl] at this
          exact this
        · exact (((R.out.2.trans (HB2.out.mono R.out.2.size)).setCell (p := ⟨w.heap.size, _, none⟩) (Nat.le_refl _) _).setCell (p := ⟨w.heap.size, _, none⟩) (Nat.le_refl _) _)
    · have : i = L.length := by omega
      subst this
      go_wp2
      go_ret
      refine ⟨_, _, rfl, Nat.le_refl _, by simp only [maxLen]; omega, ?_, R.out.2⟩
      have := R.out.1
      simpa using this

set_option maxHeartbeats 1000000 in
theorem eqTrack_same (x : TrackD) (w : World) :
    Calls Try.prog 24 #[.agg #[.int .i64 x.Size, .int .i64 x.Part], .agg #[.int .i64 x.Size, .int .i64 x.Part]] w fun e w' => e = .returned (.bool true) ∧ Below w.heap.size w w' := by
  go_enter Try.func24, Try.ntmps24
  go_wp2
  go_ret
  exact ⟨rfl, below_al (below_al (Below.refl _ _) rfl _) rfl _⟩

set_option maxHeartbeats 4000000 in
theorem eqTrackS_same (A A' : Option Addr) (L : List TrackD) (c c' : Nat) (w : World) (hL : L.length ≤ 1048576) (h : Arr w w.heap.size 2 encTrack A L) (h' : Arr w w.heap.size 2 encTrack A' L) :
    Calls Try.prog 10 #[.slice A L.length c, .slice A' L.length c'] w fun e w' => e = .returned (.bool true) ∧ Below w.heap.size w w' := by
  have H := hid h
  have H' := hid h'
  clear h h'
  go_enter Try.func10, Try.ntmps10
  go_wp2
  go_loopg [5] L.length (fun gg s5 wr => ∃ i : Nat, i ≤ L.length ∧ L.length - i ≤ gg ∧ s5 = .int .i64 i ∧ Aside (Below w.heap.size w wr))
  case atStart => exact ⟨0, Nat.zero_le _, by omega, rfl, Below.refl _ _⟩
  case round =>
    obtain ⟨i, hi, hg, rfl, R⟩ := hrel
    by_cases hlt : i < L.length
    · obtain ⟨b, off, x, rfl, hb, hx, c0, c1⟩ := (H.out.below R.out).atTrack hlt
      obtain ⟨b', off', x', rfl, hb', hx', c0', c1'⟩ := (H'.out.below R.out).atTrack hlt
      have e := hx.symm.trans hx'
      injection e with e
      subst e
      clear hx hx'
      have i1 : (0 : Int) ≤ (i : Int) := by omega
      have i2 : (i : Int) < (L.length : Int) := by omega
      have hbw : b < wr.heap.size := Nat.lt_of_lt_of_le hb R.out.size
      have hbw' : b' < wr.heap.size := Nat.lt_of_lt_of_le hb' R.out.size
      have hc := fun W => eqTrack_same x W
      go_wp2_with fail
      go_region_held3 (fun w' => w'.cell? ⟨b, off + i * 2, none⟩ = some (.int .i64 x.Size) ∧ w'.cell? ⟨b, off + i * 2 + 1, none⟩ = some (.int .i64 x.Part) ∧ w'.cell? ⟨b', off' + i * 2, none⟩ = some (.int .i64 x.Size) ∧ w'.cell? ⟨b', off' + i * 2 + 1, none⟩ = some (.int .i64 x.Part)) (go_keep)
        ((go_at_call 24; refine (hc _).mono ?_; rintro e w2 ⟨rfl, hb2⟩; have k0 := (hb2.cell (p := ⟨b, off + i * 2, none⟩) hbw).trans c0; have k1 := (hb2.cell (p := ⟨b, off + i * 2 + 1, none⟩) hbw).trans c1; have k0' := (hb2.cell (p := ⟨b', off' + i * 2, none⟩) hbw').trans c0'; have k1' := (hb2.cell (p := ⟨b', off' + i * 2 + 1, none⟩) hbw').trans c1'; have HB2 : Aside (Below wr.heap.size wr w2) := below_undrew hb2; clear hb2; dsimp only))
      go_wp2
      go_roundg (L.length - (i + 1))
      case measure => omega
      case rel => exact ⟨i + 1, by omega, by omega, by go_num, R.out.trans (Below.mono (HB2.out) R.out.size)⟩
    · have : i = L.length := by omega
      subst this
      go_wp2
      go_ret
      exact ⟨rfl, R.out⟩

set_option maxHeartbeats 4000000 in
theorem markTrackS_any (A : Option Addr) (L : List TrackD) (c base : Nat) (w : World) (hL : L.length ≤ 1048576) (h : OwnA w base 2 encTrack A L) :
    Calls Try.prog 11 #[.slice A L.length c, .int .i64 1] w fun e w' => e = .returned (.int .i64 (1 + 2 * (L.length : Int))) ∧ OwnA w' base 2 encTrack A (marksTrack 1 L.length) ∧ Marked L.length A w w' := by
  have R0 : Aside (OwnA w base 2 encTrack A (marksTrack 1 0 ++ L.drop 0) ∧ Marked L.length A w w) := ⟨by simpa [marksTrack] using h, Marked.refl _ _ _⟩
  clear h
  go_enter Try.func11, Try.ntmps11
  go_wp2
  go_loopg [1, 5] L.length (fun gg s1 s5 wr => ∃ i : Nat, i ≤ L.length ∧ L.length - i ≤ gg ∧ s5 = .int .i64 i ∧ s1 = .int .i64 (1 + 2 * (i : Int)) ∧ Aside (OwnA wr base 2 encTrack A (marksTrack 1 i ++ L.drop i) ∧ Marked L.length A w wr))
  case atStart => exact ⟨0, Nat.zero_le _, by omega, rfl, rfl, R0⟩
  case round =>
    obtain ⟨i, hi, hg, rfl, rfl, R⟩ := hrel
    clear R0
    by_cases hlt : i < L.length
    · have hx : (marksTrack 1 i ++ L.drop i)[i]? = some L[i] := by
        rw [List.getElem?_append_right (by rw [marksTrack_len]; omega), marksTrack_len, Nat.sub_self, List.getElem?_drop]
        simp [hlt]
      have hil := (List.getElem?_eq_some_iff.1 hx).1
      have hnext : (marksTrack 1 i ++ L.drop i).set i (⟨1 + 2 * (i : Int), 1 + 2 * (i : Int) + 1⟩ : TrackD) = marksTrack 1 (i + 1) ++ L.drop (i + 1) := by
        rw [List.set_append_right _ _ (by rw [marksTrack_len]; omega), marksTrack_len, Nat.sub_self, List.drop_eq_getElem_cons hlt, List.set_cons_zero]
        simp [marksTrack, List.range_succ]
      generalize L[i] = p at hx
      obtain ⟨g, off, rfl, hgb, hg2, hc, hf⟩ := R.out.1.at_ hx
      have c0 : wr.cell? ⟨g, off + i * 2, none⟩ = some (.int .i64 p.Size) := by simpa using hc 0 _ rfl
      have f0 := hf (off + i * 2)
      have c1 : wr.cell? ⟨g, off + i * 2 + 1, none⟩ = some (.int .i64 p.Part) := by simpa using hc 1 _ rfl
      have f1 := hf (off + i * 2 + 1)
      have s0 := R.out.1.set_ (k := 2) (fun _ => rfl) (j := 0) (y' := (⟨1 + 2 * (i : Int), p.Part⟩ : TrackD)) (v := .int .i64 (1 + 2 * (i : Int))) hx (by omega) rfl
      have s1 := s0.set_ (k := 2) (fun _ => rfl) (j := 1) (y' := (⟨1 + 2 * (i : Int), 1 + 2 * (i : Int) + 1⟩ : TrackD)) (v := .int .i64 (1 + 2 * (i : Int) + 1)) (List.getElem?_set_self (by simpa using hil)) (by omega) rfl
      simp only [List.set_set] at s1
      rw [hnext] at s1
      have S2 := hid (show OwnA ((wr.setCell ⟨g, off + i * 2, none⟩ (.int .i64 (1 + 2 * (i : Int)))).setCell ⟨g, off + i * 2 + 1, none⟩ (.int .i64 (1 + 2 * (i : Int) + 1))) base 2 encTrack (some ⟨g, off, none⟩) (marksTrack 1 (i + 1) ++ L.drop (i + 1)) by simpa using s1)
      have M2 := hid ((R.out.2.set_ (o := off + i * 2) (by omega) (.int .i64 (1 + 2 * (i : Int)))).set_ (o := off + i * 2 + 1) (by omega) (.int .i64 (1 + 2 * (i : Int) + 1)))
      clear hx hc hf hnext hil s0 s1
      go_wp2
      go_roundg (L.length - (i + 1))
      case measure => omega
      case rel => exact ⟨i + 1, by omega, by omega, by go_num, by go_num, S2.out, M2.out⟩
    · have : i = L.length := by omega
      subst this
      go_wp2
      go_ret
      have h1 := R.out.1
      rw [List.drop_length, List.append_nil] at h1
      exact ⟨rfl, h1, R.out.2⟩
end Go.Proofs.Ytjebjcabggmaiaa
