/- The exact laws' helpers for impl.Rect: size, copy, comparison, marks. Written by a program of ours. -/
import Derived.Test.YthejkmdodjchiaaI
import Derived.Test.YthejkmdodjchiaaTRect
import Derived.Deep.RegionHeld3
namespace Go.Proofs.Ythejkmdodjchiaa
set_option linter.unusedVariables false
set_option linter.unusedSimpArgs false
open Go.RowKit Go.Lib

theorem eltRect : Elt Try.prog 23 27 4 32 := Elt.mk' Try.underlying23 (z := .agg #[.int .i64 0, .int .i64 0, .int .i64 0, .int .i64 0]) (by kernel_rfl) rfl (by omega) (by omega)

set_option maxHeartbeats 400000 in
theorem szRectS_any (A : Option Addr) (n c : Nat) (left : Int) (w : World) (hn : n ≤ 9223372036854775807) (h0 : 0 ≤ left) (h1 : left ≤ 1048576) :
    Calls Try.prog 18 #[.slice A n c, .int .i64 left] w fun e w' => e = .returned (.int .i64 (if (n : Int) ≤ left then left - (n : Int) else -1)) ∧ w = w' := by
  by_cases h : (n : Int) ≤ left
  · rw [if_pos h]
    go_enter Try.func18, Try.ntmps18
    go_wp2
    go_ret
    exact ⟨rfl, rfl⟩
  · rw [if_neg h]
    go_enter Try.func18, Try.ntmps18
    go_wp2
    go_ret
    exact ⟨rfl, rfl⟩

set_option maxHeartbeats 1000000 in
theorem toRect_any (x : RectD) (w : World) :
    Calls Try.prog 51 #[.agg #[.int .i64 x.X, .int .i64 x.Y, .int .i64 x.W, .int .i64 x.H]] w fun e w' => e = .returned (.agg #[.int .i64 x.X, .int .i64 x.Y, .int .i64 x.W, .int .i64 x.H]) ∧ Below w.heap.size w w' := by
  go_enter Try.func51, Try.ntmps51
  go_wp2
  refine bodyPost_ret (v := .agg #[.int .i64 x.X, .int .i64 x.Y, .int .i64 x.W, .int .i64 x.H]) (by simp [results, Try.results51, go_sem]) rfl ⟨rfl, ?_⟩
  exact below_al (below_al (below_al (Below.refl _ _) rfl _) rfl _) rfl _

theorem fill_nextRect {L : List RectD} {n i : Nat} {x y : RectD} (hx : L[i]? = some x) (hn : n = L.length) : (L.take i ++ List.replicate (n - i) y).set i x = L.take (i + 1) ++ List.replicate (n - (i + 1)) y := by
  obtain ⟨hi, rfl⟩ := List.getElem?_eq_some_iff.1 hx
  rw [List.set_append_right _ _ (by rw [List.length_take]; omega), List.length_take, show i - min i L.length = 0 by omega, show n - i = (n - (i + 1)) + 1 by omega, List.replicate_succ, List.set_cons_zero,
    List.take_succ_eq_append_getElem hi, List.append_assoc]
  rfl
theorem fill_atRect {L : List RectD} {n i : Nat} {y : RectD} (hi : i < L.length) (hn : n = L.length) : (L.take i ++ List.replicate (n - i) y)[i]? = some y := by
  rw [List.getElem?_append_right (by rw [List.length_take]; omega), List.length_take, List.getElem?_replicate, if_pos (by omega)]

set_option maxHeartbeats 2000000 in
theorem toRectS_any (A : Option Addr) (L : List RectD) (c : Nat) (w : World) (hL : L.length ≤ 1048576) (h : Arr w w.heap.size 4 encRect A L) :
    Calls Try.prog 19 #[.slice A L.length c] w (Gives 4 encRect L w) := by
  have H := hid h
  clear h
  go_enter Try.func19, Try.ntmps19
  go_wp2_with (at_make; refine wpList_makeE _ eltRect (.agg #[.int .i64 0, .int .i64 0, .int .i64 0, .int .i64 0]) (by kernel_rfl) encRect (fun _ => rfl) ⟨0, 0, 0, 0⟩ rfl rfl (.tmp 6) (.tmp 6) rfl L.length rfl rfl (by omega) ?_; intro w1 own1 gr1 sz1)
  have R0 : Aside (OwnA w1 w.heap.size 4 encRect (some ⟨w.heap.size, 0, none⟩) (L.take 0 ++ List.replicate (L.length - 0) ⟨0, 0, 0, 0⟩) ∧ Below w.heap.size w w1) := ⟨by simpa using own1, (Below.refl _ _).grown gr1 (Nat.le_refl _) (by simp)⟩
  clear own1 gr1 sz1
  go_loopg [4] L.length (fun gg s4 wr => ∃ i : Nat, i ≤ L.length ∧ L.length - i ≤ gg ∧ s4 = .int .i64 i ∧ Aside (OwnA wr w.heap.size 4 encRect (some ⟨w.heap.size, 0, none⟩) (L.take i ++ List.replicate (L.length - i) ⟨0, 0, 0, 0⟩) ∧ Below w.heap.size w wr))
  case atStart => exact ⟨0, Nat.zero_le _, by omega, rfl, R0⟩
  case round =>
    obtain ⟨i, hi, hg, rfl, R⟩ := hrel
    by_cases hlt : i < L.length
    · obtain ⟨b, off, x, rfl, hb, hx, c0, c1, c2, c3⟩ := (H.out.below R.out.2).atRect hlt
      have HX := hid hx
      clear hx R0
      go_wp2_with fail
      refine (toRect_any x _).mono ?_
      rintro e w2 ⟨rfl, hb2⟩
      have o2 := R.out.1.next hb2
      obtain ⟨g, of, e1, _, hg2, hc, hf⟩ := o2.at_ (fill_atRect (y := (⟨0, 0, 0, 0⟩ : RectD)) hlt rfl)
      injection e1 with e1
      injection e1 with e1 e2
      subst e1 e2
      have d0 : w2.cell? ⟨w.heap.size, i * 4, none⟩ = some (.int .i64 0) := by simpa using hc 0 _ rfl
      have f0 := hf (i * 4)
      have d1 : w2.cell? ⟨w.heap.size, i * 4 + 1, none⟩ = some (.int .i64 0) := by simpa using hc 1 _ rfl
      have f1 := hf (i * 4 + 1)
      have d2 : w2.cell? ⟨w.heap.size, i * 4 + 2, none⟩ = some (.int .i64 0) := by simpa using hc 2 _ rfl
      have f2 := hf (i * 4 + 2)
      have d3 : w2.cell? ⟨w.heap.size, i * 4 + 3, none⟩ = some (.int .i64 0) := by simpa using hc 3 _ rfl
      have f3 := hf (i * 4 + 3)
      have O2 := hid o2
      have HB2 := hid hb2
      clear o2 hb2 hc hf
      go_wp2
      go_roundg (L.length - (i + 1))
      case measure => omega
      case rel =>
        refine ⟨i + 1, by omega, by omega, by go_num, ?_, ?_⟩
        · have := own_setRect O2.out (fill_atRect (y := (⟨0, 0, 0, 0⟩ : RectD)) hlt rfl) x
          rw [fill_nextRect HX.out rfl] at this
          exact this
        · exact (((((R.out.2.trans (HB2.out.mono R.out.2.size)).setCell (p := ⟨w.heap.size, _, none⟩) (Nat.le_refl _) _).setCell (p := ⟨w.heap.size, _, none⟩) (Nat.le_refl _) _).setCell (p := ⟨w.heap.size, _, none⟩) (Nat.le_refl _) _).setCell (p := ⟨w.heap.size, _, none⟩) (Nat.le_refl _) _)
    · have : i = L.length := by omega
      subst this
      go_wp2
      go_ret
      refine ⟨_, _, rfl, Nat.le_refl _, by simp only [maxLen]; omega, ?_, R.out.2⟩
      have := R.out.1
      simpa using this

set_option maxHeartbeats 1000000 in
theorem eqRect_same (x : RectD) (w : World) :
    Calls Try.prog 29 #[.agg #[.int .i64 x.X, .int .i64 x.Y, .int .i64 x.W, .int .i64 x.H], .agg #[.int .i64 x.X, .int .i64 x.Y, .int .i64 x.W, .int .i64 x.H]] w fun e w' => e = .returned (.bool true) ∧ Below w.heap.size w w' := by
  go_enter Try.func29, Try.ntmps29
  go_wp2
  go_ret
  exact ⟨rfl, below_al (below_al (Below.refl _ _) rfl _) rfl _⟩

set_option maxHeartbeats 4000000 in
theorem eqRectS_same (A A' : Option Addr) (L : List RectD) (c c' : Nat) (w : World) (hL : L.length ≤ 1048576) (h : Arr w w.heap.size 4 encRect A L) (h' : Arr w w.heap.size 4 encRect A' L) :
    Calls Try.prog 20 #[.slice A L.length c, .slice A' L.length c'] w fun e w' => e = .returned (.bool true) ∧ Below w.heap.size w w' := by
  have H := hid h
  have H' := hid h'
  clear h h'
  go_enter Try.func20, Try.ntmps20
  go_wp2
  go_loopg [5] L.length (fun gg s5 wr => ∃ i : Nat, i ≤ L.length ∧ L.length - i ≤ gg ∧ s5 = .int .i64 i ∧ Aside (Below w.heap.size w wr))
  case atStart => exact ⟨0, Nat.zero_le _, by omega, rfl, Below.refl _ _⟩
  case round =>
    obtain ⟨i, hi, hg, rfl, R⟩ := hrel
    by_cases hlt : i < L.length
    · obtain ⟨b, off, x, rfl, hb, hx, c0, c1, c2, c3⟩ := (H.out.below R.out).atRect hlt
      obtain ⟨b', off', x', rfl, hb', hx', c0', c1', c2', c3'⟩ := (H'.out.below R.out).atRect hlt
      have e := hx.symm.trans hx'
      injection e with e
      subst e
      clear hx hx'
      have i1 : (0 : Int) ≤ (i : Int) := by omega
      have i2 : (i : Int) < (L.length : Int) := by omega
      have hbw : b < wr.heap.size := Nat.lt_of_lt_of_le hb R.out.size
      have hbw' : b' < wr.heap.size := Nat.lt_of_lt_of_le hb' R.out.size
      have hc := fun W => eqRect_same x W
      go_wp2_with fail
      go_region_held3 (fun w' => w'.cell? ⟨b, off + i * 4, none⟩ = some (.int .i64 x.X) ∧ w'.cell? ⟨b, off + i * 4 + 1, none⟩ = some (.int .i64 x.Y) ∧ w'.cell? ⟨b, off + i * 4 + 2, none⟩ = some (.int .i64 x.W) ∧ w'.cell? ⟨b, off + i * 4 + 3, none⟩ = some (.int .i64 x.H) ∧ w'.cell? ⟨b', off' + i * 4, none⟩ = some (.int .i64 x.X) ∧ w'.cell? ⟨b', off' + i * 4 + 1, none⟩ = some (.int .i64 x.Y) ∧ w'.cell? ⟨b', off' + i * 4 + 2, none⟩ = some (.int .i64 x.W) ∧ w'.cell? ⟨b', off' + i * 4 + 3, none⟩ = some (.int .i64 x.H)) (go_keep)
        ((go_at_call 29; refine (hc _).mono ?_; rintro e w2 ⟨rfl, hb2⟩; have k0 := (hb2.cell (p := ⟨b, off + i * 4, none⟩) hbw).trans c0; have k1 := (hb2.cell (p := ⟨b, off + i * 4 + 1, none⟩) hbw).trans c1; have k2 := (hb2.cell (p := ⟨b, off + i * 4 + 2, none⟩) hbw).trans c2; have k3 := (hb2.cell (p := ⟨b, off + i * 4 + 3, none⟩) hbw).trans c3; have k0' := (hb2.cell (p := ⟨b', off' + i * 4, none⟩) hbw').trans c0'; have k1' := (hb2.cell (p := ⟨b', off' + i * 4 + 1, none⟩) hbw').trans c1'; have k2' := (hb2.cell (p := ⟨b', off' + i * 4 + 2, none⟩) hbw').trans c2'; have k3' := (hb2.cell (p := ⟨b', off' + i * 4 + 3, none⟩) hbw').trans c3'; have HB2 : Aside (Below wr.heap.size wr w2) := below_undrew hb2; clear hb2; dsimp only))
      go_wp2
      go_roundg (L.length - (i + 1))
      case measure => omega
      case rel => exact ⟨i + 1, by omega, by omega, by go_num, R.out.trans (Below.mono (HB2.out) R.out.size)⟩
    · have : i = L.length := by omega
      subst this
      go_wp2
      go_ret
      exact ⟨rfl, R.out⟩

set_option maxHeartbeats 4000000 in
theorem markRectS_any (A : Option Addr) (L : List RectD) (c base : Nat) (w : World) (hL : L.length ≤ 1048576) (h : OwnA w base 4 encRect A L) :
    Calls Try.prog 31 #[.slice A L.length c, .int .i64 1] w fun e w' => e = .returned (.int .i64 (1 + 4 * (L.length : Int))) ∧ OwnA w' base 4 encRect A (marksRect 1 L.length) ∧ Marked L.length A w w' := by
  have R0 : Aside (OwnA w base 4 encRect A (marksRect 1 0 ++ L.drop 0) ∧ Marked L.length A w w) := ⟨by simpa [marksRect] using h, Marked.refl _ _ _⟩
  clear h
  go_enter Try.func31, Try.ntmps31
  go_wp2
  go_loopg [1, 5] L.length (fun gg s1 s5 wr => ∃ i : Nat, i ≤ L.length ∧ L.length - i ≤ gg ∧ s5 = .int .i64 i ∧ s1 = .int .i64 (1 + 4 * (i : Int)) ∧ Aside (OwnA wr base 4 encRect A (marksRect 1 i ++ L.drop i) ∧ Marked L.length A w wr))
  case atStart => exact ⟨0, Nat.zero_le _, by omega, rfl, rfl, R0⟩
  case round =>
    obtain ⟨i, hi, hg, rfl, rfl, R⟩ := hrel
    clear R0
    by_cases hlt : i < L.length
    · have hx : (marksRect 1 i ++ L.drop i)[i]? = some L[i] := by
        rw [List.getElem?_append_right (by rw [marksRect_len]; omega), marksRect_len, Nat.sub_self, List.getElem?_drop]
        simp [hlt]
      have hil := (List.getElem?_eq_some_iff.1 hx).1
      have hnext : (marksRect 1 i ++ L.drop i).set i (⟨1 + 4 * (i : Int), 1 + 4 * (i : Int) + 1, 1 + 4 * (i : Int) + 2, 1 + 4 * (i : Int) + 3⟩ : RectD) = marksRect 1 (i + 1) ++ L.drop (i + 1) := by
        rw [List.set_append_right _ _ (by rw [marksRect_len]; omega), marksRect_len, Nat.sub_self, List.drop_eq_getElem_cons hlt, List.set_cons_zero]
        simp [marksRect, List.range_succ]
      generalize L[i] = p at hx
      obtain ⟨g, off, rfl, hgb, hg2, hc, hf⟩ := R.out.1.at_ hx
      have c0 : wr.cell? ⟨g, off + i * 4, none⟩ = some (.int .i64 p.X) := by simpa using hc 0 _ rfl
      have f0 := hf (off + i * 4)
      have c1 : wr.cell? ⟨g, off + i * 4 + 1, none⟩ = some (.int .i64 p.Y) := by simpa using hc 1 _ rfl
      have f1 := hf (off + i * 4 + 1)
      have c2 : wr.cell? ⟨g, off + i * 4 + 2, none⟩ = some (.int .i64 p.W) := by simpa using hc 2 _ rfl
      have f2 := hf (off + i * 4 + 2)
      have c3 : wr.cell? ⟨g, off + i * 4 + 3, none⟩ = some (.int .i64 p.H) := by simpa using hc 3 _ rfl
      have f3 := hf (off + i * 4 + 3)
      have s0 := R.out.1.set_ (k := 4) (fun _ => rfl) (j := 0) (y' := (⟨1 + 4 * (i : Int), p.Y, p.W, p.H⟩ : RectD)) (v := .int .i64 (1 + 4 * (i : Int))) hx (by omega) rfl
      have s1 := s0.set_ (k := 4) (fun _ => rfl) (j := 1) (y' := (⟨1 + 4 * (i : Int), 1 + 4 * (i : Int) + 1, p.W, p.H⟩ : RectD)) (v := .int .i64 (1 + 4 * (i : Int) + 1)) (List.getElem?_set_self (by simpa using hil)) (by omega) rfl
      have s2 := s1.set_ (k := 4) (fun _ => rfl) (j := 2) (y' := (⟨1 + 4 * (i : Int), 1 + 4 * (i : Int) + 1, 1 + 4 * (i : Int) + 2, p.H⟩ : RectD)) (v := .int .i64 (1 + 4 * (i : Int) + 2)) (List.getElem?_set_self (by simpa using hil)) (by omega) rfl
      have s3 := s2.set_ (k := 4) (fun _ => rfl) (j := 3) (y' := (⟨1 + 4 * (i : Int), 1 + 4 * (i : Int) + 1, 1 + 4 * (i : Int) + 2, 1 + 4 * (i : Int) + 3⟩ : RectD)) (v := .int .i64 (1 + 4 * (i : Int) + 3)) (List.getElem?_set_self (by simpa using hil)) (by omega) rfl
      simp only [List.set_set] at s3
      rw [hnext] at s3
      have S2 := hid (show OwnA ((((wr.setCell ⟨g, off + i * 4, none⟩ (.int .i64 (1 + 4 * (i : Int)))).setCell ⟨g, off + i * 4 + 1, none⟩ (.int .i64 (1 + 4 * (i : Int) + 1))).setCell ⟨g, off + i * 4 + 2, none⟩ (.int .i64 (1 + 4 * (i : Int) + 2))).setCell ⟨g, off + i * 4 + 3, none⟩ (.int .i64 (1 + 4 * (i : Int) + 3))) base 4 encRect (some ⟨g, off, none⟩) (marksRect 1 (i + 1) ++ L.drop (i + 1)) by simpa using s3)
      have M2 := hid ((((R.out.2.set_ (o := off + i * 4) (by omega) (.int .i64 (1 + 4 * (i : Int)))).set_ (o := off + i * 4 + 1) (by omega) (.int .i64 (1 + 4 * (i : Int) + 1))).set_ (o := off + i * 4 + 2) (by omega) (.int .i64 (1 + 4 * (i : Int) + 2))).set_ (o := off + i * 4 + 3) (by omega) (.int .i64 (1 + 4 * (i : Int) + 3)))
      clear hx hc hf hnext hil s0 s1 s2 s3
      go_wp2
      go_roundg (L.length - (i + 1))
      case measure => omega
      case rel => exact ⟨i + 1, by omega, by omega, by go_num, by go_num, S2.out, M2.out⟩
    · have : i = L.length := by omega
      subst this
      go_wp2
      go_ret
      have h1 := R.out.1
      rw [List.drop_length, List.append_nil] at h1
      exact ⟨rfl, h1, R.out.2⟩
end Go.Proofs.Ythejkmdodjchiaa
