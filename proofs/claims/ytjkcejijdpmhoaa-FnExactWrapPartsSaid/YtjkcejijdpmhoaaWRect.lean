/- The exact laws' helpers for impl.Rect: comparison, marks. Written by a program of ours. -/
import Derived.Test.YtjkcejijdpmhoaaI
import Derived.Test.YtjkcejijdpmhoaaTRect
import Derived.Deep.RegionHeld3
namespace Go.Proofs.Ytjkcejijdpmhoaa
open Go.RowKit Go.Lib

set_option maxHeartbeats 1000000 in
theorem eqRect_same (x : RectD) (w : World) :
    Calls Try.prog 67 #[.agg #[.int .i64 x.X, .int .i64 x.Y, .int .i64 x.W, .int .i64 x.H], .agg #[.int .i64 x.X, .int .i64 x.Y, .int .i64 x.W, .int .i64 x.H]] w fun e w' => e = .returned (.bool true) ∧ Below w.heap.size w w' := by
  go_enter Try.func67, Try.ntmps67
  go_wp2
  go_ret
  exact ⟨rfl, below_al (below_al (Below.refl _ _) rfl _) rfl _⟩

set_option maxHeartbeats 4000000 in
theorem eqRectS_same (A A' : Option Addr) (L : List RectD) (c c' : Nat) (w : World) (hL : L.length ≤ 1048576) (h : Arr w w.heap.size 4 encRect A L) (h' : Arr w w.heap.size 4 encRect A' L) :
    Calls Try.prog 44 #[.slice A L.length c, .slice A' L.length c'] w fun e w' => e = .returned (.bool true) ∧ Below w.heap.size w w' := by
  have H := hid h
  have H' := hid h'
  clear h h'
  go_enter Try.func44, Try.ntmps44
  go_wp2
  go_loopg [5] L.length (fun gg s5 wr => ∃ i : Nat, i ≤ L.length ∧ L.length - i ≤ gg ∧ s5 = .int .i64 i ∧ Aside (Below w.heap.size w wr))
  case atStart => exact ⟨0, Nat.zero_le _, by omega, rfl, Below.refl _ _⟩
  case round =>
    obtain ⟨i, hi, hg, rfl, R⟩ := hrel
    by_cases hlt : i < L.length
    · obtain ⟨b, off, x, rfl, hb, hx, c0, c1, c2, c3⟩ := (H.out.below R.out).atRect hlt
      obtain ⟨b', off', x', rfl, hb', hx', c0', c1', c2', c3'⟩ := (H'.out.below R.out).atRect hlt
      have e := hx.symm.trans hx'
      injection e with e
      subst e
      clear hx hx'
      have i1 : (0 : Int) ≤ (i : Int) := by omega
      have i2 : (i : Int) < (L.length : Int) := by omega
      have hbw : b < wr.heap.size := Nat.lt_of_lt_of_le hb R.out.size
      have hbw' : b' < wr.heap.size := Nat.lt_of_lt_of_le hb' R.out.size
      have hc := fun W => eqRect_same x W
      go_wp2_with fail
      go_region_held3 (fun w' => w'.cell? ⟨b, off + i * 4, none⟩ = some (.int .i64 x.X) ∧ w'.cell? ⟨b, off + i * 4 + 1, none⟩ = some (.int .i64 x.Y) ∧ w'.cell? ⟨b, off + i * 4 + 2, none⟩ = some (.int .i64 x.W) ∧ w'.cell? ⟨b, off + i * 4 + 3, none⟩ = some (.int .i64 x.H) ∧ w'.cell? ⟨b', off' + i * 4, none⟩ = some (.int .i64 x.X) ∧ w'.cell? ⟨b', off' + i * 4 + 1, none⟩ = some (.int .i64 x.Y) ∧ w'.cell? ⟨b', off' + i * 4 + 2, none⟩ = some (.int .i64 x.W) ∧ w'.cell? ⟨b', off' + i * 4 + 3, none⟩ = some (.int .i64 x.H)) (go_keep)
        ((go_at_call 67; refine (hc _).mono ?_; rintro e w2 ⟨rfl, hb2⟩; have k0 := (hb2.cell (p := ⟨b, off + i * 4, none⟩) hbw).trans c0; have k1 := (hb2.cell (p := ⟨b, off + i * 4 + 1, none⟩) hbw).trans c1; have k2 := (hb2.cell (p := ⟨b, off + i * 4 + 2, none⟩) hbw).trans c2; have k3 := (hb2.cell (p := ⟨b, off + i * 4 + 3, none⟩) hbw).trans c3; have k0' := (hb2.cell (p := ⟨b', off' + i * 4, none⟩) hbw').trans c0'; have k1' := (hb2.cell (p := ⟨b', off' + i * 4 + 1, none⟩) hbw').trans c1'; have k2' := (hb2.cell (p := ⟨b', off' + i * 4 + 2, none⟩) hbw').trans c2'; have k3' := (hb2.cell (p := ⟨b', off' + i * 4 + 3, none⟩) hbw').trans c3'; have HB2 : Aside (Below wr.heap.size wr w2) := below_undrew hb2; clear hb2; dsimp only))
      go_wp2
      go_roundg (L.length - (i + 1))
      case measure => omega
      case rel => exact ⟨i + 1, by omega, by omega, by go_num, R.out.trans (Below.mono (HB2.out) R.out.size)⟩
    · have : i = L.length := by omega
      subst this
      go_wp2
      go_ret
      exact ⟨rfl, R.out⟩

set_option maxHeartbeats 4000000 in
theorem markRectS_any (A : Option Addr) (L : List RectD) (c base : Nat) (w : World) (hL : L.length ≤ 1048576) (h : OwnA w base 4 encRect A L) :
    Calls Try.prog 45 #[.slice A L.length c, .int .i64 1] w fun e w' => e = .returned (.int .i64 (1 + 4 * (L.length : Int))) ∧ OwnA w' base 4 encRect A (marksRect 1 L.length) ∧ Marked L.length A w w' := by
  have R0 : Aside (OwnA w base 4 encRect A (marksRect 1 0 ++ L.drop 0) ∧ Marked L.length A w w) := ⟨by simpa [marksRect] using h, Marked.refl _ _ _⟩
  clear h
  go_enter Try.func45, Try.ntmps45
  go_wp2
  go_loopg [1, 5] L.length (fun gg s1 s5 wr => ∃ i : Nat, i ≤ L.length ∧ L.length - i ≤ gg ∧ s5 = .int .i64 i ∧ s1 = .int .i64 (1 + 4 * (i : Int)) ∧ Aside (OwnA wr base 4 encRect A (marksRect 1 i ++ L.drop i) ∧ Marked L.length A w wr))
  case atStart => exact ⟨0, Nat.zero_le _, by omega, rfl, rfl, R0⟩
  case round =>
    obtain ⟨i, hi, hg, rfl, rfl, R⟩ := hrel
    clear R0
    by_cases hlt : i < L.length
    · have hx : (marksRect 1 i ++ L.drop i)[i]? = some L[i] := by
        rw [List.getElem?_append_right (by rw [marksRect_len]; omega), marksRect_len, Nat.sub_self, List.getElem?_drop]
        simp [hlt]
      have hil := (List.getElem?_eq_some_iff.1 hx).1
      have hnext : (marksRect 1 i ++ L.drop i).set i (⟨1 + 4 * (i : Int), 1 + 4 * (i : Int) + 1, 1 + 4 * (i : Int) + 2, 1 + 4 * (i : Int) + 3⟩ : RectD) = marksRect 1 (i + 1) ++ L.drop (i + 1) := by
        rw [List.set_append_right _ _ (by rw [marksRect_len]; omega), marksRect_len, Nat.sub_self, List.drop_eq_getElem_cons hlt, List.set_cons_zero]
        simp [marksRect, List.range_succ]
      generalize L[i] = p at hx
      obtain ⟨g, off, rfl, hgb, hg2, hc, hf⟩ := R.out.1.at_ hx
      have c0 : wr.cell? ⟨g, off + i * 4, none⟩ = some (.int .i64 p.X) := by simpa using hc 0 _ rfl
      have f0 := hf (off + i * 4)
      have c1 : wr.cell? ⟨g, off + i * 4 + 1, none⟩ = some (.int .i64 p.Y) := by simpa using hc 1 _ rfl
      have f1 := hf (off + i * 4 + 1)
      have c2 : wr.cell? ⟨g, off + i * 4 + 2, none⟩ = some (.int .i64 p.W) := by simpa using hc 2 _ rfl
      have f2 := hf (off + i * 4 + 2)
      have c3 : wr.cell? ⟨g, off + i * 4 + 3, none⟩ = some (.int .i64 p.H) := by simpa using hc 3 _ rfl
      have f3 := hf (off + i * 4 + 3)
      have s0 := R.out.1.set_ (k := 4) (fun _ => rfl) (j := 0) (y' := (⟨1 + 4 * (i : Int), p.Y, p.W, p.H⟩ : RectD)) (v := .int .i64 (1 + 4 * (i : Int))) hx (by omega) rfl
      have s1 := s0.set_ (k := 4) (fun _ => rfl) (j := 1) (y' := (⟨1 + 4 * (i : Int), 1 + 4 * (i : Int) + 1, p.W, p.H⟩ : RectD)) (v := .int .i64 (1 + 4 * (i : Int) + 1)) (List.getElem?_set_self (by simpa using hil)) (by omega) rfl
      have s2 := s1.set_ (k := 4) (fun _ => rfl) (j := 2) (y' := (⟨1 + 4 * (i : Int), 1 + 4 * (i : Int) + 1, 1 + 4 * (i : Int) + 2, p.H⟩ : RectD)) (v := .int .i64 (1 + 4 * (i : Int) + 2)) (List.getElem?_set_self (by simpa using hil)) (by omega) rfl
      have s3 := s2.set_ (k := 4) (fun _ => rfl) (j := 3) (y' := (⟨1 + 4 * (i : Int), 1 + 4 * (i : Int) + 1, 1 + 4 * (i : Int) + 2, 1 + 4 * (i : Int) + 3⟩ : RectD)) (v := .int .i64 (1 + 4 * (i : Int) + 3)) (List.getElem?_set_self (by simpa using hil)) (by omega) rfl
      simp only [List.set_set] at s3
      rw [hnext] at s3
      have S2 := hid (show OwnA ((((wr.setCell ⟨g, off + i * 4, none⟩ (.int .i64 (1 + 4 * (i : Int)))).setCell ⟨g, off + i * 4 + 1, none⟩ (.int .i64 (1 + 4 * (i : Int) + 1))).setCell ⟨g, off + i * 4 + 2, none⟩ (.int .i64 (1 + 4 * (i : Int) + 2))).setCell ⟨g, off + i * 4 + 3, none⟩ (.int .i64 (1 + 4 * (i : Int) + 3))) base 4 encRect (some ⟨g, off, none⟩) (marksRect 1 (i + 1) ++ L.drop (i + 1)) by simpa using s3)
      have M2 := hid ((((R.out.2.set_ (o := off + i * 4) (by omega) (.int .i64 (1 + 4 * (i : Int)))).set_ (o := off + i * 4 + 1) (by omega) (.int .i64 (1 + 4 * (i : Int) + 1))).set_ (o := off + i * 4 + 2) (by omega) (.int .i64 (1 + 4 * (i : Int) + 2))).set_ (o := off + i * 4 + 3) (by omega) (.int .i64 (1 + 4 * (i : Int) + 3)))
      clear hx hc hf hnext hil s0 s1 s2 s3
      go_wp2
      go_roundg (L.length - (i + 1))
      case measure => omega
      case rel => exact ⟨i + 1, by omega, by omega, by go_num, by go_num, S2.out, M2.out⟩
    · have : i = L.length := by omega
      subst this
      go_wp2
      go_ret
      have h1 := R.out.1
      rw [List.drop_length, List.append_nil] at h1
      exact ⟨rfl, h1, R.out.2⟩
end Go.Proofs.Ytjkcejijdpmhoaa
