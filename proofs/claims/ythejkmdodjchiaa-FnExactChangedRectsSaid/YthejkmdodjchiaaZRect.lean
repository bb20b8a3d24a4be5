/- Marking a list of impl.Rect from any number on. -/
import Derived.Test.YthejkmdodjchiaaYRect
namespace Go.Proofs.Ythejkmdodjchiaa
open Go.RowKit Go.Lib

set_option maxHeartbeats 4000000 in
theorem markRectS_from (m : Int) (hm0 : 0 ≤ m) (hm1 : m ≤ 1000000000) (A : Option Addr) (L : List RectD) (c base : Nat) (w : World) (hL : L.length ≤ 1048576) (h : OwnA w base 4 encRect A L) :
    Calls Try.prog 31 #[.slice A L.length c, .int .i64 m] w fun e w' => e = .returned (.int .i64 (m + 4 * (L.length : Int))) ∧ OwnA w' base 4 encRect A (marksRect m L.length) ∧ Marked L.length A w w' := by
  have R0 : Aside (OwnA w base 4 encRect A (marksRect m 0 ++ L.drop 0) ∧ Marked L.length A w w) := ⟨by simpa [marksRect] using h, Marked.refl _ _ _⟩
  clear h
  go_enter Try.func31, Try.ntmps31
  go_wp2
  go_loopg [1, 5] L.length (fun gg s1 s5 wr => ∃ i : Nat, i ≤ L.length ∧ L.length - i ≤ gg ∧ s5 = .int .i64 i ∧ s1 = .int .i64 (m + 4 * (i : Int)) ∧ Aside (OwnA wr base 4 encRect A (marksRect m i ++ L.drop i) ∧ Marked L.length A w wr))
  case atStart => exact ⟨0, Nat.zero_le _, by omega, rfl, by go_num, R0⟩
  case round =>
    obtain ⟨i, hi, hg, rfl, rfl, R⟩ := hrel
    clear R0
    by_cases hlt : i < L.length
    · have hx : (marksRect m i ++ L.drop i)[i]? = some L[i] := by
        rw [List.getElem?_append_right (by rw [marksRect_len]; omega), marksRect_len, Nat.sub_self, List.getElem?_drop]
        simp [hlt]
      have hil := (List.getElem?_eq_some_iff.1 hx).1
      have hnext : (marksRect m i ++ L.drop i).set i (⟨m + 4 * (i : Int), m + 4 * (i : Int) + 1, m + 4 * (i : Int) + 2, m + 4 * (i : Int) + 3⟩ : RectD) = marksRect m (i + 1) ++ L.drop (i + 1) := by
        rw [List.set_append_right _ _ (by rw [marksRect_len]; omega), marksRect_len, Nat.sub_self, List.drop_eq_getElem_cons hlt, List.set_cons_zero]
        simp [marksRect, List.range_succ]
      generalize L[i] = p at hx
      obtain ⟨g, off, rfl, hgb, hg2, hc, hf⟩ := R.out.1.at_ hx
      have c0 : wr.cell? ⟨g, off + i * 4, none⟩ = some (.int .i64 p.X) := by simpa using hc 0 _ rfl
      have f0 := hf (off + i * 4)
      have c1 : wr.cell? ⟨g, off + i * 4 + 1, none⟩ = some (.int .i64 p.Y) := by simpa using hc 1 _ rfl
      have f1 := hf (off + i * 4 + 1)
      have c2 : wr.cell? ⟨g, off + i * 4 + 2, none⟩ = some (.int .i64 p.W) := by simpa using hc 2 _ rfl
      have f2 := hf (off + i * 4 + 2)
      have c3 : wr.cell? ⟨g, off + i * 4 + 3, none⟩ = some (.int .i64 p.H) := by simpa using hc 3 _ rfl
      have f3 := hf (off + i * 4 + 3)
      have s0 := R.out.1.set_ (k := 4) (fun _ => rfl) (j := 0) (y' := (⟨m + 4 * (i : Int), p.Y, p.W, p.H⟩ : RectD)) (v := .int .i64 (m + 4 * (i : Int))) hx (by omega) rfl
      have s1 := s0.set_ (k := 4) (fun _ => rfl) (j := 1) (y' := (⟨m + 4 * (i : Int), m + 4 * (i : Int) + 1, p.W, p.H⟩ : RectD)) (v := .int .i64 (m + 4 * (i : Int) + 1)) (List.getElem?_set_self (by simpa using hil)) (by omega) rfl
      have s2 := s1.set_ (k := 4) (fun _ => rfl) (j := 2) (y' := (⟨m + 4 * (i : Int), m + 4 * (i : Int) + 1, m + 4 * (i : Int) + 2, p.H⟩ : RectD)) (v := .int .i64 (m + 4 * (i : Int) + 2)) (List.getElem?_set_self (by simpa using hil)) (by omega) rfl
      have s3 := s2.set_ (k := 4) (fun _ => rfl) (j := 3) (y' := (⟨m + 4 * (i : Int), m + 4 * (i : Int) + 1, m + 4 * (i : Int) + 2, m + 4 * (i : Int) + 3⟩ : RectD)) (v := .int .i64 (m + 4 * (i : Int) + 3)) (List.getElem?_set_self (by simpa using hil)) (by omega) rfl
      simp only [List.set_set] at s3
      rw [hnext] at s3
      have S2 := hid (show OwnA ((((wr.setCell ⟨g, off + i * 4, none⟩ (.int .i64 (m + 4 * (i : Int)))).setCell ⟨g, off + i * 4 + 1, none⟩ (.int .i64 (m + 4 * (i : Int) + 1))).setCell ⟨g, off + i * 4 + 2, none⟩ (.int .i64 (m + 4 * (i : Int) + 2))).setCell ⟨g, off + i * 4 + 3, none⟩ (.int .i64 (m + 4 * (i : Int) + 3))) base 4 encRect (some ⟨g, off, none⟩) (marksRect m (i + 1) ++ L.drop (i + 1)) by simpa using s3)
      have M2 := hid ((((R.out.2.set_ (o := off + i * 4) (by omega) (.int .i64 (m + 4 * (i : Int)))).set_ (o := off + i * 4 + 1) (by omega) (.int .i64 (m + 4 * (i : Int) + 1))).set_ (o := off + i * 4 + 2) (by omega) (.int .i64 (m + 4 * (i : Int) + 2))).set_ (o := off + i * 4 + 3) (by omega) (.int .i64 (m + 4 * (i : Int) + 3)))
      clear hx hc hf hnext hil s0 s1 s2 s3
      go_wp2
      go_roundg (L.length - (i + 1))
      case measure => omega
      case rel => exact ⟨i + 1, by omega, by omega, by go_num, by go_num, by rw [show (m + 4 * (i : Int) + 1 + 1 + 1) = m + 4 * (i : Int) + 3 from by omega, show (m + 4 * (i : Int) + 1 + 1) = m + 4 * (i : Int) + 2 from by omega]; exact S2.out, by rw [show (m + 4 * (i : Int) + 1 + 1 + 1) = m + 4 * (i : Int) + 3 from by omega, show (m + 4 * (i : Int) + 1 + 1) = m + 4 * (i : Int) + 2 from by omega]; exact M2.out⟩
    · have : i = L.length := by omega
      subst this
      go_wp2
      go_ret
      have h1 := R.out.1
      rw [List.drop_length, List.append_nil] at h1
      exact ⟨rfl, h1, R.out.2⟩
end Go.Proofs.Ythejkmdodjchiaa
