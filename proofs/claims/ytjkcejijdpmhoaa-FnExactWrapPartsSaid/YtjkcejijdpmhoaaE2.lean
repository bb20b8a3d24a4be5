/- Marks on a list of parts. -/
import Derived.Test.YtjkcejijdpmhoaaE
import Derived.Test.YtjkcejijdpmhoaaI
namespace Go.Proofs.Ytjkcejijdpmhoaa
open Go.RowKit Go.Lib

/-- n marked structures, from m on. -/
def marksPart (m : Int) (n : Nat) : List (Int × Int) := (List.range n).map fun i : Nat => ⟨m + 2 * (i : Int), m + 2 * (i : Int) + 1⟩
theorem marksPart_len (m : Int) (n : Nat) : (marksPart m n).length = n := by simp [marksPart]
theorem marksPart_at {m : Int} {n i : Nat} (h : i < n) : (marksPart m n)[i]? = some (⟨m + 2 * (i : Int), m + 2 * (i : Int) + 1⟩ : (Int × Int)) := by simp [marksPart, h]
set_option maxHeartbeats 4000000 in
theorem markPartS_any (A : Option Addr) (L : List (Int × Int)) (c base : Nat) (w : World) (hL : L.length ≤ 1048576) (h : OwnA w base 2 encP A L) :
    Calls Try.prog 30 #[.slice A L.length c, .int .i64 1] w fun e w' => e = .returned (.int .i64 (1 + 2 * (L.length : Int))) ∧ OwnA w' base 2 encP A (marksPart 1 L.length) ∧ Marked L.length A w w' := by
  have R0 : Aside (OwnA w base 2 encP A (marksPart 1 0 ++ L.drop 0) ∧ Marked L.length A w w) := ⟨by simpa [marksPart] using h, Marked.refl _ _ _⟩
  clear h
  go_enter Try.func30, Try.ntmps30
  go_wp2
  go_loopg [1, 5] L.length (fun gg s1 s5 wr => ∃ i : Nat, i ≤ L.length ∧ L.length - i ≤ gg ∧ s5 = .int .i64 i ∧ s1 = .int .i64 (1 + 2 * (i : Int)) ∧ Aside (OwnA wr base 2 encP A (marksPart 1 i ++ L.drop i) ∧ Marked L.length A w wr))
  case atStart => exact ⟨0, Nat.zero_le _, by omega, rfl, rfl, R0⟩
  case round =>
    obtain ⟨i, hi, hg, rfl, rfl, R⟩ := hrel
    clear R0
    by_cases hlt : i < L.length
    · have hx : (marksPart 1 i ++ L.drop i)[i]? = some L[i] := by
        rw [List.getElem?_append_right (by rw [marksPart_len]; omega), marksPart_len, Nat.sub_self, List.getElem?_drop]
        simp [hlt]
      have hil := (List.getElem?_eq_some_iff.1 hx).1
      have hnext : (marksPart 1 i ++ L.drop i).set i (⟨1 + 2 * (i : Int), 1 + 2 * (i : Int) + 1⟩ : (Int × Int)) = marksPart 1 (i + 1) ++ L.drop (i + 1) := by
        rw [List.set_append_right _ _ (by rw [marksPart_len]; omega), marksPart_len, Nat.sub_self, List.drop_eq_getElem_cons hlt, List.set_cons_zero]
        simp [marksPart, List.range_succ]
      generalize L[i] = p at hx
      obtain ⟨g, off, rfl, hgb, hg2, hc, hf⟩ := R.out.1.at_ hx
      have c0 : wr.cell? ⟨g, off + i * 2, none⟩ = some (.int .i64 p.1) := by simpa using hc 0 _ rfl
      have f0 := hf (off + i * 2)
      have c1 : wr.cell? ⟨g, off + i * 2 + 1, none⟩ = some (.int .i64 p.2) := by simpa using hc 1 _ rfl
      have f1 := hf (off + i * 2 + 1)
      have s0 := R.out.1.set_ (k := 2) (fun _ => rfl) (j := 0) (y' := (⟨1 + 2 * (i : Int), p.2⟩ : (Int × Int))) (v := .int .i64 (1 + 2 * (i : Int))) hx (by omega) rfl
      have s1 := s0.set_ (k := 2) (fun _ => rfl) (j := 1) (y' := (⟨1 + 2 * (i : Int), 1 + 2 * (i : Int) + 1⟩ : (Int × Int))) (v := .int .i64 (1 + 2 * (i : Int) + 1)) (List.getElem?_set_self (by simpa using hil)) (by omega) rfl
      simp only [List.set_set] at s1
      rw [hnext] at s1
      have S2 := hid (show OwnA ((wr.setCell ⟨g, off + i * 2, none⟩ (.int .i64 (1 + 2 * (i : Int)))).setCell ⟨g, off + i * 2 + 1, none⟩ (.int .i64 (1 + 2 * (i : Int) + 1))) base 2 encP (some ⟨g, off, none⟩) (marksPart 1 (i + 1) ++ L.drop (i + 1)) by simpa using s1)
      have M2 := hid ((R.out.2.set_ (o := off + i * 2) (by omega) (.int .i64 (1 + 2 * (i : Int)))).set_ (o := off + i * 2 + 1) (by omega) (.int .i64 (1 + 2 * (i : Int) + 1)))
      clear hx hc hf hnext hil s0 s1
      go_wp2
      go_roundg (L.length - (i + 1))
      case measure => omega
      case rel => exact ⟨i + 1, by omega, by omega, by go_num, by go_num, S2.out, M2.out⟩
    · have : i = L.length := by omega
      subst this
      go_wp2
      go_ret
      have h1 := R.out.1
      rw [List.drop_length, List.append_nil] at h1
      exact ⟨rfl, h1, R.out.2⟩
end Go.Proofs.Ytjkcejijdpmhoaa
