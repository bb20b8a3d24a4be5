/- The exact laws' helpers for parts: size, copy, comparison. -/
import Derived.Test.YtjkcejijdpmhoaaV2
import Derived.Deep.QuietTactic
import Derived.BigQuiet
import Derived.Deep.RegionHeld3
namespace Go.Proofs.Ytjkcejijdpmhoaa
open Go.RowKit Go.Lib

theorem eltPart : Elt Try.prog 23 38 2 16 := Elt.mk' Try.underlying23 (z := .agg #[.int .i64 0, .int .i64 0]) (by kernel_rfl) rfl (by omega) (by omega)

set_option maxHeartbeats 400000 in
theorem szPartS_any (A : Option Addr) (n c : Nat) (w : World) (hn : n ≤ 9223372036854775807) :
    Calls Try.prog 21 #[.slice A n c, .int .i64 1048576] w fun e w' => e = .returned (.int .i64 (if n ≤ 1048576 then 1048576 - (n : Int) else -1)) ∧ w = w' := by
  by_cases h : n ≤ 1048576
  · rw [if_pos h]
    go_enter Try.func21, Try.ntmps21
    go_wp2
    go_ret
    exact ⟨rfl, rfl⟩
  · rw [if_neg h]
    go_enter Try.func21, Try.ntmps21
    go_wp2
    go_ret
    exact ⟨rfl, rfl⟩

set_option maxHeartbeats 400000 in
theorem toPart_any (x y : Int) (w : World) :
    Calls Try.prog 53 #[.agg #[.int .i64 x, .int .i64 y]] w fun e w' => e = .returned (.agg #[.int .i64 x, .int .i64 y]) ∧ Below w.heap.size w w' := by
  go_enter Try.func53, Try.ntmps53
  go_wp2
  refine bodyPost_ret (v := .agg #[.int .i64 x, .int .i64 y]) (by simp [results, Try.results53, go_sem]) rfl ⟨rfl, ?_⟩
  exact below_al (below_al (below_al (Below.refl _ _) rfl _) rfl _) rfl _

theorem fill_next {α : Type} {L : List α} {n i : Nat} {x y : α} (hx : L[i]? = some x) (hn : n = L.length) : (L.take i ++ List.replicate (n - i) y).set i x = L.take (i + 1) ++ List.replicate (n - (i + 1)) y := by
  obtain ⟨hi, rfl⟩ := List.getElem?_eq_some_iff.1 hx
  rw [List.set_append_right _ _ (by rw [List.length_take]; omega), List.length_take, show i - min i L.length = 0 by omega, show n - i = (n - (i + 1)) + 1 by omega, List.replicate_succ, List.set_cons_zero,
    List.take_succ_eq_append_getElem hi, List.append_assoc]
  rfl
theorem fill_at {α : Type} {L : List α} {n i : Nat} {y : α} (hi : i < L.length) (hn : n = L.length) : (L.take i ++ List.replicate (n - i) y)[i]? = some y := by
  rw [List.getElem?_append_right (by rw [List.length_take]; omega), List.length_take, List.getElem?_replicate, if_pos (by omega)]

theorem own_set2 {w : World} {base g i : Nat} {L : List (Int × Int)} {p : Int × Int} (h : OwnA w base 2 encP (some ⟨g, 0, none⟩) L) (hy : L[i]? = some p) (x y : Int) :
    OwnA ((w.setCell ⟨g, i * 2, none⟩ (.int .i64 x)).setCell ⟨g, i * 2 + 1, none⟩ (.int .i64 y)) base 2 encP (some ⟨g, 0, none⟩) (L.set i (x, y)) := by
  have hi := (List.getElem?_eq_some_iff.1 hy).1
  have h1 := h.set_ (k := 2) (fun _ => rfl) (j := 0) (y' := (x, p.2)) (v := .int .i64 x) hy (by omega) rfl
  have h2 := h1.set_ (k := 2) (fun _ => rfl) (j := 1) (y' := (x, y)) (v := .int .i64 y) (List.getElem?_set_self hi) (by omega) rfl
  rw [List.set_set] at h2
  simpa using h2

/-- What a copy leaves. -/
def Copied {α : Type} (k : Nat) (enc : α → List Value) (L : List α) (w : World) (e : Ending) (w' : World) : Prop :=
  ∃ A c, e = .returned (.slice A L.length c) ∧ L.length ≤ c ∧ c ≤ maxLen ∧ OwnA w' w.heap.size k enc A L ∧ Below w.heap.size w w'

set_option maxHeartbeats 1000000 in
theorem toPartS_any (A : Option Addr) (L : List (Int × Int)) (c : Nat) (w : World) (hL : L.length ≤ 1048576) (h : Arr w w.heap.size 2 encP A L) :
    Calls Try.prog 22 #[.slice A L.length c] w (Copied 2 encP L w) := by
  have H := hid h
  clear h
  go_enter Try.func22, Try.ntmps22
  go_wp2_with (at_make; refine wpList_makeE _ eltPart (.agg #[.int .i64 0, .int .i64 0]) (by kernel_rfl) encP (fun _ => rfl) (0, 0) rfl rfl (.tmp 6) (.tmp 6) rfl L.length rfl rfl (by omega) ?_; intro w1 own1 gr1 sz1)
  have R0 : Aside (OwnA w1 w.heap.size 2 encP (some ⟨w.heap.size, 0, none⟩) (L.take 0 ++ List.replicate (L.length - 0) (0, 0)) ∧ Below w.heap.size w w1) := ⟨by simpa using own1, (Below.refl _ _).grown gr1 (Nat.le_refl _) (by simp)⟩
  clear own1 gr1 sz1
  go_loopg [4] L.length (fun gg s4 wr => ∃ i : Nat, i ≤ L.length ∧ L.length - i ≤ gg ∧ s4 = .int .i64 i ∧ Aside (OwnA wr w.heap.size 2 encP (some ⟨w.heap.size, 0, none⟩) (L.take i ++ List.replicate (L.length - i) (0, 0)) ∧ Below w.heap.size w wr))
  case atStart => exact ⟨0, Nat.zero_le _, by omega, rfl, R0⟩
  case round =>
    obtain ⟨i, hi, hg, rfl, R⟩ := hrel
    by_cases hlt : i < L.length
    · obtain ⟨b, off, x, y, rfl, hb, hx, c1, c2⟩ := (H.out.below R.out.2).at2 hlt
      have HX := hid hx
      clear hx R0
      go_wp2_with fail
      refine (toPart_any x y _).mono ?_
      rintro e w2 ⟨rfl, hb2⟩
      have o2 := R.out.1.next hb2
      obtain ⟨g, of, e1, _, hg2, hc, hf⟩ := o2.at_ (fill_at (y := ((0 : Int), (0 : Int))) hlt rfl)
      injection e1 with e1
      injection e1 with e1 e2
      subst e1 e2
      have d1 : w2.cell? ⟨w.heap.size, i * 2, none⟩ = some (.int .i64 0) := by simpa using hc 0 _ rfl
      have d2 : w2.cell? ⟨w.heap.size, i * 2 + 1, none⟩ = some (.int .i64 0) := by simpa using hc 1 _ rfl
      have f1 := hf (i * 2)
      have f2 := hf (i * 2 + 1)
      have O2 := hid o2
      have HB2 := hid hb2
      clear o2 hb2 hc hf
      go_wp2
      go_roundg (L.length - (i + 1))
      case measure => omega
      case rel =>
        refine ⟨i + 1, by omega, by omega, by go_num, ?_, ?_⟩
        · have := own_set2 O2.out (fill_at (y := ((0 : Int), (0 : Int))) hlt rfl) x y
          rw [fill_next HX.out rfl] at this
          exact this
        · exact ((R.out.2.trans (HB2.out.mono R.out.2.size)).setCell (p := ⟨w.heap.size, _, none⟩) (Nat.le_refl _) _).setCell (p := ⟨w.heap.size, _, none⟩) (Nat.le_refl _) _
    · have : i = L.length := by omega
      subst this
      go_wp2
      go_ret
      refine ⟨_, _, rfl, Nat.le_refl _, by simp only [maxLen]; omega, ?_, R.out.2⟩
      have := R.out.1
      simpa using this

set_option maxHeartbeats 400000 in
theorem eqPart_any (a b x y : Int) (w : World) :
    Calls Try.prog 54 #[.agg #[.int .i64 a, .int .i64 b], .agg #[.int .i64 x, .int .i64 y]] w fun e w' => e = .returned (.bool (decide ((a, b) = (x, y)))) ∧ Below w.heap.size w w' := by
  by_cases h1 : a = x
  · by_cases h2 : b = y
    · subst h1 h2
      go_enter Try.func54, Try.ntmps54
      go_wp2
      go_ret
      exact ⟨by simp, below_al (below_al (Below.refl _ _) rfl _) rfl _⟩
    · have h2' : (b == y) = false := by rw [beq_eq_false_iff_ne]; exact h2
      have h3' : (b != y) = true := by rw [bne_iff_ne]; exact h2
      subst h1
      go_enter Try.func54, Try.ntmps54
      go_wp2
      go_ret
      exact ⟨by simp [h2], below_al (below_al (Below.refl _ _) rfl _) rfl _⟩
  · have h2' : (a == x) = false := by rw [beq_eq_false_iff_ne]; exact h1
    have h3' : (a != x) = true := by rw [bne_iff_ne]; exact h1
    go_enter Try.func54, Try.ntmps54
    go_wp2
    go_ret
    exact ⟨by simp [h1], below_al (below_al (Below.refl _ _) rfl _) rfl _⟩

set_option maxHeartbeats 1000000 in
theorem eqPartS_same (A A' : Option Addr) (L : List (Int × Int)) (c c' : Nat) (w : World) (hL : L.length ≤ 1048576) (h : Arr w w.heap.size 2 encP A L) (h' : Arr w w.heap.size 2 encP A' L) :
    Calls Try.prog 23 #[.slice A L.length c, .slice A' L.length c'] w fun e w' => e = .returned (.bool true) ∧ Below w.heap.size w w' := by
  have H := hid h
  have H' := hid h'
  clear h h'
  go_enter Try.func23, Try.ntmps23
  go_wp2
  go_loopg [5] L.length (fun gg s5 wr => ∃ i : Nat, i ≤ L.length ∧ L.length - i ≤ gg ∧ s5 = .int .i64 i ∧ Aside (Below w.heap.size w wr))
  case atStart => exact ⟨0, Nat.zero_le _, by omega, rfl, Below.refl _ _⟩
  case round =>
    obtain ⟨i, hi, hg, rfl, R⟩ := hrel
    by_cases hlt : i < L.length
    · obtain ⟨b, off, x, y, rfl, hb, hx, c1, c2⟩ := (H.out.below R.out).at2 hlt
      obtain ⟨b', off', x', y', rfl, hb', hx', c1', c2'⟩ := (H'.out.below R.out).at2 hlt
      have e := hx.symm.trans hx'
      injection e with e
      injection e with e1 e2
      subst e1 e2
      clear hx hx'
      have i1 : (0 : Int) ≤ (i : Int) := by omega
      have i2 : (i : Int) < (L.length : Int) := by omega
      have hbw : b < wr.heap.size := Nat.lt_of_lt_of_le hb R.out.size
      have hbw' : b' < wr.heap.size := Nat.lt_of_lt_of_le hb' R.out.size
      have hc := fun W => eqPart_any x y x y W
      simp only [decide_true] at hc
      go_wp2_with fail
      go_region_held3 (fun w' => w'.cell? ⟨b, off + i * 2, none⟩ = some (.int .i64 x) ∧ w'.cell? ⟨b, off + i * 2 + 1, none⟩ = some (.int .i64 y) ∧ w'.cell? ⟨b', off' + i * 2, none⟩ = some (.int .i64 x) ∧ w'.cell? ⟨b', off' + i * 2 + 1, none⟩ = some (.int .i64 y)) (go_keep)
        ((go_at_call 54; refine (hc _).mono ?_; rintro e w2 ⟨rfl, hb2⟩; have k1 := (hb2.cell (p := ⟨b, off + i * 2, none⟩) hbw).trans c1; have k2 := (hb2.cell (p := ⟨b, off + i * 2 + 1, none⟩) hbw).trans c2; have k3 := (hb2.cell (p := ⟨b', off' + i * 2, none⟩) hbw').trans c1'; have k4 := (hb2.cell (p := ⟨b', off' + i * 2 + 1, none⟩) hbw').trans c2'; have HB2 : Aside (Below wr.heap.size wr w2) := below_undrew hb2; clear hb2; dsimp only))
      go_wp2
      go_roundg (L.length - (i + 1))
      case measure => omega
      case rel => exact ⟨i + 1, by omega, by omega, by go_num, R.out.trans (Below.mono (HB2.out) R.out.size)⟩
    · have : i = L.length := by omega
      subst this
      go_wp2
      go_ret
      exact ⟨rfl, R.out⟩
end Go.Proofs.Ytjkcejijdpmhoaa
