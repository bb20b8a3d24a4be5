/- The small functions of tracks: within, sizeOk, edgeOk, inRange, total, sum, cmp.Compare. -/
import Derived.Test.YtjebjcabggmaiaaProg
import Derived.Test.YtjebjcabggmaiaaS1
import Derived.Test.YtjebjcabggmaiaaTTrack
import Derived.Deep.QuietTactic
import Derived.BigQuiet
import Derived.Deep.RegionHeld3
import Derived.Lib.MinMax
import Derived.StillTailTactics
import Derived.IntWalk
namespace Go.Proofs.Ytjebjcabggmaiaa
set_option linter.unusedVariables false
set_option linter.unusedSimpArgs false
open Go.RowKit Go.Lib

set_option maxHeartbeats 400000 in
theorem within_any (a l h : Int) (w : World) :
    Calls Try.prog 30 #[.int .i64 a, .int .i64 l, .int .i64 h] w fun e w' => e = .returned (.bool (inR a l h)) ∧ w = w' := by
  by_cases h1 : l ≤ a <;> by_cases h2 : a ≤ h
  all_goals
    go_enter Try.func30, Try.ntmps30
    go_wp2
    go_ret
    exact ⟨by simp [inR, h1, h2], rfl⟩
set_option maxHeartbeats 400000 in
theorem inRange_any (a l h : Int) (w : World) :
    Calls Try.prog 19 #[.int .i64 a, .int .i64 l, .int .i64 h] w fun e w' => e = .returned (.bool (inR a l h)) ∧ w = w' := by
  by_cases h1 : l ≤ a <;> by_cases h2 : a ≤ h
  all_goals
    go_enter Try.func19, Try.ntmps19
    go_wp2
    go_ret
    exact ⟨by simp [inR, h1, h2], rfl⟩
set_option maxHeartbeats 400000 in
theorem sizeOk_any (n : Int) (w : World) : Calls Try.prog 35 #[.int .i64 n] w fun e w' => e = .returned (.bool (inR n 0 200000)) ∧ w = w' := by
  go_enter Try.func35, Try.ntmps35
  go_wp2_with fail
  refine (within_any _ _ _ _).mono ?_
  rintro e w' ⟨rfl, rfl⟩
  go_wp2
  go_ret
  exact ⟨rfl, rfl⟩
set_option maxHeartbeats 400000 in
theorem edgeOk_any (n : Int) (w : World) : Calls Try.prog 36 #[.int .i64 n] w fun e w' => e = .returned (.bool (inR n 0 50)) ∧ w = w' := by
  go_enter Try.func36, Try.ntmps36
  go_wp2_with fail
  refine (within_any _ _ _ _).mono ?_
  rintro e w' ⟨rfl, rfl⟩
  go_wp2
  go_ret
  exact ⟨rfl, rfl⟩

def cmpI (a b : Int) : Int := if a < b then -1 else if b < a then 1 else 0
theorem cmpI_bd (a b : Int) : -1 ≤ cmpI a b ∧ cmpI a b ≤ 1 := by
  unfold cmpI
  split
  · omega
  · split <;> omega
theorem cmpI_lt (a b : Int) : cmpI a b < 0 ↔ a < b := by
  unfold cmpI
  split
  · omega
  · split <;> omega
theorem isNaN_any (a : Int) (w : World) : Calls Try.prog 46 #[.int .i64 a] w fun e w' => e = .returned (.bool false) ∧ w' = w := by
  have h : (a != a) = false := by simp
  go_enter Try.func46, Try.ntmps46
  go_wp2
  go_ret
  exact ⟨rfl, rfl⟩
set_option maxHeartbeats 1000000 in
theorem compare_any (a b : Int) (w : World) : Calls Try.prog 43 #[.int .i64 a, .int .i64 b] w fun e w' => e = .returned (.int .i64 (cmpI a b)) ∧ w' = w := by
  unfold cmpI
  by_cases h1 : a < b
  · rw [if_pos h1]
    go_enter Try.func43, Try.ntmps43
    go_wp2_with (go_at_call 46; refine (isNaN_any _ _).mono ?_; rintro e w' ⟨rfl, rfl⟩)
    go_ret
    exact ⟨rfl, rfl⟩
  · rw [if_neg h1]
    by_cases h2 : b < a
    · rw [if_pos h2]
      go_enter Try.func43, Try.ntmps43
      go_wp2_with (go_at_call 46; refine (isNaN_any _ _).mono ?_; rintro e w' ⟨rfl, rfl⟩)
      go_ret
      exact ⟨rfl, rfl⟩
    · rw [if_neg h2]
      go_enter Try.func43, Try.ntmps43
      go_wp2_with (go_at_call 46; refine (isNaN_any _ _).mono ?_; rintro e w' ⟨rfl, rfl⟩)
      go_ret
      exact ⟨rfl, rfl⟩

/-- Sizes of which sums fit. -/
def smallI (L : List Int) : Prop := ∀ x ∈ L, 0 ≤ x ∧ x ≤ 1000000
theorem sums_bd {L : List Int} (h : smallI L) (hL : L.length ≤ 1000) (i : Nat) : 0 ≤ (L.take i).sum ∧ (L.take i).sum ≤ 1000000000 := by
  have h1 := sum_nonneg (L := L.take i) (fun x hx => (h x (List.mem_of_mem_take hx)).1)
  have h2 := sum_le (m := 1000000) (by omega) (L := L.take i) (fun x hx => (h x (List.mem_of_mem_take hx)).2)
  have h3 : (L.take i).length ≤ 1000 := by rw [List.length_take]; omega
  refine ⟨h1, ?_⟩
  omega

set_option maxHeartbeats 1000000 in
theorem total_any (A : Option Addr) (L : List Int) (n c : Nat) (w : World) (hn : n = L.length) (hL : L.length ≤ 1000) (hb : smallI L) (h : Arr w w.heap.size 1 encI A L) :
    Calls Try.prog 31 #[.slice A n c] w fun e w' => e = .returned (.int .i64 L.sum) ∧ w = w' := by
  subst hn
  have H := hid h
  have HS := hid (sums_bd hb hL)
  have HEND : Aside ((L.take L.length).sum = L.sum) := by show _ = _; rw [List.take_length]
  have HNX := hid (fun i x (hx : L[i]? = some x) => sum_take_next hx)
  have H0 : Aside ((0 : Int) = (L.take 0).sum) := by show _ = _; simp
  have HB := hid hb
  clear h hb
  generalize L.sum = S at *
  go_enter Try.func31, Try.ntmps31
  go_wp2
  go_loopg [3, 5, 8] L.length (fun gg s3 _ s8 wr => ∃ (i : Nat) (s : Int), i ≤ L.length ∧ L.length - i ≤ gg ∧ s3 = .int .i64 s ∧ s8 = .int .i64 i ∧ Aside (s = (L.take i).sum) ∧ Aside (wr = w))
  case atStart => exact ⟨0, 0, Nat.zero_le _, by omega, rfl, rfl, H0, rfl⟩
  case round =>
    obtain ⟨i, s, hi, hg, rfl, rfl, E, W⟩ := hrel
    obtain rfl := W.out
    by_cases hlt : i < L.length
    · obtain ⟨b, off, x, rfl, hb, hx, c1⟩ := H.out.at1 hlt
      obtain ⟨b1, b2⟩ := HB.out x (List.mem_of_getElem? hx)
      have hsb := HS.out i
      have hnx := HNX.out i x hx
      rw [← E.out] at hsb hnx
      obtain ⟨s1, s2⟩ := hsb
      have HX := hid hnx
      clear hx hnx
      go_wp2
      go_roundg (L.length - (i + 1))
      case measure => omega
      case rel => exact ⟨i + 1, s + x, by omega, by omega, rfl, by go_num, (show _ = _ from HX.out.symm), rfl⟩
    · have hil : i = L.length := by omega
      subst hil
      have hr := HEND.out
      rw [← E.out] at hr
      subst hr
      go_wp2
      go_ret
      exact ⟨rfl, rfl⟩
set_option maxHeartbeats 1000000 in
theorem sumS_any (A : Option Addr) (L : List Int) (n c : Nat) (w : World) (hn : n = L.length) (hL : L.length ≤ 1000) (hb : smallI L) (h : Arr w w.heap.size 1 encI A L) :
    Calls Try.prog 32 #[.slice A n c] w fun e w' => e = .returned (.int .i64 L.sum) ∧ Below w.heap.size w w' := by
  subst hn
  have H := hid h
  have HS := hid (sums_bd hb hL)
  have HEND : Aside ((L.take L.length).sum = L.sum) := by show _ = _; rw [List.take_length]
  have HNX := hid (fun i x (hx : L[i]? = some x) => sum_take_next hx)
  have H0 : Aside ((0 : Int) = (L.take 0).sum) := by show _ = _; simp
  have HB := hid hb
  clear h hb
  generalize L.sum = S at *
  go_enter Try.func32, Try.ntmps32
  go_wp2
  go_loopg [3, 4] L.length (fun gg s3 s4 wr => ∃ (i : Nat) (s : Int), i ≤ L.length ∧ L.length - i ≤ gg ∧ s3 = .int .i64 s ∧ s4 = .int .i64 i ∧ Aside (s = (L.take i).sum) ∧ Aside (Below w.heap.size w wr))
  case atStart => exact ⟨0, 0, Nat.zero_le _, by omega, rfl, rfl, H0, Below.refl _ _⟩
  case round =>
    obtain ⟨i, s, hi, hg, rfl, rfl, E, W⟩ := hrel
    by_cases hlt : i < L.length
    · obtain ⟨b, off, x, rfl, hb, hx, c1⟩ := (H.out.below W.out).at1 hlt
      obtain ⟨b1, b2⟩ := HB.out x (List.mem_of_getElem? hx)
      have hsb := HS.out i
      have hnx := HNX.out i x hx
      rw [← E.out] at hsb hnx
      obtain ⟨s1, s2⟩ := hsb
      have HX := hid hnx
      clear hx hnx
      go_wp2
      go_roundg (L.length - (i + 1))
      case measure => omega
      case rel => exact ⟨i + 1, s + x, by omega, by omega, rfl, by go_num, (show _ = _ from HX.out.symm), W⟩
    · have hil : i = L.length := by omega
      subst hil
      have hr := HEND.out
      rw [← E.out] at hr
      subst hr
      go_wp2
      go_ret
      exact ⟨rfl, W.out⟩
end Go.Proofs.Ytjebjcabggmaiaa
