/- impl's rectangles: valid, between, meet, MeetRects. -/
import Derived.Test.YthejkmdodjchiaaProg
import Derived.Test.YthejkmdodjchiaaN1
import Derived.Deep.QuietTactic
import Derived.BigQuiet
import Derived.Deep.RegionHeld3
import Derived.Lib.MinMax
import Derived.StillTailTactics
namespace Go.Proofs.Ythejkmdodjchiaa
set_option linter.unusedVariables false
set_option linter.unusedSimpArgs false
open Go.RowKit Go.Lib


theorem withinR_any (n a b : Int) (w : World) : Calls Try.prog 68 #[.int .i64 n, .int .i64 a, .int .i64 b] w fun e w' => e = .returned (.bool (inR n a b)) ∧ w = w' := by
  by_cases h1 : a ≤ n
  · by_cases h2 : n ≤ b
    · have e : inR n a b = true := inR_iff.2 ⟨h1, h2⟩
      rw [e]
      go_enter Try.func68, Try.ntmps68
      go_wp2
      go_ret
      exact ⟨by simp, rfl⟩
    · have e : inR n a b = false := by rw [Bool.eq_false_iff]; intro h; exact h2 (inR_iff.1 h).2
      rw [e]
      go_enter Try.func68, Try.ntmps68
      go_wp2
      go_ret
      exact ⟨by simp, rfl⟩
  · have e : inR n a b = false := by rw [Bool.eq_false_iff]; intro h; exact h1 (inR_iff.1 h).1
    rw [e]
    go_enter Try.func68, Try.ntmps68
    go_wp2
    go_ret
    exact ⟨by simp, rfl⟩
theorem sizeOk_any (n : Int) (w : World) : Calls Try.prog 69 #[.int .i64 n] w fun e w' => e = .returned (.bool (inR n 0 200000)) ∧ w = w' := by
  go_enter Try.func69, Try.ntmps69
  go_wp2_with (go_at_call 68; refine (withinR_any _ _ _ _).mono ?_; rintro e w' ⟨rfl, rfl⟩)
  go_ret
  exact ⟨rfl, rfl⟩

set_option maxHeartbeats 1000000 in
theorem validR_any (r : RectD) (w : World) : Calls Try.prog 52 #[.agg #[.int .i64 r.X, .int .i64 r.Y, .int .i64 r.W, .int .i64 r.H]] w fun e w' => e = .returned (.bool (validR r)) ∧ Below w.heap.size w w' := by
  obtain ⟨X, Y, W, H⟩ := r
  unfold validR
  simp only
  have K : ∀ o, Below w.heap.size w (w.alloc o) := fun o => below_al (Below.refl _ _) rfl _
  cases h1 : inR X (-100000) 100000 <;> cases h2 : inR Y (-100000) 100000 <;> cases h3 : inR W 0 200000
  all_goals
    have H1 := hid h1
    have H2 := hid h2
    have H3 := hid h3
    clear h1 h2 h3
    go_enter Try.func52, Try.ntmps52
    go_wp2_with (first | (go_at_call 68; refine (withinR_any _ _ _ _).mono ?_; rintro e w' ⟨rfl, rfl⟩; first | rw [H1.out] | rw [H2.out]) | (go_at_call 69; refine (sizeOk_any _ _).mono ?_; rintro e w' ⟨rfl, rfl⟩; try rw [H3.out]))
    go_ret
    exact ⟨by simp, K _⟩

theorem between_any (l t r b : Int) (w : World) (h1 : -1000000000 ≤ l ∧ l ≤ 1000000000) (h2 : -1000000000 ≤ t ∧ t ≤ 1000000000) (h3 : -1000000000 ≤ r ∧ r ≤ 1000000000) (h4 : -1000000000 ≤ b ∧ b ≤ 1000000000) :
    Calls Try.prog 70 #[.int .i64 l, .int .i64 t, .int .i64 r, .int .i64 b] w fun e w' => e = .returned (.agg #[.int .i64 l, .int .i64 t, .int .i64 (r - l), .int .i64 (b - t)]) ∧ Below w.heap.size w w' := by
  have K : ∀ o, Below w.heap.size w (w.alloc o) := fun o => below_al (Below.refl _ _) rfl _
  obtain ⟨a1, a2⟩ := h1
  obtain ⟨a3, a4⟩ := h2
  obtain ⟨a5, a6⟩ := h3
  obtain ⟨a7, a8⟩ := h4
  go_enter Try.func70, Try.ntmps70
  go_wp2
  refine bodyPost_ret (v := .agg #[.int .i64 l, .int .i64 t, .int .i64 (r - l), .int .i64 (b - t)]) (by simp [results, Try.results70, go_sem]) rfl ⟨rfl, ?_⟩
  exact K _

/-- A block made ahead of a call is kept by it. -/
theorem kept4 {W w' : World} {a b c d : Value} {e : TypeId} {B g : Nat} (hb : Below B (W.alloc (.cells #[a, b, c, d] e)) w') (hB : W.heap.size < B) (hg : g = W.heap.size) :
    w'.cell? ⟨g, 0, none⟩ = some a ∧ w'.cell? ⟨g, 1, none⟩ = some b ∧ w'.cell? ⟨g, 2, none⟩ = some c ∧ w'.cell? ⟨g, 3, none⟩ = some d ∧
      w'.frozen? ⟨g, 0, none⟩ = false ∧ w'.frozen? ⟨g, 1, none⟩ = false ∧ w'.frozen? ⟨g, 2, none⟩ = false ∧ w'.frozen? ⟨g, 3, none⟩ = false := by
  subst hg
  have hh := (hb.block W.heap.size hB).trans (heap_alloc_new W _)
  have hc : ∀ j v, (#[a, b, c, d] : Array Value)[j]? = some v → w'.cell? ⟨W.heap.size, j, none⟩ = some v := fun j v hv => by rw [cell_of_row w' W.heap.size _ _ e (0, 0) hh]; exact hv
  have hf : ∀ o, w'.frozen? ⟨W.heap.size, o, none⟩ = false := fun o => frozen_of_row w' W.heap.size o _ _ hh
  exact ⟨hc 0 a rfl, hc 1 b rfl, hc 2 c rfl, hc 3 d rfl, hf 0, hf 1, hf 2, hf 3⟩


theorem between_r (l t r b : Int) (q : RectD) (w : World) (h1 : -1000000000 ≤ l ∧ l ≤ 1000000000) (h2 : -1000000000 ≤ t ∧ t ≤ 1000000000) (h3 : -1000000000 ≤ r ∧ r ≤ 1000000000) (h4 : -1000000000 ≤ b ∧ b ≤ 1000000000) (hq : q = ⟨l, t, r - l, b - t⟩) :
    Calls Try.prog 70 #[.int .i64 l, .int .i64 t, .int .i64 r, .int .i64 b] w fun e w' => e = .returned (.agg #[.int .i64 q.X, .int .i64 q.Y, .int .i64 q.W, .int .i64 q.H]) ∧ Below w.heap.size w w' := by
  subst hq
  exact between_any l t r b w h1 h2 h3 h4

theorem below_drew {B : Nat} {w w' : World} (h : Below B w w') : Below B w w'.drew := ⟨h.os, h.tape, h.output, h.size, h.block⟩
/-- Four cells written into a block of the call's own. -/
theorem below4 {B g : Nat} {w a w' : World} {v0 v1 v2 v3 : Value} (h : Below B a w') (h0 : Below B w a) (_hB : B ≤ w.heap.size) (hg : B ≤ g) :
    Below B w ((((w'.setCell ⟨g, 0, none⟩ v0).setCell ⟨g, 1, none⟩ v1).setCell ⟨g, 2, none⟩ v2).setCell ⟨g, 3, none⟩ v3) :=
  ((((h0.trans h).setCell (p := ⟨g, 0, none⟩) hg _).setCell (p := ⟨g, 1, none⟩) hg _).setCell (p := ⟨g, 2, none⟩) hg _).setCell (p := ⟨g, 3, none⟩) hg _

set_option maxHeartbeats 4000000 in
theorem meet_any (a b : RectD) (w : World) (ha : validR a = true) (hb : validR b = true) :
    Calls Try.prog 53 #[.agg #[.int .i64 a.X, .int .i64 a.Y, .int .i64 a.W, .int .i64 a.H], .agg #[.int .i64 b.X, .int .i64 b.Y, .int .i64 b.W, .int .i64 b.H]] w
      fun e w' => e = .returned (.tuple #[.agg #[.int .i64 (meetR a b).X, .int .i64 (meetR a b).Y, .int .i64 (meetR a b).W, .int .i64 (meetR a b).H], .bool (meetsR a b)]) ∧ Below w.heap.size w w' := by
  rw [validR_iff] at ha hb
  obtain ⟨⟨a1, a2⟩, ⟨a3, a4⟩, ⟨a5, a6⟩, a7, a8⟩ := ha
  obtain ⟨⟨b1, b2⟩, ⟨b3, b4⟩, ⟨b5, b6⟩, b7, b8⟩ := hb
  have hm : meetsR a b = (decide (0 < (meetR a b).W) && decide (0 < (meetR a b).H)) := rfl
  have hc := fun W => between_r (max a.X b.X) (max a.Y b.Y) (min (a.X + a.W) (b.X + b.W)) (min (a.Y + a.H) (b.Y + b.H)) (meetR a b) W (by omega) (by omega) (by omega) (by omega) rfl
  rw [hm]
  generalize meetR a b = q at *
  have HC := hid hc
  have K : ∀ o1 o2 o3, Below w.heap.size w (((w.alloc o1).alloc o2).alloc o3) := fun o1 o2 o3 => below_al (below_al (below_al (Below.refl _ _) rfl _) rfl _) rfl _
  clear hm hc
  cases d1 : decide (0 < q.W)
  all_goals cases d2 : decide (0 < q.H)
  all_goals
    go_enter Try.func53, Try.ntmps53
    go_wp2_with fail
    refine (HC.out _).mono ?_
    rintro e w' ⟨rfl, hb⟩
    obtain ⟨k1, k2, k3, k4, f1, f2, f3, f4⟩ := kept4 (g := w.heap.size + 1 + 1) hb (by simp) (by simp)
    have HB := hid hb
    have hz : w.heap.size + 1 + 1 < w'.heap.size := by have := hb.size; simp at this; omega
    clear hb
    go_wp2_with fail
    go_region
    go_wp2
    refine bodyPost_ret (v := .tuple #[.agg #[.int .i64 q.X, .int .i64 q.Y, .int .i64 q.W, .int .i64 q.H], .bool _]) (by simp [results, Try.results53, go_sem, hz, k1, k2, k3, k4]) rfl ⟨rfl, ?_⟩
    exact below_drew (((below4 (HB.out.mono (by simp; omega)) (K _ _ _) (Nat.le_refl _) (by omega)).alloc (by simp [World.setCell]; omega) _))
end Go.Proofs.Ythejkmdodjchiaa
