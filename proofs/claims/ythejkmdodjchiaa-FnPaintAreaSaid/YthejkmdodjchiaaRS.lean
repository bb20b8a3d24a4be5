/- spec's rectangles: validRect, inRect, meet, hull, meets. -/
import Derived.Test.YthejkmdodjchiaaRJ
import Derived.Test.YthejkmdodjchiaaN2
namespace Go.Proofs.Ythejkmdodjchiaa
set_option linter.unusedVariables false
set_option linter.unusedSimpArgs false
open Go.RowKit Go.Lib

theorem inRangeR_any (n a b : Int) (w : World) : Calls Try.prog 66 #[.int .i64 n, .int .i64 a, .int .i64 b] w fun e w' => e = .returned (.bool (inR n a b)) ∧ w = w' := by
  by_cases h1 : a ≤ n <;> by_cases h2 : n ≤ b
  all_goals
    go_enter Try.func66, Try.ntmps66
    go_wp2
    go_ret
    exact ⟨by simp [inR, h1, h2], rfl⟩

set_option maxHeartbeats 1000000 in
theorem validRectS_any (r : RectD) (w : World) : Calls Try.prog 48 #[.agg #[.int .i64 r.X, .int .i64 r.Y, .int .i64 r.W, .int .i64 r.H]] w fun e w' => e = .returned (.bool (validR r)) ∧ Below w.heap.size w w' := by
  obtain ⟨X, Y, W, H⟩ := r
  unfold validR
  simp only
  have K : ∀ o, Below w.heap.size w (w.alloc o) := fun o => below_al (Below.refl _ _) rfl _
  cases h1 : inR X (-100000) 100000 <;> cases h2 : inR Y (-100000) 100000 <;> cases h3 : inR W 0 200000
  all_goals
    have H1 := hid h1
    have H2 := hid h2
    have H3 := hid h3
    clear h1 h2 h3
    go_enter Try.func48, Try.ntmps48
    go_wp2_with (go_at_call 66; refine (inRangeR_any _ _ _ _).mono ?_; rintro e w' ⟨rfl, rfl⟩; first | rw [H1.out] | rw [H2.out] | rw [H3.out] | skip)
    go_ret
    exact ⟨by simp, K _⟩

set_option maxHeartbeats 1000000 in
theorem inRectS_any (r : RectD) (x y : Int) (w : World) (hr : Roomy r) : Calls Try.prog 67 #[.agg #[.int .i64 r.X, .int .i64 r.Y, .int .i64 r.W, .int .i64 r.H], .int .i64 x, .int .i64 y] w fun e w' => e = .returned (.bool (inPt r x y)) ∧ Below w.heap.size w w' := by
  unfold Roomy at hr
  obtain ⟨X, Y, W, H⟩ := r
  simp only at hr
  obtain ⟨⟨a1, a2⟩, ⟨a3, a4⟩, ⟨a5, a6⟩, a7, a8⟩ := hr
  have hq := inPt_iff (r := ⟨X, Y, W, H⟩) (x := x) (y := y)
  simp only at hq
  generalize inPt ⟨X, Y, W, H⟩ x y = q at *
  have K : ∀ o, Below w.heap.size w (w.alloc o) := fun o => below_al (Below.refl _ _) rfl _
  cases q
  · have hn : ¬ (X ≤ x ∧ x < X + W ∧ Y ≤ y ∧ y < Y + H) := fun h => by have := hq.2 h; cases this
    clear hq
    by_cases h1 : X ≤ x
    · by_cases h2 : x < X + W
      · by_cases h3 : Y ≤ y
        · have h4 : ¬ y < Y + H := fun h => hn ⟨h1, h2, h3, h⟩
          clear hn
          go_enter Try.func67, Try.ntmps67
          go_wp2
          go_ret
          exact ⟨rfl, K _⟩
        · clear hn
          go_enter Try.func67, Try.ntmps67
          go_wp2
          go_ret
          exact ⟨rfl, K _⟩
      · clear hn
        go_enter Try.func67, Try.ntmps67
        go_wp2
        go_ret
        exact ⟨rfl, K _⟩
    · clear hn
      go_enter Try.func67, Try.ntmps67
      go_wp2
      go_ret
      exact ⟨rfl, K _⟩
  · obtain ⟨h1, h2, h3, h4⟩ := hq.1 rfl
    clear hq
    go_enter Try.func67, Try.ntmps67
    go_wp2
    go_ret
    exact ⟨rfl, K _⟩

set_option maxHeartbeats 4000000 in
theorem hullS_any (a b : RectD) (w : World) (ha : Roomy a) (hb : Roomy b) :
    Calls Try.prog 57 #[.agg #[.int .i64 a.X, .int .i64 a.Y, .int .i64 a.W, .int .i64 a.H], .agg #[.int .i64 b.X, .int .i64 b.Y, .int .i64 b.W, .int .i64 b.H]] w
      fun e w' => e = .returned (.agg #[.int .i64 (hullR a b).X, .int .i64 (hullR a b).Y, .int .i64 (hullR a b).W, .int .i64 (hullR a b).H]) ∧ Below w.heap.size w w' := by
  unfold Roomy at ha hb
  obtain ⟨⟨a1, a2⟩, ⟨a3, a4⟩, ⟨a5, a6⟩, a7, a8⟩ := ha
  obtain ⟨⟨b1, b2⟩, ⟨b3, b4⟩, ⟨b5, b6⟩, b7, b8⟩ := hb
  have K : ∀ o1 o2 o3, Below w.heap.size w (((w.alloc o1).alloc o2).alloc o3) := fun o1 o2 o3 => below_al (below_al (below_al (Below.refl _ _) rfl _) rfl _) rfl _
  go_enter Try.func57, Try.ntmps57
  go_wp2
  refine bodyPost_ret (v := .agg #[.int .i64 (hullR a b).X, .int .i64 (hullR a b).Y, .int .i64 (hullR a b).W, .int .i64 (hullR a b).H]) (by simp [results, Try.results57, go_sem, hullR]) rfl ⟨rfl, ?_⟩
  first
    | exact K _ _ _
    | exact below4 (Below.refl _ _) (K _ _ _) (Nat.le_refl _) (by omega)

set_option maxHeartbeats 4000000 in
theorem hullST_any (a b : RectD) (w : World) :
    Calls Try.prog 57 #[.agg #[.int .i64 a.X, .int .i64 a.Y, .int .i64 a.W, .int .i64 a.H], .agg #[.int .i64 b.X, .int .i64 b.Y, .int .i64 b.W, .int .i64 b.H]] w
      fun e w' => (∃ x y u v : Int, e = .returned (.agg #[.int .i64 x, .int .i64 y, .int .i64 u, .int .i64 v])) ∧ Below w.heap.size w w' := by
  have K : ∀ o1 o2 o3, Below w.heap.size w (((w.alloc o1).alloc o2).alloc o3) := fun o1 o2 o3 => below_al (below_al (below_al (Below.refl _ _) rfl _) rfl _) rfl _
  go_enter Try.func57, Try.ntmps57
  go_wp2
  refine bodyPost_ret (v := .agg #[.int .i64 _, .int .i64 _, .int .i64 _, .int .i64 _]) (by simp [results, Try.results57, go_sem]; exact ⟨rfl, rfl, rfl, rfl⟩) rfl ⟨⟨_, _, _, _, rfl⟩, ?_⟩
  first
    | exact K _ _ _
    | exact below4 (Below.refl _ _) (K _ _ _) (Nat.le_refl _) (by omega)

set_option maxHeartbeats 4000000 in
theorem meetS_any (a b : RectD) (w : World) (ha : validR a = true) (hb : validR b = true) :
    Calls Try.prog 71 #[.agg #[.int .i64 a.X, .int .i64 a.Y, .int .i64 a.W, .int .i64 a.H], .agg #[.int .i64 b.X, .int .i64 b.Y, .int .i64 b.W, .int .i64 b.H]] w
      fun e w' => e = .returned (.tuple #[.agg #[.int .i64 (meetR a b).X, .int .i64 (meetR a b).Y, .int .i64 (meetR a b).W, .int .i64 (meetR a b).H], .bool (meetsR a b)]) ∧ Below w.heap.size w w' := by
  rw [validR_iff] at ha hb
  obtain ⟨⟨a1, a2⟩, ⟨a3, a4⟩, ⟨a5, a6⟩, a7, a8⟩ := ha
  obtain ⟨⟨b1, b2⟩, ⟨b3, b4⟩, ⟨b5, b6⟩, b7, b8⟩ := hb
  have K : ∀ o1 o2 o3, Below w.heap.size w (((w.alloc o1).alloc o2).alloc o3) := fun o1 o2 o3 => below_al (below_al (below_al (Below.refl _ _) rfl _) rfl _) rfl _
  have hm1 := meetsR_iff (a := a) (b := b)
  generalize meetsR a b = r at *
  by_cases h1 : max a.X b.X < min (a.X + a.W) (b.X + b.W) <;> by_cases h2 : max a.Y b.Y < min (a.Y + a.H) (b.Y + b.H) <;> cases r
  all_goals first
    | (exfalso; exact absurd (hm1.2 ⟨h1, h2⟩) (by decide))
    | (exfalso; have := hm1.1 rfl; omega)
    | skip
  all_goals
    clear hm1
    unfold meetR
    simp only
    go_enter Try.func71, Try.ntmps71
    go_wp2
    refine bodyPost_ret (v := .tuple #[.agg #[_, _, _, _], .bool _]) (by simp [results, Try.results71, go_sem]) rfl ⟨rfl, ?_⟩
    first
      | exact K _ _ _
      | exact below4 (Below.refl _ _) (K _ _ _) (Nat.le_refl _) (by omega)

set_option maxHeartbeats 4000000 in
theorem meets_any (a b : RectD) (w : World) (ha : validR a = true) (hb : validR b = true) :
    Calls Try.prog 64 #[.agg #[.int .i64 a.X, .int .i64 a.Y, .int .i64 a.W, .int .i64 a.H], .agg #[.int .i64 b.X, .int .i64 b.Y, .int .i64 b.W, .int .i64 b.H]] w
      fun e w' => e = .returned (.bool (meetsR a b)) ∧ Below w.heap.size w w' := by
  have HC := hid (fun W => meetS_any a b W ha hb)
  generalize meetR a b = q at *
  generalize meetsR a b = r at *
  clear ha hb
  have K : ∀ o1 o2, Below w.heap.size w ((w.alloc o1).alloc o2) := fun o1 o2 => below_al (below_al (Below.refl _ _) rfl _) rfl _
  go_enter Try.func64, Try.ntmps64
  go_wp2_with fail
  refine (HC.out _).mono ?_
  rintro e w1 ⟨rfl, hb1⟩
  have HB := hid ((K _ _).trans (hb1.mono (by simp; omega)))
  clear hb1
  go_wp2
  go_ret
  exact ⟨rfl, HB.out.alloc HB.out.size _⟩

def SomeMeet (w : World) (e : Ending) (w' : World) : Prop := (∃ (x y u v : Int) (r : Bool), e = .returned (.tuple #[.agg #[.int .i64 x, .int .i64 y, .int .i64 u, .int .i64 v], .bool r])) ∧ Below w.heap.size w w'
def SomeBool (w : World) (e : Ending) (w' : World) : Prop := (∃ r : Bool, e = .returned (.bool r)) ∧ Below w.heap.size w w'
set_option maxHeartbeats 4000000 in
/-- Whatever the numbers are. -/
theorem meetST_any (a b : RectD) (w : World) :
    Calls Try.prog 71 #[.agg #[.int .i64 a.X, .int .i64 a.Y, .int .i64 a.W, .int .i64 a.H], .agg #[.int .i64 b.X, .int .i64 b.Y, .int .i64 b.W, .int .i64 b.H]] w
      (SomeMeet w) := by
  have K : ∀ o1 o2 o3, Below w.heap.size w (((w.alloc o1).alloc o2).alloc o3) := fun o1 o2 o3 => below_al (below_al (below_al (Below.refl _ _) rfl _) rfl _) rfl _
  go_enter Try.func71, Try.ntmps71
  go_wp2
  all_goals
    refine bodyPost_ret (v := .tuple #[.agg #[.int .i64 _, .int .i64 _, .int .i64 _, .int .i64 _], .bool _]) (by simp [results, Try.results71, go_sem]; exact ⟨⟨rfl, rfl, rfl, rfl⟩, rfl⟩) rfl ⟨⟨_, _, _, _, _, rfl⟩, ?_⟩
    first
      | exact K _ _ _
      | exact below4 (Below.refl _ _) (K _ _ _) (Nat.le_refl _) (by omega)

set_option maxHeartbeats 4000000 in
theorem meetsT_any (a b : RectD) (w : World) :
    Calls Try.prog 64 #[.agg #[.int .i64 a.X, .int .i64 a.Y, .int .i64 a.W, .int .i64 a.H], .agg #[.int .i64 b.X, .int .i64 b.Y, .int .i64 b.W, .int .i64 b.H]] w
      (SomeBool w) := by
  have HC := hid (fun W => meetST_any a b W)
  have K : ∀ o1 o2, Below w.heap.size w ((w.alloc o1).alloc o2) := fun o1 o2 => below_al (below_al (Below.refl _ _) rfl _) rfl _
  go_enter Try.func64, Try.ntmps64
  go_wp2_with fail
  refine (HC.out _).mono ?_
  rintro e w1 ⟨⟨x, y, u, v, r, rfl⟩, hb1⟩
  have HB := hid ((K _ _).trans (hb1.mono (by simp; omega)))
  clear hb1
  go_wp2
  go_ret
  exact ⟨⟨_, rfl⟩, HB.out.alloc HB.out.size _⟩
end Go.Proofs.Ythejkmdodjchiaa
