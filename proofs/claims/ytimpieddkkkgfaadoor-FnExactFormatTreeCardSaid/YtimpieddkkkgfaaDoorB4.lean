/- Small functions of boxes: within, inRange, edgeOk, justifyOk, styled, validBox. Written by a program of ours. -/
import Derived.Test.YtimpieddkkkgfaaDoorProg
import Derived.Test.YtimpieddkkkgfaaDoorB3
import Derived.Deep.QuietTactic
import Derived.BigQuiet
import Derived.Deep.RegionHeld3
import Derived.Lib.MinMax
import Derived.StillTailTactics
import Derived.IntWalk
namespace Go.Proofs.YtimpieddkkkgfaaDoor
set_option linter.unusedVariables false
set_option linter.unusedSimpArgs false
open Go.RowKit Go.Lib

theorem withinB_any (n a b : Int) (w : World) : Calls Tryd.prog 24 #[.int .i64 n, .int .i64 a, .int .i64 b] w fun e w' => e = .returned (.bool (inR n a b)) ∧ w = w' := by
  by_cases h1 : a ≤ n <;> by_cases h2 : n ≤ b
  all_goals
    go_enter Tryd.func24, Tryd.ntmps24
    go_wp2
    go_ret
    exact ⟨by simp [inR, h1, h2], rfl⟩
theorem inRangeB_any (n a b : Int) (w : World) : Calls Tryd.prog 20 #[.int .i64 n, .int .i64 a, .int .i64 b] w fun e w' => e = .returned (.bool (inR n a b)) ∧ w = w' := by
  by_cases h1 : a ≤ n <;> by_cases h2 : n ≤ b
  all_goals
    go_enter Tryd.func20, Tryd.ntmps20
    go_wp2
    go_ret
    exact ⟨by simp [inR, h1, h2], rfl⟩
theorem edgeOkB_any (n : Int) (w : World) : Calls Tryd.prog 39 #[.int .i64 n] w fun e w' => e = .returned (.bool (inR n 0 50)) ∧ w = w' := by
  go_enter Tryd.func39, Tryd.ntmps39
  go_wp2_with (go_at_call 24; refine (withinB_any _ _ _ _).mono ?_; rintro e w' ⟨rfl, rfl⟩)
  go_ret
  exact ⟨rfl, rfl⟩
theorem justifyOkB_any (n : Int) (w : World) : Calls Tryd.prog 40 #[.int .i64 n] w fun e w' => e = .returned (.bool (inR n 0 3)) ∧ w = w' := by
  go_enter Tryd.func40, Tryd.ntmps40
  go_wp2_with (go_at_call 24; refine (withinB_any _ _ _ _).mono ?_; rintro e w' ⟨rfl, rfl⟩)
  go_ret
  exact ⟨rfl, rfl⟩

set_option maxHeartbeats 4000000 in
theorem styled_leaf (b : BoxD) (w : World) (hk : b.Kind = 0) : Calls Tryd.prog 25 #[.agg #[.int .i64 b.Parent, .int .i64 b.Kind, .int .i64 b.W, .int .i64 b.H, .int .i64 b.Pad, .int .i64 b.Gap, .int .i64 b.Grow, .int .i64 b.Shrink, .int .i64 b.Justify]] w fun e w' => e = .returned (.bool (styledB b)) ∧ Below w.heap.size w w' := by
  have hs : sideOf b = 100 := by unfold sideOf; simp [hk]
  unfold styledB
  rw [hs]
  have hq : (b.Kind == 0) = true := by rw [beq_iff_eq]; exact hk
  have HK := hid (fun o => below_al (Below.refl w.heap.size w) rfl o)
  clear hk hs
  cases h1 : inR b.Kind 0 3
  · have H1 := hid h1
    clear h1
    go_enter Tryd.func25, Tryd.ntmps25
    go_wp2_with (first | (go_at_call 24; refine (withinB_any _ _ _ _).mono ?_; rintro e w' ⟨rfl, rfl⟩; first | rw [H1.out] | skip) | (go_at_call 39; refine (edgeOkB_any _ _).mono ?_; rintro e w' ⟨rfl, rfl⟩; first | rw [H1.out] | skip) | (go_at_call 40; refine (justifyOkB_any _ _).mono ?_; rintro e w' ⟨rfl, rfl⟩; first | rw [H1.out] | skip))
    go_ret
    exact ⟨by simp, HK.out _⟩
  · cases h2 : inR b.W 0 100
    · have H1 := hid h1
      have H2 := hid h2
      clear h1 h2
      go_enter Tryd.func25, Tryd.ntmps25
      go_wp2_with (first | (go_at_call 24; refine (withinB_any _ _ _ _).mono ?_; rintro e w' ⟨rfl, rfl⟩; first | rw [H1.out] | rw [H2.out] | skip) | (go_at_call 39; refine (edgeOkB_any _ _).mono ?_; rintro e w' ⟨rfl, rfl⟩; first | rw [H1.out] | rw [H2.out] | skip) | (go_at_call 40; refine (justifyOkB_any _ _).mono ?_; rintro e w' ⟨rfl, rfl⟩; first | rw [H1.out] | rw [H2.out] | skip))
      go_ret
      exact ⟨by simp, HK.out _⟩
    · cases h3 : inR b.H 0 100
      · have H1 := hid h1
        have H2 := hid h2
        have H3 := hid h3
        clear h1 h2 h3
        go_enter Tryd.func25, Tryd.ntmps25
        go_wp2_with (first | (go_at_call 24; refine (withinB_any _ _ _ _).mono ?_; rintro e w' ⟨rfl, rfl⟩; first | rw [H1.out] | rw [H2.out] | rw [H3.out] | skip) | (go_at_call 39; refine (edgeOkB_any _ _).mono ?_; rintro e w' ⟨rfl, rfl⟩; first | rw [H1.out] | rw [H2.out] | rw [H3.out] | skip) | (go_at_call 40; refine (justifyOkB_any _ _).mono ?_; rintro e w' ⟨rfl, rfl⟩; first | rw [H1.out] | rw [H2.out] | rw [H3.out] | skip))
        go_ret
        exact ⟨by simp, HK.out _⟩
      · cases h4 : inR b.Pad 0 50
        · have H1 := hid h1
          have H2 := hid h2
          have H3 := hid h3
          have H4 := hid h4
          clear h1 h2 h3 h4
          go_enter Tryd.func25, Tryd.ntmps25
          go_wp2_with (first | (go_at_call 24; refine (withinB_any _ _ _ _).mono ?_; rintro e w' ⟨rfl, rfl⟩; first | rw [H1.out] | rw [H2.out] | rw [H3.out] | rw [H4.out] | skip) | (go_at_call 39; refine (edgeOkB_any _ _).mono ?_; rintro e w' ⟨rfl, rfl⟩; first | rw [H1.out] | rw [H2.out] | rw [H3.out] | rw [H4.out] | skip) | (go_at_call 40; refine (justifyOkB_any _ _).mono ?_; rintro e w' ⟨rfl, rfl⟩; first | rw [H1.out] | rw [H2.out] | rw [H3.out] | rw [H4.out] | skip))
          go_ret
          exact ⟨by simp, HK.out _⟩
        · cases h5 : inR b.Gap 0 50
          · have H1 := hid h1
            have H2 := hid h2
            have H3 := hid h3
            have H4 := hid h4
            have H5 := hid h5
            clear h1 h2 h3 h4 h5
            go_enter Tryd.func25, Tryd.ntmps25
            go_wp2_with (first | (go_at_call 24; refine (withinB_any _ _ _ _).mono ?_; rintro e w' ⟨rfl, rfl⟩; first | rw [H1.out] | rw [H2.out] | rw [H3.out] | rw [H4.out] | rw [H5.out] | skip) | (go_at_call 39; refine (edgeOkB_any _ _).mono ?_; rintro e w' ⟨rfl, rfl⟩; first | rw [H1.out] | rw [H2.out] | rw [H3.out] | rw [H4.out] | rw [H5.out] | skip) | (go_at_call 40; refine (justifyOkB_any _ _).mono ?_; rintro e w' ⟨rfl, rfl⟩; first | rw [H1.out] | rw [H2.out] | rw [H3.out] | rw [H4.out] | rw [H5.out] | skip))
            go_ret
            exact ⟨by simp, HK.out _⟩
          · cases h6 : inR b.Grow 0 10
            · have H1 := hid h1
              have H2 := hid h2
              have H3 := hid h3
              have H4 := hid h4
              have H5 := hid h5
              have H6 := hid h6
              clear h1 h2 h3 h4 h5 h6
              go_enter Tryd.func25, Tryd.ntmps25
              go_wp2_with (first | (go_at_call 24; refine (withinB_any _ _ _ _).mono ?_; rintro e w' ⟨rfl, rfl⟩; first | rw [H1.out] | rw [H2.out] | rw [H3.out] | rw [H4.out] | rw [H5.out] | rw [H6.out] | skip) | (go_at_call 39; refine (edgeOkB_any _ _).mono ?_; rintro e w' ⟨rfl, rfl⟩; first | rw [H1.out] | rw [H2.out] | rw [H3.out] | rw [H4.out] | rw [H5.out] | rw [H6.out] | skip) | (go_at_call 40; refine (justifyOkB_any _ _).mono ?_; rintro e w' ⟨rfl, rfl⟩; first | rw [H1.out] | rw [H2.out] | rw [H3.out] | rw [H4.out] | rw [H5.out] | rw [H6.out] | skip))
              go_ret
              exact ⟨by simp, HK.out _⟩
            · cases h7 : inR b.Shrink 0 10
              · have H1 := hid h1
                have H2 := hid h2
                have H3 := hid h3
                have H4 := hid h4
                have H5 := hid h5
                have H6 := hid h6
                have H7 := hid h7
                clear h1 h2 h3 h4 h5 h6 h7
                go_enter Tryd.func25, Tryd.ntmps25
                go_wp2_with (first | (go_at_call 24; refine (withinB_any _ _ _ _).mono ?_; rintro e w' ⟨rfl, rfl⟩; first | rw [H1.out] | rw [H2.out] | rw [H3.out] | rw [H4.out] | rw [H5.out] | rw [H6.out] | rw [H7.out] | skip) | (go_at_call 39; refine (edgeOkB_any _ _).mono ?_; rintro e w' ⟨rfl, rfl⟩; first | rw [H1.out] | rw [H2.out] | rw [H3.out] | rw [H4.out] | rw [H5.out] | rw [H6.out] | rw [H7.out] | skip) | (go_at_call 40; refine (justifyOkB_any _ _).mono ?_; rintro e w' ⟨rfl, rfl⟩; first | rw [H1.out] | rw [H2.out] | rw [H3.out] | rw [H4.out] | rw [H5.out] | rw [H6.out] | rw [H7.out] | skip))
                go_ret
                exact ⟨by simp, HK.out _⟩
              · have H1 := hid h1
                have H2 := hid h2
                have H3 := hid h3
                have H4 := hid h4
                have H5 := hid h5
                have H6 := hid h6
                have H7 := hid h7
                clear h1 h2 h3 h4 h5 h6 h7
                go_enter Tryd.func25, Tryd.ntmps25
                go_wp2_with (first | (go_at_call 24; refine (withinB_any _ _ _ _).mono ?_; rintro e w' ⟨rfl, rfl⟩; first | rw [H1.out] | rw [H2.out] | rw [H3.out] | rw [H4.out] | rw [H5.out] | rw [H6.out] | rw [H7.out] | skip) | (go_at_call 39; refine (edgeOkB_any _ _).mono ?_; rintro e w' ⟨rfl, rfl⟩; first | rw [H1.out] | rw [H2.out] | rw [H3.out] | rw [H4.out] | rw [H5.out] | rw [H6.out] | rw [H7.out] | skip) | (go_at_call 40; refine (justifyOkB_any _ _).mono ?_; rintro e w' ⟨rfl, rfl⟩; first | rw [H1.out] | rw [H2.out] | rw [H3.out] | rw [H4.out] | rw [H5.out] | rw [H6.out] | rw [H7.out] | skip))
                go_ret
                exact ⟨by simp, HK.out _⟩

set_option maxHeartbeats 4000000 in
theorem styled_box (b : BoxD) (w : World) (hk : ¬ b.Kind = 0) : Calls Tryd.prog 25 #[.agg #[.int .i64 b.Parent, .int .i64 b.Kind, .int .i64 b.W, .int .i64 b.H, .int .i64 b.Pad, .int .i64 b.Gap, .int .i64 b.Grow, .int .i64 b.Shrink, .int .i64 b.Justify]] w fun e w' => e = .returned (.bool (styledB b)) ∧ Below w.heap.size w w' := by
  have hs : sideOf b = 0 := by unfold sideOf; simp [hk]
  unfold styledB
  rw [hs]
  have hq : (b.Kind == 0) = false := by rw [beq_eq_false_iff_ne]; exact hk
  have HK := hid (fun o => below_al (Below.refl w.heap.size w) rfl o)
  clear hk hs
  cases h1 : inR b.Kind 0 3
  · have H1 := hid h1
    clear h1
    go_enter Tryd.func25, Tryd.ntmps25
    go_wp2_with (first | (go_at_call 24; refine (withinB_any _ _ _ _).mono ?_; rintro e w' ⟨rfl, rfl⟩; first | rw [H1.out] | skip) | (go_at_call 39; refine (edgeOkB_any _ _).mono ?_; rintro e w' ⟨rfl, rfl⟩; first | rw [H1.out] | skip) | (go_at_call 40; refine (justifyOkB_any _ _).mono ?_; rintro e w' ⟨rfl, rfl⟩; first | rw [H1.out] | skip))
    go_ret
    exact ⟨by simp, HK.out _⟩
  · cases h2 : inR b.W 0 0
    · have H1 := hid h1
      have H2 := hid h2
      clear h1 h2
      go_enter Tryd.func25, Tryd.ntmps25
      go_wp2_with (first | (go_at_call 24; refine (withinB_any _ _ _ _).mono ?_; rintro e w' ⟨rfl, rfl⟩; first | rw [H1.out] | rw [H2.out] | skip) | (go_at_call 39; refine (edgeOkB_any _ _).mono ?_; rintro e w' ⟨rfl, rfl⟩; first | rw [H1.out] | rw [H2.out] | skip) | (go_at_call 40; refine (justifyOkB_any _ _).mono ?_; rintro e w' ⟨rfl, rfl⟩; first | rw [H1.out] | rw [H2.out] | skip))
      go_ret
      exact ⟨by simp, HK.out _⟩
    · cases h3 : inR b.H 0 0
      · have H1 := hid h1
        have H2 := hid h2
        have H3 := hid h3
        clear h1 h2 h3
        go_enter Tryd.func25, Tryd.ntmps25
        go_wp2_with (first | (go_at_call 24; refine (withinB_any _ _ _ _).mono ?_; rintro e w' ⟨rfl, rfl⟩; first | rw [H1.out] | rw [H2.out] | rw [H3.out] | skip) | (go_at_call 39; refine (edgeOkB_any _ _).mono ?_; rintro e w' ⟨rfl, rfl⟩; first | rw [H1.out] | rw [H2.out] | rw [H3.out] | skip) | (go_at_call 40; refine (justifyOkB_any _ _).mono ?_; rintro e w' ⟨rfl, rfl⟩; first | rw [H1.out] | rw [H2.out] | rw [H3.out] | skip))
        go_ret
        exact ⟨by simp, HK.out _⟩
      · cases h4 : inR b.Pad 0 50
        · have H1 := hid h1
          have H2 := hid h2
          have H3 := hid h3
          have H4 := hid h4
          clear h1 h2 h3 h4
          go_enter Tryd.func25, Tryd.ntmps25
          go_wp2_with (first | (go_at_call 24; refine (withinB_any _ _ _ _).mono ?_; rintro e w' ⟨rfl, rfl⟩; first | rw [H1.out] | rw [H2.out] | rw [H3.out] | rw [H4.out] | skip) | (go_at_call 39; refine (edgeOkB_any _ _).mono ?_; rintro e w' ⟨rfl, rfl⟩; first | rw [H1.out] | rw [H2.out] | rw [H3.out] | rw [H4.out] | skip) | (go_at_call 40; refine (justifyOkB_any _ _).mono ?_; rintro e w' ⟨rfl, rfl⟩; first | rw [H1.out] | rw [H2.out] | rw [H3.out] | rw [H4.out] | skip))
          go_ret
          exact ⟨by simp, HK.out _⟩
        · cases h5 : inR b.Gap 0 50
          · have H1 := hid h1
            have H2 := hid h2
            have H3 := hid h3
            have H4 := hid h4
            have H5 := hid h5
            clear h1 h2 h3 h4 h5
            go_enter Tryd.func25, Tryd.ntmps25
            go_wp2_with (first | (go_at_call 24; refine (withinB_any _ _ _ _).mono ?_; rintro e w' ⟨rfl, rfl⟩; first | rw [H1.out] | rw [H2.out] | rw [H3.out] | rw [H4.out] | rw [H5.out] | skip) | (go_at_call 39; refine (edgeOkB_any _ _).mono ?_; rintro e w' ⟨rfl, rfl⟩; first | rw [H1.out] | rw [H2.out] | rw [H3.out] | rw [H4.out] | rw [H5.out] | skip) | (go_at_call 40; refine (justifyOkB_any _ _).mono ?_; rintro e w' ⟨rfl, rfl⟩; first | rw [H1.out] | rw [H2.out] | rw [H3.out] | rw [H4.out] | rw [H5.out] | skip))
            go_ret
            exact ⟨by simp, HK.out _⟩
          · cases h6 : inR b.Grow 0 10
            · have H1 := hid h1
              have H2 := hid h2
              have H3 := hid h3
              have H4 := hid h4
              have H5 := hid h5
              have H6 := hid h6
              clear h1 h2 h3 h4 h5 h6
              go_enter Tryd.func25, Tryd.ntmps25
              go_wp2_with (first | (go_at_call 24; refine (withinB_any _ _ _ _).mono ?_; rintro e w' ⟨rfl, rfl⟩; first | rw [H1.out] | rw [H2.out] | rw [H3.out] | rw [H4.out] | rw [H5.out] | rw [H6.out] | skip) | (go_at_call 39; refine (edgeOkB_any _ _).mono ?_; rintro e w' ⟨rfl, rfl⟩; first | rw [H1.out] | rw [H2.out] | rw [H3.out] | rw [H4.out] | rw [H5.out] | rw [H6.out] | skip) | (go_at_call 40; refine (justifyOkB_any _ _).mono ?_; rintro e w' ⟨rfl, rfl⟩; first | rw [H1.out] | rw [H2.out] | rw [H3.out] | rw [H4.out] | rw [H5.out] | rw [H6.out] | skip))
              go_ret
              exact ⟨by simp, HK.out _⟩
            · cases h7 : inR b.Shrink 0 10
              · have H1 := hid h1
                have H2 := hid h2
                have H3 := hid h3
                have H4 := hid h4
                have H5 := hid h5
                have H6 := hid h6
                have H7 := hid h7
                clear h1 h2 h3 h4 h5 h6 h7
                go_enter Tryd.func25, Tryd.ntmps25
                go_wp2_with (first | (go_at_call 24; refine (withinB_any _ _ _ _).mono ?_; rintro e w' ⟨rfl, rfl⟩; first | rw [H1.out] | rw [H2.out] | rw [H3.out] | rw [H4.out] | rw [H5.out] | rw [H6.out] | rw [H7.out] | skip) | (go_at_call 39; refine (edgeOkB_any _ _).mono ?_; rintro e w' ⟨rfl, rfl⟩; first | rw [H1.out] | rw [H2.out] | rw [H3.out] | rw [H4.out] | rw [H5.out] | rw [H6.out] | rw [H7.out] | skip) | (go_at_call 40; refine (justifyOkB_any _ _).mono ?_; rintro e w' ⟨rfl, rfl⟩; first | rw [H1.out] | rw [H2.out] | rw [H3.out] | rw [H4.out] | rw [H5.out] | rw [H6.out] | rw [H7.out] | skip))
                go_ret
                exact ⟨by simp, HK.out _⟩
              · have H1 := hid h1
                have H2 := hid h2
                have H3 := hid h3
                have H4 := hid h4
                have H5 := hid h5
                have H6 := hid h6
                have H7 := hid h7
                clear h1 h2 h3 h4 h5 h6 h7
                go_enter Tryd.func25, Tryd.ntmps25
                go_wp2_with (first | (go_at_call 24; refine (withinB_any _ _ _ _).mono ?_; rintro e w' ⟨rfl, rfl⟩; first | rw [H1.out] | rw [H2.out] | rw [H3.out] | rw [H4.out] | rw [H5.out] | rw [H6.out] | rw [H7.out] | skip) | (go_at_call 39; refine (edgeOkB_any _ _).mono ?_; rintro e w' ⟨rfl, rfl⟩; first | rw [H1.out] | rw [H2.out] | rw [H3.out] | rw [H4.out] | rw [H5.out] | rw [H6.out] | rw [H7.out] | skip) | (go_at_call 40; refine (justifyOkB_any _ _).mono ?_; rintro e w' ⟨rfl, rfl⟩; first | rw [H1.out] | rw [H2.out] | rw [H3.out] | rw [H4.out] | rw [H5.out] | rw [H6.out] | rw [H7.out] | skip))
                go_ret
                exact ⟨by simp, HK.out _⟩

theorem styled_any (b : BoxD) (w : World) : Calls Tryd.prog 25 #[.agg #[.int .i64 b.Parent, .int .i64 b.Kind, .int .i64 b.W, .int .i64 b.H, .int .i64 b.Pad, .int .i64 b.Gap, .int .i64 b.Grow, .int .i64 b.Shrink, .int .i64 b.Justify]] w fun e w' => e = .returned (.bool (styledB b)) ∧ Below w.heap.size w w' := by
  by_cases hk : b.Kind = 0
  · exact styled_leaf b w hk
  · exact styled_box b w hk

theorem validBox_eq (b : BoxD) : (inR b.Kind 0 3 && (inR b.W 0 100 && (inR b.H 0 100 && (inR b.Pad 0 50 && (inR b.Gap 0 50 && (inR b.Grow 0 10 && (inR b.Shrink 0 10 && (inR b.Justify 0 3 && (b.Kind == 0 || (b.W == 0 && b.H == 0)))))))))) = styledB b := by
  rw [Bool.eq_iff_iff, styled_iff]
  simp only [Bool.and_eq_true, Bool.or_eq_true, inR_iff, beq_iff_eq]
  unfold sideOf
  by_cases h : b.Kind = 0
  · rw [if_pos h]
    omega
  · rw [if_neg h]
    omega

set_option maxHeartbeats 4000000 in
theorem validBox_any (b : BoxD) (w : World) : Calls Tryd.prog 19 #[.agg #[.int .i64 b.Parent, .int .i64 b.Kind, .int .i64 b.W, .int .i64 b.H, .int .i64 b.Pad, .int .i64 b.Gap, .int .i64 b.Grow, .int .i64 b.Shrink, .int .i64 b.Justify]] w fun e w' => e = .returned (.bool (styledB b)) ∧ Below w.heap.size w w' := by
  rw [← validBox_eq b]
  have HK := hid (fun o => below_al (Below.refl w.heap.size w) rfl o)
  cases h1 : inR b.Kind 0 3
  · have H1 := hid h1
    clear h1
    go_enter Tryd.func19, Tryd.ntmps19
    go_wp2_with (go_at_call 20; refine (inRangeB_any _ _ _ _).mono ?_; rintro e w' ⟨rfl, rfl⟩; first | rw [H1.out] | skip)
    go_ret
    exact ⟨by simp, HK.out _⟩
  · cases h2 : inR b.W 0 100
    · have H1 := hid h1
      have H2 := hid h2
      clear h1 h2
      go_enter Tryd.func19, Tryd.ntmps19
      go_wp2_with (go_at_call 20; refine (inRangeB_any _ _ _ _).mono ?_; rintro e w' ⟨rfl, rfl⟩; first | rw [H1.out] | rw [H2.out] | skip)
      go_ret
      exact ⟨by simp, HK.out _⟩
    · cases h3 : inR b.H 0 100
      · have H1 := hid h1
        have H2 := hid h2
        have H3 := hid h3
        clear h1 h2 h3
        go_enter Tryd.func19, Tryd.ntmps19
        go_wp2_with (go_at_call 20; refine (inRangeB_any _ _ _ _).mono ?_; rintro e w' ⟨rfl, rfl⟩; first | rw [H1.out] | rw [H2.out] | rw [H3.out] | skip)
        go_ret
        exact ⟨by simp, HK.out _⟩
      · cases h4 : inR b.Pad 0 50
        · have H1 := hid h1
          have H2 := hid h2
          have H3 := hid h3
          have H4 := hid h4
          clear h1 h2 h3 h4
          go_enter Tryd.func19, Tryd.ntmps19
          go_wp2_with (go_at_call 20; refine (inRangeB_any _ _ _ _).mono ?_; rintro e w' ⟨rfl, rfl⟩; first | rw [H1.out] | rw [H2.out] | rw [H3.out] | rw [H4.out] | skip)
          go_ret
          exact ⟨by simp, HK.out _⟩
        · cases h5 : inR b.Gap 0 50
          · have H1 := hid h1
            have H2 := hid h2
            have H3 := hid h3
            have H4 := hid h4
            have H5 := hid h5
            clear h1 h2 h3 h4 h5
            go_enter Tryd.func19, Tryd.ntmps19
            go_wp2_with (go_at_call 20; refine (inRangeB_any _ _ _ _).mono ?_; rintro e w' ⟨rfl, rfl⟩; first | rw [H1.out] | rw [H2.out] | rw [H3.out] | rw [H4.out] | rw [H5.out] | skip)
            go_ret
            exact ⟨by simp, HK.out _⟩
          · cases h6 : inR b.Grow 0 10
            · have H1 := hid h1
              have H2 := hid h2
              have H3 := hid h3
              have H4 := hid h4
              have H5 := hid h5
              have H6 := hid h6
              clear h1 h2 h3 h4 h5 h6
              go_enter Tryd.func19, Tryd.ntmps19
              go_wp2_with (go_at_call 20; refine (inRangeB_any _ _ _ _).mono ?_; rintro e w' ⟨rfl, rfl⟩; first | rw [H1.out] | rw [H2.out] | rw [H3.out] | rw [H4.out] | rw [H5.out] | rw [H6.out] | skip)
              go_ret
              exact ⟨by simp, HK.out _⟩
            · cases h7 : inR b.Shrink 0 10
              · have H1 := hid h1
                have H2 := hid h2
                have H3 := hid h3
                have H4 := hid h4
                have H5 := hid h5
                have H6 := hid h6
                have H7 := hid h7
                clear h1 h2 h3 h4 h5 h6 h7
                go_enter Tryd.func19, Tryd.ntmps19
                go_wp2_with (go_at_call 20; refine (inRangeB_any _ _ _ _).mono ?_; rintro e w' ⟨rfl, rfl⟩; first | rw [H1.out] | rw [H2.out] | rw [H3.out] | rw [H4.out] | rw [H5.out] | rw [H6.out] | rw [H7.out] | skip)
                go_ret
                exact ⟨by simp, HK.out _⟩
              · cases h8 : inR b.Justify 0 3
                · have H1 := hid h1
                  have H2 := hid h2
                  have H3 := hid h3
                  have H4 := hid h4
                  have H5 := hid h5
                  have H6 := hid h6
                  have H7 := hid h7
                  have H8 := hid h8
                  clear h1 h2 h3 h4 h5 h6 h7 h8
                  go_enter Tryd.func19, Tryd.ntmps19
                  go_wp2_with (go_at_call 20; refine (inRangeB_any _ _ _ _).mono ?_; rintro e w' ⟨rfl, rfl⟩; first | rw [H1.out] | rw [H2.out] | rw [H3.out] | rw [H4.out] | rw [H5.out] | rw [H6.out] | rw [H7.out] | rw [H8.out] | skip)
                  go_ret
                  exact ⟨by simp, HK.out _⟩
                · have H1 := hid h1
                  have H2 := hid h2
                  have H3 := hid h3
                  have H4 := hid h4
                  have H5 := hid h5
                  have H6 := hid h6
                  have H7 := hid h7
                  have H8 := hid h8
                  clear h1 h2 h3 h4 h5 h6 h7 h8
                  go_enter Tryd.func19, Tryd.ntmps19
                  go_wp2_with (go_at_call 20; refine (inRangeB_any _ _ _ _).mono ?_; rintro e w' ⟨rfl, rfl⟩; first | rw [H1.out] | rw [H2.out] | rw [H3.out] | rw [H4.out] | rw [H5.out] | rw [H6.out] | rw [H7.out] | rw [H8.out] | skip)
                  all_goals
                    go_ret
                    exact ⟨by simp [*], HK.out _⟩
end Go.Proofs.YtimpieddkkkgfaaDoor
