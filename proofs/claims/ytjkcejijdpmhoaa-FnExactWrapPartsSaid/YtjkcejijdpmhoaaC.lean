/- The numbers of parts of each line: impl.LineCounts, spec.LineCounts. -/
import Derived.Test.YtjkcejijdpmhoaaW
namespace Go.Proofs.Ytjkcejijdpmhoaa
open Go.RowKit Go.Lib

theorem eltInt : Elt Try.prog 34 3 1 8 := Elt.mk' Try.underlying34 (z := .int .i64 0) (by kernel_rfl) rfl (by omega) (by omega)

set_option maxHeartbeats 400000 in
theorem edgeOk_any (n : Int) (w : World) : Calls Try.prog 72 #[.int .i64 n] w fun e w' => e = .returned (.bool (inR n 0 50)) ∧ w = w' := by
  go_enter Try.func72, Try.ntmps72
  go_wp2_with (go_at_call 51; refine (within_any _ _ _ _).mono ?_; rintro e w' ⟨rfl, rfl⟩)
  go_ret
  exact ⟨rfl, rfl⟩

set_option maxHeartbeats 400000 in
theorem linesOk_any (A : Option Addr) (L : List (Int × Int)) (c : Nat) (width gap : Int) (w : World) (hL : L.length ≤ 1000000000000) (h : Arr w w.heap.size 2 encP A L) :
    Calls Try.prog 57 #[.slice A L.length c, .int .i64 width, .int .i64 gap] w fun e w' => e = .returned (.bool (okL L width gap)) ∧ Below w.heap.size w w' := by
  have hv := implValid_any A L c w hL h
  clear h
  unfold okL
  change Calls _ _ _ _ fun e w' => e = .returned (.bool (validB L)) ∧ _ at hv
  cases hq : validB L <;> cases hr : inR width 0 10000
  all_goals
    rw [hq] at hv
    have HR := hid hr
    clear hq hr
    go_enter Try.func57, Try.ntmps57
    go_wp2_with fail
    refine hv.mono ?_
    rintro e w' ⟨rfl, hb⟩
    have HB := hid hb
    clear hb hv
    go_wp2_with (first | (go_at_call 51; refine (within_any _ _ _ _).mono ?_; rintro e w' ⟨rfl, rfl⟩; rw [HR.out]) | (go_at_call 72; refine (edgeOk_any _ _).mono ?_; rintro e w' ⟨rfl, rfl⟩))
    go_ret
    exact ⟨by simp, HB.out⟩

set_option maxHeartbeats 400000 in
theorem validWrap_any (A : Option Addr) (L : List (Int × Int)) (c : Nat) (width gap : Int) (w : World) (hL : L.length ≤ 1000000000000) (h : Arr w w.heap.size 2 encP A L) :
    Calls Try.prog 60 #[.slice A L.length c, .int .i64 width, .int .i64 gap] w fun e w' => e = .returned (.bool (okL L width gap)) ∧ w = w' := by
  have hv := specvalid_any A L c w hL h
  clear h
  unfold okL
  change Calls _ _ _ _ fun e w' => e = .returned (.bool (validB L)) ∧ _ at hv
  cases hq : validB L <;> cases hr : inR width 0 10000
  all_goals
    rw [hq] at hv
    have HR := hid hr
    clear hq hr
    go_enter Try.func60, Try.ntmps60
    go_wp2_with fail
    refine hv.mono ?_
    rintro e w' ⟨rfl, rfl⟩
    clear hv
    try
      go_wp2_with fail
      refine (inRange_any _ _ _ _).mono ?_
      rintro e w' ⟨rfl, rfl⟩
      rw [HR.out]
    go_wp2_with (go_at_call 71; refine (inRange_any _ _ _ _).mono ?_; rintro e w' ⟨rfl, rfl⟩)
    go_ret
    exact ⟨by simp, rfl⟩

set_option maxHeartbeats 400000 in
theorem clip_any (A : Option Addr) (n c : Nat) (w : World) (hn : n ≤ c) :
    Calls Try.prog 59 #[.slice A n c] w fun e w' => e = .returned (.slice A n n) ∧ w = w' := by
  go_enter Try.func59, Try.ntmps59
  go_wp2
  go_ret
  exact ⟨rfl, rfl⟩
end Go.Proofs.Ytjkcejijdpmhoaa
