/- The small functions: within, inRange; the library's IndexFunc, ContainsFunc at parts. -/
import Derived.Test.YtjkcejijdpmhoaaProg
import Derived.Test.YtjkcejijdpmhoaaBase
import Derived.Test.YtjkcejijdpmhoaaM
namespace Go.Proofs.Ytjkcejijdpmhoaa
open Go.RowKit Go.Lib

set_option maxHeartbeats 400000 in
theorem within_any (a l h : Int) (w : World) :
    Calls Try.prog 51 #[.int .i64 a, .int .i64 l, .int .i64 h] w fun e w' => e = .returned (.bool (inR a l h)) ∧ w = w' := by
  by_cases h1 : l ≤ a <;> by_cases h2 : a ≤ h
  all_goals
    go_enter Try.func51, Try.ntmps51
    go_wp2
    go_ret
    exact ⟨by simp [inR, h1, h2], rfl⟩

set_option maxHeartbeats 400000 in
theorem inRange_any (a l h : Int) (w : World) :
    Calls Try.prog 71 #[.int .i64 a, .int .i64 l, .int .i64 h] w fun e w' => e = .returned (.bool (inR a l h)) ∧ w = w' := by
  by_cases h1 : l ≤ a <;> by_cases h2 : a ≤ h
  all_goals
    go_enter Try.func71, Try.ntmps71
    go_wp2
    go_ret
    exact ⟨by simp [inR, h1, h2], rfl⟩

set_option maxHeartbeats 400000 in
theorem pred_any (x y : Int) (w : World) :
    Calls Try.prog 50 #[.agg #[.int .i64 x, .int .i64 y]] w fun e w' => e = .returned (.bool (!okP (x, y))) ∧ Below w.heap.size w w' := by
  go_enter Try.func50, Try.ntmps50
  go_wp2_with (go_at_call 51; refine (within_any _ _ _ _).mono ?_; rintro e w' ⟨rfl, rfl⟩)
  all_goals
    go_ret
    exact ⟨by simp [okP, *], (Below.refl _ _).alloc (Nat.le_refl _) _⟩

/-- What is asked of a predicate that is handed to the library. -/
def PredOk (g : Nat) (lb : Array Value) (p : Int × Int → Bool) (w : World) : Prop :=
  ∀ (W : World) (x y : Int), Below w.heap.size w W → Calls Try.prog g (#[.agg #[.int .i64 x, .int .i64 y]] ++ lb) W fun e w' => e = .returned (.bool (p (x, y))) ∧ Below W.heap.size W w'

/-- The first place at which p holds; -1. -/
def firstAt {α : Type} (p : α → Bool) (L : List α) : Int := match L.findIdx? p with
  | some i => i
  | none => -1

theorem firstAt_hit {α : Type} {p : α → Bool} {L : List α} {i : Nat} {x : α} (hx : L[i]? = some x) (hp : p x = true) (hn : ∀ j, j < i → ∀ y, L[j]? = some y → p y = false) : firstAt p L = i := by
  have : L.findIdx? p = some i := by
    rw [List.findIdx?_eq_some_iff_getElem]
    obtain ⟨hi, rfl⟩ := List.getElem?_eq_some_iff.1 hx
    refine ⟨hi, hp, fun j hj => ?_⟩
    have := hn j hj L[j] (List.getElem?_eq_getElem _)
    simp [this]
  simp [firstAt, this]
theorem firstAt_miss {α : Type} {p : α → Bool} {L : List α} (hn : ∀ j, j < L.length → ∀ y, L[j]? = some y → p y = false) : firstAt p L = -1 := by
  have : L.findIdx? p = none := by
    rw [List.findIdx?_eq_none_iff]
    intro x hx
    obtain ⟨j, hj⟩ := List.mem_iff_getElem?.1 hx
    obtain ⟨h1, _⟩ := List.getElem?_eq_some_iff.1 hj
    rw [hn j h1 x hj]
  simp [firstAt, this]
theorem firstAt_any {α : Type} (p : α → Bool) (L : List α) : decide (0 ≤ firstAt p L) = L.any p := by
  unfold firstAt
  cases h : L.findIdx? p with
  | none =>
    rw [List.findIdx?_eq_none_iff] at h
    symm
    simpa using h
  | some i =>
    rw [List.findIdx?_eq_some_iff_getElem] at h
    obtain ⟨h1, h2, _⟩ := h
    have : L.any p = true := by rw [List.any_eq_true]; exact ⟨_, List.getElem_mem h1, h2⟩
    rw [this]
    simp

set_option maxHeartbeats 1000000 in
theorem indexFunc_any (g : Nat) (lb : Array Value) (p : Int × Int → Bool) (eg : ∀ args w, (callFunc g args).run Try.prog w = .ok (.enter g args) w)
    (A : Option Addr) (L : List (Int × Int)) (c : Nat) (w : World) (hL : L.length ≤ 1000000000000) (h : Arr w w.heap.size 2 encP A L) (hp : PredOk g lb p w) :
    Calls Try.prog 70 #[.slice A L.length c, .func (.func g) #[] lb] w fun e w' => e = .returned (.int .i64 (firstAt p L)) ∧ Below w.heap.size w w' := by
  go_enter Try.func70, Try.ntmps70
  have Hh := hid h
  have Hp := hid hp
  clear h hp
  go_wp2
  go_loopg [5, 8] L.length (fun gg _ s8 wr => ∃ kk : Nat, kk ≤ L.length ∧ L.length - kk ≤ gg ∧ s8 = .int .i64 kk ∧ Aside (Below w.heap.size w wr) ∧ Aside (∀ j, j < kk → ∀ y, L[j]? = some y → p y = false))
  case atStart => exact ⟨0, Nat.zero_le _, by omega, rfl, Below.refl _ w, fun j hj => absurd hj (Nat.not_lt_zero _)⟩
  case round =>
    obtain ⟨kk, hkk, hg, rfl, BW, N⟩ := hrel
    by_cases hlt : kk < L.length
    · obtain ⟨b, off, x, y, rfl, hb, hx, c1, c2⟩ := (Hh.out.below BW.out).at2 hlt
      have hcall := Hp.out wr x y BW.out
      have HX := hid hx
      clear hx
      cases hq : p (x, y) with
      | true =>
        rw [hq] at hcall
        have HQ := hid hq
        clear hq
        go_wp2_with (go_at_fn g; refine hcall.mono ?_; rintro e w' ⟨rfl, hb'⟩)
        go_ret
        refine ⟨?_, BW.out.trans (hb'.mono BW.out.size)⟩
        rw [firstAt_hit HX.out HQ.out N.out]
        rfl
      | false =>
        rw [hq] at hcall
        have HQ := hid hq
        clear hq
        go_wp2_with (go_at_fn g; refine hcall.mono ?_; rintro e w' ⟨rfl, hb'⟩)
        go_roundg (L.length - (kk + 1))
        case measure => omega
        case rel =>
          refine ⟨kk + 1, by omega, by omega, by go_num, BW.out.trans (hb'.mono BW.out.size), (show Aside _ from fun j hj y hy => ?_)⟩
          by_cases e : j = kk
          · subst e
            have := HX.out.symm.trans hy
            injection this with this
            rw [← this]; exact HQ.out
          · exact N.out j (by omega) y hy
    · have : kk = L.length := by omega
      subst this
      go_wp2
      go_ret
      refine ⟨?_, BW.out⟩
      rw [firstAt_miss N.out]
      rfl
end Go.Proofs.Ytjkcejijdpmhoaa
