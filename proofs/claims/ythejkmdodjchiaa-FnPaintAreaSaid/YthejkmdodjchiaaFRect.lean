/- The library's IndexFunc and ContainsFunc at lists of impl.Rect, for any predicate. Written by a program of ours. -/
import Derived.Test.YthejkmdodjchiaaProg
import Derived.Test.YthejkmdodjchiaaTRect
import Derived.Test.YthejkmdodjchiaaFA
namespace Go.Proofs.Ythejkmdodjchiaa
set_option linter.unusedVariables false
set_option linter.unusedSimpArgs false
open Go.RowKit Go.Lib

/-- What is asked of a predicate that is handed to the library: over all worlds that S allows. -/
def PredRect (g : Nat) (lb : Array Value) (p : RectD → Bool) (L : List RectD) (w : World) : Prop :=
  ∀ (W : World) (x : RectD), x ∈ L → Below w.heap.size w W → Calls Try.prog g (#[.agg #[.int .i64 x.X, .int .i64 x.Y, .int .i64 x.W, .int .i64 x.H]] ++ lb) W fun e w' => e = .returned (.bool (p x)) ∧ Below W.heap.size W w'

set_option maxHeartbeats 1000000 in
theorem indexFuncRect_any (g : Nat) (lb : Array Value) (p : RectD → Bool) (eg : ∀ args w, (callFunc g args).run Try.prog w = .ok (.enter g args) w)
    (A : Option Addr) (L : List RectD) (c : Nat) (w : World) (hL : L.length ≤ 1000000000000) (h : Arr w w.heap.size 4 encRect A L) (hp : PredRect g lb p L w) :
    Calls Try.prog 60 #[.slice A L.length c, .func (.func g) #[] lb] w fun e w' => e = .returned (.int .i64 (firstAt p L)) ∧ Below w.heap.size w w' := by
  go_enter Try.func60, Try.ntmps60
  have Hh := hid h
  have Hp := hid hp
  clear h hp
  go_wp2
  go_loopg [5, 8] L.length (fun gg _ s8 wr => ∃ kk : Nat, kk ≤ L.length ∧ L.length - kk ≤ gg ∧ s8 = .int .i64 kk ∧ Aside (Below w.heap.size w wr) ∧ Aside (∀ j, j < kk → ∀ y, L[j]? = some y → p y = false))
  case atStart => exact ⟨0, Nat.zero_le _, by omega, rfl, Below.refl _ w, fun j hj => absurd hj (Nat.not_lt_zero _)⟩
  case round =>
    obtain ⟨kk, hkk, hg, rfl, BW, N⟩ := hrel
    by_cases hlt : kk < L.length
    · obtain ⟨b, off, x, rfl, hb, hx, c0, c1, c2, c3⟩ := (Hh.out.below BW.out).atRect hlt
      have hcall := Hp.out wr x (List.mem_of_getElem? hx) BW.out
      have HX := hid hx
      clear hx
      cases hq : p x with
      | true =>
        rw [hq] at hcall
        have HQ := hid hq
        clear hq
        go_wp2_with (go_at_fn g; refine hcall.mono ?_; rintro e w' ⟨rfl, hb'⟩)
        go_ret
        refine ⟨?_, BW.out.trans (hb'.mono BW.out.size)⟩
        rw [firstAt_hit HX.out HQ.out N.out]
        rfl
      | false =>
        rw [hq] at hcall
        have HQ := hid hq
        clear hq
        go_wp2_with (go_at_fn g; refine hcall.mono ?_; rintro e w' ⟨rfl, hb'⟩)
        go_roundg (L.length - (kk + 1))
        case measure => omega
        case rel =>
          refine ⟨kk + 1, by omega, by omega, by go_num, BW.out.trans (hb'.mono BW.out.size), (show Aside _ from fun j hj y hy => ?_)⟩
          by_cases e : j = kk
          · subst e
            have := HX.out.symm.trans hy
            injection this with this
            rw [← this]; exact HQ.out
          · exact N.out j (by omega) y hy
    · have : kk = L.length := by omega
      subst this
      go_wp2
      go_ret
      refine ⟨?_, BW.out⟩
      rw [firstAt_miss N.out]
      rfl

set_option maxHeartbeats 400000 in
theorem containsFuncRect_any (g : Nat) (lb : Array Value) (p : RectD → Bool) (eg : ∀ args w, (callFunc g args).run Try.prog w = .ok (.enter g args) w)
    (A : Option Addr) (L : List RectD) (c : Nat) (w : World) (hL : L.length ≤ 1000000000000) (h : Arr w w.heap.size 4 encRect A L) (hp : PredRect g lb p L w) :
    Calls Try.prog 46 #[.slice A L.length c, .func (.func g) #[] lb] w fun e w' => e = .returned (.bool (L.any p)) ∧ Below w.heap.size w w' := by
  have hc := indexFuncRect_any g lb p eg A L c w hL h hp
  rw [← firstAt_any p L]
  clear h hp
  go_enter Try.func46, Try.ntmps46
  go_wp2_with (go_at_call 60; refine hc.mono ?_; rintro e w' ⟨rfl, hb'⟩)
  go_ret
  exact ⟨rfl, hb'⟩
end Go.Proofs.Ythejkmdodjchiaa
