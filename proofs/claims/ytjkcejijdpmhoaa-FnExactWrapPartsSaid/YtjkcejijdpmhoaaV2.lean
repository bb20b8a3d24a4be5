/- impl.ValidParts and spec.ValidParts. -/
import Derived.Test.YtjkcejijdpmhoaaV
namespace Go.Proofs.Ytjkcejijdpmhoaa
open Go.RowKit Go.Lib

set_option maxHeartbeats 400000 in
theorem containsFunc_any (g : Nat) (lb : Array Value) (p : Int × Int → Bool) (eg : ∀ args w, (callFunc g args).run Try.prog w = .ok (.enter g args) w)
    (A : Option Addr) (L : List (Int × Int)) (c : Nat) (w : World) (hL : L.length ≤ 1000000000000) (h : Arr w w.heap.size 2 encP A L) (hp : PredOk g lb p w) :
    Calls Try.prog 49 #[.slice A L.length c, .func (.func g) #[] lb] w fun e w' => e = .returned (.bool (L.any p)) ∧ Below w.heap.size w w' := by
  have hc := indexFunc_any g lb p eg A L c w hL h hp
  rw [← firstAt_any p L]
  clear h hp
  go_enter Try.func49, Try.ntmps49
  go_wp2_with (go_at_call 70; refine hc.mono ?_; rintro e w' ⟨rfl, hb'⟩)
  go_ret
  exact ⟨rfl, hb'⟩

abbrev validL (L : List (Int × Int)) : Bool := validB L
theorem validL_iff {L : List (Int × Int)} : validL L = true ↔ L.length ≤ 12 ∧ ∀ p ∈ L, okP p = true := by
  unfold validL validB; rw [Bool.and_eq_true, decide_eq_true_eq, List.all_eq_true]
theorem validL_any (L : List (Int × Int)) : validL L = (decide (L.length ≤ 12) && !(L.any fun p => !okP p)) := by
  unfold validL validB
  congr 1
  rw [List.not_any_eq_all_not]
  congr 1
  funext p
  simp

set_option maxHeartbeats 400000 in
theorem implValid_any (A : Option Addr) (L : List (Int × Int)) (c : Nat) (w : World) (hL : L.length ≤ 1000000000000) (h : Arr w w.heap.size 2 encP A L) :
    Calls Try.prog 19 #[.slice A L.length c] w fun e w' => e = .returned (.bool (validL L)) ∧ Below w.heap.size w w' := by
  have hc := containsFunc_any 50 #[] (fun p => !okP p) (enters_of Try.func50 (by kernel_rfl) rfl) A L c w hL h (fun W x y _ => pred_any x y W)
  rw [validL_any]
  clear h
  generalize (L.any fun p => !okP p) = r at hc ⊢
  by_cases h12 : L.length ≤ 12
  · go_enter Try.func19, Try.ntmps19
    go_wp2_with (go_at_call 49; refine hc.mono ?_; rintro e w' ⟨rfl, hb'⟩)
    go_ret
    exact ⟨by simp [h12], hb'⟩
  · go_enter Try.func19, Try.ntmps19
    go_wp2_with fail
    go_ret
    exact ⟨by simp, Below.refl _ _⟩

theorem implValid_n (A : Option Addr) (L : List (Int × Int)) (n c : Nat) (r : Bool) (w : World) (hn : n = L.length) (hr : validL L = r) (hL : n ≤ 1000000000000) (h : Arr w w.heap.size 2 encP A L) :
    Calls Try.prog 19 #[.slice A n c] w fun e w' => e = .returned (.bool r) ∧ Below w.heap.size w w' := by
  subst hn hr
  exact implValid_any A L c w hL h

theorem all_of_prefix {L : List (Int × Int)} {k : Nat} (hk : L.length = k) (h : ∀ j, j < k → ∀ y, L[j]? = some y → okP y = true) : L.all okP = true := by
  rw [List.all_eq_true]
  intro x hx
  obtain ⟨j, hj⟩ := List.mem_iff_getElem?.1 hx
  obtain ⟨h1, _⟩ := List.getElem?_eq_some_iff.1 hj
  exact h j (by omega) x hj
theorem not_valid_of {L : List (Int × Int)} {k : Nat} {x : Int × Int} (hx : L[k]? = some x) (h : okP x = false) : validL L = false := by
  cases e : validL L with
  | false => rfl
  | true => rw [(validL_iff.1 e).2 x (List.mem_of_getElem? hx)] at h; cases h

set_option maxHeartbeats 1000000 in
theorem specvalid_any (A : Option Addr) (L : List (Int × Int)) (c : Nat) (w : World) (hL : L.length ≤ 1000000000000) (h : Arr w w.heap.size 2 encP A L) :
    Calls Try.prog 52 #[.slice A L.length c] w fun e w' => e = .returned (.bool (validL L)) ∧ w = w' := by
  have Hh := hid h
  clear h
  go_enter Try.func52, Try.ntmps52
  go_wp2
  go_loop [3] (fun s3 => ∃ kk : Nat, kk ≤ L.length ∧ s3 = .int .i64 kk ∧ Aside (∀ j, j < kk → ∀ y, L[j]? = some y → okP y = true)) (fun s3 => L.length - (intOf s3).toNat)
  case atStart => exact ⟨0, Nat.zero_le _, rfl, fun j hj => absurd hj (Nat.not_lt_zero _)⟩
  case round =>
    obtain ⟨kk, hkk, rfl, N⟩ := hrel
    by_cases hlt : kk < L.length
    · obtain ⟨b, off, x, y, rfl, hb, hx, c1, c2⟩ := Hh.out.at2 hlt
      have HX := hid hx
      clear hx
      cases h1 : inR x 0 10000 with
      | false =>
        go_wp2_with (go_at_call 71; refine (inRange_any _ _ _ _).mono ?_; rintro e w' ⟨rfl, rfl⟩)
        go_ret
        exact ⟨by rw [not_valid_of HX.out (by simp [okP, h1])]; rfl, rfl⟩
      | true =>
        cases h2 : inR y 0 10000 with
        | false =>
          go_wp2_with (go_at_call 71; refine (inRange_any _ _ _ _).mono ?_; rintro e w' ⟨rfl, rfl⟩)
          go_ret
          exact ⟨by rw [not_valid_of HX.out (by simp [okP, h2])]; rfl, rfl⟩
        | true =>
          go_wp2_with (go_at_call 71; refine (inRange_any _ _ _ _).mono ?_; rintro e w' ⟨rfl, rfl⟩)
          go_round
          case measure => simp [intOf]; omega
          case rel =>
            refine ⟨kk + 1, by omega, by go_num, (show Aside _ from fun j hj z hz => ?_)⟩
            by_cases e : j = kk
            · subst e
              have := HX.out.symm.trans hz
              injection this with this
              rw [← this]; simp [okP, h1, h2]
            · exact N.out j (by omega) z hz
    · have : kk = L.length := by omega
      subst this
      go_wp2
      go_ret
      exact ⟨by unfold validL validB; rw [all_of_prefix rfl N.out]; simp; go_num, rfl⟩

set_option maxHeartbeats 400000 in
theorem specValid_any (A : Option Addr) (L : List (Int × Int)) (c : Nat) (w : World) (hL : L.length ≤ 1000000000000) (h : Arr w w.heap.size 2 encP A L) :
    Calls Try.prog 20 #[.slice A L.length c] w fun e w' => e = .returned (.bool (validL L)) ∧ w = w' := by
  have hc := specvalid_any A L c w hL h
  clear h
  generalize validL L = r at hc ⊢
  go_enter Try.func20, Try.ntmps20
  go_wp2_with (go_at_call 52; refine hc.mono ?_; rintro e w' ⟨rfl, rfl⟩)
  go_ret
  exact ⟨rfl, rfl⟩
end Go.Proofs.Ytjkcejijdpmhoaa
