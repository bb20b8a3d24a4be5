/- Valid tracks: impl.ValidTracks and spec.validTracks. -/
import Derived.Test.YtjebjcabggmaiaaS6
namespace Go.Proofs.Ytjebjcabggmaiaa
set_option linter.unusedVariables false
set_option linter.unusedSimpArgs false
open Go.RowKit Go.Lib

/-- A valid track. -/
def vT (t : TrackD) : Bool := inR t.Size 0 10000 && inR t.Part 0 10 && !(decide (0 < t.Size) && decide (0 < t.Part))
/-- Valid tracks. -/
def vTs (L : List TrackD) : Bool := inR L.length 1 8 && !(L.any fun t => !vT t)
theorem vTs_iff {L : List TrackD} : vTs L = true ↔ (1 ≤ L.length ∧ L.length ≤ 8) ∧ ∀ t ∈ L, vT t = true := by
  unfold vTs inR
  rw [Bool.and_eq_true, decide_eq_true_eq, List.not_any_eq_all_not, List.all_eq_true]
  simp only [Bool.not_not]
  constructor
  · rintro ⟨⟨h1, h2⟩, h3⟩
    exact ⟨⟨by omega, by omega⟩, h3⟩
  · rintro ⟨⟨h1, h2⟩, h3⟩
    exact ⟨⟨by omega, by omega⟩, h3⟩

set_option maxHeartbeats 1000000 in
theorem predT_any (x y : Int) (w : World) :
    Calls Try.prog 40 #[.agg #[.int .i64 x, .int .i64 y]] w fun e w' => e = .returned (.bool (!vT ⟨x, y⟩)) ∧ Below w.heap.size w w' := by
  cases hx : inR x 0 10000 <;> cases hy : inR y 0 10 <;> by_cases h1 : 0 < x <;> by_cases h2 : 0 < y
  all_goals
    have E : (!vT ⟨x, y⟩) = (!(inR x 0 10000 && inR y 0 10 && !(decide (0 < x) && decide (0 < y)))) := rfl
    rw [hx, hy] at E
    simp only [h1, h2, decide_true, decide_false, Bool.and_true, Bool.and_false, Bool.true_and, Bool.false_and, Bool.not_true, Bool.not_false] at E
    rw [E]
    clear E
    go_enter Try.func40, Try.ntmps40
    go_wp2_with (go_at_call 30; refine (within_any _ _ _ _).mono ?_; rintro e w' ⟨rfl, rfl⟩)
    go_ret
    exact ⟨by simp [h1, h2], (Below.refl _ _).alloc (Nat.le_refl _) _⟩

/-- What is asked of a predicate that is handed to the library. -/
def PredOk (g : Nat) (lb : Array Value) (p : TrackD → Bool) (w : World) : Prop :=
  ∀ (W : World) (x y : Int), Below w.heap.size w W → Calls Try.prog g (#[.agg #[.int .i64 x, .int .i64 y]] ++ lb) W fun e w' => e = .returned (.bool (p ⟨x, y⟩)) ∧ Below W.heap.size W w'

/-- The first place at which p holds; -1. -/
def firstAt {α : Type} (p : α → Bool) (L : List α) : Int := match L.findIdx? p with
  | some i => i
  | none => -1

theorem firstAt_hit {α : Type} {p : α → Bool} {L : List α} {i : Nat} {x : α} (hx : L[i]? = some x) (hp : p x = true) (hn : ∀ j, j < i → ∀ y, L[j]? = some y → p y = false) : firstAt p L = i := by
  have : L.findIdx? p = some i := by
    rw [List.findIdx?_eq_some_iff_getElem]
    obtain ⟨hi, rfl⟩ := List.getElem?_eq_some_iff.1 hx
    refine ⟨hi, hp, fun j hj => ?_⟩
    have := hn j hj L[j] (List.getElem?_eq_getElem _)
    simp [this]
  simp [firstAt, this]
theorem firstAt_miss {α : Type} {p : α → Bool} {L : List α} (hn : ∀ j, j < L.length → ∀ y, L[j]? = some y → p y = false) : firstAt p L = -1 := by
  have : L.findIdx? p = none := by
    rw [List.findIdx?_eq_none_iff]
    intro x hx
    obtain ⟨j, hj⟩ := List.mem_iff_getElem?.1 hx
    obtain ⟨h1, _⟩ := List.getElem?_eq_some_iff.1 hj
    rw [hn j h1 x hj]
  simp [firstAt, this]
theorem firstAt_any {α : Type} (p : α → Bool) (L : List α) : decide (0 ≤ firstAt p L) = L.any p := by
  unfold firstAt
  cases h : L.findIdx? p with
  | none =>
    rw [List.findIdx?_eq_none_iff] at h
    symm
    simpa using h
  | some i =>
    rw [List.findIdx?_eq_some_iff_getElem] at h
    obtain ⟨h1, h2, _⟩ := h
    have : L.any p = true := by rw [List.any_eq_true]; exact ⟨_, List.getElem_mem h1, h2⟩
    rw [this]
    simp

set_option maxHeartbeats 1000000 in
theorem indexFunc_any (g : Nat) (lb : Array Value) (p : TrackD → Bool) (eg : ∀ args w, (callFunc g args).run Try.prog w = .ok (.enter g args) w)
    (A : Option Addr) (L : List TrackD) (c : Nat) (w : World) (hL : L.length ≤ 1000000000000) (h : Arr w w.heap.size 2 encTrack A L) (hp : PredOk g lb p w) :
    Calls Try.prog 44 #[.slice A L.length c, .func (.func g) #[] lb] w fun e w' => e = .returned (.int .i64 (firstAt p L)) ∧ Below w.heap.size w w' := by
  go_enter Try.func44, Try.ntmps44
  have Hh := hid h
  have Hp := hid hp
  clear h hp
  go_wp2
  go_loopg [5, 8] L.length (fun gg _ s8 wr => ∃ kk : Nat, kk ≤ L.length ∧ L.length - kk ≤ gg ∧ s8 = .int .i64 kk ∧ Aside (Below w.heap.size w wr) ∧ Aside (∀ j, j < kk → ∀ y, L[j]? = some y → p y = false))
  case atStart => exact ⟨0, Nat.zero_le _, by omega, rfl, Below.refl _ w, fun j hj => absurd hj (Nat.not_lt_zero _)⟩
  case round =>
    obtain ⟨kk, hkk, hg, rfl, BW, N⟩ := hrel
    by_cases hlt : kk < L.length
    · obtain ⟨b, off, ⟨x, y⟩, rfl, hb, hx, c1, c2⟩ := (Hh.out.below BW.out).atTrack hlt
      have hcall := Hp.out wr x y BW.out
      have HX := hid hx
      clear hx
      cases hq : p ⟨x, y⟩ with
      | true =>
        rw [hq] at hcall
        have HQ := hid hq
        clear hq
        go_wp2_with (go_at_fn g; refine hcall.mono ?_; rintro e w' ⟨rfl, hb'⟩)
        go_ret
        refine ⟨?_, BW.out.trans (hb'.mono BW.out.size)⟩
        rw [firstAt_hit HX.out HQ.out N.out]
        rfl
      | false =>
        rw [hq] at hcall
        have HQ := hid hq
        clear hq
        go_wp2_with (go_at_fn g; refine hcall.mono ?_; rintro e w' ⟨rfl, hb'⟩)
        go_roundg (L.length - (kk + 1))
        case measure => omega
        case rel =>
          refine ⟨kk + 1, by omega, by omega, by go_num, BW.out.trans (hb'.mono BW.out.size), (show Aside _ from fun j hj y hy => ?_)⟩
          by_cases e : j = kk
          · subst e
            have := HX.out.symm.trans hy
            injection this with this
            rw [← this]; exact HQ.out
          · exact N.out j (by omega) y hy
    · have : kk = L.length := by omega
      subst this
      go_wp2
      go_ret
      refine ⟨?_, BW.out⟩
      rw [firstAt_miss N.out]
      rfl
set_option maxHeartbeats 400000 in
theorem containsFunc_any (g : Nat) (lb : Array Value) (p : TrackD → Bool) (eg : ∀ args w, (callFunc g args).run Try.prog w = .ok (.enter g args) w)
    (A : Option Addr) (L : List TrackD) (c : Nat) (w : World) (hL : L.length ≤ 1000000000000) (h : Arr w w.heap.size 2 encTrack A L) (hp : PredOk g lb p w) :
    Calls Try.prog 39 #[.slice A L.length c, .func (.func g) #[] lb] w fun e w' => e = .returned (.bool (L.any p)) ∧ Below w.heap.size w w' := by
  have hc := indexFunc_any g lb p eg A L c w hL h hp
  rw [← firstAt_any p L]
  clear h hp
  go_enter Try.func39, Try.ntmps39
  go_wp2_with (go_at_call 44; refine hc.mono ?_; rintro e w' ⟨rfl, hb'⟩)
  go_ret
  exact ⟨rfl, hb'⟩

set_option maxHeartbeats 400000 in
theorem validT_any (A : Option Addr) (L : List TrackD) (c : Nat) (w : World) (hL : L.length ≤ 1000000000000) (h : Arr w w.heap.size 2 encTrack A L) :
    Calls Try.prog 34 #[.slice A L.length c] w fun e w' => e = .returned (.bool (vTs L)) ∧ Below w.heap.size w w' := by
  have hc := containsFunc_any 40 #[] (fun p => !vT p) (enters_of Try.func40 (by kernel_rfl) rfl) A L c w hL h (fun W x y _ => predT_any x y W)
  have wn := within_any (L.length : Int) 1 8 w
  clear h
  unfold vTs
  generalize (L.any fun p => !vT p) = r at hc ⊢
  cases h8 : inR (L.length : Int) 1 8
  all_goals
    rw [h8] at wn
    clear h8
    go_enter Try.func34, Try.ntmps34
    go_wp2_with (go_at_call 30; refine wn.mono ?_; rintro e w' ⟨rfl, rfl⟩)
  · go_ret
    exact ⟨rfl, Below.refl _ _⟩
  · go_wp2_with (go_at_call 39; refine hc.mono ?_; rintro e w' ⟨rfl, hb'⟩)
    go_ret
    exact ⟨by simp, hb'⟩

theorem vT_field {x y : Int} (h : vT ⟨x, y⟩ = true) : (0 ≤ x ∧ x ≤ 10000) ∧ (0 ≤ y ∧ y ≤ 10) := by
  unfold vT inR at h
  simp only [Bool.and_eq_true, decide_eq_true_eq] at h
  exact h.1
theorem anyv_hit {L : List TrackD} {i : Nat} {x : TrackD} (hx : L[i]? = some x) (h : vT x = false) : vTs L = false := by
  cases e : vTs L with
  | false => rfl
  | true => rw [(vTs_iff.1 e).2 x (List.mem_of_getElem? hx)] at h; cases h
theorem anyv_miss {L : List TrackD} (hn : ∀ j, j < L.length → ∀ y, L[j]? = some y → vT y = true) : vTs L = inR (L.length : Int) 1 8 := by
  unfold vTs
  have : (L.any fun t => !vT t) = false := by
    rw [List.any_eq_false]
    intro x hx
    obtain ⟨j, hj⟩ := List.mem_iff_getElem?.1 hx
    obtain ⟨h1, _⟩ := List.getElem?_eq_some_iff.1 hj
    simp [hn j h1 x hj]
  rw [this]
  simp

set_option maxHeartbeats 4000000 in
theorem validTS_any (A : Option Addr) (L : List TrackD) (c : Nat) (w : World) (hL : L.length ≤ 1000000000000) (h : Arr w w.heap.size 2 encTrack A L) :
    Calls Try.prog 18 #[.slice A L.length c] w fun e w' => e = .returned (.bool (vTs L)) ∧ Below w.heap.size w w' := by
  have Hh := hid h
  clear h
  go_enter Try.func18, Try.ntmps18
  go_wp2
  go_loopg [3] L.length (fun gg s3 wr => ∃ kk : Nat, kk ≤ L.length ∧ L.length - kk ≤ gg ∧ s3 = .int .i64 kk ∧ Aside (wr = w) ∧ Aside (∀ j, j < kk → ∀ y, L[j]? = some y → vT y = true))
  case atStart => exact ⟨0, Nat.zero_le _, by omega, rfl, rfl, fun j hj => absurd hj (Nat.not_lt_zero _)⟩
  case round =>
    obtain ⟨kk, hkk, hg, rfl, BW, N⟩ := hrel
    obtain rfl := BW.out
    by_cases hlt : kk < L.length
    · obtain ⟨b, off, ⟨x, y⟩, rfl, hb, hx, c1, c2⟩ := Hh.out.atTrack hlt
      have HX := hid hx
      clear hx BW
      have go : vT ⟨x, y⟩ = true → Aside (∀ j, j < kk + 1 → ∀ z, L[j]? = some z → vT z = true) := fun hv j hj z hz => by
        by_cases e : j = kk
        · subst e
          have := HX.out.symm.trans hz
          injection this with this
          rw [← this]; exact hv
        · exact N.out j (by omega) z hz
      have stop : vT ⟨x, y⟩ = false → vTs L = false := fun hv => anyv_hit HX.out hv
      have GO := hid go
      have ST := hid stop
      clear go stop
      cases hx : inR x 0 10000 <;> cases hy : inR y 0 10 <;> by_cases h1 : 0 < x <;> by_cases h2 : 0 < y
      all_goals
        have E : vT ⟨x, y⟩ = (inR x 0 10000 && inR y 0 10 && !(decide (0 < x) && decide (0 < y))) := rfl
        rw [hx, hy] at E
        simp only [h1, h2, decide_true, decide_false, Bool.and_true, Bool.and_false, Bool.true_and, Bool.false_and, Bool.not_true, Bool.not_false] at E
        have HE := hid E
        clear E
        go_wp2_with (go_at_call 19; refine (inRange_any _ _ _ _).mono ?_; rintro e w' ⟨rfl, rfl⟩)
        first
          | (go_ret
             rw [ST.out HE.out]
             exact ⟨rfl, Below.refl _ _⟩)
          | (go_roundg (L.length - (kk + 1))
             case measure => omega
             case rel => exact ⟨kk + 1, by omega, by omega, by go_num, rfl, GO.out HE.out⟩)
    · have : kk = L.length := by omega
      subst this
      have wn := inRange_any (L.length : Int) 1 8 wr
      have EV := hid (anyv_miss N.out)
      go_wp2_with (go_at_call 19; refine wn.mono ?_; rintro e w' ⟨rfl, rfl⟩)
      go_ret
      exact ⟨by rw [EV.out]; rfl, Below.refl _ _⟩
end Go.Proofs.Ytjebjcabggmaiaa
