/- Helpers of the laws over lines: equalInts, sum, the generators of a list, a width and a gap. -/
import Derived.Test.YtjkcejijdpmhoaaD2
import Derived.Test.YtjkcejijdpmhoaaC3
import Derived.Test.YtjkcejijdpmhoaaM2
namespace Go.Proofs.Ytjkcejijdpmhoaa
open Go.RowKit Go.Lib

set_option maxHeartbeats 1000000 in
theorem equalInts_same (A A' : Option Addr) (C : List Int) (c c' : Nat) (w : World) (hL : C.length ≤ 1048576) (h : Arr w w.heap.size 1 encI A C) (h' : Arr w w.heap.size 1 encI A' C) :
    Calls Try.prog 26 #[.slice A C.length c, .slice A' C.length c'] w fun e w' => e = .returned (.bool true) ∧ Below w.heap.size w w' := by
  have H := hid h
  have H' := hid h'
  clear h h'
  go_enter Try.func26, Try.ntmps26
  go_wp2
  go_loopg [5] C.length (fun gg s5 wr => ∃ i : Nat, i ≤ C.length ∧ C.length - i ≤ gg ∧ s5 = .int .i64 i ∧ Aside (Below w.heap.size w wr))
  case atStart => exact ⟨0, Nat.zero_le _, by omega, rfl, Below.refl _ _⟩
  case round =>
    obtain ⟨i, hi, hg, rfl, R⟩ := hrel
    by_cases hlt : i < C.length
    · obtain ⟨b, off, x, rfl, hb, hx, c1⟩ := (H.out.below R.out).at1 hlt
      obtain ⟨b', off', x', rfl, hb', hx', c1'⟩ := (H'.out.below R.out).at1 hlt
      have e := hx.symm.trans hx'
      injection e with e
      subst e
      clear hx hx'
      have i1 : (0 : Int) ≤ (i : Int) := by omega
      have i2 : (i : Int) < (C.length : Int) := by omega
      go_wp2_with fail
      go_quiet (fail)
      go_wp2
      go_roundg (C.length - (i + 1))
      case measure => omega
      case rel => exact ⟨i + 1, by omega, by omega, by go_num, Below_drewN R.out nq⟩
    · have : i = C.length := by omega
      subst this
      go_wp2
      go_ret
      exact ⟨rfl, R.out⟩

theorem sum_take {C : List Int} {i : Nat} {x : Int} (h : C[i]? = some x) : (C.take (i + 1)).sum = (C.take i).sum + x := by
  rw [take_next h, List.sum_append]
  simp
theorem sum_bd {C : List Int} (h : ∀ x ∈ C, 0 ≤ x ∧ x ≤ 1000000) (i : Nat) : 0 ≤ (C.take i).sum ∧ (C.take i).sum ≤ 1000000 * (C.length : Int) := by
  have key : ∀ D : List Int, (∀ x ∈ D, 0 ≤ x ∧ x ≤ 1000000) → 0 ≤ D.sum ∧ D.sum ≤ 1000000 * (D.length : Int) := by
    intro D
    induction D with
    | nil => intro _; simp
    | cons x D ih =>
      intro hD
      have h1 := hD x (by simp)
      have h2 := ih (fun y hy => hD y (by simp [hy]))
      rw [List.sum_cons, List.length_cons]
      omega
  have := key (C.take i) (fun x hx => h x (List.mem_of_mem_take hx))
  rw [List.length_take] at this
  omega

set_option maxHeartbeats 1000000 in
theorem sum_any (A : Option Addr) (C : List Int) (c : Nat) (w : World) (hL : C.length ≤ 1048576) (hC : ∀ x ∈ C, 0 ≤ x ∧ x ≤ 1000000) (h : Arr w w.heap.size 1 encI A C) :
    Calls Try.prog 28 #[.slice A C.length c] w fun e w' => e = .returned (.int .i64 C.sum) ∧ w = w' := by
  have H := hid h
  have HC := hid hC
  clear h hC
  go_enter Try.func28, Try.ntmps28
  go_wp2
  go_loop [3, 4] (fun s3 s4 => ∃ (i : Nat) (s : Int), i ≤ C.length ∧ s4 = .int .i64 i ∧ s3 = .int .i64 s ∧ Aside (s = (C.take i).sum)) (fun _ s4 => C.length - (intOf s4).toNat)
  case atStart => exact ⟨0, 0, Nat.zero_le _, rfl, rfl, rfl⟩
  case round =>
    obtain ⟨i, s, hi, rfl, rfl, S⟩ := hrel
    obtain ⟨hs0, hs1⟩ := sum_bd HC.out i
    rw [← S.out] at hs0 hs1
    by_cases hlt : i < C.length
    · obtain ⟨b, off, x, rfl, hb, hx, c1⟩ := H.out.at1 hlt
      obtain ⟨hx0, hx1⟩ := HC.out x (List.mem_of_getElem? hx)
      have HX := hid hx
      clear hx
      go_wp2
      go_round
      case measure => simp [intOf]; omega
      case rel => exact ⟨i + 1, s + x, by omega, by go_num, by go_num, (show s + x = _ by rw [sum_take HX.out, S.out])⟩
    · have : i = C.length := by omega
      subst this
      go_wp2
      go_ret
      refine ⟨?_, rfl⟩
      have := S.out
      rw [List.take_length] at this
      rw [← this]
      rfl

/-- What a generator of a number leaves. -/
def DrawnN (w : World) (r : Nat) (A : Option Addr) (cap : Nat) (bs : List Int) (p : Nat) (e : Ending) (w' : World) : Prop :=
  ∃ x : Int, e = .returned (.int .i64 x) ∧ RStep w r A cap bs (p + 1) w'

set_option maxHeartbeats 400000 in
theorem someSide_any (r : Nat) (A : Option Addr) (cap : Nat) (bs : List Int) (p : Nat) (w : World) (h : Rd w r A cap bs p) (hp : p ≤ 100000) :
    Calls Try.prog 55 #[.pointer (some ⟨r, 0, none⟩)] w (DrawnN w r A cap bs p) := by
  have H := hid h
  clear h
  go_enter Try.func55, Try.ntmps55
  go_wp2_with fail
  (with_reducible refine (oneLit r A cap bs p _ 11 [100, 200, 300, 50, 0, 500, 10000, 10001, -1, 150, 320] _ _ H.out (by omega) ?_ ?_ rfl (by omega) (by omega)).mono ?_)
  · rfl
  · rfl
  rintro e w1 ⟨x, rfl, hx, hr1⟩
  have HR := hid hr1
  clear hr1 hx
  go_wp2
  go_ret
  exact ⟨x, rfl, HR.out⟩

set_option maxHeartbeats 400000 in
theorem someGap_any (r : Nat) (A : Option Addr) (cap : Nat) (bs : List Int) (p : Nat) (w : World) (h : Rd w r A cap bs p) (hp : p ≤ 100000) :
    Calls Try.prog 56 #[.pointer (some ⟨r, 0, none⟩)] w (DrawnN w r A cap bs p) := by
  have H := hid h
  clear h
  go_enter Try.func56, Try.ntmps56
  go_wp2_with fail
  (with_reducible refine (oneLit r A cap bs p _ 8 [0, 1, 5, 10, 50, 51, -1, 2] _ _ H.out (by omega) ?_ ?_ rfl (by omega) (by omega)).mono ?_)
  · rfl
  · rfl
  rintro e w1 ⟨x, rfl, hx, hr1⟩
  have HR := hid hr1
  clear hr1 hx
  go_wp2
  go_ret
  exact ⟨x, rfl, HR.out⟩

/-- What a law's generator of a list, a width and a gap leaves. -/
def DrawnLWG (w : World) (e : Ending) (w' : World) : Prop :=
  ∃ (A' : Option Addr) (c : Nat) (L : List (Int × Int)) (x y : Int), e = .returned (.tuple #[.slice A' L.length c, .int .i64 x, .int .i64 y]) ∧ L.length ≤ 13 ∧ L.length ≤ c ∧ c ≤ maxLen ∧ OwnA w' w.heap.size 2 encP A' L ∧ Below w.heap.size w w'

set_option maxHeartbeats 1000000 in
theorem drawLineCounts_any (A : Option Addr) (cap : Nat) (bs : List Int) (w : World) (h : Code w A cap bs) :
    Calls Try.prog 24 #[.slice A bs.length cap] w (DrawnLWG w) := by
  have hc := newReader_any A cap bs w h
  clear h
  go_enter Try.func24, Try.ntmps24
  go_wp2_with fail
  refine hc.mono ?_
  rintro e w1 ⟨rfl, ⟨cap', hrd⟩, hb, hlt⟩
  have HB := hid hb
  have hc2 := anyParts_any _ A cap' _ 0 w1 hrd (by omega)
  clear hrd hb hc
  go_wp2_with fail
  refine hc2.mono ?_
  rintro e w2 ⟨A', c, L, p', rfl, h1, h2, h3, h4, h5, h6, h7⟩
  have H7 := hid h7
  have H4 := hid h4
  have hc3 := someSide_any _ A cap' _ p' w2 h5 (by omega)
  clear h7 h4 h5 hc2
  go_wp2_with fail
  refine hc3.mono ?_
  rintro e w3 ⟨x, rfl, hr3⟩
  have HR3 := hid hr3
  have hc4 := someGap_any _ A cap' _ (p' + 1) w3 hr3.rd (by omega)
  clear hr3 hc3
  go_wp2_with fail
  refine hc4.mono ?_
  rintro e w4 ⟨y, rfl, hr4⟩
  have HR4 := hid hr4
  clear hr4 hc4
  go_wp2
  go_ret3
  have g1 := grown_trans (grown_trans H7.out HR3.out.gr) HR4.out.gr
  have ho : OwnA w4 w.heap.size 2 encP A' L := by
    have o1 := H4.out.apart HR3.out.gr (fun g hg => by injection hg with hg; exact .inl (by omega))
    have o2 := o1.apart HR4.out.gr (fun g hg => by injection hg with hg; exact .inl (by omega))
    exact o2.less HB.out.size
  exact ⟨A', c, L, x, y, rfl, h1, h2, h3, ho, below_of_grown HB.out g1 HB.out.size (Nat.le_refl _)⟩

theorem counts_ok {L : List (Int × Int)} {x y : Int} (h : (countsOf L x y).length ≠ 0) : okL L x y = true := by
  cases e : okL L x y with
  | true => rfl
  | false => exact absurd (by simp [countsOf, e]) h
theorem okL_zero {L : List (Int × Int)} {x y : Int} (h : okL L x y = true) : okL L 0 y = true := by
  unfold okL at h ⊢
  rw [Bool.and_eq_true, Bool.and_eq_true] at h
  rw [h.1.1, h.2]
  rfl
theorem counts_len {L : List (Int × Int)} {x y : Int} (hL : L.length ≤ 13) : (countsOf L x y).length ≤ 13 := by
  unfold countsOf
  split
  · have := lines_len x y L.length L (Nat.le_refl _)
    unfold cnt
    rw [List.length_map]
    omega
  · simp
theorem counts_le {L : List (Int × Int)} {x y : Int} : (countsOf L x y).length ≤ 12 := by
  unfold countsOf
  split
  · rename_i h
    have h12 : L.length ≤ 12 := by
      unfold okL at h
      rw [Bool.and_eq_true, Bool.and_eq_true] at h
      have := h.1.1
      unfold validB at this
      rw [Bool.and_eq_true] at this
      exact of_decide_eq_true this.1
    have := lines_len x y L.length L (Nat.le_refl _)
    unfold cnt
    rw [List.length_map]
    omega
  · simp
end Go.Proofs.Ytjkcejijdpmhoaa
