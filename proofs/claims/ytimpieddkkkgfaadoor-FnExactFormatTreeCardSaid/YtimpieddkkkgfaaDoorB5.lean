/- The library at lists of numbers: Index, Contains, Reverse, Clip. -/
import Derived.Test.YtimpieddkkkgfaaDoorB4
import Derived.Deep.RegionLaw
import Derived.Shelf.RegionOpenPlain
namespace Go.Proofs.YtimpieddkkkgfaaDoor
set_option linter.unusedVariables false
set_option linter.unusedSimpArgs false
open Go.RowKit Go.Lib

theorem eltIntB : Elt Tryd.prog 38 3 1 8 := Elt.mk' Tryd.underlying38 (z := .int .i64 0) (by kernel_rfl) rfl (by omega) (by omega)

set_option maxHeartbeats 400000 in
theorem clipInt_any (A : Option Addr) (n c : Nat) (w : World) (hn : n ≤ c) :
    Calls Tryd.prog 35 #[.slice A n c] w fun e w' => e = .returned (.slice A n n) ∧ w = w' := by
  go_enter Tryd.func35, Tryd.ntmps35
  go_wp2
  go_ret
  exact ⟨rfl, rfl⟩

/-- The first place of a number, or -1. -/
def idxI (C : List Int) (x : Int) : Int := match C.findIdx? (· == x) with
  | some i => i
  | none => -1
theorem idxI_hit {C : List Int} {x : Int} {i : Nat} (hx : C[i]? = some x) (hn : ∀ j, j < i → ∀ y, C[j]? = some y → y ≠ x) : idxI C x = i := by
  have : C.findIdx? (· == x) = some i := by
    rw [List.findIdx?_eq_some_iff_getElem]
    obtain ⟨hi, rfl⟩ := List.getElem?_eq_some_iff.1 hx
    refine ⟨hi, by simp, fun j hj => ?_⟩
    have := hn j hj C[j] (List.getElem?_eq_getElem _)
    simpa using this
  simp [idxI, this]
theorem idxI_miss {C : List Int} {x : Int} (hn : ∀ j, j < C.length → ∀ y, C[j]? = some y → y ≠ x) : idxI C x = -1 := by
  have : C.findIdx? (· == x) = none := by
    rw [List.findIdx?_eq_none_iff]
    intro y hy
    obtain ⟨j, hj⟩ := List.mem_iff_getElem?.1 hy
    obtain ⟨h1, _⟩ := List.getElem?_eq_some_iff.1 hj
    simpa using hn j h1 y hj
  simp [idxI, this]
theorem idxI_has (C : List Int) (x : Int) : decide (0 ≤ idxI C x) = C.contains x := by
  unfold idxI
  cases h : C.findIdx? (· == x) with
  | none =>
    rw [List.findIdx?_eq_none_iff] at h
    symm
    rw [Bool.eq_iff_iff, List.contains_iff_mem]
    constructor
    · intro hm; have := h x hm; simp at this
    · intro h; simp at h
  | some i =>
    rw [List.findIdx?_eq_some_iff_getElem] at h
    obtain ⟨h1, h2, _⟩ := h
    rw [Bool.eq_iff_iff, List.contains_iff_mem]
    rw [beq_iff_eq] at h2
    refine ⟨fun _ => by rw [← h2]; exact List.getElem_mem h1, fun _ => by simp⟩

set_option maxHeartbeats 1000000 in
theorem indexInt_any (A : Option Addr) (C : List Int) (c : Nat) (x : Int) (w : World) (hL : C.length ≤ 2000000) (h : Arr w w.heap.size 1 encI A C) :
    Calls Tryd.prog 41 #[.slice A C.length c, .int .i64 x] w fun e w' => e = .returned (.int .i64 (idxI C x)) ∧ w = w' := by
  have H := hid h
  have HIT := hid (fun i hx hn => idxI_hit (C := C) (x := x) (i := i) hx hn)
  have MISS := hid (fun hn => idxI_miss (C := C) (x := x) hn)
  clear h
  generalize idxI C x = r at *
  go_enter Tryd.func41, Tryd.ntmps41
  go_wp2
  go_loopg [5, 8] C.length (fun gg _ s8 wr => ∃ i : Nat, i ≤ C.length ∧ C.length - i ≤ gg ∧ s8 = .int .i64 i ∧ Aside (wr = w) ∧ Aside (∀ j, j < i → ∀ y, C[j]? = some y → y ≠ x))
  case atStart => exact ⟨0, Nat.zero_le _, by omega, rfl, rfl, fun j hj => absurd hj (Nat.not_lt_zero _)⟩
  case round =>
    obtain ⟨i, hi, hg, rfl, W, N⟩ := hrel
    obtain rfl := W.out
    by_cases hlt : i < C.length
    · obtain ⟨b, off, y, rfl, hb, hy, c1⟩ := H.out.at1 hlt
      have HY := hid hy
      clear hy
      by_cases hxy : y = x
      · subst hxy
        have hb2 : (y == y) = true := by simp
        have hr := HIT.out i HY.out N.out
        subst hr
        go_wp2
        go_ret
        exact ⟨rfl, rfl⟩
      · have hb2 : (x == y) = false := by rw [beq_eq_false_iff_ne]; exact fun e => hxy e.symm
        have HXY := hid hxy
        clear hxy
        go_wp2
        go_roundg (C.length - (i + 1))
        case measure => omega
        case rel =>
          refine ⟨i + 1, by omega, by omega, by go_num, rfl, (show Aside _ from fun j hj y' hy' => ?_)⟩
          by_cases e : j = i
          · subst e
            have := HY.out.symm.trans hy'
            injection this with this
            rw [← this]; exact HXY.out
          · exact N.out j (by omega) y' hy'
    · have hil : i = C.length := by omega
      subst hil
      have hr := MISS.out N.out
      subst hr
      go_wp2
      go_ret
      exact ⟨rfl, rfl⟩

set_option maxHeartbeats 400000 in
theorem containsInt_any (A : Option Addr) (C : List Int) (c : Nat) (x : Int) (w : World) (hL : C.length ≤ 2000000) (h : Arr w w.heap.size 1 encI A C) :
    Calls Tryd.prog 26 #[.slice A C.length c, .int .i64 x] w fun e w' => e = .returned (.bool (C.contains x)) ∧ w = w' := by
  have hc := indexInt_any A C c x w hL h
  rw [← idxI_has C x]
  clear h
  generalize idxI C x = r at *
  go_enter Tryd.func26, Tryd.ntmps26
  go_wp2_with fail
  refine hc.mono ?_
  rintro e w' ⟨rfl, rfl⟩
  go_wp2
  go_ret
  exact ⟨by simp, rfl⟩

/-- A list half turned round: i from either end. -/
def RevInv (C D : List Int) (i : Nat) : Prop := D.length = C.length ∧ ∀ k, D[k]? = if k < i ∨ C.length - i ≤ k then C.reverse[k]? else C[k]?
theorem RevInv.start (C : List Int) : RevInv C C 0 := ⟨rfl, fun k => by
  by_cases h : k < C.length
  · rw [if_neg (by omega)]
  · rw [if_pos (by omega), List.getElem?_eq_none (show C.length ≤ k by omega), List.getElem?_eq_none (by rw [List.length_reverse]; omega)]⟩
theorem RevInv.done {C D : List Int} {i : Nat} (h : RevInv C D i) (hi : C.length ≤ 2 * i + 1) (h2 : 2 * i ≤ C.length) : D = C.reverse := by
  apply List.ext_getElem?
  intro k
  rw [h.2 k]
  split
  · rfl
  · by_cases hk : k < C.length
    · rw [List.getElem?_reverse hk]
      congr 1
      omega
    · omega
theorem RevInv.step {C D : List Int} {i : Nat} {x y : Int} (h : RevInv C D i) (hi : 2 * i + 1 < C.length) (hx : D[i]? = some x) (hy : D[C.length - 1 - i]? = some y) : RevInv C ((D.set i y).set (C.length - 1 - i) x) (i + 1) := by
  have hxc : C[i]? = some x := by rw [← hx, h.2 i, if_neg (by omega)]
  have hyc : C[C.length - 1 - i]? = some y := by rw [← hy, h.2, if_neg (by omega)]
  refine ⟨by simpa using h.1, fun k => ?_⟩
  rw [List.getElem?_set, List.getElem?_set, List.length_set, h.1]
  by_cases e1 : C.length - 1 - i = k
  · subst e1
    rw [if_pos rfl, if_pos (by omega), if_pos (by omega), List.getElem?_reverse (by omega), ← hxc]
    congr 1
    omega
  · rw [if_neg e1]
    by_cases e2 : i = k
    · subst e2
      rw [if_pos rfl, if_pos (by omega), if_pos (by omega), List.getElem?_reverse (by omega), ← hyc]
    · rw [if_neg e2, h.2 k]
      by_cases e3 : k < i ∨ C.length - i ≤ k
      · rw [if_pos e3, if_pos (by omega)]
      · rw [if_neg e3, if_neg (by omega)]

/-- What leaves all but one block from base on as it was. -/
def InOwn (base : Nat) (w w' : World) : Prop := ∃ row, w.grownBy w' row ∧ ∀ q, row = some q → base ≤ q
theorem InOwn.refl (base : Nat) (w : World) : InOwn base w w := ⟨none, World.grownBy.refl w _, fun q h => by cases h⟩
theorem InOwn.below {base B : Nat} {w0 w w' : World} (h : InOwn base w w') (hb : Below B w0 w) (hB : B ≤ base) (hs : B ≤ w.heap.size) : Below B w0 w' := by
  obtain ⟨row, hg, hr⟩ := h
  exact hb.grown hg hs fun q hq => Nat.le_trans hB (hr q hq)
/-- The loop's relation. -/
def RevRel (base : Nat) (A : Option Addr) (C : List Int) (i : Nat) (w wr : World) : Prop := ∃ D, RevInv C D i ∧ OwnA wr base 1 encI A D ∧ ∃ row, w.grownBy wr row ∧ ∀ q, row = some q → base ≤ q ∧ ∃ a, A = some a ∧ a.block = q

set_option maxHeartbeats 2000000 in
theorem reverseInt_any (A : Option Addr) (C : List Int) (c base : Nat) (w : World) (hL : C.length ≤ 2000000) (h : OwnA w base 1 encI A C) :
    Calls Tryd.prog 34 #[.slice A C.length c] w fun e w' => e = .returned (.tuple #[]) ∧ OwnA w' base 1 encI A C.reverse ∧ InOwn base w w' := by
  have R0 : Aside (RevRel base A C 0 w w) := ⟨C, RevInv.start C, h, none, World.grownBy.refl w _, fun q h => by cases h⟩
  clear h
  go_enter Tryd.func34, Tryd.ntmps34
  go_wp2
  go_loopg [2, 3] C.length (fun gg s2 s3 wr => ∃ (i : Nat) (jz : Int), 2 * i ≤ C.length ∧ C.length - 2 * i ≤ gg ∧ s2 = .int .i64 i ∧ s3 = .int .i64 jz ∧ jz = (C.length : Int) - 1 - (i : Int) ∧ Aside (RevRel base A C i w wr))
  case atStart => exact ⟨0, _, by omega, by omega, rfl, rfl, by omega, R0⟩
  case round =>
    obtain ⟨i, jz, hi, hg, rfl, rfl, hj, R⟩ := hrel
    clear R0
    by_cases hlt : 2 * i + 1 < C.length
    · obtain ⟨D, inv, own, row, hgr, hrow⟩ := R.out
      have hDl := inv.1
      have hxi := List.getElem?_eq_getElem (show i < D.length by omega)
      have hyi := List.getElem?_eq_getElem (show C.length - 1 - i < D.length by omega)
      generalize D[i] = x at hxi
      generalize D[C.length - 1 - i] = y at hyi
      obtain ⟨g, off, rfl, hgb, hg2, hc, hf⟩ := own.at_ hxi
      obtain ⟨g', off', e, _, _, hc', _⟩ := own.at_ hyi
      injection e with e
      injection e with e1 e2
      subst e1 e2
      have c1 : wr.cell? ⟨g, off + i, none⟩ = some (.int .i64 x) := by simpa using hc 0 _ rfl
      have c2 : wr.cell? ⟨g, off + (C.length - 1 - i), none⟩ = some (.int .i64 y) := by simpa using hc' 0 _ rfl
      have f1 := hf (off + i)
      have f2 := hf (off + (C.length - 1 - i))
      have S1 := own.set_ (k := 1) (fun _ => rfl) (j := 0) (y' := y) (v := .int .i64 y) hxi (by omega) rfl
      have hyi' : (D.set i y)[C.length - 1 - i]? = some y := by rw [List.getElem?_set_ne (by omega)]; exact hyi
      have S2 := S1.set_ (k := 1) (fun _ => rfl) (j := 0) (y' := x) (v := .int .i64 x) hyi' (by omega) rfl
      have hstep := inv.step hlt hxi hyi
      have hgr2 : w.grownBy ((wr.setCell ⟨g, off + i, none⟩ (.int .i64 y)).setCell ⟨g, off + (C.length - 1 - i), none⟩ (.int .i64 x)) (some g) :=
        grown_set (grown_set (⟨hgr.os, hgr.tape, hgr.output, hgr.size, fun k hk hne => hgr.block k hk (fun e => by
          obtain ⟨_, a, ha, hb⟩ := hrow k e.symm
          injection ha with ha
          subst ha
          exact hne (by rw [← hb]))⟩ : w.grownBy wr (some g)) _ _) _ _
      have F : ∀ n, Aside (RevRel base (some ⟨g, off, none⟩) C (i + 1) w (((wr.setCell ⟨g, off + i, none⟩ (.int .i64 y)).setCell ⟨g, off + (C.length - 1 - i), none⟩ (.int .i64 x)).drewN n)) := fun n =>
        ⟨_, hstep, (show OwnA ((wr.setCell ⟨g, off + i, none⟩ (.int .i64 y)).setCell ⟨g, off + (C.length - 1 - i), none⟩ (.int .i64 x)) base 1 encI (some ⟨g, off, none⟩) _ by simpa using S2), some g, ⟨hgr2.os, hgr2.tape, hgr2.output, hgr2.size, hgr2.block⟩, fun q hq => by injection hq with hq; subst hq; exact ⟨hgb, _, rfl, rfl⟩⟩
      have HF := hid F
      obtain ⟨j, rfl⟩ : ∃ j : Nat, jz = j := ⟨C.length - 1 - i, by omega⟩
      have hjj : C.length - 1 - i = j := by omega
      rw [hjj] at c2 f2 HF
      have hij : (i : Int) < (j : Int) := by omega
      have hij' : i < j := by omega
      have hne : i ≠ j := by omega
      have hne' : j ≠ i := by omega
      have hjl : j < C.length := by omega
      have HJ := hid hj
      have mixed : Tryd.prog.follows Departure.mixedOrders = true := by kernel_rfl
      clear F hgr2 hstep S1 S2 hyi' hc hc' hf hxi hyi own inv hgr hrow R hDl hjj hj
      go_wp2_with fail
      go_region_o
      go_wp2
      go_roundg (C.length - 2 * (i + 1))
      case measure => omega
      case rel => exact ⟨i + 1, _, by omega, by omega, by go_num, rfl, by have := HJ.out; omega, HF.out 1⟩
    · have hnot : ¬ (i : Int) < jz := by omega
      obtain ⟨D, inv, own, row, hgr, hrow⟩ := R.out
      have hD := inv.done (by omega) hi
      subst hD
      have HO := hid own
      have HI : Hid (InOwn base w wr) := hid ⟨row, hgr, fun q hq => (hrow q hq).1⟩
      clear inv own hgr hrow R
      go_wp2
      go_end0
      exact ⟨rfl, HO.out, HI.out⟩
end Go.Proofs.YtimpieddkkkgfaaDoor
