/- The exact laws' helpers for impl.Box: size, copy, comparison, marks. Written by a program of ours. -/
import Derived.Test.YtimpieddkkkgfaaDoorProg
import Derived.Deep.QuietTactic
import Derived.BigQuiet
import Derived.Test.YtimpieddkkkgfaaDoorTBox
import Derived.Deep.RegionHeld3
namespace Go.Proofs.YtimpieddkkkgfaaDoor
set_option linter.unusedVariables false
set_option linter.unusedSimpArgs false
open Go.RowKit Go.Lib

theorem eltBox : Elt Tryd.prog 25 33 9 72 := Elt.mk' Tryd.underlying25 (z := .agg #[.int .i64 0, .int .i64 0, .int .i64 0, .int .i64 0, .int .i64 0, .int .i64 0, .int .i64 0, .int .i64 0, .int .i64 0]) (by kernel_rfl) rfl (by omega) (by omega)

set_option maxHeartbeats 400000 in
theorem szBoxS_any (A : Option Addr) (n c : Nat) (left : Int) (w : World) (hn : n ≤ 9223372036854775807) (h0 : 0 ≤ left) (h1 : left ≤ 1048576) :
    Calls Tryd.prog 4 #[.slice A n c, .int .i64 left] w fun e w' => e = .returned (.int .i64 (if (n : Int) ≤ left then left - (n : Int) else -1)) ∧ w = w' := by
  by_cases h : (n : Int) ≤ left
  · rw [if_pos h]
    go_enter Tryd.func4, Tryd.ntmps4
    go_wp2
    go_ret
    exact ⟨rfl, rfl⟩
  · rw [if_neg h]
    go_enter Tryd.func4, Tryd.ntmps4
    go_wp2
    go_ret
    exact ⟨rfl, rfl⟩

set_option maxHeartbeats 1000000 in
theorem toBox_any (x : BoxD) (w : World) :
    Calls Tryd.prog 12 #[.agg #[.int .i64 x.Parent, .int .i64 x.Kind, .int .i64 x.W, .int .i64 x.H, .int .i64 x.Pad, .int .i64 x.Gap, .int .i64 x.Grow, .int .i64 x.Shrink, .int .i64 x.Justify]] w fun e w' => e = .returned (.agg #[.int .i64 x.Parent, .int .i64 x.Kind, .int .i64 x.W, .int .i64 x.H, .int .i64 x.Pad, .int .i64 x.Gap, .int .i64 x.Grow, .int .i64 x.Shrink, .int .i64 x.Justify]) ∧ Below w.heap.size w w' := by
  go_enter Tryd.func12, Tryd.ntmps12
  go_wp2
  refine bodyPost_ret (v := .agg #[.int .i64 x.Parent, .int .i64 x.Kind, .int .i64 x.W, .int .i64 x.H, .int .i64 x.Pad, .int .i64 x.Gap, .int .i64 x.Grow, .int .i64 x.Shrink, .int .i64 x.Justify]) (by simp [results, Tryd.results12, go_sem]) rfl ⟨rfl, ?_⟩
  exact below_al (below_al (below_al (Below.refl _ _) rfl _) rfl _) rfl _

theorem fill_nextBox {L : List BoxD} {n i : Nat} {x y : BoxD} (hx : L[i]? = some x) (hn : n = L.length) : (L.take i ++ List.replicate (n - i) y).set i x = L.take (i + 1) ++ List.replicate (n - (i + 1)) y := by
  obtain ⟨hi, rfl⟩ := List.getElem?_eq_some_iff.1 hx
  rw [List.set_append_right _ _ (by rw [List.length_take]; omega), List.length_take, show i - min i L.length = 0 by omega, show n - i = (n - (i + 1)) + 1 by omega, List.replicate_succ, List.set_cons_zero,
    List.take_succ_eq_append_getElem hi, List.append_assoc]
  rfl
theorem fill_atBox {L : List BoxD} {n i : Nat} {y : BoxD} (hi : i < L.length) (hn : n = L.length) : (L.take i ++ List.replicate (n - i) y)[i]? = some y := by
  rw [List.getElem?_append_right (by rw [List.length_take]; omega), List.length_take, List.getElem?_replicate, if_pos (by omega)]

set_option maxHeartbeats 2000000 in
theorem toBoxS_any (A : Option Addr) (L : List BoxD) (c : Nat) (w : World) (hL : L.length ≤ 1048576) (h : Arr w w.heap.size 9 encBox A L) :
    Calls Tryd.prog 6 #[.slice A L.length c] w (Gives 9 encBox L w) := by
  have H := hid h
  clear h
  go_enter Tryd.func6, Tryd.ntmps6
  go_wp2_with (at_make; refine wpList_makeE _ eltBox (.agg #[.int .i64 0, .int .i64 0, .int .i64 0, .int .i64 0, .int .i64 0, .int .i64 0, .int .i64 0, .int .i64 0, .int .i64 0]) (by kernel_rfl) encBox (fun _ => rfl) ⟨0, 0, 0, 0, 0, 0, 0, 0, 0⟩ rfl rfl (.tmp 6) (.tmp 6) rfl L.length rfl rfl (by omega) ?_; intro w1 own1 gr1 sz1)
  have R0 : Aside (OwnA w1 w.heap.size 9 encBox (some ⟨w.heap.size, 0, none⟩) (L.take 0 ++ List.replicate (L.length - 0) ⟨0, 0, 0, 0, 0, 0, 0, 0, 0⟩) ∧ Below w.heap.size w w1) := ⟨by simpa using own1, (Below.refl _ _).grown gr1 (Nat.le_refl _) (by simp)⟩
  clear own1 gr1 sz1
  go_loopg [4] L.length (fun gg s4 wr => ∃ i : Nat, i ≤ L.length ∧ L.length - i ≤ gg ∧ s4 = .int .i64 i ∧ Aside (OwnA wr w.heap.size 9 encBox (some ⟨w.heap.size, 0, none⟩) (L.take i ++ List.replicate (L.length - i) ⟨0, 0, 0, 0, 0, 0, 0, 0, 0⟩) ∧ Below w.heap.size w wr))
  case atStart => exact ⟨0, Nat.zero_le _, by omega, rfl, R0⟩
  case round =>
    obtain ⟨i, hi, hg, rfl, R⟩ := hrel
    by_cases hlt : i < L.length
    · obtain ⟨b, off, x, rfl, hb, hx, c0, c1, c2, c3, c4, c5, c6, c7, c8⟩ := (H.out.below R.out.2).atBox hlt
      have HX := hid hx
      clear hx R0
      go_wp2_with fail
      refine (toBox_any x _).mono ?_
      rintro e w2 ⟨rfl, hb2⟩
      have o2 := R.out.1.next hb2
      obtain ⟨g, of, e1, _, hg2, hc, hf⟩ := o2.at_ (fill_atBox (y := (⟨0, 0, 0, 0, 0, 0, 0, 0, 0⟩ : BoxD)) hlt rfl)
      injection e1 with e1
      injection e1 with e1 e2
      subst e1 e2
      have d0 : w2.cell? ⟨w.heap.size, i * 9, none⟩ = some (.int .i64 0) := by simpa using hc 0 _ rfl
      have f0 := hf (i * 9)
      have d1 : w2.cell? ⟨w.heap.size, i * 9 + 1, none⟩ = some (.int .i64 0) := by simpa using hc 1 _ rfl
      have f1 := hf (i * 9 + 1)
      have d2 : w2.cell? ⟨w.heap.size, i * 9 + 2, none⟩ = some (.int .i64 0) := by simpa using hc 2 _ rfl
      have f2 := hf (i * 9 + 2)
      have d3 : w2.cell? ⟨w.heap.size, i * 9 + 3, none⟩ = some (.int .i64 0) := by simpa using hc 3 _ rfl
      have f3 := hf (i * 9 + 3)
      have d4 : w2.cell? ⟨w.heap.size, i * 9 + 4, none⟩ = some (.int .i64 0) := by simpa using hc 4 _ rfl
      have f4 := hf (i * 9 + 4)
      have d5 : w2.cell? ⟨w.heap.size, i * 9 + 5, none⟩ = some (.int .i64 0) := by simpa using hc 5 _ rfl
      have f5 := hf (i * 9 + 5)
      have d6 : w2.cell? ⟨w.heap.size, i * 9 + 6, none⟩ = some (.int .i64 0) := by simpa using hc 6 _ rfl
      have f6 := hf (i * 9 + 6)
      have d7 : w2.cell? ⟨w.heap.size, i * 9 + 7, none⟩ = some (.int .i64 0) := by simpa using hc 7 _ rfl
      have f7 := hf (i * 9 + 7)
      have d8 : w2.cell? ⟨w.heap.size, i * 9 + 8, none⟩ = some (.int .i64 0) := by simpa using hc 8 _ rfl
      have f8 := hf (i * 9 + 8)
      have O2 := hid o2
      have HB2 := hid hb2
      clear o2 hb2 hc hf
      go_wp2
      go_roundg (L.length - (i + 1))
      case measure => omega
      case rel =>
        refine ⟨i + 1, by omega, by omega, by go_num, ?_, ?_⟩
        · have := own_setBox O2.out (fill_atBox (y := (⟨0, 0, 0, 0, 0, 0, 0, 0, 0⟩ : BoxD)) hlt rfl) x
          rw [fill_nextBox HX.out rfl] at this
          exact this
        · exact ((((((((((R.out.2.trans (HB2.out.mono R.out.2.size)).setCell (p := ⟨w.heap.size, _, none⟩) (Nat.le_refl _) _).setCell (p := ⟨w.heap.size, _, none⟩) (Nat.le_refl _) _).setCell (p := ⟨w.heap.size, _, none⟩) (Nat.le_refl _) _).setCell (p := ⟨w.heap.size, _, none⟩) (Nat.le_refl _) _).setCell (p := ⟨w.heap.size, _, none⟩) (Nat.le_refl _) _).setCell (p := ⟨w.heap.size, _, none⟩) (Nat.le_refl _) _).setCell (p := ⟨w.heap.size, _, none⟩) (Nat.le_refl _) _).setCell (p := ⟨w.heap.size, _, none⟩) (Nat.le_refl _) _).setCell (p := ⟨w.heap.size, _, none⟩) (Nat.le_refl _) _)
    · have : i = L.length := by omega
      subst this
      go_wp2
      go_ret
      refine ⟨_, _, rfl, Nat.le_refl _, by simp only [maxLen]; omega, ?_, R.out.2⟩
      have := R.out.1
      simpa using this

set_option maxHeartbeats 1000000 in
theorem eqBox_same (x : BoxD) (w : World) :
    Calls Tryd.prog 18 #[.agg #[.int .i64 x.Parent, .int .i64 x.Kind, .int .i64 x.W, .int .i64 x.H, .int .i64 x.Pad, .int .i64 x.Gap, .int .i64 x.Grow, .int .i64 x.Shrink, .int .i64 x.Justify], .agg #[.int .i64 x.Parent, .int .i64 x.Kind, .int .i64 x.W, .int .i64 x.H, .int .i64 x.Pad, .int .i64 x.Gap, .int .i64 x.Grow, .int .i64 x.Shrink, .int .i64 x.Justify]] w fun e w' => e = .returned (.bool true) ∧ Below w.heap.size w w' := by
  go_enter Tryd.func18, Tryd.ntmps18
  go_wp2
  go_ret
  exact ⟨rfl, below_al (below_al (Below.refl _ _) rfl _) rfl _⟩

set_option maxHeartbeats 4000000 in
theorem eqBoxS_same (A A' : Option Addr) (L : List BoxD) (c c' : Nat) (w : World) (hL : L.length ≤ 1048576) (h : Arr w w.heap.size 9 encBox A L) (h' : Arr w w.heap.size 9 encBox A' L) :
    Calls Tryd.prog 8 #[.slice A L.length c, .slice A' L.length c'] w fun e w' => e = .returned (.bool true) ∧ Below w.heap.size w w' := by
  have H := hid h
  have H' := hid h'
  clear h h'
  go_enter Tryd.func8, Tryd.ntmps8
  go_wp2
  go_loopg [5] L.length (fun gg s5 wr => ∃ i : Nat, i ≤ L.length ∧ L.length - i ≤ gg ∧ s5 = .int .i64 i ∧ Aside (Below w.heap.size w wr))
  case atStart => exact ⟨0, Nat.zero_le _, by omega, rfl, Below.refl _ _⟩
  case round =>
    obtain ⟨i, hi, hg, rfl, R⟩ := hrel
    by_cases hlt : i < L.length
    · obtain ⟨b, off, x, rfl, hb, hx, c0, c1, c2, c3, c4, c5, c6, c7, c8⟩ := (H.out.below R.out).atBox hlt
      obtain ⟨b', off', x', rfl, hb', hx', c0', c1', c2', c3', c4', c5', c6', c7', c8'⟩ := (H'.out.below R.out).atBox hlt
      have e := hx.symm.trans hx'
      injection e with e
      subst e
      clear hx hx'
      have i1 : (0 : Int) ≤ (i : Int) := by omega
      have i2 : (i : Int) < (L.length : Int) := by omega
      have hbw : b < wr.heap.size := Nat.lt_of_lt_of_le hb R.out.size
      have hbw' : b' < wr.heap.size := Nat.lt_of_lt_of_le hb' R.out.size
      have hc := fun W => eqBox_same x W
      go_wp2_with fail
      go_region_held3 (fun w' => w'.cell? ⟨b, off + i * 9, none⟩ = some (.int .i64 x.Parent) ∧ w'.cell? ⟨b, off + i * 9 + 1, none⟩ = some (.int .i64 x.Kind) ∧ w'.cell? ⟨b, off + i * 9 + 2, none⟩ = some (.int .i64 x.W) ∧ w'.cell? ⟨b, off + i * 9 + 3, none⟩ = some (.int .i64 x.H) ∧ w'.cell? ⟨b, off + i * 9 + 4, none⟩ = some (.int .i64 x.Pad) ∧ w'.cell? ⟨b, off + i * 9 + 5, none⟩ = some (.int .i64 x.Gap) ∧ w'.cell? ⟨b, off + i * 9 + 6, none⟩ = some (.int .i64 x.Grow) ∧ w'.cell? ⟨b, off + i * 9 + 7, none⟩ = some (.int .i64 x.Shrink) ∧ w'.cell? ⟨b, off + i * 9 + 8, none⟩ = some (.int .i64 x.Justify) ∧ w'.cell? ⟨b', off' + i * 9, none⟩ = some (.int .i64 x.Parent) ∧ w'.cell? ⟨b', off' + i * 9 + 1, none⟩ = some (.int .i64 x.Kind) ∧ w'.cell? ⟨b', off' + i * 9 + 2, none⟩ = some (.int .i64 x.W) ∧ w'.cell? ⟨b', off' + i * 9 + 3, none⟩ = some (.int .i64 x.H) ∧ w'.cell? ⟨b', off' + i * 9 + 4, none⟩ = some (.int .i64 x.Pad) ∧ w'.cell? ⟨b', off' + i * 9 + 5, none⟩ = some (.int .i64 x.Gap) ∧ w'.cell? ⟨b', off' + i * 9 + 6, none⟩ = some (.int .i64 x.Grow) ∧ w'.cell? ⟨b', off' + i * 9 + 7, none⟩ = some (.int .i64 x.Shrink) ∧ w'.cell? ⟨b', off' + i * 9 + 8, none⟩ = some (.int .i64 x.Justify)) (go_keep)
        ((go_at_call 18; refine (hc _).mono ?_; rintro e w2 ⟨rfl, hb2⟩; have k0 := (hb2.cell (p := ⟨b, off + i * 9, none⟩) hbw).trans c0; have k1 := (hb2.cell (p := ⟨b, off + i * 9 + 1, none⟩) hbw).trans c1; have k2 := (hb2.cell (p := ⟨b, off + i * 9 + 2, none⟩) hbw).trans c2; have k3 := (hb2.cell (p := ⟨b, off + i * 9 + 3, none⟩) hbw).trans c3; have k4 := (hb2.cell (p := ⟨b, off + i * 9 + 4, none⟩) hbw).trans c4; have k5 := (hb2.cell (p := ⟨b, off + i * 9 + 5, none⟩) hbw).trans c5; have k6 := (hb2.cell (p := ⟨b, off + i * 9 + 6, none⟩) hbw).trans c6; have k7 := (hb2.cell (p := ⟨b, off + i * 9 + 7, none⟩) hbw).trans c7; have k8 := (hb2.cell (p := ⟨b, off + i * 9 + 8, none⟩) hbw).trans c8; have k0' := (hb2.cell (p := ⟨b', off' + i * 9, none⟩) hbw').trans c0'; have k1' := (hb2.cell (p := ⟨b', off' + i * 9 + 1, none⟩) hbw').trans c1'; have k2' := (hb2.cell (p := ⟨b', off' + i * 9 + 2, none⟩) hbw').trans c2'; have k3' := (hb2.cell (p := ⟨b', off' + i * 9 + 3, none⟩) hbw').trans c3'; have k4' := (hb2.cell (p := ⟨b', off' + i * 9 + 4, none⟩) hbw').trans c4'; have k5' := (hb2.cell (p := ⟨b', off' + i * 9 + 5, none⟩) hbw').trans c5'; have k6' := (hb2.cell (p := ⟨b', off' + i * 9 + 6, none⟩) hbw').trans c6'; have k7' := (hb2.cell (p := ⟨b', off' + i * 9 + 7, none⟩) hbw').trans c7'; have k8' := (hb2.cell (p := ⟨b', off' + i * 9 + 8, none⟩) hbw').trans c8'; have HB2 : Aside (Below wr.heap.size wr w2) := below_undrew hb2; clear hb2; dsimp only))
      go_wp2
      go_roundg (L.length - (i + 1))
      case measure => omega
      case rel => exact ⟨i + 1, by omega, by omega, by go_num, R.out.trans (Below.mono (HB2.out) R.out.size)⟩
    · have : i = L.length := by omega
      subst this
      go_wp2
      go_ret
      exact ⟨rfl, R.out⟩
end Go.Proofs.YtimpieddkkkgfaaDoor
