/- FnJoinPaintApart: the walk. -/
import Derived.Test.YthejkmdodjchiaaPD
import Derived.Test.YthejkmdodjchiaaJ4
import Derived.Test.YthejkmdodjchiaaQ
namespace Go.Proofs.Ythejkmdodjchiaa
set_option linter.unusedVariables false
set_option linter.unusedSimpArgs false
open Go.RowKit Go.Lib

/-- Two rectangles in one block. -/
theorem arrRR {W : World} {g : Nat} {x y : RectD} {t : TypeId} (h : W.heap[g]? = some (.cells #[.int .i64 x.X, .int .i64 x.Y, .int .i64 x.W, .int .i64 x.H, .int .i64 y.X, .int .i64 y.Y, .int .i64 y.W, .int .i64 y.H] t (0, 0))) : Arr W W.heap.size 4 encRect (some ⟨g, 0, none⟩) [x, y] := fun _ => by
  refine ⟨g, 0, rfl, (Array.getElem?_eq_some_iff.1 h).1, fun i r hr j v hv => ?_⟩
  rw [cell_of_row W g _ _ _ _ h]
  match i, hr with
  | 0, hr =>
    simp at hr
    subst hr
    match j, hv with
    | 0, hv => simpa [encRect] using hv
    | 1, hv => simpa [encRect] using hv
    | 2, hv => simpa [encRect] using hv
    | 3, hv => simpa [encRect] using hv
    | j + 4, hv => simp [encRect] at hv
  | 1, hr =>
    simp at hr
    subst hr
    match j, hv with
    | 0, hv => simpa [encRect] using hv
    | 1, hv => simpa [encRect] using hv
    | 2, hv => simpa [encRect] using hv
    | 3, hv => simpa [encRect] using hv
    | j + 4, hv => simp [encRect] at hv
  | i + 2, hr => simp at hr
/-- One rectangle in a block. -/
theorem arrR1 {W : World} {g : Nat} {x : RectD} {t : TypeId} (h : W.heap[g]? = some (.cells #[.int .i64 x.X, .int .i64 x.Y, .int .i64 x.W, .int .i64 x.H] t (0, 0))) : Arr W W.heap.size 4 encRect (some ⟨g, 0, none⟩) [x] := fun _ => by
  refine ⟨g, 0, rfl, (Array.getElem?_eq_some_iff.1 h).1, fun i r hr j v hv => ?_⟩
  rw [cell_of_row W g _ _ _ _ h]
  match i, hr with
  | 0, hr =>
    simp at hr
    subst hr
    match j, hv with
    | 0, hv => simpa [encRect] using hv
    | 1, hv => simpa [encRect] using hv
    | 2, hv => simpa [encRect] using hv
    | 3, hv => simpa [encRect] using hv
    | j + 4, hv => simp [encRect] at hv
  | i + 1, hr => simp at hr

set_option maxRecDepth 100000 in
set_option maxHeartbeats 4000000 in
theorem fnJoinPaintApart_any (A : Option Addr) (cap : Nat) (bs : List Int) (w : World) (h : Code w A cap bs) :
    Calls Try.prog 13 #[.slice A bs.length cap] w (Yes w) := by
  have hcap := h.cap1
  have hcap2 := h.cap2
  by_cases hbig : 1048576 < bs.length
  · clear h
    go_enter Try.func13, Try.ntmps13
    go_wp2
    go_ret
    exact ⟨rfl, Below.refl _ _⟩
  · have hd := drawJoinPaint_any A cap bs w h
    clear h
    go_enter Try.func13, Try.ntmps13
    go_wp2_with fail
    refine hd.mono ?_
    rintro e w1 ⟨A3, c3, L, rfl, hl, hc1, hc2, o3, b1⟩
    have B1 := hid b1
    have H1 := hid o3.arr
    have HI := hid (fun w h => joinPaint_any A3 L c3 w (by omega) h)
    have HS := hid (fun w h => specJoinPaint_any A3 L c3 w (by omega) h)
    have HP := hid (fun A (M : List RectD) c w (hM : M.length = 2) h => joinPaint_any A M c w (by omega) h)
    have hJl := joinL_len L
    have HF := hid (fun a b h => join_first (L := L) (a := a) (b := b) h)
    generalize joinL L = J at *
    clear b1 o3 hd
    go_wp2_with fail
    refine (HI.out _ H1.out).mono ?_
    rintro e w2 ⟨A2, c2, rfl, -, -, o2, b2⟩
    have B2 := hid (chain B1.out b2)
    have H2 := hid (H1.out.next b2)
    have O2 := hid o2.arr
    clear b2 o2
    go_wp2_with fail
    refine (HS.out _ H2.out).mono ?_
    rintro e w3 ⟨A5, c5, rfl, -, -, o5, b3⟩
    have B3 := hid (chain B2.out b3)
    have H3 := hid (H2.out.next b3)
    have O3 := hid (O2.out.next b3)
    have O5 := hid o5.arr
    have HE := hid (fun w h h' => equalRects_same A2 A5 J c2 c5 w (by omega) h h')
    clear b3 o5
    go_wp2_with fail
    refine (HE.out _ O3.out O5.out).mono ?_
    rintro e w4 ⟨rfl, b4⟩
    have B4 := hid (chain B3.out b4)
    have H4 := hid (H3.out.next b4)
    have O4 := hid (O3.out.next b4)
    have O54 := hid (O5.out.next b4)
    clear b4
    cases hok : joinOk L
    · clear hok
      go_wp2_with fail
      refine (HE.out _ O4.out O54.out).mono ?_
      rintro e w5 ⟨rfl, b5⟩
      have B5 := hid (chain B4.out b5)
      clear b5
      go_wp2
      go_ret
      exact ⟨rfl, B5.out⟩
    · by_cases hl2 : L.length < 2
      · clear hok
        go_wp2_with fail
        refine (HE.out _ O4.out O54.out).mono ?_
        rintro e w5 ⟨rfl, b5⟩
        have B5 := hid (chain B4.out b5)
        clear b5
        go_wp2
        go_ret
        exact ⟨rfl, B5.out⟩
      · obtain ⟨p, off, x, rfl, hp, hx, d1, d2, d3, d4⟩ := H4.out.atRect (show 0 < L.length by omega)
        obtain ⟨y, hy, _, e1, e2, e3, e4⟩ := H4.out.litRect (show 1 < L.length by omega)
        simp only [Nat.zero_mul, Nat.add_zero, Nat.one_mul] at d1 d2 d3 d4 e1 e2 e3 e4
        obtain ⟨vx, vy, ht, hok2, hJ2⟩ := HF.out x y hok hx hy
        obtain ⟨hokt, hJt⟩ := join_twice vx
        rw [meets_self] at hJt
        have HX := hid hx
        have HY := hid hy
        have HT := hid ht
        have HOK2 := hid hok2
        have HJ2 := hid hJ2
        have HOKT := hid hokt
        have j1 : (1 : Int) < (L.length : Int) := by omega
        have j0 : (0 : Int) < (L.length : Int) := by omega
        have j3 : 0 < L.length := by omega
        have j2 : (2 : Int) ≤ (c3 : Int) := by omega
        have hpw : p < w4.heap.size := hp
        have hmo : meetOk x y = meetsR x y := by unfold meetOk; rw [vx, vy]; rfl
        have hc := fun W => meetRects_any x y W
        rw [hmo] at hc
        generalize meetV x y = mv at hc
        have hW4 : ∀ o1 o2, o1 = Obj.cells #[.int .i64 x.X, .int .i64 x.Y, .int .i64 x.W, .int .i64 x.H] 27 → o2 = Obj.cells #[.int .i64 x.X, .int .i64 x.Y, .int .i64 x.W, .int .i64 x.H, .int .i64 x.X, .int .i64 x.Y, .int .i64 x.W, .int .i64 x.H] 27 →
            Arr ((w4.alloc o1).alloc o2) ((w4.alloc o1).alloc o2).heap.size 4 encRect (some ⟨w4.heap.size + 1, 0, none⟩) [x, x] ∧ Below w4.heap.size w4 ((w4.alloc o1).alloc o2) ∧ ((w4.alloc o1).alloc o2).heap[w4.heap.size]? = some (.cells #[.int .i64 x.X, .int .i64 x.Y, .int .i64 x.W, .int .i64 x.H] 27 (0, 0)) := fun o1 o2 h1 h2 => by
          subst h1 h2
          refine ⟨arrRR (by have := heap_alloc_new (w4.alloc (.cells #[.int .i64 x.X, .int .i64 x.Y, .int .i64 x.W, .int .i64 x.H] 27)) (.cells #[.int .i64 x.X, .int .i64 x.Y, .int .i64 x.W, .int .i64 x.H, .int .i64 x.X, .int .i64 x.Y, .int .i64 x.W, .int .i64 x.H] 27); simpa using this), ((Below.refl _ _).alloc (Nat.le_refl _) _).alloc (by simp) _, al_old (heap_alloc_new _ _) _⟩
        have HW4 := hid hW4
        have hp1 := fun W h => HP.out (some ⟨w4.heap.size + 1, 0, none⟩) [x, x] 2 W rfl h
        rw [hokt, hJt] at hp1
        have hp2 := fun W h => HP.out (some ⟨p, off, none⟩) (L.take 2) c3 W (by rw [List.length_take]; omega) h
        rw [ht, hok2, hJ2] at hp2
        have HE2 := hid (fun A c W h h' => equalRects_same A (some ⟨p, off, none⟩) [x, y] c c3 W (by simp) h h')
        have HT := hid ht
        clear hx hy ht hok2 hJ2 hokt hJt hmo hW4 vx vy HF hok
        have ways : (0 < x.W ∧ 0 < x.H) ∨ (0 < x.W ∧ ¬ 0 < x.H) ∨ ¬ 0 < x.W := by omega
        cases hm : meetsR x y
        · rw [hm] at hc hp2
          simp only [Bool.false_eq_true, if_false] at hp2
          have HC := hid hc
          have HP2 := hid hp2
          clear hm hc hp2
          rcases ways with ⟨g1, g2⟩ | ⟨g1, g2⟩ | g1
          · have hd : (decide (0 < x.W) && decide (0 < x.H)) = true := by simp [g1, g2]
            rw [hd] at hp1
            simp only [if_true] at hp1
            have HP1 := hid hp1
            clear hp1 hd
            go_wp2_with fail
            obtain ⟨ax, bx, kx⟩ := HW4.out _ _ rfl rfl
            refine (HP1.out _ ax).mono ?_
            rintro e w5 ⟨A9, c9, rfl, -, -, o9, b5⟩
            have C5 := hid (bx.trans (b5.mono bx.size))
            have B5 := hid (chain B4.out C5.out)
            have X5 := hid ((b5.block _ (Array.getElem?_eq_some_iff.1 kx).1).trans kx)
            have H5 := hid (H4.out.next C5.out)
            have O9 := hid o9.arr
            have hp5 : p < w5.heap.size := Nat.lt_of_lt_of_le hpw C5.out.size
            have q0 := (C5.out.cell (p := ⟨p, off, none⟩) hpw).trans d1
            have q1 := (C5.out.cell (p := ⟨p, off + 1, none⟩) hpw).trans d2
            have q2 := (C5.out.cell (p := ⟨p, off + 2, none⟩) hpw).trans d3
            have q3 := (C5.out.cell (p := ⟨p, off + 3, none⟩) hpw).trans d4
            have q4 := (C5.out.cell (p := ⟨p, off + 4, none⟩) hpw).trans e1
            have q5 := (C5.out.cell (p := ⟨p, off + 4 + 1, none⟩) hpw).trans e2
            have q6 := (C5.out.cell (p := ⟨p, off + 4 + 2, none⟩) hpw).trans e3
            have q7 := (C5.out.cell (p := ⟨p, off + 4 + 3, none⟩) hpw).trans e4
            clear ax bx kx b5 o9 d1 d2 d3 d4 e1 e2 e3 e4
            go_wp2_with fail
            go_region_held3 (fun w' => w'.cell? ⟨p, off, none⟩ = some (.int .i64 x.X) ∧ w'.cell? ⟨p, off + 1, none⟩ = some (.int .i64 x.Y) ∧ w'.cell? ⟨p, off + 2, none⟩ = some (.int .i64 x.W) ∧ w'.cell? ⟨p, off + 3, none⟩ = some (.int .i64 x.H) ∧ w'.cell? ⟨p, off + 4, none⟩ = some (.int .i64 y.X) ∧ w'.cell? ⟨p, off + 4 + 1, none⟩ = some (.int .i64 y.Y) ∧ w'.cell? ⟨p, off + 4 + 2, none⟩ = some (.int .i64 y.W) ∧ w'.cell? ⟨p, off + 4 + 3, none⟩ = some (.int .i64 y.H)) (go_keep)
              (first
                | ((with_reducible refine (HC.out _).mono ?_); rintro e w6 ⟨rfl, hb6⟩; have r0 := (hb6.cell (p := ⟨p, off, none⟩) hp5).trans q0; have r1 := (hb6.cell (p := ⟨p, off + 1, none⟩) hp5).trans q1; have r2 := (hb6.cell (p := ⟨p, off + 2, none⟩) hp5).trans q2; have r3 := (hb6.cell (p := ⟨p, off + 3, none⟩) hp5).trans q3; have r4 := (hb6.cell (p := ⟨p, off + 4, none⟩) hp5).trans q4; have r5 := (hb6.cell (p := ⟨p, off + 4 + 1, none⟩) hp5).trans q5; have r6 := (hb6.cell (p := ⟨p, off + 4 + 2, none⟩) hp5).trans q6; have r7 := (hb6.cell (p := ⟨p, off + 4 + 3, none⟩) hp5).trans q7; have hs6 : w5.heap.size ≤ w6.heap.size := hb6.size; have ne1 : w6.heap.size ≠ p := Nat.ne_of_gt (Nat.lt_of_lt_of_le hp5 hs6); have HB6 := hid (show Below w5.heap.size w5 w6 from below_undrew hb6); clear hb6; dsimp only)
                | ((with_reducible refine (HC.out _).mono ?_); rintro e w6 ⟨rfl, hb6⟩; have r0 := cell_al1 hb6 hp5 q0; have r1 := cell_al1 hb6 hp5 q1; have r2 := cell_al1 hb6 hp5 q2; have r3 := cell_al1 hb6 hp5 q3; have r4 := cell_al1 hb6 hp5 q4; have r5 := cell_al1 hb6 hp5 q5; have r6 := cell_al1 hb6 hp5 q6; have r7 := cell_al1 hb6 hp5 q7; have XK := hid (blk_al1 hb6); obtain ⟨⟨n0, n1, n2, n3⟩, g0, g1, g2, g3⟩ := cells4j (blk_al1 hb6); have hs6 : w5.heap.size ≤ w6.heap.size := (below_al1 hb6).size; have ne1 : w5.heap.size ≠ p := Nat.ne_of_gt hp5; have HB6 := hid (below_al1 hb6); clear hb6; dsimp only))
            all_goals
              first
                | (obtain ⟨W, hW, hBW⟩ : ∃ W, W = w6.alloc (.cells #[.int .i64 mv.X, .int .i64 mv.Y, .int .i64 mv.W, .int .i64 mv.H] 27) ∧ Below w5.heap.size w5 W := ⟨_, rfl, HB6.out.alloc HB6.out.size _⟩; rw [← hW])
                | (obtain ⟨W, hW, hBW⟩ : ∃ W, W = (((w6.setCell ⟨w5.heap.size, 0, none⟩ (.int .i64 mv.X)).setCell ⟨w5.heap.size, 1, none⟩ (.int .i64 mv.Y)).setCell ⟨w5.heap.size, 2, none⟩ (.int .i64 mv.W)).setCell ⟨w5.heap.size, 3, none⟩ (.int .i64 mv.H) ∧ Below w5.heap.size w5 W := ⟨_, rfl, below4 HB6.out (Below.refl _ _) (Nat.le_refl _) (Nat.le_refl _)⟩; rw [← hW])
              clear hW
              have HBW := hid hBW
              have HWL := hid (H5.out.next hBW)
              have hq := HP2.out W (by rw [← HT.out]; exact (H5.out.next hBW).take 2)
              have XW := hid ((hBW.block _ (Array.getElem?_eq_some_iff.1 X5.out).1).trans X5.out)
              have O9W := hid (O9.out.next hBW)
              clear hBW
              go_wp2_with fail
              refine hq.mono ?_
              rintro e w7 ⟨A13, c13, rfl, -, -, o13, b7⟩
              have B7 := hid (chain (chain B5.out HBW.out) b7)
              have X7 := (b7.block _ (Array.getElem?_eq_some_iff.1 XW.out).1).trans XW.out
              have H7 := hid (HWL.out.next b7)
              have O13 := hid o13.arr
              have O97 := hid (O9W.out.next b7)
              obtain ⟨⟨v0, v1, v2, v3⟩, -⟩ := cells4j X7
              clear b7 o13 hq X7
              go_wp2_with fail
              refine (equalRects_same A9 (some ⟨w7.heap.size, 0, none⟩) [x] c9 1 (w7.alloc (.cells #[.int .i64 x.X, .int .i64 x.Y, .int .i64 x.W, .int .i64 x.H] 27)) (by simp) (O97.out.next ((Below.refl _ _).alloc (Nat.le_refl _) _)) (arrR1 (heap_alloc_new _ _))).mono ?_
              rintro e w8 ⟨rfl, b8⟩
              have C8 := hid (((Below.refl w7.heap.size w7).alloc (Nat.le_refl _) (.cells #[.int .i64 x.X, .int .i64 x.Y, .int .i64 x.W, .int .i64 x.H] 27)).trans (b8.mono (by simp)))
              have B8 := hid (chain B7.out C8.out)
              have H8 := hid (H7.out.next C8.out)
              have O138 := hid (O13.out.next C8.out)
              clear b8
              go_wp2_with fail
              refine (HE2.out _ _ _ O138.out (by rw [← HT.out]; exact H8.out.take 2)).mono ?_
              rintro e w9 ⟨rfl, b9⟩
              have B9 := hid (chain B8.out b9)
              clear b9
              go_wp2
              go_ret
              exact ⟨rfl, B9.out⟩
          · have hd : (decide (0 < x.W) && decide (0 < x.H)) = false := by simp; omega
            rw [hd] at hp1
            simp only [Bool.false_eq_true, if_false] at hp1
            have HP1 := hid hp1
            clear hp1 hd
            go_wp2_with fail
            obtain ⟨ax, bx, kx⟩ := HW4.out _ _ rfl rfl
            refine (HP1.out _ ax).mono ?_
            rintro e w5 ⟨A9, c9, rfl, -, -, o9, b5⟩
            have C5 := hid (bx.trans (b5.mono bx.size))
            have B5 := hid (chain B4.out C5.out)
            have X5 := hid ((b5.block _ (Array.getElem?_eq_some_iff.1 kx).1).trans kx)
            have H5 := hid (H4.out.next C5.out)
            have O9 := hid o9.arr
            have hp5 : p < w5.heap.size := Nat.lt_of_lt_of_le hpw C5.out.size
            have q0 := (C5.out.cell (p := ⟨p, off, none⟩) hpw).trans d1
            have q1 := (C5.out.cell (p := ⟨p, off + 1, none⟩) hpw).trans d2
            have q2 := (C5.out.cell (p := ⟨p, off + 2, none⟩) hpw).trans d3
            have q3 := (C5.out.cell (p := ⟨p, off + 3, none⟩) hpw).trans d4
            have q4 := (C5.out.cell (p := ⟨p, off + 4, none⟩) hpw).trans e1
            have q5 := (C5.out.cell (p := ⟨p, off + 4 + 1, none⟩) hpw).trans e2
            have q6 := (C5.out.cell (p := ⟨p, off + 4 + 2, none⟩) hpw).trans e3
            have q7 := (C5.out.cell (p := ⟨p, off + 4 + 3, none⟩) hpw).trans e4
            clear ax bx kx b5 o9 d1 d2 d3 d4 e1 e2 e3 e4
            go_wp2_with fail
            go_region_held3 (fun w' => w'.cell? ⟨p, off, none⟩ = some (.int .i64 x.X) ∧ w'.cell? ⟨p, off + 1, none⟩ = some (.int .i64 x.Y) ∧ w'.cell? ⟨p, off + 2, none⟩ = some (.int .i64 x.W) ∧ w'.cell? ⟨p, off + 3, none⟩ = some (.int .i64 x.H) ∧ w'.cell? ⟨p, off + 4, none⟩ = some (.int .i64 y.X) ∧ w'.cell? ⟨p, off + 4 + 1, none⟩ = some (.int .i64 y.Y) ∧ w'.cell? ⟨p, off + 4 + 2, none⟩ = some (.int .i64 y.W) ∧ w'.cell? ⟨p, off + 4 + 3, none⟩ = some (.int .i64 y.H)) (go_keep)
              (first
                | ((with_reducible refine (HC.out _).mono ?_); rintro e w6 ⟨rfl, hb6⟩; have r0 := (hb6.cell (p := ⟨p, off, none⟩) hp5).trans q0; have r1 := (hb6.cell (p := ⟨p, off + 1, none⟩) hp5).trans q1; have r2 := (hb6.cell (p := ⟨p, off + 2, none⟩) hp5).trans q2; have r3 := (hb6.cell (p := ⟨p, off + 3, none⟩) hp5).trans q3; have r4 := (hb6.cell (p := ⟨p, off + 4, none⟩) hp5).trans q4; have r5 := (hb6.cell (p := ⟨p, off + 4 + 1, none⟩) hp5).trans q5; have r6 := (hb6.cell (p := ⟨p, off + 4 + 2, none⟩) hp5).trans q6; have r7 := (hb6.cell (p := ⟨p, off + 4 + 3, none⟩) hp5).trans q7; have hs6 : w5.heap.size ≤ w6.heap.size := hb6.size; have ne1 : w6.heap.size ≠ p := Nat.ne_of_gt (Nat.lt_of_lt_of_le hp5 hs6); have HB6 := hid (show Below w5.heap.size w5 w6 from below_undrew hb6); clear hb6; dsimp only)
                | ((with_reducible refine (HC.out _).mono ?_); rintro e w6 ⟨rfl, hb6⟩; have r0 := cell_al1 hb6 hp5 q0; have r1 := cell_al1 hb6 hp5 q1; have r2 := cell_al1 hb6 hp5 q2; have r3 := cell_al1 hb6 hp5 q3; have r4 := cell_al1 hb6 hp5 q4; have r5 := cell_al1 hb6 hp5 q5; have r6 := cell_al1 hb6 hp5 q6; have r7 := cell_al1 hb6 hp5 q7; have XK := hid (blk_al1 hb6); obtain ⟨⟨n0, n1, n2, n3⟩, g0, g1, g2, g3⟩ := cells4j (blk_al1 hb6); have hs6 : w5.heap.size ≤ w6.heap.size := (below_al1 hb6).size; have ne1 : w5.heap.size ≠ p := Nat.ne_of_gt hp5; have HB6 := hid (below_al1 hb6); clear hb6; dsimp only))
            all_goals
              first
                | (obtain ⟨W, hW, hBW⟩ : ∃ W, W = w6.alloc (.cells #[.int .i64 mv.X, .int .i64 mv.Y, .int .i64 mv.W, .int .i64 mv.H] 27) ∧ Below w5.heap.size w5 W := ⟨_, rfl, HB6.out.alloc HB6.out.size _⟩; rw [← hW])
                | (obtain ⟨W, hW, hBW⟩ : ∃ W, W = (((w6.setCell ⟨w5.heap.size, 0, none⟩ (.int .i64 mv.X)).setCell ⟨w5.heap.size, 1, none⟩ (.int .i64 mv.Y)).setCell ⟨w5.heap.size, 2, none⟩ (.int .i64 mv.W)).setCell ⟨w5.heap.size, 3, none⟩ (.int .i64 mv.H) ∧ Below w5.heap.size w5 W := ⟨_, rfl, below4 HB6.out (Below.refl _ _) (Nat.le_refl _) (Nat.le_refl _)⟩; rw [← hW])
              clear hW
              have HBW := hid hBW
              have HWL := hid (H5.out.next hBW)
              have hq := HP2.out W (by rw [← HT.out]; exact (H5.out.next hBW).take 2)
              have XW := hid ((hBW.block _ (Array.getElem?_eq_some_iff.1 X5.out).1).trans X5.out)
              have O9W := hid (O9.out.next hBW)
              clear hBW
              go_wp2_with fail
              refine hq.mono ?_
              rintro e w7 ⟨A13, c13, rfl, -, -, o13, b7⟩
              have B7 := hid (chain (chain B5.out HBW.out) b7)
              have X7 := (b7.block _ (Array.getElem?_eq_some_iff.1 XW.out).1).trans XW.out
              have H7 := hid (HWL.out.next b7)
              have O13 := hid o13.arr
              have O97 := hid (O9W.out.next b7)
              obtain ⟨⟨v0, v1, v2, v3⟩, -⟩ := cells4j X7
              clear b7 o13 hq X7
              go_wp2_with fail
              refine (HE2.out _ _ _ O13.out (by rw [← HT.out]; exact H7.out.take 2)).mono ?_
              rintro e w9 ⟨rfl, b9⟩
              have B9 := hid (chain B7.out b9)
              clear b9
              go_wp2
              go_ret
              exact ⟨rfl, B9.out⟩
          · have hd : (decide (0 < x.W) && decide (0 < x.H)) = false := by simp; omega
            rw [hd] at hp1
            simp only [Bool.false_eq_true, if_false] at hp1
            have HP1 := hid hp1
            clear hp1 hd
            go_wp2_with fail
            obtain ⟨ax, bx, kx⟩ := HW4.out _ _ rfl rfl
            refine (HP1.out _ ax).mono ?_
            rintro e w5 ⟨A9, c9, rfl, -, -, o9, b5⟩
            have C5 := hid (bx.trans (b5.mono bx.size))
            have B5 := hid (chain B4.out C5.out)
            have X5 := hid ((b5.block _ (Array.getElem?_eq_some_iff.1 kx).1).trans kx)
            have H5 := hid (H4.out.next C5.out)
            have O9 := hid o9.arr
            have hp5 : p < w5.heap.size := Nat.lt_of_lt_of_le hpw C5.out.size
            have q0 := (C5.out.cell (p := ⟨p, off, none⟩) hpw).trans d1
            have q1 := (C5.out.cell (p := ⟨p, off + 1, none⟩) hpw).trans d2
            have q2 := (C5.out.cell (p := ⟨p, off + 2, none⟩) hpw).trans d3
            have q3 := (C5.out.cell (p := ⟨p, off + 3, none⟩) hpw).trans d4
            have q4 := (C5.out.cell (p := ⟨p, off + 4, none⟩) hpw).trans e1
            have q5 := (C5.out.cell (p := ⟨p, off + 4 + 1, none⟩) hpw).trans e2
            have q6 := (C5.out.cell (p := ⟨p, off + 4 + 2, none⟩) hpw).trans e3
            have q7 := (C5.out.cell (p := ⟨p, off + 4 + 3, none⟩) hpw).trans e4
            clear ax bx kx b5 o9 d1 d2 d3 d4 e1 e2 e3 e4
            go_wp2_with fail
            go_region_held3 (fun w' => w'.cell? ⟨p, off, none⟩ = some (.int .i64 x.X) ∧ w'.cell? ⟨p, off + 1, none⟩ = some (.int .i64 x.Y) ∧ w'.cell? ⟨p, off + 2, none⟩ = some (.int .i64 x.W) ∧ w'.cell? ⟨p, off + 3, none⟩ = some (.int .i64 x.H) ∧ w'.cell? ⟨p, off + 4, none⟩ = some (.int .i64 y.X) ∧ w'.cell? ⟨p, off + 4 + 1, none⟩ = some (.int .i64 y.Y) ∧ w'.cell? ⟨p, off + 4 + 2, none⟩ = some (.int .i64 y.W) ∧ w'.cell? ⟨p, off + 4 + 3, none⟩ = some (.int .i64 y.H)) (go_keep)
              (first
                | ((with_reducible refine (HC.out _).mono ?_); rintro e w6 ⟨rfl, hb6⟩; have r0 := (hb6.cell (p := ⟨p, off, none⟩) hp5).trans q0; have r1 := (hb6.cell (p := ⟨p, off + 1, none⟩) hp5).trans q1; have r2 := (hb6.cell (p := ⟨p, off + 2, none⟩) hp5).trans q2; have r3 := (hb6.cell (p := ⟨p, off + 3, none⟩) hp5).trans q3; have r4 := (hb6.cell (p := ⟨p, off + 4, none⟩) hp5).trans q4; have r5 := (hb6.cell (p := ⟨p, off + 4 + 1, none⟩) hp5).trans q5; have r6 := (hb6.cell (p := ⟨p, off + 4 + 2, none⟩) hp5).trans q6; have r7 := (hb6.cell (p := ⟨p, off + 4 + 3, none⟩) hp5).trans q7; have hs6 : w5.heap.size ≤ w6.heap.size := hb6.size; have ne1 : w6.heap.size ≠ p := Nat.ne_of_gt (Nat.lt_of_lt_of_le hp5 hs6); have HB6 := hid (show Below w5.heap.size w5 w6 from below_undrew hb6); clear hb6; dsimp only)
                | ((with_reducible refine (HC.out _).mono ?_); rintro e w6 ⟨rfl, hb6⟩; have r0 := cell_al1 hb6 hp5 q0; have r1 := cell_al1 hb6 hp5 q1; have r2 := cell_al1 hb6 hp5 q2; have r3 := cell_al1 hb6 hp5 q3; have r4 := cell_al1 hb6 hp5 q4; have r5 := cell_al1 hb6 hp5 q5; have r6 := cell_al1 hb6 hp5 q6; have r7 := cell_al1 hb6 hp5 q7; have XK := hid (blk_al1 hb6); obtain ⟨⟨n0, n1, n2, n3⟩, g0, g1, g2, g3⟩ := cells4j (blk_al1 hb6); have hs6 : w5.heap.size ≤ w6.heap.size := (below_al1 hb6).size; have ne1 : w5.heap.size ≠ p := Nat.ne_of_gt hp5; have HB6 := hid (below_al1 hb6); clear hb6; dsimp only))
            all_goals
              first
                | (obtain ⟨W, hW, hBW⟩ : ∃ W, W = w6.alloc (.cells #[.int .i64 mv.X, .int .i64 mv.Y, .int .i64 mv.W, .int .i64 mv.H] 27) ∧ Below w5.heap.size w5 W := ⟨_, rfl, HB6.out.alloc HB6.out.size _⟩; rw [← hW])
                | (obtain ⟨W, hW, hBW⟩ : ∃ W, W = (((w6.setCell ⟨w5.heap.size, 0, none⟩ (.int .i64 mv.X)).setCell ⟨w5.heap.size, 1, none⟩ (.int .i64 mv.Y)).setCell ⟨w5.heap.size, 2, none⟩ (.int .i64 mv.W)).setCell ⟨w5.heap.size, 3, none⟩ (.int .i64 mv.H) ∧ Below w5.heap.size w5 W := ⟨_, rfl, below4 HB6.out (Below.refl _ _) (Nat.le_refl _) (Nat.le_refl _)⟩; rw [← hW])
              clear hW
              have HBW := hid hBW
              have HWL := hid (H5.out.next hBW)
              have hq := HP2.out W (by rw [← HT.out]; exact (H5.out.next hBW).take 2)
              have XW := hid ((hBW.block _ (Array.getElem?_eq_some_iff.1 X5.out).1).trans X5.out)
              have O9W := hid (O9.out.next hBW)
              clear hBW
              go_wp2_with fail
              refine hq.mono ?_
              rintro e w7 ⟨A13, c13, rfl, -, -, o13, b7⟩
              have B7 := hid (chain (chain B5.out HBW.out) b7)
              have X7 := (b7.block _ (Array.getElem?_eq_some_iff.1 XW.out).1).trans XW.out
              have H7 := hid (HWL.out.next b7)
              have O13 := hid o13.arr
              have O97 := hid (O9W.out.next b7)
              obtain ⟨⟨v0, v1, v2, v3⟩, -⟩ := cells4j X7
              clear b7 o13 hq X7
              go_wp2_with fail
              refine (HE2.out _ _ _ O13.out (by rw [← HT.out]; exact H7.out.take 2)).mono ?_
              rintro e w9 ⟨rfl, b9⟩
              have B9 := hid (chain B7.out b9)
              clear b9
              go_wp2
              go_ret
              exact ⟨rfl, B9.out⟩
        · rw [hm] at hc hp2
          simp only [if_true] at hp2
          have HC := hid hc
          have HP2 := hid hp2
          clear hm hc hp2
          rcases ways with ⟨g1, g2⟩ | ⟨g1, g2⟩ | g1
          · have hd : (decide (0 < x.W) && decide (0 < x.H)) = true := by simp [g1, g2]
            rw [hd] at hp1
            simp only [if_true] at hp1
            have HP1 := hid hp1
            clear hp1 hd
            go_wp2_with fail
            obtain ⟨ax, bx, kx⟩ := HW4.out _ _ rfl rfl
            refine (HP1.out _ ax).mono ?_
            rintro e w5 ⟨A9, c9, rfl, -, -, o9, b5⟩
            have C5 := hid (bx.trans (b5.mono bx.size))
            have B5 := hid (chain B4.out C5.out)
            have X5 := hid ((b5.block _ (Array.getElem?_eq_some_iff.1 kx).1).trans kx)
            have H5 := hid (H4.out.next C5.out)
            have O9 := hid o9.arr
            have hp5 : p < w5.heap.size := Nat.lt_of_lt_of_le hpw C5.out.size
            have q0 := (C5.out.cell (p := ⟨p, off, none⟩) hpw).trans d1
            have q1 := (C5.out.cell (p := ⟨p, off + 1, none⟩) hpw).trans d2
            have q2 := (C5.out.cell (p := ⟨p, off + 2, none⟩) hpw).trans d3
            have q3 := (C5.out.cell (p := ⟨p, off + 3, none⟩) hpw).trans d4
            have q4 := (C5.out.cell (p := ⟨p, off + 4, none⟩) hpw).trans e1
            have q5 := (C5.out.cell (p := ⟨p, off + 4 + 1, none⟩) hpw).trans e2
            have q6 := (C5.out.cell (p := ⟨p, off + 4 + 2, none⟩) hpw).trans e3
            have q7 := (C5.out.cell (p := ⟨p, off + 4 + 3, none⟩) hpw).trans e4
            clear ax bx kx b5 o9 d1 d2 d3 d4 e1 e2 e3 e4
            go_wp2_with fail
            go_region_held3 (fun w' => w'.cell? ⟨p, off, none⟩ = some (.int .i64 x.X) ∧ w'.cell? ⟨p, off + 1, none⟩ = some (.int .i64 x.Y) ∧ w'.cell? ⟨p, off + 2, none⟩ = some (.int .i64 x.W) ∧ w'.cell? ⟨p, off + 3, none⟩ = some (.int .i64 x.H) ∧ w'.cell? ⟨p, off + 4, none⟩ = some (.int .i64 y.X) ∧ w'.cell? ⟨p, off + 4 + 1, none⟩ = some (.int .i64 y.Y) ∧ w'.cell? ⟨p, off + 4 + 2, none⟩ = some (.int .i64 y.W) ∧ w'.cell? ⟨p, off + 4 + 3, none⟩ = some (.int .i64 y.H)) (go_keep)
              (first
                | ((with_reducible refine (HC.out _).mono ?_); rintro e w6 ⟨rfl, hb6⟩; have r0 := (hb6.cell (p := ⟨p, off, none⟩) hp5).trans q0; have r1 := (hb6.cell (p := ⟨p, off + 1, none⟩) hp5).trans q1; have r2 := (hb6.cell (p := ⟨p, off + 2, none⟩) hp5).trans q2; have r3 := (hb6.cell (p := ⟨p, off + 3, none⟩) hp5).trans q3; have r4 := (hb6.cell (p := ⟨p, off + 4, none⟩) hp5).trans q4; have r5 := (hb6.cell (p := ⟨p, off + 4 + 1, none⟩) hp5).trans q5; have r6 := (hb6.cell (p := ⟨p, off + 4 + 2, none⟩) hp5).trans q6; have r7 := (hb6.cell (p := ⟨p, off + 4 + 3, none⟩) hp5).trans q7; have hs6 : w5.heap.size ≤ w6.heap.size := hb6.size; have ne1 : w6.heap.size ≠ p := Nat.ne_of_gt (Nat.lt_of_lt_of_le hp5 hs6); have HB6 := hid (show Below w5.heap.size w5 w6 from below_undrew hb6); clear hb6; dsimp only)
                | ((with_reducible refine (HC.out _).mono ?_); rintro e w6 ⟨rfl, hb6⟩; have r0 := cell_al1 hb6 hp5 q0; have r1 := cell_al1 hb6 hp5 q1; have r2 := cell_al1 hb6 hp5 q2; have r3 := cell_al1 hb6 hp5 q3; have r4 := cell_al1 hb6 hp5 q4; have r5 := cell_al1 hb6 hp5 q5; have r6 := cell_al1 hb6 hp5 q6; have r7 := cell_al1 hb6 hp5 q7; have XK := hid (blk_al1 hb6); obtain ⟨⟨n0, n1, n2, n3⟩, g0, g1, g2, g3⟩ := cells4j (blk_al1 hb6); have hs6 : w5.heap.size ≤ w6.heap.size := (below_al1 hb6).size; have ne1 : w5.heap.size ≠ p := Nat.ne_of_gt hp5; have HB6 := hid (below_al1 hb6); clear hb6; dsimp only))
            all_goals
              first
                | (obtain ⟨W, hW, hBW⟩ : ∃ W, W = w6.alloc (.cells #[.int .i64 mv.X, .int .i64 mv.Y, .int .i64 mv.W, .int .i64 mv.H] 27) ∧ Below w5.heap.size w5 W := ⟨_, rfl, HB6.out.alloc HB6.out.size _⟩; rw [← hW])
                | (obtain ⟨W, hW, hBW⟩ : ∃ W, W = (((w6.setCell ⟨w5.heap.size, 0, none⟩ (.int .i64 mv.X)).setCell ⟨w5.heap.size, 1, none⟩ (.int .i64 mv.Y)).setCell ⟨w5.heap.size, 2, none⟩ (.int .i64 mv.W)).setCell ⟨w5.heap.size, 3, none⟩ (.int .i64 mv.H) ∧ Below w5.heap.size w5 W := ⟨_, rfl, below4 HB6.out (Below.refl _ _) (Nat.le_refl _) (Nat.le_refl _)⟩; rw [← hW])
              clear hW
              have HBW := hid hBW
              have HWL := hid (H5.out.next hBW)
              have hq := HP2.out W (by rw [← HT.out]; exact (H5.out.next hBW).take 2)
              have XW := hid ((hBW.block _ (Array.getElem?_eq_some_iff.1 X5.out).1).trans X5.out)
              have O9W := hid (O9.out.next hBW)
              clear hBW
              go_wp2_with fail
              refine hq.mono ?_
              rintro e w7 ⟨A13, c13, rfl, -, -, o13, b7⟩
              have B7 := hid (chain (chain B5.out HBW.out) b7)
              have X7 := (b7.block _ (Array.getElem?_eq_some_iff.1 XW.out).1).trans XW.out
              have H7 := hid (HWL.out.next b7)
              have O13 := hid o13.arr
              have O97 := hid (O9W.out.next b7)
              obtain ⟨⟨v0, v1, v2, v3⟩, -⟩ := cells4j X7
              clear b7 o13 hq X7
              go_wp2_with fail
              refine (equalRects_same A9 (some ⟨w7.heap.size, 0, none⟩) [x] c9 1 (w7.alloc (.cells #[.int .i64 x.X, .int .i64 x.Y, .int .i64 x.W, .int .i64 x.H] 27)) (by simp) (O97.out.next ((Below.refl _ _).alloc (Nat.le_refl _) _)) (arrR1 (heap_alloc_new _ _))).mono ?_
              rintro e w8 ⟨rfl, b8⟩
              have C8 := hid (((Below.refl w7.heap.size w7).alloc (Nat.le_refl _) (.cells #[.int .i64 x.X, .int .i64 x.Y, .int .i64 x.W, .int .i64 x.H] 27)).trans (b8.mono (by simp)))
              have B8 := hid (chain B7.out C8.out)
              have H8 := hid (H7.out.next C8.out)
              have O138 := hid (O13.out.next C8.out)
              clear b8
              go_wp2
              go_ret
              exact ⟨rfl, B8.out⟩
          · have hd : (decide (0 < x.W) && decide (0 < x.H)) = false := by simp; omega
            rw [hd] at hp1
            simp only [Bool.false_eq_true, if_false] at hp1
            have HP1 := hid hp1
            clear hp1 hd
            go_wp2_with fail
            obtain ⟨ax, bx, kx⟩ := HW4.out _ _ rfl rfl
            refine (HP1.out _ ax).mono ?_
            rintro e w5 ⟨A9, c9, rfl, -, -, o9, b5⟩
            have C5 := hid (bx.trans (b5.mono bx.size))
            have B5 := hid (chain B4.out C5.out)
            have X5 := hid ((b5.block _ (Array.getElem?_eq_some_iff.1 kx).1).trans kx)
            have H5 := hid (H4.out.next C5.out)
            have O9 := hid o9.arr
            have hp5 : p < w5.heap.size := Nat.lt_of_lt_of_le hpw C5.out.size
            have q0 := (C5.out.cell (p := ⟨p, off, none⟩) hpw).trans d1
            have q1 := (C5.out.cell (p := ⟨p, off + 1, none⟩) hpw).trans d2
            have q2 := (C5.out.cell (p := ⟨p, off + 2, none⟩) hpw).trans d3
            have q3 := (C5.out.cell (p := ⟨p, off + 3, none⟩) hpw).trans d4
            have q4 := (C5.out.cell (p := ⟨p, off + 4, none⟩) hpw).trans e1
            have q5 := (C5.out.cell (p := ⟨p, off + 4 + 1, none⟩) hpw).trans e2
            have q6 := (C5.out.cell (p := ⟨p, off + 4 + 2, none⟩) hpw).trans e3
            have q7 := (C5.out.cell (p := ⟨p, off + 4 + 3, none⟩) hpw).trans e4
            clear ax bx kx b5 o9 d1 d2 d3 d4 e1 e2 e3 e4
            go_wp2_with fail
            go_region_held3 (fun w' => w'.cell? ⟨p, off, none⟩ = some (.int .i64 x.X) ∧ w'.cell? ⟨p, off + 1, none⟩ = some (.int .i64 x.Y) ∧ w'.cell? ⟨p, off + 2, none⟩ = some (.int .i64 x.W) ∧ w'.cell? ⟨p, off + 3, none⟩ = some (.int .i64 x.H) ∧ w'.cell? ⟨p, off + 4, none⟩ = some (.int .i64 y.X) ∧ w'.cell? ⟨p, off + 4 + 1, none⟩ = some (.int .i64 y.Y) ∧ w'.cell? ⟨p, off + 4 + 2, none⟩ = some (.int .i64 y.W) ∧ w'.cell? ⟨p, off + 4 + 3, none⟩ = some (.int .i64 y.H)) (go_keep)
              (first
                | ((with_reducible refine (HC.out _).mono ?_); rintro e w6 ⟨rfl, hb6⟩; have r0 := (hb6.cell (p := ⟨p, off, none⟩) hp5).trans q0; have r1 := (hb6.cell (p := ⟨p, off + 1, none⟩) hp5).trans q1; have r2 := (hb6.cell (p := ⟨p, off + 2, none⟩) hp5).trans q2; have r3 := (hb6.cell (p := ⟨p, off + 3, none⟩) hp5).trans q3; have r4 := (hb6.cell (p := ⟨p, off + 4, none⟩) hp5).trans q4; have r5 := (hb6.cell (p := ⟨p, off + 4 + 1, none⟩) hp5).trans q5; have r6 := (hb6.cell (p := ⟨p, off + 4 + 2, none⟩) hp5).trans q6; have r7 := (hb6.cell (p := ⟨p, off + 4 + 3, none⟩) hp5).trans q7; have hs6 : w5.heap.size ≤ w6.heap.size := hb6.size; have ne1 : w6.heap.size ≠ p := Nat.ne_of_gt (Nat.lt_of_lt_of_le hp5 hs6); have HB6 := hid (show Below w5.heap.size w5 w6 from below_undrew hb6); clear hb6; dsimp only)
                | ((with_reducible refine (HC.out _).mono ?_); rintro e w6 ⟨rfl, hb6⟩; have r0 := cell_al1 hb6 hp5 q0; have r1 := cell_al1 hb6 hp5 q1; have r2 := cell_al1 hb6 hp5 q2; have r3 := cell_al1 hb6 hp5 q3; have r4 := cell_al1 hb6 hp5 q4; have r5 := cell_al1 hb6 hp5 q5; have r6 := cell_al1 hb6 hp5 q6; have r7 := cell_al1 hb6 hp5 q7; have XK := hid (blk_al1 hb6); obtain ⟨⟨n0, n1, n2, n3⟩, g0, g1, g2, g3⟩ := cells4j (blk_al1 hb6); have hs6 : w5.heap.size ≤ w6.heap.size := (below_al1 hb6).size; have ne1 : w5.heap.size ≠ p := Nat.ne_of_gt hp5; have HB6 := hid (below_al1 hb6); clear hb6; dsimp only))
            all_goals
              first
                | (obtain ⟨W, hW, hBW⟩ : ∃ W, W = w6.alloc (.cells #[.int .i64 mv.X, .int .i64 mv.Y, .int .i64 mv.W, .int .i64 mv.H] 27) ∧ Below w5.heap.size w5 W := ⟨_, rfl, HB6.out.alloc HB6.out.size _⟩; rw [← hW])
                | (obtain ⟨W, hW, hBW⟩ : ∃ W, W = (((w6.setCell ⟨w5.heap.size, 0, none⟩ (.int .i64 mv.X)).setCell ⟨w5.heap.size, 1, none⟩ (.int .i64 mv.Y)).setCell ⟨w5.heap.size, 2, none⟩ (.int .i64 mv.W)).setCell ⟨w5.heap.size, 3, none⟩ (.int .i64 mv.H) ∧ Below w5.heap.size w5 W := ⟨_, rfl, below4 HB6.out (Below.refl _ _) (Nat.le_refl _) (Nat.le_refl _)⟩; rw [← hW])
              clear hW
              have HBW := hid hBW
              have HWL := hid (H5.out.next hBW)
              have hq := HP2.out W (by rw [← HT.out]; exact (H5.out.next hBW).take 2)
              have XW := hid ((hBW.block _ (Array.getElem?_eq_some_iff.1 X5.out).1).trans X5.out)
              have O9W := hid (O9.out.next hBW)
              clear hBW
              go_wp2_with fail
              refine hq.mono ?_
              rintro e w7 ⟨A13, c13, rfl, -, -, o13, b7⟩
              have B7 := hid (chain (chain B5.out HBW.out) b7)
              have X7 := (b7.block _ (Array.getElem?_eq_some_iff.1 XW.out).1).trans XW.out
              have H7 := hid (HWL.out.next b7)
              have O13 := hid o13.arr
              have O97 := hid (O9W.out.next b7)
              obtain ⟨⟨v0, v1, v2, v3⟩, -⟩ := cells4j X7
              clear b7 o13 hq X7
              go_wp2
              go_ret
              exact ⟨rfl, B7.out⟩
          · have hd : (decide (0 < x.W) && decide (0 < x.H)) = false := by simp; omega
            rw [hd] at hp1
            simp only [Bool.false_eq_true, if_false] at hp1
            have HP1 := hid hp1
            clear hp1 hd
            go_wp2_with fail
            obtain ⟨ax, bx, kx⟩ := HW4.out _ _ rfl rfl
            refine (HP1.out _ ax).mono ?_
            rintro e w5 ⟨A9, c9, rfl, -, -, o9, b5⟩
            have C5 := hid (bx.trans (b5.mono bx.size))
            have B5 := hid (chain B4.out C5.out)
            have X5 := hid ((b5.block _ (Array.getElem?_eq_some_iff.1 kx).1).trans kx)
            have H5 := hid (H4.out.next C5.out)
            have O9 := hid o9.arr
            have hp5 : p < w5.heap.size := Nat.lt_of_lt_of_le hpw C5.out.size
            have q0 := (C5.out.cell (p := ⟨p, off, none⟩) hpw).trans d1
            have q1 := (C5.out.cell (p := ⟨p, off + 1, none⟩) hpw).trans d2
            have q2 := (C5.out.cell (p := ⟨p, off + 2, none⟩) hpw).trans d3
            have q3 := (C5.out.cell (p := ⟨p, off + 3, none⟩) hpw).trans d4
            have q4 := (C5.out.cell (p := ⟨p, off + 4, none⟩) hpw).trans e1
            have q5 := (C5.out.cell (p := ⟨p, off + 4 + 1, none⟩) hpw).trans e2
            have q6 := (C5.out.cell (p := ⟨p, off + 4 + 2, none⟩) hpw).trans e3
            have q7 := (C5.out.cell (p := ⟨p, off + 4 + 3, none⟩) hpw).trans e4
            clear ax bx kx b5 o9 d1 d2 d3 d4 e1 e2 e3 e4
            go_wp2_with fail
            go_region_held3 (fun w' => w'.cell? ⟨p, off, none⟩ = some (.int .i64 x.X) ∧ w'.cell? ⟨p, off + 1, none⟩ = some (.int .i64 x.Y) ∧ w'.cell? ⟨p, off + 2, none⟩ = some (.int .i64 x.W) ∧ w'.cell? ⟨p, off + 3, none⟩ = some (.int .i64 x.H) ∧ w'.cell? ⟨p, off + 4, none⟩ = some (.int .i64 y.X) ∧ w'.cell? ⟨p, off + 4 + 1, none⟩ = some (.int .i64 y.Y) ∧ w'.cell? ⟨p, off + 4 + 2, none⟩ = some (.int .i64 y.W) ∧ w'.cell? ⟨p, off + 4 + 3, none⟩ = some (.int .i64 y.H)) (go_keep)
              (first
                | ((with_reducible refine (HC.out _).mono ?_); rintro e w6 ⟨rfl, hb6⟩; have r0 := (hb6.cell (p := ⟨p, off, none⟩) hp5).trans q0; have r1 := (hb6.cell (p := ⟨p, off + 1, none⟩) hp5).trans q1; have r2 := (hb6.cell (p := ⟨p, off + 2, none⟩) hp5).trans q2; have r3 := (hb6.cell (p := ⟨p, off + 3, none⟩) hp5).trans q3; have r4 := (hb6.cell (p := ⟨p, off + 4, none⟩) hp5).trans q4; have r5 := (hb6.cell (p := ⟨p, off + 4 + 1, none⟩) hp5).trans q5; have r6 := (hb6.cell (p := ⟨p, off + 4 + 2, none⟩) hp5).trans q6; have r7 := (hb6.cell (p := ⟨p, off + 4 + 3, none⟩) hp5).trans q7; have hs6 : w5.heap.size ≤ w6.heap.size := hb6.size; have ne1 : w6.heap.size ≠ p := Nat.ne_of_gt (Nat.lt_of_lt_of_le hp5 hs6); have HB6 := hid (show Below w5.heap.size w5 w6 from below_undrew hb6); clear hb6; dsimp only)
                | ((with_reducible refine (HC.out _).mono ?_); rintro e w6 ⟨rfl, hb6⟩; have r0 := cell_al1 hb6 hp5 q0; have r1 := cell_al1 hb6 hp5 q1; have r2 := cell_al1 hb6 hp5 q2; have r3 := cell_al1 hb6 hp5 q3; have r4 := cell_al1 hb6 hp5 q4; have r5 := cell_al1 hb6 hp5 q5; have r6 := cell_al1 hb6 hp5 q6; have r7 := cell_al1 hb6 hp5 q7; have XK := hid (blk_al1 hb6); obtain ⟨⟨n0, n1, n2, n3⟩, g0, g1, g2, g3⟩ := cells4j (blk_al1 hb6); have hs6 : w5.heap.size ≤ w6.heap.size := (below_al1 hb6).size; have ne1 : w5.heap.size ≠ p := Nat.ne_of_gt hp5; have HB6 := hid (below_al1 hb6); clear hb6; dsimp only))
            all_goals
              first
                | (obtain ⟨W, hW, hBW⟩ : ∃ W, W = w6.alloc (.cells #[.int .i64 mv.X, .int .i64 mv.Y, .int .i64 mv.W, .int .i64 mv.H] 27) ∧ Below w5.heap.size w5 W := ⟨_, rfl, HB6.out.alloc HB6.out.size _⟩; rw [← hW])
                | (obtain ⟨W, hW, hBW⟩ : ∃ W, W = (((w6.setCell ⟨w5.heap.size, 0, none⟩ (.int .i64 mv.X)).setCell ⟨w5.heap.size, 1, none⟩ (.int .i64 mv.Y)).setCell ⟨w5.heap.size, 2, none⟩ (.int .i64 mv.W)).setCell ⟨w5.heap.size, 3, none⟩ (.int .i64 mv.H) ∧ Below w5.heap.size w5 W := ⟨_, rfl, below4 HB6.out (Below.refl _ _) (Nat.le_refl _) (Nat.le_refl _)⟩; rw [← hW])
              clear hW
              have HBW := hid hBW
              have HWL := hid (H5.out.next hBW)
              have hq := HP2.out W (by rw [← HT.out]; exact (H5.out.next hBW).take 2)
              have XW := hid ((hBW.block _ (Array.getElem?_eq_some_iff.1 X5.out).1).trans X5.out)
              have O9W := hid (O9.out.next hBW)
              clear hBW
              go_wp2_with fail
              refine hq.mono ?_
              rintro e w7 ⟨A13, c13, rfl, -, -, o13, b7⟩
              have B7 := hid (chain (chain B5.out HBW.out) b7)
              have X7 := (b7.block _ (Array.getElem?_eq_some_iff.1 XW.out).1).trans XW.out
              have H7 := hid (HWL.out.next b7)
              have O13 := hid o13.arr
              have O97 := hid (O9W.out.next b7)
              obtain ⟨⟨v0, v1, v2, v3⟩, -⟩ := cells4j X7
              clear b7 o13 hq X7
              go_wp2
              go_ret
              exact ⟨rfl, B7.out⟩
end Go.Proofs.Ythejkmdodjchiaa
