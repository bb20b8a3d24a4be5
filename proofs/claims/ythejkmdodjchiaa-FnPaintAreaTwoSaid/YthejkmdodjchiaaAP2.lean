/- FnPaintAreaTwo: the walk. -/
import Derived.Test.YthejkmdodjchiaaPD
import Derived.Test.YthejkmdodjchiaaPP
import Derived.Test.YthejkmdodjchiaaPS
import Derived.IntWalk
namespace Go.Proofs.Ythejkmdodjchiaa
set_option linter.unusedVariables false
set_option linter.unusedSimpArgs false
open Go.RowKit Go.Lib

theorem mul_bd {a b : Int} (ha : 0 ≤ a ∧ a ≤ 40) (hb : 0 ≤ b ∧ b ≤ 40) : 0 ≤ a * b ∧ a * b ≤ 1600 := by
  refine ⟨Int.mul_nonneg ha.1 hb.1, ?_⟩
  have h1 : a * b ≤ 40 * b := Int.mul_le_mul_of_nonneg_right ha.2 hb.1
  omega
/-- What is known of the first two rectangles. -/
theorem paint_two {L : List RectD} {a b : RectD} (h : paintOk L = true) (ha : L[0]? = some a) (hb : L[1]? = some b) :
    validR a = true ∧ validR b = true ∧ ((0 ≤ a.W ∧ a.W ≤ 40) ∧ (0 ≤ a.H ∧ a.H ≤ 40)) ∧ ((0 ≤ b.W ∧ b.W ≤ 40) ∧ (0 ≤ b.H ∧ b.H ≤ 40)) ∧ L.take 2 = [a, b] ∧
      areaV [a, b] = a.W * a.H + b.W * b.H - (if meetsR a b then (meetR a b).W * (meetR a b).H else 0) ∧ (meetsR a b = true → (0 ≤ (meetR a b).W ∧ (meetR a b).W ≤ 40) ∧ (0 ≤ (meetR a b).H ∧ (meetR a b).H ≤ 40)) := by
  obtain ⟨⟨_, hv⟩, hs⟩ := paintOk_iff.1 h
  have va := hv a (List.mem_of_getElem? ha)
  have vb := hv b (List.mem_of_getElem? hb)
  have sa := hs a (List.mem_of_getElem? ha)
  have sb := hs b (List.mem_of_getElem? hb)
  have pa := validR_iff.1 va
  have pb := validR_iff.1 vb
  have ht : L.take 2 = [a, b] := by
    match L, ha, hb with
    | x :: y :: M, ha, hb =>
      simp at ha hb
      subst ha hb
      rfl
  have hk : paintOk [a, b] = true := paintOk_iff.2 ⟨⟨by simp, fun r hr => by simp at hr; rcases hr with rfl | rfl <;> assumption⟩, fun r hr => by simp at hr; rcases hr with rfl | rfl <;> assumption⟩
  refine ⟨va, vb, by omega, by omega, ht, ?_, fun hm => ?_⟩
  · rw [areaV_yes hk, area_two (by omega) (by omega)]
  · have := meetsR_iff.1 hm
    unfold meetR
    simp only
    omega

theorem cells4q {w' : World} {g : Nat} {v0 v1 v2 v3 : Value} {e : TypeId} (h1 : w'.heap[g]? = some (.cells #[v0, v1, v2, v3] e (0, 0))) :
    w'.cell? ⟨g, 2, none⟩ = some v2 ∧ w'.cell? ⟨g, 3, none⟩ = some v3 := by
  refine ⟨?_, ?_⟩
  all_goals (rw [cell_of_row w' _ _ _ _ _ h1]; rfl)

set_option maxRecDepth 100000 in
set_option maxHeartbeats 4000000 in
theorem fnPaintAreaTwo_any (A : Option Addr) (cap : Nat) (bs : List Int) (w : World) (h : Code w A cap bs) :
    Calls Try.prog 5 #[.slice A bs.length cap] w (Yes w) := by
  have hcap := h.cap1
  have hcap2 := h.cap2
  by_cases hbig : 1048576 < bs.length
  · clear h
    go_enter Try.func5, Try.ntmps5
    go_wp2
    go_ret
    exact ⟨rfl, Below.refl _ _⟩
  · have hd := drawPaintArea_any A cap bs w h
    clear h
    go_enter Try.func5, Try.ntmps5
    go_wp2_with fail
    refine hd.mono ?_
    rintro e w1 ⟨A3, c3, L, rfl, hl, hc1, hc2, o3, b1⟩
    have B1 := hid b1
    have H1 := hid o3.arr
    have HI := hid (fun w h => paintArea_any A3 L c3 w (by omega) h)
    have HS := hid (fun w h => specPaintArea_any A3 L c3 w (by omega) h)
    have HT := hid (fun w h => paintArea_any A3 (L.take 2) c3 w (by rw [List.length_take]; omega) h)
    have HF := hid (fun a b h => paint_two (L := L) (a := a) (b := b) h)
    clear b1 o3 hd
    by_cases hgo : paintOk L = true ∧ 2 ≤ L.length
    · obtain ⟨hok, hl2⟩ := hgo
      obtain ⟨x, hx⟩ : ∃ x, L[0]? = some x := ⟨_, List.getElem?_eq_getElem (by omega)⟩
      obtain ⟨y, hy⟩ : ∃ y, L[1]? = some y := ⟨_, List.getElem?_eq_getElem (by omega)⟩
      obtain ⟨vx, vy, ⟨sx, tx⟩, ⟨sy, ty⟩, ht, hav, hmb⟩ := HF.out x y hok hx hy
      have e0 := areaV_yes hok
      rw [e0] at HI HS
      have hab := area_bd hok
      rw [ht, hav, show [x, y].length = 2 from rfl] at HT
      obtain ⟨mx0, mx1⟩ := mul_bd sx tx
      obtain ⟨my0, my1⟩ := mul_bd sy ty
      have HX := hid hx
      have HY := hid hy
      have hRR : ((areaM L : Int) != (areaM L : Int)) = false := by simp
      have hR0 : decide ((areaM L : Int) < 0) = false := by simp
      have HTA := hid (fun w (h : Arr w w.heap.size 4 encRect A3 L) => (show Arr w w.heap.size 4 encRect A3 [x, y] by rw [← ht]; exact h.take 2))
      have hmo : meetOk x y = meetsR x y := by unfold meetOk; rw [vx, vy]; rfl
      have hmv : meetV x y = if meetsR x y then meetR x y else zeroR := by unfold meetV; rw [hmo]
      have hc := fun W => meetRects_any x y W
      rw [hmo, hmv] at hc
      clear HF hok e0 hx hy ht hav hmo hmv vx vy
      generalize areaM L = R at *
      go_wp2_with fail
      refine (HI.out _ H1.out).mono ?_
      rintro e w2 ⟨rfl, b2⟩
      have B2 := hid (chain B1.out b2)
      have H2 := hid (H1.out.next b2)
      clear b2
      go_wp2_with fail
      refine (HS.out _ H2.out).mono ?_
      rintro e w3 ⟨rfl, b3⟩
      have B3 := hid (chain B2.out b3)
      have H3 := hid (H2.out.next b3)
      clear b3
      obtain ⟨p, off, x', rfl, hp, hx', d1, d2, d3, d4⟩ := H3.out.atRect (show 0 < L.length by omega)
      have ee := hx'.symm.trans HX.out
      injection ee with ee
      subst ee
      obtain ⟨y', hy', _, e1, e2, e3, e4⟩ := H3.out.litRect (show 1 < L.length by omega)
      have ee := hy'.symm.trans HY.out
      injection ee with ee
      subst ee
      simp only [Nat.zero_mul, Nat.add_zero, Nat.one_mul] at d1 d2 d3 d4 e1 e2 e3 e4
      have j1 : (1 : Int) < (L.length : Int) := by omega
      have j0 : (0 : Int) < (L.length : Int) := by omega
      have j3 : 0 < L.length := by omega
      have j2 : (2 : Int) ≤ (c3 : Int) := by omega
      clear hx' hy'
      have HC := hid hc
      have s1 : IntKind.i64.wrap (x'.W * x'.H) = x'.W * x'.H := IntWalk.i64_in _ (by omega)
      have s2 : IntKind.i64.wrap (y'.W * y'.H) = y'.W * y'.H := IntWalk.i64_in _ (by omega)
      have s3 : IntKind.i64.wrap (x'.W * x'.H + y'.W * y'.H) = x'.W * x'.H + y'.W * y'.H := IntWalk.i64_in _ (by omega)
      have S1 := hid s1
      have S2 := hid s2
      have S3 := hid s3
      have MX1 := hid mx1
      have MY1 := hid my1
      clear hc s1 s2 s3
      cases hm : meetsR x' y'
      · rw [hm] at HC HT
        simp only [Bool.false_eq_true, if_false, Int.sub_zero] at HC HT
        unfold zeroR at HC
        simp only at HC
        clear hm
        go_wp2_with fail
        go_region_held3 (fun w' => w'.cell? ⟨p, off, none⟩ = some (.int .i64 x'.X) ∧ w'.cell? ⟨p, off + 1, none⟩ = some (.int .i64 x'.Y) ∧ w'.cell? ⟨p, off + 2, none⟩ = some (.int .i64 x'.W) ∧ w'.cell? ⟨p, off + 3, none⟩ = some (.int .i64 x'.H) ∧ w'.cell? ⟨p, off + 4, none⟩ = some (.int .i64 y'.X) ∧ w'.cell? ⟨p, off + 4 + 1, none⟩ = some (.int .i64 y'.Y) ∧ w'.cell? ⟨p, off + 4 + 2, none⟩ = some (.int .i64 y'.W) ∧ w'.cell? ⟨p, off + 4 + 3, none⟩ = some (.int .i64 y'.H)) (go_keep)
          (first
            | ((with_reducible refine (HC.out _).mono ?_); rintro e w6 ⟨rfl, hb6⟩; have y0 := (hb6.cell (p := ⟨p, off, none⟩) hp).trans d1; have y1 := (hb6.cell (p := ⟨p, off + 1, none⟩) hp).trans d2; have y2 := (hb6.cell (p := ⟨p, off + 2, none⟩) hp).trans d3; have y3 := (hb6.cell (p := ⟨p, off + 3, none⟩) hp).trans d4; have z0 := (hb6.cell (p := ⟨p, off + 4, none⟩) hp).trans e1; have z1 := (hb6.cell (p := ⟨p, off + 4 + 1, none⟩) hp).trans e2; have z2 := (hb6.cell (p := ⟨p, off + 4 + 2, none⟩) hp).trans e3; have z3 := (hb6.cell (p := ⟨p, off + 4 + 3, none⟩) hp).trans e4; have hs6 : w3.heap.size ≤ w6.heap.size := hb6.size; have ne1 : w6.heap.size ≠ p := Nat.ne_of_gt (Nat.lt_of_lt_of_le hp hs6); have HB6 := hid (show Below w3.heap.size w3 w6 from below_undrew hb6); clear hb6; dsimp only)
            | ((with_reducible refine (HC.out _).mono ?_); rintro e w6 ⟨rfl, hb6⟩; have y0 := cell_al1 hb6 hp d1; have y1 := cell_al1 hb6 hp d2; have y2 := cell_al1 hb6 hp d3; have y3 := cell_al1 hb6 hp d4; have z0 := cell_al1 hb6 hp e1; have z1 := cell_al1 hb6 hp e2; have z2 := cell_al1 hb6 hp e3; have z3 := cell_al1 hb6 hp e4; have XK := hid (blk_al1 hb6); obtain ⟨⟨n0, n1, n2, n3⟩, g0, g1, g2, g3⟩ := cell4 (blk_al1 hb6); have hs6 : w3.heap.size ≤ w6.heap.size := (below_al1 hb6).size; have ne1 : w3.heap.size ≠ p := Nat.ne_of_gt hp; have HB6 := hid (below_al1 hb6); clear hb6; dsimp only))
        all_goals
          first
            | (obtain ⟨W, gB, hW, hgB, hBW, hK⟩ : ∃ W gB, W = w6.alloc (.cells #[.int .i64 0, .int .i64 0, .int .i64 0, .int .i64 0] 27) ∧ gB = w6.heap.size ∧ Below w3.heap.size w3 W ∧ W.heap[gB]? = some (.cells #[.int .i64 0, .int .i64 0, .int .i64 0, .int .i64 0] 27 (0, 0)) := ⟨_, _, rfl, rfl, HB6.out.alloc HB6.out.size _, heap_alloc_new _ _⟩; rw [← hW, ← hgB])
            | (obtain ⟨W, gB, hW, hgB, hBW, hK⟩ : ∃ W gB, W = (((w6.setCell ⟨w3.heap.size, 0, none⟩ (.int .i64 0)).setCell ⟨w3.heap.size, 1, none⟩ (.int .i64 0)).setCell ⟨w3.heap.size, 2, none⟩ (.int .i64 0)).setCell ⟨w3.heap.size, 3, none⟩ (.int .i64 0) ∧ gB = w3.heap.size ∧ Below w3.heap.size w3 W ∧ W.heap[gB]? = some (.cells #[.int .i64 0, .int .i64 0, .int .i64 0, .int .i64 0] 27 (0, 0)) := ⟨_, _, rfl, rfl, below4 HB6.out (Below.refl _ _) (Nat.le_refl _) (Nat.le_refl _), set4_blk XK.out⟩; rw [← hW, ← hgB])
          clear hW hgB
          have HBW := hid hBW
          have harr := HTA.out W (H3.out.next hBW)
          have HTW := hid (HT.out W.drew (show Arr W W.heap.size 4 encRect (some ⟨p, off, none⟩) [x', y'] from harr))
          have hpW : p < W.heap.size := Nat.lt_of_lt_of_le hp hBW.size
          have u3 : W.cell? ⟨p, off + 2, none⟩ = some (.int .i64 x'.W) := (hBW.cell (p := ⟨p, off + 2, none⟩) hp).trans d3
          have u4 : W.cell? ⟨p, off + 3, none⟩ = some (.int .i64 x'.H) := (hBW.cell (p := ⟨p, off + 3, none⟩) hp).trans d4
          have t3 : W.cell? ⟨p, off + 4 + 2, none⟩ = some (.int .i64 y'.W) := (hBW.cell (p := ⟨p, off + 4 + 2, none⟩) hp).trans e3
          have t4 : W.cell? ⟨p, off + 4 + 3, none⟩ = some (.int .i64 y'.H) := (hBW.cell (p := ⟨p, off + 4 + 3, none⟩) hp).trans e4
          obtain ⟨m2, m3⟩ := cells4q hK
          have s1 := S1.out
          have s2 := S2.out
          have s3 := S3.out
          clear hBW hK harr
          clear m2 m3
          go_wp2_with fail
          go_region_held3 (fun w' => w'.cell? ⟨p, off + 2, none⟩ = some (.int .i64 x'.W) ∧ w'.cell? ⟨p, off + 3, none⟩ = some (.int .i64 x'.H) ∧ w'.cell? ⟨p, off + 4 + 2, none⟩ = some (.int .i64 y'.W) ∧ w'.cell? ⟨p, off + 4 + 3, none⟩ = some (.int .i64 y'.H)) (go_keep)
            (((with_reducible refine HTW.out.mono ?_); rintro e w7 ⟨rfl, hb7⟩; have q1 := (hb7.cell (p := ⟨p, off + 2, none⟩) hpW).trans u3; have q2 := (hb7.cell (p := ⟨p, off + 3, none⟩) hpW).trans u4; have q3 := (hb7.cell (p := ⟨p, off + 4 + 2, none⟩) hpW).trans t3; have q4 := (hb7.cell (p := ⟨p, off + 4 + 3, none⟩) hpW).trans t4; have HB7 := hid (show Below W.heap.size W w7 from below_undrew hb7); clear hb7; dsimp only))
          go_wp2
          go_ret
          exact ⟨rfl, chain (chain B3.out HBW.out) HB7.out⟩
      · rw [hm] at HC HT
        simp only [if_true] at HC HT
        obtain ⟨smw, smh⟩ := hmb hm
        generalize meetR x' y' = r at *
        obtain ⟨mr0, mr1⟩ := mul_bd smw smh
        have s4 : IntKind.i64.wrap (r.W * r.H) = r.W * r.H := IntWalk.i64_in _ (by omega)
        have s5 : IntKind.i64.wrap (x'.W * x'.H + y'.W * y'.H - r.W * r.H) = x'.W * x'.H + y'.W * y'.H - r.W * r.H := IntWalk.i64_in _ (by omega)
        have S4 := hid s4
        have S5 := hid s5
        clear hm s4 s5
        go_wp2_with fail
        go_region_held3 (fun w' => w'.cell? ⟨p, off, none⟩ = some (.int .i64 x'.X) ∧ w'.cell? ⟨p, off + 1, none⟩ = some (.int .i64 x'.Y) ∧ w'.cell? ⟨p, off + 2, none⟩ = some (.int .i64 x'.W) ∧ w'.cell? ⟨p, off + 3, none⟩ = some (.int .i64 x'.H) ∧ w'.cell? ⟨p, off + 4, none⟩ = some (.int .i64 y'.X) ∧ w'.cell? ⟨p, off + 4 + 1, none⟩ = some (.int .i64 y'.Y) ∧ w'.cell? ⟨p, off + 4 + 2, none⟩ = some (.int .i64 y'.W) ∧ w'.cell? ⟨p, off + 4 + 3, none⟩ = some (.int .i64 y'.H)) (go_keep)
          (first
            | ((with_reducible refine (HC.out _).mono ?_); rintro e w6 ⟨rfl, hb6⟩; have y0 := (hb6.cell (p := ⟨p, off, none⟩) hp).trans d1; have y1 := (hb6.cell (p := ⟨p, off + 1, none⟩) hp).trans d2; have y2 := (hb6.cell (p := ⟨p, off + 2, none⟩) hp).trans d3; have y3 := (hb6.cell (p := ⟨p, off + 3, none⟩) hp).trans d4; have z0 := (hb6.cell (p := ⟨p, off + 4, none⟩) hp).trans e1; have z1 := (hb6.cell (p := ⟨p, off + 4 + 1, none⟩) hp).trans e2; have z2 := (hb6.cell (p := ⟨p, off + 4 + 2, none⟩) hp).trans e3; have z3 := (hb6.cell (p := ⟨p, off + 4 + 3, none⟩) hp).trans e4; have hs6 : w3.heap.size ≤ w6.heap.size := hb6.size; have ne1 : w6.heap.size ≠ p := Nat.ne_of_gt (Nat.lt_of_lt_of_le hp hs6); have HB6 := hid (show Below w3.heap.size w3 w6 from below_undrew hb6); clear hb6; dsimp only)
            | ((with_reducible refine (HC.out _).mono ?_); rintro e w6 ⟨rfl, hb6⟩; have y0 := cell_al1 hb6 hp d1; have y1 := cell_al1 hb6 hp d2; have y2 := cell_al1 hb6 hp d3; have y3 := cell_al1 hb6 hp d4; have z0 := cell_al1 hb6 hp e1; have z1 := cell_al1 hb6 hp e2; have z2 := cell_al1 hb6 hp e3; have z3 := cell_al1 hb6 hp e4; have XK := hid (blk_al1 hb6); obtain ⟨⟨n0, n1, n2, n3⟩, g0, g1, g2, g3⟩ := cell4 (blk_al1 hb6); have hs6 : w3.heap.size ≤ w6.heap.size := (below_al1 hb6).size; have ne1 : w3.heap.size ≠ p := Nat.ne_of_gt hp; have HB6 := hid (below_al1 hb6); clear hb6; dsimp only))
        all_goals
          first
            | (obtain ⟨W, gB, hW, hgB, hBW, hK⟩ : ∃ W gB, W = w6.alloc (.cells #[.int .i64 r.X, .int .i64 r.Y, .int .i64 r.W, .int .i64 r.H] 27) ∧ gB = w6.heap.size ∧ Below w3.heap.size w3 W ∧ W.heap[gB]? = some (.cells #[.int .i64 r.X, .int .i64 r.Y, .int .i64 r.W, .int .i64 r.H] 27 (0, 0)) := ⟨_, _, rfl, rfl, HB6.out.alloc HB6.out.size _, heap_alloc_new _ _⟩; rw [← hW, ← hgB])
            | (obtain ⟨W, gB, hW, hgB, hBW, hK⟩ : ∃ W gB, W = (((w6.setCell ⟨w3.heap.size, 0, none⟩ (.int .i64 r.X)).setCell ⟨w3.heap.size, 1, none⟩ (.int .i64 r.Y)).setCell ⟨w3.heap.size, 2, none⟩ (.int .i64 r.W)).setCell ⟨w3.heap.size, 3, none⟩ (.int .i64 r.H) ∧ gB = w3.heap.size ∧ Below w3.heap.size w3 W ∧ W.heap[gB]? = some (.cells #[.int .i64 r.X, .int .i64 r.Y, .int .i64 r.W, .int .i64 r.H] 27 (0, 0)) := ⟨_, _, rfl, rfl, below4 HB6.out (Below.refl _ _) (Nat.le_refl _) (Nat.le_refl _), set4_blk XK.out⟩; rw [← hW, ← hgB])
          clear hW hgB
          have HBW := hid hBW
          have harr := HTA.out W (H3.out.next hBW)
          have HTW := hid (HT.out W.drew (show Arr W W.heap.size 4 encRect (some ⟨p, off, none⟩) [x', y'] from harr))
          have hpW : p < W.heap.size := Nat.lt_of_lt_of_le hp hBW.size
          have u3 : W.cell? ⟨p, off + 2, none⟩ = some (.int .i64 x'.W) := (hBW.cell (p := ⟨p, off + 2, none⟩) hp).trans d3
          have u4 : W.cell? ⟨p, off + 3, none⟩ = some (.int .i64 x'.H) := (hBW.cell (p := ⟨p, off + 3, none⟩) hp).trans d4
          have t3 : W.cell? ⟨p, off + 4 + 2, none⟩ = some (.int .i64 y'.W) := (hBW.cell (p := ⟨p, off + 4 + 2, none⟩) hp).trans e3
          have t4 : W.cell? ⟨p, off + 4 + 3, none⟩ = some (.int .i64 y'.H) := (hBW.cell (p := ⟨p, off + 4 + 3, none⟩) hp).trans e4
          obtain ⟨m2, m3⟩ := cells4q hK
          have s1 := S1.out
          have s2 := S2.out
          have s3 := S3.out
          clear hBW hK harr
          have s4 := S4.out
          have s5 := S5.out
          go_wp2_with fail
          go_region_held3 (fun w' => w'.cell? ⟨p, off + 2, none⟩ = some (.int .i64 x'.W) ∧ w'.cell? ⟨p, off + 3, none⟩ = some (.int .i64 x'.H) ∧ w'.cell? ⟨p, off + 4 + 2, none⟩ = some (.int .i64 y'.W) ∧ w'.cell? ⟨p, off + 4 + 3, none⟩ = some (.int .i64 y'.H)) (go_keep)
            (((with_reducible refine HTW.out.mono ?_); rintro e w7 ⟨rfl, hb7⟩; have q1 := (hb7.cell (p := ⟨p, off + 2, none⟩) hpW).trans u3; have q2 := (hb7.cell (p := ⟨p, off + 3, none⟩) hpW).trans u4; have q3 := (hb7.cell (p := ⟨p, off + 4 + 2, none⟩) hpW).trans t3; have q4 := (hb7.cell (p := ⟨p, off + 4 + 3, none⟩) hpW).trans t4; have HB7 := hid (show Below W.heap.size W w7 from below_undrew hb7); clear hb7; dsimp only))
          go_wp2
          go_ret
          exact ⟨rfl, chain (chain B3.out HBW.out) HB7.out⟩
    · have hno : areaV L < 0 ∨ L.length < 2 := by
        by_cases hok : paintOk L = true
        · exact .inr (Nat.lt_of_not_le (fun h => hgo ⟨hok, h⟩))
        · exact .inl (by rw [areaV_no (by simpa using hok)]; omega)
      clear hgo HF HT
      generalize areaV L = R at *
      have hRR : ((R : Int) != (R : Int)) = false := by simp
      have hR2 : ((R : Int) == (R : Int)) = true := by simp
      rcases hno with hno | hno
      · go_wp2_with fail
        refine (HI.out _ H1.out).mono ?_
        rintro e w2 ⟨rfl, b2⟩
        have B2 := hid (chain B1.out b2)
        have H2 := hid (H1.out.next b2)
        clear b2
        go_wp2_with fail
        refine (HS.out _ H2.out).mono ?_
        rintro e w3 ⟨rfl, b3⟩
        have B3 := hid (chain B2.out b3)
        have H3 := hid (H2.out.next b3)
        clear b3
        go_wp2_with fail
        refine (HS.out _ H3.out).mono ?_
        rintro e w4 ⟨rfl, b4⟩
        have B4 := hid (chain B3.out b4)
        clear b4
        go_wp2
        go_ret
        exact ⟨rfl, B4.out⟩
      · by_cases hR0 : R < 0
        all_goals
          go_wp2_with fail
          refine (HI.out _ H1.out).mono ?_
          rintro e w2 ⟨rfl, b2⟩
          have B2 := hid (chain B1.out b2)
          have H2 := hid (H1.out.next b2)
          clear b2
          go_wp2_with fail
          refine (HS.out _ H2.out).mono ?_
          rintro e w3 ⟨rfl, b3⟩
          have B3 := hid (chain B2.out b3)
          have H3 := hid (H2.out.next b3)
          clear b3
          go_wp2_with fail
          refine (HS.out _ H3.out).mono ?_
          rintro e w4 ⟨rfl, b4⟩
          have B4 := hid (chain B3.out b4)
          clear b4
          go_wp2
          go_ret
          exact ⟨rfl, B4.out⟩
end Go.Proofs.Ythejkmdodjchiaa
