/- FnWrapParts: the walk. -/
import Derived.Test.YtjkcejijdpmhoaaL13
import Derived.Test.YtjkcejijdpmhoaaRM
namespace Go.Proofs.Ytjkcejijdpmhoaa
open Go.RowKit Go.Lib

theorem size_al {wr : World} {o : Obj} : (wr.alloc o).drew.heap.size = wr.heap.size + 1 := by
  show (wr.alloc o).heap.size = _
  simp
/-- A cell behind a call ahead of which a block was made. -/
theorem cell_al {wr w6 : World} {o : Obj} {b off : Nat} {v : Value} (h : Below (wr.alloc o).drew.heap.size (wr.alloc o).drew w6) (hb : b < wr.heap.size) (u : wr.cell? ⟨b, off, none⟩ = some v) : w6.cell? ⟨b, off, none⟩ = some v := by
  rw [h.cell (p := ⟨b, off, none⟩) (by rw [size_al]; show b < _; omega)]
  show (wr.alloc o).cell? _ = _
  rw [World.cell?_alloc_lt wr o _ hb]
  exact u
theorem blk_al {wr w6 : World} {o : Obj} (h : Below (wr.alloc o).drew.heap.size (wr.alloc o).drew w6) : w6.heap[wr.heap.size]? = some o :=
  (h.block _ (by rw [size_al]; omega)).trans (heap_alloc_new wr o)
theorem below_al2 {wr w6 : World} {o : Obj} (h : Below (wr.alloc o).drew.heap.size (wr.alloc o).drew w6) : Below wr.heap.size wr w6 :=
  (below_al (Below.refl _ _) rfl o).trans ((below_undrew h).mono (by rw [size_al]; omega))
theorem lt_al {wr w6 : World} {o : Obj} (h : Below (wr.alloc o).drew.heap.size (wr.alloc o).drew w6) : wr.heap.size < w6.heap.size := by
  have := h.size
  rw [size_al] at this
  omega

set_option maxRecDepth 100000 in
set_option maxHeartbeats 4000000 in
theorem fnWrapParts_any (A : Option Addr) (cap : Nat) (bs : List Int) (w : World) (h : Code w A cap bs) :
    Calls Try.prog 16 #[.slice A bs.length cap] w (Yes w) := by
  have hcap := h.cap1
  have hcap2 := h.cap2
  by_cases hbig : 1048576 < bs.length
  · clear h
    go_enter Try.func16, Try.ntmps16
    go_wp2
    go_ret
    exact ⟨rfl, Below.refl _ _⟩
  · have hd := drawWrapParts_any A cap bs w h
    clear h
    go_enter Try.func16, Try.ntmps16
    go_wp2_with fail
    refine hd.mono ?_
    rintro e w1 ⟨A', c, L, x, y, rfl, hL, hc1, hc2, o1, b1⟩
    have B1 := hid b1
    have H1 := hid o1.arr
    have HW := hid (fun w h => wrapParts_any A' L c x y w (by omega) hc1 hc2 h)
    have HS := hid (fun w h => specWrapParts_any A' L c x y w (by omega) h)
    have hlen := rects_len12 L x y
    have HSOME := hid (fun h => rects_some (L := L) (width := x) (gap := y) h)
    have HSIZE := hid (fun h i r hr => rects_size (L := L) (width := x) (gap := y) h (i := i) (r := r) hr)
    have HAP := hid (fun h i k a b hki ha hb => rects_apart (L := L) (width := x) (gap := y) h (i := i) (k := k) (a := a) (b := b) hki ha hb)
    have HRB := hid (fun h r hr => rect_bd (L := L) (width := x) (gap := y) h (r := r) hr)
    generalize rectsOf L x y = Rs at *
    clear b1 o1 hd
    go_wp2_with fail
    refine (HW.out _ H1.out).mono ?_
    rintro e w2 ⟨A2, c2, rfl, -, -, o2, b2⟩
    have B2 := hid (chain B1.out b2)
    have H2 := hid (H1.out.next b2)
    have O2 := hid o2.arr
    clear b2 o2
    go_wp2_with fail
    refine (HS.out _ H2.out).mono ?_
    rintro e w3 ⟨A3, c3, rfl, -, -, o3, b3⟩
    have B3 := hid (chain B2.out b3)
    have H3 := hid (H2.out.next b3)
    have O3 := hid (O2.out.next b3)
    have HE := hid (equalRects_same A2 A3 Rs c2 c3 w3 (by omega) O3.out o3.arr)
    clear b3 o3
    go_wp2_with fail
    refine HE.out.mono ?_
    rintro e w4 ⟨rfl, b4⟩
    have B4 := hid (chain B3.out b4)
    have H4 := hid (H3.out.next b4)
    have O4 := hid (O3.out.next b4)
    clear b4
    by_cases h0 : Rs.length = 0
    · have h0' : ((Rs.length : Int) == 0) = true := by rw [beq_iff_eq]; omega
      have H0 := hid h0
      clear h0
      go_wp2_with fail
      refine (HS.out _ H4.out).mono ?_
      rintro e w5 ⟨A5, c5, rfl, -, -, o5, b5⟩
      have B5 := hid (chain B4.out b5)
      have HE2 := hid (equalRects_same A2 A5 Rs c2 c5 w5 (by omega) (O4.out.next b5) o5.arr)
      clear o5 b5
      go_wp2_with fail
      refine HE2.out.mono ?_
      rintro e w6 ⟨rfl, b6⟩
      have B6 := hid (chain B5.out b6)
      clear b6
      go_wp2
      go_ret
      exact ⟨rfl, B6.out⟩
    · have h0' : ((Rs.length : Int) == 0) = false := by rw [beq_eq_false_iff_ne]; omega
      have h0p : 0 < Rs.length := by omega
      obtain ⟨hok, hRL, hl0⟩ := HSOME.out h0p
      have HSZ := hid (HSIZE.out hok)
      have HA := hid (HAP.out hok)
      have HBD := hid (HRB.out hok)
      have HRL := hid hRL
      have hil : ∀ i, i < Rs.length → i < L.length := fun i hi => by omega
      have HIL := hid hil
      clear h0 hok HSOME HSIZE HAP HRB hRL hil
      go_wp2
      go_loopg [7] Rs.length (fun gg s8 wr => ∃ (i : Nat), i ≤ Rs.length ∧ Rs.length - i ≤ gg ∧ s8 = .int .i64 i ∧ Aside (Below w4.heap.size w4 wr))
      case atStart => exact ⟨0, Nat.zero_le _, by omega, rfl, Below.refl _ _⟩
      case round =>
        obtain ⟨i, hi, hgg, rfl, R⟩ := hrel
        by_cases hlt : i < Rs.length
        · obtain ⟨b, off, r, hA2, hb, hr, q0, q1, q2, q3⟩ := (O4.out.below R.out).atRect hlt
          obtain ⟨p, off', u, v, rfl, hp, huv, p0, p1⟩ := (H4.out.below R.out).at2 (HIL.out i hlt)
          have es := (HSZ.out i r hr).symm.trans huv
          injection es with es
          injection es with es1 es2
          subst es1 es2
          obtain ⟨⟨rx0, rx1⟩, ⟨ry0, ry1⟩, -⟩ := HBD.out r (List.mem_of_getElem? hr)
          have i3 : (0 : Int) ≤ (i : Int) := by omega
          have i4 : (i : Int) < (Rs.length : Int) := by omega
          have i5 : (i : Int) < (L.length : Int) := by have := HIL.out i hlt; omega
          have i6 : decide (L.length ≤ i) = false := by have := HIL.out i hlt; simp; omega
          have e1 : (r.W != r.W) = false := by simp
          have e2 : (r.H != r.H) = false := by simp
          have e3 : decide (r.X < 0) = false := by simp; omega
          have e4 : decide (r.Y < 0) = false := by simp; omega
          have HR := hid hr
          subst hA2
          obtain ⟨wo, hwo⟩ : ∃ wo : World, wo = wr := ⟨_, rfl⟩
          subst hwo
          clear hr huv
          go_wp2_with fail
          go_quiet (fail)
          have RB := hid (Below_drewN R.out nq)
          have hsz0 : (wo.drewN nq).heap.size = wo.heap.size := rfl
          go_wp2
          go_loopg [8] i (fun gg s9 wr => ∃ (k : Nat), k ≤ i ∧ i - k ≤ gg ∧ s9 = .int .i64 k ∧ Aside (Below w4.heap.size w4 wr))
          case atStart => exact ⟨0, Nat.zero_le _, by omega, rfl, RB.out⟩
          case round =>
            obtain ⟨k, hk, hgg2, rfl, R2⟩ := hrel
            by_cases hlt2 : k < i
            · obtain ⟨r', hr', hb', t0, t1, t2, t3⟩ := (O4.out.below R2.out).litRect (show k < Rs.length by omega)
              obtain ⟨r'', hr'', _, u0, u1, u2, u3⟩ := (O4.out.below R2.out).litRect hlt
              have e := hr''.symm.trans HR.out
              injection e with e
              subst e
              have hm := HA.out i k _ _ hlt2 HR.out hr'
              have hmo : meetOk r'' r' = false := by unfold meetOk; rw [hm, Bool.and_false, Bool.and_false]
              have hc := fun W => meetRects_any r'' r' W
              rw [hmo] at hc
              generalize meetV r'' r' = mv at hc
              have HC := hid hc
              have k3 : (0 : Int) ≤ (k : Int) := by omega
              have k4 : (k : Int) < (Rs.length : Int) := by omega
              have hbw : b < wr.heap.size := by have := R2.out.size; omega
              have hz4 := R2.out.size
              clear hr' hr'' hm hmo hc
              go_wp2_with fail
              go_region_held3 (fun w' => w'.cell? ⟨b, off + i * 4, none⟩ = some (.int .i64 r''.X) ∧ w'.cell? ⟨b, off + i * 4 + 1, none⟩ = some (.int .i64 r''.Y) ∧ w'.cell? ⟨b, off + i * 4 + 2, none⟩ = some (.int .i64 r''.W) ∧ w'.cell? ⟨b, off + i * 4 + 3, none⟩ = some (.int .i64 r''.H) ∧ w'.cell? ⟨b, off + k * 4, none⟩ = some (.int .i64 r'.X) ∧ w'.cell? ⟨b, off + k * 4 + 1, none⟩ = some (.int .i64 r'.Y) ∧ w'.cell? ⟨b, off + k * 4 + 2, none⟩ = some (.int .i64 r'.W) ∧ w'.cell? ⟨b, off + k * 4 + 3, none⟩ = some (.int .i64 r'.H)) (go_keep)
                (first
                  | ((with_reducible refine (HC.out _).mono ?_); rintro e w6 ⟨rfl, hb6⟩; have y0 := (hb6.cell (p := ⟨b, off + i * 4, none⟩) hbw).trans u0; have y1 := (hb6.cell (p := ⟨b, off + i * 4 + 1, none⟩) hbw).trans u1; have y2 := (hb6.cell (p := ⟨b, off + i * 4 + 2, none⟩) hbw).trans u2; have y3 := (hb6.cell (p := ⟨b, off + i * 4 + 3, none⟩) hbw).trans u3; have z0 := (hb6.cell (p := ⟨b, off + k * 4, none⟩) hbw).trans t0; have z1 := (hb6.cell (p := ⟨b, off + k * 4 + 1, none⟩) hbw).trans t1; have z2 := (hb6.cell (p := ⟨b, off + k * 4 + 2, none⟩) hbw).trans t2; have z3 := (hb6.cell (p := ⟨b, off + k * 4 + 3, none⟩) hbw).trans t3; have hs6 : wr.heap.size ≤ w6.heap.size := hb6.size; have hne6 : w6.heap.size ≠ b := Nat.ne_of_gt (Nat.lt_of_lt_of_le hbw hs6); have HB6 := hid (show Below wr.heap.size wr w6 from below_undrew hb6); clear hb6; dsimp only)
                  | ((with_reducible refine (HC.out _).mono ?_); rintro e w6 ⟨rfl, hb6⟩; have y0 := cell_al hb6 hbw u0; have y1 := cell_al hb6 hbw u1; have y2 := cell_al hb6 hbw u2; have y3 := cell_al hb6 hbw u3; have z0 := cell_al hb6 hbw t0; have z1 := cell_al hb6 hbw t1; have z2 := cell_al hb6 hbw t2; have z3 := cell_al hb6 hbw t3; obtain ⟨⟨n0, n1, n2, n3⟩, g0, g1, g2, g3⟩ := cell4 (blk_al hb6); have hs6 : wr.heap.size ≤ w6.heap.size := Nat.le_of_lt (lt_al hb6); have hne6 : wr.heap.size ≠ b := Nat.ne_of_gt hbw; have HB6 := hid (below_al2 hb6); clear hb6; dsimp only))
              all_goals
                go_wp2
                go_roundg (i - (k + 1))
                case measure => omega
                case rel => first
                  | exact ⟨k + 1, by omega, by omega, by go_num, R2.out.trans ((HB6.out.mono hz4).alloc (Nat.le_trans hz4 hs6) _)⟩
                  | exact ⟨k + 1, by omega, by omega, by go_num, below4 ((HB6.out.mono hz4).alloc (Nat.le_trans hz4 hs6) _) R2.out (Nat.le_refl _) (Nat.le_trans hz4 hs6)⟩
                  | exact ⟨k + 1, by omega, by omega, by go_num, below4 (HB6.out.mono hz4) R2.out (Nat.le_refl _) hz4⟩
            · have hki : k = i := by omega
              subst hki
              go_wp2
              go_roundg (Rs.length - (k + 1))
              case measure => omega
              case rel => exact ⟨k + 1, by omega, by omega, by go_num, R2.out⟩
        · have hil : i = Rs.length := by omega
          have hee : ((Rs.length : Int) == (L.length : Int)) = true := by rw [beq_iff_eq]; have := HRL.out; omega
          have hee2 : (Rs.length == L.length) = true := by rw [beq_iff_eq]; exact HRL.out
          go_wp2
          go_ret
          exact ⟨rfl, chain B4.out R.out⟩
end Go.Proofs.Ytjkcejijdpmhoaa
