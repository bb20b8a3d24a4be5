/- FnDamageOf, FnDamageOfTight: the walks. -/
import Derived.Test.YthejkmdodjchiaaN7
import Derived.Test.YthejkmdodjchiaaA1
import Derived.Deep.RegionHeld3
namespace Go.Proofs.Ythejkmdodjchiaa
open Go.RowKit Go.Lib
attribute [local go_sem ↓] Go.wp_at_zero Go.wp_at_succ

set_option maxHeartbeats 1000000 in
theorem inside_any (a b : RectD) (w : World) (ha : Roomy a) (hb : Roomy b) : Calls Try.prog 36 #[.agg #[.int .i64 a.X, .int .i64 a.Y, .int .i64 a.W, .int .i64 a.H], .agg #[.int .i64 b.X, .int .i64 b.Y, .int .i64 b.W, .int .i64 b.H]] w fun e w' => e = .returned (.bool (insideR a b)) ∧ Below w.heap.size w w' := by
  unfold Roomy at ha hb
  obtain ⟨⟨a1, a2⟩, ⟨a3, a4⟩, ⟨a5, a6⟩, a7, a8⟩ := ha
  obtain ⟨⟨b1, b2⟩, ⟨b3, b4⟩, ⟨b5, b6⟩, b7, b8⟩ := hb
  have hq := insideR_iff (a := a) (b := b)
  generalize insideR a b = q at *
  have K : ∀ o o', Below w.heap.size w ((w.alloc o).alloc o') := fun o o' => below_al (below_al (Below.refl _ _) rfl _) rfl _
  cases q
  · have hn : ¬ (b.X ≤ a.X ∧ b.Y ≤ a.Y ∧ a.X + a.W ≤ b.X + b.W ∧ a.Y + a.H ≤ b.Y + b.H) := fun h => by have := hq.2 h; cases this
    clear hq
    by_cases h1 : b.X ≤ a.X
    · by_cases h2 : b.Y ≤ a.Y
      · by_cases h3 : a.X + a.W ≤ b.X + b.W
        · have h4 : ¬ a.Y + a.H ≤ b.Y + b.H := fun h => hn ⟨h1, h2, h3, h⟩
          clear hn
          go_enter Try.func36, Try.ntmps36
          go_wp2
          go_ret
          exact ⟨rfl, K _ _⟩
        · clear hn
          go_enter Try.func36, Try.ntmps36
          go_wp2
          go_ret
          exact ⟨rfl, K _ _⟩
      · clear hn
        go_enter Try.func36, Try.ntmps36
        go_wp2
        go_ret
        exact ⟨rfl, K _ _⟩
    · clear hn
      go_enter Try.func36, Try.ntmps36
      go_wp2
      go_ret
      exact ⟨rfl, K _ _⟩
  · obtain ⟨h1, h2, h3, h4⟩ := hq.1 rfl
    clear hq
    go_enter Try.func36, Try.ntmps36
    go_wp2
    go_ret
    exact ⟨rfl, K _ _⟩

set_option maxHeartbeats 400000 in
theorem drawDamageOf_any (A : Option Addr) (cap : Nat) (bs : List Int) (w : World) (h : Code w A cap bs) :
    Calls Try.prog 34 #[.slice A bs.length cap] w (DrawnRR w) := by
  have hc := hid (drawChangedRects_any A cap bs w h)
  clear h
  go_enter Try.func34, Try.ntmps34
  go_wp2_with fail
  refine hc.out.mono ?_
  rintro e w1 ⟨A3, c3, a, A4, c4, b, rfl, h⟩
  have H := hid h
  clear h
  go_wp2
  go_ret2
  exact ⟨A3, c3, a, A4, c4, b, rfl, H.out⟩

/-- A rectangle that lies in a block of the call's own, still there. -/
theorem blk_below {w w' : World} {g : Nat} {o : Obj} {B : Nat} (h : w.heap[g]? = some o) (hb : Below B w w') (hg : g < B) : w'.heap[g]? = some o := (hb.block g hg).trans h

set_option maxHeartbeats 4000000 in
theorem fnDamageOf_any (A : Option Addr) (cap : Nat) (bs : List Int) (w : World) (h : Code w A cap bs) :
    Calls Try.prog 11 #[.slice A bs.length cap] w (Yes w) := by
  have hcap := h.cap1
  have hcap2 := h.cap2
  by_cases hbig : 1048576 < bs.length
  · clear h
    go_enter Try.func11, Try.ntmps11
    go_wp2
    go_ret
    exact ⟨rfl, Below.refl _ _⟩
  · have hd := drawDamageOf_any A cap bs w h
    clear h
    go_enter Try.func11, Try.ntmps11
    go_wp2_with fail
    refine hd.mono ?_
    rintro e w1 ⟨A3, c3, a, A4, c4, b, rfl, hla, hlb, o3, o4, b1⟩
    have B1 := hid b1
    have H3 := hid o3.arr
    have H4 := hid o4.arr
    have HI := hid (fun w h h' => damageOf_any A3 A4 a b c3 c4 w (by omega) (by omega) h h')
    have HS := hid (fun w h h' => specDamageOf_any A3 A4 a b c3 c4 w (by omega) (by omega) h h')
    have HR := hid (fun w h h' => damageOf_any A4 A3 b a c4 c3 w (by omega) (by omega) h h')
    have HC := hid (fun w h h' => changedRects_any A3 A4 a b c3 c4 w (by omega) (by omega) h h')
    rw [dmgOk_comm, dmgOf_comm] at HR
    have hfact : dmgOk a b = true → 0 < (chgOf a b).length ∧ (chgOf a b).length ≤ 16 ∧ validR (dmgOf a b) = true ∧ (∀ j ∈ chgOf a b, ∃ i : Nat, j = i ∧ i < a.length ∧ i < b.length) ∧ (∀ x ∈ a, validR x = true) ∧ (∀ x ∈ b, validR x = true) ∧
        (∀ i : Nat, (i : Int) ∈ chgOf a b → ∀ x, a[i]? = some x → insideR x (dmgOf a b) = true) ∧ (∀ i : Nat, (i : Int) ∈ chgOf a b → ∀ x, b[i]? = some x → insideR x (dmgOf a b) = true) := by
      intro hk
      have hl : 0 < (chgOf a b).length := by
        unfold dmgOk at hk
        rw [Bool.and_eq_true, decide_eq_true_eq] at hk
        exact hk.1
      obtain ⟨e0, e1, e2, e3⟩ := dmg_some hl
      obtain ⟨⟨-, va⟩, ⟨-, vb⟩, hlen⟩ := chgOk_iff.1 e0
      rw [hk] at e2
      have e4 : dmgOf a b = dmgAll a b (chg a b) := by rw [e3]; unfold madeR; rw [← e2]; rfl
      have hin := (dmgFold_inside a b (chg a b) (a.getD ((chg a b).headD 0).toNat zeroR)).2
      refine ⟨hl, chgOf_len a b, by rw [e4]; exact e2.symm, fun j hj => ?_, va, vb, fun i hi x hx => ?_, fun i hi x hx => ?_⟩
      · rw [e1] at hj
        obtain ⟨i, h1, h2, _⟩ := mem_chg.1 hj
        exact ⟨i, h1, h2, by omega⟩
      · rw [e1] at hi
        have := (hin i hi).1
        rw [getD_of hx] at this
        rw [e4]; exact this
      · rw [e1] at hi
        have := (hin i hi).2
        rw [getD_of hx] at this
        rw [e4]; exact this
    have HFACT := hid hfact
    generalize chgOf a b = L at *
    generalize dmgOk a b = ok at *
    generalize dmgOf a b = r at *
    have q1 : (r.X == r.X) = true := by simp
    have q2 : (r.Y == r.Y) = true := by simp
    have q3 : (r.W == r.W) = true := by simp
    have q4 : (r.H == r.H) = true := by simp
    clear b1 o3 o4 hd hfact
    go_wp2_with fail
    refine (HI.out _ H3.out H4.out).mono ?_
    rintro e w2 ⟨rfl, b2⟩
    have hs2 := b2.size
    have B2 := hid (chain B1.out b2)
    have H32 := hid (H3.out.next b2)
    have H42 := hid (H4.out.next b2)
    have BB2 : ∀ o, Below w2.heap.size w2 (w2.alloc o) := fun o => (Below.refl _ _).alloc (Nat.le_refl _) _
    have HB2 := hid BB2
    clear b2 BB2
    go_wp2_with fail
    refine (HS.out _ ((H32.out.below (HB2.out _)).more (by simp)) ((H42.out.below (HB2.out _)).more (by simp))).mono ?_
    rintro e w3 ⟨rfl, b3⟩
    have hs3 : w2.heap.size < w3.heap.size := by have := b3.size; simp at this; omega
    have K3 := hid (blk_below (heap_alloc_new w2 _) b3 (by simp))
    have C3 := hid ((HB2.out _).trans (b3.mono (by simp)))
    have B3 := hid (chain B2.out C3.out)
    have H33 := hid (H32.out.next C3.out)
    have H43 := hid (H42.out.next C3.out)
    obtain ⟨⟨k1, k2, k3, k4⟩, -⟩ := cell4 K3.out
    clear b3
    cases hok : ok
    · clear HFACT hok
      go_wp2
      go_ret
      exact ⟨rfl, chain B3.out ((Below.refl _ _).alloc (Nat.le_refl _) _)⟩
    · rw [hok] at HR
      obtain ⟨hl0, hl16, hvr, hidx, hva, hvb, hina, hinb⟩ := HFACT.out hok
      have HIX := hid hidx
      have HVA := hid hva
      have HVB := hid hvb
      have HINA := hid hina
      have HINB := hid hinb
      have HVR := hid hvr
      clear HFACT hok hidx hva hvb hina hinb hvr
      have BB3 : ∀ o, Below w3.heap.size w3 (w3.alloc o) := fun o => (Below.refl _ _).alloc (Nat.le_refl _) _
      have HB3 := hid BB3
      clear BB3
      go_wp2_with fail
      refine (HC.out _ ((H33.out.below (HB3.out _)).more (by simp)) ((H43.out.below (HB3.out _)).more (by simp))).mono ?_
      rintro e w4 ⟨A5, c5, rfl, -, -, o5, b4⟩
      have hs4 : w3.heap.size < w4.heap.size := by have := b4.size; simp at this; omega
      have C4 := hid ((HB3.out _).trans (b4.mono (by simp)))
      have B4 := hid (chain B3.out C4.out)
      have K4 := hid (blk_below K3.out C4.out (by omega))
      have H34 := hid (H33.out.next C4.out)
      have H44 := hid (H43.out.next C4.out)
      have L4 := hid o5.arr
      clear b4 o5
      go_wp2
      go_loopg [10] L.length (fun gg s10 wr => ∃ i : Nat, i ≤ L.length ∧ L.length - i ≤ gg ∧ s10 = .int .i64 i ∧ Aside (Below w4.heap.size w4 wr))
      case atStart => exact ⟨0, Nat.zero_le _, by omega, rfl, Below.refl _ _⟩
      case round =>
        obtain ⟨i, hi, hgg, rfl, R⟩ := hrel
        have hsr := R.out.size
        have K5 := hid (blk_below K4.out R.out (by omega))
        obtain ⟨⟨m1, m2, m3, m4⟩, -⟩ := cell4 K5.out
        by_cases hlt : i < L.length
        · obtain ⟨b0, off0, y, rfl, hb0, hy, cc⟩ := (L4.out.below R.out).at1 hlt
          have hym := List.mem_of_getElem? hy
          obtain ⟨j, rfl, hja, hjb⟩ := HIX.out y hym
          obtain ⟨p, off, x, rfl, hp, hx, c1, c2, c3', c4'⟩ := (H34.out.below R.out).atRect hja
          obtain ⟨p', off', z, rfl, hp', hz, d1, d2, d3, d4⟩ := (H44.out.below R.out).atRect hjb
          have hcx := fun W => inside_any x r W (Roomy.of (HVA.out x (List.mem_of_getElem? hx))) (Roomy.of HVR.out)
          have hcz := fun W => inside_any z r W (Roomy.of (HVB.out z (List.mem_of_getElem? hz))) (Roomy.of HVR.out)
          rw [HINA.out j hym x hx] at hcx
          rw [HINB.out j hym z hz] at hcz
          have HCX := hid hcx
          have HCZ := hid hcz
          have i1 : (0 : Int) ≤ (i : Int) := by omega
          have i2 : (i : Int) < (L.length : Int) := by omega
          have i3 : (0 : Int) ≤ (j : Int) := by omega
          have i4 : (j : Int) < (a.length : Int) := by omega
          have i5 : (j : Int) < (b.length : Int) := by omega
          have hbw : b0 < wr.heap.size := by omega
          have hpw : p < wr.heap.size := by omega
          have hpw' : p' < wr.heap.size := by omega
          have hww : w2.heap.size < wr.heap.size := by omega
          clear hx hz hy hym hcx hcz
          go_wp2_with fail
          go_region_held3 (fun w' => w'.cell? ⟨b0, off0 + i, none⟩ = some (.int .i64 j) ∧ w'.cell? ⟨p, off + j * 4, none⟩ = some (.int .i64 x.X) ∧ w'.cell? ⟨p, off + j * 4 + 1, none⟩ = some (.int .i64 x.Y) ∧ w'.cell? ⟨p, off + j * 4 + 2, none⟩ = some (.int .i64 x.W) ∧ w'.cell? ⟨p, off + j * 4 + 3, none⟩ = some (.int .i64 x.H) ∧ w'.cell? ⟨p', off' + j * 4, none⟩ = some (.int .i64 z.X) ∧ w'.cell? ⟨p', off' + j * 4 + 1, none⟩ = some (.int .i64 z.Y) ∧ w'.cell? ⟨p', off' + j * 4 + 2, none⟩ = some (.int .i64 z.W) ∧ w'.cell? ⟨p', off' + j * 4 + 3, none⟩ = some (.int .i64 z.H) ∧ w'.cell? ⟨w2.heap.size, 0, none⟩ = some (.int .i64 r.X) ∧ w'.cell? ⟨w2.heap.size, 1, none⟩ = some (.int .i64 r.Y) ∧ w'.cell? ⟨w2.heap.size, 2, none⟩ = some (.int .i64 r.W) ∧ w'.cell? ⟨w2.heap.size, 3, none⟩ = some (.int .i64 r.H)) (go_keep)
            (first
              | ((with_reducible refine (HCX.out _).mono ?_); rintro e w6 ⟨rfl, hb6⟩; have kk0 := (hb6.cell (p := ⟨b0, off0 + i, none⟩) hbw).trans cc; have kk1 := (hb6.cell (p := ⟨p, off + j * 4, none⟩) hpw).trans c1; have kk2 := (hb6.cell (p := ⟨p, off + j * 4 + 1, none⟩) hpw).trans c2; have kk3 := (hb6.cell (p := ⟨p, off + j * 4 + 2, none⟩) hpw).trans c3'; have kk4 := (hb6.cell (p := ⟨p, off + j * 4 + 3, none⟩) hpw).trans c4'; have kk5 := (hb6.cell (p := ⟨p', off' + j * 4, none⟩) hpw').trans d1; have kk6 := (hb6.cell (p := ⟨p', off' + j * 4 + 1, none⟩) hpw').trans d2; have kk7 := (hb6.cell (p := ⟨p', off' + j * 4 + 2, none⟩) hpw').trans d3; have kk8 := (hb6.cell (p := ⟨p', off' + j * 4 + 3, none⟩) hpw').trans d4; have kk9 := (hb6.cell (p := ⟨w2.heap.size, 0, none⟩) hww).trans m1; have kk10 := (hb6.cell (p := ⟨w2.heap.size, 1, none⟩) hww).trans m2; have kk11 := (hb6.cell (p := ⟨w2.heap.size, 2, none⟩) hww).trans m3; have kk12 := (hb6.cell (p := ⟨w2.heap.size, 3, none⟩) hww).trans m4; have HB6 := hid (below_undrew hb6); clear hb6; dsimp only)
              | ((with_reducible refine (HCZ.out _).mono ?_); rintro e w7 ⟨rfl, hb7⟩; have HB7 := hid (HB6.out.trans (hb7.mono HB6.out.size)); clear hb7; have kk0 := (HB7.out.cell (p := ⟨b0, off0 + i, none⟩) hbw).trans cc; have kk1 := (HB7.out.cell (p := ⟨p, off + j * 4, none⟩) hpw).trans c1; have kk2 := (HB7.out.cell (p := ⟨p, off + j * 4 + 1, none⟩) hpw).trans c2; have kk3 := (HB7.out.cell (p := ⟨p, off + j * 4 + 2, none⟩) hpw).trans c3'; have kk4 := (HB7.out.cell (p := ⟨p, off + j * 4 + 3, none⟩) hpw).trans c4'; have kk5 := (HB7.out.cell (p := ⟨p', off' + j * 4, none⟩) hpw').trans d1; have kk6 := (HB7.out.cell (p := ⟨p', off' + j * 4 + 1, none⟩) hpw').trans d2; have kk7 := (HB7.out.cell (p := ⟨p', off' + j * 4 + 2, none⟩) hpw').trans d3; have kk8 := (HB7.out.cell (p := ⟨p', off' + j * 4 + 3, none⟩) hpw').trans d4; have kk9 := (HB7.out.cell (p := ⟨w2.heap.size, 0, none⟩) hww).trans m1; have kk10 := (HB7.out.cell (p := ⟨w2.heap.size, 1, none⟩) hww).trans m2; have kk11 := (HB7.out.cell (p := ⟨w2.heap.size, 2, none⟩) hww).trans m3; have kk12 := (HB7.out.cell (p := ⟨w2.heap.size, 3, none⟩) hww).trans m4; dsimp only))
          go_wp2
          go_roundg (L.length - (i + 1))
          case measure => omega
          case rel => exact ⟨i + 1, by omega, by omega, by go_num, R.out.trans (HB7.out.mono R.out.size)⟩
        · have B5 := hid (chain B4.out R.out)
          have H35 := hid (H34.out.next R.out)
          have H45 := hid (H44.out.next R.out)
          clear R
          go_wp2_with fail
          refine (HR.out _ H45.out H35.out).mono ?_
          rintro e w6 ⟨rfl, b6⟩
          have K6 := hid (blk_below K5.out b6 (by omega))
          have B6 := hid (chain B5.out b6)
          have hs6 := b6.size
          obtain ⟨⟨n1, n2, n3, n4⟩, -⟩ := cell4 K6.out
          have hww : w2.heap.size < w6.heap.size := by omega
          have hlp : ((L.length : Int) > 0) := by omega
          clear b6
          go_wp2
          go_ret
          exact ⟨by simp [hl0], chain B6.out ((Below.refl _ _).alloc (Nat.le_refl _) _)⟩
end Go.Proofs.Ythejkmdodjchiaa
