/- spec.DamageOf. -/
import Derived.Test.YthejkmdodjchiaaN5
import Derived.Test.YthejkmdodjchiaaN6
import Derived.Deep.DrawnRows
import Derived.Deep.RegionWith
namespace Go.Proofs.Ythejkmdodjchiaa
open Go.RowKit Go.Lib
attribute [local go_sem ↓] Go.wp_at_zero Go.wp_at_succ

set_option maxHeartbeats 4000000 in
theorem specDamageOf_any (A A' : Option Addr) (a b : List RectD) (c c' : Nat) (w : World) (ha : a.length ≤ 1048576) (hb : b.length ≤ 1048576) (h : Arr w w.heap.size 4 encRect A a) (h' : Arr w w.heap.size 4 encRect A' b) :
    Calls Try.prog 27 #[.slice A a.length c, .slice A' b.length c'] w
      fun e w' => e = .returned (.tuple #[.agg #[.int .i64 (dmgOf a b).X, .int .i64 (dmgOf a b).Y, .int .i64 (dmgOf a b).W, .int .i64 (dmgOf a b).H], .bool (dmgOk a b)]) ∧ Below w.heap.size w w' := by
  have HC := hid (fun W hA hA' => specChangedRects_any A A' a b c c' W ha hb hA hA')
  have H := hid h
  have H' := hid h'
  have hz0 := dmg_parts (a := a) (b := b)
  have hs0 := dmg_some (a := a) (b := b)
  have hk16 := chgOf_len a b
  clear h h'
  rcases Nat.eq_zero_or_pos (chgOf a b).length with hl | hl
  · obtain ⟨e1, e2⟩ := hz0 hl
    rw [e1, e2]
    have hl' : ((chgOf a b).length : Int) = 0 := by omega
    have HL : Aside (chgOf a b = []) := List.eq_nil_of_length_eq_zero hl
    clear hz0 hs0 hk16 e1 e2 hl hl'
    rw [HL.out] at HC
    · unfold zeroR
      simp only
      go_enter Try.func27, Try.ntmps27
      go_wp2_with fail
      refine (HC.out _ ((H.out.below ((Below.refl _ _).alloc (Nat.le_refl _) _)).more (by simp)) ((H'.out.below ((Below.refl _ _).alloc (Nat.le_refl _) _)).more (by simp))).mono ?_
      rintro e w1 ⟨A1, c1, rfl, -, -, -, b1⟩
      obtain ⟨k1, k2, k3, k4, f1, f2, f3, f4⟩ := kept4 (g := w.heap.size) b1 (by simp) rfl
      have B1 := hid (((Below.refl _ _).alloc (Nat.le_refl _) _).trans (b1.mono (by simp)))
      clear b1
      go_wp2
      refine bodyPost_ret (v := .tuple #[.agg #[_, _, _, _], .bool _]) (by simp [results, Try.results27, go_sem, k1, k2, k3, k4]) rfl ⟨rfl, ?_⟩
      exact below4 (Below.refl _ _) B1.out (Nat.le_refl _) (Nat.le_refl _)
  · obtain ⟨e0, e1, e2, e3⟩ := hs0 hl
    rw [e2, e3]
    rw [e1] at HC hl hk16
    obtain ⟨⟨-, va⟩, ⟨-, vb⟩, hlen⟩ := chgOk_iff.1 e0
    have HIX := hid (fun k x hx => chg_index (a := a) (b := b) (k := k) (x := x) hx)
    have HVA := hid va
    have HVB := hid vb
    have hbl : ∀ i, i < a.length → i < b.length := fun i hi => by omega
    have HBL := hid hbl
    have HMA := hid (fun W => validRectS_any (dmgAll a b (chg a b)) W)
    have HLEN := hid hlen
    have HALL : Aside (dmgAll a b (chg a b) = dmgFold a b (chg a b) (a.getD ((chg a b).headD 0).toNat zeroR)) := rfl
    generalize dmgAll a b (chg a b) = D at *
    clear hz0 hs0 e0 e1 e2 e3 va vb hlen hbl
    generalize chg a b = l at *
    obtain ⟨x0, hx0⟩ : ∃ x, l[0]? = some x := ⟨_, List.getElem?_eq_getElem hl⟩
    obtain ⟨j0, rfl, hj0⟩ := HIX.out 0 x0 hx0
    have hhd : l.headD 0 = (j0 : Int) := by
      cases l with
      | nil => simp at hl
      | cons q l => simp at hx0; simpa using hx0
    rw [hhd] at HALL
    have HX0 := hid hx0
    clear hhd hx0
    have hl0 : ((l.length : Int) == 0) = false := by rw [beq_eq_false_iff_ne]; omega
    go_enter Try.func27, Try.ntmps27
    go_wp2_with fail
    refine (HC.out _ ((H.out.below ((Below.refl _ _).alloc (Nat.le_refl _) _)).more (by simp)) ((H'.out.below ((Below.refl _ _).alloc (Nat.le_refl _) _)).more (by simp))).mono ?_
    rintro e w1 ⟨A1, c1, rfl, -, -, o1, b1⟩
    have hz1 : w.heap.size < w1.heap.size := by have := b1.size; simp at this; omega
    have Z1 := hid ((b1.block w.heap.size (by simp)).trans (heap_alloc_new w _))
    have B1 := hid (((Below.refl _ _).alloc (Nat.le_refl _) _).trans (b1.mono (by simp)))
    have H1 := hid ((H.out.below B1.out).more B1.out.size)
    have H1' := hid ((H'.out.below B1.out).more B1.out.size)
    have L1 := hid o1.arr
    obtain ⟨b0, off0, xx, rfl, hb0, hx, c00⟩ := L1.out.at1 hl
    simp only [Nat.add_zero] at c00
    have e1 := HX0.out.symm.trans hx
    injection e1 with e1
    subst e1
    obtain ⟨p, off, x, rfl, hp, hx1, d1, d2, d3, d4⟩ := H1.out.atRect hj0
    have HX1 := hid hx1
    have i1 : (0 : Int) ≤ (j0 : Int) := by omega
    have i2 : (j0 : Int) < (a.length : Int) := by omega
    have R0 : ∀ W o, W = w1.alloc o → o = .cells #[.int .i64 x.X, .int .i64 x.Y, .int .i64 x.W, .int .i64 x.H] 27 → Aside (DmRel w w1.heap.size x W) := fun W o e1 e2 => by
      subst e1 e2
      refine ⟨heap_alloc_new _ _, Roomy.of (HVA.out _ (List.mem_of_getElem? hx1)), B1.out.alloc B1.out.size _, ?_⟩
      rw [Below.heap_alloc w1 _ _ hz1]
      exact Z1.out
    have HR0 := hid R0
    rw [getD_of HX1.out] at HALL
    clear b1 o1 hx hx1 HX0 R0
    go_wp2
    go_loopg [8] l.length (fun gg s33 wr => ∃ (k : Nat) (o : RectD), k ≤ l.length ∧ l.length - k ≤ gg ∧ s33 = .int .i64 k ∧ Aside (o = dmgFold a b (l.take k) x) ∧ Aside (DmRel w w1.heap.size o wr ∧ w1.heap.size < wr.heap.size ∧ Below w1.heap.size w1 wr))
    case atStart => exact ⟨0, x, Nat.zero_le _, by omega, rfl, (show _ = _ by simp [dmgFold]), HR0.out _ _ rfl rfl, by simp, (Below.refl _ _).alloc (Nat.le_refl _) _⟩
    case round =>
      obtain ⟨k, o, hk, hgg, rfl, O, R⟩ := hrel
      obtain ⟨⟨hblk, hroom, hbel, hz⟩, hsz, hb1⟩ := R.out
      have HBLK := hid hblk
      have HROOM := hid hroom
      have HBEL := hid hbel
      have HZ := hid hz
      have HB1 := hid hb1
      obtain ⟨⟨m1, m2, m3, m4⟩, n1, n2, n3, n4⟩ := cell4 hblk
      obtain ⟨⟨q1, q2, q3, q4⟩, r1, r2, r3, r4⟩ := cell4 hz
      clear R hblk hroom hbel hz hb1 HR0
      by_cases hlt : k < l.length
      · obtain ⟨y, hy, _, cc⟩ : ∃ y, l[k]? = some y ∧ True ∧ wr.cell? ⟨b0, off0 + k, none⟩ = some (.int .i64 y) := by
          obtain ⟨y, h1, h2, h3⟩ := (L1.out.below HB1.out).lit1 hlt
          exact ⟨y, h1, trivial, h2⟩
        obtain ⟨j, rfl, hj⟩ := HIX.out k y hy
        obtain ⟨x', hx', hp2, t1, t2, t3, t4⟩ := (H1.out.below HB1.out).litRect hj
        obtain ⟨p', off', y', rfl, hp', hy', s1, s2, s3, s4⟩ := (H1'.out.below HB1.out).atRect (HBL.out j hj)
        have rx := Roomy.of (HVA.out _ (List.mem_of_getElem? hx'))
        have ry := Roomy.of (HVB.out _ (List.mem_of_getElem? hy'))
        have HC1 := hid (fun W => hullS_any o x' W HROOM.out rx)
        have HC2 := hid (fun W => hullS_any (hullR o x') y' W (HROOM.out.hull rx) ry)
        have HRO := hid ((HROOM.out.hull rx).hull ry)
        have HO : Aside (hullR (hullR o x') y' = dmgFold a b (l.take (k + 1)) x) := by
          show _ = _
          rw [dmg_next hy, ← O.out]
          unfold hull2
          rw [getD_of hx', getD_of hy']
        generalize hullR (hullR o x') y' = o2 at *
        generalize hullR o x' = o1 at *
        have ii1 : (0 : Int) ≤ (j : Int) := by omega
        have ii2 : (j : Int) < (a.length : Int) := by omega
        have ii3 : (j : Int) < (b.length : Int) := by have := HBL.out j hj; omega
        have hpw : p < wr.heap.size := by have := HB1.out.size; omega
        have hpw' : p' < wr.heap.size := by have := HB1.out.size; omega
        have hww : w.heap.size < wr.heap.size := by omega
        have kk1 : (0 : Int) ≤ (k : Int) := by omega
        have kk2 : (k : Int) < (l.length : Int) := by omega
        have hbw0 : b0 < wr.heap.size := by omega
        clear hy hx' hy' rx ry O
        go_wp2_with fail
        go_region_with
          (first
            | ((with_reducible refine (HC1.out _).mono ?_); rintro e w2 ⟨rfl, hb2⟩; have k1 := (hb2.cell (p := ⟨w1.heap.size, 0, none⟩) hsz).trans m1; have k2 := (hb2.cell (p := ⟨w1.heap.size, 1, none⟩) hsz).trans m2; have k3 := (hb2.cell (p := ⟨w1.heap.size, 2, none⟩) hsz).trans m3; have k4 := (hb2.cell (p := ⟨w1.heap.size, 3, none⟩) hsz).trans m4; have kx1 := (hb2.cell (p := ⟨p, off + j * 4, none⟩) hpw).trans t1; have kx2 := (hb2.cell (p := ⟨p, off + j * 4 + 1, none⟩) hpw).trans t2; have kx3 := (hb2.cell (p := ⟨p, off + j * 4 + 2, none⟩) hpw).trans t3; have kx4 := (hb2.cell (p := ⟨p, off + j * 4 + 3, none⟩) hpw).trans t4; have ky1 := (hb2.cell (p := ⟨p', off' + j * 4, none⟩) hpw').trans s1; have ky2 := (hb2.cell (p := ⟨p', off' + j * 4 + 1, none⟩) hpw').trans s2; have ky3 := (hb2.cell (p := ⟨p', off' + j * 4 + 2, none⟩) hpw').trans s3; have ky4 := (hb2.cell (p := ⟨p', off' + j * 4 + 3, none⟩) hpw').trans s4; have kc := (hb2.cell (p := ⟨b0, off0 + k, none⟩) hbw0).trans cc; have HB2 := hid (below_undrew hb2); clear hb2; dsimp only)
            | ((with_reducible refine (HC2.out _).mono ?_); rintro e w3 ⟨rfl, hb2⟩; have HB3 := hid (HB2.out.trans (hb2.mono HB2.out.size)); clear hb2; have zz := HB3.out.size; have zb := (HB3.out.block _ hsz).trans HBLK.out; have HZB := hid zb; obtain ⟨⟨z1, z2, z3, z4⟩, y1, y2, y3, y4⟩ := cell4 zb; have kx1 := (HB3.out.cell (p := ⟨p, off + j * 4, none⟩) hpw).trans t1; have kx2 := (HB3.out.cell (p := ⟨p, off + j * 4 + 1, none⟩) hpw).trans t2; have kx3 := (HB3.out.cell (p := ⟨p, off + j * 4 + 2, none⟩) hpw).trans t3; have kx4 := (HB3.out.cell (p := ⟨p, off + j * 4 + 3, none⟩) hpw).trans t4; have ky1 := (HB3.out.cell (p := ⟨p', off' + j * 4, none⟩) hpw').trans s1; have ky2 := (HB3.out.cell (p := ⟨p', off' + j * 4 + 1, none⟩) hpw').trans s2; have ky3 := (HB3.out.cell (p := ⟨p', off' + j * 4 + 2, none⟩) hpw').trans s3; have ky4 := (HB3.out.cell (p := ⟨p', off' + j * 4 + 3, none⟩) hpw').trans s4; have kc := (HB3.out.cell (p := ⟨b0, off0 + k, none⟩) hbw0).trans cc; clear zb; dsimp only))
        all_goals
          go_wp2
          go_roundg (l.length - (k + 1))
          case measure => omega
          case rel =>
            have hbb := below4 (w' := w3) (v0 := .int .i64 o2.X) (v1 := .int .i64 o2.Y) (v2 := .int .i64 o2.W) (v3 := .int .i64 o2.H) (HB3.out.mono (Nat.le_of_lt hsz)) HB1.out (Nat.le_refl _) (Nat.le_refl w1.heap.size)
            refine ⟨k + 1, o2, by omega, by omega, by go_num, HO.out, ⟨set4_block HZB.out, HRO.out, below4 (HB3.out.mono (Nat.le_of_lt hww)) HBEL.out (Nat.le_refl _) (Nat.le_of_lt hz1), (hbb.block _ hz1).trans Z1.out⟩, ?_, hbb⟩
            have := HB3.out.size
            simp [World.setCell]
            omega
      · have hkl : k = l.length := by omega
        subst hkl
        have hD : o = D := by rw [O.out, HALL.out, List.take_length]
        subst hD
        have hww : w.heap.size < wr.heap.size := by omega
        have hm1 : validR o = true → madeR o = o := fun h => by unfold madeR; rw [h]; rfl
        have hm0 : validR o = false → madeR o = zeroR := fun h => by unfold madeR; rw [h]; rfl
        have HM1 := hid hm1
        have HM0 := hid hm0
        have HMC := hid HMA.out
        clear O HALL HMA hm1 hm0
        cases hv : validR o
        · have HV := hid hv
          have HM := hid (HM0.out hv)
          rw [hv] at HMC
          clear hv
          go_wp2_with fail
          refine (HMC.out _).mono ?_
          rintro e w2 ⟨rfl, hb2⟩
          have hz2 := (hb2.block _ hww).trans HZ.out
          obtain ⟨⟨k1, k2, k3, k4⟩, f1, f2, f3, f4⟩ := cell4 hz2
          have HB2 := hid hb2
          clear hb2 hz2
          go_wp2
          refine bodyPost_ret (v := .tuple #[.agg #[.int .i64 0, .int .i64 0, .int .i64 0, .int .i64 0], .bool false]) (by simp [results, Try.results27, go_sem, k1, k2, k3, k4]) rfl ⟨by rw [HV.out, HM.out]; rfl, ?_⟩
          exact below4 (HB2.out.mono (Nat.le_of_lt hww)) HBEL.out (Nat.le_refl _) (Nat.le_refl _)
        · have HV := hid hv
          have HM := hid (HM1.out hv)
          rw [hv] at HMC
          clear hv
          go_wp2_with fail
          refine (HMC.out _).mono ?_
          rintro e w2 ⟨rfl, hb2⟩
          have hz2 := (hb2.block _ hww).trans HZ.out
          obtain ⟨⟨k1, k2, k3, k4⟩, f1, f2, f3, f4⟩ := cell4 hz2
          have ho2 := (hb2.block _ hsz).trans HBLK.out
          obtain ⟨⟨l1, l2, l3, l4⟩, g1, g2, g3, g4⟩ := cell4 ho2
          have HB2 := hid hb2
          clear hb2 hz2 ho2
          go_wp2
          refine bodyPost_ret (v := .tuple #[.agg #[.int .i64 o.X, .int .i64 o.Y, .int .i64 o.W, .int .i64 o.H], .bool true]) (by simp [results, Try.results27, go_sem, k1, k2, k3, k4]) rfl ⟨by rw [HV.out, HM.out], ?_⟩
          exact below4 (HB2.out.mono (Nat.le_of_lt hww)) HBEL.out (Nat.le_refl _) (Nat.le_refl _)
end Go.Proofs.Ythejkmdodjchiaa
