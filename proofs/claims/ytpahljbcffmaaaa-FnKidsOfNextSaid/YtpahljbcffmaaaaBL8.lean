/- FnKidsOfNext: the walk. Written by a program of ours. -/
import Derived.Test.YtpahljbcffmaaaaB19
import Derived.Deep.RegionHeld3
namespace Go.Proofs.Ytpahljbcffmaaaa
set_option linter.unusedVariables false
open Go.RowKit Go.Lib

theorem SK2 {W w' : World} {p o1 o2 : Nat} {v u : Value} (h1 : W.cell? ⟨p, o1, none⟩ = some v) (h2 : W.cell? ⟨p, o2, none⟩ = some u) (hp : p < W.heap.size) (hb : Below W.heap.size W w') :
    Below W.heap.size W w' ∧ w'.cell? ⟨p, o1, none⟩ = some v ∧ w'.cell? ⟨p, o2, none⟩ = some u :=
  ⟨hb, (World.cell?_of_block (hb.block p hp)).trans h1, (World.cell?_of_block (hb.block p hp)).trans h2⟩
set_option maxRecDepth 100000 in
set_option maxHeartbeats 4000000 in
theorem fnKidsOfNext_any (A : Option Addr) (cap : Nat) (bs : List Int) (w : World) (h : Code w A cap bs) :
    Calls Try.prog 12 #[.slice A bs.length cap] w (Yes w) := by
  have hcap := h.cap1
  have hcap2 := h.cap2
  by_cases hbig : 1048576 < bs.length
  · clear h
    go_enter Try.func12, Try.ntmps12
    go_wp2
    go_ret
    exact ⟨rfl, Below.refl _ _⟩
  · have hd := drawKidsOf_any A cap bs w h
    clear h
    go_enter Try.func12, Try.ntmps12
    go_wp2_with fail
    refine hd.mono ?_
    rintro e w1 ⟨A1, c1, T, x, rfl, hx, hl, hc1, hc2, ha, b1⟩
    have H1 := hid ha
    have B1 := hid b1
    have hl2 : T.length ≤ 1048576 := by omega
    clear ha b1 hd
    cases hat : atIn T x
    · have HV := hid (kidsV_out hat)
      clear hat
      go_wp2_with fail
      refine (kidsOf_eq hl2 H1.out HV.out rfl).mono ?_
      rintro e w2 ⟨lA, lc, rfl, lh1, lh2, ar, b⟩
      have B2 := hid (chain B1.out b)
      have H2 := hid (H1.out.next b)
      have lR := hid ar
      clear b ar
      go_wp2_with fail
      refine (kidsOfS_eq hl2 H2.out HV.out rfl).mono ?_
      rintro e w3 ⟨sA, sc, rfl, sh1, sh2, ar, b⟩
      have B3 := hid (chain B2.out b)
      have H3 := hid (H2.out.next b)
      have sR := hid ar
      have lR := hid (lR.out.next b)
      clear b ar
      go_wp2_with fail
      refine (equalInts_n _ _ _ _ _ _ _ _ rfl rfl (by decide) lR.out sR.out).mono ?_
      rintro e w4 ⟨rfl, b⟩
      have B4 := hid (chain B3.out b)
      have H4 := hid (H3.out.next b)
      have lR := hid (lR.out.next b)
      clear b
      go_wp2_with fail
      refine (kidsOfS_eq hl2 H4.out HV.out rfl).mono ?_
      rintro e w5 ⟨tA, tc, rfl, th1, th2, ar, b⟩
      have B5 := hid (chain B4.out b)
      have H5 := hid (H4.out.next b)
      have tR := hid ar
      have lR := hid (lR.out.next b)
      clear b ar
      go_wp2_with fail
      refine (equalInts_n _ _ _ _ _ _ _ _ rfl rfl (by decide) lR.out tR.out).mono ?_
      rintro e w6 ⟨rfl, b⟩
      have B6 := hid (chain B5.out b)
      have H6 := hid (H5.out.next b)
      clear b
      go_wp2_with fail
      go_ret
      exact ⟨rfl, B6.out⟩
    · obtain ⟨k, rfl, hk, v⟩ := atIn_nat hat
      have HK := hid (kidsV_in v hk)
      obtain ⟨m, hm⟩ : ∃ m, (asI (kidsN T T.length k)).length = m := ⟨_, rfl⟩
      have HN := hid hm
      have hm16 : m ≤ 16 := by have := kids_len_le T T.length k; rw [asI_len] at hm; omega
      have HST := hid (fun (i a b : Nat) (h1 : (kidsN T T.length k)[i]? = some a) (h2 : (kidsN T T.length k)[i + 1]? = some b) => kids_step v.ord hk h1 h2)
      have HHD := hid (fun (a : Nat) (h1 : (kidsN T T.length k)[0]? = some a) => kids_head v.ord hk h1)
      have VV := hid v
      clear hat hm v
      by_cases hmz : m = 0
      · subst hmz
        go_wp2_with fail
        refine (kidsOf_eq hl2 H1.out HK.out HN.out).mono ?_
        rintro e w2 ⟨lA, lc, rfl, lh1, lh2, ar, b⟩
        have B2 := hid (chain B1.out b)
        have H2 := hid (H1.out.next b)
        have lR := hid ar
        clear b ar
        go_wp2_with fail
        refine (kidsOfS_eq hl2 H2.out HK.out HN.out).mono ?_
        rintro e w3 ⟨sA, sc, rfl, sh1, sh2, ar, b⟩
        have B3 := hid (chain B2.out b)
        have H3 := hid (H2.out.next b)
        have sR := hid ar
        have lR := hid (lR.out.next b)
        clear b ar
        go_wp2_with fail
        refine (equalInts_n _ _ _ _ _ _ _ _ HN.out HN.out (by omega) lR.out sR.out).mono ?_
        rintro e w4 ⟨rfl, b⟩
        have B4 := hid (chain B3.out b)
        have H4 := hid (H3.out.next b)
        have lR := hid (lR.out.next b)
        clear b
        go_wp2_with fail
        refine (kidsOfS_eq hl2 H4.out HK.out HN.out).mono ?_
        rintro e w5 ⟨tA, tc, rfl, th1, th2, ar, b⟩
        have B5 := hid (chain B4.out b)
        have H5 := hid (H4.out.next b)
        have tR := hid ar
        have lR := hid (lR.out.next b)
        clear b ar
        go_wp2_with fail
        refine (equalInts_n _ _ _ _ _ _ _ _ HN.out HN.out (by omega) lR.out tR.out).mono ?_
        rintro e w6 ⟨rfl, b⟩
        have B6 := hid (chain B5.out b)
        have H6 := hid (H5.out.next b)
        clear b
        go_wp2_with fail
        go_ret
        exact ⟨rfl, B6.out⟩
      · have hmb : ((m : Int) == 0) = false := by rw [beq_eq_false_iff_ne]; omega
        have w1 : IntKind.i64.wrap ((k : Int) + 1) = (k : Int) + 1 := IntWalk.i64_in _ (by omega)
        go_wp2_with fail
        refine (kidsOf_eq hl2 H1.out HK.out HN.out).mono ?_
        rintro e w2 ⟨lA, lc, rfl, lh1, lh2, ar, b⟩
        have B2 := hid (chain B1.out b)
        have H2 := hid (H1.out.next b)
        have lR := hid ar
        clear b ar
        go_wp2_with fail
        refine (kidsOfS_eq hl2 H2.out HK.out HN.out).mono ?_
        rintro e w3 ⟨sA, sc, rfl, sh1, sh2, ar, b⟩
        have B3 := hid (chain B2.out b)
        have H3 := hid (H2.out.next b)
        have sR := hid ar
        have lR := hid (lR.out.next b)
        clear b ar
        go_wp2_with fail
        refine (equalInts_n _ _ _ _ _ _ _ _ HN.out HN.out (by omega) lR.out sR.out).mono ?_
        rintro e w4 ⟨rfl, b⟩
        have B4 := hid (chain B3.out b)
        have H4 := hid (H3.out.next b)
        have lR := hid (lR.out.next b)
        clear b
        go_wp2_with fail
        go_loopg [6] m (fun gg s6 wr => ∃ i : Nat, 1 ≤ i ∧ i ≤ m ∧ m - i ≤ gg ∧ s6 = .int .i64 i ∧ Aside (Below w4.heap.size w4 wr))
        case atStart => exact ⟨1, by omega, by omega, by omega, rfl, Below.refl _ _⟩
        case round =>
          obtain ⟨i, hi1, hi, hgg, rfl, R⟩ := hrel
          have HW := hid (H4.out.next R.out)
          have LW := hid (lR.out.next R.out)
          have BW := hid (chain B4.out R.out)
          by_cases hlt : i < m
          · obtain ⟨g, hg⟩ : ∃ g, i = g + 1 := ⟨i - 1, by omega⟩
            obtain ⟨p, off', z, rfl, hp, hx, d1⟩ := LW.out.at1 (show i < _ by rw [HN.out]; exact hlt)
            obtain ⟨u, hx2, d2, -⟩ := LW.out.lit1 (show g < _ by rw [HN.out]; omega)
            obtain ⟨a, rfl, ha⟩ := asI_at' hx2
            obtain ⟨b, rfl, hb⟩ := asI_at' hx
            have han : a < T.length := (mem_kids.1 (List.mem_of_getElem? ha)).1
            have hst := HST.out g a b ha (by rw [← hg]; exact hb)
            obtain ⟨cq, hcq⟩ : ∃ c, countN T T.length a = c := ⟨_, rfl⟩
            rw [hcq] at hst
            have hca := count_pos VV.out.ord han
            rw [hcq] at hca
            have HVQ := hid (show countV T (a : Int) = (cq : Int) by rw [countV_in VV.out han, hcq])
            have D1 := hid d1
            have D2 := hid d2
            have i1 : (0 : Int) ≤ (i : Int) := by omega
            have i2 : (i : Int) < (m : Int) := by omega
            have g1 : (0 : Int) ≤ (g : Int) := by omega
            have g2 : (g : Int) < (m : Int) := by omega
            have w2 : IntKind.i64.wrap ((i : Int) - 1) = (g : Int) := by rw [IntWalk.i64_in _ (by omega)]; omega
            have w3 : IntKind.i64.wrap ((a : Int) + (cq : Int)) = (b : Int) := by rw [IntWalk.i64_in _ (by omega)]; omega
            have hbb : ((b : Int) != (b : Int)) = false := by simp
            have HG := hid hg
            have HB := hid hst
            clear hx hx2 ha hb hcq hg hst
            go_upto_region 10 with (fail)
            go_region_held3 (fun w' => Below wr.heap.size wr w' ∧ w'.cell? ⟨p, off' + i, none⟩ = some (.int .i64 (b : Int)) ∧ w'.cell? ⟨p, off' + g, none⟩ = some (.int .i64 (a : Int))) ((refine SK2 D1.out D2.out hp ?_; first | assumption | exact Below.refl _ _ | exact (Below.refl _ _).drew)) ((first | (go_simp; go_at_call 18; refine (countIn_eq hl2 (HW.out.next (And.left (by assumption))) HVQ.out).mono ?_; rintro e w9 ⟨rfl, b9⟩; have b10 : Below wr.heap.size wr w9 := chain (And.left (by assumption)) b9; dsimp only)))
            go_wp2_with fail
            go_roundg (m - (i + 1))
            case measure => omega
            case rel => exact ⟨i + 1, by omega, by omega, by omega, by go_num, R.out.trans (Below.mono (by assumption) R.out.size)⟩
          · obtain ⟨p, off', z, rfl, hp, hx, d1⟩ := LW.out.at1 (show 0 < _ by rw [HN.out]; omega)
            obtain ⟨b, rfl, hb⟩ := asI_at' hx
            have hbk := HHD.out b hb
            subst hbk
            rw [Nat.add_zero] at d1
            have m1 : (0 : Int) < (m : Int) := by omega
            clear hx hb
            go_wp2_with fail
            go_ret
            exact ⟨by first | rfl | (simp; done) | (simp; omega), BW.out⟩

#print axioms fnKidsOfNext_any
end Go.Proofs.Ytpahljbcffmaaaa
