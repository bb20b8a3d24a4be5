/- FnPathToPrefix: the walk. Written by a program of ours. -/
import Derived.Test.YtjomdcnelamefaaB19
import Derived.Deep.RegionHeld3
namespace Go.Proofs.Ytjomdcnelamefaa
set_option linter.unusedVariables false
set_option linter.unusedSimpArgs false
open Go.RowKit Go.Lib

theorem SK1 {W w' : World} {p o1 : Nat} {v : Value} (h1 : W.cell? ⟨p, o1, none⟩ = some v) (hp : p < W.heap.size) (hb : Below W.heap.size W w') :
    Below W.heap.size W w' ∧ w'.cell? ⟨p, o1, none⟩ = some v :=
  ⟨hb, (World.cell?_of_block (hb.block p hp)).trans h1⟩
set_option maxRecDepth 100000 in
set_option maxHeartbeats 4000000 in
theorem fnPathToPrefix_any (A : Option Addr) (cap : Nat) (bs : List Int) (w : World) (h : Code w A cap bs) :
    Calls Try.prog 4 #[.slice A bs.length cap] w (Yes w) := by
  have hcap := h.cap1
  have hcap2 := h.cap2
  by_cases hbig : 1048576 < bs.length
  · clear h
    go_enter Try.func4, Try.ntmps4
    go_wp2
    go_ret
    exact ⟨rfl, Below.refl _ _⟩
  · have hd := drawPathTo_any A cap bs w h
    clear h
    go_enter Try.func4, Try.ntmps4
    go_wp2_with fail
    refine hd.mono ?_
    rintro e w1 ⟨A1, c1, T, x, rfl, hx, hl, hc1, hc2, ha, b1⟩
    have H1 := hid ha
    have B1 := hid b1
    have hl2 : T.length ≤ 1048576 := by omega
    clear ha b1 hd
    cases hat : atIn T x
    · have HV := hid (pathV_out hat)
      clear hat
      go_wp2_with fail
      refine (pathTo_eq hl2 H1.out HV.out rfl).mono ?_
      rintro e w2 ⟨lA, lc, rfl, lh1, lh2, ar, b⟩
      have B2 := hid (chain B1.out b)
      have H2 := hid (H1.out.next b)
      have lR := hid ar
      clear b ar
      go_wp2_with fail
      refine (pathToS_eq hl2 H2.out HV.out rfl).mono ?_
      rintro e w3 ⟨sA, sc, rfl, sh1, sh2, ar, b⟩
      have B3 := hid (chain B2.out b)
      have H3 := hid (H2.out.next b)
      have sR := hid ar
      have lR := hid (lR.out.next b)
      clear b ar
      go_wp2_with fail
      refine (equalInts_n _ _ _ _ _ _ _ _ rfl rfl (by decide) lR.out sR.out).mono ?_
      rintro e w4 ⟨rfl, b⟩
      have B4 := hid (chain B3.out b)
      have H4 := hid (H3.out.next b)
      have lR := hid (lR.out.next b)
      clear b
      go_wp2_with fail
      refine (pathToS_eq hl2 H4.out HV.out rfl).mono ?_
      rintro e w5 ⟨tA, tc, rfl, th1, th2, ar, b⟩
      have B5 := hid (chain B4.out b)
      have H5 := hid (H4.out.next b)
      have tR := hid ar
      have lR := hid (lR.out.next b)
      clear b ar
      go_wp2_with fail
      refine (equalInts_n _ _ _ _ _ _ _ _ rfl rfl (by decide) lR.out tR.out).mono ?_
      rintro e w6 ⟨rfl, b⟩
      have B6 := hid (chain B5.out b)
      have H6 := hid (H5.out.next b)
      clear b
      go_wp2_with fail
      go_ret
      exact ⟨rfl, B6.out⟩
    · obtain ⟨k, rfl, hk, v⟩ := atIn_nat hat
      have HP := hid (pathV_in v hk)
      obtain ⟨m, hm⟩ : ∃ m, (asI (pathOf T k)).length = m := ⟨_, rfl⟩
      have HN := hid hm
      have hmp : 0 < m := by have := path_pos T k; rw [asI_len] at hm; omega
      have hm6 : m ≤ 6 := by have := v.dep k hk; rw [asI_len, path_len] at hm; omega
      have hmb : ((m : Int) == 0) = false := by rw [beq_eq_false_iff_ne]; omega
      have VV := hid v
      by_cases h2 : m < 2
      · have h2' : (m : Int) < 2 := by omega
        clear hat hm v
        go_wp2_with fail
        refine (pathTo_eq hl2 H1.out HP.out HN.out).mono ?_
        rintro e w2 ⟨lA, lc, rfl, lh1, lh2, ar, b⟩
        have B2 := hid (chain B1.out b)
        have H2 := hid (H1.out.next b)
        have lR := hid ar
        clear b ar
        go_wp2_with fail
        refine (pathToS_eq hl2 H2.out HP.out HN.out).mono ?_
        rintro e w3 ⟨sA, sc, rfl, sh1, sh2, ar, b⟩
        have B3 := hid (chain B2.out b)
        have H3 := hid (H2.out.next b)
        have sR := hid ar
        have lR := hid (lR.out.next b)
        clear b ar
        go_wp2_with fail
        refine (equalInts_n _ _ _ _ _ _ _ _ HN.out HN.out (by omega) lR.out sR.out).mono ?_
        rintro e w4 ⟨rfl, b⟩
        have B4 := hid (chain B3.out b)
        have H4 := hid (H3.out.next b)
        have lR := hid (lR.out.next b)
        clear b
        go_wp2_with fail
        refine (pathToS_eq hl2 H4.out HP.out HN.out).mono ?_
        rintro e w5 ⟨tA, tc, rfl, th1, th2, ar, b⟩
        have B5 := hid (chain B4.out b)
        have H5 := hid (H4.out.next b)
        have tR := hid ar
        have lR := hid (lR.out.next b)
        clear b ar
        go_wp2_with fail
        refine (equalInts_n _ _ _ _ _ _ _ _ HN.out HN.out (by omega) lR.out tR.out).mono ?_
        rintro e w6 ⟨rfl, b⟩
        have B6 := hid (chain B5.out b)
        have H6 := hid (H5.out.next b)
        clear b
        go_wp2_with fail
        go_ret
        exact ⟨rfl, B6.out⟩
      · have h2' : ¬ ((m : Int) < 2) := by omega
        rw [asI_len] at hm
        have hpos := path_two v.ord.1 hk (by omega)
        have hpt := path_take v.ord.1 hk hpos
        rw [hm] at hpt
        obtain ⟨q, hq⟩ : ∃ q, q = (par T k).toNat := ⟨_, rfl⟩
        have hqk := par_lt v.ord.1 hk hpos
        rw [← hq] at hpt hqk
        have hqn : q < T.length := by omega
        obtain ⟨n2, hn2⟩ : ∃ n, m = n + 2 := ⟨m - 2, by omega⟩
        have hpt1 : (asI (pathOf T k)).take (n2 + 1) = asI (pathOf T q) := by rw [← hpt.1]; unfold asI; rw [List.map_take, hn2]; rfl
        have hpt2 : (asI (pathOf T k))[n2]? = some (q : Int) := asI_at (by rw [← hpt.2, hn2]; rfl)
        have HPQ := hid (pathV_in v hqn)
        have HNQ := hid (show (asI (pathOf T q)).length = n2 + 1 by rw [← hpt1, List.length_take, asI_len]; omega)
        have HT := hid hpt1
        have HX := hid hpt2
        have w1 : IntKind.i64.wrap ((m : Int) - 2) = (n2 : Int) := by rw [IntWalk.i64_in _ (by omega)]; omega
        have w2 : IntKind.i64.wrap ((m : Int) - 1) = (n2 : Int) + 1 := by rw [IntWalk.i64_in _ (by omega)]; omega
        have n1 : (0 : Int) ≤ (n2 : Int) := by omega
        have n3 : (n2 : Int) < (m : Int) := by omega
        have n4 : (0 : Int) ≤ (n2 : Int) + 1 := by omega
        have n10 : ((n2 : Int) + 1).toNat = n2 + 1 := by omega
        have n7 : n2 ≤ 6 := by omega
        have n8 : n2 < m := by omega
        have n9 : n2 + 1 ≤ m := by omega
        clear hat hm v hpt hpt1 hpt2 hq hn2 hqk hpos
        go_wp2_with fail
        refine (pathTo_eq hl2 H1.out HP.out HN.out).mono ?_
        rintro e w2 ⟨lA, lc, rfl, lh1, lh2, ar, b⟩
        have B2 := hid (chain B1.out b)
        have H2 := hid (H1.out.next b)
        have lR := hid ar
        clear b ar
        go_wp2_with fail
        refine (pathToS_eq hl2 H2.out HP.out HN.out).mono ?_
        rintro e w3 ⟨sA, sc, rfl, sh1, sh2, ar, b⟩
        have B3 := hid (chain B2.out b)
        have H3 := hid (H2.out.next b)
        have sR := hid ar
        have lR := hid (lR.out.next b)
        clear b ar
        go_wp2_with fail
        refine (equalInts_n _ _ _ _ _ _ _ _ HN.out HN.out (by omega) lR.out sR.out).mono ?_
        rintro e w4 ⟨rfl, b⟩
        have B4 := hid (chain B3.out b)
        have H4 := hid (H3.out.next b)
        have lR := hid (lR.out.next b)
        clear b
        have n5 : (n2 : Int) + 1 ≤ (lc : Int) := by omega
        obtain ⟨p, off', z, rfl, hp, hx, d1⟩ := lR.out.at1 (show n2 < _ by rw [HN.out]; exact n8)
        rw [HX.out] at hx
        injection hx with hx
        subst hx
        have D1 := hid d1
        go_upto_region 7 with (fail)
        go_region_held3 (fun w' => Below w4.heap.size w4 w' ∧ w'.cell? ⟨p, off' + n2, none⟩ = some (.int .i64 (q : Int))) ((refine SK1 D1.out hp ?_; first | assumption | exact Below.refl _ _ | exact (Below.refl _ _).drew)) ((first | (go_simp; go_at_call 14; refine (pathTo_eq hl2 (H4.out.next (And.left (by assumption))) HPQ.out HNQ.out).mono ?_; rintro e w8 ⟨qA, qc, rfl, qh1, qh2, ar, b8⟩; have b10 : Below w4.heap.size w4 w8 := chain (And.left (by assumption)) b8; have L8 := hid (lR.out.next b10); have QR := hid ar; dsimp only) | (go_simp; go_at_call 15; refine (equalInts_n _ _ (asI (pathOf T q)) _ _ _ _ _ HNQ.out HNQ.out (by omega) QR.out (by rw [← HT.out]; exact L8.out.take (n2 + 1))).mono ?_; rintro e w9 ⟨rfl, b9⟩; have b11 : Below w4.heap.size w4 w9 := chain b10 b9; dsimp only)))
        all_goals
          go_wp2_with fail
          go_ret
          exact ⟨rfl, B4.out.trans (Below.mono (by assumption) B4.out.size)⟩

#print axioms fnPathToPrefix_any
end Go.Proofs.Ytjomdcnelamefaa
