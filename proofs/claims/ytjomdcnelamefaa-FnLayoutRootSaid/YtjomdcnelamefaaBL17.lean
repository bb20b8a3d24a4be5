/- FnLayoutRoot: the walk. Written by a program of ours. -/
import Derived.Test.YtjomdcnelamefaaB19
namespace Go.Proofs.Ytjomdcnelamefaa
set_option linter.unusedVariables false
set_option linter.unusedSimpArgs false
open Go.RowKit Go.Lib

theorem path_before {T : List BoxD} {n a i p : Nat} (h : Desc T n) (ha : a < n) (hp : (pathOf T a)[i]? = some p) (hi : i + 1 < (pathOf T a).length) : p ≠ a := by
  have h0 : 0 < a := path_two h ha (by omega)
  rw [path_next h ha h0] at hp hi
  rw [List.length_append] at hi
  rw [List.getElem?_append_left (by simp at hi; omega)] at hp
  have hq := par_lt h ha h0
  have := up_le h (par T a).toNat (by omega) p (mem_path.1 (List.mem_of_getElem? hp))
  omega
set_option maxRecDepth 100000 in
set_option maxHeartbeats 4000000 in
theorem fnLayoutRoot_any (A : Option Addr) (cap : Nat) (bs : List Int) (w : World) (h : Code w A cap bs) :
    Calls Try.prog 8 #[.slice A bs.length cap] w (Yes w) := by
  have hcap := h.cap1
  have hcap2 := h.cap2
  by_cases hbig : 1048576 < bs.length
  · clear h
    go_enter Try.func8, Try.ntmps8
    go_wp2
    go_ret
    exact ⟨rfl, Below.refl _ _⟩
  · have hd := drawLayoutRoot_any A cap bs w h
    clear h
    go_enter Try.func8, Try.ntmps8
    go_wp2_with fail
    refine hd.mono ?_
    rintro e w1 ⟨A1, c1, T, x, rfl, hx, hl, hc1, hc2, ha, b1⟩
    have H1 := hid ha
    have B1 := hid b1
    have hl2 : T.length ≤ 1048576 := by omega
    clear ha b1 hd
    cases hat : atIn T x
    · have HV := hid (layV_out hat)
      clear hat
      go_wp2_with fail
      refine (layoutRoot_eq hl2 H1.out HV.out).mono ?_
      rintro e w2 ⟨rfl, b⟩
      have B2 := hid (chain B1.out b)
      have H2 := hid (H1.out.next b)
      clear b
      go_wp2_with fail
      refine (layoutRootS_eq hl2 H2.out HV.out).mono ?_
      rintro e w3 ⟨rfl, b⟩
      have B3 := hid (chain B2.out b)
      have H3 := hid (H2.out.next b)
      clear b
      go_wp2_with fail
      refine (layoutRootS_eq hl2 H3.out HV.out).mono ?_
      rintro e w4 ⟨rfl, b⟩
      have B4 := hid (chain B3.out b)
      have H4 := hid (H3.out.next b)
      clear b
      go_wp2_with fail
      go_ret
      exact ⟨rfl, B4.out⟩
    · obtain ⟨a, rfl, ha, v⟩ := atIn_nat hat
      obtain ⟨K, hK⟩ : ∃ K, layRoot T a = K := ⟨_, rfl⟩
      have hlf := lay_facts v.ord.1 a ha
      rw [hK] at hlf
      obtain ⟨hKu, hK0, hKb⟩ := hlf
      have hKn : K < T.length := up_lt v.ord.1 ha hKu
      have HV := hid (show layV T (a : Int) = (K : Int) by rw [layV_in v ha, hK])
      have HA := hid (show aroundV T (K : Int) (a : Int) = true by rw [aroundV_in v hKn ha]; exact aroundB_iff.2 hKu)
      have HP := hid (pathV_in v ha)
      obtain ⟨m, hm⟩ : ∃ m, (asI (pathOf T a)).length = m := ⟨_, rfl⟩
      have HN := hid hm
      have hm6 : m ≤ 6 := by have := v.dep a ha; rw [asI_len, path_len] at hm; omega
      have hmp : 0 < m := by have := path_pos T a; rw [asI_len] at hm; omega
      have HKB := hid (fun (i p : Nat) (hp : (pathOf T a)[i]? = some p) (hi : i + 1 < m) (hlt : K < p) => hKb p (mem_path.1 (List.mem_of_getElem? hp)) (path_before v.ord.1 ha hp (by rw [asI_len] at hm; omega)) hlt)
      have HK0 := hid hK0
      have VV := hid v
      clear hat hK hKu hK0 hKb hm v
      obtain ⟨b0, off, x0, hA, -⟩ := H1.out.atBox ha
      subst hA
      go_wp2_with fail
      refine (layoutRoot_eq hl2 H1.out HV.out).mono ?_
      rintro e w2 ⟨rfl, b⟩
      have B2 := hid (chain B1.out b)
      have H2 := hid (H1.out.next b)
      clear b
      go_wp2_with fail
      refine (layoutRootS_eq hl2 H2.out HV.out).mono ?_
      rintro e w3 ⟨rfl, b⟩
      have B3 := hid (chain B2.out b)
      have H3 := hid (H2.out.next b)
      clear b
      go_wp2_with fail
      refine (pathTo_eq hl2 H3.out HP.out HN.out).mono ?_
      rintro e w4 ⟨lA, lc, rfl, lh1, lh2, ar, b⟩
      have B4 := hid (chain B3.out b)
      have H4 := hid (H3.out.next b)
      have lR := hid ar
      clear b ar
      go_wp2_with fail
      go_loopg [7] m (fun gg s7 wr => ∃ i : Nat, i + 1 ≤ m ∧ m - i ≤ gg ∧ s7 = .int .i64 i ∧ Aside (wr = w4))
      case atStart => exact ⟨0, by omega, by omega, rfl, rfl⟩
      case round =>
        obtain ⟨i, hi, hgg, rfl, R⟩ := hrel
        obtain rfl : wr = w4 := R.out
        clear R
        have w1 : IntKind.i64.wrap ((i : Int) + 1) = (i : Int) + 1 := IntWalk.i64_in _ (by omega)
        by_cases hlt : i + 1 < m
        · obtain ⟨p, off', z, rfl, hp, hx, d1⟩ := lR.out.at1 (show i < _ by rw [HN.out]; omega)
          obtain ⟨q, rfl, hq⟩ := asI_at' hx
          have hqn : q < T.length := path_mem_lt VV.out.ord.1 ha (List.mem_of_getElem? hq)
          have hkb := HKB.out i q hq hlt
          have c1 : (i : Int) + 1 < (m : Int) := by omega
          have i1 : (0 : Int) ≤ (i : Int) := by omega
          have i2 : (i : Int) < (m : Int) := by omega
          clear hx hq
          by_cases hKq : K < q
          · obtain ⟨y, hy, hyb, -, e1, -⟩ := H4.out.litBox hqn
            have hk1 := hkb hKq
            rw [boxAt_of hy] at hk1
            have hkk : (y.Kind != 1) = false := by rw [hk1]; rfl
            have q1 : (0 : Int) ≤ (q : Int) := by omega
            have q2 : (q : Int) < (T.length : Int) := by omega
            have q3 : (K : Int) < (q : Int) := by omega
            clear hkb hk1 hy
            go_wp2_with fail
            go_roundg (m - (i + 1))
            case measure => omega
            case rel => exact ⟨i + 1, by omega, by omega, by go_num, rfl⟩
          · have q3 : ¬ ((K : Int) < (q : Int)) := by omega
            clear hkb
            go_wp2_with fail
            go_roundg (m - (i + 1))
            case measure => omega
            case rel => exact ⟨i + 1, by omega, by omega, by go_num, rfl⟩
        · have c1 : ¬ ((i : Int) + 1 < (m : Int)) := by omega
          go_wp2_with fail
          refine (isAround_eq hl2 H4.out HA.out).mono ?_
          rintro e w9 ⟨rfl, b9⟩
          have B9 := hid (chain B4.out b9)
          have H9 := hid (H4.out.next b9)
          clear b9
          rcases HK0.out with hz | ⟨hk1, hKa⟩
          · subst hz
            go_wp2_with fail
            go_ret
            exact ⟨by first | rfl | (simp; done) | (simp; omega), B9.out⟩
          · obtain ⟨y, hy, hyb, -, e1, -⟩ := H9.out.litBox hKn
            rw [boxAt_of hy] at hk1
            have hkk : (y.Kind != 1) = true := by rw [bne_iff_ne]; exact hk1
            have k1 : (0 : Int) ≤ (K : Int) := by omega
            have k2 : (K : Int) < (T.length : Int) := by omega
            have hKa2 : ((K : Int) != (a : Int)) = true := by rw [bne_iff_ne]; omega
            clear hy hk1
            by_cases hz : K = 0
            · subst hz
              go_wp2_with fail
              go_ret
              exact ⟨by first | rfl | (simp; done) | (simp; omega), B9.out⟩
            · have hzb : ((K : Int) == 0) = false := by rw [beq_eq_false_iff_ne]; omega
              go_wp2_with fail
              go_ret
              exact ⟨by first | rfl | (simp; done) | (simp; omega), B9.out⟩

#print axioms fnLayoutRoot_any
end Go.Proofs.Ytjomdcnelamefaa
