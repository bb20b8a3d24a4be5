/- FnCountIn: the walk. Written by a program of ours. -/
import Derived.Test.YtpahljbcffmaaaaB19
namespace Go.Proofs.Ytpahljbcffmaaaa
set_option linter.unusedVariables false
set_option linter.unusedSimpArgs false
open Go.RowKit Go.Lib

theorem sum_next {f : Nat → Nat} {K : List Nat} {i q : Nat} (h : K[i]? = some q) : ((K.take (i + 1)).map f).sum = ((K.take i).map f).sum + f q := by
  rw [List.take_add_one, h, List.map_append, List.sum_append]
  simp
theorem sum_le (f : Nat → Nat) (K : List Nat) (i : Nat) : ((K.take i).map f).sum ≤ (K.map f).sum := by
  rw [← List.take_append_drop i (K.map f), List.sum_append, ← List.map_take]
  omega
set_option maxRecDepth 100000 in
set_option maxHeartbeats 4000000 in
theorem fnCountIn_any (A : Option Addr) (cap : Nat) (bs : List Int) (w : World) (h : Code w A cap bs) :
    Calls Try.prog 9 #[.slice A bs.length cap] w (Yes w) := by
  have hcap := h.cap1
  have hcap2 := h.cap2
  by_cases hbig : 1048576 < bs.length
  · clear h
    go_enter Try.func9, Try.ntmps9
    go_wp2
    go_ret
    exact ⟨rfl, Below.refl _ _⟩
  · have hd := drawCountIn_any A cap bs w h
    clear h
    go_enter Try.func9, Try.ntmps9
    go_wp2_with fail
    refine hd.mono ?_
    rintro e w1 ⟨A1, c1, T, x, rfl, hx, hl, hc1, hc2, ha, b1⟩
    have H1 := hid ha
    have B1 := hid b1
    have hl2 : T.length ≤ 1048576 := by omega
    clear ha b1 hd
    cases hat : atIn T x
    · have HV := hid (countV_out hat)
      clear hat
      go_wp2_with fail
      refine (countIn_eq hl2 H1.out HV.out).mono ?_
      rintro e w2 ⟨rfl, b⟩
      have B2 := hid (chain B1.out b)
      have H2 := hid (H1.out.next b)
      clear b
      go_wp2_with fail
      refine (countInS_eq hl2 H2.out HV.out).mono ?_
      rintro e w3 ⟨rfl, b⟩
      have B3 := hid (chain B2.out b)
      have H3 := hid (H2.out.next b)
      clear b
      go_wp2_with fail
      refine (countInS_eq hl2 H3.out HV.out).mono ?_
      rintro e w4 ⟨rfl, b⟩
      have B4 := hid (chain B3.out b)
      have H4 := hid (H3.out.next b)
      clear b
      go_wp2_with fail
      go_ret
      exact ⟨rfl, B4.out⟩
    · obtain ⟨k, rfl, hk, v⟩ := atIn_nat hat
      obtain ⟨cn, hcn⟩ : ∃ c, countN T T.length k = c := ⟨_, rfl⟩
      have hcp := count_pos v.ord hk
      rw [hcn] at hcp
      have HV := hid (show countV T (k : Int) = (cn : Int) by rw [countV_in v hk, hcn])
      have HV0 := hid (countV_root v)
      have HK := hid (kidsV_in v hk)
      obtain ⟨m, hm⟩ : ∃ m, (asI (kidsN T T.length k)).length = m := ⟨_, rfl⟩
      have HN := hid hm
      have hm16 : m ≤ 16 := by have := kids_len_le T T.length k; rw [asI_len] at hm; omega
      have HS := hid (kids_sum v.ord hk)
      have hcn16 : cn ≤ 16 := by omega
      have HCN := hid hcn
      have VV := hid v
      clear hat hm hcn v hcp
      go_wp2_with fail
      refine (countIn_eq hl2 H1.out HV.out).mono ?_
      rintro e w2 ⟨rfl, b⟩
      have B2 := hid (chain B1.out b)
      have H2 := hid (H1.out.next b)
      clear b
      go_wp2_with fail
      refine (countInS_eq hl2 H2.out HV.out).mono ?_
      rintro e w3 ⟨rfl, b⟩
      have B3 := hid (chain B2.out b)
      have H3 := hid (H2.out.next b)
      clear b
      go_wp2_with fail
      refine (kidsOf_eq hl2 H3.out HK.out HN.out).mono ?_
      rintro e w4 ⟨lA, lc, rfl, lh1, lh2, ar, b⟩
      have B4 := hid (chain B3.out b)
      have H4 := hid (H3.out.next b)
      have lR := hid ar
      clear b ar
      go_wp2_with fail
      go_loopg [6, 8] m (fun gg s6 s8 wr => ∃ i a : Nat, i ≤ m ∧ m - i ≤ gg ∧ a ≤ 16 ∧ s6 = .int .i64 a ∧ s8 = .int .i64 i ∧ Aside (a = 1 + (((kidsN T T.length k).take i).map (countN T T.length)).sum) ∧ Aside (Below w4.heap.size w4 wr))
      case atStart => exact ⟨0, 1, Nat.zero_le _, by omega, by omega, rfl, rfl, by rw [List.take_zero]; rfl, Below.refl _ _⟩
      case round =>
        obtain ⟨i, a, hi, hgg, ha16, rfl, rfl, N, R⟩ := hrel
        have HW := hid (H4.out.next R.out)
        have LW := hid (lR.out.next R.out)
        have BW := hid (chain B4.out R.out)
        by_cases hlt : i < m
        · obtain ⟨p, off', z, rfl, hp, hx, d1⟩ := LW.out.at1 (show i < _ by rw [HN.out]; exact hlt)
          obtain ⟨q, rfl, hq⟩ := asI_at' hx
          have hqn : q < T.length := (mem_kids.1 (List.mem_of_getElem? hq)).1
          have hs := sum_next (f := countN T T.length) hq
          have hsl := sum_le (countN T T.length) (kidsN T T.length k) (i + 1)
          have hss := HS.out
          rw [HCN.out] at hss
          obtain ⟨cq, hcq⟩ : ∃ c, countN T T.length q = c := ⟨_, rfl⟩
          rw [hcq] at hs
          have ha := N.out
          have haq : a + cq ≤ 16 := by omega
          have HVQ := hid (show countV T (q : Int) = (cq : Int) by rw [countV_in VV.out hqn, hcq])
          have F : Aside (a + cq = 1 + (((kidsN T T.length k).take (i + 1)).map (countN T T.length)).sum) := by show _ = _; omega
          have i1 : (0 : Int) ≤ (i : Int) := by omega
          have i2 : (i : Int) < (m : Int) := by omega
          have w1 : IntKind.i64.wrap ((a : Int) + (cq : Int)) = ((a + cq : Nat) : Int) := by rw [IntWalk.i64_in _ (by omega)]; rfl
          clear hx hq hs hsl hss ha hcq N
          go_wp2_with fail
          refine (countIn_eq hl2 HW.out HVQ.out).mono ?_
          rintro e w9 ⟨rfl, b9⟩
          have R9 := hid (chain R.out b9)
          clear b9
          go_wp2_with fail
          go_roundg (m - (i + 1))
          case measure => omega
          case rel => exact ⟨i + 1, a + cq, by omega, by omega, haq, by go_num, by go_num, F, R9.out⟩
        · obtain rfl : i = m := by omega
          have hac : a = cn := by have h1 := N.out; have h2 := HS.out; rw [List.take_of_length_le (by have := HN.out; rw [asI_len] at this; omega)] at h1; rw [HCN.out] at h2; omega
          subst hac
          clear N
          go_wp2_with fail
          refine (countIn_eq hl2 HW.out HV0.out).mono ?_
          rintro e w9 ⟨rfl, b9⟩
          have B9 := hid (chain BW.out b9)
          clear b9
          go_wp2_with fail
          go_ret
          exact ⟨by first | rfl | (simp; done) | (simp; omega), B9.out⟩

#print axioms fnCountIn_any
end Go.Proofs.Ytpahljbcffmaaaa
