/- FnNextLeaf: the walk. Written by a program of ours. -/
import Derived.Test.YtjomdcnelamefaaB19
namespace Go.Proofs.Ytjomdcnelamefaa
set_option linter.unusedVariables false
set_option linter.unusedSimpArgs false
open Go.RowKit Go.Lib

theorem ne_leaf {T : List BoxD} {c K : Nat} {y : BoxD} (hy : T[c]? = some y) (hno : ¬ y.Kind = 0) (hK : (boxAt T K).Kind = 0) : ((c : Int) != (K : Int)) = true := by
  rw [bne_iff_ne]
  intro e
  obtain rfl : c = K := by omega
  exact hno (by rw [← boxAt_of hy]; exact hK)
set_option maxRecDepth 100000 in
set_option maxHeartbeats 4000000 in
theorem fnNextLeaf_any (A : Option Addr) (cap : Nat) (bs : List Int) (w : World) (h : Code w A cap bs) :
    Calls Try.prog 5 #[.slice A bs.length cap] w (Yes w) := by
  have hcap := h.cap1
  have hcap2 := h.cap2
  by_cases hbig : 1048576 < bs.length
  · clear h
    go_enter Try.func5, Try.ntmps5
    go_wp2
    go_ret
    exact ⟨rfl, Below.refl _ _⟩
  · have hd := drawNextLeaf_any A cap bs w h
    clear h
    go_enter Try.func5, Try.ntmps5
    go_wp2_with fail
    refine hd.mono ?_
    rintro e w1 ⟨A1, c1, T, x, rfl, hx, hl, hc1, hc2, ha, b1⟩
    have H1 := hid ha
    have B1 := hid b1
    have hl2 : T.length ≤ 1048576 := by omega
    clear ha b1 hd
    cases hat : atIn T x
    · have HV := hid (leafV_out hat)
      clear hat
      go_wp2_with fail
      refine (nextLeaf_eq hl2 H1.out HV.out).mono ?_
      rintro e w2 ⟨rfl, b⟩
      have B2 := hid (chain B1.out b)
      have H2 := hid (H1.out.next b)
      clear b
      go_wp2_with fail
      refine (nextLeafS_eq hl2 H2.out HV.out).mono ?_
      rintro e w3 ⟨rfl, b⟩
      have B3 := hid (chain B2.out b)
      have H3 := hid (H2.out.next b)
      clear b
      go_wp2_with fail
      refine (nextLeafS_eq hl2 H3.out HV.out).mono ?_
      rintro e w4 ⟨rfl, b⟩
      have B4 := hid (chain B3.out b)
      have H4 := hid (H3.out.next b)
      clear b
      go_wp2_with fail
      go_ret
      exact ⟨rfl, B4.out⟩
    · obtain ⟨a, rfl, ha, v⟩ := atIn_nat hat
      have h0 : 0 < T.length := v.pos
      rcases nextLeaf_ex T a with ⟨d, hd, -⟩ | ⟨hno, -⟩
      · obtain ⟨K, hK⟩ : ∃ K, K = (a + d) % T.length := ⟨_, rfl⟩
        have hKn : K < T.length := by rw [hK]; exact Nat.mod_lt _ h0
        have HV := hid (show leafV T (a : Int) = (K : Int) by rw [leafV_in v ha, leafI_of hd, hK])
        have hd1 := hd.1
        have HKK := hid (show (boxAt T K).Kind = 0 by have := hd.2.2.1; unfold leafAt at this; rw [← hK] at this; simpa using this)
        have HNO := hid (fun j (h1 : 1 ≤ j) (h2 : j < d) => show ¬ (boxAt T ((a + j) % T.length)).Kind = 0 by have := hd.2.2.2 j h1 h2; unfold leafAt at this; simpa using this)
        have HKE := hid hK
        obtain ⟨c0, hc0⟩ : ∃ c, c = (a + 1) % T.length := ⟨_, rfl⟩
        have hc0n : c0 < T.length := by rw [hc0]; exact Nat.mod_lt _ h0
        have he : ((a : Int) + 1) % (T.length : Int) = (c0 : Int) := by rw [hc0]; rfl
        have HC0 := hid hc0
        have w1 : IntKind.i64.wrap ((a : Int) + 1) = (a : Int) + 1 := IntWalk.i64_in _ (by omega)
        have i0 : (0 : Int) < (T.length : Int) := by omega
        have i1 : (0 : Int) ≤ (a : Int) + 1 := by omega
        have kk1 : ¬ (T.length ≤ K) := by omega
        have kd : decide (T.length ≤ K) = false := by rw [decide_eq_false_iff_not]; exact kk1
        have kk2 : ¬ ((T.length : Int) ≤ (K : Int)) := by omega
        have k1 : (0 : Int) ≤ (K : Int) := by omega
        have k2 : (K : Int) < (T.length : Int) := by omega
        clear hat hd hK hc0 v
        obtain ⟨b0, off, x0, hA, -⟩ := H1.out.atBox ha
        subst hA
        go_wp2_with fail
        refine (nextLeaf_eq hl2 H1.out HV.out).mono ?_
        rintro e w2 ⟨rfl, b⟩
        have B2 := hid (chain B1.out b)
        have H2 := hid (H1.out.next b)
        clear b
        go_wp2_with fail
        refine (nextLeafS_eq hl2 H2.out HV.out).mono ?_
        rintro e w3 ⟨rfl, b⟩
        have B3 := hid (chain B2.out b)
        have H3 := hid (H2.out.next b)
        clear b
        go_wp2_with fail
        go_loopg [6] d (fun gg s6 wr => ∃ c j : Nat, c < T.length ∧ 1 ≤ j ∧ j ≤ d ∧ d - j ≤ gg ∧ s6 = .int .i64 c ∧ Aside (c = (a + j) % T.length) ∧ Aside (wr = w3))
        case atStart => exact ⟨c0, 1, hc0n, by omega, hd1, by omega, congrArg (Value.int .i64) he, HC0.out, rfl⟩
        case round =>
          obtain ⟨c, j, hcn, hj1, hjd, hgg, rfl, N, R⟩ := hrel
          obtain rfl : wr = w3 := R.out
          clear R
          by_cases hlt : j < d
          · obtain ⟨y, hy, hyb, -, e1, -⟩ := H3.out.litBox hcn
            have hno := HNO.out j hj1 hlt
            rw [← N.out, boxAt_of hy] at hno
            have hky : (y.Kind == 0) = false := by rw [beq_eq_false_iff_ne]; exact hno
            have hcK := ne_leaf hy hno HKK.out
            obtain ⟨c', hc'⟩ : ∃ c', c' = (a + (j + 1)) % T.length := ⟨_, rfl⟩
            have hcn' : c' < T.length := by rw [hc']; exact Nat.mod_lt _ h0
            have he2 : ((c : Int) + 1) % (T.length : Int) = (c' : Int) := by rw [hc', show (a + (j + 1)) % T.length = (c + 1) % T.length by rw [N.out, Nat.mod_add_mod, Nat.add_assoc]]; rfl
            have F : Aside (c' = (a + (j + 1)) % T.length) := hc'
            have w3 : IntKind.i64.wrap ((c : Int) + 1) = (c : Int) + 1 := IntWalk.i64_in _ (by omega)
            have i3 : (0 : Int) ≤ (c : Int) + 1 := by omega
            have c1' : (0 : Int) ≤ (c : Int) := by omega
            have c2' : (c : Int) < (T.length : Int) := by omega
            clear hy hno hc' N
            go_wp2_with fail
            go_roundg (d - (j + 1))
            case measure => omega
            case rel => exact ⟨c', j + 1, hcn', by omega, by omega, by omega, congrArg (Value.int .i64) he2, F, rfl⟩
          · obtain rfl : j = d := by omega
            obtain rfl : c = K := by have h1 := N.out; have h2 := HKE.out; omega
            obtain ⟨y, hy, hyb, -, e1, -⟩ := H3.out.litBox hcn
            have hky : (y.Kind == 0) = true := by rw [beq_iff_eq, ← boxAt_of hy]; exact HKK.out
            have hcc : ((c : Int) != (c : Int)) = false := by simp
            clear hy N
            go_wp2_with fail
            go_ret
            exact ⟨by first | rfl | (simp; done) | (simp; omega), B3.out⟩
      · have HV := hid (show leafV T (a : Int) = -1 by rw [leafV_in v ha, leafI_none hno])
        clear hat hno v
        go_wp2_with fail
        refine (nextLeaf_eq hl2 H1.out HV.out).mono ?_
        rintro e w2 ⟨rfl, b⟩
        have B2 := hid (chain B1.out b)
        have H2 := hid (H1.out.next b)
        clear b
        go_wp2_with fail
        refine (nextLeafS_eq hl2 H2.out HV.out).mono ?_
        rintro e w3 ⟨rfl, b⟩
        have B3 := hid (chain B2.out b)
        have H3 := hid (H2.out.next b)
        clear b
        go_wp2_with fail
        refine (nextLeafS_eq hl2 H3.out HV.out).mono ?_
        rintro e w4 ⟨rfl, b⟩
        have B4 := hid (chain B3.out b)
        have H4 := hid (H3.out.next b)
        clear b
        go_wp2_with fail
        go_ret
        exact ⟨rfl, B4.out⟩

#print axioms fnNextLeaf_any
end Go.Proofs.Ytjomdcnelamefaa
