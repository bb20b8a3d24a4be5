/- FnNextLeafAll: the walk. Written by a program of ours. -/
import Derived.Test.YtjomdcnelamefaaB19
namespace Go.Proofs.Ytjomdcnelamefaa
set_option linter.unusedVariables false
set_option linter.unusedSimpArgs false
open Go.RowKit Go.Lib

/-- What the walk over the leaves keeps. -/
def LRel (T : List BoxD) (K i n : Nat) : Prop := ∃ D, (D = 0 ∨ leafAt T K D = true) ∧ offN T K D = leavesN T i ∧ n = (K + D) % T.length
theorem lrel_zero {T : List BoxD} {K : Nat} (hK : K < T.length) : LRel T K 0 K := ⟨0, .inl rfl, rfl, by rw [Nat.add_zero, Nat.mod_eq_of_lt hK]⟩
theorem lrel_no {T : List BoxD} {K i n : Nat} (h : LRel T K i n) (hk : ((boxAt T i).Kind == 0) = false) : LRel T K (i + 1) n := by
  obtain ⟨D, h1, h2, h3⟩ := h
  exact ⟨D, h1, by rw [leavesN, hk, ← h2]; simp, h3⟩
theorem lrel_yes {T : List BoxD} {K i n : Nat} (h0 : 0 < T.length) (h : LRel T K i n) (hi : i < T.length) (hk : (boxAt T i).Kind = 0) : ∃ n', n' < T.length ∧ nextLeafI T n = (n' : Int) ∧ LRel T K (i + 1) n' := by
  obtain ⟨D, h1, h2, h3⟩ := h
  rcases nextLeaf_ex T n with ⟨d, hd, -⟩ | ⟨hno, -⟩
  · have hd2 : IsNextLeaf T (K + D) d := by
      obtain ⟨a1, a2, a3, a4⟩ := hd
      refine ⟨a1, a2, ?_, fun j j1 j2 => ?_⟩
      · rw [← leaf_mod, ← h3]; exact a3
      · rw [← leaf_mod, ← h3]; exact a4 j j1 j2
    refine ⟨(n + d) % T.length, Nat.mod_lt _ h0, leafI_of hd, D + d, .inr ?_, ?_, ?_⟩
    · have := hd2.2.2.1
      unfold leafAt at this ⊢
      rw [← Nat.add_assoc]
      exact this
    · rw [offN_skip hd2, h2, leavesN, hk]
      simp
    · rw [h3, Nat.mod_add_mod, Nat.add_assoc]
  · obtain ⟨j, j1, j2, j3⟩ := (leaf_any (a := n) h0).2 ⟨i, hi, hk⟩
    rw [hno j j1 j2] at j3
    cases j3
theorem lrel_end {T : List BoxD} {K n : Nat} (h0 : 0 < T.length) (hK : K < T.length) (hl : (boxAt T K).Kind = 0) (h : LRel T K T.length n) : n = K := by
  obtain ⟨D, h1, h2, h3⟩ := h
  rw [h3]
  exact round_trip h0 hK hl h1 h2
set_option maxRecDepth 100000 in
set_option maxHeartbeats 4000000 in
theorem fnNextLeafAll_any (A : Option Addr) (cap : Nat) (bs : List Int) (w : World) (h : Code w A cap bs) :
    Calls Try.prog 6 #[.slice A bs.length cap] w (Yes w) := by
  have hcap := h.cap1
  have hcap2 := h.cap2
  by_cases hbig : 1048576 < bs.length
  · clear h
    go_enter Try.func6, Try.ntmps6
    go_wp2
    go_ret
    exact ⟨rfl, Below.refl _ _⟩
  · have hd := drawNextLeaf_any A cap bs w h
    clear h
    go_enter Try.func6, Try.ntmps6
    go_wp2_with fail
    refine hd.mono ?_
    rintro e w1 ⟨A1, c1, T, x, rfl, hx, hl, hc1, hc2, ha, b1⟩
    have H1 := hid ha
    have B1 := hid b1
    have hl2 : T.length ≤ 1048576 := by omega
    clear ha b1 hd
    cases hat : atIn T x
    · have HV := hid (leafV_out hat)
      clear hat
      go_wp2_with fail
      refine (nextLeaf_eq hl2 H1.out HV.out).mono ?_
      rintro e w2 ⟨rfl, b⟩
      have B2 := hid (chain B1.out b)
      have H2 := hid (H1.out.next b)
      clear b
      go_wp2_with fail
      refine (nextLeafS_eq hl2 H2.out HV.out).mono ?_
      rintro e w3 ⟨rfl, b⟩
      have B3 := hid (chain B2.out b)
      have H3 := hid (H2.out.next b)
      clear b
      go_wp2_with fail
      refine (nextLeafS_eq hl2 H3.out HV.out).mono ?_
      rintro e w4 ⟨rfl, b⟩
      have B4 := hid (chain B3.out b)
      have H4 := hid (H3.out.next b)
      clear b
      go_wp2_with fail
      go_ret
      exact ⟨rfl, B4.out⟩
    · obtain ⟨a, rfl, ha, v⟩ := atIn_nat hat
      have h0 : 0 < T.length := v.pos
      rcases nextLeaf_ex T a with ⟨d, hd, -⟩ | ⟨hno, -⟩
      · obtain ⟨K, hK⟩ : ∃ K, K = (a + d) % T.length := ⟨_, rfl⟩
        have hKn : K < T.length := by rw [hK]; exact Nat.mod_lt _ h0
        have HV := hid (show leafV T (a : Int) = (K : Int) by rw [leafV_in v ha, leafI_of hd, hK])
        have HKK := hid (show (boxAt T K).Kind = 0 by have := hd.2.2.1; unfold leafAt at this; rw [← hK] at this; simpa using this)
        have VV := hid v
        clear hat hd hK v
        obtain ⟨b0, off, x0, hA, -⟩ := H1.out.atBox ha
        subst hA
        go_wp2_with fail
        refine (nextLeaf_eq hl2 H1.out HV.out).mono ?_
        rintro e w2 ⟨rfl, b⟩
        have B2 := hid (chain B1.out b)
        have H2 := hid (H1.out.next b)
        clear b
        go_wp2_with fail
        refine (nextLeafS_eq hl2 H2.out HV.out).mono ?_
        rintro e w3 ⟨rfl, b⟩
        have B3 := hid (chain B2.out b)
        have H3 := hid (H2.out.next b)
        clear b
        go_wp2_with fail
        go_loopg [6, 7] T.length (fun gg s6 s7 wr => ∃ i n : Nat, i ≤ T.length ∧ T.length - i ≤ gg ∧ n < T.length ∧ s6 = .int .i64 n ∧ s7 = .int .i64 i ∧ Aside (LRel T K i n) ∧ Aside (Below w3.heap.size w3 wr))
        case atStart => exact ⟨0, K, Nat.zero_le _, by omega, hKn, rfl, rfl, lrel_zero hKn, Below.refl _ _⟩
        case round =>
          obtain ⟨i, n, hi, hgg, hnn, rfl, rfl, N, R⟩ := hrel
          have HW := hid (H3.out.next R.out)
          have BW := hid (chain B3.out R.out)
          by_cases hlt : i < T.length
          · obtain ⟨y, hy, hyb, -, e1, -⟩ := HW.out.litBox hlt
            have hye := boxAt_of hy
            have i1 : (0 : Int) ≤ (i : Int) := by omega
            have i2 : (i : Int) < (T.length : Int) := by omega
            by_cases hk0 : y.Kind = 0
            · obtain ⟨n', hn', hni, F⟩ := lrel_yes h0 N.out hlt (by rw [hye]; exact hk0)
              have FF : Aside (LRel T K (i + 1) n') := F
              have HVN := hid (show leafV T (n : Int) = (n' : Int) by rw [leafV_in VV.out hnn]; exact hni)
              have hkb : (y.Kind == 0) = true := by rw [beq_iff_eq]; exact hk0
              clear hy hye hk0 hni F N
              go_wp2_with fail
              refine (nextLeaf_eq hl2 HW.out HVN.out).mono ?_
              rintro e w9 ⟨rfl, b9⟩
              have R9 := hid (chain R.out b9)
              clear b9
              go_wp2_with fail
              go_roundg (T.length - (i + 1))
              case measure => omega
              case rel => exact ⟨i + 1, n', by omega, by omega, hn', rfl, by go_num, FF, R9.out⟩
            · have hkb : (y.Kind == 0) = false := by rw [beq_eq_false_iff_ne]; exact hk0
              have FF : Aside (LRel T K (i + 1) n) := lrel_no N.out (by rw [hye]; exact hkb)
              clear hy hye hk0 N
              go_wp2_with fail
              go_roundg (T.length - (i + 1))
              case measure => omega
              case rel => exact ⟨i + 1, n, by omega, by omega, hnn, rfl, by go_num, FF, R.out⟩
          · have hil : i = T.length := by omega
            obtain rfl : n = K := lrel_end h0 hKn HKK.out (by rw [← hil]; exact N.out)
            clear N hil
            go_wp2_with fail
            go_ret
            exact ⟨by first | rfl | (simp; done) | (simp; omega), BW.out⟩
      · have HV := hid (show leafV T (a : Int) = -1 by rw [leafV_in v ha, leafI_none hno])
        clear hat hno v
        go_wp2_with fail
        refine (nextLeaf_eq hl2 H1.out HV.out).mono ?_
        rintro e w2 ⟨rfl, b⟩
        have B2 := hid (chain B1.out b)
        have H2 := hid (H1.out.next b)
        clear b
        go_wp2_with fail
        refine (nextLeafS_eq hl2 H2.out HV.out).mono ?_
        rintro e w3 ⟨rfl, b⟩
        have B3 := hid (chain B2.out b)
        have H3 := hid (H2.out.next b)
        clear b
        go_wp2_with fail
        refine (nextLeafS_eq hl2 H3.out HV.out).mono ?_
        rintro e w4 ⟨rfl, b⟩
        have B4 := hid (chain B3.out b)
        have H4 := hid (H3.out.next b)
        clear b
        go_wp2_with fail
        go_ret
        exact ⟨rfl, B4.out⟩

#print axioms fnNextLeafAll_any
end Go.Proofs.Ytjomdcnelamefaa
