/- FnNextLeafNone: the walk. Written by a program of ours. -/
import Derived.Test.YtjomdcnelamefaaB19
namespace Go.Proofs.Ytjomdcnelamefaa
set_option linter.unusedVariables false
set_option linter.unusedSimpArgs false
open Go.RowKit Go.Lib

/-- Is one of the first i boxes a leaf? -/
def SomeLeaf (T : List BoxD) (i : Nat) (b : Bool) : Prop := b = true ↔ ∃ j, j < i ∧ (boxAt T j).Kind = 0
theorem someLeaf_next {T : List BoxD} {i : Nat} {b : Bool} (h : SomeLeaf T i b) : SomeLeaf T (i + 1) (b || ((boxAt T i).Kind == 0)) := by
  unfold SomeLeaf at *
  rw [Bool.or_eq_true, h, beq_iff_eq]
  constructor
  · rintro (⟨j, h1, h2⟩ | h1)
    · exact ⟨j, by omega, h2⟩
    · exact ⟨i, by omega, h1⟩
  · rintro ⟨j, h1, h2⟩
    by_cases e : j = i
    · subst e; exact .inr h2
    · exact .inl ⟨j, by omega, h2⟩
theorem none_leaf {T : List BoxD} {a : Nat} {b : Bool} (h0 : 0 < T.length) (h : SomeLeaf T T.length b) : (nextLeafI T a == -1) = !b := by
  unfold SomeLeaf at h
  rcases nextLeaf_ex T a with ⟨d, hd, -⟩ | ⟨hno, -⟩
  · have hb : b = true := h.2 ⟨_, Nat.mod_lt (a + d) h0, by have := hd.2.2.1; unfold leafAt at this; simpa using this⟩
    rw [hb, leafI_of hd, Bool.not_true, beq_eq_false_iff_ne]
    omega
  · have hb : b = false := by
      rw [Bool.eq_false_iff]
      intro hb
      obtain ⟨j, h1, h2⟩ := h.1 hb
      obtain ⟨k, k1, k2, k3⟩ := (leaf_any (a := a) h0).2 ⟨j, h1, h2⟩
      rw [hno k k1 k2] at k3
      cases k3
    rw [hb, leafI_none hno]
    rfl
set_option maxRecDepth 100000 in
set_option maxHeartbeats 4000000 in
theorem fnNextLeafNone_any (A : Option Addr) (cap : Nat) (bs : List Int) (w : World) (h : Code w A cap bs) :
    Calls Try.prog 7 #[.slice A bs.length cap] w (Yes w) := by
  have hcap := h.cap1
  have hcap2 := h.cap2
  by_cases hbig : 1048576 < bs.length
  · clear h
    go_enter Try.func7, Try.ntmps7
    go_wp2
    go_ret
    exact ⟨rfl, Below.refl _ _⟩
  · have hd := drawNextLeaf_any A cap bs w h
    clear h
    go_enter Try.func7, Try.ntmps7
    go_wp2_with fail
    refine hd.mono ?_
    rintro e w1 ⟨A1, c1, T, x, rfl, hx, hl, hc1, hc2, ha, b1⟩
    have H1 := hid ha
    have B1 := hid b1
    have hl2 : T.length ≤ 1048576 := by omega
    clear ha b1 hd
    cases hat : atIn T x
    · have HV := hid (leafV_out hat)
      have HD := hid (depthV_out hat)
      clear hat
      go_wp2_with fail
      refine (nextLeaf_eq hl2 H1.out HV.out).mono ?_
      rintro e w2 ⟨rfl, b⟩
      have B2 := hid (chain B1.out b)
      have H2 := hid (H1.out.next b)
      clear b
      go_wp2_with fail
      refine (nextLeafS_eq hl2 H2.out HV.out).mono ?_
      rintro e w3 ⟨rfl, b⟩
      have B3 := hid (chain B2.out b)
      have H3 := hid (H2.out.next b)
      clear b
      go_wp2_with fail
      refine (depthOf_eq hl2 H3.out HD.out).mono ?_
      rintro e w4 ⟨rfl, b⟩
      have B4 := hid (chain B3.out b)
      have H4 := hid (H3.out.next b)
      clear b
      go_wp2_with fail
      refine (nextLeafS_eq hl2 H4.out HV.out).mono ?_
      rintro e w5 ⟨rfl, b⟩
      have B5 := hid (chain B4.out b)
      have H5 := hid (H4.out.next b)
      clear b
      go_wp2_with fail
      go_ret
      exact ⟨rfl, B5.out⟩
    · obtain ⟨a, rfl, ha, v⟩ := atIn_nat hat
      have h0 : 0 < T.length := v.pos
      obtain ⟨kk, hkk⟩ : ∃ kk, nextLeafI T a = kk := ⟨_, rfl⟩
      have HKK := hid hkk
      have HV := hid (show leafV T (a : Int) = kk by rw [leafV_in v ha]; exact hkk)
      obtain ⟨d, hd⟩ : ∃ d, (up T a).length = d + 1 := ⟨(up T a).length - 1, by have := up_len_pos T a; omega⟩
      have HD := hid (show depthV T (a : Int) = (d : Int) by rw [depthV_in v ha, hd]; omega)
      have hkn : (kk != kk) = false := by simp
      clear hat hkk hd v
      obtain ⟨b0, off, x0, hA, -⟩ := H1.out.atBox ha
      subst hA
      go_wp2_with fail
      refine (nextLeaf_eq hl2 H1.out HV.out).mono ?_
      rintro e w2 ⟨rfl, b⟩
      have B2 := hid (chain B1.out b)
      have H2 := hid (H1.out.next b)
      clear b
      go_wp2_with fail
      refine (nextLeafS_eq hl2 H2.out HV.out).mono ?_
      rintro e w3 ⟨rfl, b⟩
      have B3 := hid (chain B2.out b)
      have H3 := hid (H2.out.next b)
      clear b
      go_wp2_with fail
      refine (depthOf_eq hl2 H3.out HD.out).mono ?_
      rintro e w4 ⟨rfl, b⟩
      have B4 := hid (chain B3.out b)
      have H4 := hid (H3.out.next b)
      clear b
      go_wp2_with fail
      go_loopg [6, 7] T.length (fun gg s6 s7 wr => ∃ (i : Nat) (b : Bool), i ≤ T.length ∧ T.length - i ≤ gg ∧ s6 = .bool b ∧ s7 = .int .i64 i ∧ Aside (SomeLeaf T i b) ∧ Aside (wr = w4))
      case atStart => exact ⟨0, false, Nat.zero_le _, by omega, rfl, rfl, ⟨(fun h => by cases h), (fun ⟨j, h, _⟩ => absurd h (Nat.not_lt_zero _))⟩, rfl⟩
      case round =>
        obtain ⟨i, b, hi, hgg, rfl, rfl, N, R⟩ := hrel
        obtain rfl : wr = w4 := R.out
        clear R
        by_cases hlt : i < T.length
        · obtain ⟨y, hy, hyb, -, e1, -⟩ := H4.out.litBox hlt
          have F : Aside (SomeLeaf T (i + 1) (b || (y.Kind == 0))) := by have := someLeaf_next N.out; rw [boxAt_of hy] at this; exact this
          have i1 : (0 : Int) ≤ (i : Int) := by omega
          have i2 : (i : Int) < (T.length : Int) := by omega
          clear hy N
          cases b
          · rw [Bool.false_or] at F
            go_wp2_with fail
            go_roundg (T.length - (i + 1))
            case measure => omega
            case rel => exact ⟨i + 1, _, by omega, by omega, rfl, by go_num, F, rfl⟩
          · rw [Bool.true_or] at F
            go_wp2_with fail
            go_roundg (T.length - (i + 1))
            case measure => omega
            case rel => exact ⟨i + 1, true, by omega, by omega, rfl, by go_num, F, rfl⟩
        · have hil : i = T.length := by omega
          have hb := none_leaf (a := a) h0 (by rw [← hil]; exact N.out)
          rw [HKK.out] at hb
          clear N hil
          cases b
          · rw [Bool.not_false] at hb
            go_wp2_with fail
            go_ret
            exact ⟨by first | rfl | (simp; done) | (simp; omega), B4.out⟩
          · rw [Bool.not_true] at hb
            go_wp2_with fail
            go_ret
            exact ⟨by first | rfl | (simp; done) | (simp; omega), B4.out⟩

#print axioms fnNextLeafNone_any
end Go.Proofs.Ytjomdcnelamefaa
