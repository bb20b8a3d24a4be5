/- spec.FormatTree. -/
import Derived.Test.YtimpieddkkkgfaaDoorFB5
import Derived.Test.YtimpieddkkkgfaaDoorB9
namespace Go.Proofs.YtimpieddkkkgfaaDoor
set_option linter.unusedVariables false
set_option linter.unusedSimpArgs false
open Go.RowKit Go.Lib

theorem treeL_yes {T : List BoxD} (h : validB T = true) : treeL T = treeTo T T.length := by unfold treeL; rw [if_pos h]
theorem treeL_no {T : List BoxD} (h : validB T = false) : treeL T = [] := by unfold treeL; rw [h]; rfl
theorem dashL_len (n : Nat) : (dashL n).length = n := by simp [dashL]
theorem dashL_next (n : Nat) : dashL (n + 1) = dashL n ++ [45] := by
  unfold dashL
  rw [List.replicate_succ']

set_option maxHeartbeats 4000000 in
theorem specFormat_any (A : Option Addr) (T : List BoxD) (c : Nat) (w : World) (hL : T.length ≤ 1048576) (h : Arr w w.heap.size 9 encBox A T) :
    Calls Tryd.prog 5 #[.slice A T.length c] w (Texted (treeL T) w) := by
  have hv := specvalidTree_any A T c w hL h
  cases hok : validB T
  · rw [hok] at hv
    rw [treeL_no hok]
    clear h hok
    go_enter Tryd.func5, Tryd.ntmps5
    go_wp2_with fail
    refine hv.mono ?_
    rintro e w1 ⟨rfl, b1⟩
    have B1 := hid b1
    clear b1 hv
    go_wp2
    go_ret
    exact ⟨⟨#[]⟩, rfl, rfl, B1.out⟩
  · rw [hok] at hv
    rw [treeL_yes hok]
    obtain ⟨l1, l2⟩ := valid_len hok
    have VA := hid (fun i hi => valid_at (T := T) (i := i) hok hi)
    have DP := hid (fun i (hi : i < T.length) W hW => depthS_any A T c i W hL hi ((valid_desc hok).less (by omega)) hW)
    have TX := hid (fun x W hs => boxText_any x W hs)
    have TL := hid (treeTo_len hok)
    have LL := hid (fun i hi => lineL_len (T := T) (i := i) hok hi)
    have H := hid h
    clear h hok
    go_enter Tryd.func5, Tryd.ntmps5
    go_wp2_with fail
    refine hv.mono ?_
    rintro e w1 ⟨rfl, b1⟩
    have B1 := hid b1
    clear b1 hv
    go_wp2
    go_loopg [3, 4, 5] T.length (fun gg s3 s4 _ wr => ∃ (i : Nat) (s : ByteArray), i ≤ T.length ∧ T.length - i ≤ gg ∧ s3 = .string s ∧ s4 = .int .i64 i ∧ Aside (bl s = treeTo T i) ∧ Aside (Below w.heap.size w wr))
    case atStart => exact ⟨0, _, Nat.zero_le _, by omega, rfl, rfl, (show _ = _ from rfl), B1.out⟩
    case round =>
      obtain ⟨wo, hwo⟩ : ∃ wo : World, wo = wr := ⟨_, rfl⟩
      subst hwo
      obtain ⟨i, s, hi, hgg, rfl, rfl, SB, R⟩ := hrel
      by_cases hlt : i < T.length
      · have ln := TL.out i hi
        rw [← SB.out] at ln
        have i0 : (0 : Int) ≤ (i : Int) := by omega
        obtain ⟨b, off, x, rfl, hb, hx, d0, d1, d2, d3, d4, d5, d6, d7, d8⟩ := (H.out.below R.out).atBox hlt
        have hxb := boxAt_of hx
        obtain ⟨va1, va2, va3⟩ := VA.out i hlt
        rw [hxb] at va1
        have TXX := hid (fun W => TX.out x W va1)
        have LN : Aside (lineL T i = dashL (deepN T i) ++ textL x) := by show _ = _; unfold lineL; rw [hxb]
        have dp := DP.out i hlt wo (H.out.next R.out)
        have hD : ((up T i).length : Int) - 1 = ((deepN T i : Nat) : Int) := by unfold deepN; omega
        have hD6 : deepN T i ≤ 6 := by unfold deepN; omega
        rw [hD] at dp
        have TXL := hid (textL_len va1)
        clear hx hxb va1 va2 va3 hD
        generalize deepN T i = D at *
        obtain ⟨P, s1, S1, NX, LP, hcase⟩ : ∃ (P : List UInt8) (s1 : ByteArray), Hid (bl s1 = P) ∧ Hid (treeTo T (i + 1) = P ++ lineL T i) ∧ P.length ≤ 40000 ∧ ((i = 0 ∧ s1 = s) ∨ (0 < i ∧ ∀ W, (Op.stringOp .add s ⟨#[10]⟩).run Tryd.prog W = .ok (.string s1) W)) := by
          rcases Nat.eq_zero_or_pos i with h0 | h0
          · subst h0
            exact ⟨[], s, by have := SB.out; rw [treeTo_zero] at this; exact this, by show _ = _; rw [treeTo_one]; rfl, by simp, .inl ⟨rfl, rfl⟩⟩
          · obtain ⟨t, T1, a1⟩ := cat_run (P := Tryd.prog) s ⟨#[10]⟩ (by have : (bl ⟨#[10]⟩).length = 1 := rfl; omega)
            exact ⟨treeTo T i ++ [10], t, by show _ = _; rw [T1.out, SB.out]; rfl, by show _ = _; rw [treeTo_next h0], by rw [List.length_append, ← SB.out, List.length_singleton]; omega, .inr ⟨h0, a1⟩⟩
        have D0 := hid (And.intro d0 (And.intro d1 (And.intro d2 (And.intro d3 (And.intro d4 (And.intro d5 (And.intro d6 (And.intro d7 d8))))))))
        have BW := hid R.out
        clear ln d0 d1 d2 d3 d4 d5 d6 d7 d8 R
        have hcase2 : ((¬ (0 : Int) < (i : Int) ∧ ¬ 0 < i) ∧ s1 = s) ∨ (0 < i ∧ ∀ W, (Op.stringOp .add s ⟨#[10]⟩).run Tryd.prog W = .ok (.string s1) W) := by
          rcases hcase with ⟨h0, h1⟩ | h
          · exact .inl ⟨⟨by omega, by omega⟩, h1⟩
          · exact .inr h
        clear hcase
        rcases hcase2 with ⟨⟨g1, g2⟩, rfl⟩ | ⟨h0, a1⟩
        all_goals
          go_wp2_with fail
          refine dp.mono ?_
          rintro e w' ⟨rfl, rfl⟩
          go_wp2
          go_loopg [3, 5] D (fun gg s3 s5 wr => ∃ (j : Nat) (s : ByteArray), j ≤ D ∧ j ≤ gg ∧ s3 = .string s ∧ s5 = .int .i64 j ∧ Aside (bl s = P ++ dashL (D - j)) ∧ Aside (wr = wo))
          case atStart => exact ⟨D, s1, Nat.le_refl _, Nat.le_refl _, rfl, rfl, (show _ = _ by rw [S1.out, Nat.sub_self]; simp [dashL]), rfl⟩
          case round =>
            obtain ⟨j, s, hj, hgg2, rfl, rfl, SB2, W2⟩ := hrel
            obtain rfl := W2.out
            by_cases hj0 : 0 < j
            · obtain ⟨t, T1, b1⟩ := cat_run (P := Tryd.prog) s ⟨#[45]⟩ (by rw [SB2.out, List.length_append, dashL_len]; have : (bl ⟨#[45]⟩).length = 1 := rfl; omega)
              have F : Aside (bl t = P ++ dashL (D - (j - 1))) := by
                show _ = _
                rw [T1.out, SB2.out, show D - (j - 1) = D - j + 1 by omega, dashL_next, ← List.append_assoc]
                rfl
              have hjp : (0 : Int) < (j : Int) := by omega
              go_wp2
              go_roundg (j - 1)
              case measure => omega
              case rel => exact ⟨j - 1, t, by omega, Nat.le_refl _, rfl, by go_num, F, rfl⟩
            · obtain rfl : j = 0 := by omega
              obtain ⟨d0, d1, d2, d3, d4, d5, d6, d7, d8⟩ := D0.out
              go_wp2_with fail
              refine (TXX.out _).mono ?_
              rintro e w3 ⟨s3, rfl, hs3, hb3⟩
              obtain ⟨t, T1, b1⟩ := cat_run (P := Tryd.prog) s s3 (by rw [SB2.out, List.length_append, dashL_len, hs3]; have := TXL.out; omega)
              have F : Aside (bl t = treeTo T (i + 1)) := by
                show _ = _
                rw [T1.out, SB2.out, hs3, NX.out, LN.out, Nat.sub_zero, List.append_assoc]
              have HB3 := hid (chain BW.out hb3)
              clear hs3 hb3
              go_wp2
              go_roundg (T.length - (i + 1))
              case measure => omega
              case rel => exact ⟨i + 1, t, by omega, by omega, rfl, by go_num, F, HB3.out⟩
      · obtain rfl : i = T.length := by omega
        go_wp2
        go_ret
        exact ⟨s, rfl, SB.out, R.out⟩
end Go.Proofs.YtimpieddkkkgfaaDoor
