/- FnTakeTask, FnTaskOrderStep: the walks. -/
import Derived.Test.YthppgaglmgnocaaKB
import Derived.IntWalk
namespace Go.Proofs.Ythppgaglmgnocaa
set_option linter.unusedVariables false
set_option linter.unusedSimpArgs false
open Go.RowKit Go.Lib

theorem takeTo_split (L : List TaskD) (i : Nat) : takeT L = takeTo L (nextT L).Id i ++ ((L.drop i).filter fun t => !(t.Id == (nextT L).Id)).map olderT := by
  unfold takeTo takeT
  rw [← List.map_append, ← List.filter_append, List.take_append_drop]
theorem takeT_at {L : List TaskD} {i : Nat} {x : TaskD} (hx : L[i]? = some x) (hne : x.Id ≠ (nextT L).Id) : (takeT L)[(takeTo L (nextT L).Id i).length]? = some (olderT x) := by
  obtain ⟨hi, rfl⟩ := List.getElem?_eq_some_iff.1 hx
  rw [takeTo_split L i, List.getElem?_append_right (Nat.le_refl _), Nat.sub_self, List.drop_eq_getElem_cons hi, List.filter_cons, if_pos (by rw [Bool.not_eq_true', beq_eq_false_iff_ne]; exact hne)]
  rfl
theorem takeOk_some {L : List TaskD} (h : takeOk L = true) : validT L = true ∧ 0 < L.length ∧ takeV L = takeT L ∧ validT (takeT L) = true ∧ nextV L = (nextT L).Id := by
  obtain ⟨h1, h2⟩ := takeOk_iff.1 h
  exact ⟨h1, h2, by unfold takeV; rw [h]; rfl, take_valid h1, nextV_of h1 h2⟩

set_option maxRecDepth 100000 in
set_option maxHeartbeats 1000000 in
theorem fnTakeTask_any (A : Option Addr) (cap : Nat) (bs : List Int) (w : World) (h : Code w A cap bs) :
    Calls Try.prog 8 #[.slice A bs.length cap] w (Yes w) := by
  have hcap := h.cap1
  have hcap2 := h.cap2
  by_cases hbig : 1048576 < bs.length
  · clear h
    go_enter Try.func8, Try.ntmps8
    go_wp2
    go_ret
    exact ⟨rfl, Below.refl _ _⟩
  · have hd := drawTakeTask_any A cap bs w h
    clear h
    go_enter Try.func8, Try.ntmps8
    go_wp2_with fail
    refine hd.mono ?_
    rintro e w1 ⟨A3, c3, L, rfl, hL, hc1, hc2, o3, b1⟩
    have B1 := hid b1
    have H1 := hid (row_arr o3)
    have HI := hid (fun w h => takeTask_any A3 L c3 w (by omega) h)
    have HS := hid (fun w h => specTakeTask_any A3 L c3 w (by omega) h)
    have HN := hid (fun w h => nextTask_any A3 L c3 w (by omega) h)
    have hVl : (takeV L).length ≤ 11 := by
      unfold takeV
      split
      · unfold takeT
        rw [List.length_map]
        exact Nat.le_trans (List.length_filter_le _ _) hL
      · simp
    have HF := hid (fun h => takeOk_some (L := L) h)
    generalize takeV L = O at *
    generalize takeOk L = ok at *
    clear b1 o3 hd
    go_wp2_with fail
    refine (HI.out _ H1.out).mono ?_
    rintro e w2 ⟨A2, c2, rfl, -, -, o2, b2⟩
    have B2 := hid (chain B1.out b2)
    have H2 := hid (H1.out.next b2)
    have O2 := hid o2.arr
    clear b2 o2
    go_wp2_with fail
    refine (HS.out _ H2.out).mono ?_
    rintro e w3 ⟨A5, c5, rfl, -, -, o5, b3⟩
    have B3 := hid (chain B2.out b3)
    have H3 := hid (H2.out.next b3)
    have O3 := hid (O2.out.next b3)
    have O5 := hid o5.arr
    have HE := hid (fun w h h' => equalTasks_same A2 A5 O c2 c5 w (by omega) h h')
    clear b3 o5
    go_wp2_with fail
    refine (HE.out _ O3.out O5.out).mono ?_
    rintro e w4 ⟨rfl, b4⟩
    have B4 := hid (chain B3.out b4)
    have H4 := hid (H3.out.next b4)
    have O4 := hid (O3.out.next b4)
    have O54 := hid (O5.out.next b4)
    clear b4
    cases hok : ok
    · clear hok
      go_wp2_with fail
      refine (HE.out _ O4.out O54.out).mono ?_
      rintro e w5 ⟨rfl, b5⟩
      have B5 := hid (chain B4.out b5)
      clear b5
      go_wp2
      go_ret
      exact ⟨rfl, B5.out⟩
    · obtain ⟨hv, hl, hOT, hvt, hnx⟩ := HF.out hok
      have HV := hid hv
      have HOT := hid hOT.symm
      have HNX := hid hnx
      have HVT := hid (show validT O = true by rw [← HOT.out]; exact hvt)
      have HVO := hid (fun w h => validTasks_any A2 O c2 w (by omega) h)
      rw [HVT.out] at HVO
      clear hok hv hOT hvt hnx HF
      go_wp2_with fail
      refine (HN.out _ H4.out).mono ?_
      rintro e w5 ⟨rfl, b5⟩
      have B5 := hid (chain B4.out b5)
      have H5 := hid (H4.out.next b5)
      have O5' := hid (O4.out.next b5)
      clear b5
      rw [HNX.out]
      generalize hg : (nextT L).Id = g at *
      have HG := hid hg
      clear hg
      go_wp2
      go_loopg [9, 10] L.length (fun gg s9 s10 wr => ∃ (i k : Nat), i ≤ L.length ∧ L.length - i ≤ gg ∧ s10 = .int .i64 i ∧ s9 = .int .i64 k ∧ Aside (k = (takeTo L g i).length) ∧ Aside (Below w5.heap.size w5 wr))
      case atStart => exact ⟨0, 0, Nat.zero_le _, by omega, rfl, rfl, (show _ = _ by rw [takeTo_zero]; rfl), Below.refl _ _⟩
      case round =>
        obtain ⟨i, k, hi, hgg, rfl, rfl, K, R⟩ := hrel
        have hki := takeTo_len L g i
        rw [← K.out] at hki
        by_cases hlt : i < L.length
        · obtain ⟨p, off, x, rfl, hp, hx, d1, d2, d3⟩ := (H5.out.below R.out).atTask hlt
          have i1 : (0 : Int) ≤ (i : Int) := by omega
          have i2 : (i : Int) < (L.length : Int) := by omega
          have hstep := takeTo_next (g := g) hx
          obtain ⟨-, -, x5, x6⟩ := okT_iff.1 ((validT_iff.1 HV.out).2.1 x (List.mem_of_getElem? hx))
          by_cases hxg : x.Id = g
          · have hb : (x.Id == g) = true := by rw [beq_iff_eq]; exact hxg
            rw [hb, if_pos rfl] at hstep
            have HST := hid hstep
            clear hstep hxg hx
            go_wp2
            go_roundg (L.length - (i + 1))
            case measure => omega
            case rel => exact ⟨i + 1, k, by omega, by omega, by go_num, rfl, (show _ = _ by rw [HST.out]; exact K.out), R.out⟩
          · have hb : (x.Id == g) = false := by rw [beq_eq_false_iff_ne]; exact hxg
            have hat := takeT_at hx (by rw [HG.out]; exact hxg)
            rw [HG.out, HOT.out, ← K.out] at hat
            rw [hb, if_neg (by simp)] at hstep
            have HST := hid hstep
            have hkO : k < O.length := (List.getElem?_eq_some_iff.1 hat).1
            obtain ⟨p', off', y, rfl, hp', hy, c1, c2', c3'⟩ := (O5'.out.below R.out).atTask hkO
            have hyy := hy.symm.trans hat
            injection hyy with hyy
            have e1 : (y.Id == x.Id) = true := by rw [hyy]; simp [olderT]
            have e2 : (y.Rank == x.Rank) = true := by rw [hyy]; simp [olderT]
            have e3 : (y.Age == min (x.Age + 1) 20) = true := by rw [hyy]; simp [olderT]
            have s1 : IntKind.i64.wrap (x.Age + 1) = x.Age + 1 := IntWalk.i64_in _ (by omega)
            have j1 : (0 : Int) ≤ (k : Int) := by omega
            have j2 : (k : Int) < (O.length : Int) := by omega
            have j3 : decide (O.length ≤ k) = false := by simp; omega
            clear hyy hy hat hstep hxg hx
            go_wp2_with fail
            go_quiet (fail)
            go_wp2
            go_roundg (L.length - (i + 1))
            case measure => omega
            case rel => exact ⟨i + 1, k + 1, by omega, by omega, by go_num, by go_num, (show _ = _ by rw [HST.out, K.out]; simp), Below_drewN R.out _⟩
        · have hil : i = L.length := by omega
          have hkO : k = O.length := by rw [K.out, hil, ← HOT.out, ← HG.out, takeTo_all]
          have he : ((k : Int) == (O.length : Int)) = true := by rw [beq_iff_eq]; omega
          have he2 : (k == O.length) = true := by rw [beq_iff_eq]; exact hkO
          have B6 := hid (chain B5.out R.out)
          have O6 := hid (O5'.out.next R.out)
          clear hkO K R
          go_wp2_with fail
          refine (HVO.out _ O6.out).mono ?_
          rintro e w7 ⟨rfl, b7⟩
          have B7 := hid (chain B6.out b7)
          clear b7
          go_wp2
          go_ret
          exact ⟨rfl, B7.out⟩
end Go.Proofs.Ythppgaglmgnocaa
