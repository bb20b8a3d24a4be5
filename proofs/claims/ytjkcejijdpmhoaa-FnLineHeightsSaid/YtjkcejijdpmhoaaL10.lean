/- FnLineHeights: the walk. -/
import Derived.Test.YtjkcejijdpmhoaaH4
namespace Go.Proofs.Ytjkcejijdpmhoaa
open Go.RowKit Go.Lib

theorem heights_ok {L : List (Int × Int)} {x y : Int} (h : (heightsOf L x y).length ≠ 0) : okL L x y = true := by
  cases e : okL L x y with
  | true => rfl
  | false => exact absurd (by simp [heightsOf, e]) h
theorem heights_cnt (L : List (Int × Int)) (x y : Int) : (heightsOf L x y).length = (countsOf L x y).length := by
  unfold heightsOf countsOf
  split
  · exact talls_cnt x y L
  · rfl
theorem heights_len {L : List (Int × Int)} {x y : Int} (hL : L.length ≤ 13) : (heightsOf L x y).length ≤ 13 := by
  rw [heights_cnt]
  exact counts_len hL

set_option maxHeartbeats 4000000 in
theorem fnLineHeights_any (A : Option Addr) (cap : Nat) (bs : List Int) (w : World) (h : Code w A cap bs) :
    Calls Try.prog 12 #[.slice A bs.length cap] w (Yes w) := by
  have hcap := h.cap1
  have hcap2 := h.cap2
  by_cases hbig : 1048576 < bs.length
  · clear h
    go_enter Try.func12, Try.ntmps12
    go_wp2
    go_ret
    exact ⟨rfl, Below.refl _ _⟩
  · have hd := drawLineHeights_any A cap bs w h
    clear h
    go_enter Try.func12, Try.ntmps12
    go_wp2_with fail
    refine hd.mono ?_
    rintro e w1 ⟨A', c, L, x, y, rfl, hL, hc1, hc2, o1, b1⟩
    have B1 := hid b1
    have H1 := hid o1.arr
    have HLH := hid (fun w h => lineHeights_any A' L c x y w (by omega) hc1 hc2 h)
    have HLC := hid (fun w h => lineCounts_any A' L c x y w (by omega) hc1 hc2 h)
    have HS := hid (fun w h => specLineHeights_any A' L c x y w (by omega) h)
    have hTl := heights_len (x := x) (y := y) hL
    have hTC := heights_cnt L x y
    have hOK := heights_ok (L := L) (x := x) (y := y)
    have hTe : okL L x y = true → heightsOf L x y = talls x y L := fun h => by rw [heightsOf, if_pos h]
    have hCe : okL L x y = true → countsOf L x y = cnt x y L := fun h => by rw [countsOf, if_pos h]
    generalize heightsOf L x y = T at *
    generalize countsOf L x y = C at *
    have HOK := hid hOK
    have HTE := hid hTe
    have HCE := hid hCe
    have hlc := HLH.out w1 H1.out
    have hCT : (C.length : Int) = (T.length : Int) := by omega
    rw [hTC] at hTl
    have HTC := hid hTC
    clear hOK hTe hCe b1 o1 hd hTC
    go_wp2_with fail
    refine hlc.mono ?_
    rintro e w2 ⟨A2, c2, rfl, -, -, o2, b2⟩
    have B2 := hid (chain B1.out b2)
    have H2 := hid (H1.out.next b2)
    have O2 := hid o2.arr
    have hsc := HLC.out w2 H2.out
    clear b2 o2 hlc
    go_wp2_with fail
    refine hsc.mono ?_
    rintro e w3 ⟨A3, c3, rfl, -, -, o3, b3⟩
    have B3 := hid (chain B2.out b3)
    have H3 := hid (H2.out.next b3)
    have T3 := hid (O2.out.next b3)
    have C3 := hid o3.arr
    have hss := HS.out w3 H3.out
    clear b3 o3 hsc
    go_wp2_with fail
    refine hss.mono ?_
    rintro e w4 ⟨A4, c4, rfl, -, -, o4, b4⟩
    have B4 := hid (chain B3.out b4)
    have H4 := hid (H3.out.next b4)
    have T4 := hid (T3.out.next b4)
    have C4 := hid (C3.out.next b4)
    have heq := equalInts_same A2 A4 T c2 c4 w4 (by rw [HTC.out]; omega) T4.out o4.arr
    clear b4 o4 hss
    have hnn : ((C.length : Int) != (C.length : Int)) = false := by simp
    have hee : ((C.length : Int) == (C.length : Int)) = true := by simp
    rw [HTC.out]
    rw [HTC.out] at heq
    clear hCT
    by_cases h0 : C.length = 0
    · have h0' : ((C.length : Int) == 0) = true := by rw [beq_iff_eq]; omega
      have HZ := hid h0
      clear h0
      go_wp2_with fail
      refine heq.mono ?_
      rintro e w5 ⟨rfl, b5⟩
      have B5 := hid (chain B4.out b5)
      have T5 := hid (T4.out.next b5)
      have hss := HS.out w5 (H4.out.next b5)
      clear b5 heq
      go_wp2_with fail
      refine hss.mono ?_
      rintro e w6 ⟨A6, c6, rfl, -, -, o6, b6⟩
      have B6 := hid (chain B5.out b6)
      have heq := equalInts_same A2 A6 T c2 c6 w6 (by rw [HTC.out]; omega) (T5.out.next b6) o6.arr
      rw [HTC.out] at heq
      rw [HTC.out]
      clear b6 o6 hss
      go_wp2_with fail
      refine heq.mono ?_
      rintro e w7 ⟨rfl, b7⟩
      have B7 := hid (chain B6.out b7)
      clear b7 heq
      go_wp2
      go_ret
      exact ⟨rfl, B7.out⟩
    · have h0' : ((C.length : Int) == 0) = false := by rw [beq_eq_false_iff_ne]; omega
      have hok := HOK.out (by rw [HTC.out]; exact h0)
      have hCe := HCE.out hok
      have hTe := HTE.out hok
      have hsum : C.sum = (L.length : Int) := by rw [hCe]; exact cnt_sum x y L
      have hCb : ∀ q ∈ C, 0 ≤ q ∧ q ≤ 1000000 := fun q hq => by rw [hCe] at hq; have := cnt_le hq; omega
      have hCL : C.length = (lines x y L).length := by rw [hCe]; simp [cnt]
      have HCL := hid hCL
      have CE := hid hCe
      have TE := hid hTe
      have HSUM := hid hsum
      have HCB := hid hCb
      have hLL : ((L.length : Int) != (L.length : Int)) = false := by simp
      have HV := hid (validL_iff.1 (okL_bd hok).1).2
      clear h0 hok hCe hTe hsum hCb hCL HOK HTE HCE
      go_wp2_with fail
      refine heq.mono ?_
      rintro e w5 ⟨rfl, b5⟩
      have B5 := hid (chain B4.out b5)
      have H5 := hid (H4.out.next b5)
      have T5 := hid (T4.out.next b5)
      have C5 := hid (C4.out.next b5)
      have hsu := sum_any A3 C c3 w5 (by omega) HCB.out C5.out
      rw [HSUM.out] at hsu
      clear b5 heq
      go_wp2_with fail
      refine hsu.mono ?_
      rintro e w6 ⟨rfl, rfl⟩
      clear hsu
      go_wp2
      go_loopg [8, 9] C.length (fun gg s8 s9 wr => ∃ i : Nat, i ≤ C.length ∧ C.length - i ≤ gg ∧ s9 = .int .i64 i ∧ s8 = .int .i64 (st (lines x y L) i) ∧ Aside (Below w5.heap.size w5 wr))
      case atStart => exact ⟨0, Nat.zero_le _, by omega, rfl, rfl, Below.refl _ _⟩
      case round =>
        obtain ⟨i, hi, hgg, rfl, rfl, R⟩ := hrel
        by_cases hlt : i < C.length
        · have hl := List.getElem?_eq_getElem (show i < (lines x y L).length by rw [← HCL.out]; exact hlt)
          generalize (lines x y L)[i]'(by rw [← HCL.out]; exact hlt) = l at hl
          obtain ⟨g, go, ci, rfl, hg, hci, -⟩ := C5.out.at1 hlt
          have hlc : ci = (l.length : Int) := by
            have := cnt_at hl
            rw [← CE.out, hci] at this
            injection this
          subst hlc
          have hlt' : i < T.length := by rw [HTC.out]; exact hlt
          obtain ⟨g2, go2, ti, rfl, hg2, hti, -⟩ := T5.out.at1 hlt'
          have htl : ti = tall l := by
            have e : (talls x y L)[i]? = some (tall l) := by unfold talls; rw [List.getElem?_map, hl]; rfl
            rw [← TE.out, hti] at e
            injection e
          have hokl := lines_ok HV.out l (List.mem_of_getElem? hl)
          obtain ⟨hl1, hl2⟩ := lines_pos (List.mem_of_getElem? hl)
          have hst := st_next hl
          have hstl := st_le hl
          have HL := hid hl
          have HOKL := hid hokl
          have HST := hid hst
          have HTI := hid htl
          have HCI := hid hci
          have HTT := hid hti
          clear hl hokl hst hci hti htl
          generalize hga : st (lines x y L) i = a at hstl HST
          have HGA := hid hga
          clear hga
          go_wp2
          go_loopg [8, 10, 11] l.length (fun gg s8 s10 s11 wr => ∃ (k : Nat) (sm : Bool), k ≤ l.length ∧ l.length - k ≤ gg ∧ s8 = .int .i64 ((a + k : Nat) : Int) ∧ s10 = .bool sm ∧ s11 = .int .i64 k ∧ Aside (sm = (l.take k).any fun p => p.2 == ti) ∧ Aside (Below w5.heap.size w5 wr))
          case atStart => exact ⟨0, false, Nat.zero_le _, by omega, rfl, rfl, rfl, (show _ = _ by simp), R.out⟩
          case round =>
            obtain ⟨k, sm, hk, hgk, rfl, rfl, rfl, S, R2⟩ := hrel
            obtain ⟨x', hx', q1, hgb⟩ := (C5.out.below R2.out).lit1 hlt
            have e := HCI.out.symm.trans hx'
            injection e with e
            subst e
            clear hx'
            by_cases hkl : k < l.length
            · have hat : a + k < L.length := by omega
              obtain ⟨x', hx', q2, hgb2⟩ := (T5.out.below R2.out).lit1 hlt'
              have e := HTT.out.symm.trans hx'
              injection e with e
              subst e
              clear hx'
              obtain ⟨b, off, u, v, rfl, hb, hx, r1, r2⟩ := (H5.out.below R2.out).at2 hat
              have hlk : l[k]? = some (u, v) := by
                have h1 := line_at HL.out hkl
                rw [HGA.out, hx] at h1
                exact h1.symm
              have hv : v ≤ ti := by rw [HTI.out]; exact tall_mem _ (List.mem_of_getElem? hlk)
              have HLK := hid hlk
              clear hx hlk
              have i1 : (0 : Int) ≤ ((a + k : Nat) : Int) := by omega
              have i2 : ((a + k : Nat) : Int) < (L.length : Int) := by omega
              have i3 : (0 : Int) ≤ (i : Int) := by omega
              have i4 : (i : Int) < (T.length : Int) := by omega
              have hgt : decide (v > ti) = false := by simp; omega
              cases hsm : sm with
              | true =>
                have S1 : Aside (true = (l.take (k + 1)).any fun p => p.2 == ti) := by
                  show _ = _
                  rw [take_next HLK.out, List.any_append, ← S.out, hsm]
                  rfl
                clear S
                go_wp2_with fail
                go_quiet (fail)
                go_wp2_with fail
                go_quiet (fail)
                go_wp2
                go_roundg (l.length - (k + 1))
                case measure => omega
                case rel => exact ⟨k + 1, true, by omega, by omega, by go_num, rfl, by go_num, S1, Below_drewN R2.out _⟩
              | false =>
                have S1 : Aside ((v == ti) = (l.take (k + 1)).any fun p => p.2 == ti) := by
                  show _ = _
                  rw [take_next HLK.out, List.any_append, ← S.out, hsm]
                  simp
                clear S
                go_wp2_with fail
                go_quiet (fail)
                go_wp2_with fail
                go_quiet (fail)
                go_wp2
                go_roundg (l.length - (k + 1))
                case measure => omega
                case rel => exact ⟨k + 1, v == ti, by omega, by omega, by go_num, rfl, by go_num, S1, Below_drewN R2.out _⟩
            · have hkl' : k = l.length := by omega
              have hsm : sm = true := by
                rw [S.out, hkl', List.take_length, List.any_eq_true]
                obtain ⟨p, hp, he⟩ := tall_some HOKL.out hl1
                exact ⟨p, hp, by rw [he, HTI.out]; simp⟩
              subst hkl' hsm
              go_wp2
              go_roundg (C.length - (i + 1))
              case measure => omega
              case rel => exact ⟨i + 1, by omega, by omega, by go_num, by rw [HST.out], R2.out⟩
        · have hiC : i = C.length := by omega
          subst hiC
          have HR := hid R.out
          clear R
          go_wp2
          go_ret
          exact ⟨rfl, chain B5.out HR.out⟩
end Go.Proofs.Ytjkcejijdpmhoaa
