/- The order of tasks: impl.TaskOrder, spec.TaskOrder. -/
import Derived.Test.YthppgaglmgnocaaK6
import Derived.Test.YthppgaglmgnocaaI
namespace Go.Proofs.Ythppgaglmgnocaa
set_option linter.unusedVariables false
set_option linter.unusedSimpArgs false
open Go.RowKit Go.Lib

theorem Arr.apart {α : Type} {w w' : World} {B k : Nat} {enc : α → List Value} {A : Option Addr} {L : List α} {row : Option Nat} (h : Arr w B k enc A L) (hB : B ≤ w.heap.size) (hg : w.grownBy w' row) (hne : ∀ a g, A = some a → row = some g → a.block ≠ g) : Arr w' B k enc A L := fun hn => by
  obtain ⟨b, off, e, hb, hc⟩ := h hn
  refine ⟨b, off, e, hb, fun i x hx j v hv => ?_⟩
  rw [← hc i x hx j v hv]
  exact World.cell?_of_block (hg.block b (by omega) (fun e2 => hne _ b e e2.symm rfl))

def orderV (L : List TaskD) : List Int := if validT L then orderT L else []

/-- The loop's relation: what is out, and the queue that is left. -/
def ORelK (w : World) (L : List TaskD) (M : List TaskD) (A0 : Option Addr) (pre : List Int) (A3 : Option Addr) (n3 c3 : Nat) (wr : World) : Prop :=
  n3 = pre.length ∧ pre.length + M.length = L.length ∧ orderT L = pre ++ orderT M ∧ validT M = true ∧ Arr wr wr.heap.size 3 encTask A0 M ∧
    wr.ownsRow w.heap.size 3 1 (.slice A3 n3 c3) n3 (pre.flatMap encI) ∧ (∀ a g, 0 < M.length → A0 = some a → (Value.slice A3 n3 c3).ownBlock = some g → a.block ≠ g) ∧ Below w.heap.size w wr

set_option maxHeartbeats 4000000 in
theorem taskOrder_any (A : Option Addr) (L : List TaskD) (c : Nat) (w : World) (hL : L.length ≤ 1048576) (h : Arr w w.heap.size 3 encTask A L) :
    Calls Try.prog 28 #[.slice A L.length c] w (Gives 1 encI (orderV L) w) := by
  have hv := validTasks_any A L c w hL h
  have H := hid h
  have e0 : orderV L = if validT L then orderT L else [] := rfl
  rw [e0]
  clear e0 h
  cases hq : validT L
  · rw [hq] at hv
    clear hq
    simp only [Bool.false_eq_true, if_false]
    go_enter Try.func28, Try.ntmps28
    go_wp2_with fail
    refine hv.mono ?_
    rintro e w1 ⟨rfl, hb1⟩
    have HB := hid hb1
    clear hb1
    go_wp2
    go_ret
    exact ⟨none, 0, rfl, by simp, by simp [maxLen], fun h => absurd h (by simp), HB.out⟩
  · have hl10 := (validT_iff.1 hq).1
    rw [hq] at hv
    have HQ := hid hq
    clear hq
    simp only [if_true]
    go_enter Try.func28, Try.ntmps28
    go_wp2_with fail
    refine hv.mono ?_
    rintro e w1 ⟨rfl, hb1⟩
    have HB := hid hb1
    have H1 := hid (H.out.next hb1)
    clear hb1
    go_wp2_with (first | (at_make; refine wpList_make0 _ eltIntK rfl _ (.tmp 8) rfl L.length rfl rfl (by omega) ?_; intro w4 own4 hb4) | fail)
    have R0 : Aside (ORelK w1 L L A [] (some ⟨w1.heap.size, 0, none⟩) 0 L.length w4) := by
      refine ⟨rfl, by simp, rfl, HQ.out, H1.out.next hb4, by simpa using own4, fun a g hn ha hg => ?_, hb4⟩
      obtain ⟨b, off, e, hb, -⟩ := H1.out hn
      rw [ha] at e
      injection e with e
      simp [Value.ownBlock] at hg
      rw [e, ← hg]
      simp
      omega
    clear own4 hb4
    go_wp2
    go_loopg [0, 3] L.length (fun gg s0 s3 wr => ∃ (M : List TaskD) (c0 : Nat) (A0 : Option Addr) (pre : List Int) (n3 c3 : Nat) (A3 : Option Addr), M.length ≤ gg ∧ M.length ≤ 10 ∧ s0 = .slice A0 M.length c0 ∧ s3 = .slice A3 n3 c3 ∧ Aside (ORelK w1 L M A0 pre A3 n3 c3 wr))
    case atStart => exact ⟨L, c, A, [], _, _, _, Nat.le_refl _, hl10, rfl, rfl, R0⟩
    case round =>
      obtain ⟨M, c0, A0, pre, n3, c3, A3, hgg, hm10, rfl, rfl, R⟩ := hrel
      clear R0
      obtain ⟨hn3, hpm, hord, hvm, harr, hown, hap, hbl⟩ := R.out
      have HN := hid hn3
      have HPM := hid hpm
      have HORD := hid hord
      have HVM := hid hvm
      have HA := hid harr
      have HO := hid hown
      have HAP := hid hap
      have HBL := hid hbl
      have hsz := hbl.size
      have hn : n3 ≤ 1000000 := by omega
      clear R hn3 hpm hord hvm harr hown hap hbl
      by_cases hl : 0 < M.length
      · have hc1 := next_any A0 M c0 wr (by omega) hl (validT_iff.1 HVM.out).2.1 HA.out
        have HC1 := hid hc1
        have HC2 := hid (fun W hW => taken_any A0 M c0 W (by omega) hl HVM.out hW)
        have hoc := orderT_cons HVM.out hl
        have hml := take_len HVM.out hl
        have hvt := take_valid HVM.out
        have HOC := hid hoc
        have HVT := hid hvt
        have hmi : ((M.length : Int) > 0) := by omega
        clear hc1 hoc hvt
        generalize nextT M = m at *
        generalize takeT M = M' at *
        have hf := fun w => field_id m.Id m.Rank m.Age w
        go_wp2_with fail
        refine HC1.out.mono ?_
        rintro e w2 ⟨rfl, b2⟩
        have HO2 := hid (row_next HO.out b2)
        have HB2 := hid (HBL.out.trans (b2.mono hsz))
        have HA2 := hid (HA.out.next b2)
        have hs2 : w1.heap.size ≤ w2.heap.size := HB2.out.size
        clear b2
        go_wp2_with (at_builtin; refine wpList_push eltIntK rfl (.tmp 13) (.tmp 17) rfl w1.heap.size _ n3 _ HO2.out hn hs2 _ _ rfl rfl rfl rfl (oc1 _) ?_; intro A8 c8 w8 own8 gr8 at8)
        have O8 := hid own8
        have HB8 := hid (HB2.out.grown gr8 hs2 (fun q hq => (HO2.out.lt q hq).1))
        have hs8 : w2.heap.size ≤ w8.heap.size := gr8.size
        have HA8 := hid ((HA2.out.apart (Nat.le_refl _) gr8 (fun a g ha hg => HAP.out a g hl ha hg)).more hs8)
        have hs18 : w1.heap.size ≤ w8.heap.size := HB8.out.size
        clear own8 gr8 at8
        go_wp2_with fail
        refine (HC2.out _ HA8.out).mono ?_
        rintro e w9 ⟨A9, c9, rfl, h91, h92, o9, b9⟩
        have F : Aside (ORelK w1 L M' A9 (pre ++ [m.Id]) A8 (n3 + 1) c8 w9) := by
          refine ⟨by rw [HN.out]; simp, by have := HPM.out; simp; omega, by rw [HORD.out, HOC.out]; simp, HVT.out, o9.arr, ?_, fun a g hn' ha hg => ?_, HB8.out.trans (b9.mono hs18)⟩
          · rw [List.flatMap_append]
            rw [show [m.Id].flatMap encI = encI m.Id from by simp]
            exact row_next O8.out b9
          · have h1 := o9.ge hn' a ha
            have h2 := (O8.out.lt g hg).2
            omega
        clear o9 b9
        go_wp2
        go_roundg M'.length
        case measure => omega
        case rel => exact ⟨M', c9, A9, pre ++ [m.Id], n3 + 1, c8, A8, Nat.le_refl _, by omega, rfl, rfl, F⟩
      · have hm0 : M.length = 0 := by omega
        have HM0 := hid hm0
        have hmi : ¬ ((M.length : Int) > 0) := by omega
        obtain ⟨hic1, hic2⟩ := slice_le HO.out
        have hord : orderT L = pre := by rw [HORD.out, List.eq_nil_of_length_eq_zero HM0.out, orderT_nil, List.append_nil]
        have HORD2 := hid hord
        clear hm0 hord
        go_wp2
        go_ret
        have hn' : n3 = (orderT L).length := by rw [HORD2.out, HN.out]
        refine ⟨A3, c3, by rw [← hn']; rfl, by rw [← hn']; exact hic1, by omega, ?_, chain HB.out HBL.out⟩
        have ho := HO.out
        rw [← HORD2.out] at ho
        exact (OwnA.of_rowN (enc := encI) (k := 1) (fun _ => rfl) hn' rfl ho).less HB.out.size
set_option maxHeartbeats 4000000 in
theorem specTaskOrder_any (A : Option Addr) (L : List TaskD) (c : Nat) (w : World) (hL : L.length ≤ 1048576) (h : Arr w w.heap.size 3 encTask A L) :
    Calls Try.prog 30 #[.slice A L.length c] w (Gives 1 encI (orderV L) w) := by
  have hv := fun W hW => specvalidTasks_any A L c W hL hW
  have H := hid h
  have K : ∀ o, Below w.heap.size w (w.alloc o) := fun o => (Below.refl _ _).alloc (Nat.le_refl _) _
  have HK := hid K
  clear K
  have e0 : orderV L = if validT L then orderT L else [] := rfl
  rw [e0]
  clear e0 h
  cases hq : validT L
  · rw [hq] at hv
    clear hq
    simp only [Bool.false_eq_true, if_false]
    go_enter Try.func30, Try.ntmps30
    go_wp2_with fail
    refine (hv _ ((H.out.below (HK.out _)).more (by simp))).mono ?_
    rintro e w1 ⟨rfl, hb1⟩
    have HB := hid ((HK.out _).trans (hb1.mono (by simp)))
    clear hb1
    go_wp2
    go_ret
    exact ⟨none, 0, rfl, by simp, by simp [maxLen], fun h => absurd h (by simp), HB.out⟩
  · have hl10 := (validT_iff.1 hq).1
    rw [hq] at hv
    have HQ := hid hq
    clear hq
    simp only [if_true]
    go_enter Try.func30, Try.ntmps30
    go_wp2_with fail
    refine (hv _ ((H.out.below (HK.out _)).more (by simp))).mono ?_
    rintro e w1 ⟨rfl, hb1⟩
    have R0 : Aside (ORelK w L L A [] (some ⟨w.heap.size, 0, none⟩) 0 0 w1) := by
      refine ⟨rfl, by simp, rfl, HQ.out, ((H.out.below (HK.out _)).more (by simp)).next hb1, ?_, fun a g hn ha hg => ?_, (HK.out _).trans (hb1.mono (by simp))⟩
      · exact row_next (World.ownsRow_made w #[] 0 (Nat.le_refl _) (by simp [maxLen]) rfl) hb1
      · obtain ⟨b, off, e, hb, -⟩ := H.out hn
        rw [ha] at e
        injection e with e
        simp [Value.ownBlock] at hg
        rw [e, ← hg]
        simp
        omega
    clear hb1
    go_wp2
    go_loopg [0, 3] L.length (fun gg s0 s3 wr => ∃ (M : List TaskD) (c0 : Nat) (A0 : Option Addr) (pre : List Int) (n3 c3 : Nat) (A3 : Option Addr), M.length ≤ gg ∧ M.length ≤ 10 ∧ s0 = .slice A0 M.length c0 ∧ s3 = .slice A3 n3 c3 ∧ Aside (ORelK w L M A0 pre A3 n3 c3 wr))
    case atStart => exact ⟨L, c, A, [], _, _, _, Nat.le_refl _, hl10, rfl, rfl, R0⟩
    case round =>
      obtain ⟨M, c0, A0, pre, n3, c3, A3, hgg, hm10, rfl, rfl, R⟩ := hrel
      clear R0
      obtain ⟨hn3, hpm, hord, hvm, harr, hown, hap, hbl⟩ := R.out
      have HN := hid hn3
      have HPM := hid hpm
      have HORD := hid hord
      have HVM := hid hvm
      have HA := hid harr
      have HO := hid hown
      have HAP := hid hap
      have HBL := hid hbl
      have hsz := hbl.size
      have hn : n3 ≤ 1000000 := by omega
      clear R hn3 hpm hord hvm harr hown hap hbl
      by_cases hl : 0 < M.length
      · have hc1 := nextAt_any A0 M c0 wr (by omega) hl (validT_iff.1 HVM.out).2.1 HA.out
        have HC1 := hid hc1
        have HC2 := hid (fun W hW => take_any A0 M c0 W (by omega) hl HVM.out hW)
        have hoc := orderT_cons HVM.out hl
        have hml := take_len HVM.out hl
        have hvt := take_valid HVM.out
        have HOC := hid hoc
        have HVT := hid hvt
        have hmi : ((M.length : Int) > 0) := by omega
        clear hc1 hoc hvt
        generalize nextT M = m at *
        generalize takeT M = M' at *
        go_wp2_with fail
        refine HC1.out.mono ?_
        rintro e w2 ⟨k, rfl, hk, hkm, b2⟩
        obtain ⟨b, off, y, hA0, hbb, hy, d1, d2, d3⟩ := (HA.out.next b2).atTask hk
        have hym := hy.symm.trans hkm
        injection hym with hym
        subst hym
        have i1 : (0 : Int) ≤ (k : Int) := by omega
        have i2 : (k : Int) < (M.length : Int) := by omega
        clear hkm hy
        have HO2 := hid (row_next HO.out b2)
        have HB2 := hid (HBL.out.trans (b2.mono hsz))
        have HA2 := hid (HA.out.next b2)
        have hs2 : w.heap.size ≤ w2.heap.size := HB2.out.size
        subst hA0
        clear b2
        go_wp2_with (at_builtin; refine wpList_push eltIntK rfl (.tmp 11) (.tmp 18) rfl w.heap.size _ n3 _ HO2.out hn hs2 _ _ rfl rfl rfl rfl (oc1 _) ?_; intro A8 c8 w8 own8 gr8 at8)
        have O8 := hid own8
        have HB8 := hid (HB2.out.grown gr8 hs2 (fun q hq => (HO2.out.lt q hq).1))
        have hs8 : w2.heap.size ≤ w8.heap.size := gr8.size
        have HA8 := hid ((HA2.out.apart (Nat.le_refl _) gr8 (fun a g ha hg => HAP.out a g hl ha hg)).more hs8)
        have hs18 : w.heap.size ≤ w8.heap.size := HB8.out.size
        clear own8 gr8 at8
        go_wp2_with fail
        refine (HC2.out _ HA8.out).mono ?_
        rintro e w9 ⟨A9, c9, rfl, h91, h92, o9, b9⟩
        have F : Aside (ORelK w L M' A9 (pre ++ [y.Id]) A8 (n3 + 1) c8 w9) := by
          refine ⟨by rw [HN.out]; simp, by have := HPM.out; simp; omega, by rw [HORD.out, HOC.out]; simp, HVT.out, o9.arr, ?_, fun a g hn' ha hg => ?_, HB8.out.trans (b9.mono hs18)⟩
          · rw [List.flatMap_append]
            rw [show [y.Id].flatMap encI = encI y.Id from by simp]
            exact row_next O8.out b9
          · have h1 := o9.ge hn' a ha
            have h2 := (O8.out.lt g hg).2
            omega
        clear o9 b9
        go_wp2
        go_roundg M'.length
        case measure => omega
        case rel => exact ⟨M', c9, A9, pre ++ [y.Id], n3 + 1, c8, A8, Nat.le_refl _, by omega, rfl, rfl, F⟩
      · have hm0 : M.length = 0 := by omega
        have HM0 := hid hm0
        have hmi : ¬ ((M.length : Int) > 0) := by omega
        obtain ⟨hic1, hic2⟩ := slice_le HO.out
        have hord : orderT L = pre := by rw [HORD.out, List.eq_nil_of_length_eq_zero HM0.out, orderT_nil, List.append_nil]
        have HORD2 := hid hord
        clear hm0 hord
        go_wp2
        go_ret
        have hn' : n3 = (orderT L).length := by rw [HORD2.out, HN.out]
        refine ⟨A3, c3, by rw [← hn']; rfl, by rw [← hn']; exact hic1, by omega, ?_, HBL.out⟩
        have ho := HO.out
        rw [← HORD2.out] at ho
        exact (OwnA.of_rowN (enc := encI) (k := 1) (fun _ => rfl) hn' rfl ho)
end Go.Proofs.Ythppgaglmgnocaa
