/- FnTaskOrder, FnTaskOrderStep: the walks. -/
import Derived.Test.YthppgaglmgnocaaK7
import Derived.Test.YthppgaglmgnocaaKA
namespace Go.Proofs.Ythppgaglmgnocaa
set_option linter.unusedVariables false
set_option linter.unusedSimpArgs false
open Go.RowKit Go.Lib

theorem orderV_len (L : List TaskD) : (orderV L).length ≤ 10 := by
  unfold orderV
  split
  · rename_i h
    rw [orderT_len]
    exact (validT_iff.1 h).1
  · simp
theorem orderV_some {L : List TaskD} (h : (orderV L).length ≠ 0) : validT L = true ∧ 0 < L.length ∧ orderV L = orderT L ∧ (orderV L).length = L.length := by
  unfold orderV at h ⊢
  cases e : validT L
  · rw [e] at h; simp at h
  · rw [e] at h
    simp only [if_true] at h ⊢
    rw [orderT_len] at h
    exact ⟨trivial, by omega, trivial, orderT_len L⟩
theorem nextV_of {L : List TaskD} (hv : validT L = true) (hl : 0 < L.length) : nextV L = (nextT L).Id := by
  unfold nextV
  cases L with
  | nil => simp at hl
  | cons x L => rw [hv]; rfl

set_option maxRecDepth 100000 in
set_option maxHeartbeats 1000000 in
theorem fnTaskOrder_any (A : Option Addr) (cap : Nat) (bs : List Int) (w : World) (h : Code w A cap bs) :
    Calls Try.prog 12 #[.slice A bs.length cap] w (Yes w) := by
  have hcap := h.cap1
  have hcap2 := h.cap2
  by_cases hbig : 1048576 < bs.length
  · clear h
    go_enter Try.func12, Try.ntmps12
    go_wp2
    go_ret
    exact ⟨rfl, Below.refl _ _⟩
  · have hd := drawTaskOrder_any A cap bs w h
    clear h
    go_enter Try.func12, Try.ntmps12
    go_wp2_with fail
    refine hd.mono ?_
    rintro e w1 ⟨A3, c3, L, rfl, hL, hc1, hc2, o3, b1⟩
    have B1 := hid b1
    have H1 := hid (row_arr o3)
    have HI := hid (fun w h => taskOrder_any A3 L c3 w (by omega) h)
    have HS := hid (fun w h => specTaskOrder_any A3 L c3 w (by omega) h)
    have HN := hid (fun w h => nextTask_any A3 L c3 w (by omega) h)
    have hlen := orderV_len L
    have hfact : (orderV L).length ≠ 0 → 0 < L.length ∧ (orderV L).length = L.length ∧ (orderV L)[0]? = some (nextV L) ∧ ∀ t ∈ L, (orderV L).contains t.Id = true := fun h0 => by
      obtain ⟨h1, h2, h3, h4⟩ := orderV_some h0
      refine ⟨h2, h4, ?_, fun t ht => ?_⟩
      · rw [h3, orderT_cons h1 h2, nextV_of h1 h2]; rfl
      · rw [List.contains_iff_mem, h3]
        exact orderN_ids _ _ rfl h1 t ht
    have HF := hid hfact
    generalize orderV L = O at *
    generalize nextV L = nv at *
    have hee : (nv == nv) = true := by simp
    clear b1 o3 hd hfact
    go_wp2_with fail
    refine (HI.out _ H1.out).mono ?_
    rintro e w2 ⟨A2, c2, rfl, -, -, o2, b2⟩
    have B2 := hid (chain B1.out b2)
    have H2 := hid (H1.out.next b2)
    have O2 := hid o2.arr
    clear b2 o2
    go_wp2_with fail
    refine (HS.out _ H2.out).mono ?_
    rintro e w3 ⟨A5, c5, rfl, -, -, o5, b3⟩
    have B3 := hid (chain B2.out b3)
    have H3 := hid (H2.out.next b3)
    have O3 := hid (O2.out.next b3)
    have he := equalInts_same A2 A5 O c2 c5 w3 (by omega) O3.out o5.arr
    have HE := hid he
    clear b3 o5 he
    go_wp2_with fail
    refine HE.out.mono ?_
    rintro e w4 ⟨rfl, b4⟩
    have B4 := hid (chain B3.out b4)
    have H4 := hid (H3.out.next b4)
    have O4 := hid (O3.out.next b4)
    clear b4
    by_cases h0 : O.length = 0
    · have h0' : ((O.length : Int) == 0) = true := by rw [beq_iff_eq]; omega
      have H0 := hid h0
      clear h0
      go_wp2_with fail
      refine (HS.out _ H4.out).mono ?_
      rintro e w5 ⟨A6, c6, rfl, -, -, o6, b5⟩
      have B5 := hid (chain B4.out b5)
      have he := equalInts_same A2 A6 O c2 c6 w5 (by omega) (O4.out.next b5) o6.arr
      have HE2 := hid he
      clear o6 b5 he
      go_wp2_with fail
      refine HE2.out.mono ?_
      rintro e w6 ⟨rfl, b6⟩
      have B6 := hid (chain B5.out b6)
      clear b6
      go_wp2
      go_ret
      exact ⟨rfl, B6.out⟩
    · have h0' : ((O.length : Int) == 0) = false := by rw [beq_eq_false_iff_ne]; omega
      obtain ⟨hl, hOL, hO0, hall⟩ := HF.out h0
      have HALL := hid hall
      have HO0 := hid hO0
      have HOL := hid hOL
      have hOp : 0 < O.length := by omega
      clear h0 hall hO0 HF hOL
      go_wp2
      go_loop [5] (fun s5 => ∃ i : Nat, i ≤ L.length ∧ s5 = .int .i64 i) (fun s5 => L.length - (intOf s5).toNat)
      case atStart => exact ⟨0, Nat.zero_le _, rfl⟩
      case round =>
        obtain ⟨i, hi, rfl⟩ := hrel
        by_cases hlt : i < L.length
        · obtain ⟨p, off, x, rfl, hp, hx, d1, d2, d3⟩ := H4.out.atTask hlt
          have hc := isIn_any A2 O c2 x.Id w4 (by omega) O4.out
          rw [HALL.out x (List.mem_of_getElem? hx)] at hc
          have HC := hid hc
          clear hc hx
          go_wp2_with fail
          refine HC.out.mono ?_
          rintro e w5 ⟨rfl, rfl⟩
          go_wp2
          go_round
          case measure => simp [intOf]; omega
          case rel => exact ⟨i + 1, by omega, by go_num⟩
        · have hl1 : ((O.length : Int) == (L.length : Int)) = true := by rw [beq_iff_eq]; have := HOL.out; omega
          have hl2 : (O.length == L.length) = true := by rw [beq_iff_eq]; exact HOL.out
          obtain ⟨p, off, y, rfl, hp, hy, cc⟩ := O4.out.at1 hOp
          simp only [Nat.add_zero] at cc
          have hyy := hy.symm.trans HO0.out
          injection hyy with hyy
          subst hyy
          have HNN := hid (HN.out w4.drew (show Arr w4 w4.heap.size 3 encTask A3 L from H4.out))
          have hOp' : (0 : Int) < (O.length : Int) := by omega
          clear hy
          go_wp2_with fail
          go_region_held3 (fun w' => w'.cell? ⟨p, off, none⟩ = some (.int .i64 y)) (go_keep)
            (((with_reducible refine HNN.out.mono ?_); rintro e w5 ⟨rfl, b5⟩; have k1 := (b5.cell (p := ⟨p, off, none⟩) hp).trans cc; have B5 := hid (below_undrew b5); clear b5; dsimp only))
          go_wp2
          go_ret
          exact ⟨rfl, chain B4.out B5.out⟩
end Go.Proofs.Ythppgaglmgnocaa
