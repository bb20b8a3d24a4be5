/- FnTaskOrderStep: the walk. -/
import Derived.Test.YthppgaglmgnocaaKE
namespace Go.Proofs.Ythppgaglmgnocaa
open Go.RowKit Go.Lib

theorem equalInts_n (A A' : Option Addr) (C : List Int) (n n' c c' : Nat) (w : World) (hn : n = C.length) (hn' : n' = C.length) (hL : C.length ≤ 1048576) (h : Arr w w.heap.size 1 encI A C) (h' : Arr w w.heap.size 1 encI A' C) :
    Calls Try.prog 29 #[.slice A n c, .slice A' n' c'] w fun e w' => e = .returned (.bool true) ∧ Below w.heap.size w w' := by
  subst hn hn'
  exact equalInts_same A A' C c c' w hL h h'

set_option maxRecDepth 100000 in
set_option maxHeartbeats 1000000 in
theorem fnTaskOrderStep_any (A : Option Addr) (cap : Nat) (bs : List Int) (w : World) (h : Code w A cap bs) :
    Calls Try.prog 11 #[.slice A bs.length cap] w (Yes w) := by
  have hcap := h.cap1
  have hcap2 := h.cap2
  by_cases hbig : 1048576 < bs.length
  · clear h
    go_enter Try.func11, Try.ntmps11
    go_wp2
    go_ret
    exact ⟨rfl, Below.refl _ _⟩
  · have hd := drawTaskOrder_any A cap bs w h
    clear h
    go_enter Try.func11, Try.ntmps11
    go_wp2_with fail
    refine hd.mono ?_
    rintro e w1 ⟨A3, c3, L, rfl, hL, hc1, hc2, o3, b1⟩
    have B1 := hid b1
    have H1 := hid (row_arr o3)
    have HI := hid (fun w h => taskOrder_any A3 L c3 w (by omega) h)
    have HS := hid (fun w h => specTaskOrder_any A3 L c3 w (by omega) h)
    have HT := hid (fun w h => takeTask_any A3 L c3 w (by omega) h)
    have hlen := orderV_len L
    have hfact : (orderV L).length ≠ 0 → takeOk L = true ∧ (takeV L).length ≤ 10 ∧ orderV (takeV L) = (orderV L).drop 1 := fun h0 => by
      obtain ⟨h1, h2, h3, h4⟩ := orderV_some h0
      have hk := takeOk_iff.2 ⟨h1, h2⟩
      obtain ⟨-, -, k3, k4, -⟩ := takeOk_some hk
      refine ⟨hk, ?_, ?_⟩
      · rw [k3]; exact (validT_iff.1 k4).1
      · rw [k3, h3, orderT_cons h1 h2]
        unfold orderV
        rw [k4]
        rfl
    have HF := hid hfact
    generalize orderV L = O at *
    clear b1 o3 hd hfact
    go_wp2_with fail
    refine (HI.out _ H1.out).mono ?_
    rintro e w2 ⟨A2, c2, rfl, hc21, -, o2, b2⟩
    have B2 := hid (chain B1.out b2)
    have H2 := hid (H1.out.next b2)
    have O2 := hid o2.arr
    clear b2 o2
    go_wp2_with fail
    refine (HS.out _ H2.out).mono ?_
    rintro e w3 ⟨A5, c5, rfl, -, -, o5, b3⟩
    have B3 := hid (chain B2.out b3)
    have H3 := hid (H2.out.next b3)
    have O3 := hid (O2.out.next b3)
    have he := equalInts_same A2 A5 O c2 c5 w3 (by omega) O3.out o5.arr
    have HE := hid he
    clear b3 o5 he
    go_wp2_with fail
    refine HE.out.mono ?_
    rintro e w4 ⟨rfl, b4⟩
    have B4 := hid (chain B3.out b4)
    have H4 := hid (H3.out.next b4)
    have O4 := hid (O3.out.next b4)
    clear b4
    by_cases h0 : O.length = 0
    · have h0' : ((O.length : Int) == 0) = true := by rw [beq_iff_eq]; omega
      have H0 := hid h0
      clear h0
      go_wp2_with fail
      refine (HS.out _ H4.out).mono ?_
      rintro e w5 ⟨A6, c6, rfl, -, -, o6, b5⟩
      have B5 := hid (chain B4.out b5)
      have he := equalInts_same A2 A6 O c2 c6 w5 (by omega) (O4.out.next b5) o6.arr
      have HE2 := hid he
      clear o6 b5 he
      go_wp2_with fail
      refine HE2.out.mono ?_
      rintro e w6 ⟨rfl, b6⟩
      have B6 := hid (chain B5.out b6)
      clear b6
      go_wp2
      go_ret
      exact ⟨rfl, B6.out⟩
    · have h0' : ((O.length : Int) == 0) = false := by rw [beq_eq_false_iff_ne]; omega
      obtain ⟨hk, hM, hord⟩ := HF.out h0
      have HORD := hid hord
      have hOp : 1 ≤ O.length := by omega
      have hOp2 : (1 : Int) ≤ (O.length : Int) := by omega
      have hld : O.length - 1 = (O.drop 1).length := by rw [List.length_drop]
      rw [hk] at HT
      have HLD := hid hld
      clear h0 hk hord HF hld
      generalize takeV L = M at *
      go_wp2_with fail
      refine (HT.out _ H4.out).mono ?_
      rintro e w5 ⟨A6, c6, rfl, -, -, o6, b5⟩
      have B5 := hid (chain B4.out b5)
      have O5 := hid (O4.out.next b5)
      have H5 := hid o6.arr
      have HO := hid (fun w h => taskOrder_any A6 M c6 w (by omega) h)
      rw [HORD.out] at HO
      have OD := hid (fun (W : World) (hW : Below w5.heap.size w5 W) => ((O5.out.drop hc21 1).below hW).more hW.size)
      have hDl : (O.drop 1).length ≤ 10 := by rw [List.length_drop]; omega
      have od : ∀ W, Below w5.heap.size w5 W → Arr W W.heap.size 1 encI (if c2 = 1 then A2 else Option.map (fun x => { block := x.block, off := x.off + 1 }) A2) (O.drop 1) := fun W hW => ((O5.out.drop hc21 1).below hW).more hW.size
      have OD := hid od
      clear b5 o6 od
      generalize O.drop 1 = D at *
      have HEQ := hid (fun A7 c7 W h h' => equalInts_n A7 (if c2 = 1 then A2 else Option.map (fun x => { block := x.block, off := x.off + 1 }) A2) D D.length (O.length - 1) c7 (c2 - 1) W rfl HLD.out (by omega) h h')
      have HO2 := hid (HO.out w5.drew (show Arr w5.drew w5.drew.heap.size 3 encTask A6 M from H5.out))
      clear HO
      go_wp2_with fail
      go_region_held3 (fun w' => True) (trivial)
        (first
          | ((with_reducible refine (HO2.out).mono ?_); rintro e w6 ⟨A7, c7, rfl, -, -, o7, b6⟩; have B6 := hid (show Below w5.heap.size w5 w6 from below_undrew b6); have HE7 := hid (HEQ.out A7 c7 w6 o7.arr (OD.out w6 B6.out)); clear b6 o7; dsimp only)
          | ((with_reducible refine (HE7.out).mono ?_); rintro e w7 ⟨rfl, b7⟩; have B7 := hid (chain B6.out b7); clear b7; dsimp only))
      go_wp2
      all_goals
        go_ret
        exact ⟨rfl, chain B5.out B7.out⟩
end Go.Proofs.Ythppgaglmgnocaa
