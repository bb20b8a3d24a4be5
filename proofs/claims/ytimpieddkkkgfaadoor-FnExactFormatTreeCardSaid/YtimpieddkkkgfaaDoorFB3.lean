/- spec.boxText. -/
import Derived.Test.YtimpieddkkkgfaaDoorFB2
namespace Go.Proofs.YtimpieddkkkgfaaDoor
set_option linter.unusedVariables false
set_option linter.unusedSimpArgs false
open Go.RowKit Go.Lib

/-- The box of a parameter, kept. -/
def BtBox (w : World) (b : BoxD) (w' : World) : Prop := w'.heap[w.heap.size]? = some (.cells #[.int .i64 b.Parent, .int .i64 b.Kind, .int .i64 b.W, .int .i64 b.H, .int .i64 b.Pad, .int .i64 b.Gap, .int .i64 b.Grow, .int .i64 b.Shrink, .int .i64 b.Justify] 33 (0, 0)) ∧ Below w.heap.size w w'
section
variable {w w' w2 : World} {b : BoxD}
theorem BtBox.start : BtBox w b (w.alloc (.cells #[.int .i64 b.Parent, .int .i64 b.Kind, .int .i64 b.W, .int .i64 b.H, .int .i64 b.Pad, .int .i64 b.Gap, .int .i64 b.Grow, .int .i64 b.Shrink, .int .i64 b.Justify] 33)) := ⟨heap_alloc_new _ _, (Below.refl _ _).alloc (Nat.le_refl _) _⟩
theorem BtBox.lt (h : BtBox w b w') : w.heap.size < w'.heap.size := (Array.getElem?_eq_some_iff.1 h.1).1
theorem BtBox.next (h : BtBox w b w') (hb : Below w'.heap.size w' w2) : BtBox w b w2 := ⟨(hb.block _ h.lt).trans h.1, h.2.trans (hb.mono h.2.size)⟩
theorem BtBox.alloc (h : BtBox w b w') (o : Obj) : BtBox w b (w'.alloc o) := h.next ((Below.refl _ _).alloc (Nat.le_refl _) o)
theorem BtBox.drew (h : BtBox w b w') : BtBox w b w'.drew := ⟨h.1, h.2.drew⟩
theorem BtBox.cells (h : BtBox w b w') : w'.cell? ⟨w.heap.size, 0, none⟩ = some (.int .i64 b.Parent) ∧ w'.cell? ⟨w.heap.size, 1, none⟩ = some (.int .i64 b.Kind) ∧ w'.cell? ⟨w.heap.size, 2, none⟩ = some (.int .i64 b.W) ∧ w'.cell? ⟨w.heap.size, 3, none⟩ = some (.int .i64 b.H) ∧ w'.cell? ⟨w.heap.size, 4, none⟩ = some (.int .i64 b.Pad) ∧ w'.cell? ⟨w.heap.size, 5, none⟩ = some (.int .i64 b.Gap) ∧ w'.cell? ⟨w.heap.size, 6, none⟩ = some (.int .i64 b.Grow) ∧ w'.cell? ⟨w.heap.size, 7, none⟩ = some (.int .i64 b.Shrink) ∧ w'.cell? ⟨w.heap.size, 8, none⟩ = some (.int .i64 b.Justify) := by
  refine ⟨?_, ?_, ?_, ?_, ?_, ?_, ?_, ?_, ?_⟩
  all_goals (rw [cell_of_row _ _ _ _ _ _ h.1]; rfl)
end
/-- The loop's relation: the values and the names lie in two rows. -/
def nameVals : Array Value := #[.string ⟨#[112, 97, 100]⟩, .string ⟨#[103, 97, 112]⟩, .string ⟨#[103, 114, 111, 119]⟩, .string ⟨#[115, 104, 114, 105, 110, 107]⟩, .string ⟨#[106, 117, 115, 116, 105, 102, 121]⟩]
def BtRel (w : World) (b : BoxD) (bv bn : Nat) (w' : World) : Prop := w'.heap[bv]? = some (.cells #[.int .i64 b.Pad, .int .i64 b.Gap, .int .i64 b.Grow, .int .i64 b.Shrink, .int .i64 b.Justify] 3 (0, 0)) ∧ w'.heap[bn]? = some (.cells nameVals 9 (0, 0)) ∧ Below w.heap.size w w'
theorem BtRel.next {w w' w2 : World} {b : BoxD} {bv bn : Nat} (h : BtRel w b bv bn w') (hb : Below w'.heap.size w' w2) : BtRel w b bv bn w2 :=
  ⟨(hb.block _ (Array.getElem?_eq_some_iff.1 h.1).1).trans h.1, (hb.block _ (Array.getElem?_eq_some_iff.1 h.2.1).1).trans h.2.1, h.2.2.trans (hb.mono h.2.2.size)⟩
theorem BtRel.start {w w' : World} {b : BoxD} (h : BtBox w b w') : BtRel w b w'.heap.size (w'.heap.size + 1) ((w'.alloc (.cells #[.int .i64 b.Pad, .int .i64 b.Gap, .int .i64 b.Grow, .int .i64 b.Shrink, .int .i64 b.Justify] 3)).alloc (.cells nameVals 9)) := by
  refine ⟨(heap_alloc_old _ _ (by simp)).trans (heap_alloc_new _ _), ?_, (h.2.alloc h.2.size _).alloc (by have := h.2.size; simp; omega) _⟩
  have := heap_alloc_new (w'.alloc (.cells #[.int .i64 b.Pad, .int .i64 b.Gap, .int .i64 b.Grow, .int .i64 b.Shrink, .int .i64 b.Justify] 3)) (.cells nameVals 9)
  simpa using this
def nameS (i : Nat) : ByteArray := ⟨(nameL i).toArray⟩
theorem nameS_bl (i : Nat) : bl (nameS i) = nameL i := rfl
theorem BtRel.cells {w w' : World} {b : BoxD} {bv bn i : Nat} (h : BtRel w b bv bn w') (hi : i < 5) : w'.cell? ⟨bv, i, none⟩ = some (.int .i64 (valB b i)) ∧ w'.cell? ⟨bn, i, none⟩ = some (.string (nameS i)) := by
  rw [cell_of_row _ _ _ _ _ _ h.1, cell_of_row _ _ _ _ _ _ h.2.1]
  match i, hi with
  | 0, _ => exact ⟨rfl, rfl⟩
  | 1, _ => exact ⟨rfl, rfl⟩
  | 2, _ => exact ⟨rfl, rfl⟩
  | 3, _ => exact ⟨rfl, rfl⟩
  | 4, _ => exact ⟨rfl, rfl⟩

def spS : ByteArray := ⟨#[32]⟩
theorem kindS (k : Int) (h : 0 ≤ k ∧ k ≤ 3) : (k = 0 ∧ kindL k = [108, 101, 97, 102]) ∨ (k = 1 ∧ kindL k = [98, 108, 111, 99, 107]) ∨ (k = 2 ∧ kindL k = [114, 111, 119]) ∨ (k = 3 ∧ kindL k = [99, 111, 108, 117, 109, 110]) := by
  unfold kindL
  rcases (show k = 0 ∨ k = 1 ∨ k = 2 ∨ k = 3 by omega) with rfl | rfl | rfl | rfl <;> simp

set_option maxHeartbeats 4000000 in
theorem boxText_any (b : BoxD) (w : World) (h : styledB b = true) :
    Calls Tryd.prog 11 #[.agg #[.int .i64 b.Parent, .int .i64 b.Kind, .int .i64 b.W, .int .i64 b.H, .int .i64 b.Pad, .int .i64 b.Gap, .int .i64 b.Grow, .int .i64 b.Shrink, .int .i64 b.Justify]] w (Texted (textL b) w) := by
  obtain ⟨hk, hW, hH⟩ := size_bd h
  have VB := hid (valB_bd h)
  have T0 := hid (textTo_zero b)
  have SM := hid (fun i (hv : valB b i = 0) => (textTo_same (b := b) (k := i) hv).1)
  have MO := hid (fun i (hv : valB b i ≠ 0) => (textTo_more (b := b) (k := i) hv).1)
  have TLN := hid (textTo_len h)
  have DW := hid (fun W => decimal_any b.W W hW.1 hW.2)
  have DH := hid (fun W => decimal_any b.H W hH.1 hH.2)
  have DV := hid (fun i W => decimal_any (valB b i) W (valB_bd h i).1 (by have := (valB_bd h i).2; omega))
  have hB0 : BtBox w b (w.alloc (.cells #[.int .i64 b.Parent, .int .i64 b.Kind, .int .i64 b.W, .int .i64 b.H, .int .i64 b.Pad, .int .i64 b.Gap, .int .i64 b.Grow, .int .i64 b.Shrink, .int .i64 b.Justify] 33)) := BtBox.start
  have B0 := hid hB0
  have hks := kindS b.Kind hk
  have E5 : Aside (textTo b 5 = textL b) := rfl
  have hkL := kindL_le b.Kind
  have HKL := hid hkL
  clear h hk hB0 hkL
  obtain ⟨p, k, W, H, a0, a1, a2, a3, a4⟩ := b
  dsimp only at hks
  rcases hks with ⟨rfl, hks⟩ | ⟨rfl, hks⟩ | ⟨rfl, hks⟩ | ⟨rfl, hks⟩
  · have KL := hid hks
    clear hks
    have B1 := hid (B0.out.alloc (.cells #[.string ⟨#[108, 101, 97, 102]⟩, .string ⟨#[98, 108, 111, 99, 107]⟩, .string ⟨#[114, 111, 119]⟩, .string ⟨#[99, 111, 108, 117, 109, 110]⟩] 9))
    have SB1 := T0.out
    rw [if_pos rfl, KL.out] at SB1
    have SBB := hid SB1
    have LW := hid (decL_le hW.2)
    have LH := hid (decL_le hH.2)
    obtain ⟨c0, c1, c2, c3, c4, c5, c6, c7, c8⟩ := B1.out.cells
    have C2 := hid c2
    have C3 := hid c3
    obtain ⟨t1, T1, b1⟩ := cat_run (P := Tryd.prog) ⟨#[108, 101, 97, 102]⟩ ⟨#[32]⟩ (by decide)
    have L1 := hid (show (bl t1).length = 5 by rw [T1.out]; rfl)
    clear SB1 c0 c4 c5 c6 c7 c8 T0 hW hH
    go_enter Tryd.func11, Tryd.ntmps11
    go_wp2_with fail
    go_region_held3 (fun w' => w'.cell? ⟨w.heap.size, 2, none⟩ = some (.int .i64 W) ∧ w'.cell? ⟨w.heap.size, 3, none⟩ = some (.int .i64 H)) (first | go_keep | exact ⟨q2, q3⟩ | exact ⟨r2, r3⟩)
      (first
        | ((with_reducible refine (DW.out _).mono ?_); rintro e w3 ⟨s3, rfl, hs3, hb3⟩; have B3 := hid (B1.out.drew.next hb3); obtain ⟨-, -, q2, q3, -⟩ := B3.out.cells; obtain ⟨t2, T2, b2⟩ := cat_run (P := Tryd.prog) t1 s3 (by rw [hs3]; have := L1.out; have := LW.out; omega); obtain ⟨t3, T3, b3⟩ := cat_run (P := Tryd.prog) t2 ⟨#[32]⟩ (by rw [T2.out, List.length_append, hs3]; have : (bl ⟨#[32]⟩).length = 1 := rfl; have := L1.out; have := LW.out; omega); have L3 := hid (show (bl t3).length ≤ 1000 by rw [T3.out, T2.out, List.length_append, List.length_append, hs3]; have : (bl ⟨#[32]⟩).length = 1 := rfl; have := L1.out; have := LW.out; omega); have HS3 := hid hs3; clear hs3 hb3; dsimp only)
        | ((with_reducible refine (DH.out _).mono ?_); rintro e w4 ⟨s4, rfl, hs4, hb4⟩; have B4 := hid (B3.out.next hb4); obtain ⟨-, -, r2, r3, -⟩ := B4.out.cells; obtain ⟨t4, T4, b4⟩ := cat_run (P := Tryd.prog) t3 s4 (by rw [hs4]; have := L3.out; have := LH.out; omega); have HS4 := hid hs4; clear hs4 hb4; dsimp only))
    have BREL := hid (BtRel.start B4.out)
    have SB0 := hid (show textTo ⟨p, 0, W, H, a0, a1, a2, a3, a4⟩ 0 = bl t4 by rw [SBB.out, T4.out, T3.out, T2.out, T1.out, HS3.out, HS4.out]; rfl)
    obtain ⟨c0, c1, c2, c3, c4, c5, c6, c7, c8⟩ := B4.out.cells
    clear c0 c2 c3 b1 b2 b3 b4
    go_wp2_with fail
    go_loopg [3, 6] 5 (fun gg s3 s6 wr => ∃ (i : Nat) (s : ByteArray), i ≤ 5 ∧ 5 - i ≤ gg ∧ s3 = .string s ∧ s6 = .int .i64 i ∧ Aside (bl s = textTo ⟨p, 0, W, H, a0, a1, a2, a3, a4⟩ i) ∧ Aside (BtRel w ⟨p, 0, W, H, a0, a1, a2, a3, a4⟩ (w4.heap.size) (w4.heap.size + 1) wr))
    case atStart => exact ⟨0, _, Nat.zero_le _, by omega, rfl, rfl, (show _ = _ from SB0.out.symm), (by have hb := BREL.out; (try simp at hb); exact hb)⟩
    case round =>
      obtain ⟨i, s, hi, hgg, rfl, rfl, SB, R⟩ := hrel
      by_cases hlt : i < 5
      · obtain ⟨v1, n1⟩ := R.out.cells hlt
        obtain ⟨vb1, vb2⟩ := VB.out i
        have hbv := (Array.getElem?_eq_some_iff.1 R.out.1).1
        have hbn := (Array.getElem?_eq_some_iff.1 R.out.2.1).1
        have k1 : (0 : Int) ≤ (i : Int) := by omega
        have k2 : (i : Int) < 5 := by omega
        have ln := TLN.out i hi
        rw [← SB.out] at ln
        by_cases hv : valB ⟨p, 0, W, H, a0, a1, a2, a3, a4⟩ i = 0
        · have MM := hid (SM.out i hv)
          rw [hv] at v1
          clear hv vb1 vb2 n1 ln
          go_wp2
          go_roundg (5 - (i + 1))
          case measure => omega
          case rel => exact ⟨i + 1, s, by omega, by omega, rfl, by go_num, (show _ = _ by rw [MM.out]; exact SB.out), R.out⟩
        · have MM := hid (MO.out i hv)
          have DVi := hid (DV.out i)
          have LV := hid (decL_le (n := valB ⟨p, 0, W, H, a0, a1, a2, a3, a4⟩ i) (by omega))
          have hvp : 0 < valB ⟨p, 0, W, H, a0, a1, a2, a3, a4⟩ i := by omega
          have NB := hid (nameS_bl i)
          have NL := hid (nameL_le i)
          clear hv
          generalize valB ⟨p, 0, W, H, a0, a1, a2, a3, a4⟩ i = v at *
          generalize nameS i = nm at *
          obtain ⟨t1, T1, b1⟩ := cat_run (P := Tryd.prog) s ⟨#[32]⟩ (by have : (bl ⟨#[32]⟩).length = 1 := rfl; omega)
          obtain ⟨t2, T2, b2⟩ := cat_run (P := Tryd.prog) t1 nm (by rw [T1.out, List.length_append, NB.out]; have : (bl ⟨#[32]⟩).length = 1 := rfl; have := NL.out; omega)
          obtain ⟨t3, T3, b3⟩ := cat_run (P := Tryd.prog) t2 ⟨#[32]⟩ (by rw [T2.out, T1.out, List.length_append, List.length_append, NB.out]; have : (bl ⟨#[32]⟩).length = 1 := rfl; have := NL.out; omega)
          have L3 := hid (show (bl t3).length ≤ 2000 by rw [T3.out, T2.out, T1.out, List.length_append, List.length_append, List.length_append, NB.out]; have : (bl ⟨#[32]⟩).length = 1 := rfl; have := NL.out; omega)
          have V1 := hid v1
          have N1 := hid n1
          clear ln
          go_wp2_with fail
          go_region_held3 (fun w' => w'.cell? ⟨w4.heap.size + 1, i, none⟩ = some (.string nm) ∧ w'.cell? ⟨w4.heap.size, i, none⟩ = some (.int .i64 v)) (first | go_keep | exact ⟨q1, q2⟩)
            (((with_reducible refine (DVi.out _).mono ?_); rintro e w2 ⟨s2, rfl, hs2, hb2⟩; have HB2 := hid (Below_of_drew hb2); have q1 := (HB2.out.cell (p := ⟨w4.heap.size + 1, i, none⟩) hbn).trans N1.out; have q2 := (HB2.out.cell (p := ⟨w4.heap.size, i, none⟩) hbv).trans V1.out; obtain ⟨t4, T4, b4⟩ := cat_run (P := Tryd.prog) t3 s2 (by rw [hs2]; have := L3.out; have := LV.out; omega); have HS2 := hid hs2; clear hs2 hb2; dsimp only))
          go_wp2
          go_roundg (5 - (i + 1))
          case measure => omega
          case rel =>
            refine ⟨i + 1, t4, by omega, by omega, rfl, by go_num, (show _ = _ from ?_), R.out.next HB2.out⟩
            rw [MM.out, T4.out, T3.out, T2.out, T1.out, HS2.out, NB.out, SB.out]
            rfl
      · obtain rfl : i = 5 := by omega
        go_wp2
        go_ret
        exact ⟨s, rfl, SB.out, R.out.2.2⟩
  · have KL := hid hks
    clear hks
    have BREL := hid (BtRel.start (B0.out.alloc (.cells #[.string ⟨#[108, 101, 97, 102]⟩, .string ⟨#[98, 108, 111, 99, 107]⟩, .string ⟨#[114, 111, 119]⟩, .string ⟨#[99, 111, 108, 117, 109, 110]⟩] 9)))
    have SB1 := T0.out
    rw [if_neg (show ¬ (1 : Int) = 0 by decide), KL.out] at SB1
    have SB0 := hid SB1
    obtain ⟨c0, c1, c2, c3, c4, c5, c6, c7, c8⟩ := (B0.out.alloc (.cells #[.string ⟨#[108, 101, 97, 102]⟩, .string ⟨#[98, 108, 111, 99, 107]⟩, .string ⟨#[114, 111, 119]⟩, .string ⟨#[99, 111, 108, 117, 109, 110]⟩] 9)).cells
    clear c0 c2 c3 SB1 T0 hW hH
    go_enter Tryd.func11, Tryd.ntmps11
    go_wp2_with fail
    go_loopg [3, 6] 5 (fun gg s3 s6 wr => ∃ (i : Nat) (s : ByteArray), i ≤ 5 ∧ 5 - i ≤ gg ∧ s3 = .string s ∧ s6 = .int .i64 i ∧ Aside (bl s = textTo ⟨p, 1, W, H, a0, a1, a2, a3, a4⟩ i) ∧ Aside (BtRel w ⟨p, 1, W, H, a0, a1, a2, a3, a4⟩ (w.heap.size + 1 + 1) (w.heap.size + 1 + 1 + 1) wr))
    case atStart => exact ⟨0, _, Nat.zero_le _, by omega, rfl, rfl, (show _ = _ from SB0.out.symm), (by have hb := BREL.out; (try simp at hb); exact hb)⟩
    case round =>
      obtain ⟨i, s, hi, hgg, rfl, rfl, SB, R⟩ := hrel
      by_cases hlt : i < 5
      · obtain ⟨v1, n1⟩ := R.out.cells hlt
        obtain ⟨vb1, vb2⟩ := VB.out i
        have hbv := (Array.getElem?_eq_some_iff.1 R.out.1).1
        have hbn := (Array.getElem?_eq_some_iff.1 R.out.2.1).1
        have k1 : (0 : Int) ≤ (i : Int) := by omega
        have k2 : (i : Int) < 5 := by omega
        have ln := TLN.out i hi
        rw [← SB.out] at ln
        by_cases hv : valB ⟨p, 1, W, H, a0, a1, a2, a3, a4⟩ i = 0
        · have MM := hid (SM.out i hv)
          rw [hv] at v1
          clear hv vb1 vb2 n1 ln
          go_wp2
          go_roundg (5 - (i + 1))
          case measure => omega
          case rel => exact ⟨i + 1, s, by omega, by omega, rfl, by go_num, (show _ = _ by rw [MM.out]; exact SB.out), R.out⟩
        · have MM := hid (MO.out i hv)
          have DVi := hid (DV.out i)
          have LV := hid (decL_le (n := valB ⟨p, 1, W, H, a0, a1, a2, a3, a4⟩ i) (by omega))
          have hvp : 0 < valB ⟨p, 1, W, H, a0, a1, a2, a3, a4⟩ i := by omega
          have NB := hid (nameS_bl i)
          have NL := hid (nameL_le i)
          clear hv
          generalize valB ⟨p, 1, W, H, a0, a1, a2, a3, a4⟩ i = v at *
          generalize nameS i = nm at *
          obtain ⟨t1, T1, b1⟩ := cat_run (P := Tryd.prog) s ⟨#[32]⟩ (by have : (bl ⟨#[32]⟩).length = 1 := rfl; omega)
          obtain ⟨t2, T2, b2⟩ := cat_run (P := Tryd.prog) t1 nm (by rw [T1.out, List.length_append, NB.out]; have : (bl ⟨#[32]⟩).length = 1 := rfl; have := NL.out; omega)
          obtain ⟨t3, T3, b3⟩ := cat_run (P := Tryd.prog) t2 ⟨#[32]⟩ (by rw [T2.out, T1.out, List.length_append, List.length_append, NB.out]; have : (bl ⟨#[32]⟩).length = 1 := rfl; have := NL.out; omega)
          have L3 := hid (show (bl t3).length ≤ 2000 by rw [T3.out, T2.out, T1.out, List.length_append, List.length_append, List.length_append, NB.out]; have : (bl ⟨#[32]⟩).length = 1 := rfl; have := NL.out; omega)
          have V1 := hid v1
          have N1 := hid n1
          clear ln
          go_wp2_with fail
          go_region_held3 (fun w' => w'.cell? ⟨w.heap.size + 1 + 1 + 1, i, none⟩ = some (.string nm) ∧ w'.cell? ⟨w.heap.size + 1 + 1, i, none⟩ = some (.int .i64 v)) (first | go_keep | exact ⟨q1, q2⟩)
            (((with_reducible refine (DVi.out _).mono ?_); rintro e w2 ⟨s2, rfl, hs2, hb2⟩; have HB2 := hid (Below_of_drew hb2); have q1 := (HB2.out.cell (p := ⟨w.heap.size + 1 + 1 + 1, i, none⟩) hbn).trans N1.out; have q2 := (HB2.out.cell (p := ⟨w.heap.size + 1 + 1, i, none⟩) hbv).trans V1.out; obtain ⟨t4, T4, b4⟩ := cat_run (P := Tryd.prog) t3 s2 (by rw [hs2]; have := L3.out; have := LV.out; omega); have HS2 := hid hs2; clear hs2 hb2; dsimp only))
          go_wp2
          go_roundg (5 - (i + 1))
          case measure => omega
          case rel =>
            refine ⟨i + 1, t4, by omega, by omega, rfl, by go_num, (show _ = _ from ?_), R.out.next HB2.out⟩
            rw [MM.out, T4.out, T3.out, T2.out, T1.out, HS2.out, NB.out, SB.out]
            rfl
      · obtain rfl : i = 5 := by omega
        go_wp2
        go_ret
        exact ⟨s, rfl, SB.out, R.out.2.2⟩
  · have KL := hid hks
    clear hks
    have BREL := hid (BtRel.start (B0.out.alloc (.cells #[.string ⟨#[108, 101, 97, 102]⟩, .string ⟨#[98, 108, 111, 99, 107]⟩, .string ⟨#[114, 111, 119]⟩, .string ⟨#[99, 111, 108, 117, 109, 110]⟩] 9)))
    have SB1 := T0.out
    rw [if_neg (show ¬ (2 : Int) = 0 by decide), KL.out] at SB1
    have SB0 := hid SB1
    obtain ⟨c0, c1, c2, c3, c4, c5, c6, c7, c8⟩ := (B0.out.alloc (.cells #[.string ⟨#[108, 101, 97, 102]⟩, .string ⟨#[98, 108, 111, 99, 107]⟩, .string ⟨#[114, 111, 119]⟩, .string ⟨#[99, 111, 108, 117, 109, 110]⟩] 9)).cells
    clear c0 c2 c3 SB1 T0 hW hH
    go_enter Tryd.func11, Tryd.ntmps11
    go_wp2_with fail
    go_loopg [3, 6] 5 (fun gg s3 s6 wr => ∃ (i : Nat) (s : ByteArray), i ≤ 5 ∧ 5 - i ≤ gg ∧ s3 = .string s ∧ s6 = .int .i64 i ∧ Aside (bl s = textTo ⟨p, 2, W, H, a0, a1, a2, a3, a4⟩ i) ∧ Aside (BtRel w ⟨p, 2, W, H, a0, a1, a2, a3, a4⟩ (w.heap.size + 1 + 1) (w.heap.size + 1 + 1 + 1) wr))
    case atStart => exact ⟨0, _, Nat.zero_le _, by omega, rfl, rfl, (show _ = _ from SB0.out.symm), (by have hb := BREL.out; (try simp at hb); exact hb)⟩
    case round =>
      obtain ⟨i, s, hi, hgg, rfl, rfl, SB, R⟩ := hrel
      by_cases hlt : i < 5
      · obtain ⟨v1, n1⟩ := R.out.cells hlt
        obtain ⟨vb1, vb2⟩ := VB.out i
        have hbv := (Array.getElem?_eq_some_iff.1 R.out.1).1
        have hbn := (Array.getElem?_eq_some_iff.1 R.out.2.1).1
        have k1 : (0 : Int) ≤ (i : Int) := by omega
        have k2 : (i : Int) < 5 := by omega
        have ln := TLN.out i hi
        rw [← SB.out] at ln
        by_cases hv : valB ⟨p, 2, W, H, a0, a1, a2, a3, a4⟩ i = 0
        · have MM := hid (SM.out i hv)
          rw [hv] at v1
          clear hv vb1 vb2 n1 ln
          go_wp2
          go_roundg (5 - (i + 1))
          case measure => omega
          case rel => exact ⟨i + 1, s, by omega, by omega, rfl, by go_num, (show _ = _ by rw [MM.out]; exact SB.out), R.out⟩
        · have MM := hid (MO.out i hv)
          have DVi := hid (DV.out i)
          have LV := hid (decL_le (n := valB ⟨p, 2, W, H, a0, a1, a2, a3, a4⟩ i) (by omega))
          have hvp : 0 < valB ⟨p, 2, W, H, a0, a1, a2, a3, a4⟩ i := by omega
          have NB := hid (nameS_bl i)
          have NL := hid (nameL_le i)
          clear hv
          generalize valB ⟨p, 2, W, H, a0, a1, a2, a3, a4⟩ i = v at *
          generalize nameS i = nm at *
          obtain ⟨t1, T1, b1⟩ := cat_run (P := Tryd.prog) s ⟨#[32]⟩ (by have : (bl ⟨#[32]⟩).length = 1 := rfl; omega)
          obtain ⟨t2, T2, b2⟩ := cat_run (P := Tryd.prog) t1 nm (by rw [T1.out, List.length_append, NB.out]; have : (bl ⟨#[32]⟩).length = 1 := rfl; have := NL.out; omega)
          obtain ⟨t3, T3, b3⟩ := cat_run (P := Tryd.prog) t2 ⟨#[32]⟩ (by rw [T2.out, T1.out, List.length_append, List.length_append, NB.out]; have : (bl ⟨#[32]⟩).length = 1 := rfl; have := NL.out; omega)
          have L3 := hid (show (bl t3).length ≤ 2000 by rw [T3.out, T2.out, T1.out, List.length_append, List.length_append, List.length_append, NB.out]; have : (bl ⟨#[32]⟩).length = 1 := rfl; have := NL.out; omega)
          have V1 := hid v1
          have N1 := hid n1
          clear ln
          go_wp2_with fail
          go_region_held3 (fun w' => w'.cell? ⟨w.heap.size + 1 + 1 + 1, i, none⟩ = some (.string nm) ∧ w'.cell? ⟨w.heap.size + 1 + 1, i, none⟩ = some (.int .i64 v)) (first | go_keep | exact ⟨q1, q2⟩)
            (((with_reducible refine (DVi.out _).mono ?_); rintro e w2 ⟨s2, rfl, hs2, hb2⟩; have HB2 := hid (Below_of_drew hb2); have q1 := (HB2.out.cell (p := ⟨w.heap.size + 1 + 1 + 1, i, none⟩) hbn).trans N1.out; have q2 := (HB2.out.cell (p := ⟨w.heap.size + 1 + 1, i, none⟩) hbv).trans V1.out; obtain ⟨t4, T4, b4⟩ := cat_run (P := Tryd.prog) t3 s2 (by rw [hs2]; have := L3.out; have := LV.out; omega); have HS2 := hid hs2; clear hs2 hb2; dsimp only))
          go_wp2
          go_roundg (5 - (i + 1))
          case measure => omega
          case rel =>
            refine ⟨i + 1, t4, by omega, by omega, rfl, by go_num, (show _ = _ from ?_), R.out.next HB2.out⟩
            rw [MM.out, T4.out, T3.out, T2.out, T1.out, HS2.out, NB.out, SB.out]
            rfl
      · obtain rfl : i = 5 := by omega
        go_wp2
        go_ret
        exact ⟨s, rfl, SB.out, R.out.2.2⟩
  · have KL := hid hks
    clear hks
    have BREL := hid (BtRel.start (B0.out.alloc (.cells #[.string ⟨#[108, 101, 97, 102]⟩, .string ⟨#[98, 108, 111, 99, 107]⟩, .string ⟨#[114, 111, 119]⟩, .string ⟨#[99, 111, 108, 117, 109, 110]⟩] 9)))
    have SB1 := T0.out
    rw [if_neg (show ¬ (3 : Int) = 0 by decide), KL.out] at SB1
    have SB0 := hid SB1
    obtain ⟨c0, c1, c2, c3, c4, c5, c6, c7, c8⟩ := (B0.out.alloc (.cells #[.string ⟨#[108, 101, 97, 102]⟩, .string ⟨#[98, 108, 111, 99, 107]⟩, .string ⟨#[114, 111, 119]⟩, .string ⟨#[99, 111, 108, 117, 109, 110]⟩] 9)).cells
    clear c0 c2 c3 SB1 T0 hW hH
    go_enter Tryd.func11, Tryd.ntmps11
    go_wp2_with fail
    go_loopg [3, 6] 5 (fun gg s3 s6 wr => ∃ (i : Nat) (s : ByteArray), i ≤ 5 ∧ 5 - i ≤ gg ∧ s3 = .string s ∧ s6 = .int .i64 i ∧ Aside (bl s = textTo ⟨p, 3, W, H, a0, a1, a2, a3, a4⟩ i) ∧ Aside (BtRel w ⟨p, 3, W, H, a0, a1, a2, a3, a4⟩ (w.heap.size + 1 + 1) (w.heap.size + 1 + 1 + 1) wr))
    case atStart => exact ⟨0, _, Nat.zero_le _, by omega, rfl, rfl, (show _ = _ from SB0.out.symm), (by have hb := BREL.out; (try simp at hb); exact hb)⟩
    case round =>
      obtain ⟨i, s, hi, hgg, rfl, rfl, SB, R⟩ := hrel
      by_cases hlt : i < 5
      · obtain ⟨v1, n1⟩ := R.out.cells hlt
        obtain ⟨vb1, vb2⟩ := VB.out i
        have hbv := (Array.getElem?_eq_some_iff.1 R.out.1).1
        have hbn := (Array.getElem?_eq_some_iff.1 R.out.2.1).1
        have k1 : (0 : Int) ≤ (i : Int) := by omega
        have k2 : (i : Int) < 5 := by omega
        have ln := TLN.out i hi
        rw [← SB.out] at ln
        by_cases hv : valB ⟨p, 3, W, H, a0, a1, a2, a3, a4⟩ i = 0
        · have MM := hid (SM.out i hv)
          rw [hv] at v1
          clear hv vb1 vb2 n1 ln
          go_wp2
          go_roundg (5 - (i + 1))
          case measure => omega
          case rel => exact ⟨i + 1, s, by omega, by omega, rfl, by go_num, (show _ = _ by rw [MM.out]; exact SB.out), R.out⟩
        · have MM := hid (MO.out i hv)
          have DVi := hid (DV.out i)
          have LV := hid (decL_le (n := valB ⟨p, 3, W, H, a0, a1, a2, a3, a4⟩ i) (by omega))
          have hvp : 0 < valB ⟨p, 3, W, H, a0, a1, a2, a3, a4⟩ i := by omega
          have NB := hid (nameS_bl i)
          have NL := hid (nameL_le i)
          clear hv
          generalize valB ⟨p, 3, W, H, a0, a1, a2, a3, a4⟩ i = v at *
          generalize nameS i = nm at *
          obtain ⟨t1, T1, b1⟩ := cat_run (P := Tryd.prog) s ⟨#[32]⟩ (by have : (bl ⟨#[32]⟩).length = 1 := rfl; omega)
          obtain ⟨t2, T2, b2⟩ := cat_run (P := Tryd.prog) t1 nm (by rw [T1.out, List.length_append, NB.out]; have : (bl ⟨#[32]⟩).length = 1 := rfl; have := NL.out; omega)
          obtain ⟨t3, T3, b3⟩ := cat_run (P := Tryd.prog) t2 ⟨#[32]⟩ (by rw [T2.out, T1.out, List.length_append, List.length_append, NB.out]; have : (bl ⟨#[32]⟩).length = 1 := rfl; have := NL.out; omega)
          have L3 := hid (show (bl t3).length ≤ 2000 by rw [T3.out, T2.out, T1.out, List.length_append, List.length_append, List.length_append, NB.out]; have : (bl ⟨#[32]⟩).length = 1 := rfl; have := NL.out; omega)
          have V1 := hid v1
          have N1 := hid n1
          clear ln
          go_wp2_with fail
          go_region_held3 (fun w' => w'.cell? ⟨w.heap.size + 1 + 1 + 1, i, none⟩ = some (.string nm) ∧ w'.cell? ⟨w.heap.size + 1 + 1, i, none⟩ = some (.int .i64 v)) (first | go_keep | exact ⟨q1, q2⟩)
            (((with_reducible refine (DVi.out _).mono ?_); rintro e w2 ⟨s2, rfl, hs2, hb2⟩; have HB2 := hid (Below_of_drew hb2); have q1 := (HB2.out.cell (p := ⟨w.heap.size + 1 + 1 + 1, i, none⟩) hbn).trans N1.out; have q2 := (HB2.out.cell (p := ⟨w.heap.size + 1 + 1, i, none⟩) hbv).trans V1.out; obtain ⟨t4, T4, b4⟩ := cat_run (P := Tryd.prog) t3 s2 (by rw [hs2]; have := L3.out; have := LV.out; omega); have HS2 := hid hs2; clear hs2 hb2; dsimp only))
          go_wp2
          go_roundg (5 - (i + 1))
          case measure => omega
          case rel =>
            refine ⟨i + 1, t4, by omega, by omega, rfl, by go_num, (show _ = _ from ?_), R.out.next HB2.out⟩
            rw [MM.out, T4.out, T3.out, T2.out, T1.out, HS2.out, NB.out, SB.out]
            rfl
      · obtain rfl : i = 5 := by omega
        go_wp2
        go_ret
        exact ⟨s, rfl, SB.out, R.out.2.2⟩
end Go.Proofs.YtimpieddkkkgfaaDoor
