/- impl.Box.text. Its walk is printed by a program of ours (mkfb5.py). -/
import Derived.Test.YtimpieddkkkgfaaDoorFB4
namespace Go.Proofs.YtimpieddkkkgfaaDoor
set_option linter.unusedVariables false
set_option linter.unusedSimpArgs false
open Go.RowKit Go.Lib

theorem BtBox.grown {w w' w2 : World} {b : BoxD} {row : Option Nat} (h : BtBox w b w') (hg : w'.grownBy w2 row) (hr : ∀ q, row = some q → w.heap.size + 1 ≤ q) : BtBox w b w2 :=
  ⟨(hg.block _ h.lt (fun e => by have := hr _ e.symm; omega)).trans h.1, h.2.grown hg h.2.size (fun q e => by have := hr q e; omega)⟩
theorem BtBox.val {w w' : World} {b : BoxD} {i : Nat} (h : BtBox w b w') (hi : i < 5) : w'.cell? ⟨w.heap.size, 4 + i, none⟩ = some (.int .i64 (valB b i)) := by
  obtain ⟨-, -, -, -, c4, c5, c6, c7, c8⟩ := h.cells
  match i, hi with
  | 0, _ => exact c4
  | 1, _ => exact c5
  | 2, _ => exact c6
  | 3, _ => exact c7
  | 4, _ => exact c8
/-- The words so far, in a row of the call's own. -/
def TxRow (w : World) (ws : List ByteArray) (wl : List (List UInt8)) (b : BoxD) (A : Option Addr) (n c : Nat) (w' : World) : Prop :=
  n = ws.length ∧ ws.map bl = wl ∧ w'.ownsRow (w.heap.size + 1) 9 1 (.slice A n c) n (ws.flatMap encS) ∧ BtBox w b w'
section
variable {w w' w2 : World} {ws : List ByteArray} {wl : List (List UInt8)} {b : BoxD} {i n c : Nat} {A : Option Addr}
theorem TxRow.next (h : TxRow w ws wl b A n c w') (hb : Below w'.heap.size w' w2) : TxRow w ws wl b A n c w2 := ⟨h.1, h.2.1, row_next h.2.2.1 hb, h.2.2.2.next hb⟩
theorem TxRow.alloc (h : TxRow w ws wl b A n c w') (o : Obj) : TxRow w ws wl b A n c (w'.alloc o) := h.next ((Below.refl _ _).alloc (Nat.le_refl _) o)
theorem TxRow.drew (h : TxRow w ws wl b A n c w') : TxRow w ws wl b A n c w'.drew := h.next (Below.refl _ _).drew
theorem TxRow.base (h : TxRow w ws wl b A n c w') : w.heap.size + 1 ≤ w'.heap.size := h.2.2.2.lt
theorem TxRow.len (h : TxRow w ws (wordsTo b i) b A n c w') (hi : i ≤ 5) : n ≤ 13 := by
  have h1 := wordsTo_len b i
  rw [← h.2.1, List.length_map, ← h.1] at h1
  omega
end
theorem arr_two {W : World} {g B : Nat} {x y : ByteArray} {t : TypeId} (h : W.heap[g]? = some (.cells #[.string x, .string y] t (0, 0))) (hB : g < B) : Arr W B 1 encS (some ⟨g, 0, none⟩) [x, y] := fun _ => by
  refine ⟨g, 0, rfl, hB, fun i u hu j v hv => ?_⟩
  match i, hu with
  | 0, hu =>
    simp at hu
    subst hu
    rw [cell_of_row W g _ _ _ _ h]
    have hj0 : j = 0 := by
      have := (List.getElem?_eq_some_iff.1 hv).1
      simp [encS] at this
      exact this
    subst hj0
    simp [encS] at hv
    subst hv
    rfl
  | 1, hu =>
    simp at hu
    subst hu
    rw [cell_of_row W g _ _ _ _ h]
    have hj0 : j = 0 := by
      have := (List.getElem?_eq_some_iff.1 hv).1
      simp [encS] at this
      exact this
    subst hj0
    simp [encS] at hv
    subst hv
    rfl
  | i + 2, hu => simp at hu
theorem TxRow.push {w w' w6 : World} {ws : List ByteArray} {wl wl' : List (List UInt8)} {b : BoxD} {n N c c6 : Nat} {A A6 : Option Addr} {x y : ByteArray} (h : TxRow w ws wl b A n c w') (hw : wl' = wl ++ [bl x, bl y]) (hN : N = n + 2)
    (own6 : w6.ownsRow (w.heap.size + 1) 9 1 (.slice A6 N c6) N (ws.flatMap encS ++ [x, y].flatMap encS)) (gr6 : w'.grownBy w6 (Value.slice A n c).ownBlock) : TxRow w (ws ++ [x, y]) wl' b A6 N c6 w6 := by
  obtain ⟨h1, h2, h3, h4⟩ := h
  refine ⟨by rw [hN, h1]; simp, by rw [List.map_append, h2, hw]; rfl, by rw [List.flatMap_append]; exact own6, h4.grown gr6 (fun q hq => (h3.lt q hq).1)⟩
/-- The loop's relation: beside the words, the row of styles. -/
def TxRel (w : World) (b : BoxD) (gs : Nat) (t : TypeId) (i : Nat) (A : Option Addr) (n c : Nat) (w' : World) : Prop :=
  ∃ ws, TxRow w ws (wordsTo b i) b A n c w' ∧ w'.heap[gs]? = some (.cells (styleCells w.heap.size) t (0, 0)) ∧ ∀ q, (Value.slice A n c).ownBlock = some q → q ≠ gs
theorem style_cells {w' : World} {gs g i : Nat} {t : TypeId} (h : w'.heap[gs]? = some (.cells (styleCells g) t (0, 0))) (hi : i < 5) : w'.cell? ⟨gs, i * 2, none⟩ = some (.string (nameS i)) ∧ w'.cell? ⟨gs, i * 2 + 1, none⟩ = some (.pointer (some ⟨g, 4 + i, none⟩)) := by
  rw [cell_of_row _ _ _ _ _ _ h, cell_of_row _ _ _ _ _ _ h]
  match i, hi with
  | 0, _ => exact ⟨rfl, rfl⟩
  | 1, _ => exact ⟨rfl, rfl⟩
  | 2, _ => exact ⟨rfl, rfl⟩
  | 3, _ => exact ⟨rfl, rfl⟩
  | 4, _ => exact ⟨rfl, rfl⟩

theorem cellG {w5 w7 : World} {o : Obj} {row : Option Nat} {p : Addr} {v : Value} (h : w5.cell? p = some v) (hp : p.block < w5.heap.size) (gr : (w5.alloc o).grownBy w7 row) (hne : some p.block ≠ row) : w7.cell? p = some v :=
  (World.cell?_of_block (gr.block p.block (Nat.lt_of_lt_of_le hp (by simp)) hne)).trans ((World.cell?_alloc_lt w5 _ p hp).trans h)
def kindV : Value := .agg #[.string ⟨#[108, 101, 97, 102]⟩, .string ⟨#[98, 108, 111, 99, 107]⟩, .string ⟨#[114, 111, 119]⟩, .string ⟨#[99, 111, 108, 117, 109, 110]⟩]
theorem idx_kind (w : World) : (Instr.index 64 kindV (.int .i64 0)).run Tryd.prog w = .ok (.string ⟨#[108, 101, 97, 102]⟩) w ∧ (Instr.index 64 kindV (.int .i64 1)).run Tryd.prog w = .ok (.string ⟨#[98, 108, 111, 99, 107]⟩) w ∧
    (Instr.index 64 kindV (.int .i64 2)).run Tryd.prog w = .ok (.string ⟨#[114, 111, 119]⟩) w ∧ (Instr.index 64 kindV (.int .i64 3)).run Tryd.prog w = .ok (.string ⟨#[99, 111, 108, 117, 109, 110]⟩) w := by
  refine ⟨?_, ?_, ?_, ?_⟩ <;> kernel_rfl
set_option maxHeartbeats 8000000 in
theorem text_any (b : BoxD) (w : World) (h : styledB b = true) (ht : Tab w) :
    Calls Tryd.prog 16 #[.agg #[.int .i64 b.Parent, .int .i64 b.Kind, .int .i64 b.W, .int .i64 b.H, .int .i64 b.Pad, .int .i64 b.Gap, .int .i64 b.Grow, .int .i64 b.Shrink, .int .i64 b.Justify]] w (Texted (textL b) w) := by
  obtain ⟨hk, hW, hH⟩ := size_bd h
  have TB := hid ht
  have VB := hid (valB_bd h)
  have W0 : Aside (wordsTo b 0 = headW b) := wordsTo_zero b
  have SM := hid (fun i (hv : valB b i = 0) => (textTo_same (b := b) (k := i) hv).2)
  have MO := hid (fun i (hv : valB b i ≠ 0) => (textTo_more (b := b) (k := i) hv).2)
  have TLN := hid (textL_len h)
  have WLN := hid (wordsTo_len b 5)
  have DW := hid (fun W (hT : Tab W) => itoa_any b.W W hW.1 hW.2 hT)
  have DH := hid (fun W (hT : Tab W) => itoa_any b.H W hH.1 hH.2 hT)
  have DV := hid (fun i W (hT : Tab W) => itoa_any (valB b i) W (valB_bd h i).1 (by have := (valB_bd h i).2; omega) hT)
  have hB0 : BtBox w b (w.alloc (.cells #[.int .i64 b.Parent, .int .i64 b.Kind, .int .i64 b.W, .int .i64 b.H, .int .i64 b.Pad, .int .i64 b.Gap, .int .i64 b.Grow, .int .i64 b.Shrink, .int .i64 b.Justify] 33)) := BtBox.start
  have B0 := hid hB0
  have hks := kindS b.Kind hk
  have KN := hid (fun W => kindNames_any W)
  have ST := hid (fun g W => styles_any g W)
  have E5 : Aside (Lib.join (wordsTo b 5) (bl ⟨#[32]⟩) = textL b) := rfl
  clear h hk hB0 hW hH ht
  obtain ⟨p, k, W, H, a0, a1, a2, a3, a4⟩ := b
  dsimp only at hks
  rcases hks with ⟨rfl, hks⟩ | ⟨rfl, hks⟩ | ⟨rfl, hks⟩ | ⟨rfl, hks⟩
  · have KL := hid hks
    clear hks
    obtain ⟨-, c1, c2, c3, -⟩ := B0.out.cells
    have C1 := hid c1
    have hix : ∀ W : World, (Instr.index 64 (.agg #[.string ⟨#[108, 101, 97, 102]⟩, .string ⟨#[98, 108, 111, 99, 107]⟩, .string ⟨#[114, 111, 119]⟩, .string ⟨#[99, 111, 108, 117, 109, 110]⟩]) (.int .i64 0)).run Tryd.prog W = .ok (.string ⟨#[108, 101, 97, 102]⟩) W := fun W => (idx_kind W).1
    clear c2 c3
    go_enter Tryd.func16, Tryd.ntmps16
    go_wp2_with fail
    go_region_held3 (fun w' => w'.cell? ⟨w.heap.size, 1, none⟩ = some (.int .i64 0)) (first | go_keep | exact q1)
      (((with_reducible refine (KN.out _).mono ?_); rintro e w3 ⟨rfl, hb3⟩; have B3 := hid (B0.out.drew.next hb3); obtain ⟨-, q1, -⟩ := B3.out.cells; clear hb3; dsimp only))
    have T3 := hid (TB.out.next B3.out.2)
    have own0 := World.ownsRow_lit (e := 9) (size := 1) (base := w.heap.size + 1) w3 #[.string ⟨#[108, 101, 97, 102]⟩] 1 B3.out.lt (by simp [maxLen]) rfl
    have R0 : Aside (TxRow w [⟨#[108, 101, 97, 102]⟩] [bl ⟨#[108, 101, 97, 102]⟩] ⟨p, 0, W, H, a0, a1, a2, a3, a4⟩ (some ⟨w3.heap.size, 0, none⟩) 1 1 (w3.alloc (.cells #[.string ⟨#[108, 101, 97, 102]⟩] 9))) := ⟨rfl, (rfl), own0, B3.out.alloc _⟩
    have T4 := hid (T3.out.alloc (.cells #[.string ⟨#[108, 101, 97, 102]⟩] 9))
    clear own0 q1 hix
    obtain ⟨-, c1, c2, c3, -⟩ := R0.out.2.2.2.cells
    go_wp2_with fail
    go_region_held3 (fun w' => w'.cell? ⟨w.heap.size, 2, none⟩ = some (.int .i64 W) ∧ w'.cell? ⟨w.heap.size, 3, none⟩ = some (.int .i64 H)) (first | go_keep | exact ⟨q2, q3⟩ | exact ⟨r2, r3⟩ | exact ⟨p2, p3⟩)
      (first
        | (refine step_append_arr _ eltS (by rfl) (.tmp 14) (.tmp 21) (by rfl) (w.heap.size + 1) _ 1 3 _ (by rfl) (R2.out.alloc _).2.2.1 encS (fun _ => rfl) oneS _ _ [s5, s6] 2 2 (by rfl) (by rfl) (arr_two (heap_alloc_new _ _) (Nat.lt_succ_self _)) (by omega) (by omega) (R2.out.alloc _).base ?_; intro A7 c7 w7 own7 gr7 at7; have R3 := hid ((R2.out.alloc _).push (wl' := wordsTo ⟨p, 0, W, H, a0, a1, a2, a3, a4⟩ 0) (by rw [W0.out, HS5.out, HS6.out]; show headW ⟨p, 0, W, H, a0, a1, a2, a3, a4⟩ = _; unfold headW; rw [if_pos rfl, KL.out]; rfl) rfl own7 gr7); obtain ⟨-, -, p2, p3, -⟩ := R3.out.2.2.2.cells; clear own7 gr7 at7)
        | ((with_reducible refine (DW.out _ T4.out.drew).mono ?_); rintro e w5 ⟨s5, rfl, hs5, hb5⟩; have R1 := hid (R0.out.drew.next hb5); have T5 := hid (T4.out.drew.next hb5); obtain ⟨-, -, q2, q3, -⟩ := R1.out.2.2.2.cells; have HS5 := hid hs5; clear hs5 hb5; dsimp only)
        | ((with_reducible refine (DH.out _ T5.out).mono ?_); rintro e w6 ⟨s6, rfl, hs6, hb6⟩; have R2 := hid (R1.out.next hb6); have T6 := hid (T5.out.next hb6); obtain ⟨-, -, r2, r3, -⟩ := R2.out.2.2.2.cells; have HS6 := hid hs6; clear hs6 hb6; dsimp only))
    have TT := hid (TB.out.next R3.out.2.2.2.2)
    clear c1
    go_wp2_with fail
    refine (ST.out w.heap.size _).mono ?_
    rintro e w8 ⟨gs, ty, rfl, hgs, hge, hb8⟩
    have RR : Aside (TxRel w ⟨p, 0, W, H, a0, a1, a2, a3, a4⟩ gs ty 0 A7 3 c7 w8) := ⟨_, R3.out.next hb8, hgs, fun q hq e => by have := (R3.out.2.2.1.lt q hq).2; omega⟩
    have T8 := hid (TT.out.next hb8)
    have BX := hid (R3.out.next hb8).2.2.2.2
    clear hgs hge hb8 R3 TT R0 T4 T3 B3 c1
    go_wp2
    go_loopg [3, 5, 25] 5 (fun gg s3 _ s25 wr => ∃ (i n c : Nat) (A : Option Addr), i ≤ 5 ∧ 5 - i ≤ gg ∧ s3 = .slice A n c ∧ s25 = .int .i64 i ∧ Aside (TxRel w ⟨p, 0, W, H, a0, a1, a2, a3, a4⟩ gs ty i A n c wr) ∧ Aside (Below w.heap.size w wr))
    case atStart => exact ⟨0, _, _, _, Nat.zero_le _, by omega, rfl, rfl, RR, BX.out⟩
    case round =>
      obtain ⟨i, n, c, A, hi, hgg, rfl, rfl, R, BW⟩ := hrel
      obtain ⟨ws, R1, hst, hne⟩ := R.out
      have HB := R1.2.2.2
      by_cases hlt : i < 5
      · obtain ⟨n1, n2⟩ := style_cells hst hlt
        have v1 := HB.val hlt
        obtain ⟨vb1, vb2⟩ := VB.out i
        have nl := R1.len hi
        have k1 : (0 : Int) ≤ (i : Int) := by omega
        have k2 : (i : Int) < 5 := by omega
        have X1 := hid (R1.alloc (.cells #[.string (nameS i), .pointer (some ⟨w.heap.size, 4 + i, none⟩)] 69))
        have hgl := (Array.getElem?_eq_some_iff.1 hst).1
        have HST := hid (show (wr.alloc (.cells #[.string (nameS i), .pointer (some ⟨w.heap.size, 4 + i, none⟩)] 69)).heap[gs]? = _ from (heap_alloc_old wr _ hgl).trans hst)
        have v2 := X1.out.2.2.2.val hlt
        have NE := hid hne
        have HROW := hid (fun q hq => R1.2.2.1.lt q hq)
        have TW := hid (TB.out.next X1.out.2.2.2.2)
        have NB := hid (nameS_bl i)
        have hbx : w.heap.size < wr.heap.size := HB.lt
        have n0 : (wr.alloc (.cells #[.string (nameS i), .pointer (some ⟨w.heap.size, 4 + i, none⟩)] 69)).heap.size = wr.heap.size + 1 := by simp
        by_cases hv : valB ⟨p, 0, W, H, a0, a1, a2, a3, a4⟩ i = 0
        · have MM := hid (SM.out i hv)
          rw [hv] at v1 v2
          have XR : Aside (TxRel w ⟨p, 0, W, H, a0, a1, a2, a3, a4⟩ gs ty (i + 1) A n c (wr.alloc (.cells #[.string (nameS i), .pointer (some ⟨w.heap.size, 4 + i, none⟩)] 69))) := ⟨ws, ⟨X1.out.1, by rw [MM.out]; exact X1.out.2.1, X1.out.2.2.1, X1.out.2.2.2⟩, HST.out, NE.out⟩
          have XB := hid X1.out.2.2.2.2
          clear hv vb1 vb2 R RR R1 hst hne HB BW n0 nl
          generalize nameS i = nm at *
          go_wp2
          go_roundg (5 - (i + 1))
          case measure => omega
          case rel => exact ⟨i + 1, n, c, A, by omega, by omega, rfl, by go_num, XR, XB.out⟩
        · have MM := hid (MO.out i hv)
          have DVi := hid (DV.out i)
          have hvp : (valB ⟨p, 0, W, H, a0, a1, a2, a3, a4⟩ i == 0) = false := by rw [beq_eq_false_iff_ne]; exact hv
          have hvq : (valB ⟨p, 0, W, H, a0, a1, a2, a3, a4⟩ i != 0) = true := by rw [bne_iff_ne]; exact hv
          clear hv R RR R1 hst hne HB BW
          generalize valB ⟨p, 0, W, H, a0, a1, a2, a3, a4⟩ i = v at *
          generalize nameS i = nm at *
          have V2 := hid v2
          obtain ⟨W1, hW1⟩ : ∃ W1, W1 = wr.alloc (.cells #[.string nm, .pointer (some ⟨w.heap.size, 4 + i, none⟩)] 69) := ⟨_, rfl⟩
          have m1 : W1.cell? ⟨wr.heap.size, 0, none⟩ = some (.string nm) := by rw [hW1, cell_of_row _ _ _ _ _ _ (heap_alloc_new wr _)]; rfl
          have m2 : W1.cell? ⟨wr.heap.size, 1, none⟩ = some (.pointer (some ⟨w.heap.size, 4 + i, none⟩)) := by rw [hW1, cell_of_row _ _ _ _ _ _ (heap_alloc_new wr _)]; rfl
          rw [← hW1] at v2 X1 HST TW n0
          have M1 := hid m1
          have M2 := hid m2
          have V2 := hid v2
          have l1 : wr.heap.size < W1.heap.size := by omega
          have l2 : w.heap.size < W1.heap.size := by omega
          have HW1 := hid hW1
          clear hW1
          go_wp2_with fail
          rw [← HW1.out]
          go_region_held3 (fun w' => w'.cell? ⟨wr.heap.size, 0, none⟩ = some (.string nm) ∧ w'.cell? ⟨wr.heap.size, 1, none⟩ = some (.pointer (some ⟨w.heap.size, 4 + i, none⟩)) ∧ w'.cell? ⟨w.heap.size, 4 + i, none⟩ = some (.int .i64 v)) (first | go_keep | exact ⟨q1, q2, q3⟩ | exact ⟨p1, p2, p3⟩)
            (first
              | (refine step_append_arr _ eltS (by rfl) (.tmp 34) (.tmp 42) (by rfl) (w.heap.size + 1) _ n (n + 2) _ (by rfl) (R2.out.alloc _).2.2.1 encS (fun _ => rfl) oneS _ _ [nm, s5] 2 2 (by rfl) (by rfl) (arr_two (heap_alloc_new _ _) (Nat.lt_succ_self _)) (by omega) (by omega) (R2.out.alloc _).base ?_; intro A7 c7 w7 own7 gr7 at7; have R3 := hid ((R2.out.alloc _).push (wl' := wordsTo ⟨p, 0, W, H, a0, a1, a2, a3, a4⟩ (i + 1)) (by rw [MM.out, HS5.out, NB.out]) rfl own7 gr7); have hz := HB5.out.size; have p1 := cellG q1 (Nat.lt_of_lt_of_le l1 hz) gr7 (fun e => by have := HROW.out _ e.symm; dsimp only at this; omega); have p2 := cellG q2 (Nat.lt_of_lt_of_le l1 hz) gr7 (fun e => by have := HROW.out _ e.symm; dsimp only at this; omega); have p3 := cellG q3 (Nat.lt_of_lt_of_le l2 hz) gr7 (fun e => by have := HROW.out _ e.symm; dsimp only at this; omega); have hg5 : gs < W1.heap.size := (Array.getElem?_eq_some_iff.1 HST.out).1; have STY := hid ((gr7.block gs (Nat.lt_of_lt_of_le (Nat.lt_of_lt_of_le hg5 hz) (by simp)) (fun e => NE.out _ e.symm rfl)).trans ((heap_alloc_old w5 _ (Nat.lt_of_lt_of_le hg5 hz)).trans ((HB5.out.block gs hg5).trans HST.out))); have NE7 := hid (fun q (hq : (Value.slice A7 (n + 2) c7).ownBlock = some q) (e : q = gs) => by rcases at7 q hq with h | h; exact NE.out q h e; simp at h; omega); clear own7 gr7 at7 hz hg5)
              | ((with_reducible refine (DVi.out _ TW.out.drew).mono ?_); rintro e w5 ⟨s5, rfl, hs5, hb5⟩; have HB5 := hid (Below_of_drew hb5); have R2 := hid (X1.out.next HB5.out); have q1 := (HB5.out.cell (p := ⟨wr.heap.size, 0, none⟩) l1).trans M1.out; have q2 := (HB5.out.cell (p := ⟨wr.heap.size, 1, none⟩) l1).trans M2.out; have q3 := (HB5.out.cell (p := ⟨w.heap.size, 4 + i, none⟩) l2).trans V2.out; have HS5 := hid hs5; clear hs5 hb5; dsimp only))
          have XR : Aside (TxRel w ⟨p, 0, W, H, a0, a1, a2, a3, a4⟩ gs ty (i + 1) A7 (n + 2) c7 w7) := ⟨ws ++ [nm, s5], R3.out, STY.out, NE7.out⟩
          have XB := hid R3.out.2.2.2.2
          go_wp2
          go_roundg (5 - (i + 1))
          case measure => omega
          case rel => exact ⟨i + 1, n + 2, c7, A7, by omega, by omega, rfl, by go_num, XR, XB.out⟩
      · obtain rfl : i = 5 := by omega
        have hle := slice_le R1.2.2.1
        have JN := hid (join_any A ws n c ⟨#[32]⟩ (textL ⟨p, 0, W, H, a0, a1, a2, a3, a4⟩) wr R1.1 hle.1 (by have := R1.len (Nat.le_refl 5); rw [R1.1] at this; omega) (by rw [R1.2.1]; exact E5) (by have := TLN.out; omega) (OwnA.of_rowN (enc := encS) (k := 1) (fun _ => rfl) R1.1 rfl R1.2.2.1).arr)
        have XB := hid HB.2
        clear R RR R1 hst hne HB BW hle
        go_wp2_with fail
        refine JN.out.mono ?_
        rintro e w9 ⟨s, rfl, hs, hb9⟩
        have HS := hid hs
        have HB9 := hid hb9
        clear hs hb9
        go_wp2
        go_ret
        exact ⟨s, rfl, HS.out, chain XB.out HB9.out⟩
  · have KL := hid hks
    clear hks
    obtain ⟨-, c1, c2, c3, -⟩ := B0.out.cells
    have C1 := hid c1
    have hix : ∀ W : World, (Instr.index 64 (.agg #[.string ⟨#[108, 101, 97, 102]⟩, .string ⟨#[98, 108, 111, 99, 107]⟩, .string ⟨#[114, 111, 119]⟩, .string ⟨#[99, 111, 108, 117, 109, 110]⟩]) (.int .i64 1)).run Tryd.prog W = .ok (.string ⟨#[98, 108, 111, 99, 107]⟩) W := fun W => (idx_kind W).2.1
    clear c2 c3
    go_enter Tryd.func16, Tryd.ntmps16
    go_wp2_with fail
    go_region_held3 (fun w' => w'.cell? ⟨w.heap.size, 1, none⟩ = some (.int .i64 1)) (first | go_keep | exact q1)
      (((with_reducible refine (KN.out _).mono ?_); rintro e w3 ⟨rfl, hb3⟩; have B3 := hid (B0.out.drew.next hb3); obtain ⟨-, q1, -⟩ := B3.out.cells; clear hb3; dsimp only))
    have T3 := hid (TB.out.next B3.out.2)
    have own0 := World.ownsRow_lit (e := 9) (size := 1) (base := w.heap.size + 1) w3 #[.string ⟨#[98, 108, 111, 99, 107]⟩] 1 B3.out.lt (by simp [maxLen]) rfl
    have R0 : Aside (TxRow w [⟨#[98, 108, 111, 99, 107]⟩] (wordsTo ⟨p, 1, W, H, a0, a1, a2, a3, a4⟩ 0) ⟨p, 1, W, H, a0, a1, a2, a3, a4⟩ (some ⟨w3.heap.size, 0, none⟩) 1 1 (w3.alloc (.cells #[.string ⟨#[98, 108, 111, 99, 107]⟩] 9))) := ⟨rfl, (by rw [W0.out]; show [bl ⟨#[98, 108, 111, 99, 107]⟩] = headW ⟨p, 1, W, H, a0, a1, a2, a3, a4⟩; unfold headW; rw [if_neg (show ¬ (1 : Int) = 0 by decide), KL.out]; rfl), own0, B3.out.alloc _⟩
    have T4 := hid (T3.out.alloc (.cells #[.string ⟨#[98, 108, 111, 99, 107]⟩] 9))
    clear own0 q1 hix
    have R3 := hid R0.out
    have TT := hid T4.out
    obtain ⟨-, c1, -⟩ := R0.out.2.2.2.cells
    go_wp2_with fail
    refine (ST.out w.heap.size _).mono ?_
    rintro e w8 ⟨gs, ty, rfl, hgs, hge, hb8⟩
    have RR : Aside (TxRel w ⟨p, 1, W, H, a0, a1, a2, a3, a4⟩ gs ty 0 (some ⟨w3.heap.size, 0, none⟩) 1 1 w8) := ⟨_, R3.out.next hb8, hgs, fun q hq e => by have := (R3.out.2.2.1.lt q hq).2; omega⟩
    have T8 := hid (TT.out.next hb8)
    have BX := hid (R3.out.next hb8).2.2.2.2
    clear hgs hge hb8 R3 TT R0 T4 T3 B3 c1
    go_wp2
    go_loopg [3, 5, 25] 5 (fun gg s3 _ s25 wr => ∃ (i n c : Nat) (A : Option Addr), i ≤ 5 ∧ 5 - i ≤ gg ∧ s3 = .slice A n c ∧ s25 = .int .i64 i ∧ Aside (TxRel w ⟨p, 1, W, H, a0, a1, a2, a3, a4⟩ gs ty i A n c wr) ∧ Aside (Below w.heap.size w wr))
    case atStart => exact ⟨0, _, _, _, Nat.zero_le _, by omega, rfl, rfl, RR, BX.out⟩
    case round =>
      obtain ⟨i, n, c, A, hi, hgg, rfl, rfl, R, BW⟩ := hrel
      obtain ⟨ws, R1, hst, hne⟩ := R.out
      have HB := R1.2.2.2
      by_cases hlt : i < 5
      · obtain ⟨n1, n2⟩ := style_cells hst hlt
        have v1 := HB.val hlt
        obtain ⟨vb1, vb2⟩ := VB.out i
        have nl := R1.len hi
        have k1 : (0 : Int) ≤ (i : Int) := by omega
        have k2 : (i : Int) < 5 := by omega
        have X1 := hid (R1.alloc (.cells #[.string (nameS i), .pointer (some ⟨w.heap.size, 4 + i, none⟩)] 69))
        have hgl := (Array.getElem?_eq_some_iff.1 hst).1
        have HST := hid (show (wr.alloc (.cells #[.string (nameS i), .pointer (some ⟨w.heap.size, 4 + i, none⟩)] 69)).heap[gs]? = _ from (heap_alloc_old wr _ hgl).trans hst)
        have v2 := X1.out.2.2.2.val hlt
        have NE := hid hne
        have HROW := hid (fun q hq => R1.2.2.1.lt q hq)
        have TW := hid (TB.out.next X1.out.2.2.2.2)
        have NB := hid (nameS_bl i)
        have hbx : w.heap.size < wr.heap.size := HB.lt
        have n0 : (wr.alloc (.cells #[.string (nameS i), .pointer (some ⟨w.heap.size, 4 + i, none⟩)] 69)).heap.size = wr.heap.size + 1 := by simp
        by_cases hv : valB ⟨p, 1, W, H, a0, a1, a2, a3, a4⟩ i = 0
        · have MM := hid (SM.out i hv)
          rw [hv] at v1 v2
          have XR : Aside (TxRel w ⟨p, 1, W, H, a0, a1, a2, a3, a4⟩ gs ty (i + 1) A n c (wr.alloc (.cells #[.string (nameS i), .pointer (some ⟨w.heap.size, 4 + i, none⟩)] 69))) := ⟨ws, ⟨X1.out.1, by rw [MM.out]; exact X1.out.2.1, X1.out.2.2.1, X1.out.2.2.2⟩, HST.out, NE.out⟩
          have XB := hid X1.out.2.2.2.2
          clear hv vb1 vb2 R RR R1 hst hne HB BW n0 nl
          generalize nameS i = nm at *
          go_wp2
          go_roundg (5 - (i + 1))
          case measure => omega
          case rel => exact ⟨i + 1, n, c, A, by omega, by omega, rfl, by go_num, XR, XB.out⟩
        · have MM := hid (MO.out i hv)
          have DVi := hid (DV.out i)
          have hvp : (valB ⟨p, 1, W, H, a0, a1, a2, a3, a4⟩ i == 0) = false := by rw [beq_eq_false_iff_ne]; exact hv
          have hvq : (valB ⟨p, 1, W, H, a0, a1, a2, a3, a4⟩ i != 0) = true := by rw [bne_iff_ne]; exact hv
          clear hv R RR R1 hst hne HB BW
          generalize valB ⟨p, 1, W, H, a0, a1, a2, a3, a4⟩ i = v at *
          generalize nameS i = nm at *
          have V2 := hid v2
          obtain ⟨W1, hW1⟩ : ∃ W1, W1 = wr.alloc (.cells #[.string nm, .pointer (some ⟨w.heap.size, 4 + i, none⟩)] 69) := ⟨_, rfl⟩
          have m1 : W1.cell? ⟨wr.heap.size, 0, none⟩ = some (.string nm) := by rw [hW1, cell_of_row _ _ _ _ _ _ (heap_alloc_new wr _)]; rfl
          have m2 : W1.cell? ⟨wr.heap.size, 1, none⟩ = some (.pointer (some ⟨w.heap.size, 4 + i, none⟩)) := by rw [hW1, cell_of_row _ _ _ _ _ _ (heap_alloc_new wr _)]; rfl
          rw [← hW1] at v2 X1 HST TW n0
          have M1 := hid m1
          have M2 := hid m2
          have V2 := hid v2
          have l1 : wr.heap.size < W1.heap.size := by omega
          have l2 : w.heap.size < W1.heap.size := by omega
          have HW1 := hid hW1
          clear hW1
          go_wp2_with fail
          rw [← HW1.out]
          go_region_held3 (fun w' => w'.cell? ⟨wr.heap.size, 0, none⟩ = some (.string nm) ∧ w'.cell? ⟨wr.heap.size, 1, none⟩ = some (.pointer (some ⟨w.heap.size, 4 + i, none⟩)) ∧ w'.cell? ⟨w.heap.size, 4 + i, none⟩ = some (.int .i64 v)) (first | go_keep | exact ⟨q1, q2, q3⟩ | exact ⟨p1, p2, p3⟩)
            (first
              | (refine step_append_arr _ eltS (by rfl) (.tmp 34) (.tmp 42) (by rfl) (w.heap.size + 1) _ n (n + 2) _ (by rfl) (R2.out.alloc _).2.2.1 encS (fun _ => rfl) oneS _ _ [nm, s5] 2 2 (by rfl) (by rfl) (arr_two (heap_alloc_new _ _) (Nat.lt_succ_self _)) (by omega) (by omega) (R2.out.alloc _).base ?_; intro A7 c7 w7 own7 gr7 at7; have R3 := hid ((R2.out.alloc _).push (wl' := wordsTo ⟨p, 1, W, H, a0, a1, a2, a3, a4⟩ (i + 1)) (by rw [MM.out, HS5.out, NB.out]) rfl own7 gr7); have hz := HB5.out.size; have p1 := cellG q1 (Nat.lt_of_lt_of_le l1 hz) gr7 (fun e => by have := HROW.out _ e.symm; dsimp only at this; omega); have p2 := cellG q2 (Nat.lt_of_lt_of_le l1 hz) gr7 (fun e => by have := HROW.out _ e.symm; dsimp only at this; omega); have p3 := cellG q3 (Nat.lt_of_lt_of_le l2 hz) gr7 (fun e => by have := HROW.out _ e.symm; dsimp only at this; omega); have hg5 : gs < W1.heap.size := (Array.getElem?_eq_some_iff.1 HST.out).1; have STY := hid ((gr7.block gs (Nat.lt_of_lt_of_le (Nat.lt_of_lt_of_le hg5 hz) (by simp)) (fun e => NE.out _ e.symm rfl)).trans ((heap_alloc_old w5 _ (Nat.lt_of_lt_of_le hg5 hz)).trans ((HB5.out.block gs hg5).trans HST.out))); have NE7 := hid (fun q (hq : (Value.slice A7 (n + 2) c7).ownBlock = some q) (e : q = gs) => by rcases at7 q hq with h | h; exact NE.out q h e; simp at h; omega); clear own7 gr7 at7 hz hg5)
              | ((with_reducible refine (DVi.out _ TW.out.drew).mono ?_); rintro e w5 ⟨s5, rfl, hs5, hb5⟩; have HB5 := hid (Below_of_drew hb5); have R2 := hid (X1.out.next HB5.out); have q1 := (HB5.out.cell (p := ⟨wr.heap.size, 0, none⟩) l1).trans M1.out; have q2 := (HB5.out.cell (p := ⟨wr.heap.size, 1, none⟩) l1).trans M2.out; have q3 := (HB5.out.cell (p := ⟨w.heap.size, 4 + i, none⟩) l2).trans V2.out; have HS5 := hid hs5; clear hs5 hb5; dsimp only))
          have XR : Aside (TxRel w ⟨p, 1, W, H, a0, a1, a2, a3, a4⟩ gs ty (i + 1) A7 (n + 2) c7 w7) := ⟨ws ++ [nm, s5], R3.out, STY.out, NE7.out⟩
          have XB := hid R3.out.2.2.2.2
          go_wp2
          go_roundg (5 - (i + 1))
          case measure => omega
          case rel => exact ⟨i + 1, n + 2, c7, A7, by omega, by omega, rfl, by go_num, XR, XB.out⟩
      · obtain rfl : i = 5 := by omega
        have hle := slice_le R1.2.2.1
        have JN := hid (join_any A ws n c ⟨#[32]⟩ (textL ⟨p, 1, W, H, a0, a1, a2, a3, a4⟩) wr R1.1 hle.1 (by have := R1.len (Nat.le_refl 5); rw [R1.1] at this; omega) (by rw [R1.2.1]; exact E5) (by have := TLN.out; omega) (OwnA.of_rowN (enc := encS) (k := 1) (fun _ => rfl) R1.1 rfl R1.2.2.1).arr)
        have XB := hid HB.2
        clear R RR R1 hst hne HB BW hle
        go_wp2_with fail
        refine JN.out.mono ?_
        rintro e w9 ⟨s, rfl, hs, hb9⟩
        have HS := hid hs
        have HB9 := hid hb9
        clear hs hb9
        go_wp2
        go_ret
        exact ⟨s, rfl, HS.out, chain XB.out HB9.out⟩
  · have KL := hid hks
    clear hks
    obtain ⟨-, c1, c2, c3, -⟩ := B0.out.cells
    have C1 := hid c1
    have hix : ∀ W : World, (Instr.index 64 (.agg #[.string ⟨#[108, 101, 97, 102]⟩, .string ⟨#[98, 108, 111, 99, 107]⟩, .string ⟨#[114, 111, 119]⟩, .string ⟨#[99, 111, 108, 117, 109, 110]⟩]) (.int .i64 2)).run Tryd.prog W = .ok (.string ⟨#[114, 111, 119]⟩) W := fun W => (idx_kind W).2.2.1
    clear c2 c3
    go_enter Tryd.func16, Tryd.ntmps16
    go_wp2_with fail
    go_region_held3 (fun w' => w'.cell? ⟨w.heap.size, 1, none⟩ = some (.int .i64 2)) (first | go_keep | exact q1)
      (((with_reducible refine (KN.out _).mono ?_); rintro e w3 ⟨rfl, hb3⟩; have B3 := hid (B0.out.drew.next hb3); obtain ⟨-, q1, -⟩ := B3.out.cells; clear hb3; dsimp only))
    have T3 := hid (TB.out.next B3.out.2)
    have own0 := World.ownsRow_lit (e := 9) (size := 1) (base := w.heap.size + 1) w3 #[.string ⟨#[114, 111, 119]⟩] 1 B3.out.lt (by simp [maxLen]) rfl
    have R0 : Aside (TxRow w [⟨#[114, 111, 119]⟩] (wordsTo ⟨p, 2, W, H, a0, a1, a2, a3, a4⟩ 0) ⟨p, 2, W, H, a0, a1, a2, a3, a4⟩ (some ⟨w3.heap.size, 0, none⟩) 1 1 (w3.alloc (.cells #[.string ⟨#[114, 111, 119]⟩] 9))) := ⟨rfl, (by rw [W0.out]; show [bl ⟨#[114, 111, 119]⟩] = headW ⟨p, 2, W, H, a0, a1, a2, a3, a4⟩; unfold headW; rw [if_neg (show ¬ (2 : Int) = 0 by decide), KL.out]; rfl), own0, B3.out.alloc _⟩
    have T4 := hid (T3.out.alloc (.cells #[.string ⟨#[114, 111, 119]⟩] 9))
    clear own0 q1 hix
    have R3 := hid R0.out
    have TT := hid T4.out
    obtain ⟨-, c1, -⟩ := R0.out.2.2.2.cells
    go_wp2_with fail
    refine (ST.out w.heap.size _).mono ?_
    rintro e w8 ⟨gs, ty, rfl, hgs, hge, hb8⟩
    have RR : Aside (TxRel w ⟨p, 2, W, H, a0, a1, a2, a3, a4⟩ gs ty 0 (some ⟨w3.heap.size, 0, none⟩) 1 1 w8) := ⟨_, R3.out.next hb8, hgs, fun q hq e => by have := (R3.out.2.2.1.lt q hq).2; omega⟩
    have T8 := hid (TT.out.next hb8)
    have BX := hid (R3.out.next hb8).2.2.2.2
    clear hgs hge hb8 R3 TT R0 T4 T3 B3 c1
    go_wp2
    go_loopg [3, 5, 25] 5 (fun gg s3 _ s25 wr => ∃ (i n c : Nat) (A : Option Addr), i ≤ 5 ∧ 5 - i ≤ gg ∧ s3 = .slice A n c ∧ s25 = .int .i64 i ∧ Aside (TxRel w ⟨p, 2, W, H, a0, a1, a2, a3, a4⟩ gs ty i A n c wr) ∧ Aside (Below w.heap.size w wr))
    case atStart => exact ⟨0, _, _, _, Nat.zero_le _, by omega, rfl, rfl, RR, BX.out⟩
    case round =>
      obtain ⟨i, n, c, A, hi, hgg, rfl, rfl, R, BW⟩ := hrel
      obtain ⟨ws, R1, hst, hne⟩ := R.out
      have HB := R1.2.2.2
      by_cases hlt : i < 5
      · obtain ⟨n1, n2⟩ := style_cells hst hlt
        have v1 := HB.val hlt
        obtain ⟨vb1, vb2⟩ := VB.out i
        have nl := R1.len hi
        have k1 : (0 : Int) ≤ (i : Int) := by omega
        have k2 : (i : Int) < 5 := by omega
        have X1 := hid (R1.alloc (.cells #[.string (nameS i), .pointer (some ⟨w.heap.size, 4 + i, none⟩)] 69))
        have hgl := (Array.getElem?_eq_some_iff.1 hst).1
        have HST := hid (show (wr.alloc (.cells #[.string (nameS i), .pointer (some ⟨w.heap.size, 4 + i, none⟩)] 69)).heap[gs]? = _ from (heap_alloc_old wr _ hgl).trans hst)
        have v2 := X1.out.2.2.2.val hlt
        have NE := hid hne
        have HROW := hid (fun q hq => R1.2.2.1.lt q hq)
        have TW := hid (TB.out.next X1.out.2.2.2.2)
        have NB := hid (nameS_bl i)
        have hbx : w.heap.size < wr.heap.size := HB.lt
        have n0 : (wr.alloc (.cells #[.string (nameS i), .pointer (some ⟨w.heap.size, 4 + i, none⟩)] 69)).heap.size = wr.heap.size + 1 := by simp
        by_cases hv : valB ⟨p, 2, W, H, a0, a1, a2, a3, a4⟩ i = 0
        · have MM := hid (SM.out i hv)
          rw [hv] at v1 v2
          have XR : Aside (TxRel w ⟨p, 2, W, H, a0, a1, a2, a3, a4⟩ gs ty (i + 1) A n c (wr.alloc (.cells #[.string (nameS i), .pointer (some ⟨w.heap.size, 4 + i, none⟩)] 69))) := ⟨ws, ⟨X1.out.1, by rw [MM.out]; exact X1.out.2.1, X1.out.2.2.1, X1.out.2.2.2⟩, HST.out, NE.out⟩
          have XB := hid X1.out.2.2.2.2
          clear hv vb1 vb2 R RR R1 hst hne HB BW n0 nl
          generalize nameS i = nm at *
          go_wp2
          go_roundg (5 - (i + 1))
          case measure => omega
          case rel => exact ⟨i + 1, n, c, A, by omega, by omega, rfl, by go_num, XR, XB.out⟩
        · have MM := hid (MO.out i hv)
          have DVi := hid (DV.out i)
          have hvp : (valB ⟨p, 2, W, H, a0, a1, a2, a3, a4⟩ i == 0) = false := by rw [beq_eq_false_iff_ne]; exact hv
          have hvq : (valB ⟨p, 2, W, H, a0, a1, a2, a3, a4⟩ i != 0) = true := by rw [bne_iff_ne]; exact hv
          clear hv R RR R1 hst hne HB BW
          generalize valB ⟨p, 2, W, H, a0, a1, a2, a3, a4⟩ i = v at *
          generalize nameS i = nm at *
          have V2 := hid v2
          obtain ⟨W1, hW1⟩ : ∃ W1, W1 = wr.alloc (.cells #[.string nm, .pointer (some ⟨w.heap.size, 4 + i, none⟩)] 69) := ⟨_, rfl⟩
          have m1 : W1.cell? ⟨wr.heap.size, 0, none⟩ = some (.string nm) := by rw [hW1, cell_of_row _ _ _ _ _ _ (heap_alloc_new wr _)]; rfl
          have m2 : W1.cell? ⟨wr.heap.size, 1, none⟩ = some (.pointer (some ⟨w.heap.size, 4 + i, none⟩)) := by rw [hW1, cell_of_row _ _ _ _ _ _ (heap_alloc_new wr _)]; rfl
          rw [← hW1] at v2 X1 HST TW n0
          have M1 := hid m1
          have M2 := hid m2
          have V2 := hid v2
          have l1 : wr.heap.size < W1.heap.size := by omega
          have l2 : w.heap.size < W1.heap.size := by omega
          have HW1 := hid hW1
          clear hW1
          go_wp2_with fail
          rw [← HW1.out]
          go_region_held3 (fun w' => w'.cell? ⟨wr.heap.size, 0, none⟩ = some (.string nm) ∧ w'.cell? ⟨wr.heap.size, 1, none⟩ = some (.pointer (some ⟨w.heap.size, 4 + i, none⟩)) ∧ w'.cell? ⟨w.heap.size, 4 + i, none⟩ = some (.int .i64 v)) (first | go_keep | exact ⟨q1, q2, q3⟩ | exact ⟨p1, p2, p3⟩)
            (first
              | (refine step_append_arr _ eltS (by rfl) (.tmp 34) (.tmp 42) (by rfl) (w.heap.size + 1) _ n (n + 2) _ (by rfl) (R2.out.alloc _).2.2.1 encS (fun _ => rfl) oneS _ _ [nm, s5] 2 2 (by rfl) (by rfl) (arr_two (heap_alloc_new _ _) (Nat.lt_succ_self _)) (by omega) (by omega) (R2.out.alloc _).base ?_; intro A7 c7 w7 own7 gr7 at7; have R3 := hid ((R2.out.alloc _).push (wl' := wordsTo ⟨p, 2, W, H, a0, a1, a2, a3, a4⟩ (i + 1)) (by rw [MM.out, HS5.out, NB.out]) rfl own7 gr7); have hz := HB5.out.size; have p1 := cellG q1 (Nat.lt_of_lt_of_le l1 hz) gr7 (fun e => by have := HROW.out _ e.symm; dsimp only at this; omega); have p2 := cellG q2 (Nat.lt_of_lt_of_le l1 hz) gr7 (fun e => by have := HROW.out _ e.symm; dsimp only at this; omega); have p3 := cellG q3 (Nat.lt_of_lt_of_le l2 hz) gr7 (fun e => by have := HROW.out _ e.symm; dsimp only at this; omega); have hg5 : gs < W1.heap.size := (Array.getElem?_eq_some_iff.1 HST.out).1; have STY := hid ((gr7.block gs (Nat.lt_of_lt_of_le (Nat.lt_of_lt_of_le hg5 hz) (by simp)) (fun e => NE.out _ e.symm rfl)).trans ((heap_alloc_old w5 _ (Nat.lt_of_lt_of_le hg5 hz)).trans ((HB5.out.block gs hg5).trans HST.out))); have NE7 := hid (fun q (hq : (Value.slice A7 (n + 2) c7).ownBlock = some q) (e : q = gs) => by rcases at7 q hq with h | h; exact NE.out q h e; simp at h; omega); clear own7 gr7 at7 hz hg5)
              | ((with_reducible refine (DVi.out _ TW.out.drew).mono ?_); rintro e w5 ⟨s5, rfl, hs5, hb5⟩; have HB5 := hid (Below_of_drew hb5); have R2 := hid (X1.out.next HB5.out); have q1 := (HB5.out.cell (p := ⟨wr.heap.size, 0, none⟩) l1).trans M1.out; have q2 := (HB5.out.cell (p := ⟨wr.heap.size, 1, none⟩) l1).trans M2.out; have q3 := (HB5.out.cell (p := ⟨w.heap.size, 4 + i, none⟩) l2).trans V2.out; have HS5 := hid hs5; clear hs5 hb5; dsimp only))
          have XR : Aside (TxRel w ⟨p, 2, W, H, a0, a1, a2, a3, a4⟩ gs ty (i + 1) A7 (n + 2) c7 w7) := ⟨ws ++ [nm, s5], R3.out, STY.out, NE7.out⟩
          have XB := hid R3.out.2.2.2.2
          go_wp2
          go_roundg (5 - (i + 1))
          case measure => omega
          case rel => exact ⟨i + 1, n + 2, c7, A7, by omega, by omega, rfl, by go_num, XR, XB.out⟩
      · obtain rfl : i = 5 := by omega
        have hle := slice_le R1.2.2.1
        have JN := hid (join_any A ws n c ⟨#[32]⟩ (textL ⟨p, 2, W, H, a0, a1, a2, a3, a4⟩) wr R1.1 hle.1 (by have := R1.len (Nat.le_refl 5); rw [R1.1] at this; omega) (by rw [R1.2.1]; exact E5) (by have := TLN.out; omega) (OwnA.of_rowN (enc := encS) (k := 1) (fun _ => rfl) R1.1 rfl R1.2.2.1).arr)
        have XB := hid HB.2
        clear R RR R1 hst hne HB BW hle
        go_wp2_with fail
        refine JN.out.mono ?_
        rintro e w9 ⟨s, rfl, hs, hb9⟩
        have HS := hid hs
        have HB9 := hid hb9
        clear hs hb9
        go_wp2
        go_ret
        exact ⟨s, rfl, HS.out, chain XB.out HB9.out⟩
  · have KL := hid hks
    clear hks
    obtain ⟨-, c1, c2, c3, -⟩ := B0.out.cells
    have C1 := hid c1
    have hix : ∀ W : World, (Instr.index 64 (.agg #[.string ⟨#[108, 101, 97, 102]⟩, .string ⟨#[98, 108, 111, 99, 107]⟩, .string ⟨#[114, 111, 119]⟩, .string ⟨#[99, 111, 108, 117, 109, 110]⟩]) (.int .i64 3)).run Tryd.prog W = .ok (.string ⟨#[99, 111, 108, 117, 109, 110]⟩) W := fun W => (idx_kind W).2.2.2
    clear c2 c3
    go_enter Tryd.func16, Tryd.ntmps16
    go_wp2_with fail
    go_region_held3 (fun w' => w'.cell? ⟨w.heap.size, 1, none⟩ = some (.int .i64 3)) (first | go_keep | exact q1)
      (((with_reducible refine (KN.out _).mono ?_); rintro e w3 ⟨rfl, hb3⟩; have B3 := hid (B0.out.drew.next hb3); obtain ⟨-, q1, -⟩ := B3.out.cells; clear hb3; dsimp only))
    have T3 := hid (TB.out.next B3.out.2)
    have own0 := World.ownsRow_lit (e := 9) (size := 1) (base := w.heap.size + 1) w3 #[.string ⟨#[99, 111, 108, 117, 109, 110]⟩] 1 B3.out.lt (by simp [maxLen]) rfl
    have R0 : Aside (TxRow w [⟨#[99, 111, 108, 117, 109, 110]⟩] (wordsTo ⟨p, 3, W, H, a0, a1, a2, a3, a4⟩ 0) ⟨p, 3, W, H, a0, a1, a2, a3, a4⟩ (some ⟨w3.heap.size, 0, none⟩) 1 1 (w3.alloc (.cells #[.string ⟨#[99, 111, 108, 117, 109, 110]⟩] 9))) := ⟨rfl, (by rw [W0.out]; show [bl ⟨#[99, 111, 108, 117, 109, 110]⟩] = headW ⟨p, 3, W, H, a0, a1, a2, a3, a4⟩; unfold headW; rw [if_neg (show ¬ (3 : Int) = 0 by decide), KL.out]; rfl), own0, B3.out.alloc _⟩
    have T4 := hid (T3.out.alloc (.cells #[.string ⟨#[99, 111, 108, 117, 109, 110]⟩] 9))
    clear own0 q1 hix
    have R3 := hid R0.out
    have TT := hid T4.out
    obtain ⟨-, c1, -⟩ := R0.out.2.2.2.cells
    go_wp2_with fail
    refine (ST.out w.heap.size _).mono ?_
    rintro e w8 ⟨gs, ty, rfl, hgs, hge, hb8⟩
    have RR : Aside (TxRel w ⟨p, 3, W, H, a0, a1, a2, a3, a4⟩ gs ty 0 (some ⟨w3.heap.size, 0, none⟩) 1 1 w8) := ⟨_, R3.out.next hb8, hgs, fun q hq e => by have := (R3.out.2.2.1.lt q hq).2; omega⟩
    have T8 := hid (TT.out.next hb8)
    have BX := hid (R3.out.next hb8).2.2.2.2
    clear hgs hge hb8 R3 TT R0 T4 T3 B3 c1
    go_wp2
    go_loopg [3, 5, 25] 5 (fun gg s3 _ s25 wr => ∃ (i n c : Nat) (A : Option Addr), i ≤ 5 ∧ 5 - i ≤ gg ∧ s3 = .slice A n c ∧ s25 = .int .i64 i ∧ Aside (TxRel w ⟨p, 3, W, H, a0, a1, a2, a3, a4⟩ gs ty i A n c wr) ∧ Aside (Below w.heap.size w wr))
    case atStart => exact ⟨0, _, _, _, Nat.zero_le _, by omega, rfl, rfl, RR, BX.out⟩
    case round =>
      obtain ⟨i, n, c, A, hi, hgg, rfl, rfl, R, BW⟩ := hrel
      obtain ⟨ws, R1, hst, hne⟩ := R.out
      have HB := R1.2.2.2
      by_cases hlt : i < 5
      · obtain ⟨n1, n2⟩ := style_cells hst hlt
        have v1 := HB.val hlt
        obtain ⟨vb1, vb2⟩ := VB.out i
        have nl := R1.len hi
        have k1 : (0 : Int) ≤ (i : Int) := by omega
        have k2 : (i : Int) < 5 := by omega
        have X1 := hid (R1.alloc (.cells #[.string (nameS i), .pointer (some ⟨w.heap.size, 4 + i, none⟩)] 69))
        have hgl := (Array.getElem?_eq_some_iff.1 hst).1
        have HST := hid (show (wr.alloc (.cells #[.string (nameS i), .pointer (some ⟨w.heap.size, 4 + i, none⟩)] 69)).heap[gs]? = _ from (heap_alloc_old wr _ hgl).trans hst)
        have v2 := X1.out.2.2.2.val hlt
        have NE := hid hne
        have HROW := hid (fun q hq => R1.2.2.1.lt q hq)
        have TW := hid (TB.out.next X1.out.2.2.2.2)
        have NB := hid (nameS_bl i)
        have hbx : w.heap.size < wr.heap.size := HB.lt
        have n0 : (wr.alloc (.cells #[.string (nameS i), .pointer (some ⟨w.heap.size, 4 + i, none⟩)] 69)).heap.size = wr.heap.size + 1 := by simp
        by_cases hv : valB ⟨p, 3, W, H, a0, a1, a2, a3, a4⟩ i = 0
        · have MM := hid (SM.out i hv)
          rw [hv] at v1 v2
          have XR : Aside (TxRel w ⟨p, 3, W, H, a0, a1, a2, a3, a4⟩ gs ty (i + 1) A n c (wr.alloc (.cells #[.string (nameS i), .pointer (some ⟨w.heap.size, 4 + i, none⟩)] 69))) := ⟨ws, ⟨X1.out.1, by rw [MM.out]; exact X1.out.2.1, X1.out.2.2.1, X1.out.2.2.2⟩, HST.out, NE.out⟩
          have XB := hid X1.out.2.2.2.2
          clear hv vb1 vb2 R RR R1 hst hne HB BW n0 nl
          generalize nameS i = nm at *
          go_wp2
          go_roundg (5 - (i + 1))
          case measure => omega
          case rel => exact ⟨i + 1, n, c, A, by omega, by omega, rfl, by go_num, XR, XB.out⟩
        · have MM := hid (MO.out i hv)
          have DVi := hid (DV.out i)
          have hvp : (valB ⟨p, 3, W, H, a0, a1, a2, a3, a4⟩ i == 0) = false := by rw [beq_eq_false_iff_ne]; exact hv
          have hvq : (valB ⟨p, 3, W, H, a0, a1, a2, a3, a4⟩ i != 0) = true := by rw [bne_iff_ne]; exact hv
          clear hv R RR R1 hst hne HB BW
          generalize valB ⟨p, 3, W, H, a0, a1, a2, a3, a4⟩ i = v at *
          generalize nameS i = nm at *
          have V2 := hid v2
          obtain ⟨W1, hW1⟩ : ∃ W1, W1 = wr.alloc (.cells #[.string nm, .pointer (some ⟨w.heap.size, 4 + i, none⟩)] 69) := ⟨_, rfl⟩
          have m1 : W1.cell? ⟨wr.heap.size, 0, none⟩ = some (.string nm) := by rw [hW1, cell_of_row _ _ _ _ _ _ (heap_alloc_new wr _)]; rfl
          have m2 : W1.cell? ⟨wr.heap.size, 1, none⟩ = some (.pointer (some ⟨w.heap.size, 4 + i, none⟩)) := by rw [hW1, cell_of_row _ _ _ _ _ _ (heap_alloc_new wr _)]; rfl
          rw [← hW1] at v2 X1 HST TW n0
          have M1 := hid m1
          have M2 := hid m2
          have V2 := hid v2
          have l1 : wr.heap.size < W1.heap.size := by omega
          have l2 : w.heap.size < W1.heap.size := by omega
          have HW1 := hid hW1
          clear hW1
          go_wp2_with fail
          rw [← HW1.out]
          go_region_held3 (fun w' => w'.cell? ⟨wr.heap.size, 0, none⟩ = some (.string nm) ∧ w'.cell? ⟨wr.heap.size, 1, none⟩ = some (.pointer (some ⟨w.heap.size, 4 + i, none⟩)) ∧ w'.cell? ⟨w.heap.size, 4 + i, none⟩ = some (.int .i64 v)) (first | go_keep | exact ⟨q1, q2, q3⟩ | exact ⟨p1, p2, p3⟩)
            (first
              | (refine step_append_arr _ eltS (by rfl) (.tmp 34) (.tmp 42) (by rfl) (w.heap.size + 1) _ n (n + 2) _ (by rfl) (R2.out.alloc _).2.2.1 encS (fun _ => rfl) oneS _ _ [nm, s5] 2 2 (by rfl) (by rfl) (arr_two (heap_alloc_new _ _) (Nat.lt_succ_self _)) (by omega) (by omega) (R2.out.alloc _).base ?_; intro A7 c7 w7 own7 gr7 at7; have R3 := hid ((R2.out.alloc _).push (wl' := wordsTo ⟨p, 3, W, H, a0, a1, a2, a3, a4⟩ (i + 1)) (by rw [MM.out, HS5.out, NB.out]) rfl own7 gr7); have hz := HB5.out.size; have p1 := cellG q1 (Nat.lt_of_lt_of_le l1 hz) gr7 (fun e => by have := HROW.out _ e.symm; dsimp only at this; omega); have p2 := cellG q2 (Nat.lt_of_lt_of_le l1 hz) gr7 (fun e => by have := HROW.out _ e.symm; dsimp only at this; omega); have p3 := cellG q3 (Nat.lt_of_lt_of_le l2 hz) gr7 (fun e => by have := HROW.out _ e.symm; dsimp only at this; omega); have hg5 : gs < W1.heap.size := (Array.getElem?_eq_some_iff.1 HST.out).1; have STY := hid ((gr7.block gs (Nat.lt_of_lt_of_le (Nat.lt_of_lt_of_le hg5 hz) (by simp)) (fun e => NE.out _ e.symm rfl)).trans ((heap_alloc_old w5 _ (Nat.lt_of_lt_of_le hg5 hz)).trans ((HB5.out.block gs hg5).trans HST.out))); have NE7 := hid (fun q (hq : (Value.slice A7 (n + 2) c7).ownBlock = some q) (e : q = gs) => by rcases at7 q hq with h | h; exact NE.out q h e; simp at h; omega); clear own7 gr7 at7 hz hg5)
              | ((with_reducible refine (DVi.out _ TW.out.drew).mono ?_); rintro e w5 ⟨s5, rfl, hs5, hb5⟩; have HB5 := hid (Below_of_drew hb5); have R2 := hid (X1.out.next HB5.out); have q1 := (HB5.out.cell (p := ⟨wr.heap.size, 0, none⟩) l1).trans M1.out; have q2 := (HB5.out.cell (p := ⟨wr.heap.size, 1, none⟩) l1).trans M2.out; have q3 := (HB5.out.cell (p := ⟨w.heap.size, 4 + i, none⟩) l2).trans V2.out; have HS5 := hid hs5; clear hs5 hb5; dsimp only))
          have XR : Aside (TxRel w ⟨p, 3, W, H, a0, a1, a2, a3, a4⟩ gs ty (i + 1) A7 (n + 2) c7 w7) := ⟨ws ++ [nm, s5], R3.out, STY.out, NE7.out⟩
          have XB := hid R3.out.2.2.2.2
          go_wp2
          go_roundg (5 - (i + 1))
          case measure => omega
          case rel => exact ⟨i + 1, n + 2, c7, A7, by omega, by omega, rfl, by go_num, XR, XB.out⟩
      · obtain rfl : i = 5 := by omega
        have hle := slice_le R1.2.2.1
        have JN := hid (join_any A ws n c ⟨#[32]⟩ (textL ⟨p, 3, W, H, a0, a1, a2, a3, a4⟩) wr R1.1 hle.1 (by have := R1.len (Nat.le_refl 5); rw [R1.1] at this; omega) (by rw [R1.2.1]; exact E5) (by have := TLN.out; omega) (OwnA.of_rowN (enc := encS) (k := 1) (fun _ => rfl) R1.1 rfl R1.2.2.1).arr)
        have XB := hid HB.2
        clear R RR R1 hst hne HB BW hle
        go_wp2_with fail
        refine JN.out.mono ?_
        rintro e w9 ⟨s, rfl, hs, hb9⟩
        have HS := hid hs
        have HB9 := hid hb9
        clear hs hb9
        go_wp2
        go_ret
        exact ⟨s, rfl, HS.out, chain XB.out HB9.out⟩
end Go.Proofs.YtimpieddkkkgfaaDoor
