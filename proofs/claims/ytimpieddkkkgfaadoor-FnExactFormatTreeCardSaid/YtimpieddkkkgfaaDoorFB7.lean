/- impl.FormatTree. -/
import Derived.Test.YtimpieddkkkgfaaDoorFB6
import Derived.Test.YtimpieddkkkgfaaDoorB7
namespace Go.Proofs.YtimpieddkkkgfaaDoor
set_option linter.unusedVariables false
set_option linter.unusedSimpArgs false
open Go.RowKit Go.Lib

theorem arr_oneS {W : World} {g B : Nat} {x : ByteArray} {t : TypeId} (h : W.heap[g]? = some (.cells #[.string x] t (0, 0))) (hB : g < B) : Arr W B 1 encS (some ⟨g, 0, none⟩) [x] := fun _ => by
  refine ⟨g, 0, rfl, hB, fun i u hu j v hv => ?_⟩
  cases i with
  | zero =>
    simp at hu
    subst hu
    rw [cell_of_row W g _ _ _ _ h]
    simpa [encS] using hv
  | succ i => simp at hu
/-- The lines so far, in a row of the call's own. -/
def FtRow (w : World) (ws : List ByteArray) (T : List BoxD) (i : Nat) (A : Option Addr) (n c : Nat) (w' : World) : Prop :=
  n = ws.length ∧ ws.map bl = linesTo T i ∧ w'.ownsRow w.heap.size 9 1 (.slice A n c) n (ws.flatMap encS) ∧ Below w.heap.size w w'
section
variable {w w' w2 : World} {ws : List ByteArray} {T : List BoxD} {i n c : Nat} {A : Option Addr}
theorem FtRow.next (h : FtRow w ws T i A n c w') (hb : Below w'.heap.size w' w2) : FtRow w ws T i A n c w2 := ⟨h.1, h.2.1, row_next h.2.2.1 hb, h.2.2.2.trans (hb.mono h.2.2.2.size)⟩
theorem FtRow.alloc (h : FtRow w ws T i A n c w') (o : Obj) : FtRow w ws T i A n c (w'.alloc o) := h.next ((Below.refl _ _).alloc (Nat.le_refl _) o)
theorem FtRow.drew (h : FtRow w ws T i A n c w') : FtRow w ws T i A n c w'.drew := h.next (Below.refl _ _).drew
theorem FtRow.len (h : FtRow w ws T i A n c w') : n = i := by
  have := linesTo_len T i
  rw [← h.2.1, List.length_map, ← h.1] at this
  exact this
theorem FtRow.push {w6 : World} {N c6 : Nat} {A6 : Option Addr} {x : ByteArray} (h : FtRow w ws T i A n c w') (hx : bl x = lineL T i) (hN : N = n + 1)
    (own6 : w6.ownsRow w.heap.size 9 1 (.slice A6 N c6) N (ws.flatMap encS ++ [x].flatMap encS)) (gr6 : w'.grownBy w6 (Value.slice A n c).ownBlock) : FtRow w (ws ++ [x]) T (i + 1) A6 N c6 w6 := by
  obtain ⟨h1, h2, h3, h4⟩ := h
  exact ⟨by rw [hN, h1]; simp, by rw [List.map_append, h2, linesTo_next, ← hx]; rfl, by rw [List.flatMap_append]; exact own6, h4.grown gr6 h4.size (fun q hq => (h3.lt q hq).1)⟩
end
/-- The nine cells of a box's block. -/
def Box9 (g : Nat) (x : BoxD) (w' : World) : Prop := w'.cell? ⟨g, 0, none⟩ = some (.int .i64 x.Parent) ∧ w'.cell? ⟨g, 1, none⟩ = some (.int .i64 x.Kind) ∧ w'.cell? ⟨g, 2, none⟩ = some (.int .i64 x.W) ∧ w'.cell? ⟨g, 3, none⟩ = some (.int .i64 x.H) ∧ w'.cell? ⟨g, 4, none⟩ = some (.int .i64 x.Pad) ∧ w'.cell? ⟨g, 5, none⟩ = some (.int .i64 x.Gap) ∧ w'.cell? ⟨g, 6, none⟩ = some (.int .i64 x.Grow) ∧ w'.cell? ⟨g, 7, none⟩ = some (.int .i64 x.Shrink) ∧ w'.cell? ⟨g, 8, none⟩ = some (.int .i64 x.Justify)
theorem box9 {w' : World} {g : Nat} {x : BoxD} (h : w'.heap[g]? = some (.cells #[.int .i64 x.Parent, .int .i64 x.Kind, .int .i64 x.W, .int .i64 x.H, .int .i64 x.Pad, .int .i64 x.Gap, .int .i64 x.Grow, .int .i64 x.Shrink, .int .i64 x.Justify] 33 (0, 0))) : Box9 g x w' := by
  unfold Box9
  refine ⟨?_, ?_, ?_, ?_, ?_, ?_, ?_, ?_, ?_⟩
  all_goals (rw [cell_of_row _ _ _ _ _ _ h]; rfl)

set_option maxHeartbeats 4000000 in
theorem format_any (A : Option Addr) (T : List BoxD) (c : Nat) (w : World) (hL : T.length ≤ 1048576) (ht : Tab w) (h : Arr w w.heap.size 9 encBox A T) :
    Calls Tryd.prog 7 #[.slice A T.length c] w (Texted (treeL T) w) := by
  have hv := validTree_any A T c w hL h
  cases hok : validB T
  · rw [hok] at hv
    rw [treeL_no hok]
    clear h hok
    go_enter Tryd.func7, Tryd.ntmps7
    go_wp2_with fail
    refine hv.mono ?_
    rintro e w1 ⟨rfl, b1⟩
    have B1 := hid b1
    clear b1 hv
    go_wp2
    go_ret
    exact ⟨⟨#[]⟩, rfl, rfl, B1.out⟩
  · rw [hok] at hv
    rw [treeL_yes hok]
    obtain ⟨l1, l2⟩ := valid_len hok
    have VA := hid (fun i hi => valid_at (T := T) (i := i) hok hi)
    have PT := hid (fun i (hi : i < T.length) W hW => path_any A T c i W hL hi (by omega) ((valid_desc hok).less (by omega)) hW)
    have TX := hid (fun x W hs hT => text_any x W hs hT)
    have TL := hid (treeTo_len hok T.length (Nat.le_refl _))
    have TB := hid ht
    have H := hid h
    have JJ : Aside (Lib.join (linesTo T T.length) (bl ⟨#[10]⟩) = treeTo T T.length) := rfl
    clear h hok ht
    go_enter Tryd.func7, Tryd.ntmps7
    go_wp2_with fail
    refine hv.mono ?_
    rintro e w1 ⟨rfl, b1⟩
    have B1 := hid b1
    clear b1 hv
    go_wp2_with (at_make; refine wpList_make0 _ eltS rfl _ (.tmp 10) rfl T.length rfl rfl (by omega) ?_; intro w2 own2 hb2)
    have R0 : Aside (FtRow w [] T 0 (some ⟨w1.heap.size, 0, none⟩) 0 T.length w2) := ⟨rfl, rfl, by
      have := own2
      refine ⟨this.1, ?_⟩
      rcases this.2 with h | ⟨g, cap, cur, e1, hb, rest⟩
      · exact .inl h
      · exact .inr ⟨g, cap, cur, e1, Nat.le_trans B1.out.size hb, rest⟩, chain B1.out hb2⟩
    clear own2 hb2
    go_loopg [3, 4, 5, 14] T.length (fun gg s3 _ _ s14 wr => ∃ (i n c : Nat) (A5 : Option Addr), i ≤ T.length ∧ T.length - i ≤ gg ∧ s3 = .slice A5 n c ∧ s14 = .int .i64 i ∧ Aside (∃ ws, FtRow w ws T i A5 n c wr))
    case atStart => exact ⟨0, _, _, _, Nat.zero_le _, by omega, rfl, rfl, _, R0⟩
    case round =>
      obtain ⟨i, n, c5, A5, hi, hgg, rfl, rfl, R⟩ := hrel
      obtain ⟨ws, R1⟩ := R.out
      have hni := R1.len
      by_cases hlt : i < T.length
      · obtain ⟨b, off, x, rfl, hb, hx, d0, d1, d2, d3, d4, d5, d6, d7, d8⟩ := (H.out.below R1.2.2.2).atBox hlt
        have hxb := boxAt_of hx
        obtain ⟨va1, va2, va3⟩ := VA.out i hlt
        rw [hxb] at va1
        have TXX := hid (fun W hT => TX.out x W va1 hT)
        have LN : Aside (lineL T i = dashL (deepN T i) ++ textL x) := by show _ = _; unfold lineL; rw [hxb]
        have PTT := hid (fun W hW => PT.out i hlt W hW)
        have hP : (asI (pathOf T i)).length = deepN T i + 1 := by
          unfold asI pathOf deepN
          rw [List.length_map, List.length_reverse]
          omega
        have hD6 : deepN T i ≤ 6 := by unfold deepN; omega
        have TXL := hid (textL_len va1)
        obtain ⟨n1, hn1⟩ : ∃ n1, n1 = deepN T i + 1 := ⟨_, rfl⟩
        rw [← hn1] at hP
        have HP := hid hP
        have w1e : IntKind.i64.wrap ((n1 : Int) - 1) = ((deepN T i : Nat) : Int) := by rw [hn1, IntWalk.i64_in _ (by omega)]; omega
        have DD := hid (fun W => dash_any (deepN T i) W (by omega))
        have HNI := hid hni
        have hn16 : n ≤ 16 := by omega
        clear hx hxb va1 va2 va3 hP hn1 R hni
        generalize deepN T i = D at *
        obtain ⟨W1, hW1⟩ : ∃ W1, W1 = wr.alloc (.cells #[.int .i64 x.Parent, .int .i64 x.Kind, .int .i64 x.W, .int .i64 x.H, .int .i64 x.Pad, .int .i64 x.Gap, .int .i64 x.Grow, .int .i64 x.Shrink, .int .i64 x.Justify] 33) := ⟨_, rfl⟩
        have kb : W1.heap[wr.heap.size]? = some (.cells #[.int .i64 x.Parent, .int .i64 x.Kind, .int .i64 x.W, .int .i64 x.H, .int .i64 x.Pad, .int .i64 x.Gap, .int .i64 x.Grow, .int .i64 x.Shrink, .int .i64 x.Justify] 33 (0, 0)) := by rw [hW1]; exact heap_alloc_new wr _
        have R2 : FtRow w ws T i A5 n c5 W1 := by rw [hW1]; exact R1.alloc _
        have hz : W1.heap.size = wr.heap.size + 1 := by rw [hW1]; simp
        have KB := hid kb
        have X1 := hid R2
        have HW1 := hid hW1
        have HROW := hid (fun q hq => (R1.2.2.1.lt q hq).2)
        have ARR1 := hid (H.out.next R2.2.2.2)
        have TB1 := hid (TB.out.next R2.2.2.2)
        have hlt1 : wr.heap.size < W1.heap.size := by omega
        clear kb R2 hW1 R1 R0
        have PD := hid (PTT.out W1.drew ARR1.out)
        have q1 := box9 KB.out
        unfold Box9 at q1
        have Q1 := hid q1
        clear q1
        go_wp2_with fail
        rw [← HW1.out]
        clear d0 d1 d2 d3 d4 d5 d6 d7 d8
        go_region_held3 (fun w' => w'.cell? ⟨wr.heap.size, 0, none⟩ = some (.int .i64 x.Parent) ∧ w'.cell? ⟨wr.heap.size, 1, none⟩ = some (.int .i64 x.Kind) ∧ w'.cell? ⟨wr.heap.size, 2, none⟩ = some (.int .i64 x.W) ∧ w'.cell? ⟨wr.heap.size, 3, none⟩ = some (.int .i64 x.H) ∧ w'.cell? ⟨wr.heap.size, 4, none⟩ = some (.int .i64 x.Pad) ∧ w'.cell? ⟨wr.heap.size, 5, none⟩ = some (.int .i64 x.Gap) ∧ w'.cell? ⟨wr.heap.size, 6, none⟩ = some (.int .i64 x.Grow) ∧ w'.cell? ⟨wr.heap.size, 7, none⟩ = some (.int .i64 x.Shrink) ∧ w'.cell? ⟨wr.heap.size, 8, none⟩ = some (.int .i64 x.Justify)) (first | exact Q1.out | exact q3 | exact q4 | exact q5 | exact q7 | go_keep)
          (first
            | (refine step_append_arr _ eltS (by rfl) (.tmp 19) (.tmp 29) (by rfl) w.heap.size _ n (n + 1) _ (by rfl) (X5.out.alloc _).2.2.1 encS (fun _ => rfl) oneS _ _ [t5] 1 1 (by rfl) (by rfl) (arr_oneS (heap_alloc_new _ _) (Nat.lt_succ_self _)) (by omega) (by omega) (X5.out.alloc _).2.2.2.size ?_; intro A7 c7 w7 own7 gr7 at7; have X7 := hid ((X5.out.alloc _).push (by rw [T5.out, HS4.out, HS5.out]; exact LN.out.symm) rfl own7 gr7); have K7 := hid ((gr7.block wr.heap.size (Nat.lt_of_lt_of_le (Array.getElem?_eq_some_iff.1 K5.out).1 (by simp)) (fun e => by have := HROW.out _ e.symm; omega)).trans ((heap_alloc_old w5 _ (Array.getElem?_eq_some_iff.1 K5.out).1).trans K5.out)); have q7 := box9 K7.out; unfold Box9 at q7; clear own7 gr7 at7)
            | ((with_reducible refine PD.out.mono ?_); rintro e w3 ⟨A3, c3, he, -, -, -, hb3⟩; rw [HP.out] at he; subst he; have HB3 := hid (Below_of_drew hb3); have K3 := hid ((HB3.out.block _ hlt1).trans KB.out); have X3 := hid (X1.out.next HB3.out); have q3 := box9 K3.out; unfold Box9 at q3; clear hb3; dsimp only)
            | ((with_reducible refine (DD.out _).mono ?_); rintro e w4 ⟨s4, rfl, hs4, hb4⟩; have HS4 := hid hs4; have HB4 := hid hb4; have K4 := hid ((hb4.block _ (Array.getElem?_eq_some_iff.1 K3.out).1).trans K3.out); have X4 := hid (X3.out.next hb4); have T4 := hid (TB.out.next X4.out.2.2.2); have q4 := box9 K4.out; unfold Box9 at q4; clear hs4 hb4; dsimp only)
            | ((with_reducible refine (TXX.out _ T4.out).mono ?_); rintro e w5 ⟨s5, rfl, hs5, hb5⟩; have HS5 := hid hs5; have HB5 := hid hb5; have K5 := hid ((hb5.block _ (Array.getElem?_eq_some_iff.1 K4.out).1).trans K4.out); have X5 := hid (X4.out.next hb5); obtain ⟨t5, T5, a5⟩ := cat_run (P := Tryd.prog) s4 s5 (by rw [HS4.out, hs5, dashL_len]; have := TXL.out; omega); have q5 := box9 K5.out; unfold Box9 at q5; clear hs5 hb5; dsimp only))
        go_wp2
        go_roundg (T.length - (i + 1))
        case measure => omega
        case rel => exact ⟨i + 1, n + 1, c7, A7, by omega, by omega, rfl, by go_num, _, X7.out⟩
      · obtain rfl : i = T.length := by omega
        have hle := slice_le R1.2.2.1
        have JN := hid (join_any A5 ws n c5 ⟨#[10]⟩ (treeTo T T.length) wr R1.1 hle.1 (by have := R1.1; omega) (by rw [R1.2.1]; exact JJ) (by have := TL.out; omega) (OwnA.of_rowN (enc := encS) (k := 1) (fun _ => rfl) R1.1 rfl R1.2.2.1).arr)
        have XB := hid R1.2.2.2
        clear R R1 R0 hni hle
        go_wp2_with fail
        refine JN.out.mono ?_
        rintro e w9 ⟨s, rfl, hs, hb9⟩
        have HS := hid hs
        have HB9 := hid hb9
        clear hs hb9
        go_wp2
        go_ret
        exact ⟨s, rfl, HS.out, chain XB.out HB9.out⟩
end Go.Proofs.YtimpieddkkkgfaaDoor
