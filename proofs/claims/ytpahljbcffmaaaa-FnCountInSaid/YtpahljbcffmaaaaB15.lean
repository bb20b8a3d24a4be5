/- The generators of trees: spec.AddBox. Written by a program of ours. -/
import Derived.Test.YtpahljbcffmaaaaB14
import Derived.Deep.RegionHeld3
import Derived.Deep.DeepCutAuto
import Derived.StillTailTactics
namespace Go.Proofs.Ytpahljbcffmaaaa
set_option linter.unusedVariables false
set_option linter.unusedSimpArgs false
open Go.RowKit Go.Lib

theorem eltBoxG : Elt Try.prog 25 39 9 72 := Elt.mk' Try.underlying25 (z := .agg #[.int .i64 0, .int .i64 0, .int .i64 0, .int .i64 0, .int .i64 0, .int .i64 0, .int .i64 0, .int .i64 0, .int .i64 0]) (by kernel_rfl) rfl (by omega) (by omega)
theorem toInt_any (b : Bool) (w : World) : Calls Try.prog 68 #[.bool b] w fun e w' => e = .returned (.int .i64 (if b then 1 else 0)) ∧ w = w' := by
  cases b
  all_goals
    go_enter Try.func68, Try.ntmps68
    go_wp2
    go_ret
    exact ⟨rfl, rfl⟩

theorem toInt_still (b : Bool) (w : World) : Calls Try.prog 68 #[.bool b] w fun e w' => e = .returned (.int .i64 (if b then 1 else 0)) ∧ w' = w :=
  (toInt_any b w).mono fun _ _ h => ⟨h.1, h.2.symm⟩

/-- What AddBox leaves: some tree, of some boxes if the flag says so. -/
def AddGo (w : World) (e : Ending) (w' : World) : Prop :=
  ∃ (A : Option Addr) (c : Nat) (L : List BoxD) (ok : Bool), e = .returned (.tuple #[.slice A L.length c, .bool ok]) ∧ (ok = true → 0 < L.length ∧ L.length ≤ 16) ∧ w'.ownsRow w.heap.size 39 9 (.slice A L.length c) L.length (L.flatMap encBox) ∧ Below w.heap.size w w'
theorem AddGo.no {w w' : World} {e : Ending} (he : e = .returned (.tuple #[.slice none 0 0, .bool false])) (hb : Below w.heap.size w w') : AddGo w e w' :=
  ⟨none, 0, [], false, he, (fun h => by cases h), ⟨by simp, .inl ⟨rfl, rfl⟩⟩, hb⟩
theorem row_arrB {w : World} {base : Nat} {A : Option Addr} {c : Nat} {L : List BoxD} (h : w.ownsRow base 39 9 (.slice A L.length c) L.length (L.flatMap encBox)) : Arr w w.heap.size 9 encBox A L :=
  (OwnA.of_row (enc := encBox) (k := 9) (fun _ => rfl) h).arr
theorem row_lessB {w : World} {base base' : Nat} {e : TypeId} {size n : Nat} {v : Value} {xs : List Value} (h : w.ownsRow base' e size v n xs) (hb : base ≤ base') : w.ownsRow base e size v n xs := by
  refine ⟨h.1, ?_⟩
  rcases h.2 with h2 | ⟨g, cap, cur, h', h3, h4⟩
  · exact .inl h2
  · exact .inr ⟨g, cap, cur, h', by omega, h4⟩
theorem blk_box {W : World} {g : Nat} {x : BoxD} {B : Nat} (h : W.heap[g]? = some (.cells #[.int .i64 x.Parent, .int .i64 x.Kind, .int .i64 x.W, .int .i64 x.H, .int .i64 x.Pad, .int .i64 x.Gap, .int .i64 x.Grow, .int .i64 x.Shrink, .int .i64 x.Justify] 39 (0, 0))) (hB : g < B) : Arr W B 9 encBox (some ⟨g, 0, none⟩) [x] := fun _ => by
  refine ⟨g, 0, rfl, hB, fun i y hy j v hv => ?_⟩
  cases i with
  | zero =>
    simp at hy
    subst hy
    rw [cell_of_row W g _ _ _ _ h]
    simpa [encBox] using hv
  | succ i => simp at hy
theorem alloc_at {W : World} {o : Obj} {k : Nat} (h : k = W.heap.size) : (W.alloc o).heap[k]? = some o := by
  subst h
  exact heap_alloc_new _ _
theorem kept_block {w w' : World} {g r : Nat} {o : Obj} (hg : w.grownBy w' (some r)) (h : w.heap[g]? = some o) (hne : g ≠ r) : w'.heap[g]? = some o := block_kept h hg hne
theorem drew_heap {W : World} {k : Nat} {o : Obj} (h : W.heap[k]? = some o) : W.drew.heap[k]? = some o := h
theorem row0 {W : World} {base g : Nat} {e : TypeId} {size : Nat} (h : W.heap[g]? = some (.cells #[] e (0, 0))) (hb : base ≤ g) : W.ownsRow base e size (.slice (some ⟨g, 0, none⟩) 0 0) 0 [] :=
  ⟨by simp, .inr ⟨g, 0, #[], rfl, hb, h, Nat.zero_le _, by simp [maxLen], by simp, by simp⟩⟩
theorem SK {w2 w' : World} {g : Nat} {v0 v1 v2 v3 v4 v5 v6 v7 v8 : Value} {e : TypeId} (h : w2.heap[g]? = some (.cells #[v0, v1, v2, v3, v4, v5, v6, v7, v8] e (0, 0))) (hb : Below w2.heap.size w2 w') :
    Below w2.heap.size w2 w' ∧ w'.cell? ⟨g, 0, none⟩ = some v0 ∧ w'.cell? ⟨g, 1, none⟩ = some v1 ∧ w'.cell? ⟨g, 2, none⟩ = some v2 ∧ w'.cell? ⟨g, 3, none⟩ = some v3 ∧ w'.cell? ⟨g, 4, none⟩ = some v4 ∧ w'.cell? ⟨g, 5, none⟩ = some v5 ∧ w'.cell? ⟨g, 6, none⟩ = some v6 ∧ w'.cell? ⟨g, 7, none⟩ = some v7 ∧ w'.cell? ⟨g, 8, none⟩ = some v8 :=
  ⟨hb, (cells9f ((hb.block g (Array.getElem?_eq_some_iff.1 h).1).trans h)).1⟩
/-- The loop's relation. -/
def AddRel (w : World) (i : Nat) (A9 : Option Addr) (c9 : Nat) (wr : World) : Prop :=
  ∃ C : List BoxD, C.length = i + 1 ∧ wr.ownsRow w.heap.size 39 9 (.slice A9 (i + 1) c9) (i + 1) (C.flatMap encBox) ∧ Below w.heap.size w wr
theorem AddRel.below {w wr : World} {i c9 : Nat} {A9 : Option Addr} (h : AddRel w i A9 c9 wr) : Below w.heap.size w wr := by
  obtain ⟨C, h1, h2, h3⟩ := h
  exact h3

set_option maxRecDepth 100000 in
set_option maxHeartbeats 8000000 in
theorem addBox_any (A : Option Addr) (T : List BoxD) (c : Nat) (at_ : Int) (x : BoxD) (w : World) (hL : T.length ≤ 100) (hc : T.length ≤ c) (_hc2 : c ≤ maxLen) (h : Arr w w.heap.size 9 encBox A T) :
    Calls Try.prog 67 #[.slice A T.length c, .int .i64 at_, .agg #[.int .i64 x.Parent, .int .i64 x.Kind, .int .i64 x.W, .int .i64 x.H, .int .i64 x.Pad, .int .i64 x.Gap, .int .i64 x.Grow, .int .i64 x.Shrink, .int .i64 x.Justify]] w (AddGo w) := by
  have H := hid h
  have B0 := hid (below_al (Below.refl w.heap.size w) rfl (.cells #[.int .i64 x.Parent, .int .i64 x.Kind, .int .i64 x.W, .int .i64 x.H, .int .i64 x.Pad, .int .i64 x.Gap, .int .i64 x.Grow, .int .i64 x.Shrink, .int .i64 x.Justify] 39))
  have hs0 : (w.alloc (.cells #[.int .i64 x.Parent, .int .i64 x.Kind, .int .i64 x.W, .int .i64 x.H, .int .i64 x.Pad, .int .i64 x.Gap, .int .i64 x.Grow, .int .i64 x.Shrink, .int .i64 x.Justify] 39)).heap.size = w.heap.size + 1 := by simp
  have HS0 := hid hs0
  have hv := specvalidTree_any A T c (w.alloc (.cells #[.int .i64 x.Parent, .int .i64 x.Kind, .int .i64 x.W, .int .i64 x.H, .int .i64 x.Pad, .int .i64 x.Gap, .int .i64 x.Grow, .int .i64 x.Shrink, .int .i64 x.Justify] 39)) (by omega) ((H.out.below B0.out).more B0.out.size)
  have hq := fun W => inRangeB_any at_ 0 ((T.length : Int) - 1) W
  have X0 := hid (heap_alloc_new w (.cells #[.int .i64 x.Parent, .int .i64 x.Kind, .int .i64 x.W, .int .i64 x.H, .int .i64 x.Pad, .int .i64 x.Gap, .int .i64 x.Grow, .int .i64 x.Shrink, .int .i64 x.Justify] 39))
  have HI := hid (fun (h1 : validB T = true) (h2 : inR at_ 0 ((T.length : Int) - 1) = true) => atIn_nat (T := T) (x := at_) (by unfold atIn; rw [h1, h2]; rfl))
  clear h hs0
  cases q1 : validB T
  · rw [q1] at hv
    have HV := hid hv
    clear q1 hq HI hv
    go_enter Try.func67, Try.ntmps67
    go_wp2_with fail
    refine HV.out.mono ?_
    rintro e w1 ⟨rfl, b1⟩
    have B1 := hid (B0.out.trans (b1.mono B0.out.size))
    clear b1
    go_wp2
    go_ret2
    exact AddGo.no rfl B1.out
  · rw [q1] at hv
    have HV := hid hv
    cases q2 : inR at_ 0 ((T.length : Int) - 1)
    · rw [q2] at hq
      have HQ := hid hq
      clear q1 q2 hq HI hv
      go_enter Try.func67, Try.ntmps67
      go_wp2_with fail
      refine HV.out.mono ?_
      rintro e w1 ⟨rfl, b1⟩
      have B1 := hid (B0.out.trans (b1.mono B0.out.size))
      clear b1
      go_wp2_with fail
      refine (HQ.out _).mono ?_
      rintro e w2 ⟨rfl, rfl⟩
      go_wp2
      go_ret2
      exact AddGo.no rfl B1.out
    · rw [q2] at hq
      have HQ := hid hq
      obtain ⟨n, rfl, hn, v⟩ := HI.out q1 q2
      have hcp := count_pos v.ord hn
      have HPB := hid (fun i (hi : i < T.length) => par_bd v.ord.1 hi)
      have hct := hid (fun W h => countS_any A T c n W (by omega) hn v.ord h)
      generalize countN T T.length n = m at *
      obtain ⟨hm1, hm2⟩ := hcp
      obtain ⟨q, hqe⟩ : ∃ q, q = n + m := ⟨_, rfl⟩
      have hqq : (n : Int) + (m : Int) = (q : Int) := by omega
      have hqT : q ≤ T.length := by omega
      have hqc : q ≤ c := by omega
      have hl16 := v.len
      clear q1 q2 hq HI hv v hqe
      go_enter Try.func67, Try.ntmps67
      go_wp2_with fail
      refine HV.out.mono ?_
      rintro e w1 ⟨rfl, b1⟩
      have B1 := hid (B0.out.trans (b1.mono B0.out.size))
      have X1 := hid ((b1.block w.heap.size (by rw [HS0.out]; omega)).trans X0.out)
      have H1 := hid ((H.out.below B1.out).more B1.out.size)
      have hs1 : w.heap.size < w1.heap.size := (Array.getElem?_eq_some_iff.1 X1.out).1
      clear b1
      go_wp2_with fail
      refine (HQ.out _).mono ?_
      rintro e w2 ⟨rfl, rfl⟩
      obtain ⟨⟨k0, k1, k2, k3, k4, k5, k6, k7, k8⟩, f0, f1, f2, f3, f4, f5, f6, f7, f8⟩ := cells9f X1.out
      clear k1 k2 k3 k4 k5 k6 k7 k8 f1 f2 f3 f4 f5 f6 f7 f8
      go_wp2_with fail
      refine (hct.out _ H1.out).mono ?_
      rintro e w2 ⟨rfl, rfl⟩
      go_wp2_with fail
      obtain ⟨w2, hw2⟩ : ∃ w2, w2 = w1.setCell ⟨w.heap.size, 0, none⟩ (.int .i64 (n : Int)) := ⟨_, rfl⟩
      rw [← hw2]
      have hs2 : w2.heap.size = w1.heap.size := by rw [hw2]; simp [World.setCell]
      have X2 : Hid (w2.heap[w.heap.size]? = some (.cells #[.int .i64 (n : Int), .int .i64 x.Kind, .int .i64 x.W, .int .i64 x.H, .int .i64 x.Pad, .int .i64 x.Gap, .int .i64 x.Grow, .int .i64 x.Shrink, .int .i64 x.Justify] 39 (0, 0))) := hid (by rw [hw2]; exact heap_setCell_same w1 w.heap.size 0 _ _ _ X1.out)
      have B2 := hid (show Below w.heap.size w w2 by rw [hw2]; exact B1.out.setCell (p := ⟨w.heap.size, 0, none⟩) (Nat.le_refl _) _)
      have H2 := hid ((H.out.below B2.out).more B2.out.size)
      have hs21 : w.heap.size < w2.heap.size := by omega
      clear hw2 hs2
      go_cut [9] (fun s9 wx => ∃ (A9 : Option Addr) (c9 : Nat), s9 = .slice A9 (q + 1) c9 ∧ wx.ownsRow w2.heap.size 39 9 (.slice A9 (q + 1) c9) (q + 1) (((T.take q) ++ [{ x with Parent := (n : Int) }]).flatMap encBox) ∧ Below w2.heap.size w2 wx)
      case first =>
        have AT := hid ((H2.out.take q).below (Below.refl _ _))
        have LT := hid (show q = (T.take q).length by rw [List.length_take]; omega)
        go_region_held3 (fun w' => Below w2.heap.size w2 w' ∧ w'.cell? ⟨w.heap.size, 0, none⟩ = some (.int .i64 (n : Int)) ∧ w'.cell? ⟨w.heap.size, 1, none⟩ = some (.int .i64 x.Kind) ∧ w'.cell? ⟨w.heap.size, 2, none⟩ = some (.int .i64 x.W) ∧ w'.cell? ⟨w.heap.size, 3, none⟩ = some (.int .i64 x.H) ∧ w'.cell? ⟨w.heap.size, 4, none⟩ = some (.int .i64 x.Pad) ∧ w'.cell? ⟨w.heap.size, 5, none⟩ = some (.int .i64 x.Gap) ∧ w'.cell? ⟨w.heap.size, 6, none⟩ = some (.int .i64 x.Grow) ∧ w'.cell? ⟨w.heap.size, 7, none⟩ = some (.int .i64 x.Shrink) ∧ w'.cell? ⟨w.heap.size, 8, none⟩ = some (.int .i64 x.Justify)) ((refine SK X2.out ?_; first | assumption | exact (by assumption : _ ∧ _).1 | exact Below.refl _ _ | exact (Below.refl _ _).drew | (exact Below.alloc (And.left (by assumption)) (Below.size (And.left (by assumption))) _) | (exact Below.alloc hb4 hb4.size _))) ((first
          | (refine step_append_arr _ eltBoxG (by rfl) (.tmp 30) (.tmp 33) (by rfl) w2.heap.size _ 0 q [] (by rfl) (row0 (by (try refine drew_heap ?_); first | (refine alloc_at ?_; (first | rfl | (simp; done))) | (refine blk_alloc ?_ _; refine alloc_at ?_; (first | rfl | (simp; done)))) (by first | exact Nat.le_refl _ | (simp; done))) encBox (fun _ => rfl) oneBox w2.heap.size A (T.take q) q c (by rfl) LT.out (AT.out.below (And.left (by assumption))) (by omega) (by omega) (Below.size (And.left (by assumption))) ?_; intro A1 c1 w4 own4 gr4 _; have hb4 : Below w2.heap.size w2 w4 := Below.grown (And.left (by assumption)) gr4 (Below.size (And.left (by assumption))) (by intro q hq; simp [Value.ownBlock] at hq; first | omega | (simp at hq; omega)))
          | (refine step_append_arr _ eltBoxG (by rfl) (.tmp 34) (.tmp 36) (by rfl) w2.heap.size _ q (q + 1) _ (by rfl) (by first | exact own4 | exact own4.alloc _) encBox (fun _ => rfl) oneBox _ _ [{ x with Parent := (n : Int) }] 1 1 (by rfl) (by rfl) (blk_box (x := { x with Parent := (n : Int) }) (by first | (refine alloc_at ?_; (first | rfl | (simp; done))) | (refine kept_block gr4 ?_ ?_; (try refine drew_heap ?_); (first | (refine alloc_at ?_; first | rfl | simp) | (refine blk_alloc ?_ _; refine alloc_at ?_; first | rfl | simp)); (first | omega | simp))) (Nat.lt_succ_self _)) (by omega) (by omega) (Below.size (And.left (by assumption))) ?_; intro A2 c2 w5 own5 gr5 _; have hb5 : Below w2.heap.size w2 w5 := Below.grown (And.left (by assumption)) gr5 (Below.size (And.left (by assumption))) (fun q hq => (own4.lt q hq).1))))
        all_goals
          go_wp2_with fail
          go_meet
          exact ⟨_, _, rfl, by rw [List.flatMap_append]; exact own5, hb5⟩
      case rest =>
        obtain ⟨A9, c9, rfl, own, b⟩ := hcut
        have O9 := hid own
        have B9 := hid (B2.out.trans (b.mono (by omega)))
        clear own b
        go_wp2_with fail
        go_loopg [9, 10] T.length (fun gg s9 s10 wr => ∃ (i c5 : Nat) (A5 : Option Addr), q ≤ i ∧ i ≤ T.length ∧ T.length - i ≤ gg ∧ s9 = .slice A5 (i + 1) c5 ∧ s10 = .int .i64 i ∧ Aside (AddRel w i A5 c5 wr))
        case atStart => exact ⟨q, c9, A9, Nat.le_refl _, hqT, by omega, rfl, rfl, _, by simp [List.length_take]; omega, row_lessB O9.out (by omega), B9.out⟩
        case round =>
          obtain ⟨i, c5, A5, hqi, hi, hgg, rfl, rfl, R⟩ := hrel
          by_cases hlt : i < T.length
          · obtain ⟨b, off, y, hA, hb, hy, e0, e1, e2, e3, e4, e5, e6, e7, e8⟩ := (H.out.below R.out.below).atBox hlt
            have hbr : b < wr.heap.size := by have := R.out.below.size; omega
            have i1 : (0 : Int) ≤ (i : Int) := by omega
            have i2 : (i : Int) < (T.length : Int) := by omega
            subst hA
            have hyp := HPB.out i hlt
            rw [par_of hy] at hyp
            obtain ⟨hyp1, hyp2⟩ := hyp
            clear hy
            obtain ⟨C, hC, hO, hBl⟩ := R.out
            have hws : w.heap.size ≤ wr.heap.size := hBl.size
            have HC := hid hC
            have OC := hid hO
            have BC := hid hBl
            clear hC hO hBl
            go_upto_region 10 with (fail)
            obtain ⟨W1, hW1⟩ : ∃ W1, W1 = wr.alloc (.cells #[.int .i64 y.Parent, .int .i64 y.Kind, .int .i64 y.W, .int .i64 y.H, .int .i64 y.Pad, .int .i64 y.Gap, .int .i64 y.Grow, .int .i64 y.Shrink, .int .i64 y.Justify] 39) := ⟨_, rfl⟩
            have X1 := hid (show W1.heap[wr.heap.size]? = some (.cells #[.int .i64 y.Parent, .int .i64 y.Kind, .int .i64 y.W, .int .i64 y.H, .int .i64 y.Pad, .int .i64 y.Gap, .int .i64 y.Grow, .int .i64 y.Shrink, .int .i64 y.Justify] 39 (0, 0)) by rw [hW1]; exact heap_alloc_new _ _)
            have G1 := hid (show wr.grownBy W1.drew none by rw [hW1]; obtain ⟨a1, a2, a3, a4, a5⟩ := World.grownBy_alloc wr (.cells #[.int .i64 y.Parent, .int .i64 y.Kind, .int .i64 y.W, .int .i64 y.H, .int .i64 y.Pad, .int .i64 y.Gap, .int .i64 y.Grow, .int .i64 y.Shrink, .int .i64 y.Justify] 39) none; exact ⟨a1, a2, a3, a4, a5⟩)
            have OZ := hid (fun z => OC.out.kept (grown_sets G1.out (Nat.le_refl _) 0 z) (by cases A5 <;> simp [Value.ownBlock]))
            have BZ := hid (fun z => BC.out.grown (grown_sets G1.out (Nat.le_refl _) 0 z) BC.out.size (fun q hq => by cases hq))
            rw [← hW1]
            obtain ⟨⟨k0, k1, k2, k3, k4, k5, k6, k7, k8⟩, f0, f1, f2, f3, f4, f5, f6, f7, f8⟩ := cells9f X1.out
            clear hW1 k1 k2 k3 k4 k5 k6 k7 k8 f1 f2 f3 f4 f5 f6 f7 f8 e0 e1 e2 e3 e4 e5 e6 e7 e8
            have w1 : IntKind.i64.wrap (y.Parent + 1) = y.Parent + 1 := IntWalk.i64_in _ (by omega)
            have w0 : IntKind.i64.wrap y.Parent = y.Parent := IntWalk.i64_in _ (by omega)
            by_cases hp : (q : Int) ≤ y.Parent
            · go_still_tail 9, (by kernel_rfl)
              still_call (toInt_still _ _)
              repeat still_step
              refine wpStill_nil ?_
              change wpList _ _ _ _ _ W1.drew
              obtain ⟨W2, hW2⟩ : ∃ W2, W2 = W1.drew := ⟨_, rfl⟩
              have X2' := hid (show W2.heap[wr.heap.size]? = some (.cells #[.int .i64 y.Parent, .int .i64 y.Kind, .int .i64 y.W, .int .i64 y.H, .int .i64 y.Pad, .int .i64 y.Gap, .int .i64 y.Grow, .int .i64 y.Shrink, .int .i64 y.Justify] 39 (0, 0)) by rw [hW2]; exact X1.out)
              rw [← hW2]
              rw [← hW2] at OZ BZ
              clear k0 f0 hW2 G1
              obtain ⟨⟨k0, k1, k2, k3, k4, k5, k6, k7, k8⟩, f0, f1, f2, f3, f4, f5, f6, f7, f8⟩ := cells9f X2'.out
              go_upto_region 11 with (fail)
              obtain ⟨W3, hW3⟩ : ∃ W3, W3 = W2.setCell ⟨wr.heap.size, 0, none⟩ (.int .i64 (y.Parent + 1)) := ⟨_, rfl⟩
              rw [← hW3]
              have hs3 : wr.heap.size < W3.heap.size := by rw [hW3]; simpa [World.setCell] using (Array.getElem?_eq_some_iff.1 X2'.out).1
              have X3 := hid (show W3.heap[wr.heap.size]? = some (.cells #[.int .i64 (y.Parent + 1), .int .i64 y.Kind, .int .i64 y.W, .int .i64 y.H, .int .i64 y.Pad, .int .i64 y.Gap, .int .i64 y.Grow, .int .i64 y.Shrink, .int .i64 y.Justify] 39 (0, 0)) by rw [hW3]; exact heap_setCell_same W2 wr.heap.size 0 _ _ _ X2'.out)
              have O3 := hid (show W3.ownsRow w.heap.size 39 9 (.slice A5 (i + 1) c5) (i + 1) (C.flatMap encBox) by rw [hW3]; exact OZ.out _)
              have B3 := hid (show Below w.heap.size w W3 by rw [hW3]; exact BZ.out _)
              clear hW3 k0 k1 k2 k3 k4 k5 k6 k7 k8 f0 f1 f2 f3 f4 f5 f6 f7 f8
              obtain ⟨⟨k0, k1, k2, k3, k4, k5, k6, k7, k8⟩, -⟩ := cells9f X3.out
              go_wp2_with (at_builtin; refine wpList_pushB eltBoxG rfl (.tmp 58) (.tmp 60) rfl w.heap.size _ (i + 1) _ O3.out (by omega) (by omega) _ _ rfl rfl rfl rfl (ocBox { y with Parent := y.Parent + 1 }) ?_; intro A8 c8 w8 own8 gr8 at8; have O8 := hid own8; have HB8 := hid (B3.out.grown gr8 (by omega) (fun q hq => (O3.out.lt q hq).1)); clear own8 gr8 at8)
              go_roundg (T.length - (i + 1))
              case measure => omega
              case rel => exact ⟨i + 1, c8, A8, by omega, by omega, by omega, rfl, by go_num, C ++ [{ y with Parent := y.Parent + 1 }], by rw [List.length_append, HC.out]; rfl, by rw [List.flatMap_append]; exact O8.out, HB8.out⟩
            · go_still_tail 9, (by kernel_rfl)
              still_call (toInt_still _ _)
              repeat still_step
              refine wpStill_nil ?_
              change wpList _ _ _ _ _ W1.drew
              obtain ⟨W2, hW2⟩ : ∃ W2, W2 = W1.drew := ⟨_, rfl⟩
              have X2' := hid (show W2.heap[wr.heap.size]? = some (.cells #[.int .i64 y.Parent, .int .i64 y.Kind, .int .i64 y.W, .int .i64 y.H, .int .i64 y.Pad, .int .i64 y.Gap, .int .i64 y.Grow, .int .i64 y.Shrink, .int .i64 y.Justify] 39 (0, 0)) by rw [hW2]; exact X1.out)
              rw [← hW2]
              rw [← hW2] at OZ BZ
              clear k0 f0 hW2 G1
              obtain ⟨⟨k0, k1, k2, k3, k4, k5, k6, k7, k8⟩, f0, f1, f2, f3, f4, f5, f6, f7, f8⟩ := cells9f X2'.out
              go_upto_region 11 with (fail)
              obtain ⟨W3, hW3⟩ : ∃ W3, W3 = W2.setCell ⟨wr.heap.size, 0, none⟩ (.int .i64 (y.Parent)) := ⟨_, rfl⟩
              rw [← hW3]
              have hs3 : wr.heap.size < W3.heap.size := by rw [hW3]; simpa [World.setCell] using (Array.getElem?_eq_some_iff.1 X2'.out).1
              have X3 := hid (show W3.heap[wr.heap.size]? = some (.cells #[.int .i64 (y.Parent), .int .i64 y.Kind, .int .i64 y.W, .int .i64 y.H, .int .i64 y.Pad, .int .i64 y.Gap, .int .i64 y.Grow, .int .i64 y.Shrink, .int .i64 y.Justify] 39 (0, 0)) by rw [hW3]; exact heap_setCell_same W2 wr.heap.size 0 _ _ _ X2'.out)
              have O3 := hid (show W3.ownsRow w.heap.size 39 9 (.slice A5 (i + 1) c5) (i + 1) (C.flatMap encBox) by rw [hW3]; exact OZ.out _)
              have B3 := hid (show Below w.heap.size w W3 by rw [hW3]; exact BZ.out _)
              clear hW3 k0 k1 k2 k3 k4 k5 k6 k7 k8 f0 f1 f2 f3 f4 f5 f6 f7 f8
              obtain ⟨⟨k0, k1, k2, k3, k4, k5, k6, k7, k8⟩, -⟩ := cells9f X3.out
              go_wp2_with (at_builtin; refine wpList_pushB eltBoxG rfl (.tmp 58) (.tmp 60) rfl w.heap.size _ (i + 1) _ O3.out (by omega) (by omega) _ _ rfl rfl rfl rfl (ocBox { y with Parent := y.Parent }) ?_; intro A8 c8 w8 own8 gr8 at8; have O8 := hid own8; have HB8 := hid (B3.out.grown gr8 (by omega) (fun q hq => (O3.out.lt q hq).1)); clear own8 gr8 at8)
              go_roundg (T.length - (i + 1))
              case measure => omega
              case rel => exact ⟨i + 1, c8, A8, by omega, by omega, by omega, rfl, by go_num, C ++ [{ y with Parent := y.Parent }], by rw [List.length_append, HC.out]; rfl, by rw [List.flatMap_append]; exact O8.out, HB8.out⟩
          · obtain ⟨C, hC, hO, hBl⟩ := R.out
            have OC := hid hO
            have BC := hid hBl
            have hv := specvalidTree_any A5 C c5 wr (by omega) (row_arrB (base := w.heap.size) (c := c5) (by rw [hC]; exact hO))
            have HVB := hid (fun (h : validB C = true) => ((validB_iff (T := C)).1 h).len)
            rw [hC] at hv
            have HC := hid hC
            clear hC hO hBl H HPB hct
            cases qv : validB C
            · rw [qv] at hv
              have HV2 := hid hv
              clear qv hv HVB
              go_wp2_with fail
              refine HV2.out.mono ?_
              rintro e w1 ⟨rfl, b1⟩
              have B1 := hid (BC.out.trans (b1.mono BC.out.size))
              clear b1
              go_wp2
              go_ret2
              exact AddGo.no rfl B1.out
            · rw [qv] at hv
              have HV2 := hid hv
              have HL := hid (HVB.out qv)
              clear qv hv HVB
              go_wp2_with fail
              refine HV2.out.mono ?_
              rintro e w1 ⟨rfl, b1⟩
              have B1 := hid (BC.out.trans (b1.mono BC.out.size))
              have O1 := hid (row_next OC.out b1)
              clear b1
              go_wp2
              go_ret2
              exact ⟨A5, c5, C, true, by rw [HC.out]; rfl, fun _ => ⟨by rw [HC.out]; omega, HL.out⟩, by rw [HC.out]; exact O1.out, B1.out⟩
end Go.Proofs.Ytpahljbcffmaaaa
