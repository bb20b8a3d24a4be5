/- The generators of trees: spec.someTree. Written by a program of ours. -/
import Derived.Test.YtpahljbcffmaaaaB15
namespace Go.Proofs.Ytpahljbcffmaaaa
set_option linter.unusedVariables false
set_option linter.unusedSimpArgs false
open Go.RowKit Go.Lib

/-- What a generator of a tree leaves: a row. -/
def TreeGo (w : World) (r : Nat) (A : Option Addr) (cap : Nat) (bs : List Int) (p k : Nat) (e : Ending) (w' : World) : Prop :=
  ∃ (A' : Option Addr) (c : Nat) (L : List BoxD), e = .returned (.slice A' L.length c) ∧ 0 < L.length ∧ L.length ≤ 16 ∧ w'.ownsRow w.heap.size 39 9 (.slice A' L.length c) L.length (L.flatMap encBox) ∧ RGo w r A cap bs p k w'
/-- The loop's relation. -/
def TRel (w : World) (r : Nat) (A : Option Addr) (cap : Nat) (bs : List Int) (p k : Nat) (A3 : Option Addr) (c3 : Nat) (n : Nat) (wr : World) : Prop :=
  ∃ (L : List BoxD) (p' : Nat), L.length = n ∧ wr.ownsRow w.heap.size 39 9 (.slice A3 n c3) n (L.flatMap encBox) ∧ Rd wr r A cap bs p' ∧ p' ≤ p + 11 + 9 * k ∧ w.grownBy wr (some r)
theorem grown_of_below {a b c : World} {row : Option Nat} (h : a.grownBy b row) (k : Below b.heap.size b c) : a.grownBy c row :=
  grown_new h (row' := none) ⟨k.os, k.tape, k.output, k.size, fun i hi _ => k.block i hi⟩ (fun g hg => by cases hg)
theorem rd_of_below {b c : World} {r : Nat} {A : Option Addr} {cap : Nat} {bs : List Int} {p : Nat} (h : Rd b r A cap bs p) (k : Below b.heap.size b c) : Rd c r A cap bs p :=
  h.kept (row := none) ⟨k.os, k.tape, k.output, k.size, fun i hi _ => k.block i hi⟩ (fun g hg => by cases hg)
theorem row1 {W : World} {base g : Nat} {z : BoxD} (h : W.heap[g]? = some (.cells #[.int .i64 z.Parent, .int .i64 z.Kind, .int .i64 z.W, .int .i64 z.H, .int .i64 z.Pad, .int .i64 z.Gap, .int .i64 z.Grow, .int .i64 z.Shrink, .int .i64 z.Justify] 39 (0, 0))) (hb : base ≤ g) : W.ownsRow base 39 9 (.slice (some ⟨g, 0, none⟩) 1 1) 1 ([z].flatMap encBox) :=
  ⟨by simp [encBox], .inr ⟨g, 1, #[.int .i64 z.Parent, .int .i64 z.Kind, .int .i64 z.W, .int .i64 z.H, .int .i64 z.Pad, .int .i64 z.Gap, .int .i64 z.Grow, .int .i64 z.Shrink, .int .i64 z.Justify], rfl, hb, h, Nat.le_refl _, by simp [maxLen], by simp, by simp [encBox]⟩⟩
/-- The first box lies in its block. -/
def First (w : World) (r : Nat) (A : Option Addr) (cap : Nat) (bs : List Int) (p : Nat) (g : Nat) (x : BoxD) (wx : World) : Prop :=
  wx.heap[g]? = some (.cells #[.int .i64 x.Parent, .int .i64 x.Kind, .int .i64 x.W, .int .i64 x.H, .int .i64 x.Pad, .int .i64 x.Gap, .int .i64 x.Grow, .int .i64 x.Shrink, .int .i64 x.Justify] 39 (0, 0)) ∧ Rd wx r A cap bs p ∧ w.grownBy wx (some r)

set_option maxRecDepth 100000 in
set_option maxHeartbeats 8000000 in
theorem someTree_any (r : Nat) (A : Option Addr) (cap : Nat) (bs : List Int) (p : Nat) (w : World) (h : Rd w r A cap bs p) (hp : p ≤ 1000) :
    Calls Try.prog 58 #[.pointer (some ⟨r, 0, none⟩)] w (TreeGo w r A cap bs p 200) := by
  have hrlt := h.lt
  have H := hid h
  clear h
  go_enter Try.func58, Try.ntmps58
  go_wp2_with fail
  (with_reducible refine (someBox_any r A cap bs p _ H.out (by omega)).mono ?_)
  rintro e w1 ⟨x, rfl, p1, hr1, hp1, hg1⟩
  have hws1 : w.heap.size ≤ w1.heap.size := hg1.size
  have hr1g : r < w1.heap.size := by omega
  have G1 := hid hg1
  have R1 := hid hr1
  clear hr1 hg1
  go_upto_region 2 with (fail)
  obtain ⟨V1, hV1⟩ : ∃ V1, V1 = w1.alloc (.cells #[.int .i64 x.Parent, .int .i64 x.Kind, .int .i64 x.W, .int .i64 x.H, .int .i64 x.Pad, .int .i64 x.Gap, .int .i64 x.Grow, .int .i64 x.Shrink, .int .i64 x.Justify] 39) := ⟨_, rfl⟩
  have X1 := hid (show V1.heap[w1.heap.size]? = some (.cells #[.int .i64 x.Parent, .int .i64 x.Kind, .int .i64 x.W, .int .i64 x.H, .int .i64 x.Pad, .int .i64 x.Gap, .int .i64 x.Grow, .int .i64 x.Shrink, .int .i64 x.Justify] 39 (0, 0)) by rw [hV1]; exact heap_alloc_new _ _)
  have RV := hid (show Rd V1 r A cap bs p1 by rw [hV1]; exact R1.out.alloc _)
  have GV := hid (show w.grownBy V1 (some r) by rw [hV1]; exact grown_alloc G1.out _)
  rw [← hV1]
  clear hV1
  obtain ⟨⟨k0, k1, k2, k3, k4, k5, k6, k7, k8⟩, f0, f1, f2, f3, f4, f5, f6, f7, f8⟩ := cells9f X1.out
  clear k1 k2 k3 k4 k5 k6 k7 k8 f1 f2 f3 f4 f5 f6 f7 f8
  go_upto_region 3 with (fail)
  obtain ⟨V2, hV2⟩ : ∃ V2, V2 = V1.setCell ⟨w1.heap.size, 0, none⟩ (.int .i64 (-1)) := ⟨_, rfl⟩
  have X2 := hid (show V2.heap[w1.heap.size]? = some (.cells #[.int .i64 (-1), .int .i64 x.Kind, .int .i64 x.W, .int .i64 x.H, .int .i64 x.Pad, .int .i64 x.Gap, .int .i64 x.Grow, .int .i64 x.Shrink, .int .i64 x.Justify] 39 (0, 0)) by rw [hV2]; exact heap_setCell_same V1 w1.heap.size 0 _ _ _ X1.out)
  have R2 := hid (show Rd V2 r A cap bs p1 by rw [hV2]; exact RV.out.set1 hr1g 0 _)
  have G2 := hid (show w.grownBy V2 (some r) by rw [hV2]; exact grown_sets GV.out hws1 0 _)
  rw [← hV2]
  clear hV2 k0 f0
  go_cut [18] (fun s18 wx => ∃ (bb : Bool) (p2 : Nat), s18 = .bool bb ∧ p2 ≤ p1 + 1 ∧ First w r A cap bs p2 w1.heap.size { x with Parent := -1 } wx)
  case first =>
    obtain ⟨⟨k0, k1, k2, k3, k4, k5, k6, k7, k8⟩, -⟩ := cells9f X2.out
    clear k0 k2 k3 k4 k5 k6 k7 k8
    by_cases hk : x.Kind = 0
    · have hk' : (x.Kind == 0) = true := by rw [beq_iff_eq]; exact hk
      go_wp2_with fail
      (with_reducible refine (pick_any r A cap bs p1 _ _ R2.out (by omega) (by omega)).mono ?_)
      rintro e w2 ⟨y, rfl, hy, hr2⟩
      have X3 := hid (block_kept X2.out hr2.gr (by omega))
      have G3 := hid (grown_trans G2.out hr2.gr)
      have R3 := hid hr2.rd
      clear hr2
      go_wp2_with fail
      go_meet
      exact ⟨_, _, rfl, by omega, X3.out, R3.out, G3.out⟩
    · have hk' : (x.Kind == 0) = false := by rw [beq_eq_false_iff_ne]; exact hk
      go_wp2_with fail
      go_meet
      exact ⟨_, p1, rfl, by omega, X2.out, R2.out, G2.out⟩
  case rest =>
    obtain ⟨bb, p2, rfl, hp2, F2⟩ := hcut
    have FF := hid F2
    clear F2 X1 X2 R2 G2 RV GV
    go_upto_if 18 with (fail)
    go_cut [] (fun wx => ∃ (z : BoxD) (p3 : Nat), p3 ≤ p2 + 1 ∧ First w r A cap bs p3 w1.heap.size z wx)
    case first =>
      cases bb
      · go_wp2_with fail
        go_meet
        exact ⟨_, p2, by omega, FF.out⟩
      · obtain ⟨X3, R3, G3⟩ := FF.out
        have HX3 := hid X3
        have HR3 := hid R3
        have HG3 := hid G3
        clear X3 R3 G3 FF
        go_wp2_with fail
        (with_reducible refine (pick_any r A cap bs p2 _ _ HR3.out (by omega) (by omega)).mono ?_)
        rintro e w4 ⟨y, rfl, hy, hr4⟩
        have X4 := hid (block_kept HX3.out hr4.gr (by omega))
        have G4 := hid (grown_trans HG3.out hr4.gr)
        have R4 := hid hr4.rd
        clear hr4
        have y1 : IntKind.i64.wrap (1 + y) = 1 + y := IntWalk.i64_in _ (by omega)
        obtain ⟨⟨k0, k1, k2, k3, k4, k5, k6, k7, k8⟩, f0, f1, f2, f3, f4, f5, f6, f7, f8⟩ := cells9f X4.out
        clear k0 k4 k5 k6 k7 k8 f0 f4 f5 f6 f7 f8
        have Z1 := hid (heap_setCell_same _ w1.heap.size 1 _ _ (.int .i64 (1 + y)) X4.out)
        have Z2 := hid (heap_setCell_same _ w1.heap.size 2 _ _ (.int .i64 0) Z1.out)
        have Z3 := hid (heap_setCell_same _ w1.heap.size 3 _ _ (.int .i64 0) Z2.out)
        go_wp2_with fail
        go_meet
        exact ⟨⟨-1, 1 + y, 0, 0, x.Pad, x.Gap, x.Grow, x.Shrink, x.Justify⟩, _, by omega, Z3.out, ((R4.out.set1 hr1g 1 _).set1 hr1g 2 _).set1 hr1g 3 _, grown_sets (grown_sets (grown_sets G4.out hws1 1 _) hws1 2 _) hws1 3 _⟩
    case rest =>
      obtain ⟨z, p3, hp3, X5, R5, G5⟩ := hcut
      have HX5 := hid X5
      have HR5 := hid R5
      have HG5 := hid G5
      have hs5 : w.heap.size ≤ wc.heap.size := G5.size
      clear X5 R5 G5
      obtain ⟨⟨k0, k1, k2, k3, k4, k5, k6, k7, k8⟩, -⟩ := cells9f HX5.out
      go_wp2_with fail
      (with_reducible refine (oneLit r A cap bs p3 _ 7 [5, 8, 3, 12, 1, 0, 20] _ _ (HR5.out.alloc _) (by omega) ?_ ?_ rfl (by omega) (by omega)).mono ?_)
      · simp
      · rfl
      rintro e w6 ⟨x6, rfl, hx6, hr6⟩
      have hx' : ∃ n : Nat, x6 = n ∧ n ≤ 20 := by
        simp only [List.mem_cons, List.not_mem_nil, or_false] at hx6
        exact ⟨x6.toNat, by omega, by omega⟩
      obtain ⟨n0, rfl, hn0⟩ := hx'
      have K0 := hid (block_kept (heap_alloc_new wc (.cells #[.int .i64 z.Parent, .int .i64 z.Kind, .int .i64 z.W, .int .i64 z.H, .int .i64 z.Pad, .int .i64 z.Gap, .int .i64 z.Grow, .int .i64 z.Shrink, .int .i64 z.Justify] 39)) hr6.gr (by have := HR5.out.lt; omega))
      have hs6 : wc.heap.size < w6.heap.size := by have := (Array.getElem?_eq_some_iff.1 K0.out).1; omega
      have R0 : Aside (TRel w r A cap bs p 0 (some ⟨wc.heap.size, 0, none⟩) 1 1 w6) :=
        ⟨[z], p3 + 1, rfl, row1 K0.out hs5, hr6.rd, by omega, grown_trans (grown_alloc HG5.out _) hr6.gr⟩
      clear hx6 hr6 K0
      go_wp2_with fail
      go_loopg [4, 5] 20 (fun gg s4 s5 wr => ∃ (k n c3 m : Nat) (A3 : Option Addr), n ≤ gg ∧ k + n ≤ 20 ∧ 0 < m ∧ m ≤ 16 ∧ s4 = .slice A3 m c3 ∧ s5 = .int .i64 n ∧ Aside (TRel w r A cap bs p k A3 c3 m wr))
      case atStart => exact ⟨0, n0, _, 1, _, hn0, by omega, by omega, by omega, rfl, rfl, R0⟩
      case round =>
        obtain ⟨k, n, c3, m, A3, hng, hkn, hm0, hm16, rfl, rfl, R⟩ := hrel
        clear R0
        obtain ⟨L, p', hLm, hown, hrd, hp', hgr⟩ := R.out
        have HO := hid hown
        have RD := hid hrd
        have GR := hid hgr
        have HLM := hid hLm
        clear R hown hrd hgr hLm
        by_cases hpos : 0 < n
        · go_wp2_with fail
          (with_reducible refine (pick_any r A cap bs p' _ _ RD.out (by omega) (by omega)).mono ?_)
          rintro e w2 ⟨y, rfl, hy, hr2⟩
          have O2 := hid (row_far HO.out hr2.gr hrlt)
          have G2 := hid (grown_trans GR.out hr2.gr)
          have R2 := hid hr2.rd
          clear hr2 hy
          go_wp2_with fail
          (with_reducible refine (someBox_any r A cap bs (p' + 1) _ R2.out (by omega)).mono ?_)
          rintro e w3 ⟨bx, rfl, p4, hr3, hp4, hg3⟩
          have O3 := hid (row_far O2.out hg3 hrlt)
          have G3 := hid (grown_trans G2.out hg3)
          have R3 := hid hr3
          have hs3 : w.heap.size ≤ w3.heap.size := G3.out.size
          clear hr3 hg3
          have hsl := slice_le O3.out
          obtain ⟨hsl1, hsl2⟩ := hsl
          have hadd := addBox_any A3 L c3 y bx w3 (by rw [HLM.out]; omega) (by rw [HLM.out]; omega) hsl2 (row_arrB (base := w.heap.size) (c := c3) (by rw [HLM.out]; exact O3.out))
          rw [HLM.out] at hadd
          have HADD := hid hadd
          clear hadd
          go_wp2_with fail
          refine HADD.out.mono ?_
          rintro e w4 ⟨A4, c4, M, ok, rfl, hok, o4, b4⟩
          have O34 := hid (row_next O3.out b4)
          have O4 := hid (row_lessB o4 hs3)
          have R4 := hid (rd_of_below R3.out b4)
          have G4 := hid (grown_of_below G3.out b4)
          have HOK := hid hok
          clear b4 o4 hok HADD
          cases ok
          · have F : Aside (TRel w r A cap bs p (k + 1) A3 c3 m w4) := ⟨L, p4, HLM.out, O34.out, R4.out, by omega, G4.out⟩
            go_wp2_with fail
            go_roundg (n - 1)
            case measure => omega
            case rel => exact ⟨k + 1, n - 1, c3, m, A3, by omega, by omega, hm0, hm16, rfl, by go_num, F⟩
          · have F : Aside (TRel w r A cap bs p (k + 1) A4 c4 M.length w4) := ⟨M, p4, rfl, O4.out, R4.out, by omega, G4.out⟩
            obtain ⟨hM0, hM16⟩ := HOK.out rfl
            clear HOK
            generalize M.length = mm at *
            go_wp2_with fail
            go_roundg (n - 1)
            case measure => omega
            case rel => exact ⟨k + 1, n - 1, c4, mm, A4, by omega, by omega, hM0, hM16, rfl, by go_num, F⟩
        · have hn : n = 0 := by omega
          subst hn
          go_wp2_with fail
          go_ret
          exact ⟨A3, c3, L, by rw [HLM.out]; rfl, by rw [HLM.out]; exact hm0, by rw [HLM.out]; exact hm16, by rw [HLM.out]; exact HO.out, p', RD.out, by omega, GR.out⟩
end Go.Proofs.Ytpahljbcffmaaaa
