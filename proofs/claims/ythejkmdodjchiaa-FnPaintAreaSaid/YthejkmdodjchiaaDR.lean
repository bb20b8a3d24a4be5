/- The generators of rectangles. -/
import Derived.Test.YthejkmdodjchiaaDG
import Derived.Test.YthejkmdodjchiaaN1
import Derived.StillTailTactics
namespace Go.Proofs.Ythejkmdodjchiaa
set_option linter.unusedVariables false
set_option linter.unusedSimpArgs false
open Go.RowKit Go.Lib

theorem eltRectG : Elt Try.prog 23 27 4 32 := Elt.mk' Try.underlying23 (z := .agg #[.int .i64 0, .int .i64 0, .int .i64 0, .int .i64 0]) (by kernel_rfl) rfl (by omega) (by omega)

/-- What a generator of a rectangle leaves. -/
def RectGo (w : World) (r : Nat) (A : Option Addr) (cap : Nat) (bs : List Int) (p k : Nat) (e : Ending) (w' : World) : Prop :=
  ∃ x : RectD, e = .returned (.agg #[.int .i64 x.X, .int .i64 x.Y, .int .i64 x.W, .int .i64 x.H]) ∧ RGo w r A cap bs p k w'

theorem block_kept {w w' : World} {g r : Nat} {o : Obj} (h : w.heap[g]? = some o) (hg : w.grownBy w' (some r)) (hne : g ≠ r) : w'.heap[g]? = some o :=
  (hg.block g (Array.getElem?_eq_some_iff.1 h).1 (by simpa using hne)).trans h
theorem cells4 {w' : World} {g : Nat} {v0 v1 v2 v3 : Value} {e : TypeId} (h1 : w'.heap[g]? = some (.cells #[v0, v1, v2, v3] e (0, 0))) :
    (w'.cell? ⟨g, 0, none⟩ = some v0 ∧ w'.cell? ⟨g, 1, none⟩ = some v1 ∧ w'.cell? ⟨g, 2, none⟩ = some v2 ∧ w'.cell? ⟨g, 3, none⟩ = some v3) ∧ (w'.frozen? ⟨g, 0, none⟩ = false ∧ w'.frozen? ⟨g, 1, none⟩ = false ∧ w'.frozen? ⟨g, 2, none⟩ = false ∧ w'.frozen? ⟨g, 3, none⟩ = false) := by
  have hf : ∀ o, w'.frozen? ⟨g, o, none⟩ = false := fun o => frozen_of_row w' _ o _ _ h1
  refine ⟨⟨?_, ?_, ?_, ?_⟩, hf 0, hf 1, hf 2, hf 3⟩
  all_goals (rw [cell_of_row w' _ _ _ _ _ h1]; rfl)
theorem grown_sets {w w' : World} {row : Option Nat} {g : Nat} (h : w.grownBy w' row) (hg : w.heap.size ≤ g) (o : Nat) (v : Value) : w.grownBy (w'.setCell ⟨g, o, none⟩ v) row :=
  grown_new h (grown_set (World.grownBy.refl w' (some g)) o v) (fun q hq => by injection hq with hq; omega)

set_option maxHeartbeats 2000000 in
theorem someRect_any (r : Nat) (A : Option Addr) (cap : Nat) (bs : List Int) (p : Nat) (w : World) (h : Rd w r A cap bs p) (hp : p ≤ 100000) :
    Calls Try.prog 43 #[.pointer (some ⟨r, 0, none⟩)] w (RectGo w r A cap bs p 4) := by
  have hrlt := h.lt
  have H := hid h
  clear h
  go_enter Try.func43, Try.ntmps43
  go_wp2_with fail
  (with_reducible refine (pick_any r A cap bs p _ _ (H.out.alloc _) (by omega) (by omega)).mono ?_)
  rintro e w1 ⟨x, rfl, hx, hr1⟩
  have hx1 : x < 40 := hx.2.1 (by omega)
  have hx0 : 0 ≤ x := hx.1
  have K1 := hid (block_kept (heap_alloc_new w _) hr1.gr (by omega))
  have G1 := hid (grown_trans (World.grownBy_alloc w _ _) hr1.gr)
  have R1 := hid hr1.rd
  clear hx hr1
  go_wp2_with fail
  (with_reducible refine (pick_any r A cap bs (p + 1) _ _ R1.out (by omega) (by omega)).mono ?_)
  rintro e w2 ⟨y, rfl, hy, hr2⟩
  have hy1 : y < 40 := hy.2.1 (by omega)
  have hy0 : 0 ≤ y := hy.1
  have K2 := hid (block_kept K1.out hr2.gr (by omega))
  have G2 := hid (grown_trans G1.out hr2.gr)
  have R2 := hid hr2.rd
  clear hy hr2
  go_wp2_with fail
  (with_reducible refine (oneLit r A cap bs (p + 1 + 1) _ 6 [10, 20, 1, 0, 5, 40] _ _ R2.out (by omega) ?_ ?_ rfl (by omega) (by omega)).mono ?_)
  · rfl
  · rfl
  rintro e w3 ⟨u, rfl, hu, hr3⟩
  have K3 := hid (block_kept K2.out hr3.gr (by omega))
  have G3 := hid (grown_trans G2.out hr3.gr)
  have R3 := hid hr3.rd
  clear hu hr3
  go_wp2_with fail
  (with_reducible refine (oneLit r A cap bs (p + 1 + 1 + 1) _ 6 [10, 20, 1, 0, 7, 40] _ _ R3.out (by omega) ?_ ?_ rfl (by omega) (by omega)).mono ?_)
  · rfl
  · rfl
  rintro e w4 ⟨v, rfl, hv, hr4⟩
  have K4 := hid (block_kept K3.out hr4.gr (by omega))
  have G4 := hid (grown_trans G3.out hr4.gr)
  have R4 := hid hr4.rd
  clear hv hr4
  obtain ⟨⟨k1, k2, k3, k4⟩, f1, f2, f3, f4⟩ := cells4 K4.out
  go_wp2
  refine bodyPost_ret (v := .agg #[.int .i64 (x - 10), .int .i64 (y - 10), .int .i64 u, .int .i64 v]) (by simp [results, Try.results43, go_sem, k1, k2, k3, k4]) rfl ⟨⟨x - 10, y - 10, u, v⟩, rfl, p + 1 + 1 + 1 + 1, ?_, by omega, ?_⟩
  · refine (((R4.out.kept (grown_set (World.grownBy.refl w4 (some w.heap.size)) 0 _) ?_).kept (grown_set (World.grownBy.refl _ (some w.heap.size)) 1 _) ?_).kept (grown_set (World.grownBy.refl _ (some w.heap.size)) 2 _) ?_).kept (grown_set (World.grownBy.refl _ (some w.heap.size)) 3 _) ?_
    all_goals (intro q hq; injection hq with hq; omega)
  · exact grown_sets (grown_sets (grown_sets (grown_sets G4.out (Nat.le_refl _) 0 _) (Nat.le_refl _) 1 _) (Nat.le_refl _) 2 _) (Nat.le_refl _) 3 _

theorem set4 {w W : World} {g r : Nat} {A : Option Addr} {cap : Nat} {bs : List Int} {p : Nat} {v0 v1 v2 v3 : Value} (R : Rd W r A cap bs p) (G : w.grownBy W (some r)) (hg : w.heap.size ≤ g) (hr : r < g) :
    Rd ((((W.setCell ⟨g, 0, none⟩ v0).setCell ⟨g, 1, none⟩ v1).setCell ⟨g, 2, none⟩ v2).setCell ⟨g, 3, none⟩ v3) r A cap bs p ∧ w.grownBy ((((W.setCell ⟨g, 0, none⟩ v0).setCell ⟨g, 1, none⟩ v1).setCell ⟨g, 2, none⟩ v2).setCell ⟨g, 3, none⟩ v3) (some r) := by
  refine ⟨?_, grown_sets (grown_sets (grown_sets (grown_sets G hg 0 _) hg 1 _) hg 2 _) hg 3 _⟩
  refine (((R.kept (grown_set (World.grownBy.refl W (some g)) 0 _) ?_).kept (grown_set (World.grownBy.refl _ (some g)) 1 _) ?_).kept (grown_set (World.grownBy.refl _ (some g)) 2 _) ?_).kept (grown_set (World.grownBy.refl _ (some g)) 3 _) ?_
  all_goals (intro q hq; injection hq with hq; omega)

set_option maxHeartbeats 2000000 in
theorem anyRect_any (r : Nat) (A : Option Addr) (cap : Nat) (bs : List Int) (p : Nat) (w : World) (h : Rd w r A cap bs p) (hp : p ≤ 100000) :
    Calls Try.prog 54 #[.pointer (some ⟨r, 0, none⟩)] w (RectGo w r A cap bs p 6) := by
  have hrlt := h.lt
  have H := hid h
  clear h
  go_enter Try.func54, Try.ntmps54
  go_wp2_with fail
  (with_reducible refine (someRect_any r A cap bs p _ (H.out.alloc _) (by omega)).mono ?_)
  rintro e w1 ⟨x, rfl, p1, R1', hp1, G1'⟩
  have hz1 : w.heap.size < w1.heap.size := by have := G1'.size; simp at this; omega
  have K1 := hid (block_kept (heap_alloc_new w _) G1' (by omega))
  have G1 := hid (grown_trans (World.grownBy_alloc w _ _) G1')
  have R1 := hid R1'
  clear G1' R1'
  go_wp2_with fail
  (with_reducible refine (pick_any r A cap bs p1 _ _ (R1.out.alloc _) (by omega) (by omega)).mono ?_)
  rintro e w2 ⟨n, rfl, hn, hr2⟩
  have hn0 : 0 ≤ n := hn.1
  have hz2 : w1.heap.size < w2.heap.size := by have := hr2.gr.size; simp at this; omega
  have K2 := hid (block_kept (Below.heap_alloc w1 _ _ (by omega) ▸ K1.out) hr2.gr (by omega))
  have X2 := hid (block_kept (heap_alloc_new w1 _) hr2.gr (by omega))
  have G2 := hid (grown_trans (grown_trans G1.out (World.grownBy_alloc w1 _ _)) hr2.gr)
  have R2 := hid hr2.rd
  clear hn hr2
  by_cases hn1 : n = 0
  · subst hn1
    go_wp2_with fail
    (with_reducible refine (oneLit r A cap bs (p1 + 1) _ 3 [100000, 100001, -100001] _ _ R2.out (by omega) ?_ ?_ rfl (by omega) (by omega)).mono ?_)
    · rfl
    · rfl
    rintro e w3 ⟨u, rfl, hu, hr3⟩
    have hz3 : w2.heap.size ≤ w3.heap.size := hr3.gr.size
    have K3 := block_kept K2.out hr3.gr (by omega)
    have X3 := block_kept X2.out hr3.gr (by omega)
    have G3 := hid (grown_trans G2.out hr3.gr)
    have R3 := hid hr3.rd
    clear hu hr3
    obtain ⟨⟨k1, k2, k3, k4⟩, f1, f2, f3, f4⟩ := cells4 K3
    obtain ⟨⟨l1, l2, l3, l4⟩, g1, g2, g3, g4⟩ := cells4 X3
    have hne : w.heap.size ≠ w1.heap.size := by omega
    have hne' : w1.heap.size ≠ w.heap.size := by omega
    have RR : Aside (Rd (w3.setCell ⟨w1.heap.size, 0, none⟩ (.int .i64 u)) r A cap bs (p1 + 1 + 1) ∧ w.grownBy (w3.setCell ⟨w1.heap.size, 0, none⟩ (.int .i64 u)) (some r)) :=
      ⟨R3.out.kept (grown_set (World.grownBy.refl w3 (some w1.heap.size)) 0 _) (fun q hq => by injection hq with hq; omega), grown_sets G3.out (by omega) 0 _⟩
    clear K3 X3
    go_wp2
    refine bodyPost_ret (v := .agg #[.int .i64 u, .int .i64 x.Y, .int .i64 x.W, .int .i64 x.H]) (by simp [results, Try.results54, go_sem, k1, k2, k3, k4, hne, hne']) rfl ⟨⟨u, x.Y, x.W, x.H⟩, rfl, p1 + 1 + 1, ?_, by omega, ?_⟩
    · exact (set4 RR.out.1 RR.out.2 (Nat.le_refl _) hrlt).1
    · exact (set4 RR.out.1 RR.out.2 (Nat.le_refl _) hrlt).2
  · have hn1' : (n == 0) = false := by rw [beq_eq_false_iff_ne]; exact hn1
    have HN1 := hid hn1
    clear hn1
    by_cases hn2 : n = 1
    · subst hn2
      clear hn1'
      go_wp2_with fail
      (with_reducible refine (oneLit r A cap bs (p1 + 1) _ 3 [-1, 200000, 200001] _ _ R2.out (by omega) ?_ ?_ rfl (by omega) (by omega)).mono ?_)
      · rfl
      · rfl
      rintro e w3 ⟨u, rfl, hu, hr3⟩
      have hz3 : w2.heap.size ≤ w3.heap.size := hr3.gr.size
      have K3 := block_kept K2.out hr3.gr (by omega)
      have X3 := block_kept X2.out hr3.gr (by omega)
      have G3 := hid (grown_trans G2.out hr3.gr)
      have R3 := hid hr3.rd
      clear hu hr3
      obtain ⟨⟨k1, k2, k3, k4⟩, f1, f2, f3, f4⟩ := cells4 K3
      obtain ⟨⟨l1, l2, l3, l4⟩, g1, g2, g3, g4⟩ := cells4 X3
      have hne : w.heap.size ≠ w1.heap.size := by omega
      have hne' : w1.heap.size ≠ w.heap.size := by omega
      have RR : Aside (Rd (w3.setCell ⟨w1.heap.size, 2, none⟩ (.int .i64 u)) r A cap bs (p1 + 1 + 1) ∧ w.grownBy (w3.setCell ⟨w1.heap.size, 2, none⟩ (.int .i64 u)) (some r)) :=
        ⟨R3.out.kept (grown_set (World.grownBy.refl w3 (some w1.heap.size)) 2 _) (fun q hq => by injection hq with hq; omega), grown_sets G3.out (by omega) 2 _⟩
      clear K3 X3
      go_wp2
      refine bodyPost_ret (v := .agg #[.int .i64 x.X, .int .i64 x.Y, .int .i64 u, .int .i64 x.H]) (by simp [results, Try.results54, go_sem, k1, k2, k3, k4, hne, hne']) rfl ⟨⟨x.X, x.Y, u, x.H⟩, rfl, p1 + 1 + 1, ?_, by omega, ?_⟩
      · exact (set4 RR.out.1 RR.out.2 (Nat.le_refl _) hrlt).1
      · exact (set4 RR.out.1 RR.out.2 (Nat.le_refl _) hrlt).2
    · have hn2' : (n == 1) = false := by rw [beq_eq_false_iff_ne]; exact hn2
      have HN2 := hid hn2
      clear hn2
      obtain ⟨⟨k1, k2, k3, k4⟩, f1, f2, f3, f4⟩ := cells4 K2.out
      obtain ⟨⟨l1, l2, l3, l4⟩, g1, g2, g3, g4⟩ := cells4 X2.out
      have hne : w.heap.size ≠ w1.heap.size := by omega
      have hne' : w1.heap.size ≠ w.heap.size := by omega
      go_wp2
      refine bodyPost_ret (v := .agg #[.int .i64 x.X, .int .i64 x.Y, .int .i64 x.W, .int .i64 x.H]) (by simp [results, Try.results54, go_sem, k1, k2, k3, k4, hne, hne']) rfl ⟨x, rfl, p1 + 1, ?_, by omega, ?_⟩
      · exact (set4 R2.out G2.out (Nat.le_refl _) hrlt).1
      · exact (set4 R2.out G2.out (Nat.le_refl _) hrlt).2
end Go.Proofs.Ythejkmdodjchiaa
