/- The generators of trees: someBox, someAt. Written by a program of ours. -/
import Derived.Test.YtpahljbcffmaaaaB13
import Derived.Test.YtpahljbcffmaaaaDG
namespace Go.Proofs.Ytpahljbcffmaaaa
set_option linter.unusedVariables false
set_option linter.unusedSimpArgs false
open Go.RowKit Go.Lib

theorem block_kept {w w' : World} {g r : Nat} {o : Obj} (h : w.heap[g]? = some o) (hg : w.grownBy w' (some r)) (hne : g ≠ r) : w'.heap[g]? = some o :=
  (hg.block g (Array.getElem?_eq_some_iff.1 h).1 (by simpa using hne)).trans h
theorem grown_sets {w w' : World} {row : Option Nat} {g : Nat} (h : w.grownBy w' row) (hg : w.heap.size ≤ g) (o : Nat) (v : Value) : w.grownBy (w'.setCell ⟨g, o, none⟩ v) row :=
  grown_new h (grown_set (World.grownBy.refl w' (some g)) o v) (fun q hq => by injection hq with hq; omega)
theorem cells9f {w' : World} {g : Nat} {v0 v1 v2 v3 v4 v5 v6 v7 v8 : Value} {e : TypeId} (h1 : w'.heap[g]? = some (.cells #[v0, v1, v2, v3, v4, v5, v6, v7, v8] e (0, 0))) :
    (w'.cell? ⟨g, 0, none⟩ = some v0 ∧ w'.cell? ⟨g, 1, none⟩ = some v1 ∧ w'.cell? ⟨g, 2, none⟩ = some v2 ∧ w'.cell? ⟨g, 3, none⟩ = some v3 ∧ w'.cell? ⟨g, 4, none⟩ = some v4 ∧ w'.cell? ⟨g, 5, none⟩ = some v5 ∧ w'.cell? ⟨g, 6, none⟩ = some v6 ∧ w'.cell? ⟨g, 7, none⟩ = some v7 ∧ w'.cell? ⟨g, 8, none⟩ = some v8) ∧ (w'.frozen? ⟨g, 0, none⟩ = false ∧ w'.frozen? ⟨g, 1, none⟩ = false ∧ w'.frozen? ⟨g, 2, none⟩ = false ∧ w'.frozen? ⟨g, 3, none⟩ = false ∧ w'.frozen? ⟨g, 4, none⟩ = false ∧ w'.frozen? ⟨g, 5, none⟩ = false ∧ w'.frozen? ⟨g, 6, none⟩ = false ∧ w'.frozen? ⟨g, 7, none⟩ = false ∧ w'.frozen? ⟨g, 8, none⟩ = false) := by
  have hf : ∀ o, w'.frozen? ⟨g, o, none⟩ = false := fun o => frozen_of_row w' _ o _ _ h1
  refine ⟨⟨?_, ?_, ?_, ?_, ?_, ?_, ?_, ?_, ?_⟩, hf 0, hf 1, hf 2, hf 3, hf 4, hf 5, hf 6, hf 7, hf 8⟩
  all_goals (rw [cell_of_row w' _ _ _ _ _ h1]; rfl)
theorem blk_alloc {w : World} {g : Nat} {o : Obj} (h : w.heap[g]? = some o) (o' : Obj) : (w.alloc o').heap[g]? = some o :=
  (Below.heap_alloc w o' g (Array.getElem?_eq_some_iff.1 h).1).trans h
theorem nest9 {W : World} {g : Nat} {a0 a1 a2 a3 a4 a5 a6 a7 a8 v0 v1 v2 v3 v4 v5 v6 v7 v8 : Value} {e : TypeId} (h : W.heap[g]? = some (.cells #[a0, a1, a2, a3, a4, a5, a6, a7, a8] e (0, 0))) : (((((((((W.setCell ⟨g, 0, none⟩ v0).setCell ⟨g, 1, none⟩ v1).setCell ⟨g, 2, none⟩ v2).setCell ⟨g, 3, none⟩ v3).setCell ⟨g, 4, none⟩ v4).setCell ⟨g, 5, none⟩ v5).setCell ⟨g, 6, none⟩ v6).setCell ⟨g, 7, none⟩ v7).setCell ⟨g, 8, none⟩ v8).heap[g]? = some (.cells #[v0, v1, v2, v3, v4, v5, v6, v7, v8] e (0, 0)) := by
  have h0 := heap_setCell_same _ g 0 _ _ v0 h
  have h1 := heap_setCell_same _ g 1 _ _ v1 h0
  have h2 := heap_setCell_same _ g 2 _ _ v2 h1
  have h3 := heap_setCell_same _ g 3 _ _ v3 h2
  have h4 := heap_setCell_same _ g 4 _ _ v4 h3
  have h5 := heap_setCell_same _ g 5 _ _ v5 h4
  have h6 := heap_setCell_same _ g 6 _ _ v6 h5
  have h7 := heap_setCell_same _ g 7 _ _ v7 h6
  have h8 := heap_setCell_same _ g 8 _ _ v8 h7
  simpa using h8
theorem Rd.set1 {W : World} {g r : Nat} {A : Option Addr} {cap : Nat} {bs : List Int} {p : Nat} (R : Rd W r A cap bs p) (hr : r < g) (o : Nat) (v : Value) : Rd (W.setCell ⟨g, o, none⟩ v) r A cap bs p :=
  R.kept (grown_set (World.grownBy.refl W (some g)) o v) (fun q hq => by injection hq with hq; omega)
theorem set9 {w W : World} {g r : Nat} {A : Option Addr} {cap : Nat} {bs : List Int} {p : Nat} {v0 v1 v2 v3 v4 v5 v6 v7 v8 : Value} (R : Rd W r A cap bs p) (G : w.grownBy W (some r)) (hg : w.heap.size ≤ g) (hr : r < g) :
    Rd (((((((((W.setCell ⟨g, 0, none⟩ v0).setCell ⟨g, 1, none⟩ v1).setCell ⟨g, 2, none⟩ v2).setCell ⟨g, 3, none⟩ v3).setCell ⟨g, 4, none⟩ v4).setCell ⟨g, 5, none⟩ v5).setCell ⟨g, 6, none⟩ v6).setCell ⟨g, 7, none⟩ v7).setCell ⟨g, 8, none⟩ v8) r A cap bs p ∧ w.grownBy (((((((((W.setCell ⟨g, 0, none⟩ v0).setCell ⟨g, 1, none⟩ v1).setCell ⟨g, 2, none⟩ v2).setCell ⟨g, 3, none⟩ v3).setCell ⟨g, 4, none⟩ v4).setCell ⟨g, 5, none⟩ v5).setCell ⟨g, 6, none⟩ v6).setCell ⟨g, 7, none⟩ v7).setCell ⟨g, 8, none⟩ v8) (some r) := by
  refine ⟨?_, ?_⟩
  · exact ((((((((((R.set1 hr 0 _).set1 hr 1 _).set1 hr 2 _).set1 hr 3 _).set1 hr 4 _).set1 hr 5 _).set1 hr 6 _).set1 hr 7 _).set1 hr 8 _))
  · exact grown_sets (grown_sets (grown_sets (grown_sets (grown_sets (grown_sets (grown_sets (grown_sets (grown_sets G hg 0 _) hg 1 _) hg 2 _) hg 3 _) hg 4 _) hg 5 _) hg 6 _) hg 7 _) hg 8 _

/-- What a generator of a box leaves. -/
def BoxGo (w : World) (r : Nat) (A : Option Addr) (cap : Nat) (bs : List Int) (p k : Nat) (e : Ending) (w' : World) : Prop :=
  ∃ x : BoxD, e = .returned (.agg #[.int .i64 x.Parent, .int .i64 x.Kind, .int .i64 x.W, .int .i64 x.H, .int .i64 x.Pad, .int .i64 x.Gap, .int .i64 x.Grow, .int .i64 x.Shrink, .int .i64 x.Justify]) ∧ RGo w r A cap bs p k w'

set_option maxRecDepth 100000 in
set_option maxHeartbeats 4000000 in
theorem someBox_any (r : Nat) (A : Option Addr) (cap : Nat) (bs : List Int) (p : Nat) (w : World) (h : Rd w r A cap bs p) (hp : p ≤ 100000) :
    Calls Try.prog 66 #[.pointer (some ⟨r, 0, none⟩)] w (BoxGo w r A cap bs p 8) := by
  have hrlt := h.lt
  have H := hid h
  clear h
  go_enter Try.func66, Try.ntmps66
  go_wp2_with fail
  (with_reducible refine (pick_any r A cap bs p _ _ (H.out.alloc _) (by omega) (by omega)).mono ?_)
  rintro e w1 ⟨k, rfl, hk, hr1⟩
  have K1 := hid (block_kept (heap_alloc_new w _) hr1.gr (by omega))
  have G1 := hid (grown_trans (World.grownBy_alloc w _ _) hr1.gr)
  have R1 := hid hr1.rd
  clear hk hr1
  go_wp2_with fail
  (with_reducible refine (oneLit r A cap bs (p + 1) _ 4 [0, 0, 1, 5] _ _ R1.out (by omega) ?_ ?_ rfl (by omega) (by omega)).mono ?_)
  · rfl
  · rfl
  rintro e w2 ⟨pa, rfl, hu, hr2⟩
  have K2 := hid (block_kept K1.out hr2.gr (by omega))
  have G2 := hid (grown_trans G1.out hr2.gr)
  have R2 := hid hr2.rd
  clear hu hr2
  go_wp2_with fail
  (with_reducible refine (oneLit r A cap bs (p + 1 + 1) _ 4 [0, 2, 0, 5] _ _ R2.out (by omega) ?_ ?_ rfl (by omega) (by omega)).mono ?_)
  · rfl
  · rfl
  rintro e w3 ⟨ga, rfl, hu, hr3⟩
  have K3 := hid (block_kept K2.out hr3.gr (by omega))
  have G3 := hid (grown_trans G2.out hr3.gr)
  have R3 := hid hr3.rd
  clear hu hr3
  go_wp2_with fail
  (with_reducible refine (oneLit r A cap bs (p + 1 + 1 + 1) _ 4 [0, 1, 2, 0] _ _ R3.out (by omega) ?_ ?_ rfl (by omega) (by omega)).mono ?_)
  · rfl
  · rfl
  rintro e w4 ⟨gr, rfl, hu, hr4⟩
  have K4 := hid (block_kept K3.out hr4.gr (by omega))
  have G4 := hid (grown_trans G3.out hr4.gr)
  have R4 := hid hr4.rd
  clear hu hr4
  go_wp2_with fail
  (with_reducible refine (oneLit r A cap bs (p + 1 + 1 + 1 + 1) _ 4 [0, 1, 1, 3] _ _ R4.out (by omega) ?_ ?_ rfl (by omega) (by omega)).mono ?_)
  · rfl
  · rfl
  rintro e w5 ⟨sh, rfl, hu, hr5⟩
  have K5 := hid (block_kept K4.out hr5.gr (by omega))
  have G5 := hid (grown_trans G4.out hr5.gr)
  have R5 := hid hr5.rd
  clear hu hr5
  go_wp2_with fail
  (with_reducible refine (pick_any r A cap bs (p + 1 + 1 + 1 + 1 + 1) _ _ R5.out (by omega) (by omega)).mono ?_)
  rintro e w6 ⟨ju, rfl, hk, hr6⟩
  have K6 := hid (block_kept K5.out hr6.gr (by omega))
  have G6 := hid (grown_trans G5.out hr6.gr)
  have R6 := hid hr6.rd
  have hz6 : w.heap.size < w6.heap.size := (Array.getElem?_eq_some_iff.1 K6.out).1
  clear hk hr6
  by_cases hk0 : k = 0
  · subst hk0
    go_wp2_with fail
    (with_reducible refine (oneLit r A cap bs (p + 1 + 1 + 1 + 1 + 1 + 1) _ 6 [10, 30, 50, 0, 100, 7] _ _ (R6.out.alloc _) (by omega) ?_ ?_ rfl (by omega) (by omega)).mono ?_)
    · simp
    · rfl
    rintro e w7 ⟨u, rfl, hu, hr7⟩
    have hz7 : w6.heap.size < w7.heap.size := by have := hr7.gr.size; simp at this; omega
    have K7 := hid (block_kept (Below.heap_alloc w6 _ _ (by omega) ▸ K6.out) hr7.gr (by omega))
    have X7 := hid (block_kept (heap_alloc_new w6 _) hr7.gr (by have := R6.out.lt; omega))
    have G7 := hid (grown_trans (grown_trans G6.out (World.grownBy_alloc w6 _ _)) hr7.gr)
    have R7 := hid hr7.rd
    clear hu hr7
    obtain ⟨⟨c0, c1, c2, c3, c4, c5, c6, c7, c8⟩, f0, f1, f2, f3, f4, f5, f6, f7, f8⟩ := cells9f X7.out
    have R7' := hid (R7.out.set1 (show r < w6.heap.size by omega) 2 (.int .i64 u))
    clear c0 c1 c3 c4 c5 c6 c7 c8 f0 f1 f3 f4 f5 f6 f7 f8
    go_wp2_with fail
    (with_reducible refine (oneLit r A cap bs (p + 1 + 1 + 1 + 1 + 1 + 1 + 1) _ 6 [10, 20, 0, 40, 100, 3] _ _ R7'.out (by omega) ?_ ?_ rfl (by omega) (by omega)).mono ?_)
    · simp [World.setCell]
    · rfl
    rintro e w8 ⟨v, rfl, hu, hr8⟩
    have hne : w.heap.size ≠ w6.heap.size := by omega
    have hne' : w6.heap.size ≠ w.heap.size := by omega
    have K8 := hid (block_kept ((Below.heap_setCell w7 _ _ _ (show w.heap.size ≠ w6.heap.size from hne)).trans K7.out) hr8.gr (by omega))
    have X8 := hid (block_kept (heap_setCell_same w7 w6.heap.size 2 _ _ _ X7.out) hr8.gr (by omega))
    have G8 := hid (grown_trans (grown_sets G7.out (by omega) 2 _) hr8.gr)
    have R8 := hid hr8.rd
    have hz8 : w7.heap.size ≤ w8.heap.size := by have := hr8.gr.size; simpa [World.setCell] using this
    clear hu hr8 c2 f2
    obtain ⟨⟨k0, k1, k2, k3, k4, k5, k6, k7, k8⟩, e0, e1, e2, e3, e4, e5, e6, e7, e8⟩ := cells9f K8.out
    obtain ⟨⟨c0, c1, c2, c3, c4, c5, c6, c7, c8⟩, f0, f1, f2, f3, f4, f5, f6, f7, f8⟩ := cells9f (show w8.heap[w6.heap.size]? = some (.cells #[_, _, _, _, _, _, _, _, _] _ (0, 0)) from X8.out)
    have RR := hid (R8.out.set1 (show r < w6.heap.size by omega) 3 (.int .i64 v))
    have GG := hid (grown_sets G8.out (show w.heap.size ≤ w6.heap.size by omega) 3 (.int .i64 v))
    have NB := hid (nest9 (v0 := .int .i64 0) (v1 := .int .i64 0) (v2 := .int .i64 u) (v3 := .int .i64 v) (v4 := .int .i64 pa) (v5 := .int .i64 ga) (v6 := .int .i64 gr) (v7 := .int .i64 sh) (v8 := .int .i64 ju) ((Below.heap_setCell w8 ⟨w6.heap.size, 3, none⟩ (.int .i64 v) w.heap.size hne).trans K8.out))
    obtain ⟨⟨m0, m1, m2, m3, m4, m5, m6, m7, m8⟩, -⟩ := cells9f NB.out
    go_wp2
    refine bodyPost_ret (v := .agg #[.int .i64 0, .int .i64 0, .int .i64 u, .int .i64 v, .int .i64 pa, .int .i64 ga, .int .i64 gr, .int .i64 sh, .int .i64 ju]) (by simp only [results, Try.results66]; simp [go_sem, m0, m1, m2, m3, m4, m5, m6, m7, m8]) rfl ⟨⟨0, 0, u, v, pa, ga, gr, sh, ju⟩, rfl, p + 1 + 1 + 1 + 1 + 1 + 1 + 1 + 1, ?_, by omega, ?_⟩
    · exact (set9 RR.out GG.out (Nat.le_refl _) hrlt).1
    · exact (set9 RR.out GG.out (Nat.le_refl _) hrlt).2
  · have hk0' : (k == 0) = false := by rw [beq_eq_false_iff_ne]; exact hk0
    have HK0 := hid hk0
    clear hk0
    obtain ⟨⟨k0, k1, k2, k3, k4, k5, k6, k7, k8⟩, e0, e1, e2, e3, e4, e5, e6, e7, e8⟩ := cells9f K6.out
    have SS := hid (set9 (v0 := .int .i64 0) (v1 := .int .i64 k) (v2 := .int .i64 0) (v3 := .int .i64 0) (v4 := .int .i64 pa) (v5 := .int .i64 ga) (v6 := .int .i64 gr) (v7 := .int .i64 sh) (v8 := .int .i64 ju) R6.out G6.out (Nat.le_refl _) hrlt)
    have NB := hid (nest9 (v0 := .int .i64 0) (v1 := .int .i64 k) (v2 := .int .i64 0) (v3 := .int .i64 0) (v4 := .int .i64 pa) (v5 := .int .i64 ga) (v6 := .int .i64 gr) (v7 := .int .i64 sh) (v8 := .int .i64 ju) K6.out)
    obtain ⟨⟨m0, m1, m2, m3, m4, m5, m6, m7, m8⟩, -⟩ := cells9f (blk_alloc NB.out (.cells #[.int .i64 0, .int .i64 k, .int .i64 0, .int .i64 0, .int .i64 pa, .int .i64 ga, .int .i64 gr, .int .i64 sh, .int .i64 ju] 39))
    go_wp2
    refine bodyPost_ret (v := .agg #[.int .i64 0, .int .i64 k, .int .i64 0, .int .i64 0, .int .i64 pa, .int .i64 ga, .int .i64 gr, .int .i64 sh, .int .i64 ju]) (by simp only [results, Try.results66]; simp [go_sem, m0, m1, m2, m3, m4, m5, m6, m7, m8]) rfl ⟨⟨0, k, 0, 0, pa, ga, gr, sh, ju⟩, rfl, p + 1 + 1 + 1 + 1 + 1 + 1, ?_, by omega, ?_⟩
    · exact SS.out.1.alloc _
    · exact grown_alloc SS.out.2 _

/-- What someAt leaves: some number. -/
def AtGo (w : World) (r : Nat) (A : Option Addr) (cap : Nat) (bs : List Int) (p : Nat) (e : Ending) (w' : World) : Prop :=
  ∃ x : Int, e = .returned (.int .i64 x) ∧ (-9223372036854775808 ≤ x ∧ x ≤ 9223372036854775807) ∧ RGo w r A cap bs p 2 w'

set_option maxHeartbeats 2000000 in
theorem someAt_any (r : Nat) (A : Option Addr) (cap : Nat) (bs : List Int) (p : Nat) (At : Option Addr) (n ct : Nat) (w : World) (h : Rd w r A cap bs p) (hp : p ≤ 100000) (hn : n ≤ 1000) :
    Calls Try.prog 51 #[.pointer (some ⟨r, 0, none⟩), .slice At n ct] w (AtGo w r A cap bs p) := by
  have H := hid h
  clear h
  go_enter Try.func51, Try.ntmps51
  go_wp2_with fail
  (with_reducible refine (pick_any r A cap bs p _ _ H.out (by omega) (by omega)).mono ?_)
  rintro e w1 ⟨k, rfl, hk, hr1⟩
  have G1 := hid hr1.gr
  have R1 := hid hr1.rd
  clear hk hr1
  by_cases hk0 : k = 0
  · subst hk0
    go_wp2_with fail
    (with_reducible refine (oneLit r A cap bs (p + 1) _ 3 [-1, (n : Int), 0] _ _ R1.out (by omega) ?_ ?_ rfl (by omega) (by omega)).mono ?_)
    · rfl
    · rfl
    rintro e w2 ⟨x, rfl, hx, hr2⟩
    have G2 := hid (grown_trans G1.out hr2.gr)
    have R2 := hid hr2.rd
    have hxb : -9223372036854775808 ≤ x ∧ x ≤ 9223372036854775807 := by
      simp only [List.mem_cons, List.not_mem_nil, or_false] at hx
      omega
    clear hx hr2
    go_wp2
    go_ret
    exact ⟨x, rfl, hxb, p + 1 + 1, R2.out, by omega, G2.out⟩
  · have hk0' : (k == 0) = false := by rw [beq_eq_false_iff_ne]; exact hk0
    have HK0 := hid hk0
    clear hk0
    go_wp2_with fail
    (with_reducible refine (pick_any r A cap bs (p + 1) _ _ R1.out (by omega) (by omega)).mono ?_)
    rintro e w2 ⟨x, rfl, hx, hr2⟩
    have G2 := hid (grown_trans G1.out hr2.gr)
    have R2 := hid hr2.rd
    have hxb : -9223372036854775808 ≤ x ∧ x ≤ 9223372036854775807 := by
      have h1 := hx.1
      have h2 := hx.2.1 (by omega)
      omega
    clear hx hr2
    go_wp2
    go_ret
    exact ⟨x, rfl, hxb, p + 1 + 1, R2.out, by omega, G2.out⟩
end Go.Proofs.Ytpahljbcffmaaaa
