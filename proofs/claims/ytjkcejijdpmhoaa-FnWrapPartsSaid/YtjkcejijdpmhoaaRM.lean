/- impl's rectangles: hull, made, MeetRects, HullOf. -/
import Derived.Test.YtjkcejijdpmhoaaRI
namespace Go.Proofs.Ytjkcejijdpmhoaa
open Go.RowKit Go.Lib

def meetOk (a b : RectD) : Bool := validR a && (validR b && meetsR a b)
def meetV (a b : RectD) : RectD := if meetOk a b then meetR a b else zeroR

theorem cell4 {w' : World} {g : Nat} {v0 v1 v2 v3 : Value} {e : TypeId} (h1 : w'.heap[g]? = some (.cells #[v0, v1, v2, v3] e (0, 0))) :
    (w'.cell? ⟨g, 0, none⟩ = some v0 ∧ w'.cell? ⟨g, 1, none⟩ = some v1 ∧ w'.cell? ⟨g, 2, none⟩ = some v2 ∧ w'.cell? ⟨g, 3, none⟩ = some v3) ∧ (w'.frozen? ⟨g, 0, none⟩ = false ∧ w'.frozen? ⟨g, 1, none⟩ = false ∧ w'.frozen? ⟨g, 2, none⟩ = false ∧ w'.frozen? ⟨g, 3, none⟩ = false) := by
  have hf : ∀ o, w'.frozen? ⟨g, o, none⟩ = false := fun o => frozen_of_row w' _ o _ _ h1
  refine ⟨⟨?_, ?_, ?_, ?_⟩, hf 0, hf 1, hf 2, hf 3⟩
  all_goals (rw [cell_of_row w' _ _ _ _ _ h1]; rfl)
/-- Three blocks of four cells, made ahead of a call. -/
theorem kept3 {w W w' : World} {c0 c1 c2 : Array Value} {e : TypeId} {B : Nat} (hW : W = ((w.alloc (.cells c0 e)).alloc (.cells c1 e)).alloc (.cells c2 e)) (hb : Below B W w') (hB : w.heap.size + 2 < B) :
    w'.heap[w.heap.size]? = some (.cells c0 e (0, 0)) ∧ w'.heap[w.heap.size + 1]? = some (.cells c1 e (0, 0)) ∧ w'.heap[w.heap.size + 1 + 1]? = some (.cells c2 e (0, 0)) := by
  subst hW
  have a0 := heap_alloc_new w (.cells c0 e)
  have a1 := heap_alloc_new (w.alloc (.cells c0 e)) (.cells c1 e)
  have a2 := heap_alloc_new ((w.alloc (.cells c0 e)).alloc (.cells c1 e)) (.cells c2 e)
  have s1 : (w.alloc (.cells c0 e)).heap.size = w.heap.size + 1 := by simp
  have s2 : ((w.alloc (.cells c0 e)).alloc (.cells c1 e)).heap.size = w.heap.size + 1 + 1 := by simp
  rw [s1] at a1
  rw [s2] at a2
  refine ⟨?_, ?_, (hb.block _ (by omega)).trans a2⟩
  · rw [hb.block _ (by omega), Below.heap_alloc _ _ _ (by omega), Below.heap_alloc _ _ _ (by omega)]; exact a0
  · rw [hb.block _ (by omega), Below.heap_alloc _ _ _ (by omega)]; exact a1

set_option maxHeartbeats 4000000 in
theorem meetRects_any (a b : RectD) (w : World) :
    Calls Try.prog 43 #[.agg #[.int .i64 a.X, .int .i64 a.Y, .int .i64 a.W, .int .i64 a.H], .agg #[.int .i64 b.X, .int .i64 b.Y, .int .i64 b.W, .int .i64 b.H]] w
      fun e w' => e = .returned (.tuple #[.agg #[.int .i64 (meetV a b).X, .int .i64 (meetV a b).Y, .int .i64 (meetV a b).W, .int .i64 (meetV a b).H], .bool (meetOk a b)]) ∧ Below w.heap.size w w' := by
  have hva := fun W => validR_any a W
  have hvb := fun W => validR_any b W
  have hme := fun (h1 : validR a = true) (h2 : validR b = true) W => meet_any a b W h1 h2
  have hO : meetOk a b = (validR a && (validR b && meetsR a b)) := rfl
  have hV : meetV a b = if meetOk a b then meetR a b else zeroR := rfl
  rw [hV, hO]
  generalize meetR a b = q at *
  clear hO hV
  have K : ∀ o1 o2 o3, Below w.heap.size w (((w.alloc o1).alloc o2).alloc o3) := fun o1 o2 o3 => below_al (below_al (below_al (Below.refl _ _) rfl _) rfl _) rfl _
  cases ha : validR a
  · rw [ha] at hva
    have HA := hid hva
    clear hva hvb hme ha
    simp only [Bool.false_and, Bool.false_eq_true, if_false, zeroR]
    go_enter Try.func43, Try.ntmps43
    go_wp2_with fail
    refine (HA.out _).mono ?_
    rintro e w' ⟨rfl, hb⟩
    obtain ⟨h0, h1, h2⟩ := kept3 rfl hb (by simp)
    obtain ⟨⟨k1, k2, k3, k4⟩, f1, f2, f3, f4⟩ := cell4 h2
    have HB := hid hb
    clear hb h0 h1 h2
    go_wp2
    refine bodyPost_ret (v := .tuple #[.agg #[_, _, _, _], .bool _]) (by simp [results, Try.results43, go_sem, k1, k2, k3, k4]) rfl ⟨rfl, ?_⟩
    exact below4 (HB.out.mono (by simp; omega)) (K _ _ _) (Nat.le_refl _) (by omega)
  · rw [ha] at hva
    have HA := hid hva
    cases hb : validR b
    · rw [hb] at hvb
      have HVB := hid hvb
      clear hva hvb hme ha hb
      simp only [Bool.false_and, Bool.true_and, Bool.false_eq_true, if_false, zeroR]
      go_enter Try.func43, Try.ntmps43
      go_wp2_with fail
      refine (HA.out _).mono ?_
      rintro e w1 ⟨rfl, hb1⟩
      obtain ⟨h0, h1, h2⟩ := kept3 rfl hb1 (by simp)
      obtain ⟨⟨j1, j2, j3, j4⟩, -⟩ := cell4 h1
      have HB1 := hid hb1
      have H2 := hid h2
      have hz : w.heap.size + 1 + 1 < w1.heap.size := by have := hb1.size; simp at this; omega
      clear hb1 h0 h1 h2
      go_wp2_with fail
      refine (HVB.out _).mono ?_
      rintro e w' ⟨rfl, hb⟩
      have h2 := (hb.block _ hz).trans H2.out
      obtain ⟨⟨k1, k2, k3, k4⟩, f1, f2, f3, f4⟩ := cell4 h2
      have HB := hid (HB1.out.trans (hb.mono HB1.out.size))
      clear hb h2
      go_wp2
      refine bodyPost_ret (v := .tuple #[.agg #[_, _, _, _], .bool _]) (by simp [results, Try.results43, go_sem, k1, k2, k3, k4]) rfl ⟨rfl, ?_⟩
      exact below4 (HB.out.mono (by simp; omega)) (K _ _ _) (Nat.le_refl _) (by omega)
    · rw [hb] at hvb
      have HVB := hid hvb
      have hme' := hme ha hb
      cases hm : meetsR a b
      all_goals
        rw [hm] at hme'
        have HME := hid hme'
        clear hva hvb hme ha hb hm hme'
        simp only [Bool.true_and, Bool.false_eq_true, if_false, if_true, zeroR]
        go_enter Try.func43, Try.ntmps43
        go_wp2_with fail
        refine (HA.out _).mono ?_
        rintro e w1 ⟨rfl, hb1⟩
        obtain ⟨h0, h1, h2⟩ := kept3 rfl hb1 (by simp)
        obtain ⟨⟨j1, j2, j3, j4⟩, -⟩ := cell4 h1
        have HB1 := hid hb1
        have H0 := hid h0
        have H1 := hid h1
        have H2 := hid h2
        have hz : w.heap.size + 1 + 1 < w1.heap.size := by have := hb1.size; simp at this; omega
        clear hb1 h0 h1 h2
        go_wp2_with fail
        refine (HVB.out _).mono ?_
        rintro e w2 ⟨rfl, hb2⟩
        have h0 := (hb2.block _ (by omega)).trans H0.out
        have h1 := (hb2.block _ (by omega)).trans H1.out
        have h2 := (hb2.block _ hz).trans H2.out
        obtain ⟨⟨i1, i2, i3, i4⟩, -⟩ := cell4 h0
        obtain ⟨⟨l1, l2, l3, l4⟩, -⟩ := cell4 h1
        have HB2 := hid (HB1.out.trans (hb2.mono HB1.out.size))
        have hz2 : w.heap.size + 1 + 1 < w2.heap.size := by have := hb2.size; omega
        have H22 := hid h2
        clear hb2 h0 h1 h2
        go_wp2_with fail
        refine (HME.out _).mono ?_
        rintro e w3 ⟨rfl, hb3⟩
        have h2 := (hb3.block _ hz2).trans H22.out
        obtain ⟨⟨k1, k2, k3, k4⟩, f1, f2, f3, f4⟩ := cell4 h2
        have HB := hid (HB2.out.trans (hb3.mono HB2.out.size))
        have hz3 : w.heap.size + 1 + 1 < w3.heap.size := by have := hb3.size; omega
        clear hb3 h2
        go_wp2
        refine bodyPost_ret (v := .tuple #[.agg #[_, _, _, _], .bool _]) (by simp [results, Try.results43, go_sem, hz3, k1, k2, k3, k4]) rfl ⟨rfl, ?_⟩
        first
          | exact below4 ((HB.out.alloc (by simp; omega) _).mono (by simp; omega)) (K _ _ _) (Nat.le_refl _) (by omega)
          | exact (below4 (HB.out.mono (by simp; omega)) (K _ _ _) (Nat.le_refl _) (by omega)).alloc (by simp [World.setCell]; omega) _

end Go.Proofs.Ytjkcejijdpmhoaa
