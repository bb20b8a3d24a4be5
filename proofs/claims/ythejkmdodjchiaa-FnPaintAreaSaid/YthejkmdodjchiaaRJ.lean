/- impl's rectangles: hull, made, MeetRects, HullOf. -/
import Derived.Test.YthejkmdodjchiaaRI
namespace Go.Proofs.Ythejkmdodjchiaa
set_option linter.unusedVariables false
set_option linter.unusedSimpArgs false
open Go.RowKit Go.Lib

set_option maxHeartbeats 4000000 in
theorem hull_any (a b : RectD) (w : World) (ha : Roomy a) (hb : Roomy b) :
    Calls Try.prog 58 #[.agg #[.int .i64 a.X, .int .i64 a.Y, .int .i64 a.W, .int .i64 a.H], .agg #[.int .i64 b.X, .int .i64 b.Y, .int .i64 b.W, .int .i64 b.H]] w
      fun e w' => e = .returned (.agg #[.int .i64 (hullR a b).X, .int .i64 (hullR a b).Y, .int .i64 (hullR a b).W, .int .i64 (hullR a b).H]) ∧ Below w.heap.size w w' := by
  unfold Roomy at ha hb
  obtain ⟨⟨a1, a2⟩, ⟨a3, a4⟩, ⟨a5, a6⟩, a7, a8⟩ := ha
  obtain ⟨⟨b1, b2⟩, ⟨b3, b4⟩, ⟨b5, b6⟩, b7, b8⟩ := hb
  have hc := fun W => between_r (min a.X b.X) (min a.Y b.Y) (max (a.X + a.W) (b.X + b.W)) (max (a.Y + a.H) (b.Y + b.H)) (hullR a b) W (by omega) (by omega) (by omega) (by omega) rfl
  generalize hullR a b = q at *
  have HC := hid hc
  have K : ∀ o1 o2 o3, Below w.heap.size w (((w.alloc o1).alloc o2).alloc o3) := fun o1 o2 o3 => below_al (below_al (below_al (Below.refl _ _) rfl _) rfl _) rfl _
  clear hc
  go_enter Try.func58, Try.ntmps58
  go_wp2_with fail
  refine (HC.out _).mono ?_
  rintro e w' ⟨rfl, hb⟩
  obtain ⟨k1, k2, k3, k4, f1, f2, f3, f4⟩ := kept4 (g := w.heap.size + 1 + 1) hb (by simp) (by simp)
  have HB := hid hb
  have hz : w.heap.size + 1 + 1 < w'.heap.size := by have := hb.size; simp at this; omega
  clear hb
  go_wp2
  refine bodyPost_ret (v := .agg #[.int .i64 q.X, .int .i64 q.Y, .int .i64 q.W, .int .i64 q.H]) (by simp [results, Try.results58, go_sem, k1, k2, k3, k4]) rfl ⟨rfl, ?_⟩
  exact below4 (HB.out.mono (by simp; omega)) (K _ _ _) (Nat.le_refl _) (by omega)

/-- A rectangle if it is valid, and whether it is. -/
def madeR (r : RectD) : RectD := if validR r then r else zeroR

theorem kept6 {W w' : World} {v0 v1 v2 v3 u0 u1 u2 u3 : Value} {e : TypeId} {B g g' : Nat} (hb : Below B ((W.alloc (.cells #[v0, v1, v2, v3] e)).alloc (.cells #[u0, u1, u2, u3] e)) w') (hB : W.heap.size + 1 < B) (hg : g = W.heap.size) (hg' : g' = W.heap.size + 1) :
    (w'.cell? ⟨g, 0, none⟩ = some v0 ∧ w'.cell? ⟨g, 1, none⟩ = some v1 ∧ w'.cell? ⟨g, 2, none⟩ = some v2 ∧ w'.cell? ⟨g, 3, none⟩ = some v3) ∧
      (w'.cell? ⟨g', 0, none⟩ = some u0 ∧ w'.cell? ⟨g', 1, none⟩ = some u1 ∧ w'.cell? ⟨g', 2, none⟩ = some u2 ∧ w'.cell? ⟨g', 3, none⟩ = some u3) ∧
      w'.frozen? ⟨g', 0, none⟩ = false ∧ w'.frozen? ⟨g', 1, none⟩ = false ∧ w'.frozen? ⟨g', 2, none⟩ = false ∧ w'.frozen? ⟨g', 3, none⟩ = false := by
  subst hg hg'
  have h1 : w'.heap[W.heap.size]? = some (.cells #[v0, v1, v2, v3] e (0, 0)) := by
    have h := hb.block W.heap.size (by omega)
    rw [h, Below.heap_alloc _ _ _ (by simp)]
    exact heap_alloc_new W _
  have h2 : w'.heap[W.heap.size + 1]? = some (.cells #[u0, u1, u2, u3] e (0, 0)) := by
    have h := hb.block (W.heap.size + 1) hB
    rw [h]
    have := heap_alloc_new (W.alloc (.cells #[v0, v1, v2, v3] e)) (.cells #[u0, u1, u2, u3] e)
    simpa using this
  have hf : ∀ o, w'.frozen? ⟨W.heap.size + 1, o, none⟩ = false := fun o => frozen_of_row w' _ o _ _ h2
  refine ⟨⟨?_, ?_, ?_, ?_⟩, ⟨?_, ?_, ?_, ?_⟩, hf 0, hf 1, hf 2, hf 3⟩
  all_goals first | (rw [cell_of_row w' _ _ _ _ _ h1]; rfl) | (rw [cell_of_row w' _ _ _ _ _ h2]; rfl)

set_option maxHeartbeats 4000000 in
theorem made_any (r : RectD) (w : World) :
    Calls Try.prog 59 #[.agg #[.int .i64 r.X, .int .i64 r.Y, .int .i64 r.W, .int .i64 r.H]] w
      fun e w' => e = .returned (.tuple #[.agg #[.int .i64 (madeR r).X, .int .i64 (madeR r).Y, .int .i64 (madeR r).W, .int .i64 (madeR r).H], .bool (validR r)]) ∧ Below w.heap.size w w' := by
  have hc := fun W => validR_any r W
  have hm : madeR r = if validR r then r else zeroR := rfl
  cases hv : validR r
  all_goals
    rw [hv] at hc hm
    simp only [if_true, Bool.false_eq_true, if_false] at hm
    rw [hm]
    have HC := hid hc
    have K : ∀ o1 o2, Below w.heap.size w ((w.alloc o1).alloc o2) := fun o1 o2 => below_al (below_al (Below.refl _ _) rfl _) rfl _
    clear hc hm hv
    try (unfold zeroR; simp only)
    go_enter Try.func59, Try.ntmps59
    go_wp2_with fail
    refine (HC.out _).mono ?_
    rintro e w' ⟨rfl, hb⟩
    obtain ⟨⟨k1, k2, k3, k4⟩, ⟨m1, m2, m3, m4⟩, f1, f2, f3, f4⟩ := kept6 (g := w.heap.size) (g' := w.heap.size + 1) hb (by simp) rfl rfl
    have HB := hid hb
    have hz : w.heap.size + 1 < w'.heap.size := by have := hb.size; simp at this; omega
    clear hb
    go_wp2
    refine bodyPost_ret (v := .tuple #[.agg #[_, _, _, _], .bool _]) (by simp [results, Try.results59, go_sem, k1, k2, k3, k4, m1, m2, m3, m4]) rfl ⟨rfl, ?_⟩
    exact below4 (HB.out.mono (by simp; omega)) (K _ _) (Nat.le_refl _) (by omega)

/-- What MeetRects gives. -/
def meetOk (a b : RectD) : Bool := validR a && (validR b && meetsR a b)
def meetV (a b : RectD) : RectD := if meetOk a b then meetR a b else zeroR
def hullOk (a b : RectD) : Bool := validR a && (validR b && validR (hullR a b))
def hullV (a b : RectD) : RectD := if hullOk a b then hullR a b else zeroR

theorem cell4 {w' : World} {g : Nat} {v0 v1 v2 v3 : Value} {e : TypeId} (h1 : w'.heap[g]? = some (.cells #[v0, v1, v2, v3] e (0, 0))) :
    (w'.cell? ⟨g, 0, none⟩ = some v0 ∧ w'.cell? ⟨g, 1, none⟩ = some v1 ∧ w'.cell? ⟨g, 2, none⟩ = some v2 ∧ w'.cell? ⟨g, 3, none⟩ = some v3) ∧ (w'.frozen? ⟨g, 0, none⟩ = false ∧ w'.frozen? ⟨g, 1, none⟩ = false ∧ w'.frozen? ⟨g, 2, none⟩ = false ∧ w'.frozen? ⟨g, 3, none⟩ = false) := by
  have hf : ∀ o, w'.frozen? ⟨g, o, none⟩ = false := fun o => frozen_of_row w' _ o _ _ h1
  refine ⟨⟨?_, ?_, ?_, ?_⟩, hf 0, hf 1, hf 2, hf 3⟩
  all_goals (rw [cell_of_row w' _ _ _ _ _ h1]; rfl)
/-- Three blocks of four cells, made ahead of a call. -/
theorem kept3 {w W w' : World} {c0 c1 c2 : Array Value} {e : TypeId} {B : Nat} (hW : W = ((w.alloc (.cells c0 e)).alloc (.cells c1 e)).alloc (.cells c2 e)) (hb : Below B W w') (hB : w.heap.size + 2 < B) :
    w'.heap[w.heap.size]? = some (.cells c0 e (0, 0)) ∧ w'.heap[w.heap.size + 1]? = some (.cells c1 e (0, 0)) ∧ w'.heap[w.heap.size + 1 + 1]? = some (.cells c2 e (0, 0)) := by
  subst hW
  have a0 := heap_alloc_new w (.cells c0 e)
  have a1 := heap_alloc_new (w.alloc (.cells c0 e)) (.cells c1 e)
  have a2 := heap_alloc_new ((w.alloc (.cells c0 e)).alloc (.cells c1 e)) (.cells c2 e)
  have s1 : (w.alloc (.cells c0 e)).heap.size = w.heap.size + 1 := by simp
  have s2 : ((w.alloc (.cells c0 e)).alloc (.cells c1 e)).heap.size = w.heap.size + 1 + 1 := by simp
  rw [s1] at a1
  rw [s2] at a2
  refine ⟨?_, ?_, (hb.block _ (by omega)).trans a2⟩
  · rw [hb.block _ (by omega), Below.heap_alloc _ _ _ (by omega), Below.heap_alloc _ _ _ (by omega)]; exact a0
  · rw [hb.block _ (by omega), Below.heap_alloc _ _ _ (by omega)]; exact a1

set_option maxHeartbeats 4000000 in
theorem meetRects_any (a b : RectD) (w : World) :
    Calls Try.prog 21 #[.agg #[.int .i64 a.X, .int .i64 a.Y, .int .i64 a.W, .int .i64 a.H], .agg #[.int .i64 b.X, .int .i64 b.Y, .int .i64 b.W, .int .i64 b.H]] w
      fun e w' => e = .returned (.tuple #[.agg #[.int .i64 (meetV a b).X, .int .i64 (meetV a b).Y, .int .i64 (meetV a b).W, .int .i64 (meetV a b).H], .bool (meetOk a b)]) ∧ Below w.heap.size w w' := by
  have hva := fun W => validR_any a W
  have hvb := fun W => validR_any b W
  have hme := fun (h1 : validR a = true) (h2 : validR b = true) W => meet_any a b W h1 h2
  have hO : meetOk a b = (validR a && (validR b && meetsR a b)) := rfl
  have hV : meetV a b = if meetOk a b then meetR a b else zeroR := rfl
  rw [hV, hO]
  generalize meetR a b = q at *
  clear hO hV
  have K : ∀ o1 o2 o3, Below w.heap.size w (((w.alloc o1).alloc o2).alloc o3) := fun o1 o2 o3 => below_al (below_al (below_al (Below.refl _ _) rfl _) rfl _) rfl _
  cases ha : validR a
  · rw [ha] at hva
    have HA := hid hva
    clear hva hvb hme ha
    simp only [Bool.false_and, Bool.false_eq_true, if_false, zeroR]
    go_enter Try.func21, Try.ntmps21
    go_wp2_with fail
    refine (HA.out _).mono ?_
    rintro e w' ⟨rfl, hb⟩
    obtain ⟨h0, h1, h2⟩ := kept3 rfl hb (by simp)
    obtain ⟨⟨k1, k2, k3, k4⟩, f1, f2, f3, f4⟩ := cell4 h2
    have HB := hid hb
    clear hb h0 h1 h2
    go_wp2
    refine bodyPost_ret (v := .tuple #[.agg #[_, _, _, _], .bool _]) (by simp [results, Try.results21, go_sem, k1, k2, k3, k4]) rfl ⟨rfl, ?_⟩
    exact below4 (HB.out.mono (by simp; omega)) (K _ _ _) (Nat.le_refl _) (by omega)
  · rw [ha] at hva
    have HA := hid hva
    cases hb : validR b
    · rw [hb] at hvb
      have HVB := hid hvb
      clear hva hvb hme ha hb
      simp only [Bool.false_and, Bool.true_and, Bool.false_eq_true, if_false, zeroR]
      go_enter Try.func21, Try.ntmps21
      go_wp2_with fail
      refine (HA.out _).mono ?_
      rintro e w1 ⟨rfl, hb1⟩
      obtain ⟨h0, h1, h2⟩ := kept3 rfl hb1 (by simp)
      obtain ⟨⟨j1, j2, j3, j4⟩, -⟩ := cell4 h1
      have HB1 := hid hb1
      have H2 := hid h2
      have hz : w.heap.size + 1 + 1 < w1.heap.size := by have := hb1.size; simp at this; omega
      clear hb1 h0 h1 h2
      go_wp2_with fail
      refine (HVB.out _).mono ?_
      rintro e w' ⟨rfl, hb⟩
      have h2 := (hb.block _ hz).trans H2.out
      obtain ⟨⟨k1, k2, k3, k4⟩, f1, f2, f3, f4⟩ := cell4 h2
      have HB := hid (HB1.out.trans (hb.mono HB1.out.size))
      clear hb h2
      go_wp2
      refine bodyPost_ret (v := .tuple #[.agg #[_, _, _, _], .bool _]) (by simp [results, Try.results21, go_sem, k1, k2, k3, k4]) rfl ⟨rfl, ?_⟩
      exact below4 (HB.out.mono (by simp; omega)) (K _ _ _) (Nat.le_refl _) (by omega)
    · rw [hb] at hvb
      have HVB := hid hvb
      have hme' := hme ha hb
      cases hm : meetsR a b
      all_goals
        rw [hm] at hme'
        have HME := hid hme'
        clear hva hvb hme ha hb hm hme'
        simp only [Bool.true_and, Bool.false_eq_true, if_false, if_true, zeroR]
        go_enter Try.func21, Try.ntmps21
        go_wp2_with fail
        refine (HA.out _).mono ?_
        rintro e w1 ⟨rfl, hb1⟩
        obtain ⟨h0, h1, h2⟩ := kept3 rfl hb1 (by simp)
        obtain ⟨⟨j1, j2, j3, j4⟩, -⟩ := cell4 h1
        have HB1 := hid hb1
        have H0 := hid h0
        have H1 := hid h1
        have H2 := hid h2
        have hz : w.heap.size + 1 + 1 < w1.heap.size := by have := hb1.size; simp at this; omega
        clear hb1 h0 h1 h2
        go_wp2_with fail
        refine (HVB.out _).mono ?_
        rintro e w2 ⟨rfl, hb2⟩
        have h0 := (hb2.block _ (by omega)).trans H0.out
        have h1 := (hb2.block _ (by omega)).trans H1.out
        have h2 := (hb2.block _ hz).trans H2.out
        obtain ⟨⟨i1, i2, i3, i4⟩, -⟩ := cell4 h0
        obtain ⟨⟨l1, l2, l3, l4⟩, -⟩ := cell4 h1
        have HB2 := hid (HB1.out.trans (hb2.mono HB1.out.size))
        have hz2 : w.heap.size + 1 + 1 < w2.heap.size := by have := hb2.size; omega
        have H22 := hid h2
        clear hb2 h0 h1 h2
        go_wp2_with fail
        refine (HME.out _).mono ?_
        rintro e w3 ⟨rfl, hb3⟩
        have h2 := (hb3.block _ hz2).trans H22.out
        obtain ⟨⟨k1, k2, k3, k4⟩, f1, f2, f3, f4⟩ := cell4 h2
        have HB := hid (HB2.out.trans (hb3.mono HB2.out.size))
        have hz3 : w.heap.size + 1 + 1 < w3.heap.size := by have := hb3.size; omega
        clear hb3 h2
        go_wp2
        refine bodyPost_ret (v := .tuple #[.agg #[_, _, _, _], .bool _]) (by simp [results, Try.results21, go_sem, hz3, k1, k2, k3, k4]) rfl ⟨rfl, ?_⟩
        first
          | exact below4 ((HB.out.alloc (by simp; omega) _).mono (by simp; omega)) (K _ _ _) (Nat.le_refl _) (by omega)
          | exact (below4 (HB.out.mono (by simp; omega)) (K _ _ _) (Nat.le_refl _) (by omega)).alloc (by simp [World.setCell]; omega) _

set_option maxHeartbeats 4000000 in
theorem hullOf_any (a b : RectD) (w : World) :
    Calls Try.prog 62 #[.agg #[.int .i64 a.X, .int .i64 a.Y, .int .i64 a.W, .int .i64 a.H], .agg #[.int .i64 b.X, .int .i64 b.Y, .int .i64 b.W, .int .i64 b.H]] w
      fun e w' => e = .returned (.tuple #[.agg #[.int .i64 (hullV a b).X, .int .i64 (hullV a b).Y, .int .i64 (hullV a b).W, .int .i64 (hullV a b).H], .bool (hullOk a b)]) ∧ Below w.heap.size w w' := by
  have hva := fun W => validR_any a W
  have hvb := fun W => validR_any b W
  have hme := fun (h1 : validR a = true) (h2 : validR b = true) W => hull_any a b W (Roomy.of h1) (Roomy.of h2)
  have hma := fun W => made_any (hullR a b) W
  have hO : hullOk a b = (validR a && (validR b && validR (hullR a b))) := rfl
  have hV : hullV a b = if hullOk a b then hullR a b else zeroR := rfl
  have hM : validR a = true → validR b = true → hullV a b = madeR (hullR a b) := fun h1 h2 => by rw [hV, hO, h1, h2]; rfl
  have hV0 : hullOk a b = false → hullV a b = zeroR := fun h => by rw [hV, h]; rfl
  clear hV
  rw [hO]
  rw [hO] at hV0
  generalize hullR a b = q at *
  generalize hullV a b = V at *
  clear hO
  have K : ∀ o1 o2 o3, Below w.heap.size w (((w.alloc o1).alloc o2).alloc o3) := fun o1 o2 o3 => below_al (below_al (below_al (Below.refl _ _) rfl _) rfl _) rfl _
  cases ha : validR a
  · rw [ha] at hva hV0
    have hV0' := hV0 rfl
    subst hV0'
    have HA := hid hva
    clear hva hvb hme ha hV0 hM
    simp only [Bool.false_and, zeroR]
    go_enter Try.func62, Try.ntmps62
    go_wp2_with fail
    refine (HA.out _).mono ?_
    rintro e w' ⟨rfl, hb⟩
    obtain ⟨h0, h1, h2⟩ := kept3 rfl hb (by simp)
    obtain ⟨⟨k1, k2, k3, k4⟩, f1, f2, f3, f4⟩ := cell4 h2
    have HB := hid hb
    clear hb h0 h1 h2
    go_wp2
    refine bodyPost_ret (v := .tuple #[.agg #[_, _, _, _], .bool _]) (by simp [results, Try.results62, go_sem, k1, k2, k3, k4]) rfl ⟨rfl, ?_⟩
    exact below4 (HB.out.mono (by simp; omega)) (K _ _ _) (Nat.le_refl _) (by omega)
  · rw [ha] at hva hV0
    have HA := hid hva
    cases hb : validR b
    · rw [hb] at hvb hV0
      have hV0' := hV0 rfl
      subst hV0'
      have HVB := hid hvb
      clear hva hvb hme ha hb hV0 hM
      simp only [Bool.false_and, Bool.true_and, zeroR]
      go_enter Try.func62, Try.ntmps62
      go_wp2_with fail
      refine (HA.out _).mono ?_
      rintro e w1 ⟨rfl, hb1⟩
      obtain ⟨h0, h1, h2⟩ := kept3 rfl hb1 (by simp)
      obtain ⟨⟨j1, j2, j3, j4⟩, -⟩ := cell4 h1
      have HB1 := hid hb1
      have H2 := hid h2
      have hz : w.heap.size + 1 + 1 < w1.heap.size := by have := hb1.size; simp at this; omega
      clear hb1 h0 h1 h2
      go_wp2_with fail
      refine (HVB.out _).mono ?_
      rintro e w' ⟨rfl, hb⟩
      have h2 := (hb.block _ hz).trans H2.out
      obtain ⟨⟨k1, k2, k3, k4⟩, f1, f2, f3, f4⟩ := cell4 h2
      have HB := hid (HB1.out.trans (hb.mono HB1.out.size))
      clear hb h2
      go_wp2
      refine bodyPost_ret (v := .tuple #[.agg #[_, _, _, _], .bool _]) (by simp [results, Try.results62, go_sem, k1, k2, k3, k4]) rfl ⟨rfl, ?_⟩
      exact below4 (HB.out.mono (by simp; omega)) (K _ _ _) (Nat.le_refl _) (by omega)
    · rw [hb] at hvb
      have HVB := hid hvb
      have HME := hid (hme ha hb)
      have hV := hM ha hb
      subst hV
      have HMA := hid hma
      generalize madeR q = V at *
      generalize validR q = ok at *
      clear hva hvb hme ha hb hma hM hV0
      simp only [Bool.true_and]
      go_enter Try.func62, Try.ntmps62
      go_wp2_with fail
      refine (HA.out _).mono ?_
      rintro e w1 ⟨rfl, hb1⟩
      obtain ⟨h0, h1, h2⟩ := kept3 rfl hb1 (by simp)
      obtain ⟨⟨j1, j2, j3, j4⟩, -⟩ := cell4 h1
      have HB1 := hid hb1
      have H0 := hid h0
      have H1 := hid h1
      have H2 := hid h2
      have hz : w.heap.size + 1 + 1 < w1.heap.size := by have := hb1.size; simp at this; omega
      clear hb1 h0 h1 h2
      go_wp2_with fail
      refine (HVB.out _).mono ?_
      rintro e w2 ⟨rfl, hb2⟩
      have h0 := (hb2.block _ (by omega)).trans H0.out
      have h1 := (hb2.block _ (by omega)).trans H1.out
      have h2 := (hb2.block _ hz).trans H2.out
      obtain ⟨⟨i1, i2, i3, i4⟩, -⟩ := cell4 h0
      obtain ⟨⟨l1, l2, l3, l4⟩, -⟩ := cell4 h1
      have HB2 := hid (HB1.out.trans (hb2.mono HB1.out.size))
      have hz2 : w.heap.size + 1 + 1 < w2.heap.size := by have := hb2.size; omega
      have H22 := hid h2
      clear hb2 h0 h1 h2
      go_wp2_with fail
      refine (HME.out _).mono ?_
      rintro e w3 ⟨rfl, hb3⟩
      have H23 := hid ((hb3.block _ hz2).trans H22.out)
      have HB3 := hid (HB2.out.trans (hb3.mono HB2.out.size))
      have hz3 : w.heap.size + 1 + 1 < w3.heap.size := by have := hb3.size; omega
      clear hb3
      go_wp2_with fail
      refine (HMA.out _).mono ?_
      rintro e w4 ⟨rfl, hb4⟩
      have h2 := (hb4.block _ hz3).trans H23.out
      obtain ⟨⟨k1, k2, k3, k4⟩, f1, f2, f3, f4⟩ := cell4 h2
      have HB := hid (HB3.out.trans (hb4.mono HB3.out.size))
      clear hb4 h2
      go_wp2
      refine bodyPost_ret (v := .tuple #[.agg #[_, _, _, _], .bool _]) (by simp [results, Try.results62, go_sem, k1, k2, k3, k4]) rfl ⟨rfl, ?_⟩
      exact below4 (HB.out.mono (by simp; omega)) (K _ _ _) (Nat.le_refl _) (by omega)
end Go.Proofs.Ythejkmdodjchiaa
