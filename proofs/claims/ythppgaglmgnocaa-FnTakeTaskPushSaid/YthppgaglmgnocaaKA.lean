/- The laws' generators of queues; equalTasks. -/
import Derived.Test.YthppgaglmgnocaaK9
import Derived.Test.YthppgaglmgnocaaQI
namespace Go.Proofs.Ythppgaglmgnocaa
set_option linter.unusedVariables false
set_option linter.unusedSimpArgs false
open Go.RowKit Go.Lib

set_option maxHeartbeats 2000000 in
theorem anyTasks_any (r : Nat) (A : Option Addr) (cap : Nat) (bs : List Int) (p : Nat) (w : World) (h : Rd w r A cap bs p) (hp : p ≤ 1000) :
    Calls Try.prog 35 #[.pointer (some ⟨r, 0, none⟩)] w (QueueGo w r A cap bs p 60 11) := by
  have hrlt := h.lt
  have HC := hid (someTasks_any r A cap bs p w h hp)
  clear h
  go_enter Try.func35, Try.ntmps35
  go_wp2_with fail
  refine HC.out.mono ?_
  rintro e w1 ⟨A1, c1, L, rfl, hL, o1, p1, r1, hp1, g1⟩
  have O1 := hid o1
  have R1 := hid r1
  have G1 := hid g1
  clear o1 r1 g1
  go_wp2_with fail
  (with_reducible refine (pick_any r A cap bs p1 _ _ R1.out (by omega) (by omega)).mono ?_)
  rintro e w2 ⟨m, rfl, hm, hr2⟩
  have O2 := hid (row_far O1.out hr2.gr hrlt)
  have G2 := hid (grown_trans G1.out hr2.gr)
  have R2 := hid hr2.rd
  clear hm hr2
  by_cases hm0 : m = 0
  · subst hm0
    go_wp2_with fail
    (with_reducible refine (oneLit r A cap bs (p1 + 1) _ 3 [0, 99, 100] _ _ R2.out (by omega) ?_ ?_ rfl (by omega) (by omega)).mono ?_)
    · rfl
    · rfl
    rintro e w3 ⟨x, rfl, hx, hr3⟩
    have O3 := hid (row_far O2.out hr3.gr hrlt)
    have G3 := hid (grown_trans G2.out hr3.gr)
    have R3 := hid hr3.rd
    clear hx hr3
    go_wp2_with fail
    (with_reducible refine (oneLit r A cap bs (p1 + 1 + 1) _ 3 [0, 51, -1] _ _ R3.out (by omega) ?_ ?_ rfl (by omega) (by omega)).mono ?_)
    · rfl
    · rfl
    rintro e w4 ⟨y, rfl, hy, hr4⟩
    have O4 := hid (row_far O3.out hr4.gr hrlt)
    have G4 := hid (grown_trans G3.out hr4.gr)
    have R4 := hid hr4.rd
    clear hy hr4
    go_wp2_with fail
    (with_reducible refine (oneLit r A cap bs (p1 + 1 + 1 + 1) _ 2 [0, 21] _ _ R4.out (by omega) ?_ ?_ rfl (by omega) (by omega)).mono ?_)
    · rfl
    · rfl
    rintro e w5 ⟨z, rfl, hz, hr5⟩
    have O5 := hid (row_far O4.out hr5.gr hrlt)
    have G5 := hid (grown_trans G4.out hr5.gr)
    have R5 := hid hr5.rd
    have hs5 : w.heap.size ≤ w5.heap.size := G5.out.size
    clear hz hr5
    go_wp2_with (at_builtin; refine wpList_push eltTaskK rfl (.tmp 9) (.tmp 20) rfl w.heap.size _ L.length _ O5.out (by omega) hs5 _ _ rfl rfl rfl rfl (fun q hq => ocTask ⟨x, y, z⟩ q hq) ?_; intro A9 c9 w9 own9 gr9 at9)
    have F : Aside (w9.ownsRow w.heap.size 31 3 (.slice A9 (L ++ [(⟨x, y, z⟩ : TaskD)]).length c9) (L ++ [(⟨x, y, z⟩ : TaskD)]).length ((L ++ [(⟨x, y, z⟩ : TaskD)]).flatMap encTask) ∧ Rd w9 r A cap bs (p1 + 1 + 1 + 1 + 1) ∧ w.grownBy w9 (some r)) :=
      ⟨by rw [List.length_append, List.flatMap_append]; exact own9, R5.out.kept gr9 (fun q hq => by have := (O5.out.lt q hq).1; omega), grown_new G5.out gr9 (fun q hq => (O5.out.lt q hq).1)⟩
    clear own9 gr9 at9
    go_wp2
    go_ret
    exact ⟨A9, c9, L ++ [⟨x, y, z⟩], by simp, by simp; omega, F.out.1, _, F.out.2.1, by omega, F.out.2.2⟩
  · have hm0' : (m == 0) = false := by rw [beq_eq_false_iff_ne]; exact hm0
    have HM0 := hid hm0
    clear hm0
    go_wp2
    go_ret
    exact ⟨A1, c1, L, rfl, by omega, O2.out, p1 + 1, R2.out, by omega, G2.out⟩

/-- What a law's generator of a queue leaves. -/
def DrawnQ (w : World) (e : Ending) (w' : World) : Prop :=
  ∃ (A' : Option Addr) (c : Nat) (L : List TaskD), e = .returned (.slice A' L.length c) ∧ L.length ≤ 11 ∧ L.length ≤ c ∧ c ≤ maxLen ∧ w'.ownsRow w.heap.size 31 3 (.slice A' L.length c) L.length (L.flatMap encTask) ∧ Below w.heap.size w w'
theorem DrawnQ.of {w w1 w2 : World} {r : Nat} {A : Option Addr} {cap : Nat} {bs : List Int} {p k : Nat} {e : Ending} (hb : Below w.heap.size w w1) (hr : w.heap.size ≤ r) (h : QueueGo w1 r A cap bs p k 11 e w2) : DrawnQ w e w2 := by
  obtain ⟨A', c, L, he, hl, ho, p', _, _, hg⟩ := h
  exact ⟨A', c, L, he, hl, (slice_le ho).1, (slice_le ho).2, row_less ho hb.size, below_of_grown hb hg hb.size hr⟩

set_option maxHeartbeats 1000000 in
theorem drawNextTask_any (A : Option Addr) (cap : Nat) (bs : List Int) (w : World) (h : Code w A cap bs) :
    Calls Try.prog 23 #[.slice A bs.length cap] w (DrawnQ w) := by
  have HC := hid (newReader_any A cap bs w h)
  clear h
  go_enter Try.func23, Try.ntmps23
  go_wp2_with fail
  refine HC.out.mono ?_
  rintro e w1 ⟨rfl, ⟨cap', hrd⟩, hb, hlt⟩
  have HB := hid hb
  have hc2 := anyTasks_any _ A cap' _ 0 w1 hrd (by omega)
  have HC2 := hid hc2
  clear hrd hb hc2
  go_wp2_with fail
  refine HC2.out.mono ?_
  rintro e w2 hq
  obtain ⟨A', c, L, rfl, h1, h2, h3, h4, h5⟩ := DrawnQ.of HB.out (Nat.le_refl _) hq
  have H4 := hid h4
  have H5 := hid h5
  clear hq h4 h5
  go_wp2
  go_ret
  exact ⟨A', c, L, rfl, h1, h2, h3, H4.out, H5.out⟩

set_option maxHeartbeats 1000000 in
theorem drawTakeTask_any (A : Option Addr) (cap : Nat) (bs : List Int) (w : World) (h : Code w A cap bs) :
    Calls Try.prog 13 #[.slice A bs.length cap] w (DrawnQ w) := by
  have HC := hid (newReader_any A cap bs w h)
  clear h
  go_enter Try.func13, Try.ntmps13
  go_wp2_with fail
  refine HC.out.mono ?_
  rintro e w1 ⟨rfl, ⟨cap', hrd⟩, hb, hlt⟩
  have HB := hid hb
  have hc2 := anyTasks_any _ A cap' _ 0 w1 hrd (by omega)
  have HC2 := hid hc2
  clear hrd hb hc2
  go_wp2_with fail
  refine HC2.out.mono ?_
  rintro e w2 hq
  obtain ⟨A', c, L, rfl, h1, h2, h3, h4, h5⟩ := DrawnQ.of HB.out (Nat.le_refl _) hq
  have H4 := hid h4
  have H5 := hid h5
  clear hq h4 h5
  go_wp2
  go_ret
  exact ⟨A', c, L, rfl, h1, h2, h3, H4.out, H5.out⟩

set_option maxHeartbeats 1000000 in
theorem drawTaskOrder_any (A : Option Addr) (cap : Nat) (bs : List Int) (w : World) (h : Code w A cap bs) :
    Calls Try.prog 27 #[.slice A bs.length cap] w (DrawnQ w) := by
  have HC := hid (newReader_any A cap bs w h)
  clear h
  go_enter Try.func27, Try.ntmps27
  go_wp2_with fail
  refine HC.out.mono ?_
  rintro e w1 ⟨rfl, ⟨cap', hrd⟩, hb, hlt⟩
  have HB := hid hb
  have hc2 := anyTasks_any _ A cap' _ 0 w1 hrd (by omega)
  have HC2 := hid hc2
  clear hrd hb hc2
  go_wp2_with fail
  refine HC2.out.mono ?_
  rintro e w2 hq
  obtain ⟨A', c, L, rfl, h1, h2, h3, h4, h5⟩ := DrawnQ.of HB.out (Nat.le_refl _) hq
  have H4 := hid h4
  have H5 := hid h5
  clear hq h4 h5
  go_wp2
  go_ret
  exact ⟨A', c, L, rfl, h1, h2, h3, H4.out, H5.out⟩

theorem task_ways (x : TaskD) : (x.Id == x.Id) = true ∧ (x.Rank == x.Rank) = true ∧ (x.Age == x.Age) = true := by simp

set_option maxHeartbeats 1000000 in
theorem equalTasks_same (A A' : Option Addr) (C : List TaskD) (c c' : Nat) (w : World) (hL : C.length ≤ 1048576) (h : Arr w w.heap.size 3 encTask A C) (h' : Arr w w.heap.size 3 encTask A' C) :
    Calls Try.prog 16 #[.slice A C.length c, .slice A' C.length c'] w fun e w' => e = .returned (.bool true) ∧ Below w.heap.size w w' := by
  have H := hid h
  have H' := hid h'
  clear h h'
  go_enter Try.func16, Try.ntmps16
  go_wp2
  go_loopg [5] C.length (fun gg s5 wr => ∃ i : Nat, i ≤ C.length ∧ C.length - i ≤ gg ∧ s5 = .int .i64 i ∧ Aside (Below w.heap.size w wr))
  case atStart => exact ⟨0, Nat.zero_le _, by omega, rfl, Below.refl _ _⟩
  case round =>
    obtain ⟨i, hi, hg, rfl, R⟩ := hrel
    by_cases hlt : i < C.length
    · obtain ⟨b, off, x, rfl, hb, hx, c1, c2, c3⟩ := (H.out.below R.out).atTask hlt
      obtain ⟨b', off', x', rfl, hb', hx', d1, d2, d3⟩ := (H'.out.below R.out).atTask hlt
      have e := hx.symm.trans hx'
      injection e with e
      subst e
      clear hx hx'
      have i1 : (0 : Int) ≤ (i : Int) := by omega
      have i2 : (i : Int) < (C.length : Int) := by omega
      obtain ⟨e1, e2, e3⟩ := task_ways x
      go_wp2_with fail
      go_quiet (fail)
      go_wp2
      go_roundg (C.length - (i + 1))
      case measure => omega
      case rel => exact ⟨i + 1, by omega, by omega, by go_num, Below_drewN R.out nq⟩
    · have : i = C.length := by omega
      subst this
      go_wp2
      go_ret
      exact ⟨rfl, R.out⟩
end Go.Proofs.Ythppgaglmgnocaa
