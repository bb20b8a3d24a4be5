/- The laws' generators of trees. Written by a program of ours. -/
import Derived.Test.YtpahljbcffmaaaaB17
namespace Go.Proofs.Ytpahljbcffmaaaa
set_option linter.unusedVariables false
set_option linter.unusedSimpArgs false
open Go.RowKit Go.Lib

theorem arr_grown {w w' : World} {base r : Nat} {A : Option Addr} {L : List BoxD} (h : Arr w w.heap.size 9 encBox A L) (hA : ∀ a, A = some a → base ≤ a.block) (hg : w.grownBy w' (some r)) (hr : r < base) : Arr w' w'.heap.size 9 encBox A L := fun hn => by
  obtain ⟨b, off, e, hb, hc⟩ := h hn
  have hbb := hA _ e
  have hs := hg.size
  refine ⟨b, off, e, by omega, fun i x hx j v hv => ?_⟩
  rw [World.cell?_of_block (hg.block b hb (fun e => by injection e with e; simp at hbb; omega))]
  exact hc i x hx j v hv

/-- What a law's generator of a tree leaves. -/
def Drawn0 (w : World) (e : Ending) (w' : World) : Prop :=
  ∃ (A' : Option Addr) (c : Nat) (L : List BoxD), e = .returned (.slice A' L.length c) ∧ L.length ≤ 16 ∧ L.length ≤ c ∧ c ≤ maxLen ∧ Arr w' w'.heap.size 9 encBox A' L ∧ Below w.heap.size w w'
def Drawn1 (w : World) (e : Ending) (w' : World) : Prop :=
  ∃ (A' : Option Addr) (c : Nat) (L : List BoxD) (x : Int), e = .returned (.tuple #[.slice A' L.length c, .int .i64 x]) ∧ (-9223372036854775808 ≤ x ∧ x ≤ 9223372036854775807) ∧ L.length ≤ 16 ∧ L.length ≤ c ∧ c ≤ maxLen ∧ Arr w' w'.heap.size 9 encBox A' L ∧ Below w.heap.size w w'
def Drawn2 (w : World) (e : Ending) (w' : World) : Prop :=
  ∃ (A' : Option Addr) (c : Nat) (L : List BoxD) (x y : Int), e = .returned (.tuple #[.slice A' L.length c, .int .i64 x, .int .i64 y]) ∧ (-9223372036854775808 ≤ x ∧ x ≤ 9223372036854775807) ∧ (-9223372036854775808 ≤ y ∧ y ≤ 9223372036854775807) ∧ L.length ≤ 16 ∧ L.length ≤ c ∧ c ≤ maxLen ∧ Arr w' w'.heap.size 9 encBox A' L ∧ Below w.heap.size w w'

theorem specValidTree_any (A : Option Addr) (T : List BoxD) (c : Nat) (w : World) (hL : T.length ≤ 1048576) (h : Arr w w.heap.size 9 encBox A T) :
    Calls Try.prog 37 #[.slice A T.length c] w fun e w' => e = .returned (.bool (validB T)) ∧ Below w.heap.size w w' := specvalidTree_any A T c w hL h
set_option maxHeartbeats 1000000 in
theorem specValidTreeX_any (A : Option Addr) (T : List BoxD) (c : Nat) (w : World) (hL : T.length ≤ 1048576) (h : Arr w w.heap.size 9 encBox A T) :
    Calls Try.prog 22 #[.slice A T.length c] w fun e w' => e = .returned (.bool (validB T)) ∧ Below w.heap.size w w' := by
  have HC := hid (specvalidTree_any A T c w hL h)
  clear h
  generalize validB T = res at *
  go_enter Try.func22, Try.ntmps22
  go_wp2_with fail
  refine HC.out.mono ?_
  rintro e w1 ⟨rfl, b1⟩
  have B1 := hid b1
  clear b1
  go_wp2
  go_ret
  exact ⟨rfl, B1.out⟩
set_option maxHeartbeats 2000000 in
theorem drawValidTree_any (A : Option Addr) (cap : Nat) (bs : List Int) (w : World) (h : Code w A cap bs) :
    Calls Try.prog 20 #[.slice A bs.length cap] w (Drawn0 w) := by
  have HC := hid (newReader_any A cap bs w h)
  clear h
  go_enter Try.func20, Try.ntmps20
  go_wp2_with fail
  refine HC.out.mono ?_
  rintro e w1 ⟨rfl, ⟨cap', hrd⟩, hb, hlt⟩
  have HB := hid hb
  have hc2 := anyTree_any _ A cap' _ 0 w1 hrd (by omega)
  have HC2 := hid hc2
  clear hrd hb hc2
  go_wp2_with fail
  refine HC2.out.mono ?_
  rintro e w2 ⟨A', c, L, rfl, hl, hc1, hc3, harr, hfar, p', hr2, hp2, hg2⟩
  have AR2 := hid harr
  have FAR := hid hfar
  have R2 := hid hr2
  have G2 := hid hg2
  clear harr hfar hr2 hg2
  go_wp2
  go_ret
  exact ⟨A', c, L, rfl, hl, hc1, hc3, AR2.out, below_of_grown HB.out G2.out HB.out.size (Nat.le_refl _)⟩
set_option maxHeartbeats 2000000 in
theorem drawKidsOf_any (A : Option Addr) (cap : Nat) (bs : List Int) (w : World) (h : Code w A cap bs) :
    Calls Try.prog 23 #[.slice A bs.length cap] w (Drawn1 w) := by
  have HC := hid (newReader_any A cap bs w h)
  clear h
  go_enter Try.func23, Try.ntmps23
  go_wp2_with fail
  refine HC.out.mono ?_
  rintro e w1 ⟨rfl, ⟨cap', hrd⟩, hb, hlt⟩
  have HB := hid hb
  have hc2 := anyTree_any _ A cap' _ 0 w1 hrd (by omega)
  have HC2 := hid hc2
  clear hrd hb hc2
  go_wp2_with fail
  refine HC2.out.mono ?_
  rintro e w2 ⟨A', c, L, rfl, hl, hc1, hc3, harr, hfar, p', hr2, hp2, hg2⟩
  have AR2 := hid harr
  have FAR := hid hfar
  have R2 := hid hr2
  have G2 := hid hg2
  clear harr hfar hr2 hg2
  go_wp2_with fail
  (with_reducible refine (someAt_any _ A cap' _ p' A' L.length c _ R2.out (by omega) (by omega)).mono ?_)
  rintro e w3 ⟨x, rfl, hx, p3, hr3, hp3, hg3⟩
  have AR3 := hid (arr_grown AR2.out FAR.out hg3 hlt)
  have R3 := hid hr3
  have G3 := hid (grown_trans G2.out hg3)
  clear hr3 hg3
  go_wp2
  go_ret2
  exact ⟨A', c, L, x, rfl, hx, hl, hc1, hc3, AR3.out, below_of_grown HB.out G3.out HB.out.size (Nat.le_refl _)⟩
set_option maxHeartbeats 2000000 in
theorem drawIsAround_any (A : Option Addr) (cap : Nat) (bs : List Int) (w : World) (h : Code w A cap bs) :
    Calls Try.prog 30 #[.slice A bs.length cap] w (Drawn2 w) := by
  have HC := hid (newReader_any A cap bs w h)
  clear h
  go_enter Try.func30, Try.ntmps30
  go_wp2_with fail
  refine HC.out.mono ?_
  rintro e w1 ⟨rfl, ⟨cap', hrd⟩, hb, hlt⟩
  have HB := hid hb
  have hc2 := anyTree_any _ A cap' _ 0 w1 hrd (by omega)
  have HC2 := hid hc2
  clear hrd hb hc2
  go_wp2_with fail
  refine HC2.out.mono ?_
  rintro e w2 ⟨A', c, L, rfl, hl, hc1, hc3, harr, hfar, p', hr2, hp2, hg2⟩
  have AR2 := hid harr
  have FAR := hid hfar
  have R2 := hid hr2
  have G2 := hid hg2
  clear harr hfar hr2 hg2
  go_wp2_with fail
  (with_reducible refine (someAt_any _ A cap' _ p' A' L.length c _ R2.out (by omega) (by omega)).mono ?_)
  rintro e w3 ⟨x, rfl, hx, p3, hr3, hp3, hg3⟩
  have AR3 := hid (arr_grown AR2.out FAR.out hg3 hlt)
  have R3 := hid hr3
  have G3 := hid (grown_trans G2.out hg3)
  clear hr3 hg3
  go_wp2_with fail
  (with_reducible refine (someAt_any _ A cap' _ p3 A' L.length c _ R3.out (by omega) (by omega)).mono ?_)
  rintro e w4 ⟨y, rfl, hy, p4, hr4, hp4, hg4⟩
  have AR4 := hid (arr_grown AR3.out FAR.out hg4 hlt)
  have R4 := hid hr4
  have G4 := hid (grown_trans G3.out hg4)
  clear hr4 hg4
  go_wp2
  go_ret3
  exact ⟨A', c, L, x, y, rfl, hx, hy, hl, hc1, hc3, AR4.out, below_of_grown HB.out G4.out HB.out.size (Nat.le_refl _)⟩
set_option maxHeartbeats 1000000 in
theorem drawDepthOf_any (A : Option Addr) (cap : Nat) (bs : List Int) (w : World) (h : Code w A cap bs) :
    Calls Try.prog 27 #[.slice A bs.length cap] w (Drawn1 w) := by
  have HC := hid (drawKidsOf_any A cap bs w h)
  clear h
  go_enter Try.func27, Try.ntmps27
  go_wp2_with fail
  refine HC.out.mono ?_
  rintro e w1 ⟨A', c, L, x, rfl, hx, hl, hc1, hc3, har, hbl⟩
  have HA := hid har
  have HB := hid hbl
  clear har hbl HC
  go_wp2
  go_ret2
  exact ⟨A', c, L, x, rfl, hx, hl, hc1, hc3, HA.out, HB.out⟩
set_option maxHeartbeats 1000000 in
theorem drawCountIn_any (A : Option Addr) (cap : Nat) (bs : List Int) (w : World) (h : Code w A cap bs) :
    Calls Try.prog 33 #[.slice A bs.length cap] w (Drawn1 w) := by
  have HC := hid (drawKidsOf_any A cap bs w h)
  clear h
  go_enter Try.func33, Try.ntmps33
  go_wp2_with fail
  refine HC.out.mono ?_
  rintro e w1 ⟨A', c, L, x, rfl, hx, hl, hc1, hc3, har, hbl⟩
  have HA := hid har
  have HB := hid hbl
  clear har hbl HC
  go_wp2
  go_ret2
  exact ⟨A', c, L, x, rfl, hx, hl, hc1, hc3, HA.out, HB.out⟩
set_option maxHeartbeats 1000000 in
theorem drawPathTo_any (A : Option Addr) (cap : Nat) (bs : List Int) (w : World) (h : Code w A cap bs) :
    Calls Try.prog 35 #[.slice A bs.length cap] w (Drawn1 w) := by
  have HC := hid (drawKidsOf_any A cap bs w h)
  clear h
  go_enter Try.func35, Try.ntmps35
  go_wp2_with fail
  refine HC.out.mono ?_
  rintro e w1 ⟨A', c, L, x, rfl, hx, hl, hc1, hc3, har, hbl⟩
  have HA := hid har
  have HB := hid hbl
  clear har hbl HC
  go_wp2
  go_ret2
  exact ⟨A', c, L, x, rfl, hx, hl, hc1, hc3, HA.out, HB.out⟩
end Go.Proofs.Ytpahljbcffmaaaa
