/- newReader; the generators of the laws' arguments. -/
import Derived.Test.YtjkcejijdpmhoaaD
namespace Go.Proofs.Ytjkcejijdpmhoaa
open Go.RowKit Go.Lib

/-- What a law's code is: bytes. -/
structure Code (w : World) (A : Option Addr) (cap : Nat) (bs : List Int) : Prop where
  lies : Arr w w.heap.size 1 encB A bs
  byte : ∀ x ∈ bs, 0 ≤ x ∧ x ≤ 255
  cap1 : bs.length ≤ cap
  cap2 : cap ≤ maxLen

def NewRd (w : World) (A : Option Addr) (bs : List Int) (e : Ending) (w' : World) : Prop :=
  e = .returned (.pointer (some ⟨w.heap.size, 0, none⟩)) ∧ (∃ cap, Rd w' w.heap.size A cap (bs.take 2000) 0) ∧ Below w.heap.size w w' ∧ w.heap.size < w'.heap.size

set_option maxHeartbeats 1000000 in
theorem newReader_any (A : Option Addr) (cap : Nat) (bs : List Int) (w : World) (h : Code w A cap bs) :
    Calls Try.prog 48 #[.slice A bs.length cap] w (NewRd w A bs) := by
  have rd : ∀ m cap', m = (bs.take 2000).length → Rd (w.alloc (.cells #[.slice A m cap', .int .i64 0] 72)) w.heap.size A cap' (bs.take 2000) 0 := fun m cap' hm => by
    subst hm
    refine ⟨heap_alloc_new _ _, (h.lies.take 2000).keep fun p hp => World.cell?_alloc_lt w _ p hp, fun x hx => h.byte x (List.mem_of_mem_take hx), by rw [List.length_take]; omega⟩
  have h1 := h.cap1
  have h2 := h.cap2
  clear h
  by_cases hl : bs.length ≤ 2000
  · have hrd := hid (rd bs.length cap (by rw [List.length_take]; omega))
    clear rd
    go_enter Try.func48, Try.ntmps48
    go_wp2
    go_ret
    exact ⟨rfl, ⟨cap, hrd.out⟩, (Below.refl _ _).alloc (Nat.le_refl _) _, by simp⟩
  · have hrd := hid (rd 2000 cap (by rw [List.length_take]; omega))
    clear rd
    have h3 : (2000 : Nat) ≤ cap := by omega
    go_enter Try.func48, Try.ntmps48
    go_wp2
    go_ret
    exact ⟨rfl, ⟨cap, hrd.out⟩, (Below.refl _ _).alloc (Nat.le_refl _) _, by simp⟩

/-- What a law's generator leaves. -/
def DrawnL {α : Type} (k m : Nat) (enc : α → List Value) (w : World) (e : Ending) (w' : World) : Prop :=
  ∃ A' c L, e = .returned (.slice A' (List.length L) c) ∧ L.length ≤ m ∧ L.length ≤ c ∧ c ≤ maxLen ∧ OwnA w' w.heap.size k enc A' L ∧ Below w.heap.size w w'

theorem below_of_grown {B : Nat} {a b c : World} {r : Nat} (h : Below B a b) (k : b.grownBy c (some r)) (hB : B ≤ b.heap.size) (hr : B ≤ r) : Below B a c :=
  h.grown k hB (fun i hi => by injection hi with hi; omega)

set_option maxHeartbeats 1000000 in
theorem drawValidParts_any (A : Option Addr) (cap : Nat) (bs : List Int) (w : World) (h : Code w A cap bs) :
    Calls Try.prog 18 #[.slice A bs.length cap] w (DrawnL 2 13 encP w) := by
  have hc := newReader_any A cap bs w h
  clear h
  go_enter Try.func18, Try.ntmps18
  go_wp2_with fail
  refine hc.mono ?_
  rintro e w1 ⟨rfl, ⟨cap', hrd⟩, hb, hlt⟩
  have HB := hid hb
  have hc2 := anyParts_any _ A cap' _ 0 w1 hrd (by omega)
  clear hrd hb
  go_wp2_with fail
  refine hc2.mono ?_
  rintro e w2 ⟨A', c, L, p', rfl, h1, h2, h3, h4, h5, h6, h7⟩
  have H7 := hid h7
  have H4 := hid h4
  clear h7 h4 h5
  go_wp2
  go_ret
  exact ⟨A', c, L, rfl, h1, h2, h3, H4.out.less HB.out.size, below_of_grown HB.out H7.out HB.out.size (Nat.le_refl _)⟩
end Go.Proofs.Ytjkcejijdpmhoaa
