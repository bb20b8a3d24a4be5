/- The reader's laws: kept by what comes later; one at a literal list; newReader. -/
import Derived.Test.YthppgaglmgnocaaR
namespace Go.Proofs.Ythppgaglmgnocaa
set_option linter.unusedVariables false
set_option linter.unusedSimpArgs false
open Go.RowKit Go.Lib

theorem Rd.kept {w w' : World} {r : Nat} {A : Option Addr} {cap : Nat} {bs : List Int} {p : Nat} {row : Option Nat} (h : Rd w r A cap bs p) (hg : w.grownBy w' row) (hr : ∀ k, row = some k → r < k) : Rd w' r A cap bs p := by
  have hlt : r < w.heap.size := (Array.getElem?_eq_some_iff.1 h.blk).1
  refine ⟨(hg.block r hlt (fun e => by have := hr r e.symm; omega)).trans h.blk, h.lies.keep fun a ha => ?_, h.byte, h.len⟩
  exact World.cell?_of_block (hg.block a.block (by omega) (fun e => by have := hr _ e.symm; omega))
theorem Rd.alloc {w : World} {r : Nat} {A : Option Addr} {cap : Nat} {bs : List Int} {p : Nat} (h : Rd w r A cap bs p) (o : Obj) : Rd (w.alloc o) r A cap bs p :=
  h.kept (World.grownBy_alloc w o none) (fun k h => by cases h)
theorem Rd.lt {w : World} {r : Nat} {A : Option Addr} {cap : Nat} {bs : List Int} {p : Nat} (h : Rd w r A cap bs p) : r < w.heap.size := (Array.getElem?_eq_some_iff.1 h.blk).1

/-- one, handed a literal list. -/
theorem oneLit (r : Nat) (A : Option Addr) (cap : Nat) (bs : List Int) (p g n : Nat) (xs : List Int) (cs : Array Value) (W : World) (h : Rd W r A cap bs p) (hp : p ≤ 1000000)
    (hg : g = W.heap.size) (hcs : cs = (xs.map (Value.int .i64)).toArray) (hn : n = xs.length) (hn0 : 0 < n) (hn1 : n ≤ 1000) :
    Calls Try.prog 55 #[.pointer (some ⟨r, 0, none⟩), .slice (some ⟨g, 0, none⟩) n n] (W.alloc (.cells cs 3)) (Oned xs W r A cap bs p) := by
  subst hg
  have hlt := h.lt
  refine (one_any r A cap bs p _ n n xs _ (h.alloc _) hp (by omega) (by rw [heap_alloc_new, hcs]) hn hn0 hn1).mono ?_
  rintro e w' ⟨x, rfl, hx, hr⟩
  exact ⟨x, rfl, hx, hr.rd, grown_trans (World.grownBy_alloc W _ _) hr.gr⟩

/-- What a generator leaves: a list in new memory, the reader some places on. -/
def Drawn {α : Type} (k m : Nat) (enc : α → List Value) (w : World) (r : Nat) (A : Option Addr) (cap : Nat) (bs : List Int) (p : Nat) (e : Ending) (w' : World) : Prop :=
  ∃ A' c L p', e = .returned (.slice A' (List.length L) c) ∧ L.length ≤ m ∧ L.length ≤ c ∧ c ≤ maxLen ∧ OwnA w' w.heap.size k enc A' L ∧ Rd w' r A cap bs p' ∧ p' ≤ p + 1000 ∧ w.grownBy w' (some r)

/-- What a law's code is: bytes. -/
structure Code (w : World) (A : Option Addr) (cap : Nat) (bs : List Int) : Prop where
  lies : Arr w w.heap.size 1 encB A bs
  byte : ∀ x ∈ bs, 0 ≤ x ∧ x ≤ 255
  cap1 : bs.length ≤ cap
  cap2 : cap ≤ maxLen

def NewRd (w : World) (A : Option Addr) (bs : List Int) (e : Ending) (w' : World) : Prop :=
  e = .returned (.pointer (some ⟨w.heap.size, 0, none⟩)) ∧ (∃ cap, Rd w' w.heap.size A cap (bs.take 2000) 0) ∧ Below w.heap.size w w' ∧ w.heap.size < w'.heap.size

set_option maxHeartbeats 1000000 in
theorem newReader_any (A : Option Addr) (cap : Nat) (bs : List Int) (w : World) (h : Code w A cap bs) :
    Calls Try.prog 36 #[.slice A bs.length cap] w (NewRd w A bs) := by
  have rd : ∀ m cap', m = (bs.take 2000).length → Rd (w.alloc (.cells #[.slice A m cap', .int .i64 0] 62)) w.heap.size A cap' (bs.take 2000) 0 := fun m cap' hm => by
    subst hm
    refine ⟨heap_alloc_new _ _, (h.lies.take 2000).keep fun p hp => World.cell?_alloc_lt w _ p hp, fun x hx => h.byte x (List.mem_of_mem_take hx), by rw [List.length_take]; omega⟩
  have h1 := h.cap1
  have h2 := h.cap2
  clear h
  by_cases hl : bs.length ≤ 2000
  · have hrd := hid (rd bs.length cap (by rw [List.length_take]; omega))
    clear rd
    go_enter Try.func36, Try.ntmps36
    go_wp2
    go_ret
    exact ⟨rfl, ⟨cap, hrd.out⟩, (Below.refl _ _).alloc (Nat.le_refl _) _, by simp⟩
  · have hrd := hid (rd 2000 cap (by rw [List.length_take]; omega))
    clear rd
    have h3 : (2000 : Nat) ≤ cap := by omega
    go_enter Try.func36, Try.ntmps36
    go_wp2
    go_ret
    exact ⟨rfl, ⟨cap, hrd.out⟩, (Below.refl _ _).alloc (Nat.le_refl _) _, by simp⟩

/-- What a law's generator leaves. -/
def DrawnL {α : Type} (k m : Nat) (enc : α → List Value) (w : World) (e : Ending) (w' : World) : Prop :=
  ∃ A' c L, e = .returned (.slice A' (List.length L) c) ∧ L.length ≤ m ∧ L.length ≤ c ∧ c ≤ maxLen ∧ OwnA w' w.heap.size k enc A' L ∧ Below w.heap.size w w'

theorem below_of_grown {B : Nat} {a b c : World} {r : Nat} (h : Below B a b) (k : b.grownBy c (some r)) (hB : B ≤ b.heap.size) (hr : B ≤ r) : Below B a c :=
  h.grown k hB (fun i hi => by injection hi with hi; omega)

/-- What a generator of numbers or structures leaves of the reader. -/
def RGo (w : World) (r : Nat) (A : Option Addr) (cap : Nat) (bs : List Int) (p k : Nat) (w' : World) : Prop :=
  ∃ p', Rd w' r A cap bs p' ∧ p' ≤ p + k ∧ w.grownBy w' (some r)
theorem RStep.go {w : World} {r : Nat} {A : Option Addr} {cap : Nat} {bs : List Int} {p k : Nat} {w' : World} (h : RStep w r A cap bs (p + 1) w') (hk : 1 ≤ k) : RGo w r A cap bs p k w' := ⟨p + 1, h.rd, by omega, h.gr⟩
end Go.Proofs.Ythppgaglmgnocaa
