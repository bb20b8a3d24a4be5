/- The reader that the generators draw from: pick, one. -/
import Derived.Test.YthppgaglmgnocaaProg
import Derived.Test.YthppgaglmgnocaaBase
import Derived.Deep.QuietTactic
import Derived.BigQuiet
import Derived.Laws.BitsAllLaws
import Derived.Laws.BitsLemmas
namespace Go.Proofs.Ythppgaglmgnocaa
set_option linter.unusedVariables false
set_option linter.unusedSimpArgs false
open Go.RowKit Go.Lib

/-- One byte an element. -/
def encB (x : Int) : List Value := [.int .u8 x]

/-- Block r is a reader over the bytes bs, at place p. -/
structure Rd (w : World) (r : Nat) (A : Option Addr) (cap : Nat) (bs : List Int) (p : Nat) : Prop where
  blk : w.heap[r]? = some (.cells #[.slice A bs.length cap, .int .i64 p] 62 (0, 0))
  lies : Arr w r 1 encB A bs
  byte : ∀ x ∈ bs, 0 ≤ x ∧ x ≤ 255
  len : bs.length ≤ 2000

theorem xor_nonneg (x y : Int) (hx : 0 ≤ x) (hx2 : x < 9223372036854775808) (hy : 0 ≤ y) (hy2 : y < 9223372036854775808) : 0 ≤ bits .xor .i64 x y ∧ bits .xor .i64 x y < 9223372036854775808 := by
  obtain ⟨a, rfl⟩ := Int.eq_ofNat_of_zero_le hx
  obtain ⟨b, rfl⟩ := Int.eq_ofNat_of_zero_le hy
  have ha : a < 9223372036854775808 := by omega
  have hb : b < 9223372036854775808 := by omega
  have e : ∀ a : Nat, a < 9223372036854775808 → (BitVec.ofInt 64 (a : Int)).toNat = a := fun a ha => by
    rw [BitVec.ofInt_natCast, BitVec.toNat_ofNat]; exact Nat.mod_eq_of_lt (by omega)
  have h2 : a ^^^ b < 2 ^ 63 := Nat.xor_lt_two_pow (by omega) (by omega)
  have : bits .xor .i64 (a : Int) (b : Int) = ((a ^^^ b : Nat) : Int) := by
    show IntKind.i64.wrap ((BitVec.ofInt 64 (a : Int) ^^^ BitVec.ofInt 64 (b : Int)).toNat : Int) = _
    rw [BitVec.toNat_xor, e a ha, e b hb, IntKind.wrap_i64]
    omega
  rw [this]
  omega

/-- What a call of the reader's leaves: the place one on; all else as it was, but for new blocks. -/
structure RStep (w : World) (r : Nat) (A : Option Addr) (cap : Nat) (bs : List Int) (p : Nat) (w' : World) : Prop where
  rd : Rd w' r A cap bs p
  gr : w.grownBy w' (some r)

theorem rstep_set {w : World} {r : Nat} {A : Option Addr} {cap : Nat} {bs : List Int} {p : Nat} (h : Rd w r A cap bs p) (q : Nat) :
    RStep w r A cap bs (p + 1) ((w.setCell ⟨r, 1, none⟩ (.int .i64 ((p : Int) + 1))).drewN q) := by
  refine ⟨⟨?_, ?_, h.byte, h.len⟩, ?_⟩
  · show (w.setCell ⟨r, 1, none⟩ _).heap[r]? = _
    rw [heap_setCell_same w r 1 _ _ _ h.blk]
    rfl
  · exact h.lies.keep fun a ha => by
      show (w.setCell ⟨r, 1, none⟩ _).cell? a = _
      exact World.cell?_setCell_other w _ a _ (fun e => by subst e; exact absurd ha (Nat.lt_irrefl _))
  · refine ⟨rfl, rfl, rfl, ?_, ?_⟩
    · show w.heap.size ≤ (w.setCell _ _).heap.size
      simp [World.setCell]
    · intro i hi hne
      show (w.setCell _ _).heap[i]? = _
      exact Below.heap_setCell w _ _ i (fun e => hne (by rw [e]))

/-- What pick leaves. -/
def Picked (n : Int) (w : World) (r : Nat) (A : Option Addr) (cap : Nat) (bs : List Int) (p : Nat) (e : Ending) (w' : World) : Prop :=
  ∃ x : Int, e = .returned (.int .i64 x) ∧ (0 ≤ x ∧ (1 ≤ n → x < n) ∧ (n < 1 → x = 0)) ∧ RStep w r A cap bs (p + 1) w'

set_option maxHeartbeats 2000000 in
theorem pick_any (r : Nat) (A : Option Addr) (cap : Nat) (bs : List Int) (p : Nat) (n : Int) (w : World) (h : Rd w r A cap bs p) (hp : p ≤ 1000000) (hn : n ≤ 1000000) :
    Calls Try.prog 54 #[.pointer (some ⟨r, 0, none⟩), .int .i64 n] w (Picked n w r A cap bs p) := by
  have H := hid h
  have c0 : w.cell? ⟨r, 0, none⟩ = some (.slice A bs.length cap) := by rw [cell_of_row w r 0 _ _ _ h.blk]; rfl
  have c1 : w.cell? ⟨r, 1, none⟩ = some (.int .i64 p) := by rw [cell_of_row w r 1 _ _ _ h.blk]; rfl
  have f1 : w.frozen? ⟨r, 1, none⟩ = false := frozen_of_row w r 1 _ _ h.blk
  clear h
  by_cases hn1 : n < 1
  · go_enter Try.func54, Try.ntmps54
    go_wp2
    go_ret
    exact ⟨0, rfl, ⟨by omega, fun h => by omega, fun _ => rfl⟩, rstep_set H.out 0⟩
  · have hn1' : 1 ≤ n := by omega
    have hlen := H.out.len
    by_cases hb : bs.length = 0
    · have hb0 : ((bs.length : Int) == 0) = true := by rw [beq_iff_eq]; omega
      have HB := hid hb
      clear hb
      go_enter Try.func54, Try.ntmps54
      go_wp2
      go_ret
      exact ⟨0, rfl, ⟨by omega, fun h => by omega, fun _ => rfl⟩, rstep_set H.out 0⟩
    · have hb0 : ((bs.length : Int) == 0) = false := by rw [beq_eq_false_iff_ne]; omega
      have hbpos : 0 < bs.length := by omega
      clear hb
      by_cases hk : p < bs.length
      · obtain ⟨b, off, rfl, hbr, hc⟩ := H.out.lies.at_ (List.getElem?_eq_getElem hk)
        have hby := H.out.byte _ (List.getElem_mem hk)
        generalize bs[p] = x at hc hby
        have c2 : w.cell? ⟨b, off + p, none⟩ = some (.int .u8 x) := by simpa using hc 0 _ rfl
        have hne : b ≠ r := by omega
        clear hc
        obtain ⟨hx0, hx1⟩ := hby
        go_enter Try.func54, Try.ntmps54
        go_wp2
        go_ret
        refine ⟨x % n, rfl, ⟨Int.emod_nonneg _ (by omega), fun _ => Int.emod_lt_of_pos _ (by omega), fun h => by omega⟩, rstep_set H.out 0⟩
      · have i1 : p % bs.length < bs.length := Nat.mod_lt _ hbpos
        have i2 : (p * 7 + 3) % bs.length < bs.length := Nat.mod_lt _ hbpos
        obtain ⟨b, off, rfl, hbr, hc⟩ := H.out.lies hbpos
        have hne : b ≠ r := by omega
        have hc1 := hc _ _ (List.getElem?_eq_getElem i1) 0 _ rfl
        have hc2 := hc _ _ (List.getElem?_eq_getElem i2) 0 _ rfl
        have hb1 := H.out.byte _ (List.getElem_mem i1)
        have hb2 := H.out.byte _ (List.getElem_mem i2)
        clear hc
        generalize bs[p % bs.length] = x at hc1 hb1
        generalize bs[(p * 7 + 3) % bs.length] = y at hc2 hb2
        simp only [Nat.mul_one, Nat.add_zero] at hc1 hc2
        obtain ⟨hx0, hx1⟩ := hb1
        obtain ⟨hy0, hy1⟩ := hb2
        have j1 : (0 : Int) ≤ (p : Int) % (bs.length : Int) := by omega
        have j2 : (p : Int) % (bs.length : Int) < (bs.length : Int) := by omega
        have j3 : (0 : Int) ≤ ((p : Int) * 7 + 3) % (bs.length : Int) := Int.emod_nonneg _ (by omega)
        have j4 : ((p : Int) * 7 + 3) % (bs.length : Int) < (bs.length : Int) := Int.emod_lt_of_pos _ (by omega)
        have j5 : (0 : Int) ≤ (p : Int) / (bs.length : Int) := Int.ediv_nonneg (by omega) (by omega)
        have j6 : (p : Int) / (bs.length : Int) ≤ 1000000 := by have := Int.ediv_le_self (bs.length : Int) (show (0 : Int) ≤ p by omega); omega
        go_enter Try.func54, Try.ntmps54
        go_wp2_with fail
        go_quiet (fail)
        go_wp2
        go_ret
        have hv : 0 ≤ x * 131 + y * 1117 + (p : Int) * 29 + (p : Int) / (bs.length : Int) * 53 ∧ x * 131 + y * 1117 + (p : Int) * 29 + (p : Int) / (bs.length : Int) * 53 < 9223372036854775808 := by omega
        have hq := xor_nonneg _ _ hv.1 hv.2 (show 0 ≤ (x * 131 + y * 1117 + (p : Int) * 29 + (p : Int) / (bs.length : Int) * 53) / 64 by omega) (by omega)
        exact ⟨_, rfl, ⟨Int.tmod_nonneg _ hq.1, fun _ => Int.tmod_lt_of_pos _ (by omega), fun h => by omega⟩, rstep_set H.out nq⟩

/-- What one leaves: one of the numbers. -/
def Oned (xs : List Int) (w : World) (r : Nat) (A : Option Addr) (cap : Nat) (bs : List Int) (p : Nat) (e : Ending) (w' : World) : Prop :=
  ∃ x : Int, e = .returned (.int .i64 x) ∧ x ∈ xs ∧ RStep w r A cap bs (p + 1) w'

set_option maxHeartbeats 1000000 in
theorem one_any (r : Nat) (A : Option Addr) (cap : Nat) (bs : List Int) (p : Nat) (g n c : Nat) (xs : List Int) (w : World) (h : Rd w r A cap bs p) (hp : p ≤ 1000000) (hg : g ≠ r)
    (hxs : w.heap[g]? = some (.cells (xs.map (Value.int .i64)).toArray 3 (0, 0))) (hn : n = xs.length) (hn0 : 0 < n) (hn1 : n ≤ 1000) :
    Calls Try.prog 55 #[.pointer (some ⟨r, 0, none⟩), .slice (some ⟨g, 0, none⟩) n c] w (Oned xs w r A cap bs p) := by
  have hc := pick_any r A cap bs p (n : Int) w h hp (by omega)
  have HN := hid hn
  clear hn h
  go_enter Try.func55, Try.ntmps55
  go_wp2_with fail
  refine hc.mono ?_
  rintro e w' ⟨x, rfl, ⟨h0, h1, _⟩, hr⟩
  obtain ⟨i, rfl⟩ := Int.eq_ofNat_of_zero_le h0
  have hi : i < n := by have := h1 (by omega); omega
  clear h1 h0
  have hix : i < xs.length := by rw [← HN.out]; exact hi
  have hcell : w'.cell? ⟨g, i, none⟩ = some (.int .i64 xs[i]) := by
    have hlt : g < w.heap.size := by
      obtain ⟨h, _⟩ := Array.getElem?_eq_some_iff.1 hxs
      exact h
    have : w'.heap[g]? = _ := (hr.gr.block g hlt (by simpa using hg)).trans hxs
    rw [cell_of_row w' g i _ _ _ this]
    simp [hix]
  have hm : xs[i] ∈ xs := List.getElem_mem hix
  generalize xs[i] = x at hcell hm
  have HR := hid hr
  clear hr
  go_wp2
  go_ret
  exact ⟨_, rfl, hm, HR.out⟩
end Go.Proofs.Ythppgaglmgnocaa
