/- impl.kindNames, styles, the library's Itoa, Join, Repeat. -/
import Derived.Test.YtimpieddkkkgfaaDoorFB3
import Derived.Test.YtimpieddkkkgfaaDoorShelf
import Derived.Lib.AppendIntMem
namespace Go.Proofs.YtimpieddkkkgfaaDoor
set_option linter.unusedVariables false
set_option linter.unusedSimpArgs false
open Go.RowKit Go.Lib

/-- The table that strconv reads lies there, whatever is made. -/
def Tab (w : World) : Prop := Lib.TabBelow Tryd.prog w.heap.size w Tryd.powName .u64 Lib.pow10Tab
theorem Tab.next {w w' : World} (h : Tab w) (hb : Below w.heap.size w w') : Tab w' := fun w2 h2 => h w2 (hb.trans (h2.mono hb.size))
theorem Tab.drew {w : World} (h : Tab w) : Tab w.drew := h.next (Below.refl _ _).drew
theorem Tab.alloc {w : World} (h : Tab w) (o : Obj) : Tab (w.alloc o) := h.next ((Below.refl _ _).alloc (Nat.le_refl _) o)

theorem itoa_any (n : Int) (w : World) (h0 : 0 ≤ n) (h1 : n ≤ 100) (ht : Tab w) : Calls Tryd.prog 37 #[.int .i64 n] w (Texted (decL n) w) := by
  refine (Tryd.strconv_Itoa n (by omega) (by omega) w ht.here).mono ?_
  rintro e w' ⟨rfl, k, os, rfl⟩
  refine ⟨_, rfl, ?_, ⟨rfl, rfl, rfl, ?_, fun i hi => ?_⟩⟩
  · rw [bl_mk, decL_itoa h0]
  · show w.heap.size ≤ (w.heap ++ os).size
    simp
  · show (w.heap ++ os)[i]? = w.heap[i]?
    rw [Array.getElem?_append_left hi]

def encS (s : ByteArray) : List Value := [.string s]
theorem oneS (s : ByteArray) : ∀ u ∈ encS s, u.oneCell' = true := by
  intro u hu
  simp [encS] at hu
  subst hu
  rfl
theorem eltS : Elt Tryd.prog 36 9 1 16 := Elt.mk' Tryd.underlying36 (z := .string ⟨#[]⟩) (by kernel_rfl) rfl (by omega) (by omega)

/-- strings.Join over a list in memory. -/
theorem join_any (A : Option Addr) (L : List ByteArray) (n c : Nat) (sep : ByteArray) (l : List UInt8) (w : World) (hn : n = L.length) (hc : n ≤ c) (hl : L.length ≤ 100000) (he : Lib.join (L.map bl) (bl sep) = l) (hlen : l.length ≤ 1000000) (h : Arr w w.heap.size 1 encS A L) :
    Calls Tryd.prog 17 #[.slice A n c, .string sep] w (Texted l w) := by
  subst hn
  rcases Nat.eq_zero_or_pos L.length with h0 | h0
  · obtain rfl := List.eq_nil_of_length_eq_zero h0
    refine (Tryd.strings_Join_none A c sep w).mono ?_
    rintro e w' ⟨rfl, rfl⟩
    exact ⟨_, rfl, by rw [← he]; rfl, Below.refl _ _⟩
  · obtain ⟨b, off, rfl, hb, hcell⟩ := h h0
    have e0 : L.map (·.data.toList) = L.map bl := rfl
    refine (Tryd.strings_Join b off c L sep w (fun j x hx => by simpa using hcell j x hx 0 _ rfl) hb (by omega) hc (by rw [e0]; show (Lib.join (L.map bl) (bl sep)).length ≤ _; rw [he]; omega)).mono ?_
    rintro e w' ⟨rfl, hb'⟩
    refine ⟨_, rfl, ?_, hb'⟩
    rw [bl_mk]
    exact he
theorem dash_any (k : Nat) (w : World) (hk : k ≤ 1000) : Calls Tryd.prog 14 #[.string ⟨#[45]⟩, .int .i64 (k : Int)] w (Texted (dashL k) w) := by
  refine (Tryd.strings_Repeat ⟨#[45]⟩ k w (by omega) (by show 1 * k ≤ _; omega)).mono ?_
  rintro e w' ⟨rfl, hb⟩
  exact ⟨_, rfl, by rw [bl_mk]; exact dash_repeat k, hb⟩

set_option maxHeartbeats 1000000 in
theorem kindNames_any (w : World) : Calls Tryd.prog 36 #[] w fun e w' => e = .returned (.agg #[.string ⟨#[108, 101, 97, 102]⟩, .string ⟨#[98, 108, 111, 99, 107]⟩, .string ⟨#[114, 111, 119]⟩, .string ⟨#[99, 111, 108, 117, 109, 110]⟩]) ∧ Below w.heap.size w w' := by
  go_enter Tryd.func36, Tryd.ntmps36
  go_wp2
  refine bodyPost_ret (v := .agg #[.string ⟨#[108, 101, 97, 102]⟩, .string ⟨#[98, 108, 111, 99, 107]⟩, .string ⟨#[114, 111, 119]⟩, .string ⟨#[99, 111, 108, 117, 109, 110]⟩]) (by simp [results, Tryd.results36, go_sem]) rfl ⟨rfl, ?_⟩
  exact (Below.refl _ _).alloc (Nat.le_refl _) _

/-- The rows of styles: a name and a place each. -/
def styleCells (g : Nat) : Array Value := #[.string ⟨#[112, 97, 100]⟩, .pointer (some ⟨g, 4, none⟩), .string ⟨#[103, 97, 112]⟩, .pointer (some ⟨g, 5, none⟩), .string ⟨#[103, 114, 111, 119]⟩, .pointer (some ⟨g, 6, none⟩), .string ⟨#[115, 104, 114, 105, 110, 107]⟩, .pointer (some ⟨g, 7, none⟩), .string ⟨#[106, 117, 115, 116, 105, 102, 121]⟩, .pointer (some ⟨g, 8, none⟩)]
/-- What styles leaves. -/
def Styled (g : Nat) (w : World) (e : Ending) (w' : World) : Prop := ∃ (gs : Nat) (t : TypeId), e = .returned (.slice (some ⟨gs, 0, none⟩) 5 5) ∧ w'.heap[gs]? = some (.cells (styleCells g) t (0, 0)) ∧ w.heap.size ≤ gs ∧ Below w.heap.size w w'
set_option maxHeartbeats 2000000 in
theorem styles_any (g : Nat) (w : World) : Calls Tryd.prog 38 #[.pointer (some ⟨g, 0, none⟩)] w (Styled g w) := by
  go_enter Tryd.func38, Tryd.ntmps38
  go_wp2_with fail
  go_region_held3 (fun w' => True) (trivial) (fail)
  go_wp2
  go_ret
  exact ⟨_, _, rfl, heap_alloc_new _ _, by simp, by first | exact (Below.refl _ _).drew.alloc (Nat.le_refl _) _ | exact ((Below.refl _ _).alloc (Nat.le_refl _) _).drew⟩
end Go.Proofs.YtimpieddkkkgfaaDoor
