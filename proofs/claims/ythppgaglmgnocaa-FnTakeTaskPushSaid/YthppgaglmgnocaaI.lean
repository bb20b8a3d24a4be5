/- The exact laws' helpers for lists of numbers: comparison, marks. -/
import Derived.Test.YthppgaglmgnocaaProg
import Derived.Test.YthppgaglmgnocaaBase
import Derived.Deep.QuietTactic
import Derived.BigQuiet
namespace Go.Proofs.Ythppgaglmgnocaa
set_option linter.unusedVariables false
set_option linter.unusedSimpArgs false
open Go.RowKit Go.Lib

set_option maxHeartbeats 1000000 in
theorem eqIntS_same (A A' : Option Addr) (C : List Int) (c c' : Nat) (w : World) (hL : C.length ≤ 1048576) (h : Arr w w.heap.size 1 encI A C) (h' : Arr w w.heap.size 1 encI A' C) :
    Calls Try.prog 31 #[.slice A C.length c, .slice A' C.length c'] w fun e w' => e = .returned (.bool true) ∧ Below w.heap.size w w' := by
  have H := hid h
  have H' := hid h'
  clear h h'
  go_enter Try.func31, Try.ntmps31
  go_wp2
  go_loopg [5] C.length (fun gg s5 wr => ∃ i : Nat, i ≤ C.length ∧ C.length - i ≤ gg ∧ s5 = .int .i64 i ∧ Aside (Below w.heap.size w wr))
  case atStart => exact ⟨0, Nat.zero_le _, by omega, rfl, Below.refl _ _⟩
  case round =>
    obtain ⟨i, hi, hg, rfl, R⟩ := hrel
    by_cases hlt : i < C.length
    · obtain ⟨b, off, x, rfl, hb, hx, c1⟩ := (H.out.below R.out).at1 hlt
      obtain ⟨b', off', x', rfl, hb', hx', c1'⟩ := (H'.out.below R.out).at1 hlt
      have e := hx.symm.trans hx'
      injection e with e
      subst e
      clear hx hx'
      have i1 : (0 : Int) ≤ (i : Int) := by omega
      have i2 : (i : Int) < (C.length : Int) := by omega
      go_wp2_with fail
      go_quiet (fail)
      go_wp2
      go_roundg (C.length - (i + 1))
      case measure => omega
      case rel => exact ⟨i + 1, by omega, by omega, by go_num, Below_drewN R.out nq⟩
    · have : i = C.length := by omega
      subst this
      go_wp2
      go_ret
      exact ⟨rfl, R.out⟩

/-- n numbers from k on. -/
def marks (k : Int) (n : Nat) : List Int := (List.range n).map fun i : Nat => k + (i : Int)
theorem marks_len (k : Int) (n : Nat) : (marks k n).length = n := by simp [marks]
theorem marks_at {k : Int} {n i : Nat} (h : i < n) : (marks k n)[i]? = some (k + (i : Int)) := by simp [marks, h]

/-- What a call leaves that writes into the list at A alone. -/
structure Marked (n : Nat) (A : Option Addr) (w w' : World) : Prop where
  ex : ∃ row, w.grownBy w' row ∧ ∀ q, row = some q → 0 < n ∧ ∃ a, A = some a ∧ a.block = q
theorem Marked.refl (n : Nat) (A : Option Addr) (w : World) : Marked n A w w := ⟨none, World.grownBy.refl w _, fun q h => by cases h⟩
theorem Marked.set_ {n : Nat} {g off o : Nat} {w w' : World} (h : Marked n (some ⟨g, off, none⟩) w w') (hn : 0 < n) (u : Value) : Marked n (some ⟨g, off, none⟩) w (w'.setCell ⟨g, o, none⟩ u) := by
  obtain ⟨row, hg, hr⟩ := h.ex
  refine ⟨some g, ?_, fun q hq => by injection hq with hq; exact ⟨hn, _, rfl, hq⟩⟩
  have hg' : w.grownBy w' (some g) := ⟨hg.os, hg.tape, hg.output, hg.size, fun k hk hne => hg.block k hk (fun e => by
    obtain ⟨_, a, ha, hb⟩ := hr k e.symm
    injection ha with ha
    subst ha
    exact hne (by rw [← hb]))⟩
  exact grown_set hg' o u
theorem Marked.arr {α : Type} {n B k : Nat} {A A' : Option Addr} {w w' : World} {enc : α → List Value} {L : List α} (h : Marked n A w w') (ha : Arr w B k enc A' L) (hB : B ≤ w.heap.size) (hlo : 0 < n → ∀ a, A = some a → B ≤ a.block) : Arr w' B k enc A' L := by
  obtain ⟨row, hg, hr⟩ := h.ex
  refine ha.grown hg hB fun q hq => ?_
  obtain ⟨hn, a, e1, rfl⟩ := hr q hq
  exact hlo hn a e1
theorem Marked.own {α : Type} {n base k : Nat} {A A' : Option Addr} {w w' : World} {enc : α → List Value} {L : List α} (h : Marked n A w w') (ha : OwnA w base k enc A' L) (hhi : 0 < n → ∀ a, A = some a → a.block < base) : OwnA w' base k enc A' L := by
  obtain ⟨row, hg, hr⟩ := h.ex
  refine ha.apart hg fun q hq => ?_
  obtain ⟨hn, a, e1, rfl⟩ := hr q hq
  exact .inl (hhi hn a e1)
theorem Marked.below {n B : Nat} {A : Option Addr} {w0 w w' : World} (h : Marked n A w w') (hb : Below B w0 w) (hB : B ≤ w.heap.size) (hlo : 0 < n → ∀ a, A = some a → B ≤ a.block) : Below B w0 w' := by
  obtain ⟨row, hg, hr⟩ := h.ex
  refine hb.grown hg hB fun q hq => ?_
  obtain ⟨hn, a, e1, rfl⟩ := hr q hq
  exact hlo hn a e1
theorem OwnA.ge {α : Type} {w : World} {base k : Nat} {enc : α → List Value} {A : Option Addr} {L : List α} (h : OwnA w base k enc A L) (hn : 0 < L.length) : ∀ a, A = some a → base ≤ a.block := by
  intro a ha
  obtain ⟨g, off, cur, t, e, hb, _⟩ := h hn
  rw [ha] at e
  injection e with e
  rw [e]
  exact hb

set_option maxHeartbeats 1000000 in
theorem markIntS_any (A : Option Addr) (C : List Int) (c base : Nat) (w : World) (hL : C.length ≤ 1048576) (h : OwnA w base 1 encI A C) :
    Calls Try.prog 32 #[.slice A C.length c, .int .i64 1] w fun e w' => e = .returned (.int .i64 (1 + (C.length : Int))) ∧ OwnA w' base 1 encI A (marks 1 C.length) ∧ Marked C.length A w w' := by
  have R0 : Aside (OwnA w base 1 encI A (marks 1 0 ++ C.drop 0) ∧ Marked C.length A w w) := ⟨by simpa [marks] using h, Marked.refl _ _ _⟩
  clear h
  go_enter Try.func32, Try.ntmps32
  go_wp2
  go_loopg [1, 5] C.length (fun gg s1 s5 wr => ∃ i : Nat, i ≤ C.length ∧ C.length - i ≤ gg ∧ s5 = .int .i64 i ∧ s1 = .int .i64 (1 + (i : Int)) ∧ Aside (OwnA wr base 1 encI A (marks 1 i ++ C.drop i) ∧ Marked C.length A w wr))
  case atStart => exact ⟨0, Nat.zero_le _, by omega, rfl, rfl, R0⟩
  case round =>
    obtain ⟨i, hi, hg, rfl, rfl, R⟩ := hrel
    clear R0
    by_cases hlt : i < C.length
    · have hx : (marks 1 i ++ C.drop i)[i]? = some C[i] := by
        rw [List.getElem?_append_right (by rw [marks_len]; omega), marks_len, Nat.sub_self, List.getElem?_drop]
        simp [hlt]
      obtain ⟨g, off, rfl, hgb, hg2, hc, hf⟩ := R.out.1.at_ hx
      have c1 : wr.cell? ⟨g, off + i, none⟩ = some (.int .i64 C[i]) := by simpa using hc 0 _ rfl
      have f1 := hf (off + i)
      have hnext : (marks 1 i ++ C.drop i).set i (1 + (i : Int)) = marks 1 (i + 1) ++ C.drop (i + 1) := by
        rw [List.set_append_right _ _ (by rw [marks_len]; omega), marks_len, Nat.sub_self, List.drop_eq_getElem_cons hlt, List.set_cons_zero]
        simp [marks, List.range_succ]
      have S := R.out.1.set_ (k := 1) (fun _ => rfl) (j := 0) (y' := 1 + (i : Int)) (v := .int .i64 (1 + (i : Int))) hx (by omega) rfl
      rw [hnext] at S
      have S2 := hid (show OwnA (wr.setCell ⟨g, off + i, none⟩ (.int .i64 (1 + (i : Int)))) base 1 encI (some ⟨g, off, none⟩) (marks 1 (i + 1) ++ C.drop (i + 1)) by simpa using S)
      have M2 := hid (R.out.2.set_ (o := off + i) (by omega) (.int .i64 (1 + (i : Int))))
      clear hx hc hf hnext S
      go_wp2
      go_roundg (C.length - (i + 1))
      case measure => omega
      case rel => exact ⟨i + 1, by omega, by omega, by go_num, by go_num, S2.out, M2.out⟩
    · have : i = C.length := by omega
      subst this
      go_wp2
      go_ret
      have h1 := R.out.1
      rw [List.drop_length, List.append_nil] at h1
      exact ⟨rfl, h1, R.out.2⟩

set_option maxHeartbeats 1000000 in
theorem heldIntS_any (A : Option Addr) (n c : Nat) (w : World) (hL : n ≤ 1048576) (h : Arr w w.heap.size 1 encI A (marks 1 n)) :
    Calls Try.prog 33 #[.slice A n c, .int .i64 1] w fun e w' => e = .returned (.int .i64 (1 + (n : Int))) ∧ w = w' := by
  have H := hid h
  clear h
  go_enter Try.func33, Try.ntmps33
  go_wp2
  go_loop [1, 5] (fun s1 s5 => ∃ i : Nat, i ≤ n ∧ s5 = .int .i64 i ∧ s1 = .int .i64 (1 + (i : Int))) (fun _ s5 => n - (intOf s5).toNat)
  case atStart => exact ⟨0, Nat.zero_le _, rfl, rfl⟩
  case round =>
    obtain ⟨i, hi, rfl, rfl⟩ := hrel
    by_cases hlt : i < n
    · obtain ⟨b, off, x, rfl, hb, hx, c1⟩ := H.out.at1 (show i < (marks 1 n).length by rw [marks_len]; exact hlt)
      rw [marks_at hlt] at hx
      injection hx with hx
      subst hx
      go_wp2
      go_round
      case measure => simp [intOf]; omega
      case rel => exact ⟨i + 1, by omega, by go_num, by go_num⟩
    · have : i = n := by omega
      subst this
      go_wp2
      go_ret
      exact ⟨rfl, rfl⟩
end Go.Proofs.Ythppgaglmgnocaa
