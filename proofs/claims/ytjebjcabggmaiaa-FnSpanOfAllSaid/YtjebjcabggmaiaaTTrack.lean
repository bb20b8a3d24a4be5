/- Track: the Lean structure of Go's impl.Track, its cells. No program is named here. Written by a program of ours. -/
import Derived.Test.YtjebjcabggmaiaaBase
namespace Go.Proofs.Ytjebjcabggmaiaa
set_option linter.unusedVariables false
set_option linter.unusedSimpArgs false
open Go.RowKit

structure TrackD where
  Size : Int
  Part : Int
theorem TrackD.eq_iff {a b : TrackD} : a = b ↔ a.Size = b.Size ∧ a.Part = b.Part := by
  cases a; cases b; simp
instance : DecidableEq TrackD := fun a b => decidable_of_iff (a.Size = b.Size ∧ a.Part = b.Part) TrackD.eq_iff.symm
instance : Inhabited TrackD := ⟨⟨0, 0⟩⟩

def encTrack (x : TrackD) : List Value := [.int .i64 x.Size, .int .i64 x.Part]
theorem encTrack_len (x : TrackD) : (encTrack x).length = 2 := rfl
theorem oneTrack (x : TrackD) : ∀ u ∈ encTrack x, u.oneCell' = true := by
  intro u hu
  simp [encTrack] at hu
  rcases hu with rfl | rfl <;> rfl
theorem ocTrack (x : TrackD) : ∀ u ∈ (#[.int .i64 x.Size, .int .i64 x.Part] : Array Value).toList, u.oneCell' = true := oneTrack x

theorem Arr.atTrack {w : World} {B : Nat} {A : Option Addr} {L : List TrackD} (h : Arr w B 2 encTrack A L) {i : Nat} (hi : i < L.length) :
    ∃ b off x, A = some ⟨b, off, none⟩ ∧ b < B ∧ L[i]? = some x ∧ w.cell? ⟨b, off + i * 2, none⟩ = some (.int .i64 x.Size) ∧ w.cell? ⟨b, off + i * 2 + 1, none⟩ = some (.int .i64 x.Part) := by
  obtain ⟨b, off, e, hb, hc⟩ := h.at_ (List.getElem?_eq_getElem hi)
  exact ⟨b, off, _, e, hb, List.getElem?_eq_getElem hi, by simpa using hc 0 _ rfl, by simpa using hc 1 _ rfl⟩
theorem Arr.litTrack {w : World} {B b off : Nat} {L : List TrackD} (h : Arr w B 2 encTrack (some ⟨b, off, none⟩) L) {i : Nat} (hi : i < L.length) :
    ∃ x, L[i]? = some x ∧ b < B ∧ w.cell? ⟨b, off + i * 2, none⟩ = some (.int .i64 x.Size) ∧ w.cell? ⟨b, off + i * 2 + 1, none⟩ = some (.int .i64 x.Part) := by
  obtain ⟨b', off', x, e, hb, h1, h2⟩ := h.atTrack hi
  injection e with e
  injection e with e1 e2
  subst e1 e2
  exact ⟨x, h1, hb, h2⟩

theorem own_setTrack {w : World} {base g i : Nat} {L : List TrackD} {p : TrackD} (h : OwnA w base 2 encTrack (some ⟨g, 0, none⟩) L) (hy : L[i]? = some p) (x : TrackD) :
    OwnA ((w.setCell ⟨g, i * 2, none⟩ (.int .i64 x.Size)).setCell ⟨g, i * 2 + 1, none⟩ (.int .i64 x.Part)) base 2 encTrack (some ⟨g, 0, none⟩) (L.set i x) := by
  have hi := (List.getElem?_eq_some_iff.1 hy).1
  have h0 := h.set_ (k := 2) (fun _ => rfl) (j := 0) (y' := (⟨x.Size, p.Part⟩ : TrackD)) (v := .int .i64 x.Size) hy (by omega) rfl
  have h1 := h0.set_ (k := 2) (fun _ => rfl) (j := 1) (y' := (⟨x.Size, x.Part⟩ : TrackD)) (v := .int .i64 x.Part) (List.getElem?_set_self (by simpa using hi)) (by omega) rfl
  simp only [List.set_set] at h1
  simpa using h1

/-- n marked structures, from m on. -/
def marksTrack (m : Int) (n : Nat) : List TrackD := (List.range n).map fun i : Nat => ⟨m + 2 * (i : Int), m + 2 * (i : Int) + 1⟩
theorem marksTrack_len (m : Int) (n : Nat) : (marksTrack m n).length = n := by simp [marksTrack]
theorem marksTrack_at {m : Int} {n i : Nat} (h : i < n) : (marksTrack m n)[i]? = some (⟨m + 2 * (i : Int), m + 2 * (i : Int) + 1⟩ : TrackD) := by simp [marksTrack, h]
end Go.Proofs.Ytjebjcabggmaiaa
