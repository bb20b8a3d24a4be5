/- From the row's reading of a slice of structs of numbers to a list of rows of numbers that lies in memory. -/
import Derived.Test.YtimpieddkkkgfaaDoorBase
import Derived.ProofKit
import Derived.OpenShut
import Derived.Deep.Slices
import Derived.Deep.Fields
import Derived.ChangeSame
namespace Go.Proofs.YtimpieddkkkgfaaDoor
set_option linter.unusedVariables false
set_option linter.unusedSimpArgs false
open Go.ChangeShapes Go.WideShapes Go.ChangeAt Go.RowKit Go.Deep

theorem addr_of_cell {w : World} {a : Addr} {v : Value} (h : w.cell? a = some v) : a = ⟨a.block, a.off, none⟩ ∧ a.block < w.heap.size := by
  have hb := World.block_lt_of_cell? w a h
  refine ⟨?_, hb⟩
  obtain ⟨b, o, s⟩ := a
  cases s with
  | none => rfl
  | some s =>
    unfold World.cell? at h
    split at h
    · simp at h
    · cases h

/-- A row of numbers, a cell each. -/
def encN (r : List Int) : List Value := r.map (Value.int .i64)

theorem rows_upto {Q : Nat → List Int → Prop} : ∀ n, (∀ i, i < n → ∃ r, Q i r) → ∃ rows : List (List Int), rows.length = n ∧ ∀ i r, rows[i]? = some r → Q i r
  | 0, _ => ⟨[], rfl, fun i r h => by simp at h⟩
  | n + 1, h => by
    obtain ⟨rows, hl, hr⟩ := rows_upto n (fun i hi => h i (by omega))
    obtain ⟨r, hq⟩ := h n (by omega)
    refine ⟨rows ++ [r], by simp [hl], fun i r' hi => ?_⟩
    by_cases hin : i < rows.length
    · rw [List.getElem?_append_left hin] at hi
      exact hr i r' hi
    · rw [List.getElem?_append_right (by omega)] at hi
      have h0 : i - rows.length = 0 := by
        rcases Nat.eq_zero_or_pos (i - rows.length) with h0 | h0
        · exact h0
        · rw [List.getElem?_eq_none (by simp; omega)] at hi; cases hi
      rw [h0] at hi
      simp at hi
      subst hi
      rw [show i = n by omega]
      exact hq

theorem structs_read {H : Type} {enc : TypeId × Value → H} {P : Program} {W : World} {base : Nat} {spare : Nat → Bool} {held : Bool} {fuel : Nat} {t e : TypeId} {fs : Array Field} {a : Option Addr} {len cap : Nat} {x : DataW H × List MemPlace}
    (ht : P.underlying t = some (.slice e)) (he : P.underlying e = some (.struct fs)) (hone : oneCellFields P fs = true) (hC : P.cellsOf e = fs.size) (h0 : 0 < fs.size) (hint : ∀ (i : Nat) (f : Field), fs[i]? = some f → P.underlying f.type = some (.int .i64))
    (hf : DataW.trod enc P W base spare held fuel t (Value.cells (.slice a len cap)).toList = some x) :
    ∃ rows : List (List Int), len = rows.length ∧ rows.length ≤ cap ∧ cap ≤ maxLen ∧ (∀ r ∈ rows, r.length = fs.size ∧ ∀ n ∈ r, (Lit.int .i64 n).wf = true) ∧ Arr W W.heap.size fs.size encN a rows := by
  rcases open_slice ht hf with ⟨hcs, _⟩ | ⟨y, l, c, m, n, D, Pl, hcs, _, hl, hm, hmm, _, hi⟩
  · simp [Value.cells] at hcs
    obtain ⟨rfl, rfl, rfl⟩ := hcs
    exact ⟨[], rfl, by simp, by simp [maxLen], by simp, Arr.nil_⟩
  · simp [Value.cells] at hcs
    obtain ⟨rfl, rfl, rfl⟩ := hcs
    have hlm : len ≤ m := by rw [hmm]; split <;> omega
    have hrow : ∀ i, i < len → ∃ r : List Int, (r.length = fs.size ∧ ∀ n ∈ r, (Lit.int .i64 n).wf = true) ∧ ∀ j v, (encN r)[j]? = some v → W.cell? (y.add (i * fs.size + j)) = some v := by
      intro i hil
      obtain ⟨cs', hc, htr⟩ := hi i (by omega)
      rw [hC] at hc
      obtain ⟨_, hlen, hcell⟩ := World.cells?_some hc
      obtain ⟨xs, n', _, _, _, hxl, hfld⟩ := DataW.trod_struct he htr
      have each : ∀ j, j < fs.size → ∃ q : Int, cs'[j]? = some (.int .i64 q) ∧ (Lit.int .i64 q).wf = true := by
        intro j hj
        have hfj := Array.getElem?_eq_getElem hj
        obtain ⟨ho, hk⟩ := hone_of hone j _ hfj
        have h1 := hfld j _ hfj
        rw [ho, hk, List.getElem?_eq_getElem (show j < xs.length by omega), List.drop_eq_getElem_cons (show j < cs'.length by omega)] at h1
        obtain ⟨q, e1, _, e3⟩ := DataW.trod_int (hint j _ hfj) h1
        simp only [List.take_succ_cons, List.take_zero] at e1
        injection e1 with e1
        exact ⟨q, by rw [List.getElem?_eq_getElem (show j < cs'.length by omega), e1], e3⟩
      refine ⟨cs'.map intOf, ⟨by simp [hlen], fun q hq => ?_⟩, fun j v hv => ?_⟩
      · obtain ⟨u, hu, rfl⟩ := List.mem_map.1 hq
        obtain ⟨j, hj⟩ := List.mem_iff_getElem?.1 hu
        obtain ⟨q, e1, e2⟩ := each j (by have := (List.getElem?_eq_some_iff.1 hj).1; omega)
        rw [e1] at hj
        injection hj with hj
        rw [← hj]
        exact e2
      · have hj : j < fs.size := by have := (List.getElem?_eq_some_iff.1 hv).1; simp [encN] at this; omega
        obtain ⟨q, e1, e2⟩ := each j hj
        simp [encN, e1, intOf] at hv
        rw [← add_add, hcell j hj, e1, hv]
    obtain ⟨rows, hrl, hr⟩ := rows_upto len hrow
    refine ⟨rows, hrl.symm, by omega, hm, fun r hr' => ?_, fun hn => ?_⟩
    · obtain ⟨i, hi'⟩ := List.mem_iff_getElem?.1 hr'
      exact (hr i r hi').1
    · obtain ⟨⟨h1, _⟩, h2⟩ := hr 0 _ (List.getElem?_eq_getElem hn)
      have hz : 0 < (rows[0]'hn).length := by omega
      have h3 := h2 0 (.int .i64 ((rows[0]'hn)[0]'hz)) (by simp [encN, hz])
      have hy : y.add (0 * fs.size + 0) = y := by simp [Addr.add]
      rw [hy] at h3
      obtain ⟨e1, e2⟩ := addr_of_cell h3
      refine ⟨y.block, y.off, congrArg some e1, e2, fun i r hi' j v hv => ?_⟩
      have := (hr i r hi').2 j v hv
      rw [e1, Addr.add_lit] at this
      rw [← this, Nat.add_assoc]
end Go.Proofs.YtimpieddkkkgfaaDoor
