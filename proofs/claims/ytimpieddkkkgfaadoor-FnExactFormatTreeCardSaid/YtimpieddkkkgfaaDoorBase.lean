/- Words for memory: an address from which a list lies; rows of the call's own; small laws. No program is named here. -/
import Derived.WalkKit
import Derived.WalkSpells
import Derived.WalkLawsBesides
import Derived.Maps.AppendAt
import Derived.Deep.LoopGhost
import Derived.Lib.Hide
import Derived.Deep.AppendLies
import Derived.Shelf.Abstract
import Derived.Outline
namespace Go.Proofs.YtimpieddkkkgfaaDoor
set_option linter.unusedVariables false
set_option linter.unusedSimpArgs false
open Go.RowKit

/-! ## A list that lies in memory -/
/-- From address A on lie the elements of L, k cells each (enc); all in one block below number B. -/
def Arr {α : Type} (w : World) (B k : Nat) (enc : α → List Value) (A : Option Addr) (L : List α) : Prop :=
  0 < L.length → ∃ b off, A = some ⟨b, off, none⟩ ∧ b < B ∧ ∀ i x, L[i]? = some x → ∀ j v, (enc x)[j]? = some v → w.cell? ⟨b, off + i * k + j, none⟩ = some v

section
variable {α : Type} {w w' : World} {B B' k : Nat} {enc : α → List Value} {A : Option Addr} {L : List α}
theorem Arr.nil_ : Arr w B k enc A [] := fun h => absurd h (by simp)
theorem Arr.keep (h : Arr w B k enc A L) (hk : ∀ p : Addr, p.block < B → w'.cell? p = w.cell? p) : Arr w' B k enc A L := fun hn => by
  obtain ⟨b, off, e, hb, hc⟩ := h hn
  exact ⟨b, off, e, hb, fun i x hx j v hv => (hk ⟨b, _, none⟩ hb).trans (hc i x hx j v hv)⟩
theorem Arr.more (h : Arr w B k enc A L) (hB : B ≤ B') : Arr w B' k enc A L := fun hn => by
  obtain ⟨b, off, e, hb, hc⟩ := h hn
  exact ⟨b, off, e, by omega, hc⟩
theorem Arr.below (h : Arr w B k enc A L) (hb : Below B w w') : Arr w' B k enc A L := h.keep fun _ hp => hb.cell hp
/-- The usual step: behind a call that leaves alone what lay before. -/
theorem Arr.next (h : Arr w w.heap.size k enc A L) (hb : Below w.heap.size w w') : Arr w' w'.heap.size k enc A L := (h.below hb).more hb.size
theorem Arr.at_ {i : Nat} {x : α} (h : Arr w B k enc A L) (hx : L[i]? = some x) :
    ∃ b off, A = some ⟨b, off, none⟩ ∧ b < B ∧ ∀ j v, (enc x)[j]? = some v → w.cell? ⟨b, off + i * k + j, none⟩ = some v := by
  have hl : 0 < L.length := by
    rcases Nat.eq_zero_or_pos L.length with h0 | h0
    · rw [List.eq_nil_of_length_eq_zero h0] at hx; simp at hx
    · exact h0
  obtain ⟨b, off, e, hb, hc⟩ := h hl
  exact ⟨b, off, e, hb, fun j v hv => hc i x hx j v hv⟩
end

theorem Arr.take {α : Type} {w : World} {B k : Nat} {enc : α → List Value} {A : Option Addr} {L : List α} (h : Arr w B k enc A L) (n : Nat) : Arr w B k enc A (L.take n) := fun hn => by
  obtain ⟨b, off, e, hb, hc⟩ := h (by rw [List.length_take] at hn; omega)
  refine ⟨b, off, e, hb, fun i x hx j v hv => hc i x ?_ j v hv⟩
  rw [List.getElem?_take] at hx
  split at hx
  · exact hx
  · cases hx
theorem Arr.drop {α : Type} {w : World} {B k : Nat} {enc : α → List Value} {A : Option Addr} {L : List α} {c : Nat} (h : Arr w B k enc A L) (hc : L.length ≤ c) (n : Nat) : Arr w B k enc (if c = n then A else A.map (·.add (n * k))) (L.drop n) := fun hn => by
  rw [List.length_drop] at hn
  obtain ⟨b, off, e, hb, hcell⟩ := h (by omega)
  rw [if_neg (by omega), e]
  refine ⟨b, off + n * k, by simp [Addr.add_lit], hb, fun i x hx j v hv => ?_⟩
  rw [List.getElem?_drop] at hx
  have := hcell _ x hx j v hv
  rw [Nat.add_mul] at this
  rw [← this]
  congr 2
  omega

/-- One cell an element: a number. -/
def encI (x : Int) : List Value := [.int .i64 x]
/-- Two numbers. -/
def encP (p : Int × Int) : List Value := [.int .i64 p.1, .int .i64 p.2]

theorem Arr.at1 {w : World} {B : Nat} {A : Option Addr} {L : List Int} (h : Arr w B 1 encI A L) {i : Nat} (hi : i < L.length) :
    ∃ b off x, A = some ⟨b, off, none⟩ ∧ b < B ∧ L[i]? = some x ∧ w.cell? ⟨b, off + i, none⟩ = some (.int .i64 x) := by
  obtain ⟨b, off, e, hb, hc⟩ := h.at_ (List.getElem?_eq_getElem hi)
  exact ⟨b, off, _, e, hb, List.getElem?_eq_getElem hi, by simpa using hc 0 _ rfl⟩
theorem Arr.at2 {w : World} {B : Nat} {A : Option Addr} {L : List (Int × Int)} (h : Arr w B 2 encP A L) {i : Nat} (hi : i < L.length) :
    ∃ b off x y, A = some ⟨b, off, none⟩ ∧ b < B ∧ L[i]? = some (x, y) ∧ w.cell? ⟨b, off + i * 2, none⟩ = some (.int .i64 x) ∧ w.cell? ⟨b, off + i * 2 + 1, none⟩ = some (.int .i64 y) := by
  obtain ⟨b, off, e, hb, hc⟩ := h.at_ (List.getElem?_eq_getElem hi)
  exact ⟨b, off, _, _, e, hb, List.getElem?_eq_getElem hi, by simpa using hc 0 _ rfl, by simpa using hc 1 _ rfl⟩

/-- A list that lies in a row of the call's own: block g, from base on, known whole, nothing of it frozen. -/
def OwnA {α : Type} (w : World) (base k : Nat) (enc : α → List Value) (A : Option Addr) (L : List α) : Prop :=
  0 < L.length → ∃ g off cur t, A = some ⟨g, off, none⟩ ∧ base ≤ g ∧ w.heap[g]? = some (.cells cur t (0, 0)) ∧ ∀ i x, L[i]? = some x → ∀ j v, (enc x)[j]? = some v → cur[off + i * k + j]? = some v

section
variable {α : Type} {w w' : World} {base B B' k : Nat} {enc : α → List Value} {A : Option Addr} {L : List α}
theorem OwnA.arr (h : OwnA w base k enc A L) : Arr w w.heap.size k enc A L := fun hn => by
  obtain ⟨g, off, cur, t, e, _, hg, hc⟩ := h hn
  exact ⟨g, off, e, (Array.getElem?_eq_some_iff.1 hg).1, fun i x hx j v hv => by rw [cell_of_row w g _ _ _ _ hg]; exact hc i x hx j v hv⟩
theorem OwnA.next (h : OwnA w base k enc A L) (hb : Below w.heap.size w w') : OwnA w' base k enc A L := fun hn => by
  obtain ⟨g, off, cur, t, e, h1, hg, hc⟩ := h hn
  exact ⟨g, off, cur, t, e, h1, (hb.block g (Array.getElem?_eq_some_iff.1 hg).1).trans hg, hc⟩
theorem OwnA.less (h : OwnA w base k enc A L) (hB : B ≤ base) : OwnA w B k enc A L := fun hn => by
  obtain ⟨g, off, cur, t, e, h1, hg, hc⟩ := h hn
  exact ⟨g, off, cur, t, e, by omega, hg, hc⟩

theorem flat_get {enc : α → List Value} (hk : ∀ x, (enc x).length = k) : ∀ {L : List α} {i : Nat} {x : α}, L[i]? = some x → ∀ {j : Nat} {v : Value}, (enc x)[j]? = some v → (L.flatMap enc)[i * k + j]? = some v
  | [], i, x, h, _, _, _ => by simp at h
  | y :: L, 0, x, h, j, v, hv => by
    simp at h; subst h
    rw [List.flatMap_cons, List.getElem?_append_left (by have := (List.getElem?_eq_some_iff.1 hv).1; omega)]
    simpa using hv
  | y :: L, i + 1, x, h, j, v, hv => by
    rw [List.flatMap_cons, List.getElem?_append_right (by rw [hk, Nat.add_mul]; omega), hk, show (i + 1) * k + j - k = i * k + j from by rw [Nat.add_mul]; omega]
    exact flat_get hk (by simpa using h) hv
theorem flat_len {enc : α → List Value} (hk : ∀ x, (enc x).length = k) (L : List α) : (L.flatMap enc).length = L.length * k := by
  induction L with
  | nil => simp
  | cons x L ih => rw [List.flatMap_cons, List.length_append, hk, ih, List.length_cons, Nat.add_mul]; omega

theorem OwnA.of_row {e : TypeId} {c : Nat} (hk : ∀ x, (enc x).length = k) (h : w.ownsRow base e k (.slice A L.length c) L.length (L.flatMap enc)) : OwnA w base k enc A L := fun hn => by
  rcases h.2 with ⟨h', h0⟩ | ⟨g, cap, cur, h', hb, hg, _, _, _, ht⟩
  · omega
  · injection h' with h1 _ _
    refine ⟨g, 0, cur, e, h1, hb, hg, fun i x hx j v hv => ?_⟩
    have := flat_get hk hx hv
    rw [← ht, List.getElem?_take] at this
    split at this
    · rw [Nat.zero_add]; simpa using this
    · cases this
end

theorem OwnA.of_rowN {α : Type} {w : World} {base k : Nat} {enc : α → List Value} {A : Option Addr} {L : List α} {e : TypeId} {n c : Nat} {xs : List Value} (hk : ∀ x, (enc x).length = k) (hn : n = L.length) (hx : xs = L.flatMap enc) (h : w.ownsRow base e k (.slice A n c) n xs) : OwnA w base k enc A L := by
  subst hn hx
  exact OwnA.of_row hk h

/-- The value of a row of the call's own is a slice. -/
theorem row_form {w : World} {base : Nat} {e : TypeId} {size n : Nat} {v : Value} {xs : List Value} (h : w.ownsRow base e size v n xs) : ∃ A c, v = .slice A n c ∧ n ≤ c ∧ c ≤ maxLen := by
  rcases h.2 with ⟨rfl, rfl⟩ | ⟨g, cap, cur, rfl, _, _, h1, h2, _⟩
  · exact ⟨none, 0, rfl, by omega, by simp [maxLen]⟩
  · exact ⟨_, cap, rfl, h1, h2⟩
theorem slice_le {w : World} {base : Nat} {e : TypeId} {size n c : Nat} {A : Option Addr} {xs : List Value} (h : w.ownsRow base e size (.slice A n c) n xs) : n ≤ c ∧ c ≤ maxLen := by
  obtain ⟨_, _, e, h1, h2⟩ := row_form h
  injection e with _ _ e
  subst e
  exact ⟨h1, h2⟩
theorem row_far {w w' : World} {base : Nat} {e : TypeId} {size n r : Nat} {v : Value} {xs : List Value} (h : w.ownsRow base e size v n xs) (hg : w.grownBy w' (some r)) (hr : r < base) : w'.ownsRow base e size v n xs := by
  refine h.kept hg ?_
  cases hv : v.ownBlock with
  | none => exact .inl rfl
  | some k => exact .inr (fun e => by injection e with e; have := (h.lt k hv).1; omega)
theorem row_next {w w' : World} {base : Nat} {e : TypeId} {size n : Nat} {v : Value} {xs : List Value} (h : w.ownsRow base e size v n xs) (hb : Below w.heap.size w w') : w'.ownsRow base e size v n xs :=
  h.kept (row := none) ⟨hb.os, hb.tape, hb.output, hb.size, fun k hk _ => hb.block k hk⟩ (by cases v.ownBlock <;> simp)
theorem grown_trans {a b c : World} {row : Option Nat} (h : a.grownBy b row) (k : b.grownBy c row) : a.grownBy c row :=
  ⟨k.os.trans h.os, k.tape.trans h.tape, k.output.trans h.output, Nat.le_trans h.size k.size, fun i hi hne => (k.block i (Nat.lt_of_lt_of_le hi h.size) hne).trans (h.block i hi hne)⟩
/-- Writes to a row that came later aren't seen. -/
theorem grown_new {a b c : World} {row row' : Option Nat} (h : a.grownBy b row) (k : b.grownBy c row') (hr : ∀ g, row' = some g → a.heap.size ≤ g) : a.grownBy c row :=
  ⟨k.os.trans h.os, k.tape.trans h.tape, k.output.trans h.output, Nat.le_trans h.size k.size, fun i hi hne => (k.block i (Nat.lt_of_lt_of_le hi h.size) (fun e => by have := hr i e.symm; omega)).trans (h.block i hi hne)⟩
theorem grown_alloc {a b : World} {row : Option Nat} (h : a.grownBy b row) (o : Obj) : a.grownBy (b.alloc o) row := grown_trans h (World.grownBy_alloc b o row)


/-- What the laws ask of a slice type t with elements e. -/
structure Elt (P : Program) (t e : TypeId) (size bytes : Nat) : Prop where
  ex : ∃ (i : TypeInfo) (z : Value), P.underlying t = some (.slice e) ∧ P.info? e = some i ∧ i.zero = some z ∧ i.size = size ∧ i.bytes = bytes ∧ z.cells.size = size ∧ 0 < size ∧ bytes ≤ 1000
theorem Elt.mk' {P : Program} {t e : TypeId} {size bytes : Nat} {z : Value} (h1 : P.underlying t = some (.slice e)) (h2 : (P.info? e).map (fun i => (i.zero, i.size, i.bytes)) = some (some z, size, bytes)) (h3 : z.cells.size = size) (h4 : 0 < size) (h5 : bytes ≤ 1000) : Elt P t e size bytes := by
  obtain ⟨i, a, b, c, d⟩ := info_parts h2
  exact ⟨i, z, h1, a, b, c, d, h3, h4, h5⟩

section
variable {P : Program} {t e : TypeId} {size bytes : Nat}

/-- 'append(out, x)', x built on the spot: what the walk asks of it. -/
theorem wpList_push {W : World} {ops : Array Oper} {rest : List Oper} {o : Oper} {a : Act} {Q : Exit → Act → World → Prop} (E : Elt P t e size bytes) (hgd : o.guard = none) (s x : Operand)
    (ho : o.op = .call { callee := .builtin .append, args := #[s, x], argTypes := #[t, t] })
    (base : Nat) (v : Value) (n : Nat) (xs : List Value) (hown : W.ownsRow base e size v n xs) (hn : n ≤ 1000000) (hbase : base ≤ W.heap.size) (g : Nat) (cs : Array Value)
    (hs : a.eval s = v) (hx : a.eval x = .slice (some ⟨g, 0, none⟩) 1 1) (hg : g = W.heap.size) (hcs : cs.size = size) (h1 : ∀ u ∈ cs.toList, u.oneCell' = true)
    (h : ∀ A c w', w'.ownsRow base e size (.slice A (n + 1) c) (n + 1) (xs ++ cs.toList) → W.grownBy w' v.ownBlock → (∀ q, (Value.slice A (n + 1) c).ownBlock = some q → v.ownBlock = some q ∨ W.heap.size ≤ q) → wpList P ops Q rest (a.put o.dst (.slice A (n + 1) c)) w') :
    wpList P ops Q (o :: rest) a (W.alloc (.cells cs e)) := by
  obtain ⟨i, z, ht, hi, hz, hsize, hby, hzs, hsz, hbb⟩ := E.ex
  subst hg
  refine wpList_append_own_at _ hgd s x t ho base e i z size bytes ht hi hz hsize hby hzs hsz v n xs hs (hown.alloc _) ⟨W.heap.size, 0, none⟩ 1 1 cs.toList hx (by simpa using hcs) ?_ h1 (by simp only [maxLen]; omega) ?_ (by simp; omega) ?_
  · intro j u hu
    rw [Addr.add_lit, cell_of_row _ W.heap.size _ cs e (0, 0) (heap_alloc_new W _)]
    simpa using hu
  · exact Nat.le_trans (Nat.mul_le_mul_left _ hbb) (by omega)
  · intro v' w' ho' hg' _ hat
    obtain ⟨A, c, rfl, _, _⟩ := row_form ho'
    refine h A c w' ho' ⟨hg'.os, hg'.tape, hg'.output, ?_, ?_⟩ ?_
    · have := hg'.size; simp at this; omega
    · intro k hk hne
      exact (hg'.block k (by simp; omega) hne).trans (Below.heap_alloc W _ k hk)
    · intro q hq
      rcases hat with e | e
      · exact .inl (e.symm.trans hq)
      · rw [e] at hq
        injection hq with hq
        simp at hq
        exact .inr (by omega)

theorem run_append_empty (W : World) (ty : TypeId) (E : Elt P t e size bytes) (base : Nat) (v : Value) (n : Nat) (xs : List Value) (hown : W.ownsRow base e size v n xs) (A : Option Addr) (c : Nat) :
    (Builtin.append_ #[t, t] ty #[v, .slice A 0 c]).run P W = .ok v W := by
  obtain ⟨i, z, ht, hi, hz, hsize, hby, hzs, hsz, hbb⟩ := E.ex
  rcases hown.2 with ⟨rfl, rfl⟩ | ⟨g, cap, cur, rfl, _, _, hnc, _⟩
  · cases A <;> simp [Builtin.append_, run_underlying ht, sizeOf, typeInfo, hi, Builtin.lenOf, Builtin.firstCells] <;> rfl
  · cases A <;> simp [Builtin.append_, run_underlying ht, sizeOf, typeInfo, hi, Builtin.lenOf, Builtin.firstCells, hnc, storeCells] <;> rfl

theorem arr_flat {α : Type} {w : World} {k : Nat} {enc : α → List Value} (hk : ∀ x, (enc x).length = k) {L : List α} {b off : Nat} (hc : ∀ i x, L[i]? = some x → ∀ j v, (enc x)[j]? = some v → w.cell? ⟨b, off + i * k + j, none⟩ = some v) (k0 : 0 < k) :
    ∀ j u, (L.flatMap enc)[j]? = some u → w.cell? ((⟨b, off, none⟩ : Addr).add j) = some u := by
  intro j u hu
  have hj : j < L.length * k := by have := (List.getElem?_eq_some_iff.1 hu).1; rw [flat_len hk] at this; exact this
  have hi : j / k < L.length := (Nat.div_lt_iff_lt_mul k0).2 hj
  have hx := List.getElem?_eq_getElem hi
  have hr : j % k < (enc L[j / k]).length := by rw [hk]; exact Nat.mod_lt _ k0
  have hv := List.getElem?_eq_getElem hr
  have e : j / k * k + j % k = j := by rw [Nat.mul_comm]; exact Nat.div_add_mod _ _
  have h1 := flat_get hk hx hv
  rw [e] at h1
  have h2 := hc _ _ hx _ _ hv
  rw [Nat.add_assoc, e] at h2
  rw [Addr.add_lit, h2, ← hu, h1]

theorem run_append_arr {α : Type} (W : World) (ty : TypeId) (E : Elt P t e size bytes) (base : Nat) (v : Value) (n : Nat) (xs : List Value) (hown : W.ownsRow base e size v n xs)
    (enc : α → List Value) (hk : ∀ x, (enc x).length = size) (h1 : ∀ x, ∀ u ∈ enc x, u.oneCell' = true) (B : Nat) (A : Option Addr) (L : List α) (m c : Nat) (hm : m = L.length) (hr : Arr W B size enc A L) (hnm : n + m ≤ 1000000) (hbase : base ≤ W.heap.size) :
    ∃ A' c' w', (Builtin.append_ #[t, t] ty #[v, .slice A m c]).run P W = .ok (.slice A' (n + m) c') w' ∧ w'.ownsRow base e size (.slice A' (n + m) c') (n + m) (xs ++ L.flatMap enc) ∧ W.grownBy w' v.ownBlock ∧
      ∀ q, (Value.slice A' (n + m) c').ownBlock = some q → v.ownBlock = some q ∨ W.heap.size ≤ q := by
  subst hm
  rcases Nat.eq_zero_or_pos L.length with h0 | h0
  · have : L = [] := List.eq_nil_of_length_eq_zero h0
    subst this
    obtain ⟨A', c', rfl, _⟩ := row_form hown
    refine ⟨A', c', W, run_append_empty W ty E base _ n xs hown A c, by simpa using hown, World.grownBy.refl W _, fun q hq => .inl hq⟩
  · obtain ⟨b, off, rfl, _, hc⟩ := hr h0
    obtain ⟨i, z, ht, hi, hz, hsize, hby, hzs, hsz, hbb⟩ := E.ex
    obtain ⟨v', w', hrun, ho, hg, _, hat⟩ := run_append_own_at (P := P) W base t ty e i z size bytes ht hi hz hsize hby hzs hsz v n xs hown ⟨b, off, none⟩ L.length c (L.flatMap enc) (flat_len hk L) (arr_flat hk hc hsz)
      (fun u hu => by obtain ⟨x, _, hx⟩ := List.mem_flatMap.1 hu; exact h1 x u hx) (by simp only [maxLen]; omega) (Nat.le_trans (Nat.mul_le_mul_left _ hbb) (by omega)) hbase
    obtain ⟨A', c', rfl, _⟩ := row_form ho
    refine ⟨A', c', w', hrun, ho, hg, fun q hq => ?_⟩
    rcases hat with e | e
    · exact .inl (e.symm.trans hq)
    · rw [e] at hq
      injection hq with hq
      exact .inr (by omega)

theorem wp_append_arr {α : Type} (W : World) {o : Oper} {a : Act} {K : Act → World → Prop} {Q : Exit → Act → World → Prop} (E : Elt P t e size bytes) (s x : Operand)
    (ho : o.op = .call { callee := .builtin .append, args := #[s, x], argTypes := #[t, t] })
    (base : Nat) (v : Value) (n N : Nat) (xs : List Value) (hs : a.eval s = v) (hown : W.ownsRow base e size v n xs)
    (enc : α → List Value) (hk : ∀ x, (enc x).length = size) (h1 : ∀ x, ∀ u ∈ enc x, u.oneCell' = true) (B : Nat) (A : Option Addr) (L : List α) (m c : Nat) (hx : a.eval x = .slice A m c) (hm : m = L.length) (hr : Arr W B size enc A L) (hN : n + m = N) (hnm : N ≤ 1000000) (hbase : base ≤ W.heap.size)
    (h : ∀ A' c' w', w'.ownsRow base e size (.slice A' N c') N (xs ++ L.flatMap enc) → W.grownBy w' v.ownBlock → (∀ q, (Value.slice A' N c').ownBlock = some q → v.ownBlock = some q ∨ W.heap.size ≤ q) → K (a.put o.dst (.slice A' N c')) w') : o.wp P a W K Q := by
  subst hN
  obtain ⟨A', c', w', hrun, h2, h3, h4⟩ := run_append_arr (P := P) W o.type E base v n xs hown enc hk h1 B A L m c hm hr hnm hbase
  unfold Oper.wp execOp
  simp only [ho, resolve, invoke, builtin, Sem.run_bind, Sem.run_pure, Result.andThen_ok, List.map_toArray, List.map_cons, List.map_nil, hs, hx, hrun]
  exact h A' c' w' h2 h3 h4

theorem wpList_append_arr {α : Type} (W : World) {ops : Array Oper} {rest : List Oper} {o : Oper} {a : Act} {Q : Exit → Act → World → Prop} (E : Elt P t e size bytes) (hgd : o.guard = none) (s x : Operand)
    (ho : o.op = .call { callee := .builtin .append, args := #[s, x], argTypes := #[t, t] })
    (base : Nat) (v : Value) (n N : Nat) (xs : List Value) (hs : a.eval s = v) (hown : W.ownsRow base e size v n xs)
    (enc : α → List Value) (hk : ∀ x, (enc x).length = size) (h1 : ∀ x, ∀ u ∈ enc x, u.oneCell' = true) (B : Nat) (A : Option Addr) (L : List α) (m c : Nat) (hx : a.eval x = .slice A m c) (hm : m = L.length) (hr : Arr W B size enc A L) (hN : n + m = N) (hnm : N ≤ 1000000) (hbase : base ≤ W.heap.size)
    (h : ∀ A' c' w', w'.ownsRow base e size (.slice A' N c') N (xs ++ L.flatMap enc) → W.grownBy w' v.ownBlock → (∀ q, (Value.slice A' N c').ownBlock = some q → v.ownBlock = some q ∨ W.heap.size ≤ q) → wpList P ops Q rest (a.put o.dst (.slice A' N c')) w') : wpList P ops Q (o :: rest) a W :=
  wpList_plain hgd fun _ hK => wp_append_arr W E s x ho base v n N xs hs hown enc hk h1 B A L m c hx hm hr hN hnm hbase fun A' c' w' h2 h3 h4 => hK _ _ (h A' c' w' h2 h3 h4)

theorem step_append_arr {α : Type} (W : World) {ops : Array Oper} {o : Oper} {a : Act} {K : Act → World → Prop} {Q : Exit → Act → World → Prop} {X : Prop} (E : Elt P t e size bytes) (hgd : o.guard = none) (s x : Operand)
    (ho : o.op = .call { callee := .builtin .append, args := #[s, x], argTypes := #[t, t] })
    (base : Nat) (v : Value) (n N : Nat) (xs : List Value) (hs : a.eval s = v) (hown : W.ownsRow base e size v n xs)
    (enc : α → List Value) (hk : ∀ x, (enc x).length = size) (h1 : ∀ x, ∀ u ∈ enc x, u.oneCell' = true) (B : Nat) (A : Option Addr) (L : List α) (m c : Nat) (hx : a.eval x = .slice A m c) (hm : m = L.length) (hr : Arr W B size enc A L) (hN : n + m = N) (hnm : N ≤ 1000000) (hbase : base ≤ W.heap.size)
    (h : ∀ A' c' w', w'.ownsRow base e size (.slice A' N c') N (xs ++ L.flatMap enc) → W.grownBy w' v.ownBlock → (∀ q, (Value.slice A' N c').ownBlock = some q → v.ownBlock = some q ∨ W.heap.size ≤ q) → K (a.put o.dst (.slice A' N c')) w') :
    if Region.wanted o (yielded ops a.tmps) = true then Oper.wp P o a W K Q else X := by
  have hw : Region.wanted o (yielded ops a.tmps) = true := by simp [Region.wanted, hgd]
  rw [if_pos hw]
  exact wp_append_arr W E s x ho base v n N xs hs hown enc hk h1 B A L m c hx hm hr hN hnm hbase h
end

theorem Arr.lit1 {w : World} {B b off : Nat} {L : List Int} (h : Arr w B 1 encI (some ⟨b, off, none⟩) L) {i : Nat} (hi : i < L.length) : ∃ x, L[i]? = some x ∧ w.cell? ⟨b, off + i, none⟩ = some (.int .i64 x) ∧ b < B := by
  obtain ⟨b', off', x, e, hb, h1, h2⟩ := h.at1 hi
  injection e with e
  injection e with e1 e2
  subst e1 e2
  exact ⟨x, h1, h2, hb⟩
theorem Arr.lit2 {w : World} {B b off : Nat} {L : List (Int × Int)} (h : Arr w B 2 encP (some ⟨b, off, none⟩) L) {i : Nat} (hi : i < L.length) :
    ∃ x y, L[i]? = some (x, y) ∧ w.cell? ⟨b, off + i * 2, none⟩ = some (.int .i64 x) ∧ w.cell? ⟨b, off + i * 2 + 1, none⟩ = some (.int .i64 y) ∧ b < B := by
  obtain ⟨b', off', x, y, e, hb, h1, h2, h3⟩ := h.at2 hi
  injection e with e
  injection e with e1 e2
  subst e1 e2
  exact ⟨x, y, h1, h2, h3, hb⟩

/-! ## Writing into a row of the call's own -/
theorem flat_set {α : Type} {k : Nat} {enc : α → List Value} (hk : ∀ x, (enc x).length = k) : ∀ {L : List α} {i j : Nat} {y y' : α} {v : Value}, L[i]? = some y → j < k → enc y' = (enc y).set j v → (L.flatMap enc).set (i * k + j) v = (L.set i y').flatMap enc
  | [], i, j, y, y', v, h, _, _ => by simp at h
  | x :: L, 0, j, y, y', v, h, hj, he => by
    simp at h
    subst h
    rw [List.flatMap_cons, List.set_cons_zero, List.flatMap_cons, he, Nat.zero_mul, Nat.zero_add, List.set_append_left _ _ (by rw [hk]; exact hj)]
  | x :: L, i + 1, j, y, y', v, h, hj, he => by
    rw [List.flatMap_cons, List.set_cons_succ, List.flatMap_cons, List.set_append_right _ _ (by rw [hk, Nat.add_mul]; omega), hk, show (i + 1) * k + j - k = i * k + j from by rw [Nat.add_mul]; omega,
      flat_set hk (show L[i]? = some y by simpa using h) hj he]

section
variable {α : Type} {w w' : World} {base B k : Nat} {enc : α → List Value} {A : Option Addr} {L : List α}
/-- An element of an owned list: its block, its cells, that they may be written. -/
theorem OwnA.at_ {i : Nat} {x : α} (h : OwnA w base k enc A L) (hx : L[i]? = some x) :
    ∃ g off, A = some ⟨g, off, none⟩ ∧ base ≤ g ∧ g < w.heap.size ∧ (∀ j v, (enc x)[j]? = some v → w.cell? ⟨g, off + i * k + j, none⟩ = some v) ∧ ∀ o, w.frozen? ⟨g, o, none⟩ = false := by
  have hl : 0 < L.length := by
    have := (List.getElem?_eq_some_iff.1 hx).1
    omega
  obtain ⟨g, off, cur, t, e, hb, hg, hc⟩ := h hl
  exact ⟨g, off, e, hb, (Array.getElem?_eq_some_iff.1 hg).1, fun j v hv => by rw [cell_of_row w g _ _ _ _ hg]; exact hc i x hx j v hv, fun o => frozen_of_row w g o _ _ hg⟩
/-- One cell of it written. -/
theorem OwnA.set_ (hk : ∀ x, (enc x).length = k) {g off i j : Nat} {y y' : α} {v : Value} (h : OwnA w base k enc (some ⟨g, off, none⟩) L) (hy : L[i]? = some y) (hj : j < k) (he : enc y' = (enc y).set j v) :
    OwnA (w.setCell ⟨g, off + i * k + j, none⟩ v) base k enc (some ⟨g, off, none⟩) (L.set i y') := fun hn => by
  obtain ⟨g', off', cur, t, e, hb, hg, hc⟩ := h (by simpa using hn)
  injection e with e
  injection e with e1 e2
  subst e1 e2
  have hi : i < L.length := (List.getElem?_eq_some_iff.1 hy).1
  refine ⟨g, off, cur.setIfInBounds (off + i * k + j) v, t, rfl, hb, heap_setCell_same w g _ cur t v hg, fun q x hx r u hu => ?_⟩
  have hr : r < k := by have := (List.getElem?_eq_some_iff.1 hu).1; rw [hk] at this; exact this
  rw [Array.getElem?_setIfInBounds]
  by_cases hqi : i = q
  · subst hqi
    rw [List.getElem?_set_self hi] at hx
    injection hx with hx
    subst hx
    rw [he] at hu
    by_cases hjr : j = r
    · subst hjr
      have hjy : j < (enc y).length := by rw [hk]; exact hj
      rw [List.getElem?_set_self hjy] at hu
      have hsz : off + i * k + j < cur.size := by
        have := hc i y hy j _ (List.getElem?_eq_getElem hjy)
        exact (Array.getElem?_eq_some_iff.1 this).1
      rw [if_pos rfl, if_pos hsz]
      exact hu
    · rw [List.getElem?_set_ne hjr] at hu
      rw [if_neg (by omega)]
      exact hc i y hy r u hu
  · rw [List.getElem?_set_ne hqi] at hx
    have hne : ¬ off + i * k + j = off + q * k + r := by
      rcases Nat.lt_or_gt_of_ne hqi with hlt | hgt
      · have := Nat.mul_le_mul_right k hlt
        rw [Nat.succ_mul] at this
        omega
      · have := Nat.mul_le_mul_right k hgt
        rw [Nat.succ_mul] at this
        omega
    rw [if_neg hne]
    exact hc q x hx r u hu
/-- Writes into another block, and new blocks. -/
theorem OwnA.apart {row : Option Nat} (h : OwnA w base k enc A L) (hg : w.grownBy w' row) (hr : ∀ g, row = some g → g < base ∨ w.heap.size ≤ g) : OwnA w' base k enc A L := fun hn => by
  obtain ⟨g, off, cur, t, e, hb, hgg, hc⟩ := h hn
  have hlt := (Array.getElem?_eq_some_iff.1 hgg).1
  exact ⟨g, off, cur, t, e, hb, (hg.block g hlt (fun e => by have := hr g e.symm; omega)).trans hgg, hc⟩
theorem OwnA.lt (h : OwnA w base k enc A L) (hn : 0 < L.length) : ∀ a, A = some a → a.block < w.heap.size := by
  intro a ha
  obtain ⟨g, off, cur, t, e, hb, hgg, hc⟩ := h hn
  rw [ha] at e
  injection e with e
  rw [e]
  exact (Array.getElem?_eq_some_iff.1 hgg).1
/-- The same, where the list is known to lie below block 'hi': writes below base and from hi on aren't seen. -/
theorem OwnA.far {row : Option Nat} {hi : Nat} (h : OwnA w base k enc A L) (hlt : 0 < L.length → ∀ a, A = some a → a.block < hi) (hg : w.grownBy w' row) (hr : ∀ g, row = some g → g < base ∨ hi ≤ g) : OwnA w' base k enc A L := fun hn => by
  obtain ⟨g, off, cur, t, e, hb, hgg, hc⟩ := h hn
  have h2 := hlt hn _ e
  have h3 := (Array.getElem?_eq_some_iff.1 hgg).1
  exact ⟨g, off, cur, t, e, hb, (hg.block g h3 (fun e => by have := hr g e.symm; simp at h2; omega)).trans hgg, hc⟩
theorem Arr.grown {row : Option Nat} (h : Arr w B k enc A L) (hg : w.grownBy w' row) (hB : B ≤ w.heap.size) (hr : ∀ g, row = some g → B ≤ g) : Arr w' B k enc A L :=
  h.keep fun p hp => World.cell?_of_block (hg.block p.block (by omega) (fun e => by have := hr _ e.symm; omega))
theorem grown_set {g : Nat} (h : w.grownBy w' (some g)) (o : Nat) (u : Value) : w.grownBy (w'.setCell ⟨g, o, none⟩ u) (some g) :=
  ⟨h.os, h.tape, h.output, by simpa [World.setCell] using h.size, fun i hi hne => (Below.heap_setCell w' _ u i (fun e => hne (by rw [e]))).trans (h.block i hi hne)⟩
end

theorem chain {w a b : World} (h : Below w.heap.size w a) (k : Below a.heap.size a b) : Below w.heap.size w b := h.trans (k.mono h.size)
theorem below_undrew {B : Nat} {w w' : World} (h : Below B w.drew w') : Below B w w' := ⟨h.os, h.tape, h.output, h.size, h.block⟩
theorem Below_drewN {B : Nat} {w w' : World} (h : Below B w w') (n : Nat) : Below B w (w'.drewN n) := ⟨h.os, h.tape, h.output, h.size, h.block⟩
theorem below_al {B : Nat} {w a : World} (h : Below B w a) (hB : B = w.heap.size) (o : Obj) : Below B w (a.alloc o) := h.alloc (by rw [hB]; exact h.size) o

theorem made_flat {α : Type} {k n : Nat} {enc : α → List Value} (hk : ∀ x, (enc x).length = k) (k0 : 0 < k) {z : Array Value} {y : α} (hy : enc y = z.toList) : (madeCells z (n * k)).toList = (List.replicate n y).flatMap enc := by
  have hz : z.size = k := by have := hk y; rw [hy] at this; simpa using this
  apply List.ext_getElem?
  intro m
  by_cases hm : m < n * k
  · have hi : m / k < n := (Nat.div_lt_iff_lt_mul k0).2 hm
    have hr : m % k < k := Nat.mod_lt _ k0
    have e : m / k * k + m % k = m := by rw [Nat.mul_comm]; exact Nat.div_add_mod _ _
    have hx : (List.replicate n y)[m / k]? = some y := by rw [List.getElem?_replicate, if_pos hi]
    have hv : (enc y)[m % k]? = some (z[m % k]!) := by
      rw [hy]
      simp [hz, hr]
    have h1 := flat_get hk hx hv
    rw [e] at h1
    rw [h1]
    simp [madeCells, hm, hz]
  · rw [List.getElem?_eq_none (by simp [madeCells]; omega), List.getElem?_eq_none (by rw [flat_len hk]; simp; omega)]

theorem wpList_makeE {α : Type} {P : Program} {t e : TypeId} {size bytes : Nat} (W : World) {ops : Array Oper} {rest : List Oper} {o : Oper} {a : Act} {Q : Exit → Act → World → Prop} (E : Elt P t e size bytes) (z : Value) (hz : (P.info? e).map (·.zero) = some (some z))
    (enc : α → List Value) (hk : ∀ x, (enc x).length = size) (y : α) (hy : enc y = z.cells.toList) (hg : o.guard = none) (l c : Operand) (hop : o.op = Op.makeSlice t l c)
    (n : Nat) (hl : a.eval l = .int .i64 (n : Int)) (hc : a.eval c = .int .i64 (n : Int)) (hn : n ≤ 10000000)
    (hK : ∀ w', OwnA w' W.heap.size size enc (some ⟨W.heap.size, 0, none⟩) (List.replicate n y) → W.grownBy w' none → w'.heap.size = W.heap.size + 1 → wpList P ops Q rest (a.put o.dst (.slice (some ⟨W.heap.size, 0, none⟩) n n)) w') :
    wpList P ops Q (o :: rest) a W := by
  obtain ⟨i, z', ht, hi, hz', hsize, hby, hzs, hsz, hbb⟩ := E.ex
  have : z' = z := by rw [hi] at hz; simp [hz'] at hz; exact hz
  subst this
  refine wpList_plain hg fun K hK' => ?_
  have hbytes : (i.bytes : Int) * (n : Int) ≤ 281474976710656 := by
    have h : i.bytes * n ≤ 281474976710656 := by rw [hby]; exact Nat.le_trans (Nat.mul_le_mul_right _ hbb) (by omega)
    have h2 : ((i.bytes * n : Nat) : Int) ≤ 281474976710656 := by omega
    rwa [Int.natCast_mul] at h2
  have hrun := run_make (P := P) W t e i z' ht hi hz' .i64 .i64 n n (by omega) (by omega) hbytes (by omega)
  simp only [Int.toNat_natCast] at hrun
  unfold Oper.wp execOp
  simp only [hop, Sem.run_bind, hl, hc, hrun, Result.andThen_ok, Sem.run_pure]
  refine hK' _ _ (hK _ ?_ (World.grownBy_alloc W _ _) (by simp))
  rw [hsize]
  have ho := World.ownsRow_lit (e := e) (size := size) (base := W.heap.size) W (madeCells z'.cells (n * size)) n (Nat.le_refl _) (by simp only [maxLen]; omega) (size_madeCells _ _)
  exact OwnA.of_rowN hk (by simp) (made_flat hk hsz hy) ho

theorem wpList_make0 {P : Program} {t e : TypeId} {size bytes : Nat} (W : World) {ops : Array Oper} {rest : List Oper} {o : Oper} {a : Act} {Q : Exit → Act → World → Prop} (E : Elt P t e size bytes) (hg : o.guard = none) (l c : Operand) (hop : o.op = Op.makeSlice t l c)
    (n : Nat) (hl : a.eval l = .int .i64 0) (hc : a.eval c = .int .i64 (n : Int)) (hn : n ≤ 10000000)
    (hK : ∀ w', w'.ownsRow W.heap.size e size (.slice (some ⟨W.heap.size, 0, none⟩) 0 n) 0 [] → Below W.heap.size W w' → wpList P ops Q rest (a.put o.dst (.slice (some ⟨W.heap.size, 0, none⟩) 0 n)) w') :
    wpList P ops Q (o :: rest) a W := by
  obtain ⟨i, z, ht, hi, hz, hsize, hby, hzs, hsz, hbb⟩ := E.ex
  refine wpList_make_own W hg l c t hop W.heap.size e i z size ht hi hz hsize .i64 .i64 n n hl hc rfl ?_ (by simp only [maxLen]; omega) (Nat.le_refl _) ?_
  · rw [hby]; exact Nat.le_trans (Nat.mul_le_mul_right _ hbb) (by omega)
  · intro w' ho hg'
    exact hK w' ho ((Below.refl _ _).grown hg' (Nat.le_refl _) (by simp))

/-- What leaves a list in new memory. -/
def Gives {α : Type} (k : Nat) (enc : α → List Value) (L : List α) (w : World) (e : Ending) (w' : World) : Prop :=
  ∃ A c, e = .returned (.slice A L.length c) ∧ L.length ≤ c ∧ c ≤ maxLen ∧ OwnA w' w.heap.size k enc A L ∧ Below w.heap.size w w'

theorem flat_encI (C : List Int) : C.flatMap encI = C.map (Value.int .i64) := by
  induction C with
  | nil => rfl
  | cons x C ih => rw [List.flatMap_cons, ih]; rfl
theorem oneI (x : Int) : ∀ u ∈ encI x, u.oneCell' = true := by
  intro u hu
  simp [encI] at hu
  subst hu
  rfl
theorem oc1 (x : Int) : ∀ u ∈ (#[Value.int .i64 x]).toList, u.oneCell' = true := by
  intro u hu
  simp at hu
  subst hu
  rfl

/-- What a law leaves: true; nothing that lay has turned. -/
def Yes (w : World) (e : Ending) (w' : World) : Prop := e = .returned (.bool true) ∧ Below w.heap.size w w'

/-! ## Tests -/
/-- 'low ≤ n and n ≤ high', shut: the walk doesn't open it. -/
def inR (n low high : Int) : Bool := decide (low ≤ n ∧ n ≤ high)
theorem inR_iff {n l h : Int} : inR n l h = true ↔ l ≤ n ∧ n ≤ h := by simp [inR]
theorem inR_false {n l h : Int} : inR n l h = false ↔ ¬ (l ≤ n ∧ n ≤ h) := by simp [inR]
end Go.Proofs.YtimpieddkkkgfaaDoor
