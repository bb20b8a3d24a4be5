/- impl.share: the walk. -/
import Derived.Test.YtjebjcabggmaiaaS3
namespace Go.Proofs.Ytjebjcabggmaiaa
set_option linter.unusedVariables false
set_option linter.unusedSimpArgs false
open Go.RowKit Go.Lib

theorem eltIntS : Elt Try.prog 24 3 1 8 := Elt.mk' Try.underlying24 (z := .int .i64 0) (by kernel_rfl) rfl (by omega) (by omega)

set_option maxHeartbeats 1000000 in
theorem stable_any (r : Nat → Int) (A : Option Addr) (m c base : Nat) (lb : Array Value) (w : World) (hm : 0 < m) (hm8 : m ≤ 8) (hbase : base ≤ w.heap.size) (h : OwnA w base 1 encNat A (List.range m)) (hc : CmpOk r m base lb w) :
    Calls Try.prog 45 #[.slice A m c, .int .i64 (m : Int), .func (.func 42) #[] lb] w fun e w' => e = .returned (.tuple #[]) ∧ OwnA w' base 1 encNat A (ordOf r m) ∧ Below base w w' := by
  have HC := hid (insertion_any r A m c base lb w hm (by omega) hbase h hc)
  clear h hc
  go_enter Try.func45, Try.ntmps45
  go_wp2
  go_loopg [7, 8] 0 (fun gg s7 s8 wr => s7 = .int .i64 0 ∧ s8 = .int .i64 20 ∧ Aside (wr = w))
  case atStart => exact ⟨rfl, rfl, rfl⟩
  case round =>
    obtain ⟨rfl, rfl, W⟩ := hrel
    obtain rfl := W.out
    go_wp2_with fail
    refine HC.out.mono ?_
    rintro e w1 ⟨rfl, o1, b1⟩
    have O1 := hid o1
    have B1 := hid b1
    clear o1 b1
    go_wp2
    go_loopg [6, 7, 8, 9] 0 (fun gg s6 _ _ _ wr => s6 = .int .i64 20 ∧ Aside (wr = w1))
    case atStart => exact ⟨rfl, rfl⟩
    case round =>
      obtain ⟨rfl, W1⟩ := hrel
      obtain rfl := W1.out
      go_wp2
      go_end0
      exact ⟨rfl, O1.out, B1.out⟩
set_option maxHeartbeats 1000000 in
theorem sortStable_any (r : Nat → Int) (A : Option Addr) (m c base : Nat) (lb : Array Value) (w : World) (hm : 0 < m) (hm8 : m ≤ 8) (hbase : base ≤ w.heap.size) (h : OwnA w base 1 encNat A (List.range m)) (hc : CmpOk r m base lb w) :
    Calls Try.prog 41 #[.slice A m c, .func (.func 42) #[] lb] w fun e w' => e = .returned (.tuple #[]) ∧ OwnA w' base 1 encNat A (ordOf r m) ∧ Below base w w' := by
  have HC := hid (stable_any r A m c base lb w hm hm8 hbase h hc)
  clear h hc
  go_enter Try.func41, Try.ntmps41
  go_wp2_with fail
  refine HC.out.mono ?_
  rintro e w1 ⟨rfl, o1, b1⟩
  have O1 := hid o1
  have B1 := hid b1
  clear o1 b1
  go_wp2
  go_end0
  exact ⟨rfl, O1.out, B1.out⟩

/-- The boxes of share, and its result. -/
def ShRel (w : World) (A : Option Addr) (n c : Nat) (sp S : Int) (b6 : Nat) (out : List Int) (wr : World) : Prop :=
  b6 = w.heap.size + 3 ∧ wr.heap[w.heap.size]? = some (.cells #[.int .i64 sp] 3 (0, 0)) ∧ wr.heap[w.heap.size + 1]? = some (.cells #[.slice A n c] 24 (0, 0)) ∧ wr.heap[b6]? = some (.cells #[.int .i64 S] 3 (0, 0)) ∧
    OwnA wr w.heap.size 1 encI (some ⟨w.heap.size + 1 + 1, 0, none⟩) out ∧ b6 < wr.heap.size ∧ Below w.heap.size w wr
section
variable {w wr w' : World} {A : Option Addr} {n c b6 : Nat} {sp S : Int} {out : List Int}
theorem ShRel.grown {row : Option Nat} (h : ShRel w A n c sp S b6 out wr) (hg : wr.grownBy w' row) (hr : ∀ g, row = some g → b6 + 1 ≤ g) : ShRel w A n c sp S b6 out w' := by
  obtain ⟨h0, h1, h2, h3, h4, h5, h6⟩ := h
  refine ⟨h0, (hg.block _ (by omega) (fun e => by have := hr _ e.symm; omega)).trans h1, (hg.block _ (by omega) (fun e => by have := hr _ e.symm; omega)).trans h2, (hg.block _ (by omega) (fun e => by have := hr _ e.symm; omega)).trans h3,
    h4.far (hi := w.heap.size + 3) (fun _ a e => by injection e with e; subst e; show w.heap.size + 1 + 1 < _; omega) hg (fun g e => .inr (by have := hr _ e; omega)), Nat.lt_of_lt_of_le h5 hg.size, h6.grown hg h6.size (fun g e => by have := hr _ e; omega)⟩
theorem ShRel.below (h : ShRel w A n c sp S b6 out wr) (hb : Below (b6 + 1) wr w') : ShRel w A n c sp S b6 out w' := by
  obtain ⟨h0, h1, h2, h3, h4, h5, h6⟩ := h
  refine ⟨h0, (hb.block _ (by omega)).trans h1, (hb.block _ (by omega)).trans h2, (hb.block _ (by omega)).trans h3, fun hn => ?_, Nat.lt_of_lt_of_le h5 hb.size, h6.trans (hb.mono (by omega))⟩
  obtain ⟨g, off, cur, t, e, hbb, hgg, hcc⟩ := h4 hn
  injection e with e
  injection e with e1 e2
  subst e1 e2
  exact ⟨_, _, cur, t, rfl, hbb, (hb.block _ (by omega)).trans hgg, hcc⟩
theorem ShRel.drewN (h : ShRel w A n c sp S b6 out wr) (k : Nat) : ShRel w A n c sp S b6 out (wr.drewN k) := by
  obtain ⟨h0, h1, h2, h3, h4, h5, h6⟩ := h
  exact ⟨h0, h1, h2, h3, h4, h5, Below_drewN h6 k⟩
theorem ShRel.alloc (h : ShRel w A n c sp S b6 out wr) (o : Obj) : ShRel w A n c sp S b6 out (wr.alloc o) := h.grown (World.grownBy_alloc wr o none) (fun g e => by cases e)
theorem ShRel.set {i : Nat} {x y : Int} (h : ShRel w A n c sp S b6 out wr) (hy : out[i]? = some y) : ShRel w A n c sp S b6 (out.set i x) (wr.setCell ⟨w.heap.size + 1 + 1, i, none⟩ (.int .i64 x)) := by
  obtain ⟨h0, h1, h2, h3, h4, h5, h6⟩ := h
  have hg := grown_set (World.grownBy.refl wr (some (w.heap.size + 1 + 1))) i (.int .i64 x)
  have hs := h4.set_ (k := 1) (fun _ => rfl) (j := 0) (y' := x) (v := .int .i64 x) hy (by omega) rfl
  refine ⟨h0, (hg.block _ (by omega) (fun e => by injection e with e; omega)).trans h1, (hg.block _ (by omega) (fun e => by injection e with e; omega)).trans h2, (hg.block _ (by omega) (fun e => by injection e with e; omega)).trans h3, by simpa using hs, Nat.lt_of_lt_of_le h5 hg.size, h6.setCell (p := ⟨w.heap.size + 1 + 1, i, none⟩) (by show w.heap.size ≤ w.heap.size + 1 + 1; omega) _⟩
theorem ShRel.cells (h : ShRel w A n c sp S b6 out wr) : wr.cell? ⟨w.heap.size, 0, none⟩ = some (.int .i64 sp) ∧ wr.cell? ⟨w.heap.size + 1, 0, none⟩ = some (.slice A n c) ∧ wr.cell? ⟨b6, 0, none⟩ = some (.int .i64 S) := by
  obtain ⟨h0, h1, h2, h3, h4, h5, h6⟩ := h
  refine ⟨?_, ?_, ?_⟩
  · rw [cell_of_row _ _ _ _ _ _ h1]; rfl
  · rw [cell_of_row _ _ _ _ _ _ h2]; rfl
  · rw [cell_of_row _ _ _ _ _ _ h3]; rfl
theorem ShRel.at_ {i : Nat} {y : Int} (h : ShRel w A n c sp S b6 out wr) (hy : out[i]? = some y) : wr.cell? ⟨w.heap.size + 1 + 1, i, none⟩ = some (.int .i64 y) ∧ ∀ o, wr.frozen? ⟨w.heap.size + 1 + 1, o, none⟩ = false := by
  obtain ⟨g, off, e, _, _, hc, hf⟩ := h.2.2.2.2.1.at_ hy
  injection e with e
  injection e with e1 e2
  subst e1 e2
  exact ⟨by simpa using hc 0 _ rfl, hf⟩
theorem ShRel.gives (h : ShRel w A n c sp S b6 out wr) (hn : n = out.length) (h8 : n ≤ 1000) : Gives 1 encI out w (.returned (.slice (some ⟨w.heap.size + 1 + 1, 0, none⟩) n n)) wr := by
  subst hn
  exact ⟨_, _, rfl, Nat.le_refl _, by simp only [maxLen]; omega, h.2.2.2.2.1, h.2.2.2.2.2.2⟩
end

theorem bases_next {sp : Int} {ws : List Int} {i n : Nat} (hi : i < ws.length) (hn : n = ws.length) : ((bases sp ws).take i ++ List.replicate (n - i) 0).set i (baseAt sp ws i) = (bases sp ws).take (i + 1) ++ List.replicate (n - (i + 1)) 0 := by
  have hb := bases_at (sp := sp) hi
  obtain ⟨h1, h2⟩ := List.getElem?_eq_some_iff.1 hb
  rw [List.set_append_right _ _ (by rw [List.length_take]; omega), List.length_take, bases_len, show i - min i ws.length = 0 by omega, show n - i = (n - (i + 1)) + 1 by omega, List.replicate_succ, List.set_cons_zero, List.take_succ_eq_append_getElem h1, h2, List.append_assoc]
  rfl
theorem bases_zero {sp : Int} {ws : List Int} {i n : Nat} (hi : i < ws.length) (hn : n = ws.length) : ((bases sp ws).take i ++ List.replicate (n - i) (0 : Int))[i]? = some 0 := by
  rw [List.getElem?_append_right (by rw [List.length_take]; omega), List.length_take, bases_len, show i - min i ws.length = 0 by omega, List.getElem?_replicate, if_pos (by omega)]
/-- The first loop's relation. -/
def Sh1 (w : World) (A : Option Addr) (c : Nat) (sp : Int) (ws : List Int) (b6 i : Nat) (A7 : Option Addr) (c7 : Nat) (wr : World) : Prop :=
  ShRel w A ws.length c sp ws.sum b6 ((bases sp ws).take i ++ List.replicate (ws.length - i) 0) wr ∧ wr.ownsRow (b6 + 1) 3 1 (.slice A7 i c7) i ((List.range i).flatMap encNat)
/-- The last loop's relation. -/
def Sh2 (w : World) (A : Option Addr) (c : Nat) (sp : Int) (ws : List Int) (b6 k : Nat) (A7 : Option Addr) (wr : World) : Prop :=
  ShRel w A ws.length c sp ws.sum b6 (shareTo sp ws k) wr ∧ OwnA wr (b6 + 1) 1 encNat A7 (orderOf sp ws)
end Go.Proofs.Ytjebjcabggmaiaa
