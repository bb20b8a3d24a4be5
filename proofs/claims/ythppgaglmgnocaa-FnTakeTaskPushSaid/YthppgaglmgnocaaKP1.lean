/- slices.Insert of one task into a row of the call's own: laws of no program. -/
import Derived.Test.YthppgaglmgnocaaK6
import Derived.Lib.Overlaps
import Derived.Lib.AppendZerosOnto
import Derived.Laws.CopyOwn
import Derived.Laws.Externs
import Derived.Shelf.RegionOpenPlain
import Derived.IntWalk
namespace Go.Proofs.Ythppgaglmgnocaa
set_option linter.unusedVariables false
set_option linter.unusedSimpArgs false
open Go.RowKit Go.Lib

section
variable {P : Program}
/-- copy, of elements of k cells each, into a row that is known whole. -/
theorem run_copy_rowK (k : Nat) (w : World) (dT sT ty elem : TypeId) (g o dLen dCap : Nat) (a : Addr) (sLen sCap : Nat) (cur : Array Value) (t : TypeId) (cs : List Value) (n : Nat)
    (hu : P.underlying dT = some (.slice elem)) (hs : (P.info? elem).map (·.size) = some k)
    (hg : w.heap[g]? = some (.cells cur t (0, 0))) (hn : Nat.min sLen dLen = n) (hcs : cs.length = n * k)
    (hsrc : ∀ j v, cs[j]? = some v → w.cell? (a.add j) = some v) (hfit : o + cs.length ≤ cur.size) (h1 : ∀ v ∈ cs, v.oneCell' = true) :
    (Builtin.copy_ #[dT, sT] ty #[.slice (some ⟨g, o, none⟩) dLen dCap, .slice (some a) sLen sCap]).run P w =
      .ok (goInt n) (w.setRow g (cur.toList.take o ++ cs ++ cur.toList.drop (o + cs.length)).toArray) := by
  have hl := run_loadCells_list (P := P) w a cs hsrc
  have hst := run_storeCells_at P g o t cs 0 cur w hg (by simpa using hfit) h1
  cases hq : P.info? elem with
  | none => simp [hq] at hs
  | some i =>
    have hi : i.size = k := by simpa [hq] using hs
    rw [hcs] at hl
    simp [Builtin.copy_, run_underlying hu, Builtin.lenOf, Builtin.firstCells, sizeOf, typeInfo, hq, hi, hn, hl, hst]
theorem wp_copy_runK (w : World) {o : Oper} {a : Act} {K : Act → World → Prop} {Q : Exit → Act → World → Prop} (d s : Operand) (t t' : TypeId)
    (ho : o.op = .call { callee := .builtin .copy, args := #[d, s], argTypes := #[t, t'] }) (v u : Value) (hd : a.eval d = v) (hs : a.eval s = u) {v' : Value} {w' : World}
    (hr : (Builtin.copy_ #[t, t'] o.type #[v, u]).run P w = .ok v' w') (h : K (a.put o.dst v') w') : o.wp P a w K Q := by
  unfold Oper.wp execOp
  simp only [ho, resolve, invoke, builtin, Sem.run_bind, Sem.run_pure, Result.andThen_ok, List.map_toArray, List.map_cons, List.map_nil, hd, hs, hr]
  exact h
theorem wpList_copy_runK (w : World) {ops : Array Oper} {rest : List Oper} {o : Oper} {a : Act} {Q : Exit → Act → World → Prop} (hgd : o.guard = none) (d s : Operand) (t t' : TypeId)
    (ho : o.op = .call { callee := .builtin .copy, args := #[d, s], argTypes := #[t, t'] }) (v u : Value) (hd : a.eval d = v) (hs : a.eval s = u) {v' : Value} {w' : World}
    (hr : (Builtin.copy_ #[t, t'] o.type #[v, u]).run P w = .ok v' w') (h : wpList P ops Q rest (a.put o.dst v') w') : wpList P ops Q (o :: rest) a w :=
  wpList_plain hgd fun _ hK => wp_copy_runK w d s t t' ho v u hd hs hr (hK _ _ h)
theorem step_copy_runK {ops : Array Oper} {o : Oper} {a : Act} {w : World} {K : Act → World → Prop} {Q : Exit → Act → World → Prop} {E : Prop}
    (hg : o.guard = none) (d x : Operand) (dT sT : TypeId) (hop : o.op = Op.call { callee := Callee.builtin Builtin.copy, args := #[d, x], argTypes := #[dT, sT] })
    (v u : Value) (hd : a.eval d = v) (hx : a.eval x = u) {v' : Value} {w' : World} (hr : (Builtin.copy_ #[dT, sT] o.type #[v, u]).run P w = .ok v' w') (hK : K (a.put o.dst v') w') :
    if Region.wanted o (yielded ops a.tmps) = true then Oper.wp P o a w K Q else E := by
  have hw : Region.wanted o (yielded ops a.tmps) = true := by simp [Region.wanted, hg]
  rw [if_pos hw]
  unfold Oper.wp
  simp [execOp, hop, resolve, invoke, builtin, hd, hx, hr, Result.andThen]
  exact hK
end

/-! ## What the copies leave -/
theorem ins_room {α : Type} (C a b x : List α) (hC : C.take (a.length + b.length) = a ++ b) (hl : a.length + x.length + b.length ≤ C.length) :
    ((C.take (a.length + x.length) ++ b ++ C.drop (a.length + x.length + b.length)).take a.length ++ x ++ (C.take (a.length + x.length) ++ b ++ C.drop (a.length + x.length + b.length)).drop (a.length + x.length)).take (a.length + x.length + b.length) = a ++ x ++ b := by
  have e1 : C.take a.length = a := by
    have := congrArg (List.take a.length) hC
    rw [List.take_take, List.take_left, Nat.min_eq_left (by omega)] at this
    exact this
  have l1 : (C.take (a.length + x.length)).length = a.length + x.length := by rw [List.length_take]; omega
  have e2 : (C.take (a.length + x.length) ++ b ++ C.drop (a.length + x.length + b.length)).take a.length = a := by
    rw [List.append_assoc, List.take_append_of_le_length (by omega), List.take_take, Nat.min_eq_left (by omega), e1]
  have e3 : (C.take (a.length + x.length) ++ b ++ C.drop (a.length + x.length + b.length)).drop (a.length + x.length) = b ++ C.drop (a.length + x.length + b.length) := by
    rw [List.append_assoc, List.drop_append_of_le_length (by omega), List.drop_of_length_le (by omega), List.nil_append]
  rw [e2, e3, ← List.append_assoc, List.take_append_of_le_length (by simp; omega), List.take_of_length_le (by simp; omega)]
theorem ins_new {α : Type} (R a b x : List α) (hR : R.take a.length = a) (hl : a.length + x.length + b.length ≤ R.length) :
    ((R.take a.length ++ x ++ R.drop (a.length + x.length)).take (a.length + x.length) ++ b ++ (R.take a.length ++ x ++ R.drop (a.length + x.length)).drop (a.length + x.length + b.length)).take (a.length + x.length + b.length) = a ++ x ++ b := by
  rw [hR]
  have e2 : (a ++ x ++ R.drop (a.length + x.length)).take (a.length + x.length) = a ++ x := by
    rw [List.take_append_of_le_length (by simp), List.take_of_length_le (by simp)]
  rw [e2, List.take_append_of_le_length (by simp; omega), List.take_of_length_le (by simp; omega)]
theorem ownA_row {w : World} {g base : Nat} {cur : Array Value} {e : TypeId} {L : List TaskD} (hg : w.heap[g]? = some (.cells cur e (0, 0))) (hb : base ≤ g) (ht : cur.toList.take (L.length * 3) = L.flatMap encTask) : OwnA w base 3 encTask (some ⟨g, 0, none⟩) L := fun hn =>
  ⟨g, 0, cur, e, rfl, hb, hg, fun i x hx j v hv => by
    have := flat_get (enc := encTask) (k := 3) (fun _ => rfl) hx hv
    rw [← ht, List.getElem?_take] at this
    split at this
    · rw [Nat.zero_add]; simpa using this
    · cases this⟩
/-- A task put at a place. -/
def insT (L : List TaskD) (j : Nat) (x : TaskD) : List TaskD := L.take j ++ [x] ++ L.drop j
theorem insT_len {L : List TaskD} {j : Nat} {x : TaskD} (hj : j ≤ L.length) : (insT L j x).length = L.length + 1 := by
  unfold insT
  simp
  omega
theorem insT_flat (L : List TaskD) (j : Nat) (x : TaskD) : (insT L j x).flatMap encTask = (L.take j).flatMap encTask ++ encTask x ++ (L.drop j).flatMap encTask := by
  unfold insT
  rw [List.flatMap_append, List.flatMap_append]
  simp
/-- What Insert leaves. -/
def Inserted (base : Nat) (L : List TaskD) (w : World) (e : Ending) (w' : World) : Prop :=
  ∃ A' n' c', e = .returned (.slice A' n' c') ∧ n' = L.length ∧ n' ≤ c' ∧ c' ≤ maxLen ∧ OwnA w' base 3 encTask A' L ∧ Below base w w'
end Go.Proofs.Ythppgaglmgnocaa
