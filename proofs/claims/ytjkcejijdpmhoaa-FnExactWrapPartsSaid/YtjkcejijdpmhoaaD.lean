/- The generators of parts. -/
import Derived.Test.YtjkcejijdpmhoaaR
namespace Go.Proofs.Ytjkcejijdpmhoaa
open Go.RowKit Go.Lib

theorem Rd.kept {w w' : World} {r : Nat} {A : Option Addr} {cap : Nat} {bs : List Int} {p : Nat} {row : Option Nat} (h : Rd w r A cap bs p) (hg : w.grownBy w' row) (hr : ∀ k, row = some k → r < k) : Rd w' r A cap bs p := by
  have hlt : r < w.heap.size := (Array.getElem?_eq_some_iff.1 h.blk).1
  refine ⟨(hg.block r hlt (fun e => by have := hr r e.symm; omega)).trans h.blk, h.lies.keep fun a ha => ?_, h.byte, h.len⟩
  exact World.cell?_of_block (hg.block a.block (by omega) (fun e => by have := hr _ e.symm; omega))
theorem Rd.alloc {w : World} {r : Nat} {A : Option Addr} {cap : Nat} {bs : List Int} {p : Nat} (h : Rd w r A cap bs p) (o : Obj) : Rd (w.alloc o) r A cap bs p :=
  h.kept (World.grownBy_alloc w o none) (fun k h => by cases h)
theorem Rd.lt {w : World} {r : Nat} {A : Option Addr} {cap : Nat} {bs : List Int} {p : Nat} (h : Rd w r A cap bs p) : r < w.heap.size := (Array.getElem?_eq_some_iff.1 h.blk).1

/-- one, handed a literal list. -/
theorem oneLit (r : Nat) (A : Option Addr) (cap : Nat) (bs : List Int) (p g n : Nat) (xs : List Int) (cs : Array Value) (W : World) (h : Rd W r A cap bs p) (hp : p ≤ 1000000)
    (hg : g = W.heap.size) (hcs : cs = (xs.map (Value.int .i64)).toArray) (hn : n = xs.length) (hn0 : 0 < n) (hn1 : n ≤ 1000) :
    Calls Try.prog 68 #[.pointer (some ⟨r, 0, none⟩), .slice (some ⟨g, 0, none⟩) n n] (W.alloc (.cells cs 3)) (Oned xs W r A cap bs p) := by
  subst hg
  have hlt := h.lt
  refine (one_any r A cap bs p _ n n xs _ (h.alloc _) hp (by omega) (by rw [heap_alloc_new, hcs]) hn hn0 hn1).mono ?_
  rintro e w' ⟨x, rfl, hx, hr⟩
  exact ⟨x, rfl, hx, hr.rd, grown_trans (World.grownBy_alloc W _ _) hr.gr⟩

theorem eltPart : Elt Try.prog 23 38 2 16 := Elt.mk' Try.underlying23 (z := .agg #[.int .i64 0, .int .i64 0]) (by kernel_rfl) rfl (by omega) (by omega)

/-- What a generator leaves: a list in new memory, the reader some places on. -/
def Drawn {α : Type} (k m : Nat) (enc : α → List Value) (w : World) (r : Nat) (A : Option Addr) (cap : Nat) (bs : List Int) (p : Nat) (e : Ending) (w' : World) : Prop :=
  ∃ A' c L p', e = .returned (.slice A' (List.length L) c) ∧ L.length ≤ m ∧ L.length ≤ c ∧ c ≤ maxLen ∧ OwnA w' w.heap.size k enc A' L ∧ Rd w' r A cap bs p' ∧ p' ≤ p + 1000 ∧ w.grownBy w' (some r)

theorem oc2 (x y : Int) : ∀ u ∈ (#[Value.int .i64 x, Value.int .i64 y]).toList, u.oneCell' = true := by
  intro u hu
  simp at hu
  rcases hu with rfl | rfl <;> rfl

/-- The loop's relation. -/
def PartsRel (w : World) (r : Nat) (A : Option Addr) (cap : Nat) (bs : List Int) (p : Nat) (A' : Option Addr) (c : Nat) (L : List (Int × Int)) (n : Nat) (wr : World) : Prop :=
  ∃ p', L.length + n ≤ 13 ∧ wr.ownsRow w.heap.size 38 2 (.slice A' L.length c) L.length (L.flatMap encP) ∧ Rd wr r A cap bs p' ∧ p' ≤ p + 1 + 2 * L.length ∧ w.grownBy wr (some r)

theorem flat_setW : ∀ {L : List (Int × Int)} {i : Nat} {x y z : Int}, L[i]? = some (x, y) → (L.flatMap encP).set (i * 2) (.int .i64 z) = (L.set i (z, y)).flatMap encP
  | [], i, x, y, z, h => by simp at h
  | (a, b) :: L, 0, x, y, z, h => by
    simp at h
    obtain ⟨rfl, rfl⟩ := h
    rfl
  | q :: L, i + 1, x, y, z, h => by
    rw [List.flatMap_cons, List.set_cons_succ, List.flatMap_cons, ← flat_setW (z := z) (show L[i]? = some (x, y) by simpa using h)]
    show (_ :: _ :: _).set _ _ = _ :: _ :: _
    rw [show (i + 1) * 2 = i * 2 + 1 + 1 by omega, List.set_cons_succ, List.set_cons_succ]
    rfl

set_option maxHeartbeats 2000000 in
theorem anyParts_any (r : Nat) (A : Option Addr) (cap : Nat) (bs : List Int) (p : Nat) (w : World) (h : Rd w r A cap bs p) (hp : p ≤ 1000) :
    Calls Try.prog 47 #[.pointer (some ⟨r, 0, none⟩)] w (Drawn 2 13 encP w r A cap bs p) := by
  have hrlt := h.lt
  have H := hid h
  clear h
  go_enter Try.func47, Try.ntmps47
  go_wp2_with fail
  (with_reducible refine (oneLit r A cap bs p _ 7 [4, 6, 3, 1, 0, 12, 13] _ _ (H.out.alloc _) (by omega) ?_ ?_ rfl (by omega) (by omega)).mono ?_)
  · simp
  · rfl
  rintro e w1 ⟨x, rfl, hx, hr1⟩
  have hx' : ∃ n : Nat, x = n ∧ n ≤ 13 := by
    simp only [List.mem_cons, List.not_mem_nil, or_false] at hx
    exact ⟨x.toNat, by omega, by omega⟩
  obtain ⟨n0, rfl, hn0⟩ := hx'
  have R0 : Aside (PartsRel w r A cap bs p (some ⟨w.heap.size, 0, none⟩) 0 [] n0 w1) :=
    ⟨p + 1, by simpa using hn0, row_far (World.ownsRow_made w #[] 0 (Nat.le_refl _) (by simp [maxLen]) rfl) hr1.gr hrlt, hr1.rd, by simp, grown_trans (World.grownBy_alloc w _ _) hr1.gr⟩
  clear hx hr1
  go_wp2
  go_loopg [3, 4] 13 (fun gg s3 s4 wr => ∃ (n c : Nat) (A' : Option Addr) (L : List (Int × Int)), n ≤ gg ∧ s3 = .slice A' L.length c ∧ s4 = .int .i64 n ∧ Aside (PartsRel w r A cap bs p A' c L n wr))
  case atStart => exact ⟨n0, 0, _, [], hn0, rfl, rfl, R0⟩
  case round =>
    obtain ⟨n, c, A', L, hng, rfl, rfl, R⟩ := hrel
    obtain ⟨p', hln, hown, hrd, hp', hgr⟩ := R.out
    clear R R0
    have RD := hid hrd
    have GR := hid hgr
    have HOWN := hid hown
    clear hrd hgr hown
    by_cases hpos : 0 < n
    · go_wp2_with fail
      (with_reducible refine (oneLit r A cap bs p' _ 5 [30, 50, 10, 0, 120] _ _ RD.out (by omega) ?_ ?_ rfl (by omega) (by omega)).mono ?_)
      · rfl
      · rfl
      rintro e w2 ⟨x, rfl, hx, hr2⟩
      clear hx
      have HR2 := hid hr2
      clear hr2
      go_wp2_with fail
      (with_reducible refine (oneLit r A cap bs (p' + 1) _ 4 [10, 20, 5, 0] _ _ HR2.out.rd (by omega) ?_ ?_ rfl (by omega) (by omega)).mono ?_)
      · rfl
      · rfl
      rintro e w3 ⟨y, rfl, hy, hr3⟩
      clear hy
      have own3 := hid (row_far (row_far HOWN.out HR2.out.gr hrlt) hr3.gr hrlt)
      have HR3 := hid hr3
      have hb3 : w.heap.size ≤ w3.heap.size := Nat.le_trans GR.out.size (Nat.le_trans HR2.out.gr.size hr3.gr.size)
      clear hr3
      go_wp2_with (at_builtin; refine wpList_push eltPart rfl _ _ rfl w.heap.size _ _ _ own3.out (by omega) hb3 _ _ rfl rfl rfl rfl (oc2 x y) ?_)
      intro A2 c2 w4 hown4 hgr4 _
      have R : Aside (PartsRel w r A cap bs p A2 c2 (L ++ [(x, y)]) (n - 1) w4) := by
        refine ⟨p' + 1 + 1, by simp; omega, ?_, HR3.out.rd.kept hgr4 ?_, by simp; omega, ?_⟩
        · rw [List.length_append, List.flatMap_append]; exact hown4
        · intro k hk; have := (own3.out.lt k hk).1; omega
        · exact grown_new (grown_trans (grown_trans GR.out HR2.out.gr) HR3.out.gr) hgr4 (fun g hg => (own3.out.lt g hg).1)
      clear hown4 hgr4
      go_wp2
      go_roundg (n - 1)
      case measure => omega
      case rel => exact ⟨n - 1, c2, A2, L ++ [(x, y)], by omega, by simp, by go_num, R⟩
    · have hn : n = 0 := by omega
      subst hn
      by_cases hl : 0 < L.length
      · go_wp2_with fail
        (with_reducible refine (pick_any r A cap bs p' _ _ RD.out (by omega) (by omega)).mono ?_)
        rintro e w2 ⟨x, rfl, hx, hr2⟩
        clear hx
        have HR2 := hid hr2
        clear hr2
        by_cases hx0 : x = 0
        · subst hx0
          go_wp2_with fail
          (with_reducible refine (pick_any r A cap bs (p' + 1) _ _ HR2.out.rd (by omega) (by omega)).mono ?_)
          rintro e w3 ⟨x, rfl, hx, hr3⟩
          obtain ⟨k, rfl⟩ := Int.eq_ofNat_of_zero_le hx.1
          have hk : k < L.length := by have := hx.2.1 (by omega); omega
          clear hx
          have HR3 := hid hr3
          clear hr3
          go_wp2_with fail
          (with_reducible refine (oneLit r A cap bs (p' + 1 + 1) _ 2 [-1, 10001] _ _ HR3.out.rd (by omega) ?_ ?_ rfl (by omega) (by omega)).mono ?_)
          · rfl
          · rfl
          rintro e w4 ⟨y, rfl, hy, hr4⟩
          clear hy
          have own4 := row_far (row_far (row_far HOWN.out HR2.out.gr hrlt) HR3.out.gr hrlt) hr4.gr hrlt
          have HR4 := hid hr4
          clear hr4
          obtain ⟨g, c', e1, hgb, _⟩ := own4.form hl
          injection e1 with e1 _ e2
          subst e1
          subst e2
          have hx := List.getElem?_eq_getElem hk
          have fc := flat_get (enc := encP) (k := 2) (fun _ => rfl) hx (j := 0) rfl
          have c1 : w4.cell? ⟨g, k * 2, none⟩ = some (.int .i64 L[k].1) := by rw [own4.cellAt _ (by omega)]; simpa using fc
          have f1 : w4.frozen? ⟨g, k * 2, none⟩ = false := own4.frozenAt _
          have own5 := own4.stored (k * 2) (.int .i64 y)
          rw [flat_setW (show L[k]? = some (L[k].1, L[k].2) from hx)] at own5
          have O5 := hid own5
          have O4 := hid own4
          clear own5 own4 fc hx
          go_wp2
          go_ret
          have hlen : (L.set k (y, L[k].2)).length = L.length := by simp
          refine ⟨_, _, L.set k (y, L[k].2), p' + 1 + 1 + 1, by rw [hlen]; rfl, by omega, ?_, (slice_le O4.out).2, OwnA.of_row (c := c) (e := 38) (fun _ => rfl) ?_, HR4.out.rd.kept O5.out.2 ?_, by omega, ?_⟩
          · rw [hlen]; exact (slice_le O4.out).1
          · rw [hlen]; exact O5.out.1
          · intro q hq; injection hq with hq; omega
          · exact grown_new (grown_trans (grown_trans (grown_trans GR.out HR2.out.gr) HR3.out.gr) HR4.out.gr) O5.out.2 (fun q hq => by injection hq with hq; omega)
        · have hx0' : (x == 0) = false := by rw [beq_eq_false_iff_ne]; exact hx0
          have HX := hid hx0
          clear hx0
          go_wp2
          go_ret
          exact ⟨A', c, L, p' + 1, rfl, by omega, (slice_le (row_far HOWN.out HR2.out.gr hrlt)).1, (slice_le (row_far HOWN.out HR2.out.gr hrlt)).2, OwnA.of_row (fun _ => rfl) (row_far HOWN.out HR2.out.gr hrlt), HR2.out.rd, by omega, grown_trans GR.out HR2.out.gr⟩
      · go_wp2
        go_ret
        exact ⟨A', c, L, p', rfl, by omega, (slice_le HOWN.out).1, (slice_le HOWN.out).2, OwnA.of_row (fun _ => rfl) HOWN.out, RD.out, by omega, GR.out⟩
end Go.Proofs.Ytjkcejijdpmhoaa
