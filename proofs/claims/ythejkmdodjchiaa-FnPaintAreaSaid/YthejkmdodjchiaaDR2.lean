/- The generators of two lists of rectangles, and of one. -/
import Derived.Test.YthejkmdodjchiaaDR
namespace Go.Proofs.Ythejkmdodjchiaa
set_option linter.unusedVariables false
set_option linter.unusedSimpArgs false
open Go.RowKit Go.Lib

/-- The loop's relation: two rows, the second made behind the first. -/
def TwoRel (w : World) (r : Nat) (A : Option Addr) (cap : Nat) (bs : List Int) (p k : Nat) (A3 : Option Addr) (n3 c3 : Nat) (a : List RectD) (A4 : Option Addr) (n4 c4 : Nat) (b : List RectD) (wr : World) : Prop :=
  ∃ p', n3 = a.length ∧ n4 = b.length ∧ wr.ownsRow w.heap.size 27 4 (.slice A3 n3 c3) n3 (a.flatMap encRect) ∧ wr.ownsRow w.heap.size 27 4 (.slice A4 n4 c4) n4 (b.flatMap encRect) ∧
    (∀ g g', (Value.slice A3 n3 c3).ownBlock = some g → (Value.slice A4 n4 c4).ownBlock = some g' → g ≠ g') ∧ Rd wr r A cap bs p' ∧ p' ≤ p + 20 * k ∧ w.grownBy wr (some r)

/-- A row of the call's own is kept by a push to another one. -/
theorem row_other {w w' : World} {base : Nat} {e : TypeId} {size n : Nat} {v v2 : Value} {xs : List Value} (h : w.ownsRow base e size v n xs) (hg : w.grownBy w' v2.ownBlock) (hr : ∀ g g', v.ownBlock = some g → v2.ownBlock = some g' → g ≠ g') : w'.ownsRow base e size v n xs := by
  refine h.kept hg ?_
  cases hv : v.ownBlock with
  | none => exact .inl rfl
  | some k =>
    refine .inr ?_
    intro e2
    exact hr k k hv e2.symm rfl

/-- What a push to one of two rows leaves. -/
theorem push_apart {w : World} {base : Nat} {v v2 v3 : Value} {n : Nat} {e : TypeId} {size : Nat} {xs : List Value} (h2 : w.ownsRow base e size v2 n xs) (hat : ∀ q, v3.ownBlock = some q → v.ownBlock = some q ∨ w.heap.size ≤ q) (hr : ∀ g g', v.ownBlock = some g → v2.ownBlock = some g' → g ≠ g') :
    ∀ g g', v3.ownBlock = some g → v2.ownBlock = some g' → g ≠ g' := by
  intro g g' hg hg'
  rcases hat g hg with h | h
  · exact hr g g' h hg'
  · have := (h2.lt g' hg').2
    omega

theorem row_set4 {w : World} {base g : Nat} {v : Value} {n : Nat} {e : TypeId} {size : Nat} {xs : List Value} {v0 v1 v2 v3 : Value} (h : w.ownsRow base e size v n xs) (hne : ∀ q, v.ownBlock = some q → q ≠ g) :
    ((((w.setCell ⟨g, 0, none⟩ v0).setCell ⟨g, 1, none⟩ v1).setCell ⟨g, 2, none⟩ v2).setCell ⟨g, 3, none⟩ v3).ownsRow base e size v n xs := by
  refine h.kept (row := some g) (grown_set (grown_set (grown_set (grown_set (World.grownBy.refl w (some g)) 0 _) 1 _) 2 _) 3 _) ?_
  cases hv : v.ownBlock with
  | none => exact .inl rfl
  | some k =>
    refine .inr ?_
    intro e2
    injection e2 with e2
    exact hne k hv e2
theorem set4_blk {W : World} {g : Nat} {a0 a1 a2 a3 v0 v1 v2 v3 : Value} {e : TypeId} (h : W.heap[g]? = some (.cells #[a0, a1, a2, a3] e (0, 0))) :
    ((((W.setCell ⟨g, 0, none⟩ v0).setCell ⟨g, 1, none⟩ v1).setCell ⟨g, 2, none⟩ v2).setCell ⟨g, 3, none⟩ v3).heap[g]? = some (.cells #[v0, v1, v2, v3] e (0, 0)) := by
  have h1 := heap_setCell_same W g 0 _ e v0 h
  have h2 := heap_setCell_same _ g 1 _ e v1 h1
  have h3 := heap_setCell_same _ g 2 _ e v2 h2
  have h4 := heap_setCell_same _ g 3 _ e v3 h3
  exact h4

/-- What a law's generator of two lists of rectangles leaves. -/
def DrawnRR (w : World) (e : Ending) (w' : World) : Prop :=
  ∃ (A3 : Option Addr) (c3 : Nat) (a : List RectD) (A4 : Option Addr) (c4 : Nat) (b : List RectD), e = .returned (.tuple #[.slice A3 a.length c3, .slice A4 b.length c4]) ∧ a.length ≤ 20 ∧ b.length ≤ 20 ∧ OwnA w' w.heap.size 4 encRect A3 a ∧ OwnA w' w.heap.size 4 encRect A4 b ∧ Below w.heap.size w w'

set_option maxHeartbeats 4000000 in
theorem drawChangedRects_any (A : Option Addr) (cap : Nat) (bs : List Int) (w : World) (h : Code w A cap bs) :
    Calls Try.prog 22 #[.slice A bs.length cap] w (DrawnRR w) := by
  have hc := newReader_any A cap bs w h
  clear h
  go_enter Try.func22, Try.ntmps22
  go_wp2_with fail
  refine hc.mono ?_
  rintro e w1 ⟨rfl, ⟨cap', hrd⟩, hb, hlt⟩
  have HB := hid hb
  have RD := hid hrd
  clear hrd hb hc
  go_wp2_with fail
  (with_reducible refine (oneLit _ A cap' _ 0 _ 6 [4, 3, 6, 1, 0, 16] _ _ ((RD.out.alloc _).alloc _) (by omega) ?_ ?_ rfl (by omega) (by omega)).mono ?_)
  · simp
  · rfl
  rintro e w2 ⟨x, rfl, hx, hr1⟩
  have hx' : ∃ n : Nat, x = n ∧ n ≤ 16 := by
    simp only [List.mem_cons, List.not_mem_nil, or_false] at hx
    exact ⟨x.toNat, by omega, by omega⟩
  obtain ⟨n0, rfl, hn0⟩ := hx'
  have R0 : Aside (TwoRel w1 w.heap.size A cap' (bs.take 2000) 1 0 (some ⟨w1.heap.size, 0, none⟩) 0 0 [] (some ⟨w1.heap.size + 1, 0, none⟩) 0 0 [] w2) := by
    refine ⟨0 + 1, rfl, rfl, ?_, ?_, ?_, hr1.rd, by omega, grown_trans (grown_trans (World.grownBy_alloc w1 _ _) (World.grownBy_alloc _ _ _)) hr1.gr⟩
    · exact row_far ((World.ownsRow_made w1 #[] 0 (Nat.le_refl _) (by simp [maxLen]) rfl).alloc _) hr1.gr hlt
    · have := World.ownsRow_made (e := 27) (size := 4) (base := w1.heap.size) (w1.alloc (.cells #[] 27)) #[] 0 (by simp) (by simp [maxLen]) rfl
      refine row_far ?_ hr1.gr hlt
      simpa using this
    · intro g g' h1 h2
      simp [Value.ownBlock] at h1 h2
      omega
  clear hx hr1
  go_wp2
  go_loopg [5, 6, 7] 16 (fun gg s5 s6 s7 wr => ∃ (k n n3 c3 : Nat) (A3 : Option Addr) (a : List RectD) (n4 c4 : Nat) (A4 : Option Addr) (b : List RectD), n ≤ gg ∧ k + n ≤ 16 ∧ a.length = k ∧ b.length = k ∧ s5 = .slice A3 n3 c3 ∧ s6 = .slice A4 n4 c4 ∧ s7 = .int .i64 n ∧ Aside (TwoRel w1 w.heap.size A cap' (bs.take 2000) 1 k A3 n3 c3 a A4 n4 c4 b wr))
  case atStart => exact ⟨0, n0, _, _, _, [], _, _, _, [], hn0, by omega, rfl, rfl, rfl, rfl, rfl, R0⟩
  case round =>
    obtain ⟨k, n, n3, c3, A3, a, n4, c4, A4, b, hng, hkn, hka, hkb, rfl, rfl, rfl, R⟩ := hrel
    clear R0
    obtain ⟨p', hn3, hn4, own3, own4, hap, hrd, hp', hgr⟩ := R.out
    have HN3 := hid hn3
    have HN4 := hid hn4
    have hn3' : n3 ≤ 20 := by omega
    have hn4' : n4 ≤ 20 := by omega
    have HKA := hid hka
    have HKB := hid hkb
    have RD := hid hrd
    have GR := hid hgr
    have O3 := hid own3
    have O4 := hid own4
    have AP := hid hap
    clear R hrd hgr own3 own4 hap hn3 hn4 hka hkb
    by_cases hpos : 0 < n
    · go_wp2_with fail
      (with_reducible refine (someRect_any _ A cap' _ p' _ RD.out (by omega)).mono ?_)
      rintro e w3 ⟨x, rfl, p3, R3', hp3, G3'⟩
      have O33 := hid (row_far O3.out G3' hlt)
      have O43 := hid (row_far O4.out G3' hlt)
      have G3 := hid (grown_trans GR.out G3')
      have R3 := hid R3'
      have hs3 : w1.heap.size ≤ w3.heap.size := G3.out.size
      clear R3' G3'
      go_wp2_with (at_builtin; refine wpList_push eltRectG rfl (.tmp 22) (.tmp 24) rfl w1.heap.size _ n3 _ (O33.out.alloc _) (by omega) (Nat.le_trans hs3 (by simp)) (w3.heap.size + 1) _ rfl rfl (by simp) rfl (fun q hq => ocRect x q hq) ?_; intro A5 c5 w5 own5 gr5 at5)
      have B5 := hid ((gr5.block w3.heap.size (by simp) (fun e => by have := (O33.out.lt _ e.symm).2; omega)).trans (heap_alloc_new w3 _))
      have O5 := hid own5
      have O45 := hid (row_other (O43.out.alloc _) gr5 (fun g g' h h' => (AP.out g' g h' h).symm))
      have AP5 := hid (push_apart (O43.out.alloc _) at5 AP.out)
      have NB5 : Aside (∀ q, (Value.slice A5 (n3 + 1) c5).ownBlock = some q → q ≠ w3.heap.size) := fun q hq => by
        rcases at5 q hq with h | h
        · have := (O33.out.lt q h).2; omega
        · simp at h; omega
      have NB4 : Aside (∀ q, (Value.slice A4 n4 c4).ownBlock = some q → q < w3.heap.size) := fun q hq => (O43.out.lt q hq).2
      have LB3 : ∀ q, (Value.slice A3 n3 c3).ownBlock = some q → w.heap.size < q := fun q hq => by have := (O33.out.lt q hq).1; omega
      have R5 := hid ((R3.out.alloc _).kept gr5 LB3)
      have G5 := hid (grown_new (grown_trans G3.out (World.grownBy_alloc w3 _ _)) gr5 (fun q hq => (O33.out.lt q hq).1))
      have hz5 : w3.heap.size < w5.heap.size := by have := gr5.size; simp at this; omega
      clear own5 gr5 at5 LB3
      go_wp2_with fail
      (with_reducible refine (pick_any _ A cap' _ p3 _ _ R5.out (by omega) (by omega)).mono ?_)
      rintro e w6 ⟨m, rfl, hm, hr6⟩
      have hm0 : 0 ≤ m := hm.1
      have B6 := hid (block_kept B5.out hr6.gr (by omega))
      have O56 := hid (row_far O5.out hr6.gr hlt)
      have O46 := hid (row_far O45.out hr6.gr hlt)
      have G6 := hid (grown_trans G5.out hr6.gr)
      have R6 := hid hr6.rd
      have hz6 : w3.heap.size < w6.heap.size := by have := hr6.gr.size; omega
      clear hm hr6
      have FIN : ∀ (W W1 : World) (z : RectD) (A7 : Option Addr) (c7 p7 : Nat) , W.ownsRow w1.heap.size 27 4 (.slice A5 (n3 + 1) c5) (n3 + 1) (a.flatMap encRect ++ encRect x) → Rd W w.heap.size A cap' (bs.take 2000) p7 → p7 ≤ p' + 20 → w1.grownBy W (some w.heap.size) → w3.heap.size < W.heap.size →
          W1.ownsRow w1.heap.size 27 4 (.slice A7 (n4 + 1) c7) (n4 + 1) (b.flatMap encRect ++ encRect z) → W.grownBy W1 (Value.slice A4 n4 c4).ownBlock → (∀ q, (Value.slice A7 (n4 + 1) c7).ownBlock = some q → (Value.slice A4 n4 c4).ownBlock = some q ∨ W.heap.size ≤ q) →
          Aside (TwoRel w1 w.heap.size A cap' (bs.take 2000) 1 (k + 1) A5 (n3 + 1) c5 (a ++ [x]) A7 (n4 + 1) c7 (b ++ [z]) W1) := by
        intro W W1 z A7 c7 p7 o5 rd hp7 g hsz o7 gr at7
        have hb4 : ∀ q, (Value.slice A4 n4 c4).ownBlock = some q → w1.heap.size ≤ q := fun q hq => (O43.out.lt q hq).1
        refine ⟨p7, by rw [HN3.out]; simp, by rw [HN4.out]; simp, ?_, ?_, ?_, rd.kept gr (fun q hq => by have := hb4 q hq; omega), by omega, grown_new g gr hb4⟩
        · rw [List.flatMap_append]
          refine row_other (v2 := .slice A4 n4 c4) ?_ gr (fun g g' h h' => AP5.out g g' h h')
          simpa using o5
        · rw [List.flatMap_append]
          simpa using o7
        · intro g g' h h'
          rcases at7 g' h' with h2 | h2
          · exact AP5.out g g' h h2
          · have := (o5.lt g h).2
            omega
      have HFIN := hid FIN
      clear FIN
      by_cases hm1 : m = 0
      · subst hm1
        go_wp2_with fail
        (with_reducible refine (anyRect_any _ A cap' _ (p3 + 1) _ R6.out (by omega)).mono ?_)
        rintro e w7 ⟨y, rfl, p7, R7', hp7, G7'⟩
        have b7 := block_kept B6.out G7' (by omega)
        have B7 := hid b7
        obtain ⟨⟨k1, k2, k3, k4⟩, f1, f2, f3, f4⟩ := cells4 b7
        have O57 := hid (row_set4 (v0 := .int .i64 y.X) (v1 := .int .i64 y.Y) (v2 := .int .i64 y.W) (v3 := .int .i64 y.H) (row_far O56.out G7' hlt) NB5.out)
        have O47 := hid (row_set4 (v0 := .int .i64 y.X) (v1 := .int .i64 y.Y) (v2 := .int .i64 y.W) (v3 := .int .i64 y.H) (g := w3.heap.size) (row_far O46.out G7' hlt) (fun q hq => by have := NB4.out q hq; omega))
        have S7 := hid (set4 (v0 := .int .i64 y.X) (v1 := .int .i64 y.Y) (v2 := .int .i64 y.W) (v3 := .int .i64 y.H) R7' (grown_trans G6.out G7') hs3 (Nat.lt_of_lt_of_le hlt hs3))
        have hz7 : w3.heap.size < w7.heap.size := by have := G7'.size; omega
        clear G7' R7' b7
        go_wp2_with (at_builtin; refine wpList_push eltRectG rfl (.tmp 31) (.tmp 33) rfl w1.heap.size _ n4 _ O47.out (by omega) (by simp [World.setCell]; omega) w7.heap.size _ rfl rfl (by simp [World.setCell]) rfl (fun q hq => ocRect y q hq) ?_; intro A9 c9 w9 own9 gr9 at9)
        have F := HFIN.out _ _ y A9 c9 p7 O57.out S7.out.1 (by omega) S7.out.2 (by simp [World.setCell]; omega) own9 gr9 at9
        clear own9 gr9 at9
        go_wp2
        go_roundg (n - 1)
        case measure => omega
        case rel => exact ⟨k + 1, n - 1, n3 + 1, c5, A5, a ++ [x], n4 + 1, c9, A9, b ++ [y], by omega, by omega, by simp [HKA.out], by simp [HKB.out], rfl, rfl, by go_num, F⟩
      · have hm1' : (m == 0) = false := by rw [beq_eq_false_iff_ne]; exact hm1
        have HM1 := hid hm1
        obtain ⟨⟨k1, k2, k3, k4⟩, f1, f2, f3, f4⟩ := cells4 B6.out
        clear hm1
        go_wp2_with (at_builtin; refine wpList_push eltRectG rfl (.tmp 31) (.tmp 33) rfl w1.heap.size _ n4 _ O46.out (by omega) (Nat.le_of_lt (by omega)) w6.heap.size _ rfl rfl rfl rfl (fun q hq => ocRect x q hq) ?_; intro A9 c9 w9 own9 gr9 at9)
        have F := HFIN.out _ _ x A9 c9 (p3 + 1) O56.out R6.out (by omega) G6.out hz6 own9 gr9 at9
        clear own9 gr9 at9
        go_wp2
        go_roundg (n - 1)
        case measure => omega
        case rel => exact ⟨k + 1, n - 1, n3 + 1, c5, A5, a ++ [x], n4 + 1, c9, A9, b ++ [x], by omega, by omega, by simp [HKA.out], by simp [HKB.out], rfl, rfl, by go_num, F⟩
    · have hn0 : n = 0 := by omega
      subst hn0
      go_wp2_with fail
      (with_reducible refine (pick_any _ A cap' _ p' _ _ RD.out (by omega) (by omega)).mono ?_)
      rintro e w3 ⟨m, rfl, hm, hr3⟩
      have hm0 : 0 ≤ m := hm.1
      have O33 := hid (row_far O3.out hr3.gr hlt)
      have O43 := hid (row_far O4.out hr3.gr hlt)
      have G3 := hid (grown_trans GR.out hr3.gr)
      have R3 := hid hr3.rd
      have hs3 : w1.heap.size ≤ w3.heap.size := G3.out.size
      clear hm hr3
      have FIN : ∀ (W : World) (b' : List RectD) (A7 : Option Addr) (n7 c7 : Nat), n7 = b'.length → b'.length ≤ 20 → W.ownsRow w1.heap.size 27 4 (.slice A3 n3 c3) n3 (a.flatMap encRect) → W.ownsRow w1.heap.size 27 4 (.slice A7 n7 c7) n7 (b'.flatMap encRect) → w1.grownBy W (some w.heap.size) → DrawnRR w (.returned (.tuple #[.slice A3 n3 c3, .slice A7 n7 c7])) W := by
        intro W b' A7 n7 c7 hn7 hb7 o3 o7 g
        refine ⟨A3, c3, a, A7, c7, b', by rw [← HN3.out, ← hn7], by have := HKA.out; omega, hb7, ?_, ?_, below_of_grown HB.out g HB.out.size (Nat.le_refl _)⟩
        · exact (OwnA.of_rowN (enc := encRect) (k := 4) (fun _ => rfl) HN3.out rfl o3).less HB.out.size
        · exact (OwnA.of_rowN (enc := encRect) (k := 4) (fun _ => rfl) hn7 rfl o7).less HB.out.size
      have HFIN := hid FIN
      clear FIN
      by_cases hm1 : m = 0
      · subst hm1
        go_wp2_with fail
        (with_reducible refine (anyRect_any _ A cap' _ (p' + 1) _ R3.out (by omega)).mono ?_)
        rintro e w4 ⟨y, rfl, p4, R4', hp4, G4'⟩
        have O34 := hid (row_far O33.out G4' hlt)
        have O44 := hid (row_far O43.out G4' hlt)
        have G4 := hid (grown_trans G3.out G4')
        have hs4 : w1.heap.size ≤ w4.heap.size := G4.out.size
        clear G4' R4'
        go_wp2_with (at_builtin; refine wpList_push eltRectG rfl (.tmp 38) (.tmp 41) rfl w1.heap.size _ n4 _ O44.out (by omega) hs4 w4.heap.size _ rfl rfl rfl rfl (fun q hq => ocRect y q hq) ?_; intro A9 c9 w9 own9 gr9 at9)
        have F := HFIN.out w9 (b ++ [y]) A9 (n4 + 1) c9 (by rw [HN4.out]; simp) (by have := HKB.out; simp; omega) (row_other O34.out gr9 AP.out) (by rw [List.flatMap_append, show [y].flatMap encRect = encRect y from by simp]; exact own9) (grown_new G4.out gr9 (fun q hq => (O44.out.lt q hq).1))
        have HF := hid F
        clear own9 gr9 at9 F
        go_wp2
        go_ret2
        exact HF.out
      · have hm1' : (m == 0) = false := by rw [beq_eq_false_iff_ne]; exact hm1
        have HM1 := hid hm1
        have HF := hid (HFIN.out w3 b A4 n4 c4 HN4.out (by have := HKB.out; omega) O33.out O43.out G3.out)
        clear hm1
        go_wp2
        go_ret2
        exact HF.out
end Go.Proofs.Ythejkmdodjchiaa
